import Derived.MapKept
import Derived.Test.YtpmebahhjgkflaaGreatDoorB6
-- printed by wip/cf/cfprint.py
namespace Go.Proofs.YtpmebahhjgkflaaGreatDoor
open Go CF
set_option linter.unusedVariables false
set_option maxRecDepth 100000
end Go.Proofs.YtpmebahhjgkflaaGreatDoor

-- printed by wip/cf/cfprint.py
namespace Go.Proofs.YtpmebahhjgkflaaGreatDoor
open Go CF
set_option linter.unusedVariables false
set_option maxRecDepth 100000
/-- pallet/world.name -/
def Fworld_name (s : ByteArray) (w : World) (R : Bool → World → Prop) : Prop :=
  R ((decide ((s.size : Int) ≥ 1)) && (decide ((s.size : Int) ≤ 32))) w
theorem Fworld_name.calls (s : ByteArray) (w : World) (R : Bool → World → Prop) (h : Fworld_name s w R) : Cworld_name s w R :=
  calls_of_vc (anOp_ok callable) wide Tryz.func262 [] [.b] [.string s] w R (Eq.mp (show Fworld_name s w R = vcF Tryz.prog G Tryz.f262 [] [.b] [.string s] w R by kernel_rfl) h)
/-- (*pallet/world.World).call -/
def Fworld_World_call (w_ : Option Addr) (w : World) (R : Int → World → Prop) : Prop :=
  w_.isSome = true ∧ ∃ b : Bool, w.cell? ((gA w_).add 6) = some (.bool b) ∧ Br b (R 7 w) (w_.isSome = true ∧ ∃ n : Int, w.cell? ((gA w_).add 3) = some (.int .i64 n) ∧ w_.isSome = true ∧ ∃ n1 : Int, w.cell? ((gA w_).add 3) = some (.int .i64 n1) ∧ w_.isSome = true ∧ Put ((gA w_).add 3) (.int .i64 (IntKind.wrap .i64 (n1 + 1))) w fun w0 => w_.isSome = true ∧ ∃ n2 : Int, w0.cell? ((gA w_).add 5) = some (.int .i64 n2) ∧ Br (n == n2) (w_.isSome = true ∧ Put ((gA w_).add 6) (.bool true) w0 fun w01 => R 7 w01) (w_.isSome = true ∧ ∃ m : Option Nat, w0.cell? ((gA w_).add 4) = some (.map m) ∧ ∃ b1 : Bool, (Instr.lookup 108 (.map m) (.int .i64 n) false).run Tryz.prog w0 = .ok (.bool b1) w0 ∧ Br b1 (R 6 w0) (R 0 w0)))
theorem Fworld_World_call.calls (w_ : Option Addr) (w : World) (R : Int → World → Prop) (h : Fworld_World_call w_ w R) : Cworld_World_call w_ w R :=
  calls_of_vc (anOp_ok callable) wide Tryz.func263 [] [.i .i64] [.pointer w_] w R (Eq.mp (show Fworld_World_call w_ w R = vcF Tryz.prog G Tryz.f263 [] [.i .i64] [.pointer w_] w R by kernel_rfl) h)
/-- pallet/crc.C32 -/
def Fcrc_C32 (p : Sl) (w : World) (R : Int → World → Prop) : Prop :=
  Ccrc_Add32 0 p w fun n w0 => R n w0
theorem Fcrc_C32.calls (p : Sl) (w : World) (R : Int → World → Prop) (h : Fcrc_C32 p w R) : Ccrc_C32 p w R :=
  calls_of_vc (anOp_ok callable) wide Tryz.func264 [] [.i .u32] [.slice p.A p.n p.c] w R (Eq.mp (show Fcrc_C32 p w R = vcF Tryz.prog G Tryz.f264 [] [.i .u32] [.slice p.A p.n p.c] w R by kernel_rfl) h)
/-- pallet/crc.Add32 -/
def Fcrc_Add32 (sum : Int) (p : Sl) (w : World) (R : Int → World → Prop) : Prop :=
  ∃ (I : Int → Int → World → Prop) (μ : Int → Int → World → Nat), I (bNot .u32 sum) 0 w ∧ ∀ (sum1 : Int) (x : Int) (w0 : World), I sum1 x w0 → Br (decide (x < (p.n : Int))) ((0 ≤ x ∧ x < (p.n : Int) ∧ p.A.isSome = true) ∧ ∃ n : Int, w0.cell? ((gA p.A).add (x.toNat * 1)) = some (.int .u8 n) ∧ ∃ (I1 : Int → Int → World → Prop) (μ1 : Int → Int → World → Nat), I1 (bXor .u32 sum1 (IntKind.wrap .u32 n)) 0 w0 ∧ ∀ (sum2 : Int) (x1 : Int) (w01 : World), I1 sum2 x1 w01 → Br (decide (x1 < 8)) (letX (fun (sum3 : Int) (w02 : World) => I1 sum3 (IntKind.wrap .i64 (x1 + 1)) w02 ∧ μ1 sum3 (IntKind.wrap .i64 (x1 + 1)) w02 < μ1 sum2 x1 w01) fun J_ => Br ((bAnd .u32 sum2 1) == 1) (J_ (bXor .u32 (bShr .u32 sum2 1) 2197175160) w01) (J_ (bShr .u32 sum2 1) w01)) (I sum2 (IntKind.wrap .i64 (x + 1)) w01 ∧ μ sum2 (IntKind.wrap .i64 (x + 1)) w01 < μ sum1 x w0)) (R (bNot .u32 sum1) w0)
theorem Fcrc_Add32.calls (sum : Int) (p : Sl) (w : World) (R : Int → World → Prop) (h : Fcrc_Add32 sum p w R) : Ccrc_Add32 sum p w R :=
  calls_of_vc (anOp_ok callable) wide Tryz.func296 [(9, ⟨[(0, .i .u32), (12, .i .i64)], [10, 11]⟩), (21, ⟨[(0, .i .u32), (20, .i .i64)], [10, 11, 12]⟩), (11, ⟨[(0, .i .u32)], [10, 11, 12, 20]⟩)] [.i .u32] [.int .u32 sum, .slice p.A p.n p.c] w R (Eq.mp (show Fcrc_Add32 sum p w R = vcF Tryz.prog G Tryz.f296 [(9, ⟨[(0, .i .u32), (12, .i .i64)], [10, 11]⟩), (21, ⟨[(0, .i .u32), (20, .i .i64)], [10, 11, 12]⟩), (11, ⟨[(0, .i .u32)], [10, 11, 12, 20]⟩)] [.i .u32] [.int .u32 sum, .slice p.A p.n p.c] w R by kernel_rfl) h)
end Go.Proofs.YtpmebahhjgkflaaGreatDoor

-- printed by wip/cf/cfprint.py
namespace Go.Proofs.YtpmebahhjgkflaaGreatDoor
open Go CF
set_option linter.unusedVariables false
set_option maxRecDepth 100000
end Go.Proofs.YtpmebahhjgkflaaGreatDoor

/- Layer 3: files in a map, and a change applied to them. -/
namespace Go.Proofs.YtpmebahhjgkflaaGreatDoor
open Go CF
set_option maxRecDepth 100000

abbrev Files := ByteArray → Option L8
def wr (f : L8) (o : Nat) (p : L8) : L8 :=
  (f ++ List.replicate (o + p.length - f.length) 0).take o ++ p ++ (f ++ List.replicate (o + p.length - f.length) 0).drop (o + p.length)
theorem mn_nat (a b : Nat) : mn (a : Int) (b : Int) = ((min a b : Nat) : Int) := by
  unfold mn; split <;> omega
/-- a file's bytes, as they lie in the map -/
def FileAt (w : World) (v : Option Value) : Option L8 → Prop
  | none => v = none
  | some l => ∃ s : Sl, v = some (.slice s.A s.n s.c) ∧ Own w 0 t_uint8 1 s (bv l) ∧ l.length ≤ 1048576
def IsF (w : World) (mb : Nat) (F : Files) : Prop := ∃ m, SMap w mb m ∧ ∀ s, FileAt w (m s) (F s)
theorem own_heap {w : World} {base : Nat} {e : TypeId} {z : Nat} {s : Sl} {vs : List Value} (h : Own w base e z s vs) {g : Nat} (hg : s.blk = some g) : ∃ cur, w.heap[g]? = some (.cells cur e (0, 0)) := by
  rcases h.2 with ⟨h2, _⟩ | ⟨g', cap, cur, hv, _, hh, _⟩
  · injection h2 with hA; simp [Sl.blk, hA] at hg
  · injection hv with hA
    simp [Sl.blk, hA] at hg
    subst hg
    exact ⟨cur, hh⟩
/-- these blocks hold no bytes -/
def NoBytes (w : World) (S : Nat → Prop) : Prop := ∀ g cur, w.heap[g]? = some (.cells cur t_uint8 (0, 0)) → ¬ S g
theorem FileAt.keep {S : Nat → Prop} {w w' : World} {v : Option Value} {l : Option L8} (h : FileAt w v l) (k : Keep S w w') (hn : NoBytes w S) : FileAt w' v l := by
  cases l with
  | none => exact h
  | some l =>
    obtain ⟨s, h1, h2, h3⟩ := h
    refine ⟨s, h1, h2.keep k fun b hb => ?_, h3⟩
    obtain ⟨cur, hc⟩ := own_heap h2 hb
    exact hn b cur hc
theorem IsF.keep {S : Nat → Prop} {w w' : World} {mb : Nat} {F : Files} (h : IsF w mb F) (k : Keep S w w') (hm : ¬ S mb) (hn : NoBytes w S) : IsF w' mb F := by
  obtain ⟨m, h1, h2⟩ := h
  exact ⟨m, h1.keep k hm, fun s => (h2 s).keep k hn⟩
theorem nobytes_none (w : World) : NoBytes w fun _ => False := fun _ _ _ q => q
theorem IsF.grow {w w' : World} {mb : Nat} {F : Files} (h : IsF w mb F) (k : Grow w w') : IsF w' mb F := h.keep k (fun q => q) (nobytes_none w)
theorem isF_new (w : World) : IsF (w.alloc (.map #[] 0)) w.heap.size fun _ => none := ⟨_, smap_new w, fun _ => rfl⟩
theorem isF_map {w : World} {mb : Nat} {F : Files} (h : IsF w mb F) (cur : Array Value) (t : TypeId) (fr : Nat × Nat) : w.heap[mb]? ≠ some (.cells cur t fr) := by
  obtain ⟨m, ⟨es, c, hb, _⟩, _⟩ := h
  rw [hb]; intro q; cases q
theorem zero_rule {P : Program} {w : World} {e : TypeId} {zv : Value} {z bytes : Nat} (hinfo : (P.info? e).map (fun i => (i.zero, i.size, i.bytes)) = some (some zv, z, bytes)) : (zeroValue e).run P w = .ok zv w := by
  obtain ⟨i, hi, hzz⟩ := Option.map_eq_some_iff.1 hinfo
  simp only [Prod.mk.injEq] at hzz
  simp [zeroValue, typeInfo, hi, hzz.1]
theorem file_look {w : World} {mb : Nat} {F : Files} (h : IsF w mb F) (s : ByteArray) :
    ∃ r : Sl × Bool, (Instr.lookup t_map_string_sl_uint8 (.map (some mb)) (.string s) true).run Tryz.prog w = .ok (.tuple #[.slice r.1.A r.1.n r.1.c, .bool r.2]) w ∧
      (Instr.lookup t_map_string_sl_uint8 (.map (some mb)) (.string s) false).run Tryz.prog w = .ok (.slice r.1.A r.1.n r.1.c) w ∧ Own w 0 t_uint8 1 r.1 (bv ((F s).getD [])) ∧ r.2 = (F s).isSome ∧ ((F s).getD []).length ≤ 1048576 := by
  obtain ⟨m, hm, hf⟩ := h
  obtain ⟨l1, l2⟩ := look_rule u_map_string_sl_uint8 u_string (zero_rule i_sl_uint8) hm s
  have hs := hf s
  cases hF : F s with
  | none =>
    rw [hF] at hs
    have hs : m s = none := hs
    rw [hs] at l1 l2
    exact ⟨(⟨none, 0, 0⟩, false), l1, l2, own_nil _ _ _ _, rfl, by simp⟩
  | some l =>
    rw [hF] at hs
    obtain ⟨sl, h1, h2, h3⟩ := hs
    rw [h1] at l1 l2
    exact ⟨(sl, true), l1, l2, h2, rfl, h3⟩
end Go.Proofs.YtpmebahhjgkflaaGreatDoor

/- Rules of maps with ints for keys (CfP turned). -/
namespace Go.Proofs.YtpmebahhjgkflaaGreatDoor.CF
open Go Go.RowKit
set_option maxRecDepth 100000

/-- all keys are strings -/
def IKeys (es : List MapEntry) : Prop := ∀ e ∈ es, ∃ s, e.key = .int .i64 s
def iidx : List MapEntry → Int → Nat → Option (Nat × Value)
  | [], _, _ => none
  | e :: r, s, i => match e.key with
    | .int .i64 t => if s = t then some (i, e.val) else iidx r s (i + 1)
    | _ => iidx r s (i + 1)
def iget (es : List MapEntry) (s : Int) : Option Value := (iidx es s 0).map (·.2)
theorem findNow_int {s : Int} : ∀ {es : List MapEntry} (i : Nat), IKeys es → Instr.findNow (.int .i64) (.int .i64 s) es i = some (iidx es s i)
  | [], _, _ => rfl
  | e :: r, i, h => by
    obtain ⟨t, ht⟩ := h e (by simp)
    have ih := findNow_int (s := s) (i + 1) (fun x hx => h x (by simp [hx]) : IKeys r)
    unfold Instr.findNow iidx
    rw [ht]
    simp only [Instr.sameNow]
    by_cases e : s = t
    · have : (s == t) = true := beq_iff_eq.2 e
      simp only [if_true, this]
      simp only [if_pos e]
    · have : (s == t) = false := Bool.eq_false_iff.2 fun q => e (beq_iff_eq.1 q)
      simp only [if_true, this]
      simp only [if_neg e]
      exact ih
/-- a map that holds these values -/
def IMap (w : World) (b : Nat) (m : Int → Option Value) : Prop :=
  ∃ es clock, w.heap[b]? = some (.map es clock) ∧ IKeys es.toList ∧ ∀ s, iget es.toList s = m s
theorem IMap.keep {S : Nat → Prop} {w w' : World} {b : Nat} {m : Int → Option Value} (h : IMap w b m) (k : Keep S w w') (hn : ¬ S b) : IMap w' b m := by
  obtain ⟨es, c, h1, h2⟩ := h
  exact ⟨es, c, k.heap h1 hn, h2⟩
section
variable {P : Program} {w : World} {b : Nat} {m : Int → Option Value} {t k e : TypeId}
theorem irun_getMap {es : Array MapEntry} {clock : Nat} (h : w.heap[b]? = some (.map es clock)) : (getObj b).run P w = .ok (.map es clock) w := by
  simp [getObj, Sem.run, h]
theorem checkKey_i (ek : Bool) (n : Nat) (hk : P.underlying k = some (.int .i64)) (s : Int) : (Instr.checkKey ek (n + 1) k (.int .i64 s)).run P w = .ok () w := by
  unfold Instr.checkKey
  simp [run_underlying hk]
theorem findKey_int {es : List MapEntry} (hk : P.underlying k = some (.int .i64)) (hs : IKeys es) (s : Int) : (Instr.findKey k (.int .i64 s) es).run P w = .ok (iidx es s 0) w := by
  unfold Instr.findKey
  simp [run_underlying hk, findNow_int 0 hs]
theorem ilook_rule (ht : P.underlying t = some (.map k e)) (hk : P.underlying k = some (.int .i64)) {zv : Value} (hz : (zeroValue e).run P w = .ok zv w) (h : IMap w b m) (s : Int) :
    (Instr.lookup t (.map (some b)) (.int .i64 s) true).run P w = .ok (.tuple #[(m s).getD zv, .bool (m s).isSome]) w ∧
    (Instr.lookup t (.map (some b)) (.int .i64 s) false).run P w = .ok ((m s).getD zv) w := by
  obtain ⟨es, c, hb, hs, hm⟩ := h
  have := hm s
  unfold iget at this
  unfold Instr.lookup
  constructor
  · cases hi : iidx es.toList s 0 with
    | none =>
      rw [hi] at this
      simp only [Option.map_none] at this
      rw [← this]
      simp [run_underlying ht, irun_getMap hb, checkKey_i _ _ hk, findKey_int hk hs, hi, hz]
    | some p =>
      rw [hi] at this
      simp only [Option.map_some] at this
      rw [← this]
      simp [run_underlying ht, irun_getMap hb, checkKey_i _ _ hk, findKey_int hk hs, hi]
  · cases hi : iidx es.toList s 0 with
    | none =>
      rw [hi] at this
      simp only [Option.map_none] at this
      rw [← this]
      simp [run_underlying ht, irun_getMap hb, checkKey_i _ _ hk, findKey_int hk hs, hi, hz]
    | some p =>
      rw [hi] at this
      simp only [Option.map_some] at this
      rw [← this]
      simp [run_underlying ht, irun_getMap hb, checkKey_i _ _ hk, findKey_int hk hs, hi]
end
end Go.Proofs.YtpmebahhjgkflaaGreatDoor.CF
