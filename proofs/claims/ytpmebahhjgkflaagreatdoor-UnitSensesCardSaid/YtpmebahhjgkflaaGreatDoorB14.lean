import Derived.Test.YtpmebahhjgkflaaGreatDoorB13
/- Layer 16: what a unit keeps, as a function: save. -/
namespace Go.Proofs.YtpmebahhjgkflaaGreatDoor
open Go CF
set_option maxRecDepth 100000
/-- pages as a byte, and back -/
def valP (v : Vals) (j : Nat) : Nat := (if v.wce = true ∧ 0 < j then 1 else 0) + (if v.ds = true ∧ 1 < j then 2 else 0) + (if v.swp = true ∧ 2 < j then 4 else 0)
def valB (v : Vals) : Nat := valP v 3
def valsOf (n : Nat) : Vals := ⟨decide (n % 2 = 1), decide (n / 2 % 2 = 1), decide (n / 4 % 2 = 1)⟩
/-- what a unit keeps -/
def payL (s : USt) : L8 := UInt8.ofNat (valB s.saved) :: saveT s.tab
/-- it is kept: did it go well? -/
def saveU (F : Int → Bool) (s : USt) (st : Wst) : Bool × USt × Wst :=
  (decide ((slSaveX F st s.keepf ⟨s.sure, s.at_, s.gen⟩ (payL s)).1 = 0),
   { s with sure := (slSaveX F st s.keepf ⟨s.sure, s.at_, s.gen⟩ (payL s)).2.1.sure, at_ := (slSaveX F st s.keepf ⟨s.sure, s.at_, s.gen⟩ (payL s)).2.1.at_, gen := (slSaveX F st s.keepf ⟨s.sure, s.at_, s.gen⟩ (payL s)).2.1.gen },
   (slSaveX F st s.keepf ⟨s.sure, s.at_, s.gen⟩ (payL s)).2.2)
/-- a world behind some calls on a keeper's files -/
structure Near (st st' : Wst) (file : ByteArray) (k : Nat) : Prop where
  ops : st'.ops ≤ st.ops + k
  waits : st'.waits.length ≤ st.waits.length + k
  ok : Wok st → Wok st'
  seen : ∀ f, (∀ i, i < 2 → f ≠ nmS file i) → st'.seen f = st.seen f
theorem Near.refl (st : Wst) (file : ByteArray) : Near st st file 0 := ⟨Nat.le_refl _, Nat.le_refl _, id, fun _ _ => rfl⟩
theorem Near.trans {a b c : Wst} {file : ByteArray} {j k : Nat} (h : Near a b file j) (g : Near b c file k) : Near a c file (j + k) := ⟨by have := h.ops; have := g.ops; omega, by have := h.waits; have := g.waits; omega, fun q => g.ok (h.ok q), fun f hf => (g.seen f hf).trans (h.seen f hf)⟩
theorem Near.le {a b : Wst} {file : ByteArray} {j k : Nat} (h : Near a b file j) (hk : j ≤ k) : Near a b file k := ⟨by have := h.ops; omega, by have := h.waits; omega, h.ok, h.seen⟩
theorem near_more (st : Wst) (file : ByteArray) (k : Nat) : Near st (more st k) file k := ⟨Nat.le_refl _, by show st.waits.length ≤ _; omega, id, fun _ _ => rfl⟩
theorem ffail_le {F : Int → Bool} {b n k : Nat} (h : ffail F b n = some k) : k < n := by
  unfold ffail at h
  have := List.mem_of_find?_eq_some h
  exact List.mem_range.1 this
theorem near_load {F : Int → Bool} {st : Wst} {file : ByteArray} {x : SlX} : Near st (slLoadX F st file x).2.2.2.2 file 2 := by
  unfold slLoadX
  cases h : ffail F st.ops 2 with
  | some k => exact (near_more st file (k + 1)).le (by have := ffail_le h; omega)
  | none => exact near_more st file 2
theorem SOk.near {st st' : Wst} {us : List (UA × USt)} {m k : Nat} {file : ByteArray} (h : SOk st us m) (n : Near st st' file k) : SOk st' us (m + k) := by
  refine ⟨n.ok h.wok, ⟨by have := n.ops; have := h.few; omega, by have := n.waits; have := h.few; omega⟩, fun x hx => ?_⟩
  have ok := h.units x hx
  obtain ⟨b, _, _, e, _⟩ := ok.name
  refine ok.same ?_ rfl rfl rfl rfl rfl rfl
  have : cont st' x.2.file = cont st x.2.file := cont_seen (n.seen _ fun i hi q => by rw [e] at q; exact nmS_ne_file hi q.symm)
  rw [this]; exact ok.good
section
variable {w u v w3 : World} {S D D' : Nat → Prop} {pw i m n ab : Nat} {a : UA} {s : USt} {st st' : Wst} {F F' : Int → Bool} {ℓ ℓ' ℓ1 : Nat → Option Nat} {us : List (UA × USt)}
end
end Go.Proofs.YtpmebahhjgkflaaGreatDoor

/- Layer 16: MODE SELECT, as a function. -/
namespace Go.Proofs.YtpmebahhjgkflaaGreatDoor
open Go CF
set_option maxRecDepth 100000
/-- the pages are laid -/
def pagU (s : USt) (n' s' : Vals) : USt := { s with now := n', saved := s', cache := n'.wce }
/-- all but one are told -/
def tellU (s : USt) (n code : Nat) : USt := { s with q := fun j => if (j : Int) ≠ (n : Int) ∧ j < 8 then addA (s.q j) code else s.q j }
/-- kept, if that is asked for -/
def keepX (F : Int → Bool) (b : Bool) (s : USt) (st : Wst) : RunX := if b = true then ⟨if (saveU F s st).1 = true then okX [] else snX wfS, (saveU F s st).2.1, (saveU F s st).2.2⟩ else ⟨okX [], s, st⟩
def selX (F : Int → Bool) (s : USt) (st : Wst) (n : Nat) (c : Cm) (l : L8) : RunX :=
  if (l.length : Int) ≠ c.alloc then ⟨snX (badS 0x1a00), s, st⟩
  else match mselX s.now s.saved c l with
    | .error e => ⟨snX e, s, st⟩
    | .ok (b, n', s') => keepX F (c.save && decide (l ≠ [])) (if b = true then tellU (pagU s n' s') n 10753 else pagU s n' s') st
section
variable {w u v z w3 : World} {S D D' : Nat → Prop} {pw i m n ab cb : Nat} {a : UA} {s : USt} {st st' : Wst} {F F' : Int → Bool} {ℓ ℓ' ℓ1 ℓ2 : Nat → Option Nat} {us : List (UA × USt)} {X : RunX} {R : Array Value → World → Prop} {out : Sl} {l : L8} {c : Cm}
end
end Go.Proofs.YtpmebahhjgkflaaGreatDoor

/- Layer 16: PERSISTENT RESERVE OUT, as a function. -/
namespace Go.Proofs.YtpmebahhjgkflaaGreatDoor
open Go CF
set_option maxRecDepth 100000
def maskO : L8 := List.replicate 16 255 ++ [0, 0, 0, 0, 1]
def outS (c : Cm) (l : L8) : OutS := ⟨c.service, c.type, num ((l.drop 0).take 8), num ((l.drop 8).take 8), decide ((l.getD 20 0).toNat = 1)⟩
/-- events are told -/
def evQ (q : Nat → List Nat) : List Ev → Nat → List Nat
  | [] => q
  | e :: r => evQ (fun t => if t = e.1 then addA (q e.1) e.2 else q t) r
def outX (F : Int → Bool) (s : USt) (st : Wst) (n : Nat) (c : Cm) (l : L8) : RunX :=
  if c.alloc ≠ 24 ∨ l.length ≠ 24 then ⟨snX (badS 0x1a00), s, st⟩
  else match oddX l maskO 0 with
    | some (j, b) => ⟨snX ⟨5, 0x2600, 0, false, (j : Int), (b : Int), true, false⟩, s, st⟩
    | none => if (prdoT s.tab n (outS c l)).st ≠ 0 then ⟨⟨(prdoT s.tab n (outS c l)).st, if (prdoT s.tab n (outS c l)).st = 2 then ⟨5, (prdoT s.tab n (outS c l)).code, 0, false, 0, 0, false, false⟩ else sn0, []⟩, { s with tab := (prdoT s.tab n (outS c l)).t }, st⟩
      else keepX F (s.tab.lasts || (prdoT s.tab n (outS c l)).t.lasts) { s with tab := (prdoT s.tab n (outS c l)).t, q := evQ s.q (prdoT s.tab n (outS c l)).ev } st
section
variable {w u v z w3 : World} {S D D' : Nat → Prop} {pw i m n ab cb : Nat} {a : UA} {s : USt} {st st' : Wst} {F F' : Int → Bool} {ℓ ℓ' ℓ1 ℓ2 : Nat → Option Nat} {us : List (UA × USt)} {X : RunX} {R : Array Value → World → Prop} {out : Sl} {l : L8} {c : Cm}
end
end Go.Proofs.YtpmebahhjgkflaaGreatDoor

/- Layer 16: what was kept is read, as a function: load and Start. -/
namespace Go.Proofs.YtpmebahhjgkflaaGreatDoor
open Go CF
set_option maxRecDepth 100000
/-- told that the power came on; what was read of the keeper's files -/
def loadW (F : Int → Bool) (s : USt) (st : Wst) : USt :=
  { s with q := onQ s.q, sure := (slLoadX F st s.keepf ⟨s.sure, s.at_, s.gen⟩).2.2.2.1.sure, at_ := (slLoadX F st s.keepf ⟨s.sure, s.at_, s.gen⟩).2.2.2.1.at_, gen := (slLoadX F st s.keepf ⟨s.sure, s.at_, s.gen⟩).2.2.2.1.gen }
/-- the error's number, and the unit -/
def loadB (s1 : USt) (e : Nat) (l : L8) : Nat × USt :=
  if e = 8 then (0, s1) else if e ≠ 0 then (e, s1)
  else if l = [] ∨ 7 < (l.getD 0 0).toNat then (3, s1)
  else match loadT (l.drop 1) with
    | none => (3, s1)
    | some t => (0, { s1 with tab := t, now := valsOf (l.getD 0 0).toNat, saved := valsOf (l.getD 0 0).toNat, cache := (valsOf (l.getD 0 0).toNat).wce })
def loadU (F : Int → Bool) (s : USt) (st : Wst) : Nat × USt × Wst :=
  ((loadB (loadW F s st) (slLoadX F st s.keepf ⟨s.sure, s.at_, s.gen⟩).1 (slLoadX F st s.keepf ⟨s.sure, s.at_, s.gen⟩).2.1).1,
   (loadB (loadW F s st) (slLoadX F st s.keepf ⟨s.sure, s.at_, s.gen⟩).1 (slLoadX F st s.keepf ⟨s.sure, s.at_, s.gen⟩).2.1).2,
   (slLoadX F st s.keepf ⟨s.sure, s.at_, s.gen⟩).2.2.2.2)
def startU (F : Int → Bool) (s : USt) (st : Wst) : Nat × USt × Wst :=
  if s.on = 1 then (s.fault, s, st) else ((loadU F s st).1, { (loadU F s st).2.1 with on := 1, lock := 0, fault := (loadU F s st).1 }, (loadU F s st).2.2)
/-- a unit that lies where it lay, but for table and pages -/
structure UA.like (a a' : UA) : Prop where
  ub : a'.ub = a.ub
  dv : a'.dv = a.dv
  ps : a'.ps = a.ps
  sl : a'.sl = a.sl
  qb : a'.qb = a.qb
theorem UA.like.refl (a : UA) : a.like a := ⟨rfl, rfl, rfl, rfl, rfl⟩
/-- a unit keeps what it is -/
structure USt.same (s s' : USt) : Prop where
  inf : s'.inf = s.inf
  file : s'.file = s.file
  keepf : s'.keepf = s.keepf
  n : s'.n = s.n
  peers : s'.peers = s.peers
  count : s'.count = s.count
theorem loadB_same {s1 : USt} {e : Nat} {l : L8} : s1.same (loadB s1 e l).2 ∧ (loadB s1 e l).2.on = s1.on ∧ (loadB s1 e l).2.lock = s1.lock ∧ (loadB s1 e l).2.fault = s1.fault := by
  unfold loadB
  split
  · exact ⟨⟨rfl, rfl, rfl, rfl, rfl, rfl⟩, rfl, rfl, rfl⟩
  split
  · exact ⟨⟨rfl, rfl, rfl, rfl, rfl, rfl⟩, rfl, rfl, rfl⟩
  split
  · exact ⟨⟨rfl, rfl, rfl, rfl, rfl, rfl⟩, rfl, rfl, rfl⟩
  split
  · exact ⟨⟨rfl, rfl, rfl, rfl, rfl, rfl⟩, rfl, rfl, rfl⟩
  · exact ⟨⟨rfl, rfl, rfl, rfl, rfl, rfl⟩, rfl, rfl, rfl⟩
theorem startU_same {F : Int → Bool} {s : USt} {st : Wst} : s.same (startU F s st).2.1 := by
  unfold startU
  split
  · exact ⟨rfl, rfl, rfl, rfl, rfl, rfl⟩
  · have := (loadB_same (s1 := loadW F s st) (e := (slLoadX F st s.keepf ⟨s.sure, s.at_, s.gen⟩).1) (l := (slLoadX F st s.keepf ⟨s.sure, s.at_, s.gen⟩).2.1)).1
    exact ⟨this.inf, this.file, this.keepf, this.n, this.peers, this.count⟩
section
variable {w u v z w3 : World} {S D D' N N' : Nat → Prop} {pw i m n ab cb : Nat} {a : UA} {s : USt} {st st' : Wst} {F F' : Int → Bool} {ℓ ℓ' ℓ1 ℓ2 : Nat → Option Nat} {us : List (UA × USt)}
/-- a unit that lies elsewhere in part: what it needs -/
theorem near_start {s : USt} : Near st (startU F s st).2.2 s.keepf 2 := by
  unfold startU
  split
  · exact (Near.refl st s.keepf).le (by decide)
  · exact near_load
theorem startU_once {F : Int → Bool} {s : USt} {st : Wst} (h : s.on = 1 ∨ (s.on = 0 ∧ s.lock = 0)) : (startU F s st).2.1.on = 1 := by
  unfold startU
  split
  · assumption
  · rfl
/-- what a load comes to -/
def LoadP (F : Int → Bool) (s : USt) (st : Wst) : Prop := ∀ {R : Int → World → Prop} {w : World} {ℓ : Nat → Option Nat} {pw i : Nat} {a : UA} {us : List (UA × USt)}, Sys w ℓ pw st F us → 1 ≤ s.keepf.size ∧ s.keepf.size ≤ 30 → st.ops < 10000000000 → i < us.length → us[i]? = some (a, s) →
  (∀ u ℓ' a', a.like a' → Mv w u ℓ ℓ' → Sys u ℓ' pw (loadU F s st).2.2 F (us.set i (a', (loadU F s st).2.1)) → R (((loadU F s st).1 : Nat) : Int) u) → Cunit_Unit_load (some ⟨a.ub, 0, none⟩) w R
/-- Start -/
theorem start_fun {R : Int → World → Prop} (hL : s.on ≠ 1 → LoadP F { s with lock := 1 } st) (H : Sys w ℓ pw st F us) (K : SOk st us m) (hm : m ≤ 500000000) (hi : i < us.length) (he : us[i] = (a, s))
    (hR : ∀ u ℓ' a', a.like a' → Mv w u ℓ ℓ' → Sys u ℓ' pw (startU F s st).2.2 F (us.set i (a', (startU F s st).2.1)) → SOk (startU F s st).2.2 (us.set i (a', (startU F s st).2.1)) (m + 2) → R (((startU F s st).1 : Nat) : Int) u) : Cunit_Unit_Start (some ⟨a.ub, 0, none⟩) w R := by
  have KU := K.at hi he
  have hKs : ∀ a' : UA, SOk (startU F s st).2.2 (us.set i (a', (startU F s st).2.1)) (m + 2) := fun a' => by
    have K2 := K.near (near_start (F := F) (s := s) (st := st))
    refine K2.put (x := (a', (startU F s st).2.1)) ?_
    have KU2 := K2.at hi he
    have sm := startU_same (F := F) (s := s) (st := st)
    refine ⟨by rw [sm.n]; exact KU2.n, by rw [sm.inf]; exact KU2.form, by rw [sm.file, sm.keepf]; exact KU2.name, by rw [sm.file]; exact KU2.good, .inl (startU_once KU.once)⟩
  have hR : ∀ u ℓ' a', a.like a' → Mv w u ℓ ℓ' → Sys u ℓ' pw (startU F s st).2.2 F (us.set i (a', (startU F s st).2.1)) → R (((startU F s st).1 : Nat) : Int) u := fun u ℓ' a' h1 h2 h3 => hR u ℓ' a' h1 h2 h3 (hKs a')
  clear hKs
  rcases KU.once with hon | ⟨hon, hlk⟩
  · unfold startU at hR
    rw [if_pos hon] at hR
    exact start_again H hi he hon fun u g => hR u ℓ a (UA.like.refl a) (Mv.grow g) (by show Sys u ℓ pw st F (us.set i (a, s)); rw [set_same hi he]; exact H.grow g)
  unfold startU at hR
  rw [if_neg (by omega)] at hR
  refine Funit_Unit_Start.calls _ _ _ (new_rule fun fb w1 hfb hb1 hg1 hs1 => ?_)
  obtain ⟨z1, z2, z3, z4, z5, z6, z7⟩ := set7 a
  have H1 := H.grow hg1
  obtain ⟨hU, hown⟩ := H1.at hi he
  have hfn : ℓ fb = none := H.fresh (by omega)
  have cf : ∀ {v : World}, Blk v fb #[.pointer (some ⟨a.ub, 0, none⟩)] t_p_unit_Unit → v.cell? ⟨fb, 0, none⟩ = some (.pointer (some ⟨a.ub, 0, none⟩)) := fun q => by rw [Blk.cell q]; rfl
  refine ⟨some ⟨a.ub, 0, none⟩, cf hb1, some ⟨a.ub, 0, none⟩, fun _ => cf hb1, fun _ => rfl, some ⟨a.dv, 0, none⟩, fun _ => hU.cellU fun P => rfl, br_f rfl ⟨some ⟨a.ub, 0, none⟩, cf hb1, rfl, ?_⟩⟩
  rw [show (gA (some (⟨a.ub, 0, none⟩ : Addr))).add 11 = ⟨a.ub, 11, none⟩ by rw [gA, add0]]
  obtain ⟨P, hP1, hP2⟩ := hU.unit
  refine once_first (o := 11) hP1 (by show some (Value.int .u32 (s.on : Int)) = _; rw [hon]; rfl) (by show some (Value.int .i32 (s.lock : Int)) = _; rw [hlk]; rfl) fun w2 hb2 hk2 hs2 => ?_
  have sfe : ∀ {S : Nat → Prop} {x : World}, (∀ b, S b → b = a.ub) → Safe x (fun k => ℓ k ≠ none) S := fun hS => Safe.sub fun b _ q => by rw [hS b q, hown _ z1]; exact Option.some_ne_none _
  have hU2 : IsU w2 (fun k => ℓ k ≠ none) pw a { s with lock := 1 } := hU.unitC (on := s.on) (lk := 1) (fl := s.fault) (ct := s.count) (ps := s.peers) hk2 (sfe fun _ q => q) (fun b _ hne q => hne q) (fun _ q => .inl q) ⟨P, hb2, hP2.step (.inr (.inr rfl)) hk2 (sfe fun _ q => q) fun _ q => .inl q⟩
  obtain ⟨m2, H2⟩ := H1.putA hi he hk2 (fun b _ q => by rw [q]; exact z1) hU2
  have hi2 : i < (us.set i (a, { s with lock := 1 })).length := by rw [List.length_set]; exact hi
  have hf2 : Blk w2 fb #[.pointer (some ⟨a.ub, 0, none⟩)] t_p_unit_Unit := m2.heap hb1 hfn
  refine Funit_Unit_Start_1.calls _ _ _ ?_
  rintro w3 rfl
  have hg3 := keep_drew w2
  have H3 := H2.grow hg3
  have hf3 : Blk w2.drew fb _ t_p_unit_Unit := hg3.heap hf2 (fun q => q)
  generalize w2.drew = w3 at *
  refine ⟨fun o => o.cell? ⟨fb, 0, none⟩ = some (.pointer (some ⟨a.ub, 0, none⟩)), cf hf3, some ⟨a.ub, 0, none⟩, fun _ q => q, some ⟨a.ub, 0, none⟩, fun _ q => q, ?_⟩
  have elu : loadU F { s with lock := 1 } st = ((loadU F s st).1, { (loadU F s st).2.1 with lock := 1 }, (loadU F s st).2.2) := by
    unfold loadU loadB loadW
    dsimp only
    split
    · rfl
    split
    · rfl
    split
    · rfl
    cases loadT ((slLoadX F st s.keepf ⟨s.sure, s.at_, s.gen⟩).2.1.drop 1) <;> rfl
  refine hL (by omega) H3 KU.sizes.2 (by have := K.few; omega) hi2 (List.getElem?_eq_some_iff.2 ⟨hi2, List.getElem_set_self _⟩) fun w4 ℓ4 a4 hl4 m4 H4 => ?_
  rw [elu, List.set_set] at H4
  rw [elu]
  dsimp only at H4 ⊢
  have hi4 : ∀ y, i < (us.set i y).length := fun y => by rw [List.length_set]; exact hi
  obtain ⟨hU4, hown4⟩ := H4.at (hi4 _) (List.getElem_set_self _)
  have hf4 : Blk w4 fb _ t_p_unit_Unit := m4.heap hf3 hfn
  have sm := (loadB_same (s1 := loadW F s st) (e := (slLoadX F st s.keepf ⟨s.sure, s.at_, s.gen⟩).1) (l := (slLoadX F st s.keepf ⟨s.sure, s.at_, s.gen⟩).2.1))
  have son : (loadU F s st).2.1.on = s.on := sm.2.1
  generalize (loadU F s st).1 = e at *
  generalize (loadU F s st).2.1 = s4 at *
  generalize (loadU F s st).2.2 = st4 at *
  obtain ⟨q1, q2, q3, q4, q5, q6, q7⟩ := set7 a4
  have eub := hl4.ub
  obtain ⟨P4, hP41, hP42⟩ := hU4.unit
  rw [eub] at hP41 q1
  refine ⟨cf hf4, rfl, ?_⟩
  rw [gA, add0]
  refine put_rule hP41 (by show 14 < 16; decide) rfl fun w5 hb5 hk5 hs5 => ⟨_, hb5, by show some (Value.int .u32 (s4.on : Int)) = _; rw [son, hon]; rfl, rfl, fun w6 hb6 hk6 hs6 => ?_⟩
  have k46 : Keep (fun b => b = a.ub) w4 w6 := hk5.trans hk6 fun _ _ q => q
  have sf4 : Safe w4 (fun k => ℓ4 k ≠ none) fun b => b = a.ub := Safe.sub fun b _ q => by rw [q, hown4 _ q1]; exact Option.some_ne_none _
  have hU6 : IsU w6 (fun k => ℓ4 k ≠ none) pw a4 { s4 with on := 1, lock := 0, fault := e } := hU4.unitC (on := 1) (lk := 0) (fl := e) (ct := s4.count) (ps := s4.peers) k46 sf4 (fun b _ hne q => hne (by rw [eub]; exact q)) (fun _ q => .inl q) ⟨P4, by rw [eub]; exact hb6, hP42.step (.inr (.inr rfl)) k46 sf4 fun _ q => .inl q⟩
  obtain ⟨m6, H6⟩ := H4.putA (hi4 _) (List.getElem_set_self _) k46 (fun b _ q => by rw [q]; exact q1) hU6
  rw [List.set_set] at H6
  have hf6 : Blk w6 fb _ t_p_unit_Unit := k46.heap hf4 fun q => by
    have := hown4 _ q1
    rw [← q] at this
    have e := m4.lab fb (by have := lt_of_heap hf3; exact this)
    rw [e, hfn] at this; cases this
  obtain ⟨hU6', _⟩ := H6.at (hi4 _) (List.getElem_set_self _)
  have cu : w6.cell? ((gA (some (⟨a.ub, 0, none⟩ : Addr))).add 14) = some (.int .i64 (e : Int)) := by
    have := hU6'.cellU (o := 14) (x := .int .i64 (e : Int)) fun P => rfl
    rwa [eub] at this
  refine ⟨some ⟨a.ub, 0, none⟩, cf hf6, rfl, (e : Int), cu, ?_⟩
  exact hR w6 ℓ4 a4 hl4 (((((Mv.grow hg1).trans m2).trans (Mv.grow hg3)).trans m4).trans m6) H6
end
end Go.Proofs.YtpmebahhjgkflaaGreatDoor

/- Layer 15: what parameters say, in plain words. -/
namespace Go.Proofs.YtpmebahhjgkflaaGreatDoor
open Go CF
set_option maxRecDepth 100000

/-- a piece -/
structure SegX where
  from_ : Int
  to_ : Int
  blocks : Int
  src : Nat
  dst : Nat
def sub (p : L8) (at_ n : Nat) : L8 := (p.drop at_).take n
def trimR (l : L8) : L8 := (l.reverse.dropWhile (· == 32)).reverse
def frontX : L8 := [0xe4, 0, 0, 0, 2, 1, 0, 20]
def unitBad (d : L8) : Option Nat :=
  match (List.range 8).find? (fun i => decide (d.getD i 0 ≠ frontX.getD i 0)) with
  | some i => some i
  | none => if d.getD 28 0 ≠ 0 then some 28 else if num (sub d 29 3) ≠ 16 then some 29 else none
def unitNm (d : L8) : L8 := trimR (sub d 8 20)
def segBad (nu : Nat) (q : L8) : Option Nat :=
  if num (sub q 0 4) ≠ 0x02000018 then some 0 else if num (sub q 8 2) ≠ 0 then some 8 else if nu ≤ num (sub q 4 2) then some 4 else if nu ≤ num (sub q 6 2) then some 6
  else if 256 < num (sub q 10 2) then some 10 else none
def segOf (q : L8) : SegX := ⟨(num (sub q 4 2) : Int), (num (sub q 6 2) : Int), (num (sub q 10 2) : Int), num (sub q 12 8), num (sub q 20 8)⟩
def nuX (p : L8) : Nat := num (sub p 2 2)
def nsX (p : L8) : Nat := num (sub p 8 4)
def headC (p : L8) : Option Sn :=
  if p.length < 16 then some (badS 0x1a00)
  else if num (sub p 0 2) ≠ 0 then some (badF 0) else if num (sub p 4 4) ≠ 0 then some (badF 4) else if num (sub p 12 4) ≠ 0 then some (badF 12)
  else if nuX p % 32 ≠ 0 then some (badF 2) else if nsX p % 28 ≠ 0 then some (badF 8) else if p.length ≠ 16 + nuX p + nsX p then some (badS 0x1a00)
  else if 256 < nuX p ∨ 224 < nsX p then some (badS 0x2608) else none
def unitAt (p : L8) (j : Nat) : L8 := sub p (16 + 32 * j) 32
def segAt (p : L8) (j : Nat) : L8 := sub p (16 + nuX p + 28 * j) 28
def uFault (p : L8) (j : Nat) : Option Nat := (unitBad (unitAt p j)).map (16 + 32 * j + ·)
def sFault (p : L8) (j : Nat) : Option Nat := (segBad (nuX p / 32) (segAt p j)).map (16 + nuX p + 28 * j + ·)
def unitsX (p : L8) (k : Nat) : List L8 := (List.range k).map fun j => unitNm (unitAt p j)
def segsX (p : L8) (k : Nat) : List SegX := (List.range k).map fun j => segOf (segAt p j)
structure ParX where
  us : List L8
  ss : List SegX
  sn : Sn
  ok : Bool
def noX (s : Sn) : ParX := ⟨[], [], s, false⟩
def parseC (p : L8) : ParX :=
  if p = [] then ⟨[], [], sn0, true⟩ else match headC p with
  | some s => noX s
  | none => match (List.range (nuX p / 32)).findSome? (uFault p) with
    | some f => noX (badF f)
    | none => match (List.range (nsX p / 28)).findSome? (sFault p) with
      | some f => noX (badF f)
      | none => ⟨unitsX p (nuX p / 32), segsX p (nsX p / 28), sn0, true⟩
/-! ### trimmed -/
end Go.Proofs.YtpmebahhjgkflaaGreatDoor

/- Layer 15: what the parts of Parse compute, in the program and in its reference. -/
namespace Go.Proofs.YtpmebahhjgkflaaGreatDoor
open Go CF
set_option maxRecDepth 100000

end Go.Proofs.YtpmebahhjgkflaaGreatDoor

/- Layer 15: a unit's descriptor, and the head of parameters. -/
namespace Go.Proofs.YtpmebahhjgkflaaGreatDoor
open Go CF
set_option maxRecDepth 100000

end Go.Proofs.YtpmebahhjgkflaaGreatDoor

/- Layer 15: Parse, as the program has it. -/
namespace Go.Proofs.YtpmebahhjgkflaaGreatDoor
open Go CF
set_option maxRecDepth 100000

end Go.Proofs.YtpmebahhjgkflaaGreatDoor

/- Layer 15: the parameters of a list, in plain words. -/
namespace Go.Proofs.YtpmebahhjgkflaaGreatDoor
open Go CF
set_option maxRecDepth 100000

def uOk (s : L8) : Prop := s.length ≤ 20 ∧ s.getLast? ≠ some 32
def sOk (nu : Nat) (x : SegX) : Prop := 0 ≤ x.from_ ∧ x.from_ < nu ∧ 0 ≤ x.to_ ∧ x.to_ < nu ∧ 0 ≤ x.blocks ∧ x.blocks ≤ 256
instance (s : L8) : Decidable (uOk s) := by unfold uOk; infer_instance
instance (nu : Nat) (x : SegX) : Decidable (sOk nu x) := by unfold sOk; infer_instance
/-! ### pieces of a row -/
end Go.Proofs.YtpmebahhjgkflaaGreatDoor

/- Layer 15: the parameters that tell a list, as the program lays them. -/
namespace Go.Proofs.YtpmebahhjgkflaaGreatDoor
open Go CF
set_option maxRecDepth 100000

end Go.Proofs.YtpmebahhjgkflaaGreatDoor

/- Layer 15: Parse, as the reference has it. -/
namespace Go.Proofs.YtpmebahhjgkflaaGreatDoor
open Go CF
set_option maxRecDepth 100000

end Go.Proofs.YtpmebahhjgkflaaGreatDoor

/- Rows of bytes with the same number are the same. -/
namespace Go.Proofs.YtpmebahhjgkflaaGreatDoor
open Go CF
set_option maxRecDepth 100000

end Go.Proofs.YtpmebahhjgkflaaGreatDoor

/- Layer 15: parameters that are read tell themselves; a byte turned. -/
namespace Go.Proofs.YtpmebahhjgkflaaGreatDoor
open Go CF
set_option maxRecDepth 100000

/-! ### a byte turned -/
end Go.Proofs.YtpmebahhjgkflaaGreatDoor
