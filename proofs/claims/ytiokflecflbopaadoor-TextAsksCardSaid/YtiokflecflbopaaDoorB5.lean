import Derived.RangeFuncNested
import Derived.RangeFuncLeaves
import Derived.Shelf.Abstract
import Derived.WalkKit
import Derived.OwnWalkIn
import Derived.TacticsInMore
import Derived.LoopNIn
import Derived.LoopIn
import Derived.Test.YtiokflecflbopaaDoorB4
/- A range over an iterator that moves its own captured cell on (strings.SplitSeq), and strings.SplitSeq's own. -/
namespace Go.Proofs.YtiokflecflbopaaDoor
open Go CF Go.RowKit
variable {F : Fence} {n : Nat} {P : Program}

/-- an iterator that writes over its own cell Bs: what the caller knows must abide that -/
def BoxSeq {α : Type} (F : Fence) (n : Nat) (P : Program) (g : Nat) (lb : Array Value) (encs : α → Array Value) (n₀ Bs : Nat) (S Sp : List α → Prop) (w : World) : Prop :=
  ∀ (l : Nat) (J Jx : List α → World → Prop) (W : World), Below w.heap.size w W → (∀ s A v, J s A → J s (A.setCell ⟨Bs, 0, none⟩ v)) →
    (∀ pre x W1, J pre W1 → YieldAt F (n - 1) P l (encs x) W1 fun e W' =>
      (e = .returned (.bool true) ∧ J (pre ++ [x]) W' ∧ Below n₀ W1 W') ∨ (e = .returned (.bool false) ∧ Jx (pre ++ [x]) W')) →
    J [] W →
    CallsIn F n P g (#[.func (.yield l) #[] #[]] ++ lb) W fun e W' => (∃ v, e = .returned v) ∧ ((∃ xs, S xs ∧ J xs W') ∨ (∃ pre, Sp pre ∧ Jx pre W'))

theorem below_putObj {n₀ : Nat} (W : World) (l : Nat) (o : Obj) (h : n₀ ≤ l) : Below n₀ W (W.putObj l o) :=
  ⟨rfl, rfl, rfl, by simp, fun k hk => World.putObj_heap_other (by omega)⟩

/-- a range over such an iterator: the kit's law for iterators that write nothing of their own, turned -/
theorem wpIn_rangeFunc_box {α : Type} {g : Operand} {ps : Array Tmp} {assign body : Code} {Q : Exit → Act → World → Prop} {a : Act} {w : World} {n₀ Bs : Nat}
    (hro : F.round = none) (h1 : 1 ≤ n) {gf : Nat} {lb : Array Value} (hg : a.eval g = .func (.func gf) #[] lb) (hFg : F.fn gf) (eg : ∀ args w, (callFunc gf args).run P w = .ok (.enter gf args) w)
    {encs : α → Array Value} {S Sp : List α → Prop} (hseq : BoxSeq F (n - 1) P gf lb encs n₀ Bs S Sp w) (hn0 : n₀ ≤ w.heap.size) (hBs : Bs < w.heap.size) (hps : ∀ x, (encs x).size = ps.size)
    (I : List α → World → Prop) (Ix : Code → List α → World → Prop) (hI : OwnFrom w.heap.size I) (hIx : ∀ c, OwnFrom w.heap.size (Ix c)) (hIs : ∀ s A v, I s A → I s (A.setCell ⟨Bs, 0, none⟩ v)) (h0 : I [] w) (a₁ : α → Act)
    (hassign : ∀ (l : Nat) (x : α) (W : World) (K : Act → World → Prop), K (a₁ x) W →
      assign.wpIn (F.inRound l) (n - 1 - 1) P (Exit.then K (fun _ _ _ => False)) { tmps := (ps.zip (encs x)).foldl (fun t (p, v) => t.setIfInBounds p v) a.tmps, defers := [] } W)
    (hbody : ∀ (l : Nat) (pre : List α) (x : α) (W : World), I pre W → body.wpIn (F.inRound l) (n - 1 - 1) P (ownPostK (Below n₀) I Ix (pre ++ [x]) W) (a₁ x) W)
    (hdone : ∀ (D : Nat) (xs : List α) (W : World), w.heap.size ≤ D → S xs → I xs W → W.heap[D]? = some (.deferred (some [])) → Q .normal { a with defers := { target := .collected D, args := #[] } :: a.defers } W)
    (hstop : ∀ (D : Nat) (c : Code) (pre : List α) (W : World), w.heap.size ≤ D → Sp pre → Ix c pre W → W.heap[D]? = some (.deferred (some [])) → c.wpIn F n P Q { a with defers := { target := .collected D, args := #[] } :: a.defers } W) :
    (Code.rangeFunc g ps assign body).wpIn F n P Q a w := by
  refine wpIn_rangeFunc ?_
  intro fn hfn
  rw [hro]
  obtain ⟨rec, hrec⟩ : ∃ rec : LoopState → Option Code → Loop, rec = fun st pe => { state := st, pending := pe, fn, tmps := a.tmps, params := ps, assign, body, defers := w.heap.size } := ⟨_, rfl⟩
  obtain ⟨W1, hW1⟩ : ∃ W1, (w.alloc (.deferred (some []))).alloc (.loop (rec .ready none)) = W1 := ⟨_, rfl⟩
  have hL1 : W1.heap[w.heap.size + 1]? = some (.loop (rec .ready none)) := by
    rw [← hW1]; have := World.alloc_heap_new (w.alloc (.deferred (some []))) (.loop (rec .ready none)); rwa [World.size_alloc] at this
  have hK1 : W1.heap[w.heap.size]? = some (.deferred (some [])) := by
    rw [← hW1]; exact (Below.heap_alloc _ _ _ (by simp)).trans (World.alloc_heap_new w _)
  have hI1 : I [] W1 := by rw [← hW1]; exact hI.alloc _ (hI.alloc _ h0)
  have hb1 : Below w.heap.size w W1 := by
    rw [← hW1]; exact (((Below.refl _ w).alloc (Nat.le_refl _) _).alloc (by simp) _)
  refine ⟨w.heap.size + 1, [{ target := .collected w.heap.size, args := #[] }], W1, { target := .fn (.func gf) lb, args := #[.func (.yield (w.heap.size + 1)) #[] #[]] }, W1, gf,
    #[.func (.yield (w.heap.size + 1)) #[] #[]] ++ lb, W1, ?_, ?_, ?_, ?_, fun _ => h1, ?_⟩
  · rw [← hW1, hrec]; exact run_enterLoop_outer _ _ _ _ _
  · simp only [resolve, hg]
    simp [go_sem]
  · intro f' hf'; simp [Target.leads] at hf'; subst hf'; exact hFg
  · simp [invoke, go_sem, eg]
  · refine (hseq (w.heap.size + 1)
      (fun pre W => I pre W ∧ W.heap[w.heap.size + 1]? = some (.loop (rec .ready none)) ∧ W.heap[w.heap.size]? = some (.deferred (some [])))
      (fun pre W => ∃ c, Ix c pre W ∧ W.heap[w.heap.size + 1]? = some (.loop (rec .done (some c))) ∧ W.heap[w.heap.size]? = some (.deferred (some [])))
      W1 hb1
      (fun s A v hs => ⟨hIs s A v hs.1, (Below.heap_setCell A ⟨Bs, 0, none⟩ v _ (by simp; omega)).trans hs.2.1, (Below.heap_setCell A ⟨Bs, 0, none⟩ v _ (by simp; omega)).trans hs.2.2⟩)
      ?_ ⟨hI1, hL1, hK1⟩).mono ?_
    · -- one round
      rintro pre x W ⟨hi, hl, hk⟩
      have hlt : w.heap.size + 1 < W.heap.size := (Array.getElem?_eq_some_iff.1 hl).1
      have hy := run_yield (P := P) (args := encs x) hl (by rw [hrec]; exact hps x)
      rw [hrec] at hy
      refine ⟨fn, _, assign, body, hy, roundIn_of_wpIn hfn (hassign _ x W _ ⟨_, run_beginRound hl (by rw [hrec]), ?_⟩)⟩
      have hl2 : (W.putObj (w.heap.size + 1) (.loop { rec .ready none with state := .busy })).heap[w.heap.size + 1]? = some (.loop { rec .ready none with state := .busy }) := World.putObj_heap_same hlt
      have hk2 : (W.putObj (w.heap.size + 1) (.loop { rec .ready none with state := .busy })).heap[w.heap.size]? = some (.deferred (some [])) := (World.putObj_heap_other (by omega)).trans hk
      have hw2 : Below n₀ W (W.putObj (w.heap.size + 1) (.loop { rec .ready none with state := .busy })) := below_putObj _ _ _ (by omega)
      refine wpIn_mono (hbody _ pre x _ (hI.putObj _ hi (by omega) hl rfl)) ?_
      have fin : ∀ (jump : Option Code) (W3 : World), KeepsOthers (W.putObj (w.heap.size + 1) (.loop { rec .ready none with state := .busy })) W3 →
          (Instr.endRound (w.heap.size + 1) jump).run P W3 = .ok (.bool jump.isNone) (W3.putObj (w.heap.size + 1) (.loop (rec (if jump.isNone then .ready else .done) jump))) ∧
          W3.heap[w.heap.size + 1]? = some (.loop { rec .ready none with state := .busy }) ∧
          (W3.putObj (w.heap.size + 1) (.loop (rec (if jump.isNone then .ready else .done) jump))).heap[w.heap.size + 1]? = some (.loop (rec (if jump.isNone then .ready else .done) jump)) ∧
          (W3.putObj (w.heap.size + 1) (.loop (rec (if jump.isNone then .ready else .done) jump))).heap[w.heap.size]? = some (.deferred (some [])) := fun jump W3 hk3 => by
        have hl3 := hk3.same _ _ hl2 rfl
        have := run_endRound (P := P) jump hl3
        rw [hrec] at this ⊢
        exact ⟨this, by rw [hrec] at hl3; exact hl3, World.putObj_heap_same (Array.getElem?_eq_some_iff.1 hl3).1, (World.putObj_heap_other (by omega)).trans (hk3.same _ _ hk2 rfl)⟩
      rintro e a3 W3 hp
      cases e with
      | normal =>
        obtain ⟨hk3, hkp3, hi3⟩ := hp
        obtain ⟨hr, hl3, hl4, hk4⟩ := fin none W3 hk3
        exact ⟨_, _, hr, .inl ⟨rfl, ⟨hI.putObj _ hi3 (by omega) hl3 rfl, hl4, hk4⟩, (hw2.trans hkp3).trans (below_putObj _ _ _ (by omega))⟩⟩
      | ret =>
        obtain ⟨hk3, hi3⟩ := hp
        obtain ⟨hr, hl3, hl4, hk4⟩ := fin (some .ret) W3 hk3
        exact ⟨_, _, hr, .inr ⟨rfl, .ret, (hIx _).putObj _ hi3 (by omega) hl3 rfl, hl4, hk4⟩⟩
      | exit id =>
        obtain ⟨hk3, hi3⟩ := hp
        obtain ⟨hr, hl3, hl4, hk4⟩ := fin (some (.exit id)) W3 hk3
        exact ⟨_, _, hr, .inr ⟨rfl, .exit id, (hIx _).putObj _ hi3 (by omega) hl3 rfl, hl4, hk4⟩⟩
      | goto t =>
        obtain ⟨hk3, hi3⟩ := hp
        obtain ⟨hr, hl3, hl4, hk4⟩ := fin (some (.goto t)) W3 hk3
        exact ⟨_, _, hr, .inr ⟨rfl, .goto t, (hIx _).putObj _ hi3 (by omega) hl3 rfl, hl4, hk4⟩⟩
      | panic ch => exact hp.elim
      | outgrown => exact hp.elim
    · -- behind the iterator
      rintro e W2 ⟨⟨v, rfl⟩, (⟨xs, hS, hi, hl, hk⟩ | ⟨pre, hSp, c, hi, hl, hk⟩)⟩
      · exact ⟨none, _, by have := run_endLoop (P := P) hl (by rw [hrec]; simp); rw [hrec] at this; exact this, hdone _ xs _ (Nat.le_refl _) hS (hI.putObj _ hi (by omega) hl rfl) ((World.putObj_heap_other (by omega)).trans hk)⟩
      · exact ⟨some c, _, by have := run_endLoop (P := P) hl (by rw [hrec]; simp); rw [hrec] at this; exact this, hstop _ c pre _ (Nat.le_refl _) hSp ((hIx c).putObj _ hi (by omega) hl rfl) ((World.putObj_heap_other (by omega)).trans hk)⟩
end Go.Proofs.YtiokflecflbopaaDoor

/- strings.SplitSeq at one byte: the iterator's own function. -/
namespace Go.Proofs.YtiokflecflbopaaDoor
open Go CF Go.RowKit
attribute [local go_sem] Oper.semAt_some

/-- the parts of a text between a byte -/
def segs (c : UInt8) : L8 → List L8
  | [] => [[]]
  | b :: r => if b = c then [] :: segs c r else match segs c r with | [] => [[b]] | s :: t => (b :: s) :: t
theorem segs_ne (c : UInt8) : ∀ l, segs c l ≠ []
  | [] => by simp [segs]
  | b :: r => by
    unfold segs
    split
    · simp
    · split <;> simp
theorem segs_none {c : UInt8} : ∀ {l : L8}, cutAt c l = none → segs c l = [l]
  | [], _ => rfl
  | b :: r, h => by
    simp only [cutAt] at h
    split at h
    · cases h
    · rename_i hb
      have := segs_none (Option.map_eq_none_iff.1 h)
      simp [segs, hb, this]
theorem segs_some {c : UInt8} : ∀ {l a b : L8}, cutAt c l = some (a, b) → segs c l = a :: segs c b
  | x :: r, a, b, h => by
    simp only [cutAt] at h
    split at h
    · rename_i hb
      cases h
      simp [segs, hb]
    · rename_i hb
      obtain ⟨p, hp, e⟩ := Option.map_eq_some_iff.1 h
      cases e
      have := segs_some (a := p.1) (b := p.2) hp
      simp [segs, hb, this]
theorem cut_facts {c : UInt8} {rest a b : L8} (h : cutAt c rest = some (a, b)) : rest.length = a.length + (b.length + 1) ∧ (str rest).extract 0 a.length = str a ∧
    (str rest).extract (a.length + 1) (str rest).size = str b := by
  obtain rfl := (cutAt_some h).1
  refine ⟨by simp, ?_, ?_⟩
  · rw [str_extract, List.drop_zero, List.take_left]
  · rw [str_extract, size_str, List.take_length]
    have : a ++ c :: b = (a ++ [c]) ++ b := by simp
    rw [this, show a.length + 1 = (a ++ [c]).length by simp, List.drop_left]
theorem cut_nums (x y z : Nat) (hz : z = x + (y + 1)) (hl : x + (y + 1) ≤ 9223372036854775806) : wrap64 (x : Int) = x ∧ wrap64 ((x : Int) + 1) = (x : Int) + 1 ∧ ¬ (x : Int) < 0 ∧
    (0 ≤ (x : Int) ∧ (x : Int) ≤ (z : Int)) ∧ (0 ≤ (x : Int) + 1 ∧ (x : Int) + 1 ≤ (z : Int)) ∧ ((x : Int) + 1).toNat = x + 1 :=
  ⟨by unfold wrap64; omega, by unfold wrap64; omega, by omega, by omega, by omega, by omega⟩
theorem cut_pack {c : UInt8} {rest a b : L8} (h : cutAt c rest = some (a, b)) (hl : rest.length ≤ 9223372036854775806) : ∃ k : Int, Lib.indexByte (str rest).data.toList c = k ∧ wrap64 k = k ∧ wrap64 (k + 1) = k + 1 ∧ ¬ k < 0 ∧
    (0 ≤ k ∧ k ≤ ((str rest).size : Int)) ∧ (0 ≤ k + 1 ∧ k + 1 ≤ ((str rest).size : Int)) ∧ (str rest).extract 0 k.toNat = str a ∧ (str rest).extract (k + 1).toNat (str rest).size = str b ∧
    (str b).size < (str rest).size ∧ b.length ≤ 9223372036854775806 := by
  obtain ⟨h1, h2, h3⟩ := cut_facts h
  have hi : Lib.indexByte (str rest).data.toList c = (a.length : Int) := by simpa [str] using (cutAt_some h).2.2
  have hsz : (str rest).size = a.length + (b.length + 1) := (size_str rest).trans h1
  obtain ⟨n1, n2, n3, n4, n5, n6⟩ := cut_nums a.length b.length (str rest).size hsz (h1 ▸ hl)
  refine ⟨a.length, hi, n1, n2, n3, n4, n5, h2, by rw [n6]; exact h3, ?_, ?_⟩
  · rw [hsz, size_str]; omega
  · omega
/-- how much of the text is left: read off the world -/
def leftOf (B : Nat) (w : World) : Nat := match w.cell? ⟨B, 0, none⟩ with | some (.string b) => b.size | _ => 0

theorem cell_other {W : World} {B B' : Nat} (h : B' ≠ B) (v : Value) : (W.setCell ⟨B, 0, none⟩ v).cell? ⟨B', 0, none⟩ = W.cell? ⟨B', 0, none⟩ := by
  unfold World.cell?
  rw [show (W.setCell ⟨B, 0, none⟩ v).heap[B']? = _ from Below.heap_setCell W ⟨B, 0, none⟩ v B' h]
set_option maxRecDepth 100000 in
set_option maxHeartbeats 2000000 in
theorem splitSeq1_in (l Bs B1 B3 n₀ : Nat) (c : UInt8) (s : L8) (hbs : Bs < n₀) (hb1 : B1 < n₀) (hb3 : B3 < n₀) (hne1 : B1 ≠ Bs) (hne3 : B3 ≠ Bs) (J Jx : List L8 → World → Prop)
    (hJs : ∀ p A v, J p A → J p (A.setCell ⟨Bs, 0, none⟩ v))
    (hY : ∀ pre x W1, J pre W1 → YieldAt Fence.wide 9 Tryd.prog l #[.string (str x)] W1 fun e W' => (e = .returned (.bool true) ∧ J (pre ++ [x]) W' ∧ Below n₀ W1 W') ∨ (e = .returned (.bool false) ∧ Jx (pre ++ [x]) W'))
    (W : World) (h1 : W.cell? ⟨B1, 0, none⟩ = some (.string ⟨#[c]⟩)) (hs : W.cell? ⟨Bs, 0, none⟩ = some (.string (str s))) (hf : W.frozen? ⟨Bs, 0, none⟩ = false) (h3 : W.cell? ⟨B3, 0, none⟩ = some (.int .i64 0)) (h0 : J [] W)
    (hlen : s.length ≤ 9223372036854775806) :
    CallsIn Fence.wide 10 Tryd.prog 40 #[.func (.yield l) #[] #[], .pointer (some ⟨B1, 0, none⟩), .pointer (some ⟨Bs, 0, none⟩), .pointer (some ⟨B3, 0, none⟩)] W fun e W' => (∃ v, e = .returned v) ∧
      ((∃ ys, ys = segs c s ∧ J ys W') ∨ (∃ pre, pre <+: segs c s ∧ Jx pre W')) := by
  refine callsIn_of_wp Tryd.func40 rfl trivial ?_ rfl
  simp only [Tryd.ntmps40, List.size_toArray, List.length_cons, List.length_nil, Nat.reduceAdd, Nat.reduceSub, Array.replicate_succ, Array.replicate_zero, List.push_toArray, List.append_toArray, List.nil_append, List.cons_append]
  gi_wp2
  gi_loopw [] (fun wr => ∃ pre rest, segs c s = pre ++ segs c rest ∧ rest.length ≤ 9223372036854775806 ∧ wr.cell? ⟨B1, 0, none⟩ = some (.string ⟨#[c]⟩) ∧ wr.cell? ⟨Bs, 0, none⟩ = some (.string (str rest)) ∧
      wr.frozen? ⟨Bs, 0, none⟩ = false ∧ wr.cell? ⟨B3, 0, none⟩ = some (.int .i64 0) ∧ J pre wr) (fun wr => leftOf Bs wr)
  case atStart => exact ⟨[], s, rfl, hlen, h1, hs, hf, h3, h0⟩
  case round =>
    obtain ⟨pre, rest, hseg, hlr, k1, ks, kf, k3, hJ⟩ := hrel
    have hX : ∀ w', CallsIn Fence.wide 9 Tryd.prog 42 #[.string (str rest), .string ⟨#[c]⟩] w' fun e w2 => e = .returned (.int .i64 (Lib.indexByte (str rest).data.toList c)) ∧ w2 = w' := fun w' => callsIn_wide.2 (Tryd.strings_Index_one (str rest) c w')
    cases hc : cutAt c rest with
    | none =>
      have hi : Lib.indexByte (str rest).data.toList c = -1 := by simpa [str] using (cutAt_none hc).2
      gi_wp2
      refine ⟨trivial, (hX _).mono ?_⟩
      rintro e w' ⟨rfl, rfl⟩
      simp only [hi]
      obtain ⟨fn, tmps, assign, body, hy, hR⟩ := hY pre rest _ hJ
      gi_wp2
      refine hR.mono ?_
      rintro e W3 (⟨rfl, hJ3, hk3⟩ | ⟨rfl, hJx3⟩)
      · gi_wp2
        go_end0
        exact ⟨⟨_, rfl⟩, .inl ⟨pre ++ [rest], by rw [hseg, segs_none hc], hJ3⟩⟩
      · gi_wp2
        go_end0
        exact ⟨⟨_, rfl⟩, .inr ⟨pre ++ [rest], by rw [hseg, segs_none hc]; exact List.prefix_refl _, hJx3⟩⟩
    | some q =>
      obtain ⟨a, b⟩ := q
      obtain ⟨k, hi, hw0, hw1, hk0, hbd, hbd2, hx1, hx2, hless, hlb⟩ := cut_pack hc hlr
      have hseg2 : segs c s = (pre ++ [a]) ++ segs c b := by rw [hseg, segs_some hc, List.append_assoc]; rfl
      gi_wp2
      refine ⟨trivial, (hX _).mono ?_⟩
      rintro e w' ⟨rfl, rfl⟩
      simp only [hi]
      obtain ⟨fn, tmps, assign, body, hy, hR⟩ := hY pre a _ hJ
      gi_wp2
      refine hR.mono ?_
      rintro e W3 (⟨rfl, hJ3, hk3⟩ | ⟨rfl, hJx3⟩)
      · have k1' : W3.cell? ⟨B1, 0, none⟩ = some (.string ⟨#[c]⟩) := (hk3.cell (p := ⟨B1, 0, none⟩) hb1).trans k1
        have ks' : W3.cell? ⟨Bs, 0, none⟩ = some (.string (str rest)) := (hk3.cell (p := ⟨Bs, 0, none⟩) hbs).trans ks
        have k3' : W3.cell? ⟨B3, 0, none⟩ = some (.int .i64 0) := (hk3.cell (p := ⟨B3, 0, none⟩) hb3).trans k3
        have kf' : W3.frozen? ⟨Bs, 0, none⟩ = false := by
          rw [← kf]
          unfold World.frozen?
          rw [show W3.heap[Bs]? = _ from hk3.block Bs hbs]
        gi_wp2
        refine ⟨⟨pre ++ [a], b, hseg2, hlb, (cell_other hne1 _).trans k1', World.cell?_setCell_same' _ _ _ (by rw [ks']; rfl), (World.frozen?_setCell _ _ _ _).trans kf', (cell_other hne3 _).trans k3', hJs _ _ _ hJ3⟩, ?_⟩
        have e1 : leftOf Bs (W3.setCell ⟨Bs, 0, none⟩ (.string (str b))) = (str b).size := by
          unfold leftOf; rw [World.cell?_setCell_same' _ _ _ (by rw [ks']; rfl)]
        rw [e1]
        unfold leftOf
        rw [ks]
        exact hless
      · gi_wp2
        refine bodyPost_ret (results_none rfl _ _ _) rfl ?_
        exact ⟨⟨_, rfl⟩, .inr ⟨pre ++ [a], ⟨segs c b, hseg2.symm⟩, hJx3⟩⟩
end Go.Proofs.YtiokflecflbopaaDoor

/- text.First: the first of the offered that is one of ours. -/
namespace Go.Proofs.YtiokflecflbopaaDoor
open Go CF Go.RowKit
attribute [local go_sem] Oper.semAt_some
macro "gi_round_op_f" : tactic => `(tactic| (rw [Oper.semAt_eq _ _ _ (fun c h => by cases h)]; go_simp; try go_bits))

/-- what the row of texts holds -/
abbrev strs (xs : List L8) : List Value := xs.map fun x => .string (str x)
def firstOf (o : L8) (xs : List L8) : L8 := match (segs 44 o).find? (fun x => decide (x ∈ xs)) with | some x => x | none => [82, 101, 106, 101, 99, 116]

set_option maxRecDepth 100000 in
set_option maxHeartbeats 1000000 in
theorem splitSeq_in (s t : ByteArray) (w : World) :
    CallsIn Fence.wide 9 Tryd.prog 31 #[.string s, .string t, .int .i64 0] w fun e w' => e = .returned (.func (.func 40) #[] #[.pointer (some ⟨w.heap.size + 1, 0, none⟩), .pointer (some ⟨w.heap.size, 0, none⟩), .pointer (some ⟨w.heap.size + 2, 0, none⟩)]) ∧
      w' = ((w.alloc (.cells #[.string s] t_string)).alloc (.cells #[.string t] t_string)).alloc (.cells #[.int .i64 0] t_int) := by
  refine callsIn_of_wp Tryd.func31 rfl trivial ?_ rfl
  simp only [Tryd.ntmps31, List.size_toArray, List.length_cons, List.length_nil, Nat.reduceAdd, Nat.reduceSub, Array.replicate_succ, Array.replicate_zero, List.push_toArray, List.append_toArray, List.nil_append, List.cons_append]
  gi_wp2
  go_ret
  exact ⟨rfl, rfl⟩
set_option maxRecDepth 100000 in
set_option maxHeartbeats 1000000 in
theorem splitSeqPub_in (s t : ByteArray) (w : World) :
    CallsIn Fence.wide 10 Tryd.prog 24 #[.string s, .string t] w fun e w' => e = .returned (.func (.func 40) #[] #[.pointer (some ⟨w.heap.size + 1, 0, none⟩), .pointer (some ⟨w.heap.size, 0, none⟩), .pointer (some ⟨w.heap.size + 2, 0, none⟩)]) ∧
      w' = ((w.alloc (.cells #[.string s] t_string)).alloc (.cells #[.string t] t_string)).alloc (.cells #[.int .i64 0] t_int) := by
  refine callsIn_of_wp Tryd.func24 rfl trivial ?_ rfl
  simp only [Tryd.ntmps24, List.size_toArray, List.length_cons, List.length_nil, Nat.reduceAdd, Nat.reduceSub, Array.replicate_succ, Array.replicate_zero, List.push_toArray, List.append_toArray, List.nil_append, List.cons_append]
  gi_wp2
  refine ⟨trivial, (splitSeq_in s t w).mono ?_⟩
  rintro e w' ⟨rfl, rfl⟩
  gi_wp2
  go_ret
  exact ⟨rfl, rfl⟩

theorem alloc5 (w : World) (o1 o2 o3 o4 o5 : Obj) : ∃ W, ((((w.alloc o1).alloc o2).alloc o3).alloc o4).alloc o5 = W ∧ W.heap.size = w.heap.size + 5 ∧ W.heap[w.heap.size]? = some o1 ∧ W.heap[w.heap.size + 1]? = some o2 ∧
    W.heap[w.heap.size + 2]? = some o3 ∧ W.heap[w.heap.size + 3]? = some o4 ∧ W.heap[w.heap.size + 4]? = some o5 ∧ Below w.heap.size w W := by
  refine ⟨_, rfl, by simp, ?_, ?_, ?_, ?_, ?_, ((((((Below.refl _ w).alloc (Nat.le_refl _) _).alloc (by simp) _).alloc (by simp; omega) _).alloc (by simp; omega) _).alloc (by simp; omega) _)⟩ <;>
    (show (((((w.heap.push o1).push o2).push o3).push o4).push o5)[_]? = _; simp only [Array.getElem?_push, Array.size_push]; repeat (first | rfl | (rw [if_pos (by omega)]) | (rw [if_neg (by omega)])))
theorem run_indexAt {P : Program} {t e : TypeId} {z : Option Value} {s b : Nat} (hu : P.underlying t = some (.slice e)) (hq : (P.info? e).map (fun i => (i.zero, i.size, i.bytes)) = some (z, s, b)) {ad : Addr} {n c i : Nat} (hi : i < n) (w : World) :
    (Instr.indexAt t (.slice (some ad) n c) (.int .i64 (i : Int))).run P w = .ok (.pointer (some (ad.add (i * s)))) w := by
  obtain ⟨q, hq1, hq2⟩ := Option.map_eq_some_iff.1 hq
  have hs : (sizeOf e).run P w = .ok s w := by
    have : q.size = s := by injection hq2 with _ h2; injection h2
    simp [sizeOf, typeInfo, hq1, this]
  unfold Instr.indexAt
  simp only [Sem.run_bind, asIntOf, Sem.run_pure, Result.andThen_ok, run_underlying hu]
  rw [if_pos ⟨by omega, by omega⟩]
  simp [hs]
theorem meas_less {n i : Nat} (h : i < n) : n - ((i + 1 : Nat) : Int).toNat < n - ((i : Nat) : Int).toNat := by omega
theorem num_facts {i n : Nat} (h : i < n) (hn : n ≤ 140737489403904) : wrap64 ((i : Int) + 1) = ((i + 1 : Nat) : Int) := by unfold wrap64; omega
theorem box_facts {W : World} {B : Nat} {v : Value} {t : TypeId} (h : W.heap[B]? = some (.cells #[v] t (0, 0))) : W.cell? ⟨B, 0, none⟩ = some v ∧ W.frozen? ⟨B, 0, none⟩ = false := by
  constructor <;> simp [World.cell?, World.frozen?, h]
theorem firstOf_none {o : L8} {xs : List L8} (h : ∀ y ∈ segs 44 o, y ∉ xs) : firstOf o xs = [82, 101, 106, 101, 99, 116] := by
  unfold firstOf
  rw [List.find?_eq_none.2 (by simpa using h)]
theorem firstOf_some {o : L8} {xs : List L8} {pre : List L8} {x : L8} (hp : pre ++ [x] <+: segs 44 o) (h : ∀ y ∈ pre, y ∉ xs) (hx : x ∈ xs) : firstOf o xs = x := by
  obtain ⟨t, e⟩ := hp
  unfold firstOf
  rw [← e, List.find?_append, List.find?_append, List.find?_eq_none.2 (by simpa using h)]
  simp [hx]

set_option maxRecDepth 100000 in
set_option maxHeartbeats 2000000 in
theorem first_in (o : L8) (own : Sl) (xs : List L8) (w : World) (hrd : Rd w 1 own (strs xs)) (ho : o.length ≤ 9223372036854775806) :
    CallsIn Fence.wide 11 Tryd.prog 17 #[.string (str o), .slice own.A own.n own.c] w fun e W' => e = .returned (.string (str (firstOf o xs))) ∧ Below w.heap.size w W' := by
  refine callsIn_of_wp_marks Tryd.func17 rfl trivial ?_ rfl
  simp only [Tryd.ntmps17, List.size_toArray, List.length_cons, List.length_nil, Nat.reduceAdd, Nat.reduceSub, Array.replicate_succ, Array.replicate_zero, List.push_toArray, List.append_toArray, List.nil_append, List.cons_append]
  gi_wp2
  refine ⟨trivial, (splitSeqPub_in _ _ _).mono ?_⟩
  rintro e w' ⟨rfl, rfl⟩
  gi_wp2
  obtain ⟨W0, hW0, hsz, b0, b1, b2, b3, b4, hBW⟩ := alloc5 w (.cells #[.slice own.A own.n own.c] t_sl_string) (.cells #[.string ⟨#[]⟩] t_string) (.cells #[.string (str o)] t_string) (.cells #[.string ⟨#[44]⟩] t_string) (.cells #[.int .i64 0] t_int)
  rw [hW0]
  refine wpIn_rangeFunc_box (α := L8) (n₀ := w.heap.size + 5) (Bs := w.heap.size + 2) rfl (by decide) (gf := 40) (lb := #[.pointer (some ⟨w.heap.size + 3, 0, none⟩), .pointer (some ⟨w.heap.size + 2, 0, none⟩), .pointer (some ⟨w.heap.size + 4, 0, none⟩)]) rfl trivial
    (enters_of Tryd.func40 (by kernel_rfl) rfl) (encs := fun x => #[.string (str x)]) (S := fun ys => ys = segs 44 o) (Sp := fun pre => pre <+: segs 44 o)
    (fun l J Jx W hW hJs hY hJ0 => splitSeq1_in l (w.heap.size + 2) (w.heap.size + 3) (w.heap.size + 4) (w.heap.size + 5) 44 o (by omega) (by omega) (by omega) (by omega) (by omega) J Jx hJs hY W
      ((hW.cell (p := ⟨w.heap.size + 3, 0, none⟩) (by show w.heap.size + 3 < _; omega)).trans (box_facts b3).1) ((hW.cell (p := ⟨w.heap.size + 2, 0, none⟩) (by show w.heap.size + 2 < _; omega)).trans (box_facts b2).1)
      ((by unfold World.frozen?; rw [show W.heap[w.heap.size + 2]? = _ from hW.block _ (by omega)] : W.frozen? ⟨w.heap.size + 2, 0, none⟩ = W0.frozen? ⟨w.heap.size + 2, 0, none⟩).trans (box_facts b2).2)
      ((hW.cell (p := ⟨w.heap.size + 4, 0, none⟩) (by show w.heap.size + 4 < _; omega)).trans (box_facts b4).1) hJ0 ho)
    (by omega) (by omega) (fun _ => rfl)
    (fun pre W => ((∀ y ∈ pre, y ∉ xs) ∧ W.cell? ⟨w.heap.size, 0, none⟩ = some (.slice own.A own.n own.c) ∧ W.cell? ⟨w.heap.size + 1, 0, none⟩ = some (.string ⟨#[]⟩) ∧ W.frozen? ⟨w.heap.size + 1, 0, none⟩ = false) ∧ Below w.heap.size w W)
    (fun c pre W => (c = .ret ∧ ∃ q x, pre = q ++ [x] ∧ (∀ y ∈ q, y ∉ xs) ∧ x ∈ xs ∧ W.cell? ⟨w.heap.size + 1, 0, none⟩ = some (.string (str x))) ∧ Below w.heap.size w W)
    (OwnFrom.and (Own.from (fun s A B row hs hg hr => ⟨hs.1, cell_kept hs.2.1 hg hr, cell_kept hs.2.2.1 hg hr, (frozen_kept hs.2.2.1 hg hr).trans hs.2.2.2⟩) _) (ownFrom_below (Nat.le_refl _) (by omega)))
    (fun c => OwnFrom.and (Own.from (fun s A B row hs hg hr => ⟨hs.1, by obtain ⟨q, x, h1, h2, h3, h4⟩ := hs.2; exact ⟨q, x, h1, h2, h3, cell_kept h4 hg hr⟩⟩) _) (ownFrom_below (Nat.le_refl _) (by omega)))
    (fun p A v hs => ⟨⟨hs.1.1, (cell_other (by omega) _).trans hs.1.2.1, (cell_other (by omega) _).trans hs.1.2.2.1, (World.frozen?_setCell _ _ _ _).trans hs.1.2.2.2⟩, hs.2.setCell (p := ⟨w.heap.size + 2, 0, none⟩) (by simp) _⟩)
    ⟨⟨by simp, (box_facts b0).1, (box_facts b1).1, (box_facts b1).2⟩, hBW⟩
    (fun x => { tmps := #[.string (str o), .slice own.A own.n own.c, undef, .pointer (some ⟨w.heap.size, 0, none⟩), .pointer (some ⟨w.heap.size + 1, 0, none⟩), .string (str x), undef, undef, .string (str o),
      .func (.func 40) #[] #[.pointer (some ⟨w.heap.size + 3, 0, none⟩), .pointer (some ⟨w.heap.size + 2, 0, none⟩), .pointer (some ⟨w.heap.size + 4, 0, none⟩)], .string (str x), undef, undef, undef, undef, undef, undef, undef, undef, undef, undef, undef], defers := [] }) ?assign ?body ?done ?stop
  case assign =>
    intro l x W K hK
    gi_wp2_with gi_round_op_f
    exact hK
  case body =>
    rintro l pre x W ⟨⟨hp, hc0, hc1, hfr⟩, hB⟩
    gi_wp2_with gi_round_op_f
    have hlen : xs.length = own.n := by have := hrd.len; simpa using this
    gi_loopw [13] (fun p wr => ∃ i : Nat, p = .int .i64 (i : Int) ∧ i ≤ xs.length ∧ wr = W ∧ ∀ y ∈ xs.take i, y ≠ x) (fun p wr => match p with | .int _ i => xs.length - i.toNat | _ => 0)
    case atStart => exact ⟨0, rfl, Nat.zero_le _, rfl, by simp⟩
    case round =>
      obtain ⟨i, rfl, hi, rfl, hbef⟩ := hrel
      by_cases hlt : i < xs.length
      · obtain ⟨ad, hA, hcl⟩ := (hrd.grow (keep_of_below hB)).at_ (by intro q; rw [List.map_eq_nil_iff.1 q] at hlt; exact absurd hlt (Nat.not_lt_zero _))
        have hce : wr.cell? (ad.add i) = some (.string (str xs[i])) := hcl i _ (by simp [hlt])
        have hlo : i < own.n := hlen ▸ hlt
        have hix := run_indexAt (P := Tryd.prog) u_sl_string i_string (ad := ad) (c := own.c) hlo wr
        rw [Nat.mul_one] at hix
        have hw1 := num_facts hlo hrd.nb
        rw [hA] at hc0 ⊢
        gi_wp2_with gi_round_op_f
        · rename_i hx
          have hxe : x = xs[i] := of_decide_eq_true (sEq_str.symm.trans (show sEq (str x) (str xs[i]) = true from hx))
          exact ⟨KeepsOthers.setCell _ _ _, ⟨rfl, pre, x, rfl, hp, hxe ▸ List.getElem_mem hlt, hxe ▸ World.cell?_setCell_same' _ _ _ (by rw [hc1]; rfl)⟩, hB.setCell (p := ⟨w.heap.size + 1, 0, none⟩) (Nat.le_succ _) _⟩
        · rename_i hx
          have hxe : xs[i] ≠ x := fun q => by rw [q, beq_self_eq_true] at hx; cases hx
          refine ⟨⟨i + 1, by rw [hw1], hlt, trivial, fun y hy => ?_⟩, ?_⟩
          · rw [List.take_succ_eq_append_getElem hlt] at hy
            exact (List.mem_append.1 hy).elim (hbef y) (fun q => by rw [List.mem_singleton.1 q]; exact hxe)
          · rw [hw1]
            exact meas_less hlt
      · gi_wp2_with gi_round_op_f
        have hall : xs.take i = xs := List.take_of_length_le (Nat.le_of_not_lt hlt)
        rw [hall] at hbef
        exact ⟨KeepsOthers.refl _, Below.refl _ _, ⟨fun y hy => (List.mem_append.1 hy).elim (hp y) (fun q hm => by rw [List.mem_singleton.1 q] at hm; exact hbef x hm rfl), hc0, hc1, hfr⟩, hB⟩
  case done =>
    rintro D ys W hD rfl ⟨⟨hne, _, hcr, hfr⟩, hB⟩ hK
    gi_wp2
    have hK' := (KeepsOthers.setCell W ⟨w.heap.size + 1, 0, none⟩ (.string ⟨#[82, 101, 106, 101, 99, 116]⟩)).same D _ hK rfl
    refine ⟨by simp, .inl ⟨_, _, rfl, run_takeDeferred hK', ?_⟩⟩
    have hc5 := cell_kept (World.cell?_setCell_same' W ⟨w.heap.size + 1, 0, none⟩ (.string ⟨#[82, 101, 106, 101, 99, 116]⟩) (by rw [hcr]; rfl)) (grownBy_putObj' _ D (.deferred none)) (fun r e => by cases e; exact ⟨_, hK', rfl⟩)
    refine ⟨.string ⟨#[82, 101, 106, 101, 99, 116]⟩, ?_, by rw [firstOf_none hne]; rfl, (hB.setCell (p := ⟨w.heap.size + 1, 0, none⟩) (by simp) _).trans (below_putObj _ _ _ (by omega))⟩
    simp [results, Tryd.f17, go_sem, hc5]
  case stop =>
    rintro D c pre W hD hpre ⟨⟨rfl, q, x, rfl, hq, hx, hcr⟩, hB⟩ hK
    gi_wp2
    refine ⟨by simp, .inl ⟨_, _, rfl, run_takeDeferred hK, ?_⟩⟩
    have hc5 := cell_kept hcr (grownBy_putObj' _ D (.deferred none)) (fun r e => by cases e; exact ⟨_, hK, rfl⟩)
    refine ⟨.string (str x), ?_, by rw [firstOf_some hpre hq hx], hB.trans (below_putObj _ _ _ (by omega))⟩
    simp [results, Tryd.f17, go_sem, hc5]
/-- text.First -/
theorem first_spec {o : L8} {own : Sl} {xs : List L8} {w : World} {R : ByteArray → World → Prop} (hrd : Rd w 1 own (strs xs)) (ho : o.length ≤ 9223372036854775806)
    (h : ∀ w', Grow w w' → R (str (firstOf o xs)) w') : Ctext_First (str o) own w R := by
  show CallK _ _ _ _ _ _
  unfold CallK
  refine (callsIn_wide.1 (first_in o own xs w hrd ho)).mono ?_
  rintro e w' ⟨rfl, hB⟩
  exact ⟨str (firstOf o xs), rfl, h w' (keep_of_below hB)⟩
end Go.Proofs.YtiokflecflbopaaDoor

/- The reference's First and Find on the door seat; TextAsks. -/
namespace Go.Proofs.YtiokflecflbopaaDoor
open Go CF
/-- the parts that begin at f: the one that ends at the first comma at or behind i, and what lies behind -/
theorem segs_at {l : L8} {c : UInt8} : ∀ {f i : Nat}, f ≤ i → i ≤ l.length → (∀ x ∈ (l.take i).drop f, x ≠ c) →
    (i < l.length → l[i]? = some c → segs c (l.drop f) = (l.take i).drop f :: segs c (l.drop (i + 1))) ∧ (i = l.length → segs c (l.drop f) = [(l.take i).drop f]) := by
  intro f i hfi hil hno
  have hnot : c ∉ (l.take i).drop f := fun q => hno c q rfl
  refine ⟨fun hlt hc => ?_, fun he => ?_⟩
  · have e : l.drop f = (l.take i).drop f ++ c :: l.drop (i + 1) := by
      have h1 : l[i] = c := by rw [List.getElem?_eq_getElem hlt] at hc; exact Option.some.inj hc
      conv => lhs; rw [← List.take_append_drop i l]
      rw [List.drop_append_of_le_length (by simp; omega), List.drop_eq_getElem_cons hlt, h1]
    have hcut : cutAt c (l.drop f) = some ((l.take i).drop f, l.drop (i + 1)) := by rw [e]; exact cutAt_of hnot
    exact segs_some hcut
  · have e : l.drop f = (l.take i).drop f := by rw [he, List.take_length]
    rw [e]
    exact segs_none (cutAt_not hnot)
theorem rfirst_spec {o : L8} {own : Sl} {xs : List L8} {w : World} {R : ByteArray → World → Prop} (hrd : Rd w 1 own (strs xs)) (ho : o.length ≤ 140737489403904)
    (h : ∀ w', Grow w w' → R (str (firstOf o xs)) w') : Cpalletref18_First (str o) own w R := by
  refine Fpalletref18_First.calls _ _ _ _ ?_
  have hlen : xs.length = own.n := by have := hrd.len; simpa using this
  have hnb := hrd.nb
  refine ⟨fun fr i w' => Grow w w' ∧ ∃ (f j : Nat) (pre : List L8), fr = f ∧ i = j ∧ j ≤ o.length + 1 ∧ (∀ y ∈ pre, y ∉ xs) ∧
      ((f ≤ j ∧ j ≤ o.length ∧ (∀ x ∈ (o.take j).drop f, x ≠ 44) ∧ segs 44 o = pre ++ segs 44 (o.drop f)) ∨ (j = o.length + 1 ∧ segs 44 o = pre)), fun _ i _ => o.length + 1 - i.toNat,
    ⟨Keep.refl _ _, 0, 0, [], rfl, rfl, by omega, by simp, .inl ⟨Nat.le_refl _, Nat.zero_le _, by simp, rfl⟩⟩, ?_⟩
  rintro fr i w1 ⟨hg, f, j, pre, rfl, rfl, hj, hpre, hcase⟩
  rw [size_str]
  refine br_dec (fun hle => ?_) (fun hgt => ?_)
  · rcases hcase with ⟨hfj, hjl, hno, hseg⟩ | ⟨he, _⟩
    · refine letX1 (I := fun fr' u => Grow w u ∧ ∃ (f' : Nat) (pre' : List L8), fr' = f' ∧ (∀ y ∈ pre', y ∉ xs) ∧
          ((f' ≤ j + 1 ∧ j + 1 ≤ o.length ∧ (∀ x ∈ (o.take (j + 1)).drop f', x ≠ 44) ∧ segs 44 o = pre' ++ segs 44 (o.drop f')) ∨ (j = o.length ∧ segs 44 o = pre'))) (fun fr' u => ?_) (fun hjn => ?_)
      · rintro ⟨hgu, f', pre', rfl, hp', hc'⟩
        rw [w64 (by omega) (by omega)]
        refine ⟨⟨hgu, f', j + 1, pre', rfl, by omega, by omega, hp', ?_⟩, (by omega : o.length + 1 - ((j : Int) + 1).toNat < o.length + 1 - (j : Int).toNat)⟩
        rcases hc' with q | ⟨q1, q2⟩
        · exact .inl q
        · exact .inr ⟨by omega, q2⟩
      · refine ⟨fun q => ⟨by omega, by have := of_decide_eq_true q; omega⟩, ?_⟩
        have hsp := segs_at (l := o) (c := 44) hfj hjl hno
        by_cases hc : j < o.length ∧ o[j]? ≠ some 44
        · have hb := bt_str hc.1
          have hne : o[j] ≠ 44 := fun q => hc.2 (by rw [List.getElem?_eq_getElem hc.1, q])
          have hne2 : o[j].toNat ≠ 44 := fun q => hne (UInt8.toNat_inj.1 (by rw [q]; rfl))
          rw [hb]
          refine br_t (by simp; omega) (hjn _ _ ⟨hg, f, pre, rfl, hpre, .inl ⟨by omega, hc.1, ?_, hseg⟩⟩)
          intro x hx
          rw [List.take_succ_eq_append_getElem hc.1, List.drop_append_of_le_length (by simp; omega)] at hx
          rcases List.mem_append.1 hx with q | q
          · exact hno x q
          · rw [List.mem_singleton.1 q]; exact hne
        · refine br_f ?_ ?_
          · by_cases hjl2 : j < o.length
            · have h44 : o[j]? = some 44 := Classical.not_not.1 fun q => hc ⟨hjl2, q⟩
              rw [List.getElem?_eq_getElem hjl2] at h44
              rw [bt_str hjl2, Option.some.inj h44]
              simp
            · rw [Bool.and_eq_false_iff]; left; exact decide_eq_false (by omega)
          · -- the part is looked up among ours
            have hseg2 : ∃ more, segs 44 o = (pre ++ [(o.take j).drop f]) ++ more ∧ (j < o.length → more = segs 44 (o.drop (j + 1))) ∧ (j = o.length → more = []) := by
              by_cases hjl2 : j < o.length
              · have h44 : o[j]? = some 44 := Classical.not_not.1 fun q => hc ⟨hjl2, q⟩
                exact ⟨_, by rw [hseg, hsp.1 hjl2 h44]; simp, fun _ => rfl, fun q => by omega⟩
              · exact ⟨[], by rw [hseg, hsp.2 (by omega)]; simp, fun q => by omega, fun _ => rfl⟩
            obtain ⟨more, hseg2, hm1, hm2⟩ := hseg2
            refine ⟨fun y u => Grow w u ∧ ∃ k : Nat, y = k ∧ k ≤ own.n ∧ ∀ z ∈ xs.take k, z ≠ (o.take j).drop f, fun y _ => own.n - y.toNat, ⟨hg, 0, rfl, Nat.zero_le _, by simp⟩, ?_⟩
            rintro y w2 ⟨hg2, k, rfl, hk, hbef⟩
            refine br_nat (fun hlt => ?_) (fun hge => ?_)
            · rintro w3 hw3
              have g3 : Grow w w3 := hg2.trans (keep_drew' hw3)
              have hkx : k < xs.length := by omega
              have hread : ∀ u, Grow w u → u.cell? ((gA own.A).add ((k : Int).toNat * 1)) = some (.string (str xs[k])) := fun u hu => by
                obtain ⟨a, hA, hcl⟩ := (hrd.grow hu).at_ (by intro q; rw [List.map_eq_nil_iff.1 q] at hkx; exact absurd hkx (Nat.not_lt_zero _))
                rw [hA]
                show u.cell? (a.add _) = _
                rw [Int.toNat_natCast, Nat.mul_one]
                exact hcl k _ (by simp [hkx])
              have hsome : own.A.isSome = true := by
                obtain ⟨a, hA, _⟩ := hrd.at_ (by intro q; rw [List.map_eq_nil_iff.1 q] at hkx; exact absurd hkx (Nat.not_lt_zero _))
                rw [hA]; rfl
              refine ⟨Grow w, g3, ⟨by omega, by omega, hsome⟩, str xs[k], hread, ⟨by omega, by omega, by omega⟩, ?_⟩
              rw [str_extract, Int.toNat_natCast, Int.toNat_natCast, sEq_str]
              refine br_dec (fun he => ?_) (fun hne => ?_)
              · refine ⟨⟨by omega, by omega, hsome⟩, str xs[k], hread _ g3, ?_⟩
                rw [he, ← firstOf_some (o := o) (xs := xs) (pre := pre) (x := (o.take j).drop f) ⟨more, hseg2.symm⟩ hpre (he ▸ List.getElem_mem hkx)]
                exact h _ g3
              · rw [w64 (by omega) (by omega)]
                refine ⟨⟨g3, k + 1, by omega, by omega, fun z hz => ?_⟩, (by omega : own.n - ((k : Int) + 1).toNat < own.n - (k : Int).toNat)⟩
                rw [List.take_succ_eq_append_getElem hkx] at hz
                rcases List.mem_append.1 hz with q | q
                · exact hbef z q
                · rw [List.mem_singleton.1 q]; exact hne
            · rw [List.take_of_length_le (by omega)] at hbef
              have hpre2 : ∀ y ∈ pre ++ [(o.take j).drop f], y ∉ xs := fun y hy hm => by
                rcases List.mem_append.1 hy with q | q
                · exact hpre y q hm
                · rw [List.mem_singleton.1 q] at hm; exact hbef _ hm rfl
              refine hjn _ _ ⟨hg2, j + 1, pre ++ [(o.take j).drop f], (w64 (by omega) (by omega)).trans (by omega), hpre2, ?_⟩
              by_cases hjl2 : j < o.length
              · refine .inl ⟨Nat.le_refl _, hjl2, ?_, by rw [hseg2, hm1 hjl2]⟩
                intro x hx
                rw [List.drop_eq_nil_of_le (by simp; omega)] at hx
                cases hx
              · exact .inr ⟨by omega, by rw [hseg2, hm2 (by omega), List.append_nil]⟩
    · omega
  · rcases hcase with ⟨_, hjl, _, _⟩ | ⟨_, hseg⟩
    · omega
    · have := h _ hg
      rw [firstOf_none (by rw [hseg]; exact hpre)] at this
      exact this
/-- the reference's Find -/
theorem rfind_spec {l : Sl} {ps : List Pr} {k : L8} {w : World} {R : ByteArray → Bool → World → Prop} (hl : Rd w 2 l (pvs ps))
    (h : ∀ w', Grow w w' → R (str ((find ps k).getD [])) (find ps k).isSome w') : Cpalletref18_Find l (str k) w R := by
  refine Fpalletref18_Find.calls _ _ _ _ ?_
  have hn := rd_pairs hl
  have hb := hl.nb
  refine ⟨fun x w' => Grow w w' ∧ ∃ j : Nat, x = j ∧ j ≤ l.n ∧ ∀ p ∈ ps.take j, p.1 ≠ k, fun x _ => l.n - x.toNat, ⟨Keep.refl _ _, 0, rfl, by omega, by simp⟩, ?_⟩
  rintro x w0 ⟨hg, j, rfl, hj, hall⟩
  refine br_nat (fun hlt => ?_) (fun hge => ?_)
  · have hjl : j < ps.length := by omega
    obtain ⟨a, ha, hc⟩ := rd_pair (hl.grow hg) hjl
    have bnd : 0 ≤ (j : Int) ∧ (j : Int) < (l.n : Int) ∧ l.A.isSome = true := ⟨by omega, by omega, by rw [ha]; rfl⟩
    refine ⟨bnd, str ps[j].1, by rw [ha]; exact hc 0 _ rfl, ?_⟩
    rw [sEq_str]
    refine br_dec (fun he => ?_) (fun hne => ?_)
    · refine ⟨bnd, str ps[j].2, by rw [ha]; exact hc 1 _ rfl, ?_⟩
      have := h w0 hg
      rwa [find_none_take hjl hall he] at this
    · rw [w64 (by omega) (by omega)]
      exact ⟨⟨hg, j + 1, by omega, by omega, mem_take_succ hjl hall hne⟩, by dsimp only; omega⟩
  · have hjn : j = l.n := by omega
    rw [List.take_of_length_le (by omega)] at hall
    have := h w0 hg
    rw [find_none_all hall] at this
    exact this
end Go.Proofs.YtiokflecflbopaaDoor

/- TextAsks. -/
namespace Go.Proofs.YtiokflecflbopaaDoor
open Go CF
set_option maxHeartbeats 1000000 in
theorem textAsks_spec {l : Sl} {ps : List Pr} {k o : L8} {own : Sl} {xs : List L8} (n low high : Nat) (yes : Bool) {w : World} {R : Bool → World → Prop} (hv : ErrV w) (ht : TabV w)
    (hl : Rd w 2 l (pvs ps)) (hown : Rd w 1 own (strs xs)) (ho : o.length ≤ 140737489403904) (hn : n < 18446744073709551616) (h : ∀ w', Grow w w' → R true w') :
    Cpalletlaw18_TextAsks l (str k) (str o) own (n : Int) (low : Int) (high : Int) yes w R := by
  refine Fpalletlaw18_TextAsks.calls _ _ _ _ _ _ _ _ _ _ ?_
  refine awake18_spec fun w0 g0 => br_f rfl ?_
  refine find_text_spec (hl.grow g0) fun w1 g1 => rfind_spec (hl.grow (g0.trans g1)) fun w2 g2 => ?_
  have g02 := (g0.trans g1).trans g2
  have tail : ∀ w4, Grow w w4 → ∀ (n1 : Int) (b3 : Bool), Br ((((!(sEq (str ((find ps k).getD [])) (str ((find ps k).getD [])))) || (!((find ps k).isSome == (find ps k).isSome))) || (n1 != n1)) || (!(b3 == b3))) (R false w4)
      (Ctext_Least (str o) (n : Int) (low : Int) (high : Int) w4 fun s2 w05 => Cpalletref18_Least (str o) (n : Int) (low : Int) (high : Int) w05 fun s3 w06 => letJ (fun (s4 : ByteArray) (w07 : World) => letJ (fun (s5 : ByteArray) (w08 : World) => letJ (fun (s6 : ByteArray) (w09 : World) => letJ (fun (s7 : ByteArray) (w010 : World) => letJ (fun (s8 : ByteArray) (w011 : World) => letJ (fun (s9 : ByteArray) (w012 : World) => R ((((sEq s2 s3) && (sEq s4 s5)) && (sEq s6 s7)) && (sEq s8 s9)) w012) fun J_ => ((((sEq s2 s3) && (sEq s4 s5)) && (sEq s6 s7)) = true → Cpalletref18_First (str o) own w011 J_) ∧ ((((sEq s2 s3) && (sEq s4 s5)) && (sEq s6 s7)) = false → J_ (Kd.dflt .s) w011)) fun J_1 => ((((sEq s2 s3) && (sEq s4 s5)) && (sEq s6 s7)) = true → Ctext_First (str o) own w010 J_1) ∧ ((((sEq s2 s3) && (sEq s4 s5)) && (sEq s6 s7)) = false → J_1 (Kd.dflt .s) w010)) fun J_2 => (((sEq s2 s3) && (sEq s4 s5)) = true → Cpalletref18_Either (str o) yes w09 J_2) ∧ (((sEq s2 s3) && (sEq s4 s5)) = false → J_2 (Kd.dflt .s) w09)) fun J_3 => (((sEq s2 s3) && (sEq s4 s5)) = true → Ctext_Either (str o) yes w08 J_3) ∧ (((sEq s2 s3) && (sEq s4 s5)) = false → J_3 (Kd.dflt .s) w08)) fun J_4 => ((sEq s2 s3) = true → Cpalletref18_Both (str o) yes w07 J_4) ∧ ((sEq s2 s3) = false → J_4 (Kd.dflt .s) w07)) fun J_5 => ((sEq s2 s3) = true → Ctext_Both (str o) yes w06 J_5) ∧ ((sEq s2 s3) = false → J_5 (Kd.dflt .s) w06)) := by
    intro w4 g4 n1 b3
    have hself : ∀ x : L8, sEq (str x) (str x) = true := fun x => by rw [sEq_str]; exact decide_eq_true rfl
    refine br_f (by rw [hself]; simp) ?_
    refine least_spec (own := n) (hv.grow g4) (ht.grow g4) ho hn fun w5 g5 => rleast_spec ho hn fun w6 g6 => ?_
    have g06 := (g4.trans g5).trans g6
    simp only [hself, Bool.true_and]
    refine letJ1 (I := fun s u => s = str (bothOf o yes) ∧ Grow w u) (fun s4 w7 => ?_) (fun hj => ⟨fun _ => both_spec (hj _ _ ⟨rfl, g06⟩), fun q => (by cases q)⟩)
    rintro ⟨rfl, g7⟩
    refine letJ1 (I := fun s u => s = str (bothOf o yes) ∧ Grow w u) (fun s5 w8 => ?_) (fun hj => ⟨fun _ => rboth_spec (hj _ _ ⟨rfl, g7⟩), fun q => (by cases q)⟩)
    rintro ⟨rfl, g8⟩
    simp only [hself, Bool.true_and]
    refine letJ1 (I := fun s u => s = str (eitherOf o yes) ∧ Grow w u) (fun s6 w9 => ?_) (fun hj => ⟨fun _ => either_spec (hj _ _ ⟨rfl, g8⟩), fun q => (by cases q)⟩)
    rintro ⟨rfl, g9⟩
    refine letJ1 (I := fun s u => s = str (eitherOf o yes) ∧ Grow w u) (fun s7 w10 => ?_) (fun hj => ⟨fun _ => reither_spec (hj _ _ ⟨rfl, g9⟩), fun q => (by cases q)⟩)
    rintro ⟨rfl, g10⟩
    simp only [hself, Bool.true_and]
    refine letJ1 (I := fun s u => s = str (firstOf o xs) ∧ Grow w u) (fun s8 w11 => ?_) (fun hj => ⟨fun _ => first_spec (hown.grow g10) (by omega) fun w' g => hj _ _ ⟨rfl, g10.trans g⟩, fun q => (by cases q)⟩)
    rintro ⟨rfl, g11⟩
    refine letJ1 (I := fun s u => s = str (firstOf o xs) ∧ Grow w u) (fun s9 w12 => ?_) (fun hj => ⟨fun _ => rfirst_spec (hown.grow g11) ho fun w' g => hj _ _ ⟨rfl, g11.trans g⟩, fun q => (by cases q)⟩)
    rintro ⟨rfl, g12⟩
    rw [hself]
    exact h _ g12
  refine number_spec (hv.grow g02) ho (fun m w3 hm g3 => rnumber_spec ho (fun m' hm' => ?_) (fun hm' => by rw [hm] at hm'; cases hm')) (fun w3 hm g3 => rnumber_spec ho (fun m' hm' => by rw [hm] at hm'; cases hm') (fun _ => ?_))
  · obtain rfl : m = m' := Option.some.inj (hm.symm.trans hm')
    exact tail w3 (g02.trans g3) _ _
  · exact tail w3 (g02.trans g3) _ _
end Go.Proofs.YtiokflecflbopaaDoor

/- The row of TextAsks. -/
namespace Go.Proofs.YtiokflecflbopaaDoor
open Go CF
section
variable {H : Type} {enc : TypeId × Value → H} {w : World} {base : Nat} {spare : Nat → Bool} {held : Bool}
theorem flat_strs (l : List L8) : l.flatMap (fun b => [Value.string (str b)]) = strs l := by
  unfold strs
  induction l with
  | nil => rfl
  | cons a r ih => simp only [List.flatMap_cons, ih, List.map_cons, List.singleton_append]
theorem opens_strs : Opens enc Tryd.prog w base spare held t_sl_string fun cs => ∃ s : Sl, cs = [.slice s.A s.n s.c] ∧ ∃ xs : List L8, Rd w 1 s (strs xs) :=
  (opens_slice (f := fun x : L8 => [.string (str x)]) (Q := fun x => x.length ≤ 140737488351232) (z := 1) (bytes := 16) u_sl_string (by kernel_rfl) (by kernel_rfl) (by decide) (fun _ => rfl) (opens_str u_string)).mono
    fun _ ⟨s, h1, xs, h2, _⟩ => ⟨s, h1, xs, flat_strs xs ▸ h2⟩
end
theorem textAsks_row {l : Sl} {ps : List Pr} {k o : ByteArray} {own : Sl} {xs : List L8} {n low high : Int} {yes : Bool} {w : World} {R : Bool → World → Prop} (hl : Rd w 2 l (pvs ps)) (ho : o.size ≤ 140737488351232) (hown : Rd w 1 own (strs xs))
    (wn : (Lit.int .u64 n).wf = true) (wl : (Lit.int .u64 low).wf = true) (wh : (Lit.int .u64 high).wf = true) (hv : ErrV w) (ht : TabV w) (h : ∀ w', Grow w w' → R true w') :
    Cpalletlaw18_TextAsks l k o own n low high yes w R := by
  obtain ⟨n, rfl, hn⟩ := u64_nat wn
  obtain ⟨low, rfl, _⟩ := u64_nat wl
  obtain ⟨high, rfl, _⟩ := u64_nat wh
  exact textAsks_spec (k := ls k) (o := ls o) n low high yes hv ht hl hown (by rw [length_ls]; omega) hn h
end Go.Proofs.YtiokflecflbopaaDoor
