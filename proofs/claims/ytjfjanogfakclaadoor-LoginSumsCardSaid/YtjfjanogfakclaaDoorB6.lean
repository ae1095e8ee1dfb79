import Derived.RangeFuncNested
import Derived.RangeFuncLeaves
import Derived.Shelf.Abstract
import Derived.WalkKit
import Derived.OwnWalkIn
import Derived.TacticsInMore
import Derived.LoopNIn
import Derived.LoopIn
import Derived.Lib.AppendIntMem
import Derived.Test.YtjfjanogfakclaaDoorB5
/- A range over an iterator that moves its own captured cell on (strings.SplitSeq), and strings.SplitSeq's own. -/
namespace Go.Proofs.YtjfjanogfakclaaDoor
open Go CF Go.RowKit
variable {F : Fence} {n : Nat} {P : Program}

/-- an iterator that writes over its own cell Bs: what the caller knows must abide that -/
def BoxSeq {α : Type} (F : Fence) (n : Nat) (P : Program) (g : Nat) (lb : Array Value) (encs : α → Array Value) (n₀ Bs : Nat) (S Sp : List α → Prop) (w : World) : Prop :=
  ∀ (l : Nat) (J Jx : List α → World → Prop) (W : World), Below w.heap.size w W → (∀ s A v, J s A → J s (A.setCell ⟨Bs, 0, none⟩ v)) →
    (∀ pre x W1, J pre W1 → YieldAt F (n - 1) P l (encs x) W1 fun e W' =>
      (e = .returned (.bool true) ∧ J (pre ++ [x]) W' ∧ Below n₀ W1 W') ∨ (e = .returned (.bool false) ∧ Jx (pre ++ [x]) W')) →
    J [] W →
    CallsIn F n P g (#[.func (.yield l) #[] #[]] ++ lb) W fun e W' => (∃ v, e = .returned v) ∧ ((∃ xs, S xs ∧ J xs W') ∨ (∃ pre, Sp pre ∧ Jx pre W'))

theorem below_putObj {n₀ : Nat} (W : World) (l : Nat) (o : Obj) (h : n₀ ≤ l) : Below n₀ W (W.putObj l o) :=
  ⟨rfl, rfl, rfl, by simp, fun k hk => World.putObj_heap_other (by omega)⟩

/-- a range over such an iterator: the kit's law for iterators that write nothing of their own, turned -/
theorem wpIn_rangeFunc_box {α : Type} {g : Operand} {ps : Array Tmp} {assign body : Code} {Q : Exit → Act → World → Prop} {a : Act} {w : World} {n₀ Bs : Nat}
    (hro : F.round = none) (h1 : 1 ≤ n) {gf : Nat} {lb : Array Value} (hg : a.eval g = .func (.func gf) #[] lb) (hFg : F.fn gf) (eg : ∀ args w, (callFunc gf args).run P w = .ok (.enter gf args) w)
    {encs : α → Array Value} {S Sp : List α → Prop} (hseq : BoxSeq F (n - 1) P gf lb encs n₀ Bs S Sp w) (hn0 : n₀ ≤ w.heap.size) (hBs : Bs < w.heap.size) (hps : ∀ x, (encs x).size = ps.size)
    (I : List α → World → Prop) (Ix : Code → List α → World → Prop) (hI : OwnFrom w.heap.size I) (hIx : ∀ c, OwnFrom w.heap.size (Ix c)) (hIs : ∀ s A v, I s A → I s (A.setCell ⟨Bs, 0, none⟩ v)) (h0 : I [] w) (a₁ : α → Act)
    (hassign : ∀ (l : Nat) (x : α) (W : World) (K : Act → World → Prop), K (a₁ x) W →
      assign.wpIn (F.inRound l) (n - 1 - 1) P (Exit.then K (fun _ _ _ => False)) { tmps := (ps.zip (encs x)).foldl (fun t (p, v) => t.setIfInBounds p v) a.tmps, defers := [] } W)
    (hbody : ∀ (l : Nat) (pre : List α) (x : α) (W : World), I pre W → body.wpIn (F.inRound l) (n - 1 - 1) P (ownPostK (Below n₀) I Ix (pre ++ [x]) W) (a₁ x) W)
    (hdone : ∀ (D : Nat) (xs : List α) (W : World), w.heap.size ≤ D → S xs → I xs W → W.heap[D]? = some (.deferred (some [])) → Q .normal { a with defers := { target := .collected D, args := #[] } :: a.defers } W)
    (hstop : ∀ (D : Nat) (c : Code) (pre : List α) (W : World), w.heap.size ≤ D → Sp pre → Ix c pre W → W.heap[D]? = some (.deferred (some [])) → c.wpIn F n P Q { a with defers := { target := .collected D, args := #[] } :: a.defers } W) :
    (Code.rangeFunc g ps assign body).wpIn F n P Q a w := by
  refine wpIn_rangeFunc ?_
  intro fn hfn
  rw [hro]
  obtain ⟨rec, hrec⟩ : ∃ rec : LoopState → Option Code → Loop, rec = fun st pe => { state := st, pending := pe, fn, tmps := a.tmps, params := ps, assign, body, defers := w.heap.size } := ⟨_, rfl⟩
  obtain ⟨W1, hW1⟩ : ∃ W1, (w.alloc (.deferred (some []))).alloc (.loop (rec .ready none)) = W1 := ⟨_, rfl⟩
  have hL1 : W1.heap[w.heap.size + 1]? = some (.loop (rec .ready none)) := by
    rw [← hW1]; have := World.alloc_heap_new (w.alloc (.deferred (some []))) (.loop (rec .ready none)); rwa [World.size_alloc] at this
  have hK1 : W1.heap[w.heap.size]? = some (.deferred (some [])) := by
    rw [← hW1]; exact (Below.heap_alloc _ _ _ (by simp)).trans (World.alloc_heap_new w _)
  have hI1 : I [] W1 := by rw [← hW1]; exact hI.alloc _ (hI.alloc _ h0)
  have hb1 : Below w.heap.size w W1 := by
    rw [← hW1]; exact (((Below.refl _ w).alloc (Nat.le_refl _) _).alloc (by simp) _)
  refine ⟨w.heap.size + 1, [{ target := .collected w.heap.size, args := #[] }], W1, { target := .fn (.func gf) lb, args := #[.func (.yield (w.heap.size + 1)) #[] #[]] }, W1, gf,
    #[.func (.yield (w.heap.size + 1)) #[] #[]] ++ lb, W1, ?_, ?_, ?_, ?_, fun _ => h1, ?_⟩
  · rw [← hW1, hrec]; exact run_enterLoop_outer _ _ _ _ _
  · simp only [resolve, hg]
    simp [go_sem]
  · intro f' hf'; simp [Target.leads] at hf'; subst hf'; exact hFg
  · simp [invoke, go_sem, eg]
  · refine (hseq (w.heap.size + 1)
      (fun pre W => I pre W ∧ W.heap[w.heap.size + 1]? = some (.loop (rec .ready none)) ∧ W.heap[w.heap.size]? = some (.deferred (some [])))
      (fun pre W => ∃ c, Ix c pre W ∧ W.heap[w.heap.size + 1]? = some (.loop (rec .done (some c))) ∧ W.heap[w.heap.size]? = some (.deferred (some [])))
      W1 hb1
      (fun s A v hs => ⟨hIs s A v hs.1, (Below.heap_setCell A ⟨Bs, 0, none⟩ v _ (by simp; omega)).trans hs.2.1, (Below.heap_setCell A ⟨Bs, 0, none⟩ v _ (by simp; omega)).trans hs.2.2⟩)
      ?_ ⟨hI1, hL1, hK1⟩).mono ?_
    · -- one round
      rintro pre x W ⟨hi, hl, hk⟩
      have hlt : w.heap.size + 1 < W.heap.size := (Array.getElem?_eq_some_iff.1 hl).1
      have hy := run_yield (P := P) (args := encs x) hl (by rw [hrec]; exact hps x)
      rw [hrec] at hy
      refine ⟨fn, _, assign, body, hy, roundIn_of_wpIn hfn (hassign _ x W _ ⟨_, run_beginRound hl (by rw [hrec]), ?_⟩)⟩
      have hl2 : (W.putObj (w.heap.size + 1) (.loop { rec .ready none with state := .busy })).heap[w.heap.size + 1]? = some (.loop { rec .ready none with state := .busy }) := World.putObj_heap_same hlt
      have hk2 : (W.putObj (w.heap.size + 1) (.loop { rec .ready none with state := .busy })).heap[w.heap.size]? = some (.deferred (some [])) := (World.putObj_heap_other (by omega)).trans hk
      have hw2 : Below n₀ W (W.putObj (w.heap.size + 1) (.loop { rec .ready none with state := .busy })) := below_putObj _ _ _ (by omega)
      refine wpIn_mono (hbody _ pre x _ (hI.putObj _ hi (by omega) hl rfl)) ?_
      have fin : ∀ (jump : Option Code) (W3 : World), KeepsOthers (W.putObj (w.heap.size + 1) (.loop { rec .ready none with state := .busy })) W3 →
          (Instr.endRound (w.heap.size + 1) jump).run P W3 = .ok (.bool jump.isNone) (W3.putObj (w.heap.size + 1) (.loop (rec (if jump.isNone then .ready else .done) jump))) ∧
          W3.heap[w.heap.size + 1]? = some (.loop { rec .ready none with state := .busy }) ∧
          (W3.putObj (w.heap.size + 1) (.loop (rec (if jump.isNone then .ready else .done) jump))).heap[w.heap.size + 1]? = some (.loop (rec (if jump.isNone then .ready else .done) jump)) ∧
          (W3.putObj (w.heap.size + 1) (.loop (rec (if jump.isNone then .ready else .done) jump))).heap[w.heap.size]? = some (.deferred (some [])) := fun jump W3 hk3 => by
        have hl3 := hk3.same _ _ hl2 rfl
        have := run_endRound (P := P) jump hl3
        rw [hrec] at this ⊢
        exact ⟨this, by rw [hrec] at hl3; exact hl3, World.putObj_heap_same (Array.getElem?_eq_some_iff.1 hl3).1, (World.putObj_heap_other (by omega)).trans (hk3.same _ _ hk2 rfl)⟩
      rintro e a3 W3 hp
      cases e with
      | normal =>
        obtain ⟨hk3, hkp3, hi3⟩ := hp
        obtain ⟨hr, hl3, hl4, hk4⟩ := fin none W3 hk3
        exact ⟨_, _, hr, .inl ⟨rfl, ⟨hI.putObj _ hi3 (by omega) hl3 rfl, hl4, hk4⟩, (hw2.trans hkp3).trans (below_putObj _ _ _ (by omega))⟩⟩
      | ret =>
        obtain ⟨hk3, hi3⟩ := hp
        obtain ⟨hr, hl3, hl4, hk4⟩ := fin (some .ret) W3 hk3
        exact ⟨_, _, hr, .inr ⟨rfl, .ret, (hIx _).putObj _ hi3 (by omega) hl3 rfl, hl4, hk4⟩⟩
      | exit id =>
        obtain ⟨hk3, hi3⟩ := hp
        obtain ⟨hr, hl3, hl4, hk4⟩ := fin (some (.exit id)) W3 hk3
        exact ⟨_, _, hr, .inr ⟨rfl, .exit id, (hIx _).putObj _ hi3 (by omega) hl3 rfl, hl4, hk4⟩⟩
      | goto t =>
        obtain ⟨hk3, hi3⟩ := hp
        obtain ⟨hr, hl3, hl4, hk4⟩ := fin (some (.goto t)) W3 hk3
        exact ⟨_, _, hr, .inr ⟨rfl, .goto t, (hIx _).putObj _ hi3 (by omega) hl3 rfl, hl4, hk4⟩⟩
      | panic ch => exact hp.elim
      | outgrown => exact hp.elim
    · -- behind the iterator
      rintro e W2 ⟨⟨v, rfl⟩, (⟨xs, hS, hi, hl, hk⟩ | ⟨pre, hSp, c, hi, hl, hk⟩)⟩
      · exact ⟨none, _, by have := run_endLoop (P := P) hl (by rw [hrec]; simp); rw [hrec] at this; exact this, hdone _ xs _ (Nat.le_refl _) hS (hI.putObj _ hi (by omega) hl rfl) ((World.putObj_heap_other (by omega)).trans hk)⟩
      · exact ⟨some c, _, by have := run_endLoop (P := P) hl (by rw [hrec]; simp); rw [hrec] at this; exact this, hstop _ c pre _ (Nat.le_refl _) hSp ((hIx c).putObj _ hi (by omega) hl rfl) ((World.putObj_heap_other (by omega)).trans hk)⟩
end Go.Proofs.YtjfjanogfakclaaDoor

/- strings.SplitSeq at one byte: the iterator's own function. -/
namespace Go.Proofs.YtjfjanogfakclaaDoor
open Go CF Go.RowKit
attribute [local go_sem] Oper.semAt_some

/-- the parts of a text between a byte -/
def segs (c : UInt8) : L8 → List L8
  | [] => [[]]
  | b :: r => if b = c then [] :: segs c r else match segs c r with | [] => [[b]] | s :: t => (b :: s) :: t
theorem segs_ne (c : UInt8) : ∀ l, segs c l ≠ []
  | [] => by simp [segs]
  | b :: r => by
    unfold segs
    split
    · simp
    · split <;> simp
theorem segs_none {c : UInt8} : ∀ {l : L8}, cutAt c l = none → segs c l = [l]
  | [], _ => rfl
  | b :: r, h => by
    simp only [cutAt] at h
    split at h
    · cases h
    · rename_i hb
      have := segs_none (Option.map_eq_none_iff.1 h)
      simp [segs, hb, this]
theorem segs_some {c : UInt8} : ∀ {l a b : L8}, cutAt c l = some (a, b) → segs c l = a :: segs c b
  | x :: r, a, b, h => by
    simp only [cutAt] at h
    split at h
    · rename_i hb
      cases h
      simp [segs, hb]
    · rename_i hb
      obtain ⟨p, hp, e⟩ := Option.map_eq_some_iff.1 h
      cases e
      have := segs_some (a := p.1) (b := p.2) hp
      simp [segs, hb, this]
theorem cut_facts {c : UInt8} {rest a b : L8} (h : cutAt c rest = some (a, b)) : rest.length = a.length + (b.length + 1) ∧ (str rest).extract 0 a.length = str a ∧
    (str rest).extract (a.length + 1) (str rest).size = str b := by
  obtain rfl := (cutAt_some h).1
  refine ⟨by simp, ?_, ?_⟩
  · rw [str_extract, List.drop_zero, List.take_left]
  · rw [str_extract, size_str, List.take_length]
    have : a ++ c :: b = (a ++ [c]) ++ b := by simp
    rw [this, show a.length + 1 = (a ++ [c]).length by simp, List.drop_left]
theorem cut_nums (x y z : Nat) (hz : z = x + (y + 1)) (hl : x + (y + 1) ≤ 9223372036854775806) : wrap64 (x : Int) = x ∧ wrap64 ((x : Int) + 1) = (x : Int) + 1 ∧ ¬ (x : Int) < 0 ∧
    (0 ≤ (x : Int) ∧ (x : Int) ≤ (z : Int)) ∧ (0 ≤ (x : Int) + 1 ∧ (x : Int) + 1 ≤ (z : Int)) ∧ ((x : Int) + 1).toNat = x + 1 :=
  ⟨by unfold wrap64; omega, by unfold wrap64; omega, by omega, by omega, by omega, by omega⟩
theorem cut_pack {c : UInt8} {rest a b : L8} (h : cutAt c rest = some (a, b)) (hl : rest.length ≤ 9223372036854775806) : ∃ k : Int, Lib.indexByte (str rest).data.toList c = k ∧ wrap64 k = k ∧ wrap64 (k + 1) = k + 1 ∧ ¬ k < 0 ∧
    (0 ≤ k ∧ k ≤ ((str rest).size : Int)) ∧ (0 ≤ k + 1 ∧ k + 1 ≤ ((str rest).size : Int)) ∧ (str rest).extract 0 k.toNat = str a ∧ (str rest).extract (k + 1).toNat (str rest).size = str b ∧
    (str b).size < (str rest).size ∧ b.length ≤ 9223372036854775806 := by
  obtain ⟨h1, h2, h3⟩ := cut_facts h
  have hi : Lib.indexByte (str rest).data.toList c = (a.length : Int) := by simpa [str] using (cutAt_some h).2.2
  have hsz : (str rest).size = a.length + (b.length + 1) := (size_str rest).trans h1
  obtain ⟨n1, n2, n3, n4, n5, n6⟩ := cut_nums a.length b.length (str rest).size hsz (h1 ▸ hl)
  refine ⟨a.length, hi, n1, n2, n3, n4, n5, h2, by rw [n6]; exact h3, ?_, ?_⟩
  · rw [hsz, size_str]; omega
  · omega
/-- how much of the text is left: read off the world -/
def leftOf (B : Nat) (w : World) : Nat := match w.cell? ⟨B, 0, none⟩ with | some (.string b) => b.size | _ => 0

theorem cell_other {W : World} {B B' : Nat} (h : B' ≠ B) (v : Value) : (W.setCell ⟨B, 0, none⟩ v).cell? ⟨B', 0, none⟩ = W.cell? ⟨B', 0, none⟩ := by
  unfold World.cell?
  rw [show (W.setCell ⟨B, 0, none⟩ v).heap[B']? = _ from Below.heap_setCell W ⟨B, 0, none⟩ v B' h]
set_option maxRecDepth 100000 in
set_option maxHeartbeats 2000000 in
theorem splitSeq1_in (l Bs B1 B3 n₀ : Nat) (c : UInt8) (s : L8) (hbs : Bs < n₀) (hb1 : B1 < n₀) (hb3 : B3 < n₀) (hne1 : B1 ≠ Bs) (hne3 : B3 ≠ Bs) (J Jx : List L8 → World → Prop)
    (hJs : ∀ p A v, J p A → J p (A.setCell ⟨Bs, 0, none⟩ v))
    (hY : ∀ pre x W1, J pre W1 → YieldAt Fence.wide 9 Tryd.prog l #[.string (str x)] W1 fun e W' => (e = .returned (.bool true) ∧ J (pre ++ [x]) W' ∧ Below n₀ W1 W') ∨ (e = .returned (.bool false) ∧ Jx (pre ++ [x]) W'))
    (W : World) (h1 : W.cell? ⟨B1, 0, none⟩ = some (.string ⟨#[c]⟩)) (hs : W.cell? ⟨Bs, 0, none⟩ = some (.string (str s))) (hf : W.frozen? ⟨Bs, 0, none⟩ = false) (h3 : W.cell? ⟨B3, 0, none⟩ = some (.int .i64 0)) (h0 : J [] W)
    (hlen : s.length ≤ 9223372036854775806) :
    CallsIn Fence.wide 10 Tryd.prog 57 #[.func (.yield l) #[] #[], .pointer (some ⟨B1, 0, none⟩), .pointer (some ⟨Bs, 0, none⟩), .pointer (some ⟨B3, 0, none⟩)] W fun e W' => (∃ v, e = .returned v) ∧
      ((∃ ys, ys = segs c s ∧ J ys W') ∨ (∃ pre, pre <+: segs c s ∧ Jx pre W')) := by
  refine callsIn_of_wp Tryd.func57 rfl trivial ?_ rfl
  simp only [Tryd.ntmps57, List.size_toArray, List.length_cons, List.length_nil, Nat.reduceAdd, Nat.reduceSub, Array.replicate_succ, Array.replicate_zero, List.push_toArray, List.append_toArray, List.nil_append, List.cons_append]
  gi_wp2
  gi_loopw [] (fun wr => ∃ pre rest, segs c s = pre ++ segs c rest ∧ rest.length ≤ 9223372036854775806 ∧ wr.cell? ⟨B1, 0, none⟩ = some (.string ⟨#[c]⟩) ∧ wr.cell? ⟨Bs, 0, none⟩ = some (.string (str rest)) ∧
      wr.frozen? ⟨Bs, 0, none⟩ = false ∧ wr.cell? ⟨B3, 0, none⟩ = some (.int .i64 0) ∧ J pre wr) (fun wr => leftOf Bs wr)
  case atStart => exact ⟨[], s, rfl, hlen, h1, hs, hf, h3, h0⟩
  case round =>
    obtain ⟨pre, rest, hseg, hlr, k1, ks, kf, k3, hJ⟩ := hrel
    have hX : ∀ w', CallsIn Fence.wide 9 Tryd.prog 59 #[.string (str rest), .string ⟨#[c]⟩] w' fun e w2 => e = .returned (.int .i64 (Lib.indexByte (str rest).data.toList c)) ∧ w2 = w' := fun w' => callsIn_wide.2 (Tryd.strings_Index_one (str rest) c w')
    cases hc : cutAt c rest with
    | none =>
      have hi : Lib.indexByte (str rest).data.toList c = -1 := by simpa [str] using (cutAt_none hc).2
      gi_wp2
      refine ⟨trivial, (hX _).mono ?_⟩
      rintro e w' ⟨rfl, rfl⟩
      simp only [hi]
      obtain ⟨fn, tmps, assign, body, hy, hR⟩ := hY pre rest _ hJ
      gi_wp2
      refine hR.mono ?_
      rintro e W3 (⟨rfl, hJ3, hk3⟩ | ⟨rfl, hJx3⟩)
      · gi_wp2
        go_end0
        exact ⟨⟨_, rfl⟩, .inl ⟨pre ++ [rest], by rw [hseg, segs_none hc], hJ3⟩⟩
      · gi_wp2
        go_end0
        exact ⟨⟨_, rfl⟩, .inr ⟨pre ++ [rest], by rw [hseg, segs_none hc]; exact List.prefix_refl _, hJx3⟩⟩
    | some q =>
      obtain ⟨a, b⟩ := q
      obtain ⟨k, hi, hw0, hw1, hk0, hbd, hbd2, hx1, hx2, hless, hlb⟩ := cut_pack hc hlr
      have hseg2 : segs c s = (pre ++ [a]) ++ segs c b := by rw [hseg, segs_some hc, List.append_assoc]; rfl
      gi_wp2
      refine ⟨trivial, (hX _).mono ?_⟩
      rintro e w' ⟨rfl, rfl⟩
      simp only [hi]
      obtain ⟨fn, tmps, assign, body, hy, hR⟩ := hY pre a _ hJ
      gi_wp2
      refine hR.mono ?_
      rintro e W3 (⟨rfl, hJ3, hk3⟩ | ⟨rfl, hJx3⟩)
      · have k1' : W3.cell? ⟨B1, 0, none⟩ = some (.string ⟨#[c]⟩) := (hk3.cell (p := ⟨B1, 0, none⟩) hb1).trans k1
        have ks' : W3.cell? ⟨Bs, 0, none⟩ = some (.string (str rest)) := (hk3.cell (p := ⟨Bs, 0, none⟩) hbs).trans ks
        have k3' : W3.cell? ⟨B3, 0, none⟩ = some (.int .i64 0) := (hk3.cell (p := ⟨B3, 0, none⟩) hb3).trans k3
        have kf' : W3.frozen? ⟨Bs, 0, none⟩ = false := by
          rw [← kf]
          unfold World.frozen?
          rw [show W3.heap[Bs]? = _ from hk3.block Bs hbs]
        gi_wp2
        refine ⟨⟨pre ++ [a], b, hseg2, hlb, (cell_other hne1 _).trans k1', World.cell?_setCell_same' _ _ _ (by rw [ks']; rfl), (World.frozen?_setCell _ _ _ _).trans kf', (cell_other hne3 _).trans k3', hJs _ _ _ hJ3⟩, ?_⟩
        have e1 : leftOf Bs (W3.setCell ⟨Bs, 0, none⟩ (.string (str b))) = (str b).size := by
          unfold leftOf; rw [World.cell?_setCell_same' _ _ _ (by rw [ks']; rfl)]
        rw [e1]
        unfold leftOf
        rw [ks]
        exact hless
      · gi_wp2
        refine bodyPost_ret (results_none rfl _ _ _) rfl ?_
        exact ⟨⟨_, rfl⟩, .inr ⟨pre ++ [a], ⟨segs c b, hseg2.symm⟩, hJx3⟩⟩
end Go.Proofs.YtjfjanogfakclaaDoor

/- text.First: the first of the offered that is one of ours. -/
namespace Go.Proofs.YtjfjanogfakclaaDoor
open Go CF Go.RowKit
attribute [local go_sem] Oper.semAt_some
macro "gi_round_op_f" : tactic => `(tactic| (rw [Oper.semAt_eq _ _ _ (fun c h => by cases h)]; go_simp; try go_bits))

/-- what the row of texts holds -/
abbrev strs (xs : List L8) : List Value := xs.map fun x => .string (str x)
def firstOf (o : L8) (xs : List L8) : L8 := match (segs 44 o).find? (fun x => decide (x ∈ xs)) with | some x => x | none => [82, 101, 106, 101, 99, 116]

set_option maxRecDepth 100000 in
set_option maxHeartbeats 1000000 in
theorem splitSeq_in (s t : ByteArray) (w : World) :
    CallsIn Fence.wide 9 Tryd.prog 49 #[.string s, .string t, .int .i64 0] w fun e w' => e = .returned (.func (.func 57) #[] #[.pointer (some ⟨w.heap.size + 1, 0, none⟩), .pointer (some ⟨w.heap.size, 0, none⟩), .pointer (some ⟨w.heap.size + 2, 0, none⟩)]) ∧
      w' = ((w.alloc (.cells #[.string s] t_string)).alloc (.cells #[.string t] t_string)).alloc (.cells #[.int .i64 0] t_int) := by
  refine callsIn_of_wp Tryd.func49 rfl trivial ?_ rfl
  simp only [Tryd.ntmps49, List.size_toArray, List.length_cons, List.length_nil, Nat.reduceAdd, Nat.reduceSub, Array.replicate_succ, Array.replicate_zero, List.push_toArray, List.append_toArray, List.nil_append, List.cons_append]
  gi_wp2
  go_ret
  exact ⟨rfl, rfl⟩
set_option maxRecDepth 100000 in
set_option maxHeartbeats 1000000 in
theorem splitSeqPub_in (s t : ByteArray) (w : World) :
    CallsIn Fence.wide 10 Tryd.prog 40 #[.string s, .string t] w fun e w' => e = .returned (.func (.func 57) #[] #[.pointer (some ⟨w.heap.size + 1, 0, none⟩), .pointer (some ⟨w.heap.size, 0, none⟩), .pointer (some ⟨w.heap.size + 2, 0, none⟩)]) ∧
      w' = ((w.alloc (.cells #[.string s] t_string)).alloc (.cells #[.string t] t_string)).alloc (.cells #[.int .i64 0] t_int) := by
  refine callsIn_of_wp Tryd.func40 rfl trivial ?_ rfl
  simp only [Tryd.ntmps40, List.size_toArray, List.length_cons, List.length_nil, Nat.reduceAdd, Nat.reduceSub, Array.replicate_succ, Array.replicate_zero, List.push_toArray, List.append_toArray, List.nil_append, List.cons_append]
  gi_wp2
  refine ⟨trivial, (splitSeq_in s t w).mono ?_⟩
  rintro e w' ⟨rfl, rfl⟩
  gi_wp2
  go_ret
  exact ⟨rfl, rfl⟩

theorem alloc5 (w : World) (o1 o2 o3 o4 o5 : Obj) : ∃ W, ((((w.alloc o1).alloc o2).alloc o3).alloc o4).alloc o5 = W ∧ W.heap.size = w.heap.size + 5 ∧ W.heap[w.heap.size]? = some o1 ∧ W.heap[w.heap.size + 1]? = some o2 ∧
    W.heap[w.heap.size + 2]? = some o3 ∧ W.heap[w.heap.size + 3]? = some o4 ∧ W.heap[w.heap.size + 4]? = some o5 ∧ Below w.heap.size w W := by
  refine ⟨_, rfl, by simp, ?_, ?_, ?_, ?_, ?_, ((((((Below.refl _ w).alloc (Nat.le_refl _) _).alloc (by simp) _).alloc (by simp; omega) _).alloc (by simp; omega) _).alloc (by simp; omega) _)⟩ <;>
    (show (((((w.heap.push o1).push o2).push o3).push o4).push o5)[_]? = _; simp only [Array.getElem?_push, Array.size_push]; repeat (first | rfl | (rw [if_pos (by omega)]) | (rw [if_neg (by omega)])))
theorem run_indexAt {P : Program} {t e : TypeId} {z : Option Value} {s b : Nat} (hu : P.underlying t = some (.slice e)) (hq : (P.info? e).map (fun i => (i.zero, i.size, i.bytes)) = some (z, s, b)) {ad : Addr} {n c i : Nat} (hi : i < n) (w : World) :
    (Instr.indexAt t (.slice (some ad) n c) (.int .i64 (i : Int))).run P w = .ok (.pointer (some (ad.add (i * s)))) w := by
  obtain ⟨q, hq1, hq2⟩ := Option.map_eq_some_iff.1 hq
  have hs : (sizeOf e).run P w = .ok s w := by
    have : q.size = s := by injection hq2 with _ h2; injection h2
    simp [sizeOf, typeInfo, hq1, this]
  unfold Instr.indexAt
  simp only [Sem.run_bind, asIntOf, Sem.run_pure, Result.andThen_ok, run_underlying hu]
  rw [if_pos ⟨by omega, by omega⟩]
  simp [hs]
theorem meas_less {n i : Nat} (h : i < n) : n - ((i + 1 : Nat) : Int).toNat < n - ((i : Nat) : Int).toNat := by omega
theorem num_facts {i n : Nat} (h : i < n) (hn : n ≤ 140737489403904) : wrap64 ((i : Int) + 1) = ((i + 1 : Nat) : Int) := by unfold wrap64; omega
theorem box_facts {W : World} {B : Nat} {v : Value} {t : TypeId} (h : W.heap[B]? = some (.cells #[v] t (0, 0))) : W.cell? ⟨B, 0, none⟩ = some v ∧ W.frozen? ⟨B, 0, none⟩ = false := by
  constructor <;> simp [World.cell?, World.frozen?, h]
theorem firstOf_none {o : L8} {xs : List L8} (h : ∀ y ∈ segs 44 o, y ∉ xs) : firstOf o xs = [82, 101, 106, 101, 99, 116] := by
  unfold firstOf
  rw [List.find?_eq_none.2 (by simpa using h)]
theorem firstOf_some {o : L8} {xs : List L8} {pre : List L8} {x : L8} (hp : pre ++ [x] <+: segs 44 o) (h : ∀ y ∈ pre, y ∉ xs) (hx : x ∈ xs) : firstOf o xs = x := by
  obtain ⟨t, e⟩ := hp
  unfold firstOf
  rw [← e, List.find?_append, List.find?_append, List.find?_eq_none.2 (by simpa using h)]
  simp [hx]

set_option maxRecDepth 100000 in
set_option maxHeartbeats 2000000 in
theorem first_in (o : L8) (own : Sl) (xs : List L8) (w : World) (hrd : Rd w 1 own (strs xs)) (ho : o.length ≤ 9223372036854775806) :
    CallsIn Fence.wide 11 Tryd.prog 32 #[.string (str o), .slice own.A own.n own.c] w fun e W' => e = .returned (.string (str (firstOf o xs))) ∧ Below w.heap.size w W' := by
  refine callsIn_of_wp_marks Tryd.func32 rfl trivial ?_ rfl
  simp only [Tryd.ntmps32, List.size_toArray, List.length_cons, List.length_nil, Nat.reduceAdd, Nat.reduceSub, Array.replicate_succ, Array.replicate_zero, List.push_toArray, List.append_toArray, List.nil_append, List.cons_append]
  gi_wp2
  refine ⟨trivial, (splitSeqPub_in _ _ _).mono ?_⟩
  rintro e w' ⟨rfl, rfl⟩
  gi_wp2
  obtain ⟨W0, hW0, hsz, b0, b1, b2, b3, b4, hBW⟩ := alloc5 w (.cells #[.slice own.A own.n own.c] t_sl_string) (.cells #[.string ⟨#[]⟩] t_string) (.cells #[.string (str o)] t_string) (.cells #[.string ⟨#[44]⟩] t_string) (.cells #[.int .i64 0] t_int)
  rw [hW0]
  refine wpIn_rangeFunc_box (α := L8) (n₀ := w.heap.size + 5) (Bs := w.heap.size + 2) rfl (by decide) (gf := 57) (lb := #[.pointer (some ⟨w.heap.size + 3, 0, none⟩), .pointer (some ⟨w.heap.size + 2, 0, none⟩), .pointer (some ⟨w.heap.size + 4, 0, none⟩)]) rfl trivial
    (enters_of Tryd.func57 (by kernel_rfl) rfl) (encs := fun x => #[.string (str x)]) (S := fun ys => ys = segs 44 o) (Sp := fun pre => pre <+: segs 44 o)
    (fun l J Jx W hW hJs hY hJ0 => splitSeq1_in l (w.heap.size + 2) (w.heap.size + 3) (w.heap.size + 4) (w.heap.size + 5) 44 o (by omega) (by omega) (by omega) (by omega) (by omega) J Jx hJs hY W
      ((hW.cell (p := ⟨w.heap.size + 3, 0, none⟩) (by show w.heap.size + 3 < _; omega)).trans (box_facts b3).1) ((hW.cell (p := ⟨w.heap.size + 2, 0, none⟩) (by show w.heap.size + 2 < _; omega)).trans (box_facts b2).1)
      ((by unfold World.frozen?; rw [show W.heap[w.heap.size + 2]? = _ from hW.block _ (by omega)] : W.frozen? ⟨w.heap.size + 2, 0, none⟩ = W0.frozen? ⟨w.heap.size + 2, 0, none⟩).trans (box_facts b2).2)
      ((hW.cell (p := ⟨w.heap.size + 4, 0, none⟩) (by show w.heap.size + 4 < _; omega)).trans (box_facts b4).1) hJ0 ho)
    (by omega) (by omega) (fun _ => rfl)
    (fun pre W => ((∀ y ∈ pre, y ∉ xs) ∧ W.cell? ⟨w.heap.size, 0, none⟩ = some (.slice own.A own.n own.c) ∧ W.cell? ⟨w.heap.size + 1, 0, none⟩ = some (.string ⟨#[]⟩) ∧ W.frozen? ⟨w.heap.size + 1, 0, none⟩ = false) ∧ Below w.heap.size w W)
    (fun c pre W => (c = .ret ∧ ∃ q x, pre = q ++ [x] ∧ (∀ y ∈ q, y ∉ xs) ∧ x ∈ xs ∧ W.cell? ⟨w.heap.size + 1, 0, none⟩ = some (.string (str x))) ∧ Below w.heap.size w W)
    (OwnFrom.and (Own.from (fun s A B row hs hg hr => ⟨hs.1, cell_kept hs.2.1 hg hr, cell_kept hs.2.2.1 hg hr, (frozen_kept hs.2.2.1 hg hr).trans hs.2.2.2⟩) _) (ownFrom_below (Nat.le_refl _) (by omega)))
    (fun c => OwnFrom.and (Own.from (fun s A B row hs hg hr => ⟨hs.1, by obtain ⟨q, x, h1, h2, h3, h4⟩ := hs.2; exact ⟨q, x, h1, h2, h3, cell_kept h4 hg hr⟩⟩) _) (ownFrom_below (Nat.le_refl _) (by omega)))
    (fun p A v hs => ⟨⟨hs.1.1, (cell_other (by omega) _).trans hs.1.2.1, (cell_other (by omega) _).trans hs.1.2.2.1, (World.frozen?_setCell _ _ _ _).trans hs.1.2.2.2⟩, hs.2.setCell (p := ⟨w.heap.size + 2, 0, none⟩) (by simp) _⟩)
    ⟨⟨by simp, (box_facts b0).1, (box_facts b1).1, (box_facts b1).2⟩, hBW⟩
    (fun x => { tmps := #[.string (str o), .slice own.A own.n own.c, undef, .pointer (some ⟨w.heap.size, 0, none⟩), .pointer (some ⟨w.heap.size + 1, 0, none⟩), .string (str x), undef, undef, .string (str o),
      .func (.func 57) #[] #[.pointer (some ⟨w.heap.size + 3, 0, none⟩), .pointer (some ⟨w.heap.size + 2, 0, none⟩), .pointer (some ⟨w.heap.size + 4, 0, none⟩)], .string (str x), undef, undef, undef, undef, undef, undef, undef, undef, undef, undef, undef], defers := [] }) ?assign ?body ?done ?stop
  case assign =>
    intro l x W K hK
    gi_wp2_with gi_round_op_f
    exact hK
  case body =>
    rintro l pre x W ⟨⟨hp, hc0, hc1, hfr⟩, hB⟩
    gi_wp2_with gi_round_op_f
    have hlen : xs.length = own.n := by have := hrd.len; simpa using this
    gi_loopw [13] (fun p wr => ∃ i : Nat, p = .int .i64 (i : Int) ∧ i ≤ xs.length ∧ wr = W ∧ ∀ y ∈ xs.take i, y ≠ x) (fun p wr => match p with | .int _ i => xs.length - i.toNat | _ => 0)
    case atStart => exact ⟨0, rfl, Nat.zero_le _, rfl, by simp⟩
    case round =>
      obtain ⟨i, rfl, hi, rfl, hbef⟩ := hrel
      by_cases hlt : i < xs.length
      · obtain ⟨ad, hA, hcl⟩ := (hrd.grow (keep_of_below hB)).at_ (by intro q; rw [List.map_eq_nil_iff.1 q] at hlt; exact absurd hlt (Nat.not_lt_zero _))
        have hce : wr.cell? (ad.add i) = some (.string (str xs[i])) := hcl i _ (by simp [hlt])
        have hlo : i < own.n := hlen ▸ hlt
        have hix := run_indexAt (P := Tryd.prog) u_sl_string i_string (ad := ad) (c := own.c) hlo wr
        rw [Nat.mul_one] at hix
        have hw1 := num_facts hlo hrd.nb
        rw [hA] at hc0 ⊢
        gi_wp2_with gi_round_op_f
        · rename_i hx
          have hxe : x = xs[i] := of_decide_eq_true (sEq_str.symm.trans (show sEq (str x) (str xs[i]) = true from hx))
          exact ⟨KeepsOthers.setCell _ _ _, ⟨rfl, pre, x, rfl, hp, hxe ▸ List.getElem_mem hlt, hxe ▸ World.cell?_setCell_same' _ _ _ (by rw [hc1]; rfl)⟩, hB.setCell (p := ⟨w.heap.size + 1, 0, none⟩) (Nat.le_succ _) _⟩
        · rename_i hx
          have hxe : xs[i] ≠ x := fun q => by rw [q, beq_self_eq_true] at hx; cases hx
          refine ⟨⟨i + 1, by rw [hw1], hlt, trivial, fun y hy => ?_⟩, ?_⟩
          · rw [List.take_succ_eq_append_getElem hlt] at hy
            exact (List.mem_append.1 hy).elim (hbef y) (fun q => by rw [List.mem_singleton.1 q]; exact hxe)
          · rw [hw1]
            exact meas_less hlt
      · gi_wp2_with gi_round_op_f
        have hall : xs.take i = xs := List.take_of_length_le (Nat.le_of_not_lt hlt)
        rw [hall] at hbef
        exact ⟨KeepsOthers.refl _, Below.refl _ _, ⟨fun y hy => (List.mem_append.1 hy).elim (hp y) (fun q hm => by rw [List.mem_singleton.1 q] at hm; exact hbef x hm rfl), hc0, hc1, hfr⟩, hB⟩
  case done =>
    rintro D ys W hD rfl ⟨⟨hne, _, hcr, hfr⟩, hB⟩ hK
    gi_wp2
    have hK' := (KeepsOthers.setCell W ⟨w.heap.size + 1, 0, none⟩ (.string ⟨#[82, 101, 106, 101, 99, 116]⟩)).same D _ hK rfl
    refine ⟨by simp, .inl ⟨_, _, rfl, run_takeDeferred hK', ?_⟩⟩
    have hc5 := cell_kept (World.cell?_setCell_same' W ⟨w.heap.size + 1, 0, none⟩ (.string ⟨#[82, 101, 106, 101, 99, 116]⟩) (by rw [hcr]; rfl)) (grownBy_putObj' _ D (.deferred none)) (fun r e => by cases e; exact ⟨_, hK', rfl⟩)
    refine ⟨.string ⟨#[82, 101, 106, 101, 99, 116]⟩, ?_, by rw [firstOf_none hne]; rfl, (hB.setCell (p := ⟨w.heap.size + 1, 0, none⟩) (by simp) _).trans (below_putObj _ _ _ (by omega))⟩
    simp [results, Tryd.f32, go_sem, hc5]
  case stop =>
    rintro D c pre W hD hpre ⟨⟨rfl, q, x, rfl, hq, hx, hcr⟩, hB⟩ hK
    gi_wp2
    refine ⟨by simp, .inl ⟨_, _, rfl, run_takeDeferred hK, ?_⟩⟩
    have hc5 := cell_kept hcr (grownBy_putObj' _ D (.deferred none)) (fun r e => by cases e; exact ⟨_, hK, rfl⟩)
    refine ⟨.string (str x), ?_, by rw [firstOf_some hpre hq hx], hB.trans (below_putObj _ _ _ (by omega))⟩
    simp [results, Tryd.f32, go_sem, hc5]
/-- text.First -/
theorem first_spec {o : L8} {own : Sl} {xs : List L8} {w : World} {R : ByteArray → World → Prop} (hrd : Rd w 1 own (strs xs)) (ho : o.length ≤ 9223372036854775806)
    (h : ∀ w', Grow w w' → R (str (firstOf o xs)) w') : Ctext_First (str o) own w R := by
  show CallK _ _ _ _ _ _
  unfold CallK
  refine (callsIn_wide.1 (first_in o own xs w hrd ho)).mono ?_
  rintro e w' ⟨rfl, hB⟩
  exact ⟨str (firstOf o xs), rfl, h w' (keep_of_below hB)⟩
end Go.Proofs.YtjfjanogfakclaaDoor

/- The reference's First and Find on the door seat; TextAsks. -/
namespace Go.Proofs.YtjfjanogfakclaaDoor
open Go CF
/-- the parts that begin at f: the one that ends at the first comma at or behind i, and what lies behind -/
theorem segs_at {l : L8} {c : UInt8} : ∀ {f i : Nat}, f ≤ i → i ≤ l.length → (∀ x ∈ (l.take i).drop f, x ≠ c) →
    (i < l.length → l[i]? = some c → segs c (l.drop f) = (l.take i).drop f :: segs c (l.drop (i + 1))) ∧ (i = l.length → segs c (l.drop f) = [(l.take i).drop f]) := by
  intro f i hfi hil hno
  have hnot : c ∉ (l.take i).drop f := fun q => hno c q rfl
  refine ⟨fun hlt hc => ?_, fun he => ?_⟩
  · have e : l.drop f = (l.take i).drop f ++ c :: l.drop (i + 1) := by
      have h1 : l[i] = c := by rw [List.getElem?_eq_getElem hlt] at hc; exact Option.some.inj hc
      conv => lhs; rw [← List.take_append_drop i l]
      rw [List.drop_append_of_le_length (by simp; omega), List.drop_eq_getElem_cons hlt, h1]
    have hcut : cutAt c (l.drop f) = some ((l.take i).drop f, l.drop (i + 1)) := by rw [e]; exact cutAt_of hnot
    exact segs_some hcut
  · have e : l.drop f = (l.take i).drop f := by rw [he, List.take_length]
    rw [e]
    exact segs_none (cutAt_not hnot)
theorem rfirst_spec {o : L8} {own : Sl} {xs : List L8} {w : World} {R : ByteArray → World → Prop} (hrd : Rd w 1 own (strs xs)) (ho : o.length ≤ 140737489403904)
    (h : ∀ w', Grow w w' → R (str (firstOf o xs)) w') : Cpalletref18_First (str o) own w R := by
  refine Fpalletref18_First.calls _ _ _ _ ?_
  have hlen : xs.length = own.n := by have := hrd.len; simpa using this
  have hnb := hrd.nb
  refine ⟨fun fr i w' => Grow w w' ∧ ∃ (f j : Nat) (pre : List L8), fr = f ∧ i = j ∧ j ≤ o.length + 1 ∧ (∀ y ∈ pre, y ∉ xs) ∧
      ((f ≤ j ∧ j ≤ o.length ∧ (∀ x ∈ (o.take j).drop f, x ≠ 44) ∧ segs 44 o = pre ++ segs 44 (o.drop f)) ∨ (j = o.length + 1 ∧ segs 44 o = pre)), fun _ i _ => o.length + 1 - i.toNat,
    ⟨Keep.refl _ _, 0, 0, [], rfl, rfl, by omega, by simp, .inl ⟨Nat.le_refl _, Nat.zero_le _, by simp, rfl⟩⟩, ?_⟩
  rintro fr i w1 ⟨hg, f, j, pre, rfl, rfl, hj, hpre, hcase⟩
  rw [size_str]
  refine br_dec (fun hle => ?_) (fun hgt => ?_)
  · rcases hcase with ⟨hfj, hjl, hno, hseg⟩ | ⟨he, _⟩
    · refine letX1 (I := fun fr' u => Grow w u ∧ ∃ (f' : Nat) (pre' : List L8), fr' = f' ∧ (∀ y ∈ pre', y ∉ xs) ∧
          ((f' ≤ j + 1 ∧ j + 1 ≤ o.length ∧ (∀ x ∈ (o.take (j + 1)).drop f', x ≠ 44) ∧ segs 44 o = pre' ++ segs 44 (o.drop f')) ∨ (j = o.length ∧ segs 44 o = pre'))) (fun fr' u => ?_) (fun hjn => ?_)
      · rintro ⟨hgu, f', pre', rfl, hp', hc'⟩
        rw [w64 (by omega) (by omega)]
        refine ⟨⟨hgu, f', j + 1, pre', rfl, by omega, by omega, hp', ?_⟩, (by omega : o.length + 1 - ((j : Int) + 1).toNat < o.length + 1 - (j : Int).toNat)⟩
        rcases hc' with q | ⟨q1, q2⟩
        · exact .inl q
        · exact .inr ⟨by omega, q2⟩
      · refine ⟨fun q => ⟨by omega, by have := of_decide_eq_true q; omega⟩, ?_⟩
        have hsp := segs_at (l := o) (c := 44) hfj hjl hno
        by_cases hc : j < o.length ∧ o[j]? ≠ some 44
        · have hb := bt_str hc.1
          have hne : o[j] ≠ 44 := fun q => hc.2 (by rw [List.getElem?_eq_getElem hc.1, q])
          have hne2 : o[j].toNat ≠ 44 := fun q => hne (UInt8.toNat_inj.1 (by rw [q]; rfl))
          rw [hb]
          refine br_t (by simp; omega) (hjn _ _ ⟨hg, f, pre, rfl, hpre, .inl ⟨by omega, hc.1, ?_, hseg⟩⟩)
          intro x hx
          rw [List.take_succ_eq_append_getElem hc.1, List.drop_append_of_le_length (by simp; omega)] at hx
          rcases List.mem_append.1 hx with q | q
          · exact hno x q
          · rw [List.mem_singleton.1 q]; exact hne
        · refine br_f ?_ ?_
          · by_cases hjl2 : j < o.length
            · have h44 : o[j]? = some 44 := Classical.not_not.1 fun q => hc ⟨hjl2, q⟩
              rw [List.getElem?_eq_getElem hjl2] at h44
              rw [bt_str hjl2, Option.some.inj h44]
              simp
            · rw [Bool.and_eq_false_iff]; left; exact decide_eq_false (by omega)
          · -- the part is looked up among ours
            have hseg2 : ∃ more, segs 44 o = (pre ++ [(o.take j).drop f]) ++ more ∧ (j < o.length → more = segs 44 (o.drop (j + 1))) ∧ (j = o.length → more = []) := by
              by_cases hjl2 : j < o.length
              · have h44 : o[j]? = some 44 := Classical.not_not.1 fun q => hc ⟨hjl2, q⟩
                exact ⟨_, by rw [hseg, hsp.1 hjl2 h44]; simp, fun _ => rfl, fun q => by omega⟩
              · exact ⟨[], by rw [hseg, hsp.2 (by omega)]; simp, fun q => by omega, fun _ => rfl⟩
            obtain ⟨more, hseg2, hm1, hm2⟩ := hseg2
            refine ⟨fun y u => Grow w u ∧ ∃ k : Nat, y = k ∧ k ≤ own.n ∧ ∀ z ∈ xs.take k, z ≠ (o.take j).drop f, fun y _ => own.n - y.toNat, ⟨hg, 0, rfl, Nat.zero_le _, by simp⟩, ?_⟩
            rintro y w2 ⟨hg2, k, rfl, hk, hbef⟩
            refine br_nat (fun hlt => ?_) (fun hge => ?_)
            · rintro w3 hw3
              have g3 : Grow w w3 := hg2.trans (keep_drew' hw3)
              have hkx : k < xs.length := by omega
              have hread : ∀ u, Grow w u → u.cell? ((gA own.A).add ((k : Int).toNat * 1)) = some (.string (str xs[k])) := fun u hu => by
                obtain ⟨a, hA, hcl⟩ := (hrd.grow hu).at_ (by intro q; rw [List.map_eq_nil_iff.1 q] at hkx; exact absurd hkx (Nat.not_lt_zero _))
                rw [hA]
                show u.cell? (a.add _) = _
                rw [Int.toNat_natCast, Nat.mul_one]
                exact hcl k _ (by simp [hkx])
              have hsome : own.A.isSome = true := by
                obtain ⟨a, hA, _⟩ := hrd.at_ (by intro q; rw [List.map_eq_nil_iff.1 q] at hkx; exact absurd hkx (Nat.not_lt_zero _))
                rw [hA]; rfl
              refine ⟨Grow w, g3, ⟨by omega, by omega, hsome⟩, str xs[k], hread, ⟨by omega, by omega, by omega⟩, ?_⟩
              rw [str_extract, Int.toNat_natCast, Int.toNat_natCast, sEq_str]
              refine br_dec (fun he => ?_) (fun hne => ?_)
              · refine ⟨⟨by omega, by omega, hsome⟩, str xs[k], hread _ g3, ?_⟩
                rw [he, ← firstOf_some (o := o) (xs := xs) (pre := pre) (x := (o.take j).drop f) ⟨more, hseg2.symm⟩ hpre (he ▸ List.getElem_mem hkx)]
                exact h _ g3
              · rw [w64 (by omega) (by omega)]
                refine ⟨⟨g3, k + 1, by omega, by omega, fun z hz => ?_⟩, (by omega : own.n - ((k : Int) + 1).toNat < own.n - (k : Int).toNat)⟩
                rw [List.take_succ_eq_append_getElem hkx] at hz
                rcases List.mem_append.1 hz with q | q
                · exact hbef z q
                · rw [List.mem_singleton.1 q]; exact hne
            · rw [List.take_of_length_le (by omega)] at hbef
              have hpre2 : ∀ y ∈ pre ++ [(o.take j).drop f], y ∉ xs := fun y hy hm => by
                rcases List.mem_append.1 hy with q | q
                · exact hpre y q hm
                · rw [List.mem_singleton.1 q] at hm; exact hbef _ hm rfl
              refine hjn _ _ ⟨hg2, j + 1, pre ++ [(o.take j).drop f], (w64 (by omega) (by omega)).trans (by omega), hpre2, ?_⟩
              by_cases hjl2 : j < o.length
              · refine .inl ⟨Nat.le_refl _, hjl2, ?_, by rw [hseg2, hm1 hjl2]⟩
                intro x hx
                rw [List.drop_eq_nil_of_le (by simp; omega)] at hx
                cases hx
              · exact .inr ⟨by omega, by rw [hseg2, hm2 (by omega), List.append_nil]⟩
    · omega
  · rcases hcase with ⟨_, hjl, _, _⟩ | ⟨_, hseg⟩
    · omega
    · have := h _ hg
      rw [firstOf_none (by rw [hseg]; exact hpre)] at this
      exact this
/-- the reference's Find -/
theorem rfind_spec {l : Sl} {ps : List Pr} {k : L8} {w : World} {R : ByteArray → Bool → World → Prop} (hl : Rd w 2 l (pvs ps))
    (h : ∀ w', Grow w w' → R (str ((find ps k).getD [])) (find ps k).isSome w') : Cpalletref18_Find l (str k) w R := by
  refine Fpalletref18_Find.calls _ _ _ _ ?_
  have hn := rd_pairs hl
  have hb := hl.nb
  refine ⟨fun x w' => Grow w w' ∧ ∃ j : Nat, x = j ∧ j ≤ l.n ∧ ∀ p ∈ ps.take j, p.1 ≠ k, fun x _ => l.n - x.toNat, ⟨Keep.refl _ _, 0, rfl, by omega, by simp⟩, ?_⟩
  rintro x w0 ⟨hg, j, rfl, hj, hall⟩
  refine br_nat (fun hlt => ?_) (fun hge => ?_)
  · have hjl : j < ps.length := by omega
    obtain ⟨a, ha, hc⟩ := rd_pair (hl.grow hg) hjl
    have bnd : 0 ≤ (j : Int) ∧ (j : Int) < (l.n : Int) ∧ l.A.isSome = true := ⟨by omega, by omega, by rw [ha]; rfl⟩
    refine ⟨bnd, str ps[j].1, by rw [ha]; exact hc 0 _ rfl, ?_⟩
    rw [sEq_str]
    refine br_dec (fun he => ?_) (fun hne => ?_)
    · refine ⟨bnd, str ps[j].2, by rw [ha]; exact hc 1 _ rfl, ?_⟩
      have := h w0 hg
      rwa [find_none_take hjl hall he] at this
    · rw [w64 (by omega) (by omega)]
      exact ⟨⟨hg, j + 1, by omega, by omega, mem_take_succ hjl hall hne⟩, by dsimp only; omega⟩
  · have hjn : j = l.n := by omega
    rw [List.take_of_length_le (by omega)] at hall
    have := h w0 hg
    rw [find_none_all hall] at this
    exact this
end Go.Proofs.YtjfjanogfakclaaDoor

/- Layer 20: a login as it is meant: its state, and what a request makes of it. -/
namespace Go.Proofs.YtjfjanogfakclaaDoor
open Go CF

structure PmS where
  ini : L8
  tgt : L8
  disc : Bool
  hdr : Bool
  dat : Bool
  seg : Nat
  burst : Nat
  first : Nat
  imm : Bool
  ready : Bool
def pmv (p : PmS) : List Value := [.string (str p.ini), .string (str p.tgt), .bool p.disc, .bool p.hdr, .bool p.dat, .int .i64 (p.seg : Int), .int .i64 (p.burst : Int), .int .i64 (p.first : Int), .bool p.imm, .bool p.ready]
structure LgS where
  tgs : List L8
  users : List Pr
  sums : Bool
  id : Nat
  chal : L8
  begun : Bool
  stage : Nat
  meth : L8
  asked : Bool
  proved : Bool
  over : Bool
  done : Bool
  p : PmS
def lgv (t u c : Sl) (s : LgS) : List Value := [.slice t.A t.n t.c, .slice u.A u.n u.c, .bool s.sums, .int .u8 (s.id : Int), .slice c.A c.n c.c, .bool s.begun, .int .u8 (s.stage : Int), .string (str s.meth), .bool s.asked, .bool s.proved, .bool s.over, .bool s.done] ++ pmv s.p
def pm0 : PmS := ⟨[], [], false, false, false, 8192, 65536, 65536, true, true⟩
def lg0 (tgs : List L8) (users : List Pr) (sums : Bool) (id : Nat) (chal : L8) : LgS := ⟨tgs, users, sums, id, chal, false, 0, [], false, users.isEmpty, false, false, pm0⟩
structure RqS where
  stage : Nat
  next : Nat
  transit : Bool
  keys : List Pr
structure AnS where
  cls : Nat
  detail : Nat
  stage : Nat
  next : Nat
  transit : Bool
  keys : List Pr
abbrev kIni : L8 := ls s_InitiatorName
abbrev kAlias : L8 := ls s_InitiatorAlias
abbrev kKind : L8 := ls s_SessionType
abbrev kTgt : L8 := ls s_TargetName
abbrev kAuth : L8 := ls s_AuthMethod
abbrev kCA : L8 := ls s_CHAPx5fA
abbrev kCN : L8 := ls s_CHAPx5fN
abbrev kCR : L8 := ls s_CHAPx5fR
abbrev kCI : L8 := ls s_CHAPx5fI
abbrev kCC : L8 := ls s_CHAPx5fC
abbrev vNone : L8 := ls s_None
abbrev vChap : L8 := ls s_CHAP
abbrev vCrc : L8 := ls s_CRC32C
def ownSums (s : LgS) : List L8 := if s.sums then [vCrc, vNone] else [vNone]
def ownAuth (s : LgS) : L8 := if s.users.isEmpty then vNone else vChap
/-- a number that was come to, or what it was -/
def sizeOf' (out : L8) (was : Nat) : Nat := match numOf out with | some n => n | none => was
def declares (k : Pr) : Bool := decide (k.1 = ls s_MaxRecvDataSegmentLength) && (match numOf k.2 with | some n => decide (512 ≤ n) && decide (n ≤ 16777215) | none => false)
/-- the answer to a key that tells how things go -/
def ruleX (s : LgS) (k : Pr) : LgS × L8 :=
  if k.1 = ls s_HeaderDigest then ({ s with p := { s.p with hdr := decide (firstOf k.2 (ownSums s) = vCrc) } }, firstOf k.2 (ownSums s))
  else if k.1 = ls s_DataDigest then ({ s with p := { s.p with dat := decide (firstOf k.2 (ownSums s) = vCrc) } }, firstOf k.2 (ownSums s))
  else if k.1 = ls s_MaxRecvDataSegmentLength then (if declares k then { s with p := { s.p with seg := min ((numOf k.2).getD 0) 8192 } } else s, lRej)
  else if k.1 = ls s_MaxBurstLength then ({ s with p := { s.p with burst := sizeOf' (leastOf k.2 65536 512 16777215) s.p.burst } }, leastOf k.2 65536 512 16777215)
  else if k.1 = ls s_FirstBurstLength then ({ s with p := { s.p with first := sizeOf' (leastOf k.2 65536 512 16777215) s.p.first } }, leastOf k.2 65536 512 16777215)
  else if k.1 = ls s_InitialR2T then ({ s with p := { s.p with ready := decide (eitherOf k.2 false = lYes) || decide (eitherOf k.2 false = lRej) && s.p.ready } }, eitherOf k.2 false)
  else if k.1 = ls s_ImmediateData then ({ s with p := { s.p with imm := decide (bothOf k.2 true = lYes) || decide (bothOf k.2 true = lRej) && s.p.imm } }, bothOf k.2 true)
  else if k.1 = ls s_MaxOutstandingR2T ∨ k.1 = ls s_MaxConnections then (s, leastOf k.2 1 1 65535)
  else if k.1 = ls s_ErrorRecoveryLevel then (s, leastOf k.2 0 0 2)
  else if k.1 = ls s_DataPDUInOrder ∨ k.1 = ls s_DataSequenceInOrder then (s, eitherOf k.2 true)
  else (s, ls s_NotUnderstood)
/-- a user of this name knows the answer -/
def knows (s : LgS) (name ans : L8) : Bool := s.users.any fun u => decide (u.1 = name) && s.asked && rightX s.id u.2 s.chal ans
/-- the answer to a key; false: the login fails -/
def keyX (s : LgS) (k : Pr) (all : List Pr) : LgS × List Pr × Bool :=
  if k.1 = kIni ∨ k.1 = kAlias ∨ k.1 = kKind ∨ k.1 = kTgt then (s, [], true)
  else if k.1 = kAuth then ({ s with meth := firstOf k.2 [ownAuth s] }, [(k.1, firstOf k.2 [ownAuth s])], decide (firstOf k.2 [ownAuth s] ≠ lRej))
  else if k.1 = kCA then
    if s.meth ≠ vChap ∨ firstOf k.2 [[53]] ≠ [53] then (s, [], false)
    else ({ s with asked := true }, [(kCA, [53]), (kCI, dec s.id), (kCC, hexX s.chal)], true)
  else if k.1 = kCN then
    if knows s k.2 ((find all kCR).getD []) then ({ s with proved := true, asked := false }, [], true) else (s, [], false)
  else if k.1 = kCR then (s, [], true)
  else ((ruleX s k).1, if declares k then [] else [(k.1, (ruleX s k).2)], true)
/-- the keys of a request, one behind the other -/
def keysX (all : List Pr) : LgS → List Pr → List Pr → LgS × List Pr × Bool
  | s, [], out => (s, out, true)
  | s, k :: r, out => match keyX s k all with
    | (s', o, true) => keysX all s' r (out ++ o)
    | (s', _, false) => (s', [], false)
/-- what the first request must tell: the detail of what is wrong, or 255 -/
def firstX (s : LgS) (keys : List Pr) : LgS × Nat :=
  let ini := (find keys kIni).getD []
  let kind := (find keys kKind).getD []
  let told := (find keys kKind).isSome
  let disc := decide (kind = ls s_Discovery)
  let s1 : LgS := { s with p := { s.p with ini := ini, disc := disc } }
  if ini = [] then (s1, 7)
  else if told = true ∧ kind ≠ ls s_Normal ∧ kind ≠ ls s_Discovery then (s1, 9)
  else if disc = true then (s1, 255)
  else
    let tgt := (find keys kTgt).getD []
    let s2 : LgS := { s1 with p := { s1.p with tgt := tgt } }
    if tgt = [] then (s2, 7) else if tgt ∈ s.tgs then (s2, 255) else (s2, 3)
def failX (s : LgS) (d : Nat) : LgS × AnS × Nat := ({ s with over := true }, ⟨2, d, 0, 0, false, []⟩, 0)
/-- behind what the first request must tell -/
def goX (s : LgS) (r : RqS) : LgS × AnS × Nat :=
  if r.stage ≠ s.stage ∨ (r.transit = true ∧ (r.next ≤ r.stage ∨ (r.next ≠ 1 ∧ r.next ≠ 3))) then failX s 0
  else if r.stage = 1 ∧ s.proved = false then failX s 1
  else match keysX r.keys s r.keys [] with
    | (s', _, false) => failX s' 1
    | (s', out, true) =>
      if r.transit = true ∧ s'.proved = true then ({ s' with stage := r.next, done := decide (r.next = 3), over := decide (r.next = 3) }, ⟨0, 0, r.stage, r.next, true, out⟩, 0)
      else (s', ⟨0, 0, r.stage, 0, false, out⟩, 0)
/-- a step: the state, the answer, the error's number -/
def stepX (s : LgS) (r : RqS) : LgS × AnS × Nat :=
  if s.over = true then (s, ⟨0, 0, 0, 0, false, []⟩, 12)
  else if s.begun = true then goX s r
  else
    let s1 : LgS := { s with begun := true, stage := r.stage }
    if 1 < r.stage then failX s1 0
    else if (firstX s1 r.keys).2 ≠ 255 then failX (firstX s1 r.keys).1 (firstX s1 r.keys).2
    else goX (firstX s1 r.keys).1 r
end Go.Proofs.YtjfjanogfakclaaDoor

/- Layer 20: what a login's parts come to. -/
namespace Go.Proofs.YtjfjanogfakclaaDoor
open Go CF

/-! ### the library's variables -/
structure LbV (w : World) (B : Nat) : Prop where
  err : ErrV w
  tab : TabV w
  l1 : gl_strconv_ErrSyntax < B
  l2 : gl_strconv_ErrRange < B
  l3 : gl_internal_strconv_uint64pow10 < B
theorem TabV.keep {S : Nat → Prop} {w w' : World} (h : TabV w) (k : Keep S w w') (hn : ¬ S gl_internal_strconv_uint64pow10) : TabV w' := by
  unfold TabV Lib.TabIs World.var? at *
  rw [Option.bind_eq_some_iff] at *
  obtain ⟨gl, h1, h2⟩ := h
  refine ⟨gl, h1, ?_⟩
  obtain rfl : gl = gl_internal_strconv_uint64pow10 := Option.some.inj (h1.symm.trans (by kernel_rfl))
  have hlt : gl_internal_strconv_uint64pow10 < w.heap.size := by
    rcases hq : w.heap[gl_internal_strconv_uint64pow10]? with _ | o
    · rw [hq] at h2; cases h2
    · exact (Array.getElem?_eq_some_iff.1 hq).1
  rw [show w'.heap[gl_internal_strconv_uint64pow10]? = w.heap[gl_internal_strconv_uint64pow10]? from k.block _ hlt hn]
  exact h2
theorem LbV.keep {S : Nat → Prop} {w w' : World} {B : Nat} (h : LbV w B) (k : Keep S w w') (hn : ∀ b, b < B → ¬ S b) : LbV w' B := by
  refine ⟨⟨?_, ?_⟩, h.tab.keep k (hn _ h.l3), h.l1, h.l2, h.l3⟩
  · obtain ⟨t, v, e⟩ := h.err.syn; exact ⟨t, v, k.cell e (hn _ h.l1)⟩
  · obtain ⟨t, v, e⟩ := h.err.rng; exact ⟨t, v, k.cell e (hn _ h.l2)⟩
theorem LbV.grow {w w' : World} {B : Nat} (h : LbV w B) (k : Grow w w') : LbV w' B := h.keep k fun _ _ q => q
theorem LbV.of {w : World} (h : ErrV w) (t : TabV w) : LbV w w.heap.size := by
  refine ⟨h, t, ?_, ?_, ?_⟩
  · obtain ⟨t, v, e⟩ := h.syn; exact cell_lt e
  · obtain ⟨t, v, e⟩ := h.rng; exact cell_lt e
  · unfold TabV Lib.TabIs World.var? at t
    rw [Option.bind_eq_some_iff] at t
    obtain ⟨gl, h1, h2⟩ := t
    obtain rfl : gl = gl_internal_strconv_uint64pow10 := Option.some.inj (h1.symm.trans (by kernel_rfl))
    rcases hq : w.heap[gl_internal_strconv_uint64pow10]? with _ | o
    · rw [hq] at h2; cases h2
    · exact (Array.getElem?_eq_some_iff.1 hq).1
theorem itoa_spec {n : Nat} {w : World} {R : ByteArray → World → Prop} (ht : TabV w) (hn : n < 9223372036854775808) (h : ∀ w', Grow w w' → R (str (dec n)) w') : Cstrconv_Itoa (n : Int) w R := by
  refine callK1 (k := .s) (x := str (dec n)) (Q := fun w' => Grow w w') ((Tryd.strconv_Itoa (n : Int) (by omega) (by omega) w ht).mono ?_) h
  rintro e w' ⟨he, k, os, rfl⟩
  refine ⟨?_, keep_of_below (Lib.below_grow _ w (Nat.le_refl _) k os)⟩
  rw [he]
  have : Lib.itoa (n : Int) = dec n := by
    unfold Lib.itoa
    rw [if_neg (by omega), Int.toNat_natCast]
  rw [this]; rfl

theorem CF.Rd.keepN {S : Nat → Prop} {w w' : World} {z : Nat} {s : Sl} {vs : List Value} (h : Rd w z s vs) (k : Keep S w w') (hn : vs ≠ [] → ∀ a, s.A = some a → ¬ S a.block) : Rd w' z s vs := by
  refine ⟨h.len, h.cap, h.nb, fun hne => ?_⟩
  obtain ⟨a, ha, hc⟩ := h.at_ hne
  exact ⟨a, ha, hc.keep k (hn hne a ha)⟩
/-! ### a login in memory -/
structure IsL (w : World) (lb : Nat) (E : Nat → Prop) (s : LgS) : Prop where
  rep : ∃ t u c : Sl, Blk w lb (lgv t u c s).toArray t_login_Login ∧ Rd w 1 t (strs s.tgs) ∧ Rd w 2 u (pvs s.users) ∧ Rd w 1 c (bv s.chal) ∧ (∀ a, t.A = some a → E a.block) ∧ (∀ a, u.A = some a → E a.block) ∧ (∀ a, c.A = some a → E a.block)
  nl : ¬ E lb
  el : ∀ b, E b → b < w.heap.size
  id : s.id < 256
  ch : s.chal.length ≤ 70000000000000
  us : ∀ u ∈ s.users, u.2.length + s.chal.length ≤ 140737488354000
theorem IsL.keep {S : Nat → Prop} {w w' : World} {lb : Nat} {E : Nat → Prop} {s : LgS} (h : IsL w lb E s) (k : Keep S w w') (hl : ¬ S lb) (hE : ∀ b, E b → ¬ S b) : IsL w' lb E s := by
  obtain ⟨t, u, c, h1, h2, h3, h4, e1, e2, e3⟩ := h.rep
  exact ⟨⟨t, u, c, k.heap h1 hl, h2.keep k fun a ha _ => hE _ (e1 a ha), h3.keep k fun a ha _ => hE _ (e2 a ha), h4.keep k fun a ha _ => hE _ (e3 a ha), e1, e2, e3⟩, h.nl, fun b hb => by have := h.el b hb; have := k.size; omega, h.id, h.ch, h.us⟩
theorem IsL.grow {w w' : World} {lb : Nat} {E : Nat → Prop} {s : LgS} (h : IsL w lb E s) (k : Grow w w') : IsL w' lb E s := h.keep k (fun q => q) fun _ _ q => q
theorem IsL.lt {w : World} {lb : Nat} {E : Nat → Prop} {s : LgS} (h : IsL w lb E s) : lb < w.heap.size := by
  obtain ⟨t, u, c, h1, _⟩ := h.rep
  exact lt_of_heap h1
theorem IsL.at {w : World} {lb : Nat} {E : Nat → Prop} {s : LgS} (h : IsL w lb E s) {o : Nat} {v : Value} (e : ∀ t u c, (lgv t u c s)[o]? = some v) : w.cell? ⟨lb, o, none⟩ = some v := by
  obtain ⟨t, u, c, h1, _⟩ := h.rep
  rw [h1.cell, List.getElem?_toArray]; exact e t u c
theorem IsL.put {w : World} {lb : Nat} {E : Nat → Prop} {s : LgS} (h : IsL w lb E s) {o : Nat} {v : Value} (s' : LgS) (e : ∀ t u c, (lgv t u c s).set o v = lgv t u c s') (ho : o < 22) (hv : v.oneCell' = true) (hs : s'.tgs = s.tgs ∧ s'.users = s.users ∧ s'.chal = s.chal ∧ s'.id = s.id)
    {K : World → Prop} (hK : ∀ w1, IsL w1 lb E s' → Keep (fun k => k = lb) w w1 → w1.heap.size = w.heap.size → K w1) : Put ⟨lb, o, none⟩ v w K := by
  obtain ⟨t, u, c, h1, h2, h3, h4, e1, e2, e3⟩ := h.rep
  obtain ⟨q1, q2, q3, q4⟩ := hs
  refine put_rule h1 (by show o < (lgv t u c s).length; exact ho) hv fun w1 hb1 hk1 hsz1 => hK w1 ⟨⟨t, u, c, ?_, ?_, ?_, ?_, e1, e2, e3⟩, h.nl, fun b hb => by have := h.el b hb; omega, by rw [q4]; exact h.id, by rw [q3]; exact h.ch, by rw [q2, q3]; exact h.us⟩ hk1 hsz1
  · have : (lgv t u c s).toArray.setIfInBounds o v = (lgv t u c s').toArray := by rw [List.setIfInBounds_toArray, e]
    rw [this] at hb1; exact hb1
  · rw [q1]; exact h2.keep hk1 fun a ha _ q => h.nl (q ▸ e1 a ha)
  · rw [q2]; exact h3.keep hk1 fun a ha _ q => h.nl (q ▸ e2 a ha)
  · rw [q3]; exact h4.keep hk1 fun a ha _ q => h.nl (q ▸ e3 a ha)
theorem pair_lit (w : World) (k v : ByteArray) : (Instr.buildSlice t_sl_api_Pair 1 #[(0, .agg #[.string k, .string v])]).run Tryd.prog w = .ok (.slice (some ⟨w.heap.size, 0, none⟩) 1 1) (w.alloc (.cells #[.string k, .string v] t_api_Pair)) := by kernel_rfl
theorem pair_lit2 (w : World) (k v x y : ByteArray) : (Instr.buildSlice t_sl_api_Pair 2 #[(0, .agg #[.string k, .string v]), (1, .agg #[.string x, .string y])]).run Tryd.prog w = .ok (.slice (some ⟨w.heap.size, 0, none⟩) 2 2) (w.alloc (.cells #[.string k, .string v, .string x, .string y] t_api_Pair)) := by kernel_rfl
theorem str_lit1 (w : World) (a : ByteArray) : (Instr.buildSlice t_sl_string 1 #[(0, .string a)]).run Tryd.prog w = .ok (.slice (some ⟨w.heap.size, 0, none⟩) 1 1) (w.alloc (.cells #[.string a] t_string)) := by kernel_rfl
theorem str_lit2 (w : World) (a b : ByteArray) : (Instr.buildSlice t_sl_string 2 #[(0, .string a), (1, .string b)]).run Tryd.prog w = .ok (.slice (some ⟨w.heap.size, 0, none⟩) 2 2) (w.alloc (.cells #[.string a, .string b] t_string)) := by kernel_rfl
theorem one_spec {k v : ByteArray} {w : World} {R : Sl → World → Prop} (h : ∀ (x : Sl) (w' : World), x.n = 1 → x.c = 1 → CF.Own w' w.heap.size t_api_Pair 2 x (pvs [(ls k, ls v)]) → Grow w w' → R x w') : Clogin_one k v w R := by
  refine Flogin_one.calls _ _ _ _ ?_
  exact lit_rule (cells := #[.string k, .string v]) (e := t_api_Pair) (z := 2) (base := w.heap.size) (pair_lit w k v) rfl (by decide) (Nat.le_refl _) fun w1 hown1 hg1 _ => h _ w1 rfl rfl hown1 hg1
/-- the value of a key, as the conditions read it -/
theorem sEq_ls {a : L8} {s : ByteArray} : sEq (str a) s = decide (a = ls s) := by
  have := sEq_str (a := a) (b := ls s)
  rw [str_ls] at this
  exact this
theorem told_spec {l : Option Addr} {k : Pr} {w : World} {B : Nat} {R : Int → World → Prop} (hv : LbV w B) (hl : k.2.length ≤ 140737489403904) (h : ∀ w', Grow w w' → R (if declares k then 0 else 1) w') : Clogin_Login_told l (pc k).toArray w R := by
  refine Flogin_Login_told.calls _ _ _ _ ?_
  refine new_rule fun b w1 hb hb1 hg1 hsz1 => ?_
  have hb1 : Blk w1 b (pc k).toArray t_api_Pair := hb1
  refine ⟨str k.2, by rw [add0, hb1.cell]; rfl, ?_⟩
  have hc : ∀ {u : World}, Grow w1 u → u.cell? ((⟨b, 0, none⟩ : Addr).add 0) = some (.string (str k.1)) := fun g => by rw [add0, Blk.cell (g.heap hb1 (fun q => q))]; rfl
  refine number_spec (hv.grow hg1).err hl (fun n w2 hn hg2 => ⟨str k.1, hc hg2, ?_⟩) (fun w2 hn hg2 => ⟨str k.1, hc hg2, ?_⟩)
  · have hR := h w2 (hg1.trans hg2)
    have hd : declares k = ((((sEq (str k.1) s_MaxRecvDataSegmentLength) && true) && (decide ((n : Int) ≥ 512))) && (decide ((n : Int) ≤ 16777215))) := by
      unfold declares
      rw [hn, sEq_ls, Bool.and_true, Bool.and_assoc]
      congr 1
      show (decide (512 ≤ n) && decide (n ≤ 16777215)) = _
      congr 1
      · rw [decide_eq_decide]; omega
      · rw [decide_eq_decide]; omega
    rw [← hd]
    cases hdk : declares k with
    | true => rw [hdk] at hR; exact br_t rfl hR
    | false => rw [hdk] at hR; exact br_f rfl hR
  · have hR := h w2 (hg1.trans hg2)
    have hd : declares k = false := by unfold declares; rw [hn]; simp
    rw [hd] at hR
    exact br_f (by simp) hR
theorem lsize_spec {out : L8} {was : Nat} {w : World} {B : Nat} {R : Int → World → Prop} (hv : LbV w B) (hl : out.length ≤ 140737489403904) (hs : ∀ n, numOf out = some n → n < 9223372036854775808) (h : ∀ w', Grow w w' → R ((sizeOf' out was : Nat) : Int) w') : Clogin_size (str out) (was : Int) w R := by
  refine Flogin_size.calls _ _ _ _ ?_
  refine number_spec hv.err hl (fun n w2 hn hg2 => br_f rfl ?_) (fun w2 hn hg2 => br_t rfl ?_)
  · have := h w2 hg2
    unfold sizeOf' at this
    rw [hn] at this
    rw [w64 (by omega) (by have := hs n hn; omega)]
    exact this
  · have := h w2 hg2
    unfold sizeOf' at this
    rw [hn] at this
    exact this
theorem dec_len {n : Nat} (h : n < 18446744073709551616) : (dec n).length ≤ 20 := by
  rw [Lib.decDigits_length]; have := nDigits_le h; omega
theorem leastOf_num {o : L8} {own low high n : Nat} (how : own < 9223372036854775808) (h : numOf (leastOf o own low high) = some n) : n ≤ own := by
  unfold leastOf at h
  split at h
  · rename_i m hm
    split at h
    · have : numOf lRej = none := by decide +kernel
      rw [this] at h; cases h
    · rw [numOf_decN (by omega)] at h
      injection h with h; omega
  · have : numOf lRej = none := by decide +kernel
    rw [this] at h; cases h
theorem leastOf_len {o : L8} {own low high : Nat} (how : own < 9223372036854775808) : (leastOf o own low high).length ≤ 20 := by
  unfold leastOf
  split
  · split
    · decide
    · exact dec_len (by omega)
  · decide
end Go.Proofs.YtjfjanogfakclaaDoor

/- Layer 20: keys that tell how things go. -/
namespace Go.Proofs.YtjfjanogfakclaaDoor
open Go CF

theorem yesOf_len (o : L8) (b : Bool) : (yesOf o b).length ≤ 6 := by
  unfold yesOf
  split
  · decide
  · split <;> decide
theorem gAadd (lb i j : Nat) : ((gA (some (⟨lb, 0, none⟩ : Addr))).add i).add j = ⟨lb, i + j, none⟩ := by
  rw [gA, add0, add0, Nat.zero_add]
theorem gAadd1 (lb i : Nat) : (gA (some (⟨lb, 0, none⟩ : Addr))).add i = ⟨lb, i, none⟩ := by
  rw [gA, add0, Nat.zero_add]
section
variable {w : World} {lb B : Nat} {E : Nat → Prop} {s : LgS} {R : ByteArray → World → Prop}
set_option maxHeartbeats 1000000 in
theorem operational_spec {k : Pr} (h : IsL w lb E s) (hv : LbV w B) (hB : B ≤ lb) (hk2 : k.2.length ≤ 140737488351232)
    (hR : ∀ w', Keep (fun b => b = lb) w w' → IsL w' lb E (ruleX s k).1 → R (str (ruleX s k).2) w') : Clogin_Login_operational (some ⟨lb, 0, none⟩) (pc k).toArray w R := by
  refine Flogin_Login_operational.calls _ _ _ _ ?_
  unfold Flogin_Login_operational
  simp only [gAadd]
  refine new_rule fun kb w1 hkb hb1 hg1 hsz1 => ?_
  have hb1 : Blk w1 kb (pc k).toArray t_api_Pair := hb1
  have tne : t_api_Pair ≠ t_login_Login := by decide
  have k0 : ∀ {u : World}, Blk u kb (pc k).toArray t_api_Pair → u.cell? ((⟨kb, 0, none⟩ : Addr).add 0) = some (.string (str k.1)) := fun q => by rw [add0, q.cell]; rfl
  have k1 : ∀ {u : World}, Blk u kb (pc k).toArray t_api_Pair → u.cell? ((⟨kb, 0, none⟩ : Addr).add 1) = some (.string (str k.2)) := fun q => by rw [add0, q.cell]; rfl
  have klt := h.lt
  refine lit_rule (cells := #[.string s_None]) (e := t_string) (z := 1) (base := w1.heap.size) (str_lit1 _ _) rfl (by decide) (Nat.le_refl _) fun w2 hown2 hg2 hsz2 => ?_
  have g2 := hg1.trans hg2
  have h2 := h.grow g2
  refine ⟨rfl, s.sums, h2.at (fun t u c => rfl), ?_⟩
  -- the sums that are offered
  refine letX1 (fun (x : Sl) u => Grow w2 u ∧ Rd u 1 x (strs (ownSums s))) ?_ (fun J => ?_)
  · rintro sums u ⟨hg, hsums⟩
    have hgu := g2.trans hg
    have hu := h.grow hgu
    have hvu := hv.grow hgu
    have hbu : Blk u kb (pc k).toArray t_api_Pair := (hg2.trans hg).heap hb1 (fun q => q)
    have hkv : ∀ {y : World}, Grow u y → y.cell? ((⟨kb, 0, none⟩ : Addr).add 1) = some (.string (str k.2)) := fun g => k1 (g.heap hbu (fun q => q))
    have ec : ∀ a : ByteArray, sEq (str k.1) a = decide (k.1 = ls a) := fun a => sEq_ls
    -- behind a field that is set
    have fin : ∀ {o : Nat} {v : Value} {out : L8} (s' : LgS) {y : World}, Grow u y → ruleX s k = (s', out) → (∀ t u c, (lgv t u c s).set o v = lgv t u c s') → o < 22 → v.oneCell' = true → (s'.tgs = s.tgs ∧ s'.users = s.users ∧ s'.chal = s.chal ∧ s'.id = s.id) →
        Put ⟨lb, o, none⟩ v y fun w06 => R (str out) w06 := by
      intro o v out s' y hy hr he ho hv1 hs
      refine (hu.grow hy).put s' he ho hv1 hs fun w1 hw1 hk1 _ => ?_
      rw [hr] at hR
      exact hR w1 (((hgu.trans hy).mono fun _ _ q => q.elim).trans hk1 fun _ _ q => q) hw1
    have quiet : ∀ {out : L8} {y : World}, Grow u y → ruleX s k = (s, out) → R (str out) y := by
      intro out y hy hr
      rw [hr] at hR
      exact hR y ((hgu.trans hy).mono fun _ _ q => q.elim) (hu.grow hy)
    refine ⟨str k.1, k0 hbu, ?_⟩
    rw [ec, ec, ec, ec, ec, ec, ec]
    refine br_dec (fun q => ⟨str k.2, hkv (Keep.refl _ _), first_spec hsums (by omega) fun y hy => ⟨rfl, ?_⟩⟩) (fun q1 => ?_)
    · refine fin { s with p := { s.p with hdr := decide (firstOf k.2 (ownSums s) = vCrc) } } hy (by unfold ruleX; rw [if_pos q]) (fun t u c => ?_) (by decide) rfl ⟨rfl, rfl, rfl, rfl⟩
      rw [sEq_ls]; rfl
    refine br_dec (fun q => ⟨str k.2, hkv (Keep.refl _ _), first_spec hsums (by omega) fun y hy => ⟨rfl, ?_⟩⟩) (fun q2 => ?_)
    · refine fin { s with p := { s.p with dat := decide (firstOf k.2 (ownSums s) = vCrc) } } hy (by unfold ruleX; rw [if_neg q1, if_pos q]) (fun t u c => ?_) (by decide) rfl ⟨rfl, rfl, rfl, rfl⟩
      rw [sEq_ls]; rfl
    refine br_dec (fun q => ⟨str k.2, hkv (Keep.refl _ _), ?_⟩) (fun q3 => ?_)
    · have hr : ruleX s k = (if declares k then { s with p := { s.p with seg := min ((numOf k.2).getD 0) 8192 } } else s, lRej) := by unfold ruleX; rw [if_neg q1, if_neg q2, if_pos q]
      have rest : ∀ (n : Int) (y : World), Grow u y → (∀ m, numOf k.2 = some m → n = (m : Int)) → ∃ g : Array Value, (loadVar t_api_Pair ⟨kb, 0, none⟩).run Tryd.prog y = .ok (.agg g) y ∧ Clogin_Login_told (some ⟨lb, 0, none⟩) g y fun n1 w012 => Br (n1 == 0) ((some (⟨lb, 0, none⟩ : Addr)).isSome = true ∧ Put ⟨lb, 12 + 5, none⟩ (.int .i64 (IntKind.wrap .i64 (mn n 8192))) w012 fun w014 => R s_Reject w014) (R s_Reject w012) := by
        intro n y hy hn
        refine ⟨_, loadVar_rule g_api_Pair i_api_Pair rfl (blk_cells (hy.heap hbu (fun q => q))), told_spec (hvu.grow hy) (by omega) fun z hz => ?_⟩
        cases hd : declares k with
        | true =>
          obtain ⟨m, hm⟩ : ∃ m, numOf k.2 = some m := by
            unfold declares at hd
            cases hq : numOf k.2 with
            | some m => exact ⟨m, rfl⟩
            | none => rw [hq] at hd; simp at hd
          rw [hn m hm]
          have hmn : mn (m : Int) 8192 = ((min m 8192 : Nat) : Int) := mn_nat m 8192
          rw [hmn, w64 (by omega) (by omega)]
          refine br_t rfl ⟨rfl, ?_⟩
          refine fin (out := lRej) { s with p := { s.p with seg := min ((numOf k.2).getD 0) 8192 } } (hy.trans hz) (by rw [hr, hd]; rfl) (fun t u c => ?_) (by decide) rfl ⟨rfl, rfl, rfl, rfl⟩
          rw [hm]; rfl
        | false => exact br_f rfl (quiet (hy.trans hz) (by rw [hr, hd]; rfl))
      refine number_spec hvu.err (by omega) (fun n y hn hy => rest _ y hy fun m hm => by rw [hn] at hm; injection hm with hm; rw [hm]) (fun y hn hy => rest _ y hy fun m hm => by rw [hn] at hm; cases hm)
    refine br_dec (fun q => ⟨str k.2, hkv (Keep.refl _ _), ?_⟩) (fun q4 => ?_)
    · refine least_spec (own := 65536) (low := 512) (high := 16777215) hvu.err hvu.tab (by omega) (by decide) fun y hy => ⟨rfl, (s.p.burst : Int), (hu.grow hy).at (fun t u c => rfl), ?_⟩
      refine lsize_spec (hvu.grow hy) (by have := leastOf_len (o := k.2) (own := 65536) (low := 512) (high := 16777215) (by decide); omega) (fun n hn => by have := leastOf_num (by decide) hn; omega) fun z hz => ⟨rfl, ?_⟩
      exact fin { s with p := { s.p with burst := sizeOf' (leastOf k.2 65536 512 16777215) s.p.burst } } (hy.trans hz) (by unfold ruleX; rw [if_neg q1, if_neg q2, if_neg q3, if_pos q]) (fun t u c => rfl) (by decide) rfl ⟨rfl, rfl, rfl, rfl⟩
    refine br_dec (fun q => ⟨str k.2, hkv (Keep.refl _ _), ?_⟩) (fun q5 => ?_)
    · refine least_spec (own := 65536) (low := 512) (high := 16777215) hvu.err hvu.tab (by omega) (by decide) fun y hy => ⟨rfl, (s.p.first : Int), (hu.grow hy).at (fun t u c => rfl), ?_⟩
      refine lsize_spec (hvu.grow hy) (by have := leastOf_len (o := k.2) (own := 65536) (low := 512) (high := 16777215) (by decide); omega) (fun n hn => by have := leastOf_num (by decide) hn; omega) fun z hz => ⟨rfl, ?_⟩
      exact fin { s with p := { s.p with first := sizeOf' (leastOf k.2 65536 512 16777215) s.p.first } } (hy.trans hz) (by unfold ruleX; rw [if_neg q1, if_neg q2, if_neg q3, if_neg q4, if_pos q]) (fun t u c => rfl) (by decide) rfl ⟨rfl, rfl, rfl, rfl⟩
    refine br_dec (fun q => ⟨str k.2, hkv (Keep.refl _ _), ?_⟩) (fun q6 => ?_)
    · refine either_spec ?_
      refine ⟨fun _ => rfl, s.p.ready, fun _ => hu.at (fun t u c => rfl), rfl, ?_⟩
      refine fin { s with p := { s.p with ready := decide (eitherOf k.2 false = lYes) || decide (eitherOf k.2 false = lRej) && s.p.ready } } (Keep.refl _ _) (by unfold ruleX; rw [if_neg q1, if_neg q2, if_neg q3, if_neg q4, if_neg q5, if_pos q]) (fun t u c => ?_) (by decide) rfl ⟨rfl, rfl, rfl, rfl⟩
      rw [sEq_ls, sEq_ls]; rfl
    refine br_dec (fun q => ⟨str k.2, hkv (Keep.refl _ _), ?_⟩) (fun q7 => ?_)
    · refine both_spec ?_
      refine ⟨fun _ => rfl, s.p.imm, fun _ => hu.at (fun t u c => rfl), rfl, ?_⟩
      refine fin { s with p := { s.p with imm := decide (bothOf k.2 true = lYes) || decide (bothOf k.2 true = lRej) && s.p.imm } } (Keep.refl _ _) (by unfold ruleX; rw [if_neg q1, if_neg q2, if_neg q3, if_neg q4, if_neg q5, if_neg q6, if_pos q]) (fun t u c => ?_) (by decide) rfl ⟨rfl, rfl, rfl, rfl⟩
      rw [sEq_ls, sEq_ls]; rfl
    refine letX1 (fun (x : Bool) y => y = u ∧ (x = true ↔ (k.1 = ls s_MaxOutstandingR2T ∨ k.1 = ls s_MaxConnections))) ?_ (fun J => ?_)
    · rintro x y ⟨rfl, hx⟩
      by_cases q8 : k.1 = ls s_MaxOutstandingR2T ∨ k.1 = ls s_MaxConnections
      · refine br_t (hx.2 q8) ⟨str k.2, hkv (Keep.refl _ _), least_spec (own := 1) (low := 1) (high := 65535) hvu.err hvu.tab (by omega) (by decide) fun z hz => ?_⟩
        exact quiet hz (by unfold ruleX; rw [if_neg q1, if_neg q2, if_neg q3, if_neg q4, if_neg q5, if_neg q6, if_neg q7, if_pos q8])
      refine br_f (by cases x with | false => rfl | true => exact absurd (hx.1 rfl) q8) ?_
      rw [ec, ec, ec]
      refine br_dec (fun q => ⟨str k.2, hkv (Keep.refl _ _), least_spec (own := 0) (low := 0) (high := 2) hvu.err hvu.tab (by omega) (by decide) fun z hz => ?_⟩) (fun q9 => ?_)
      · exact quiet hz (by unfold ruleX; rw [if_neg q1, if_neg q2, if_neg q3, if_neg q4, if_neg q5, if_neg q6, if_neg q7, if_neg q8, if_pos q])
      refine letX1 (fun (x : Bool) z => z = y ∧ (x = true ↔ (k.1 = ls s_DataPDUInOrder ∨ k.1 = ls s_DataSequenceInOrder))) ?_ (fun J => ?_)
      · rintro x z ⟨rfl, hx⟩
        by_cases q10 : k.1 = ls s_DataPDUInOrder ∨ k.1 = ls s_DataSequenceInOrder
        · refine br_t (hx.2 q10) ⟨str k.2, hkv (Keep.refl _ _), either_spec ?_⟩
          exact quiet (Keep.refl _ _) (by unfold ruleX; rw [if_neg q1, if_neg q2, if_neg q3, if_neg q4, if_neg q5, if_neg q6, if_neg q7, if_neg q8, if_neg q9, if_pos q10])
        · refine br_f (by cases x with | false => rfl | true => exact absurd (hx.1 rfl) q10) ?_
          exact quiet (out := ls s_NotUnderstood) (Keep.refl _ _) (by unfold ruleX; rw [if_neg q1, if_neg q2, if_neg q3, if_neg q4, if_neg q5, if_neg q6, if_neg q7, if_neg q8, if_neg q9, if_neg q10])
      · exact br_dec (fun q => J _ _ ⟨rfl, by rw [decide_eq_true_eq]; exact ⟨.inl, fun _ => q⟩⟩) (fun q => J _ _ ⟨rfl, by rw [decide_eq_true_eq]; exact ⟨.inr, fun r => r.resolve_left q⟩⟩)
    · by_cases q : k.1 = ls s_MaxOutstandingR2T
      · exact br_t ((ec _).trans (decide_eq_true q)) (J _ _ ⟨rfl, by rw [ec, decide_eq_true_eq]; exact ⟨.inl, fun _ => q⟩⟩)
      · exact br_f ((ec _).trans (decide_eq_false q)) (J _ _ ⟨rfl, by rw [ec, decide_eq_true_eq]; exact ⟨.inr, fun r => r.resolve_left q⟩⟩)
  · cases hsm : s.sums with
    | true =>
      refine br_t rfl (lit_rule (cells := #[.string s_CRC32C, .string s_None]) (e := t_string) (z := 1) (base := w2.heap.size) (str_lit2 _ _ _) rfl (by decide) (Nat.le_refl _) fun w3 hown3 hg3 hsz3 => ?_)
      refine J _ _ ⟨hg3, ?_⟩
      unfold ownSums
      rw [hsm]
      exact hown3.rd (by show 2 ≤ _; decide)
    | false =>
      refine br_f rfl (J _ _ ⟨Keep.refl _ _, ?_⟩)
      unfold ownSums
      rw [hsm]
      exact hown2.rd (by show 1 ≤ _; decide)
end
end Go.Proofs.YtjfjanogfakclaaDoor

/- Layer 20: the answer to a key. -/
namespace Go.Proofs.YtjfjanogfakclaaDoor
open Go CF

theorem rd_nilP (w : World) (z : Nat) : Rd w z nilS [] := rd_nil w z
theorem any_take_succ {α : Type} {p : α → Bool} {l : List α} {j : Nat} (h : j < l.length) (h1 : (l.take j).any p = false) (h2 : p l[j] = false) : (l.take (j + 1)).any p = false := by
  rw [List.take_succ_eq_append_getElem h, List.any_append, h1]
  simp [h2]
section
variable {w : World} {lb B : Nat} {E : Nat → Prop} {s : LgS} {R : Sl → Bool → World → Prop}
set_option maxHeartbeats 2000000 in
theorem key_spec {k : Pr} {all : Sl} {ps : List Pr} (h : IsL w lb E s) (hv : LbV w B) (hB : B ≤ lb) (hall : Rd w 2 all (pvs ps)) (hk2 : k.2.length ≤ 140737488351232) (hps : s.users ≠ [] → ∀ p ∈ ps, p.2.length ≤ 70000000000000)
    (hR : ∀ x w', Keep (fun b => b = lb) w w' → IsL w' lb E (keyX s k ps).1 → Rd w' 2 x (pvs (keyX s k ps).2.1) → (∀ a, x.A = some a → w.heap.size ≤ a.block) → R x (keyX s k ps).2.2 w') : Clogin_Login_key (some ⟨lb, 0, none⟩) (pc k).toArray all w R := by
  refine Flogin_Login_key.calls _ _ _ _ _ ?_
  unfold Flogin_Login_key
  simp only [gAadd, gAadd1]
  have klt := h.lt
  refine new_rule fun kb w1 hkb hb1 hg1 hsz1 => ?_
  have hb1 : Blk w1 kb (pc k).toArray t_api_Pair := hb1
  have k0 : ∀ {u : World}, Blk u kb (pc k).toArray t_api_Pair → u.cell? ((⟨kb, 0, none⟩ : Addr).add 0) = some (.string (str k.1)) := fun q => by rw [add0, q.cell]; rfl
  have k1 : ∀ {u : World}, Blk u kb (pc k).toArray t_api_Pair → u.cell? ((⟨kb, 0, none⟩ : Addr).add 1) = some (.string (str k.2)) := fun q => by rw [add0, q.cell]; rfl
  have kne : kb ≠ lb := by omega
  have h1 := h.grow hg1
  have hv1 := hv.grow hg1
  have ec : ∀ a : ByteArray, sEq (str k.1) a = decide (k.1 = ls a) := fun a => sEq_ls
  have gk : ∀ {u : World}, Grow w u → Keep (fun b => b = lb) w u := fun g => g.mono fun _ _ q => q.elim
  refine ⟨str k.1, k0 hb1, ?_⟩
  refine letX0 (fun u => u = w1 ∧ keyX s k ps = ((ruleX s k).1, if declares k then [] else [(k.1, (ruleX s k).2)], true)) ?_ (fun J0 => ?_)
  · rintro u ⟨rfl, hkx⟩
    rintro u1 rfl
    have hgd := keep_drew u
    have hbd := hgd.heap hb1 (fun q => q)
    refine ⟨fun v => Blk v kb (pc k).toArray t_api_Pair, hbd, str k.1, fun v q => k0 q, _, fun v q => loadVar_rule g_api_Pair i_api_Pair rfl (blk_cells q), _, fun v q => loadVar_rule g_api_Pair i_api_Pair rfl (blk_cells q), ?_⟩
    refine operational_spec (h1.grow hgd) (hv1.grow hgd) hB hk2 fun v hkv hv2 => ⟨hkv.heap hbd kne, one_spec fun x y hxn hxc hox hgy => ⟨hgy.heap (hkv.heap hbd kne) (fun q => q), ?_⟩⟩
    refine told_spec (((hv1.grow hgd).keep hkv fun b hb q => by omega).grow hgy) (by omega) fun z hgz => ?_
    have hkw : Keep (fun b => b = lb) w z := (((gk (hg1.trans hgd)).trans hkv fun _ _ q => q).grow hgy).grow hgz
    rw [hkx] at hR
    have hox2 := (hox.grow hgz).rd (by omega)
    rw [ls_str, ls_str] at hox2
    cases hd : declares k with
    | true =>
      rw [hd] at hR
      refine ⟨⟨by decide, by show (0 : Int) ≤ 0; omega, by show (0 : Int) ≤ _; omega, by omega⟩, ?_⟩
      refine hR _ z hkw ((hv2.grow hgy).grow hgz) ?_ (fun a ha => ?_)
      · have := hox2.cut (l := 0) (k := 0) (Nat.le_refl _) (Nat.zero_le _)
        show Rd _ _ _ []
        simpa using this
      · obtain ⟨a', e1, e2⟩ := cutA_block ha
        have := (hox.ge a'.block (by simp [Sl.blk, e1])).1
        have := hkv.size
        have := hg1.size
        have := hgd.size
        omega
    | false =>
      rw [hd] at hR
      refine ⟨⟨by decide, by show (0 : Int) ≤ 1; omega, by show (1 : Int) ≤ _; omega, by omega⟩, ?_⟩
      refine hR _ z hkw ((hv2.grow hgy).grow hgz) ?_ (fun a ha => ?_)
      · have := hox2.cut (l := 0) (k := 1) (Nat.zero_le _) (by omega)
        simpa [pvs, pc] using this
      · obtain ⟨a', e1, e2⟩ := cutA_block ha
        have := (hox.ge a'.block (by simp [Sl.blk, e1])).1
        have := hkv.size
        have := hg1.size
        have := hgd.size
        omega
  -- nothing is answered
  have nil : ∀ {u : World} {b : Bool} {s' : LgS}, Keep (fun b => b = lb) w u → IsL u lb E s' → keyX s k ps = (s', [], b) → R nilS b u := fun hk hs he => by
    rw [he] at hR
    exact hR _ _ hk hs (rd_nilP _ _) (fun a ha => by cases ha)
  refine letX1 (fun (x : Bool) u => u = w1 ∧ (x = true ↔ (k.1 = kIni ∨ k.1 = kAlias ∨ k.1 = kKind ∨ k.1 = kTgt))) ?_ (fun J => ?_)
  · rintro x u ⟨rfl, hx⟩
    by_cases q0 : k.1 = kIni ∨ k.1 = kAlias ∨ k.1 = kKind ∨ k.1 = kTgt
    · exact br_t (hx.2 q0) (nil (gk hg1) h1 (by unfold keyX; rw [if_pos q0]))
    refine br_f (by cases x with | false => rfl | true => exact absurd (hx.1 rfl) q0) ?_
    rw [ec, ec, ec, ec]
    refine br_dec (fun qA => ?_) (fun q1 => ?_)
    · -- the method
      obtain ⟨t, us, c, r1, r2, r3, r4, e1, e2, e3⟩ := h1.rep
      have hun : s.users.length = us.n := rd_pairs r3
      have hunb := r3.nb
      refine ⟨rfl, us, (r1.cell 1).trans rfl, ?_⟩
      refine letX1 (fun (o : ByteArray) v => v = u ∧ o = str (ownAuth s)) ?_ (fun J => ?_)
      · rintro o v ⟨rfl, rfl⟩
        refine ⟨str k.2, k1 hb1, lit_rule (cells := #[.string (str (ownAuth s))]) (e := t_string) (z := 1) (base := v.heap.size) (str_lit1 _ _) rfl (by decide) (Nat.le_refl _) fun v1 hown1 hgv1 _ => ?_⟩
        refine first_spec (xs := [ownAuth s]) (hown1.rd (by show 1 ≤ _; decide)) (by omega) fun v2 hgv2 => ⟨rfl, ?_⟩
        have hg2 := hgv1.trans hgv2
        have hkx : keyX s k ps = ({ s with meth := firstOf k.2 [ownAuth s] }, [(k.1, firstOf k.2 [ownAuth s])], decide (firstOf k.2 [ownAuth s] ≠ lRej)) := by unfold keyX; rw [if_neg q0, if_pos qA]
        rw [hkx] at hR
        refine (h1.grow hg2).put { s with meth := firstOf k.2 [ownAuth s] } (fun t u c => rfl) (by decide) rfl ⟨rfl, rfl, rfl, rfl⟩ fun v3 h3 hk3 hs3 => ?_
        rintro v4 rfl
        have hgd := keep_drew v3
        have hb4 : Blk v3.drew kb (pc k).toArray t_api_Pair := hgd.heap (hk3.heap (hg2.heap hb1 (fun q => q)) kne) (fun q => q)
        have h4 := h3.grow hgd
        refine ⟨fun y => Blk y kb (pc k).toArray t_api_Pair ∧ IsL y lb E { s with meth := firstOf k.2 [ownAuth s] }, ⟨hb4, h4⟩, str k.1, fun y q => k0 q.1, rfl, str (firstOf k.2 [ownAuth s]), fun y q => q.2.at (fun t u c => rfl), rfl, str (firstOf k.2 [ownAuth s]), fun y q => q.2.at (fun t u c => rfl), ?_⟩
        refine one_spec fun x y hxn hxc hox hgy => ⟨⟨hgy.heap hb4 (fun q => q), h4.grow hgy⟩, ?_⟩
        have e : (!(sEq (str (firstOf k.2 [ownAuth s])) s_Reject)) = decide (firstOf k.2 [ownAuth s] ≠ lRej) := by
          rw [sEq_ls, show ls s_Reject = lRej from rfl]; simp
        rw [e]
        have hox2 := hox.rd (by omega)
        rw [ls_str, ls_str] at hox2
        refine hR x y ((((gk (hg1.trans hg2)).trans hk3 fun _ _ q => q).grow hgd).grow hgy) (h4.grow hgy) hox2 fun a ha => ?_
        have := (hox.ge a.block (by simp [Sl.blk, ha])).1
        have := hg1.size
        have := hg2.size
        have := hk3.size
        have := hgd.size
        omega
      · cases hu : s.users with
        | nil =>
          rw [hu] at hun
          refine br_f (by rw [decide_eq_false_iff_not]; simp at hun; omega) (J _ _ ⟨rfl, ?_⟩)
          unfold ownAuth; rw [hu]; rfl
        | cons a r =>
          rw [hu] at hun
          refine br_t (by rw [decide_eq_true_eq]; simp at hun; omega) (J _ _ ⟨rfl, ?_⟩)
          unfold ownAuth; rw [hu]; rfl
    refine br_dec (fun qC => ?_) (fun q2 => ?_)
    · -- the challenge
      have hkx : keyX s k ps = if s.meth ≠ vChap ∨ firstOf k.2 [[53]] ≠ [53] then (s, [], false) else ({ s with asked := true }, [(kCA, [53]), (kCI, dec s.id), (kCC, hexX s.chal)], true) := by unfold keyX; rw [if_neg q0, if_neg q1, if_pos qC]
      refine ⟨rfl, str s.meth, h1.at (fun t u c => rfl), str k.2, fun _ => k1 hb1, ?_⟩
      have em : sEq (str s.meth) s_CHAP = decide (s.meth = vChap) := sEq_ls
      rw [em]
      refine letJ1 (fun (x : Sl) v => Grow u v ∧ (s.meth = vChap → Rd v 1 x (strs [[53]]))) ?_ (fun J => ⟨fun q => ?_, fun q => J _ _ ⟨Keep.refl _ _, fun r => by simp [r] at q⟩⟩)
      · rintro x v ⟨hgv, hx⟩
        refine letJ1 (fun (a : ByteArray) y => Grow u y ∧ (s.meth = vChap → a = str (firstOf k.2 [[53]]))) ?_ (fun J => ⟨fun q => first_spec (hx (by simpa using q)) (by omega) fun y hy => J _ _ ⟨hgv.trans hy, fun _ => rfl⟩, fun q => J _ _ ⟨hgv, fun r => by simp [r] at q⟩⟩)
        rintro a y ⟨hgy, ha⟩
        have hgw := hg1.trans hgy
        by_cases qm : s.meth = vChap
        · rw [ha qm, show sEq (str (firstOf k.2 [[53]])) s_5 = decide (firstOf k.2 [[53]] = [53]) from sEq_ls]
          by_cases qf : firstOf k.2 [[53]] = [53]
          · refine br_f (by simp [qm, qf]) ⟨rfl, ?_⟩
            rw [if_neg (by rintro (r | r); exact r qm; exact r qf)] at hkx
            rw [hkx] at hR
            refine (h1.grow hgy).put { s with asked := true } (fun t u c => rfl) (by decide) rfl ⟨rfl, rfl, rfl, rfl⟩ fun v3 h3 hk3 hs3 => ?_
            rintro v4 rfl
            have hgd := keep_drew v3
            have h4 := h3.grow hgd
            obtain ⟨t, us, c, r1, r2, r3, r4, e1, e2, e3⟩ := h4.rep
            have r4 : Rd v3.drew 1 c (bv s.chal) := r4
            have cc : ∀ {o : World}, Grow v3.drew o → o.cell? ⟨lb, 4, none⟩ = some (.slice c.A c.n c.c) := fun g => by rw [Blk.cell (g.heap r1 (fun q => q))]; rfl
            have ci : ∀ {o : World}, Grow v3.drew o → o.cell? ⟨lb, 3, none⟩ = some (.int .u8 (s.id : Int)) := fun g => by rw [Blk.cell (g.heap r1 (fun q => q))]; rfl
            have hid := h.id
            have kw4 : Keep (fun b => b = lb) w v3.drew := ((gk hgw).trans hk3 fun _ _ q => q).grow hgd
            have hv4 : LbV v3.drew B := hv.keep kw4 fun b hb q => by omega
            refine ⟨fun o => Grow v3.drew o, Keep.refl _ _, rfl, (s.id : Int), fun o g => ci g, rfl, c, fun o g => cc g, ?_⟩
            refine one_spec fun x5 y5 hxn hxc hox hgy5 => ⟨hgy5, ?_⟩
            rw [w64 (by omega) (by omega)]
            refine itoa_spec ((hv4.grow hgy5).tab) (by omega) fun y6 hg6 => ⟨hgy5.trans hg6, fun o => Grow v3.drew o, hgy5.trans hg6, fun _ g => g, ?_⟩
            refine hex_spec (r4.grow (hgy5.trans hg6)) h.ch fun y7 hg7 => ⟨(hgy5.trans hg6).trans hg7, fun o => Grow v3.drew o, (hgy5.trans hg6).trans hg7, fun _ g => g, ?_⟩
            refine lit_rule (cells := #[.string s_CHAPx5fI, .string (str (dec s.id)), .string s_CHAPx5fC, .string (str (hexX s.chal))]) (e := t_api_Pair) (z := 2) (base := 0) (pair_lit2 _ _ _ _ _) rfl (by decide) (Nat.zero_le _) fun y8 hown8 hg8 _ => ?_
            have hox8 := ((hox.grow hg6).grow hg7).grow hg8
            have g68 := (hg6.trans hg7).trans hg8
            refine append_rule u_sl_api_Pair i_api_Pair rfl (by decide) (by decide) hox8 (hown8.rd (by show 2 ≤ _; decide)) (by simp [Value.oneCell']) (by rw [hxn]; show (1 + 2) * 32 ≤ _; decide) (by have := hgy5.size; have := g68.size; omega) fun x9 y9 hn9 hown9 hk9 hat9 => ?_
            have hn9 : x9.n = x5.n + 2 := hn9
            have hnl : ∀ b, x5.blk = some b → b ≠ lb := fun b hb q => by
              have := (hox.ge b hb).1
              have := h4.lt
              omega
            have kw9 : Keep (fun b => b = lb) w y9 := by
              refine (((kw4.grow hgy5).grow g68).trans hk9 fun i hi q => ?_)
              have := (hox.ge i q.symm).1
              have := kw4.size
              omega
            refine hR x9 y9 kw9 (((h4.grow hgy5).grow g68).keep hk9 (fun q => (hnl lb q.symm) rfl) fun b hb q => ?_) ?_ (fun a ha => ?_)
            · have := h4.el b hb
              have := (hox.ge b q.symm).1
              omega
            · exact hown9.rd (by omega)
            · have := (hown9.ge a.block (by simp [Sl.blk, ha])).1
              have := kw4.size
              omega
          · refine br_t (by simp [qf]) (nil (gk hgw) (h1.grow hgy) (by rw [hkx, if_pos (.inr qf)]))
        · exact br_t (by simp [qm]) (nil (gk hgw) (h1.grow hgy) (by rw [hkx, if_pos (.inl qm)]))
      · refine lit_rule (cells := #[.string s_5]) (e := t_string) (z := 1) (base := u.heap.size) (str_lit1 _ _) rfl (by decide) (Nat.le_refl _) fun v1 hown1 hgv1 _ => J _ _ ⟨hgv1, fun _ => hown1.rd (by show 1 ≤ _; decide)⟩
    refine br_dec (fun qN => ?_) (fun q3 => ?_)
    · -- the answer to it
      have hkx : keyX s k ps = if knows s k.2 ((find ps kCR).getD []) then ({ s with proved := true, asked := false }, [], true) else (s, [], false) := by unfold keyX; rw [if_neg q0, if_neg q1, if_neg q2, if_pos qN]
      show Ctext_Find all (str kCR) _ _
      refine find_text_spec (hall.grow hg1) fun v hgv => ?_
      have hans : s.users ≠ [] → ((find ps kCR).getD []).length ≤ 70000000000000 := fun hne => by
        unfold find
        cases hf : ps.find? fun p => decide (p.1 = kCR) with
        | none => simp
        | some p => exact hps hne p (List.mem_of_find?_eq_some hf)
      generalize (find ps kCR).getD [] = ans at *
      have hgw := hg1.trans hgv
      have hv' := h1.grow hgv
      obtain ⟨t, us, c, r1, r2, r3, r4, e1, e2, e3⟩ := hv'.rep
      have hun : s.users.length = us.n := rd_pairs r3
      have hunb := r3.nb
      refine ⟨rfl, us, (r1.cell 1).trans rfl, ?_⟩
      unfold knows at hkx
      refine ⟨fun x y => ∃ j : Nat, x = j ∧ j ≤ us.n ∧ Grow v y ∧ (s.users.take j).any (fun u => decide (u.1 = k.2) && s.asked && rightX s.id u.2 s.chal ans) = false, fun x _ => us.n - x.toNat, ⟨0, rfl, Nat.zero_le _, Keep.refl _ _, rfl⟩, ?_⟩
      rintro x y ⟨j, rfl, hj, hgy, hno⟩
      refine br_nat (fun hlt => ?_) (fun hge => ?_)
      · have hjl : j < s.users.length := by omega
        have hus := h.us _ (List.getElem_mem hjl)
        obtain ⟨a, ha, hc⟩ := rd_pair (r3.grow hgy) hjl
        generalize huj : s.users[j] = uu at *
        refine ⟨⟨by omega, by omega, by rw [ha]; rfl⟩, (pc uu).toArray, by rw [ha, Int.toNat_natCast]; exact loadVar_rule g_login_User i_login_User rfl hc, ?_⟩
        refine new_rule fun ub y1 hub hby1 hgy1 hsy1 => ?_
        refine storeVar_rule (cells := (pc uu).toArray) hby1 i_login_User rfl rfl (by simp [pc, Value.oneCell']) fun y2 hby2 hky2 hsy2 => ?_
        have g02 : Grow v y2 := hgy.trans (hgy1.keep hky2 fun i hi q => by omega)
        rintro y3 rfl
        have g23 := keep_drew y2
        have g03 : Grow v y2.drew := g02.trans g23
        have hbu3 : Blk y2.drew ub (pc uu).toArray t_login_User := g23.heap hby2 (fun q => q)
        have hbk3 : Blk y2.drew kb (pc k).toArray t_api_Pair := (hgv.trans g03).heap hb1 (fun q => q)
        have hb3 : Blk y2.drew lb (lgv t us c s).toArray t_login_Login := g03.heap r1 (fun q => q)
        have r43 := r4.grow g03
        have e14 : sEq (str uu.1) (str k.2) = decide (uu.1 = k.2) := sEq_str
        generalize hy3 : y2.drew = y3 at *
        refine ⟨fun o => o = y3, rfl, str uu.1, fun o e => by rw [e, add0, hbu3.cell]; rfl, str k.2, fun o e => by rw [e]; exact k1 hbk3, fun _ => rfl, s.asked, fun _ o e => by rw [e, hb3.cell]; rfl, fun _ => rfl, (s.id : Int), fun _ o e => by rw [e, hb3.cell]; rfl, str uu.2, fun _ o e => by rw [e, add0, hbu3.cell]; rfl, fun _ => rfl, c, fun _ o e => by rw [e, hb3.cell]; rfl, ?_⟩
        rw [e14]
        refine letJ1 (fun (b2 : Bool) o => Grow y3 o ∧ ((decide (uu.1 = k.2) && s.asked) = true → b2 = rightX s.id uu.2 s.chal ans)) ?_ (fun J => ⟨fun q => right_spec h.id r43 hus (hans (fun e => by rw [e] at hjl; simp at hjl)) fun o hgo => J _ _ ⟨hgo, fun _ => rfl⟩, fun q => J _ _ ⟨Keep.refl _ _, fun r => by rw [q] at r; cases r⟩⟩)
        rintro b2 o ⟨hgo, hb2⟩
        have hgwo : Grow w o := (hgw.trans g03).trans hgo
        have eq : ((decide (uu.1 = k.2) && s.asked) && b2) = (decide (uu.1 = k.2) && s.asked && rightX s.id uu.2 s.chal ans) := by
          cases hq : (decide (uu.1 = k.2) && s.asked) with
          | true => rw [hb2 hq]
          | false => rfl
        rw [eq]
        cases hkn : (decide (uu.1 = k.2) && s.asked && rightX s.id uu.2 s.chal ans) with
        | true =>
          refine br_t rfl ⟨rfl, ?_⟩
          have hany : s.users.any (fun u => decide (u.1 = k.2) && s.asked && rightX s.id u.2 s.chal ans) = true := List.any_eq_true.2 ⟨uu, huj ▸ List.getElem_mem hjl, hkn⟩
          rw [hany, if_pos rfl] at hkx
          refine (h.grow hgwo).put { s with proved := true } (fun t u c => rfl) (by decide) rfl ⟨rfl, rfl, rfl, rfl⟩ fun o1 ho1 hk1 hs1 => ⟨rfl, ?_⟩
          refine ho1.put { s with proved := true, asked := false } (fun t u c => rfl) (by decide) rfl ⟨rfl, rfl, rfl, rfl⟩ fun o2 ho2 hk2 hs2 => ?_
          exact nil (((gk hgwo).trans hk1 fun _ _ q => q).trans hk2 fun _ _ q => q) ho2 hkx
        | false =>
          refine br_f rfl ?_
          rw [w64 (by omega) (by omega)]
          refine ⟨⟨j + 1, by omega, by omega, g03.trans hgo, any_take_succ hjl hno (by rw [huj]; exact hkn)⟩, by dsimp only; omega⟩
      · have : j = s.users.length := by omega
        subst this
        rw [List.take_length] at hno
        rw [hno] at hkx
        exact nil (gk (hgw.trans hgy)) (h.grow (hgw.trans hgy)) hkx
    refine br_dec (fun qR => ?_) (fun q4 => ?_)
    · exact nil (gk hg1) h1 (by unfold keyX; rw [if_neg q0, if_neg q1, if_neg q2, if_neg q3, if_pos qR])
    · exact J0 _ ⟨rfl, by unfold keyX; rw [if_neg q0, if_neg q1, if_neg q2, if_neg q3, if_neg q4]⟩
  · by_cases q1 : k.1 = kIni
    · exact br_t ((ec _).trans (decide_eq_true q1)) (J _ _ ⟨rfl, by rw [ec, decide_eq_true_eq]; exact ⟨.inl, fun _ => q1⟩⟩)
    refine br_f ((ec _).trans (decide_eq_false q1)) ?_
    by_cases q2 : k.1 = kAlias
    · exact br_t ((ec _).trans (decide_eq_true q2)) (J _ _ ⟨rfl, by rw [ec, decide_eq_true_eq]; exact ⟨fun r => .inr (.inl r), fun _ => q2⟩⟩)
    refine br_f ((ec _).trans (decide_eq_false q2)) ?_
    by_cases q3 : k.1 = kKind
    · exact br_t ((ec _).trans (decide_eq_true q3)) (J _ _ ⟨rfl, by rw [ec, decide_eq_true_eq]; exact ⟨fun r => .inr (.inr (.inl r)), fun _ => q3⟩⟩)
    refine br_f ((ec _).trans (decide_eq_false q3)) (J _ _ ⟨rfl, ?_⟩)
    rw [ec, decide_eq_true_eq]
    exact ⟨fun r => .inr (.inr (.inr r)), fun r => by rcases r with r | r | r | r; exact absurd r q1; exact absurd r q2; exact absurd r q3; exact r⟩
end
end Go.Proofs.YtjfjanogfakclaaDoor

/- Layer 20: a login is made; a step. -/
namespace Go.Proofs.YtjfjanogfakclaaDoor
open Go CF

theorem strs_one (xs : List L8) : ∀ v ∈ strs xs, v.oneCell' = true := fun v hv => by
  obtain ⟨x, _, rfl⟩ := List.mem_map.1 hv; rfl
theorem cloneS_spec {s : Sl} {xs : List L8} {w : World} {R : Sl → World → Prop} (hs : Rd w 1 s (strs xs)) (hb : s.n * 16 ≤ 140737488355328) (h : ∀ x w', CF.Own w' w.heap.size t_string 1 x (strs xs) → x.n = xs.length → Grow w w' → R x w') : Cslices_Clone_string_string s w R := by
  refine Fslices_Clone_string_string.calls _ _ _ ?_
  have hn : xs.length = s.n := by have := hs.len; rw [List.length_map] at this; omega
  cases hA : s.A with
  | none =>
    have hx : xs = [] := by
      by_cases e : strs xs = []
      · simpa using e
      · obtain ⟨a, ha, _⟩ := hs.at_ e; rw [hA] at ha; cases ha
    unfold Fslices_Clone_string_string
    rw [hA]
    subst hx
    exact br_t rfl (h _ w (own_nil _ _ _ _) rfl (Keep.refl _ _))
  | some a =>
    unfold Fslices_Clone_string_string
    rw [hA]
    refine br_f rfl (lit_rule (cells := #[]) (e := t_string) (z := 1) (base := w.heap.size) (by kernel_rfl) rfl (by decide) (Nat.le_refl _) fun w1 hown1 hg1 _ => ?_)
    rw [← hA]
    refine append_rule u_sl_string i_string rfl (by decide) (by decide) hown1 (hs.grow hg1) (strs_one xs) (by show (0 + s.n) * 16 ≤ _; omega) hg1.size fun x w2 hn2 hown2 hk2 _ => ?_
    have hn2 : x.n = 0 + s.n := hn2
    refine h x w2 hown2 (by omega) (hg1.keep hk2 fun i hi q => ?_)
    have := (hown1.ge i q.symm).1
    omega
theorem cloneU_spec {s : Sl} {us : List Pr} {w : World} {R : Sl → World → Prop} (hs : Rd w 2 s (pvs us)) (hb : s.n * 32 ≤ 140737488355328) (h : ∀ x w', CF.Own w' w.heap.size t_login_User 2 x (pvs us) → x.n = us.length → Grow w w' → R x w') : Cslices_Clone_login_User_login_User s w R := by
  refine Fslices_Clone_login_User_login_User.calls _ _ _ ?_
  have hn : us.length = s.n := rd_pairs hs
  cases hA : s.A with
  | none =>
    have hx : us = [] := by
      cases us with
      | nil => rfl
      | cons a r =>
        obtain ⟨a, ha, _⟩ := hs.at_ (by simp [pvs, pc]); rw [hA] at ha; cases ha
    unfold Fslices_Clone_login_User_login_User
    rw [hA]
    subst hx
    exact br_t rfl (h _ w (own_nil _ _ _ _) rfl (Keep.refl _ _))
  | some a =>
    unfold Fslices_Clone_login_User_login_User
    rw [hA]
    refine br_f rfl (lit_rule (cells := #[]) (e := t_login_User) (z := 2) (base := w.heap.size) (by kernel_rfl) rfl (by decide) (Nat.le_refl _) fun w1 hown1 hg1 _ => ?_)
    rw [← hA]
    refine append_rule u_sl_login_User i_login_User rfl (by decide) (by decide) hown1 (hs.grow hg1) (pvs_one us) (by show (0 + s.n) * 32 ≤ _; omega) hg1.size fun x w2 hn2 hown2 hk2 _ => ?_
    have hn2 : x.n = 0 + s.n := hn2
    refine h x w2 hown2 (by omega) (hg1.keep hk2 fun i hi q => ?_)
    have := (hown1.ge i q.symm).1
    omega
theorem contains_spec {s : Sl} {xs : List L8} {x : L8} {w : World} {R : Bool → World → Prop} (hs : Rd w 1 s (strs xs)) (h : R (decide (x ∈ xs)) w) : Cslices_Contains_string_string s (str x) w R := by
  refine Fslices_Contains_string_string.calls _ _ _ _ ?_
  refine Fslices_Index_string_string.calls _ _ _ _ ?_
  have hn : xs.length = s.n := by have := hs.len; rw [List.length_map] at this; omega
  have hnb := hs.nb
  refine ⟨fun i u => ∃ j : Nat, i = j ∧ j ≤ xs.length ∧ u = w ∧ ∀ t (ht : t < xs.length), t < j → xs[t] ≠ x, fun i _ => xs.length - i.toNat, ⟨0, rfl, Nat.zero_le _, rfl, fun _ _ q => absurd q (Nat.not_lt_zero _)⟩, ?_⟩
  rintro i u ⟨j, rfl, hj, rfl, hno⟩
  rw [← hn]
  refine br_nat (fun hlt => ?_) (fun hge => ?_)
  · obtain ⟨ha, hc⟩ := rd_val hs (i := j) (by rw [List.length_map]; exact hlt)
    rw [List.getElem_map] at hc
    refine ⟨⟨by omega, by omega, ha⟩, _, by rw [Int.toNat_natCast]; exact hc, ?_⟩
    by_cases q : x = xs[j]
    · refine br_t (by rw [sEq_str, decide_eq_true_eq]; exact q) ?_
      have : x ∈ xs := q ▸ List.getElem_mem hlt
      rw [decide_eq_true this] at h
      have e : decide ((j : Int) ≥ 0) = true := by rw [decide_eq_true_eq]; omega
      show R (decide ((j : Int) ≥ 0)) u
      rw [e]; exact h
    · refine br_f (by rw [sEq_str, decide_eq_false_iff_not]; exact q) ?_
      rw [w64 (by omega) (by omega)]
      refine ⟨⟨j + 1, by omega, by omega, rfl, fun t ht htj => ?_⟩, by dsimp only; omega⟩
      by_cases e : t = j
      · subst e; exact fun r => q r.symm
      · exact hno t ht (by omega)
  · have : ¬ x ∈ xs := fun q => by
      obtain ⟨t, ht, e⟩ := List.getElem_of_mem q
      exact hno t ht (by omega) e
    rw [decide_eq_false this] at h
    exact h
theorem login_build (w : World) (t u c : Sl) (sums : Bool) (id : Nat) (b : Bool) : (Instr.build t_login_Login #[(0, .agg #[.slice t.A t.n t.c, .slice u.A u.n u.c, .bool sums]), (1, .int .u8 (id : Int)), (2, .slice c.A c.n c.c), (7, .bool b), (10, .agg #[.string ⟨#[]⟩, .string ⟨#[]⟩, .bool false, .bool false, .bool false, .int .i64 8192, .int .i64 65536, .int .i64 65536, .bool true, .bool true])]).run Tryd.prog w =
    .ok (.agg #[.slice t.A t.n t.c, .slice u.A u.n u.c, .bool sums, .int .u8 (id : Int), .slice c.A c.n c.c, .bool false, .int .u8 0, .string ⟨#[]⟩, .bool false, .bool b, .bool false, .bool false, .string ⟨#[]⟩, .string ⟨#[]⟩, .bool false, .bool false, .bool false, .int .i64 8192, .int .i64 65536, .int .i64 65536, .bool true, .bool true]) w := by kernel_rfl
theorem new_login_spec {t u c : Sl} {tgs : List L8} {users : List Pr} {sums : Bool} {id : Nat} {chal : L8} {w : World} {R : Option Addr → World → Prop} (ht : Rd w 1 t (strs tgs)) (hu : Rd w 2 u (pvs users)) (hc : Rd w 1 c (bv chal)) (ht16 : t.n * 16 ≤ 140737488355328) (hu32 : u.n * 32 ≤ 140737488355328) (hid : id < 256)
    (hcl : chal.length ≤ 70000000000000) (hus : ∀ u ∈ users, u.2.length + chal.length ≤ 140737488354000)
    (hR : ∀ lb E w', Grow w w' → IsL w' lb E (lg0 tgs users sums id chal) → w.heap.size ≤ lb → (∀ b, E b → w.heap.size ≤ b) → R (some ⟨lb, 0, none⟩) w') : Clogin_New #[.slice t.A t.n t.c, .slice u.A u.n u.c, .bool sums] (id : Int) c w R := by
  refine Flogin_New.calls _ _ _ _ _ ?_
  refine new_rule fun cb w1 hcb hb1 hg1 hsz1 => ?_
  rintro w2 rfl
  have hg2 := hg1.trans (keep_drew w1)
  have hb2 : Blk w1.drew cb _ t_login_Config := (keep_drew w1).heap hb1 (fun q => q)
  generalize w1.drew = w2 at *
  refine ⟨fun v => Grow w2 v, Keep.refl _ _, t, fun v g => by rw [add0, Blk.cell (g.heap hb2 (fun q => q))]; rfl, u, fun v g => by rw [add0, Blk.cell (g.heap hb2 (fun q => q))]; rfl, ?_⟩
  refine cloneS_spec (ht.grow hg2) ht16 fun x2 w3 ho3 hn3 hg3 => ⟨hg3, ?_⟩
  refine cloneU_spec ((hu.grow hg2).grow hg3) hu32 fun x3 w4 ho4 hn4 hg4 => ?_
  have hb4 : Blk w4 cb _ t_login_Config := (hg3.trans hg4).heap hb2 (fun q => q)
  have s2 := hg2.size
  have s3 := hg3.size
  have s4 := hg4.size
  rw [add0, add0]
  refine put_rule hb4 (by show 0 < 3; decide) rfl fun w5 hb5 hk5 hsz5 => ?_
  refine put_rule hb5 (by show 1 < 3; decide) rfl fun w6 hb6 hk6 hsz6 => ?_
  have hb6 : Blk w6 cb #[.slice x2.A x2.n x2.c, .slice x3.A x3.n x3.c, .bool sums] t_login_Config := hb6
  have k46 : Keep (fun b => b = cb) w4 w6 := hk5.trans hk6 fun _ _ q => q
  have hg6 : Grow w w6 := ((hg2.trans hg3).trans hg4).keep k46 fun i hi q => by omega
  have n2 : ∀ b, x2.blk = some b → b ≠ cb := fun b hb q => by have := (ho3.ge b hb).1; have := lt_of_heap hb2; omega
  have n3 : ∀ b, x3.blk = some b → b ≠ cb := fun b hb q => by have := (ho4.ge b hb).1; have := lt_of_heap hb2; omega
  have o2 := (ho3.grow hg4).keep k46 fun b hb q => n2 b hb q
  have o3 := ho4.keep k46 fun b hb q => n3 b hb q
  rintro w7 rfl
  have hgd := keep_drew w6
  have hb7 : Blk w6.drew cb _ t_login_Config := hgd.heap hb6 (fun q => q)
  have hg7 := hg6.trans hgd
  have o27 := o2.grow hgd
  have o37 := o3.grow hgd
  generalize w6.drew = w7 at *
  refine ⟨fun v => Blk v cb #[.slice x2.A x2.n x2.c, .slice x3.A x3.n x3.c, .bool sums] t_login_Config, hb7, _, fun v q => loadVar_rule (cs := [.slice x2.A x2.n x2.c, .slice x3.A x3.n x3.c, .bool sums]) g_login_Config i_login_Config rfl (blk_cells q), x3, fun v q => (Blk.cell q 1).trans rfl, ?_⟩
  refine append_rule (base := w7.heap.size) u_sl_uint8 i_uint8 rfl (by decide) (by decide) (own_nil _ _ _ _) (hc.grow hg7) (bv_one' _) (by have := rd_n' hc; show (0 + c.n) * 1 ≤ _; omega) (Nat.le_refl _) fun x5 w8 hn8 ho8 hk8 _ => ?_
  have hg8 : Grow w7 w8 := hk8.mono fun i hi q => by simp [Sl.blk] at q
  have hb8 : Blk w8 cb _ t_login_Config := hg8.heap hb7 (fun q => q)
  have hem : ((x3.n : Int) == 0) = users.isEmpty := by
    rw [hn4]
    cases users with
    | nil => rfl
    | cons a r => simp; omega
  refine ⟨hb8, fun v => Blk v cb _ t_login_Config, hb8, fun _ q => q, _, fun v _ => login_build v x2 x3 x5 sums id _, new_rule fun lb w9 hlb hb9 hg9 hsz9 => ?_⟩
  rw [hem] at hb9
  have hg89 := hg8.trans hg9
  have o29 := o27.grow hg89
  have o39 := o37.grow hg89
  have o59 := ho8.grow hg9
  have s7 := hg7.size
  have s8 := hg8.size
  have e2 : tgs.length = t.n := by have := ht.1; rw [List.length_map] at this; omega
  have e3 : users.length = u.n := rd_pairs hu
  refine hR lb (fun b => x2.blk = some b ∨ x3.blk = some b ∨ x5.blk = some b) w9 (hg7.trans hg89) ⟨⟨x2, x3, x5, hb9, o29.rd (by omega), o39.rd (by omega), o59.rd (by have : x5.n = 0 + c.n := hn8; have := hc.nb; omega), fun a ha => .inl (by simp [Sl.blk, ha]), fun a ha => .inr (.inl (by simp [Sl.blk, ha])), fun a ha => .inr (.inr (by simp [Sl.blk, ha]))⟩, ?_, ?_, hid, hcl, hus⟩ (by omega) ?_
  · rintro (q | q | q)
    · have := (o27.ge lb q).2; omega
    · have := (o37.ge lb q).2; omega
    · have := (ho8.ge lb q).2; omega
  · rintro b (q | q | q)
    · exact (o29.ge b q).2
    · exact (o39.ge b q).2
    · exact (o59.ge b q).2
  · rintro b (q | q | q)
    · have := (o27.ge b q).1; omega
    · have := (o37.ge b q).1; omega
    · have := (ho8.ge b q).1; omega
end Go.Proofs.YtjfjanogfakclaaDoor

/- Layer 20: a step. -/
namespace Go.Proofs.YtjfjanogfakclaaDoor
open Go CF

def rqv (r : RqS) (k : Sl) : List Value := [.int .u8 (r.stage : Int), .int .u8 (r.next : Int), .bool r.transit, .slice k.A k.n k.c]
def anv (a : AnS) (k : Sl) : List Value := [.int .u8 (a.cls : Int), .int .u8 (a.detail : Int), .int .u8 (a.stage : Int), .int .u8 (a.next : Int), .bool a.transit, .slice k.A k.n k.c]
def an0 : AnS := ⟨0, 0, 0, 0, false, []⟩
theorem keyX_len (s : LgS) (k : Pr) (all : List Pr) : (keyX s k all).2.1.length ≤ 3 := by
  unfold keyX
  split
  · exact Nat.zero_le 3
  split
  · exact (by decide : (1 : Nat) ≤ 3)
  split
  · split
    · exact Nat.zero_le 3
    · exact Nat.le_refl 3
  split
  · split <;> exact Nat.zero_le 3
  split
  · exact Nat.zero_le 3
  · show (if declares k then ([] : List Pr) else [(k.1, (ruleX s k).2)]).length ≤ 3
    split <;> simp
/-- what stays of a login through a key -/
theorem ruleX_keeps (s : LgS) (k : Pr) : (ruleX s k).1.tgs = s.tgs ∧ (ruleX s k).1.users = s.users ∧ (ruleX s k).1.chal = s.chal ∧ (ruleX s k).1.id = s.id := by
  unfold ruleX
  repeat' (first | exact ⟨rfl, rfl, rfl, rfl⟩ | split)
theorem keyX_keeps (s : LgS) (k : Pr) (all : List Pr) : (keyX s k all).1.tgs = s.tgs ∧ (keyX s k all).1.users = s.users ∧ (keyX s k all).1.chal = s.chal ∧ (keyX s k all).1.id = s.id := by
  unfold keyX
  repeat' (first | exact ⟨rfl, rfl, rfl, rfl⟩ | exact ruleX_keeps s k | split)
theorem keysX_snoc (all : List Pr) : ∀ (l : List Pr) (s : LgS) (out : List Pr) (k : Pr), keysX all s (l ++ [k]) out = match keysX all s l out with
    | (s', o, true) => (match keyX s' k all with | (s2, o2, true) => (s2, o ++ o2, true) | (s2, _, false) => (s2, [], false))
    | (s', o, false) => (s', o, false)
  | [], s, out, k => by
    show (match keyX s k all with | (s', o, true) => keysX all s' [] (out ++ o) | (s', _, false) => (s', [], false)) = _
    show _ = (match keyX s k all with | (s2, o2, true) => (s2, out ++ o2, true) | (s2, _, false) => (s2, [], false))
    rcases keyX s k all with ⟨s', o, b⟩
    cases b <;> rfl
  | a :: l, s, out, k => by
    show (match keyX s a all with | (s', o, true) => keysX all s' (l ++ [k]) (out ++ o) | (s', _, false) => (s', [], false)) = _
    show _ = match (match keyX s a all with | (s', o, true) => keysX all s' l (out ++ o) | (s', _, false) => (s', [], false)) with
      | (s', o, true) => (match keyX s' k all with | (s2, o2, true) => (s2, o ++ o2, true) | (s2, _, false) => (s2, [], false))
      | (s', o, false) => (s', o, false)
    rcases keyX s a all with ⟨s', o, b⟩
    cases b with
    | true => exact keysX_snoc all l s' (out ++ o) k
    | false => rfl
/-- a key that fails ends them all -/
theorem keysX_fail (all : List Pr) : ∀ (l r : List Pr) (s : LgS) (out : List Pr) {s' : LgS} {o : List Pr}, keysX all s l out = (s', o, false) → keysX all s (l ++ r) out = (s', o, false)
  | [], r, s, out, s', o, h => by cases h
  | a :: l, r, s, out, s', o, h => by
    have h : (match keyX s a all with | (s', o, true) => keysX all s' l (out ++ o) | (s', _, false) => (s', [], false)) = (s', o, false) := h
    show (match keyX s a all with | (s', o, true) => keysX all s' (l ++ r) (out ++ o) | (s', _, false) => (s', [], false)) = (s', o, false)
    revert h
    rcases keyX s a all with ⟨s1, o1, b⟩
    intro h
    cases b with
    | true => exact keysX_fail all l r s1 (out ++ o1) h
    | false => exact h
theorem stepB (a b c : Nat) (t : Bool) : ((((a : Int) != (b : Int))) || (t && ((decide ((c : Int) ≤ (a : Int))) || (((c : Int) != 1) && ((c : Int) != 3))))) = decide (a ≠ b ∨ (t = true ∧ (c ≤ a ∨ (c ≠ 1 ∧ c ≠ 3)))) := by
  rw [Bool.eq_iff_iff]
  simp only [Bool.or_eq_true, Bool.and_eq_true, bne_iff_ne, decide_eq_true_eq, ne_eq]
  cases t
  · simp; omega
  · simp; omega
theorem firstX_le (s : LgS) (ps : List Pr) : (firstX s ps).2 ≤ 255 := by
  unfold firstX
  repeat' (first | (exact (by decide : (7 : Nat) ≤ 255)) | (exact (by decide : (9 : Nat) ≤ 255)) | (exact (by decide : (3 : Nat) ≤ 255)) | exact Nat.le_refl 255 | split | dsimp only)
theorem firstX_users (s : LgS) (ps : List Pr) : (firstX s ps).1.users = s.users := by
  unfold firstX
  repeat' (first | rfl | split | dsimp only)
section
variable {w : World} {lb B : Nat} {E : Nat → Prop} {s : LgS}
theorem fail_spec {d : Nat} {R : Array Value → Int → World → Prop} (h : IsL w lb E s) (hd : d < 256) (hR : ∀ w', Keep (fun b => b = lb) w w' → IsL w' lb E { s with over := true } → R (anv ⟨2, d, 0, 0, false, []⟩ nilS).toArray 0 w') : Clogin_Login_fail (some ⟨lb, 0, none⟩) (d : Int) w R := by
  refine Flogin_Login_fail.calls _ _ _ _ ?_
  unfold Flogin_Login_fail
  simp only [gAadd1]
  refine new_rule fun ab w1 hab hb1 hg1 hsz1 => ⟨rfl, ?_⟩
  have hlt := h.lt
  refine (h.grow hg1).put { s with over := true } (fun t u c => rfl) (by decide) rfl ⟨rfl, rfl, rfl, rfl⟩ fun w2 h2 hk2 hs2 => ?_
  have hb2 : Blk w2 ab _ t_login_Answer := hk2.heap hb1 (by omega)
  refine storeVar_rule (cells := (anv ⟨2, d, 0, 0, false, []⟩ nilS).toArray) hb2 i_login_Answer rfl rfl (by simp [anv, Value.oneCell']) fun w3 hb3 hk3 hs3 => ?_
  refine ⟨_, loadVar_rule g_login_Answer i_login_Answer rfl (blk_cells hb3), hR w3 ?_ (h2.keep hk3 (by omega) fun b hb q => ?_)⟩
  · exact ((hg1.mono fun _ _ q => q.elim).trans hk2 fun _ _ q => q).trans hk3 fun i hi q => by omega
  · have := h.el b hb; omega
theorem lfirst_spec {ks : Sl} {ps : List Pr} {R : Int → World → Prop} (h : IsL w lb E s) (hk : Rd w 2 ks (pvs ps)) (hkb : ps ≠ [] → ∀ a, ks.A = some a → a.block ≠ lb) (hR : ∀ w', Keep (fun b => b = lb) w w' → IsL w' lb E (firstX s ps).1 → R (((firstX s ps).2 : Nat) : Int) w') :
    Clogin_Login_first (some ⟨lb, 0, none⟩) ks w R := by
  refine Flogin_Login_first.calls _ _ _ _ ?_
  unfold Flogin_Login_first
  simp only [gAadd]
  have gk : ∀ {u v : World}, Keep (fun b => b = lb) w u → Grow u v → Keep (fun b => b = lb) w v := fun k g => k.grow g
  have hkk : ∀ {u : World}, Keep (fun b => b = lb) w u → Rd u 2 ks (pvs ps) := fun k => hk.keepN k fun hne a ha q => hkb (fun e => hne (by rw [e]; rfl)) a ha q
  show Ctext_Find ks (str kIni) _ _
  refine find_text_spec hk fun w1 hg1 => ⟨rfl, ?_⟩
  unfold firstX at hR
  generalize (find ps kIni).getD [] = ini at *
  have k1 : Keep (fun b => b = lb) w w1 := hg1.mono fun _ _ q => q.elim
  refine (h.grow hg1).put { s with p := { s.p with ini := ini } } (fun t u c => rfl) (by decide) rfl ⟨rfl, rfl, rfl, rfl⟩ fun w2 h2 hk2 hs2 => ?_
  have k2 : Keep (fun b => b = lb) w w2 := k1.trans hk2 fun _ _ q => q
  show Ctext_Find ks (str kKind) _ _
  refine find_text_spec (hkk k2) fun w3 hg3 => ⟨rfl, ?_⟩
  generalize (find ps kKind).getD [] = kind at *
  generalize (find ps kKind).isSome = told at *
  have k3 := gk k2 hg3
  have ed : ∀ a : ByteArray, sEq (str kind) a = decide (kind = ls a) := fun a => sEq_ls
  rw [ed, ed]
  refine (h2.grow hg3).put { s with p := { s.p with ini := ini, disc := decide (kind = ls s_Discovery) } } (fun t u c => rfl) (by decide) rfl ⟨rfl, rfl, rfl, rfl⟩ fun w4 h4 hk4 hs4 => ⟨rfl, str ini, h4.at (fun t u c => rfl), ?_⟩
  have k4 : Keep (fun b => b = lb) w w4 := k3.trans hk4 fun _ _ q => q
  rw [show sEq (str ini) ⟨#[]⟩ = decide (ini = []) from sEq_str (b := [])]
  refine br_dec (fun q => ?_) (fun q1 => ?_)
  · simp only [if_pos q] at hR; exact hR w4 k4 h4
  simp only [if_neg q1] at hR
  by_cases q2 : told = true ∧ kind ≠ ls s_Normal ∧ kind ≠ ls s_Discovery
  · refine br_t (by simp [q2]) ?_
    rw [if_pos q2] at hR; exact hR w4 k4 h4
  rw [if_neg q2] at hR
  refine br_f (by rw [Bool.eq_false_iff]; intro r; simp at r; exact q2 ⟨r.1.1, r.1.2, r.2⟩) ⟨rfl, decide (kind = ls s_Discovery), h4.at (fun t u c => rfl), ?_⟩
  refine br_dec (fun q => ?_) (fun q3 => ?_)
  · rw [if_pos (decide_eq_true q)] at hR; exact hR w4 k4 h4
  rw [if_neg (by rw [decide_eq_true_eq]; exact q3)] at hR
  show Ctext_Find ks (str kTgt) _ _
  refine find_text_spec (hkk k4) fun w5 hg5 => ⟨rfl, ?_⟩
  generalize (find ps kTgt).getD [] = tgt at *
  have k5 := gk k4 hg5
  refine (h4.grow hg5).put { s with p := { s.p with ini := ini, disc := decide (kind = ls s_Discovery), tgt := tgt } } (fun t u c => rfl) (by decide) rfl ⟨rfl, rfl, rfl, rfl⟩ fun w6 h6 hk6 hs6 => ⟨rfl, str tgt, h6.at (fun t u c => rfl), ?_⟩
  have k6 : Keep (fun b => b = lb) w w6 := k5.trans hk6 fun _ _ q => q
  rw [show sEq (str tgt) ⟨#[]⟩ = decide (tgt = []) from sEq_str (b := [])]
  refine br_dec (fun q => ?_) (fun q4 => ?_)
  · simp only [if_pos q] at hR; exact hR w6 k6 h6
  simp only [if_neg q4] at hR
  rintro w7 rfl
  have hgd := keep_drew w6
  have h7 := h6.grow hgd
  have k7 := gk k6 hgd
  obtain ⟨t, u, c, r1, r2, r3, r4, e1, e2, e3⟩ := h7.rep
  refine ⟨fun v => v = w6.drew, rfl, rfl, t, fun v e => by rw [e, r1.cell]; rfl, rfl, str tgt, fun v e => by rw [e, r1.cell]; rfl, ?_⟩
  refine contains_spec r2 ?_
  by_cases q5 : tgt ∈ s.tgs
  · rw [if_pos q5] at hR
    exact br_f (by rw [decide_eq_true q5]; rfl) (hR _ k7 h7)
  · rw [if_neg q5] at hR
    exact br_t (by rw [decide_eq_false q5]; rfl) (hR _ k7 h7)
set_option maxHeartbeats 2000000 in
theorem step_spec {ks : Sl} {rq : RqS} {R : Array Value → Int → World → Prop} (h : IsL w lb E s) (hv : LbV w B) (hB : B ≤ lb) (hk : Rd w 2 ks (pvs rq.keys)) (hkb : rq.keys ≠ [] → ∀ a, ks.A = some a → a.block ≠ lb) (hst : rq.stage < 256) (hnx : rq.next < 256)
    (hl : ∀ k ∈ rq.keys, k.2.length ≤ 140737488351232) (hl7 : s.users ≠ [] → ∀ k ∈ rq.keys, k.2.length ≤ 70000000000000) (hn : rq.keys.length ≤ 1000000000000)
    (hR : ∀ x w', Keep (fun b => b = lb) w w' → IsL w' lb E (stepX s rq).1 → CF.Own w' w.heap.size t_api_Pair 2 x (pvs (stepX s rq).2.1.keys) → R (anv (stepX s rq).2.1 x).toArray (((stepX s rq).2.2 : Nat) : Int) w') :
    Clogin_Login_Step (some ⟨lb, 0, none⟩) (rqv rq ks).toArray w R := by
  refine Flogin_Login_Step.calls _ _ _ _ ?_
  unfold Flogin_Login_Step
  simp only [gAadd1]
  have hlt := h.lt
  have hkn : rq.keys.length = ks.n := rd_pairs hk
  refine new_rule fun rb w1 hrb hb1 hg1 hsz1 => ?_
  refine new_rule fun ab w2 hab hb2 hg2 hsz2 => ?_
  have hb1 : Blk w1 rb (rqv rq ks).toArray t_login_Request := hb1
  have hr2 : Blk w2 rb (rqv rq ks).toArray t_login_Request := hg2.heap hb1 (fun q => q)
  have ha2 : Blk w2 ab (anv an0 nilS).toArray t_login_Answer := hb2
  have g2 := hg1.trans hg2
  have gk2 : Keep (fun b => b = lb) w w2 := g2.mono fun _ _ q => q.elim
  have nrb : rb ≠ lb := by omega
  have nab : ab ≠ lb := by omega
  have rc : ∀ {u : World} {i : Nat} {v : Value}, Blk u rb (rqv rq ks).toArray t_login_Request → (rqv rq ks)[i]? = some v → u.cell? ((⟨rb, 0, none⟩ : Addr).add i) = some v := fun q e => by
    rw [add0, q.cell, Nat.zero_add, List.getElem?_toArray]; exact e
  -- the result is laid
  have fin : ∀ {u : World} {a : AnS} {e : Nat} {x : Sl}, Keep (fun b => b = lb) w u → Blk u ab (anv an0 nilS).toArray t_login_Answer → IsL u lb E (stepX s rq).1 → CF.Own u w.heap.size t_api_Pair 2 x (pvs a.keys) → (stepX s rq).2 = (a, e) →
      RunU Tryd.prog (storeVar t_login_Answer ⟨ab, 0, none⟩ (.agg (anv a x).toArray)) u fun w04 => ∃ res : Array Value, (loadVar t_login_Answer ⟨ab, 0, none⟩).run Tryd.prog w04 = .ok (.agg res) w04 ∧ R res (e : Int) w04 := by
    intro u a e x hku hbu hlu hox hst
    refine storeVar_rule (cells := (anv a x).toArray) hbu i_login_Answer rfl rfl (by simp [anv, Value.oneCell']) fun u2 hb2 hk2 hs2 => ⟨_, loadVar_rule g_login_Answer i_login_Answer rfl (blk_cells hb2), ?_⟩
    rw [hst] at hR
    refine hR x u2 (hku.trans hk2 fun i hi q => by omega) (hlu.keep hk2 (by omega) fun b hb q => ?_) (hox.keep hk2 fun b hb q => ?_)
    · have := h.el b hb; omega
    · obtain ⟨cur, hc⟩ := own_heap hox hb
      subst q
      exact absurd (blk_type hbu hc) (by decide)
  have failEnd : ∀ {u : World} {s' : LgS} {d : Nat}, Keep (fun b => b = lb) w u → Blk u ab (anv an0 nilS).toArray t_login_Answer → IsL u lb E s' → d < 256 → stepX s rq = failX s' d →
      Clogin_Login_fail (some ⟨lb, 0, none⟩) (d : Int) u fun g n w04 => RunU Tryd.prog (storeVar t_login_Answer ⟨ab, 0, none⟩ (.agg g)) w04 fun w05 => ∃ res : Array Value, (loadVar t_login_Answer ⟨ab, 0, none⟩).run Tryd.prog w05 = .ok (.agg res) w05 ∧ R res n w05 := by
    intro u s' d hku hbu hs hd hst
    refine fail_spec hs hd fun w' hk' h' => ?_
    exact fin (a := ⟨2, d, 0, 0, false, []⟩) (e := 0) (hku.trans hk' fun _ _ q => q) (hk'.heap hbu nab) (by rw [hst]; exact h') (own_nil _ _ _ _) (by rw [hst]; rfl)
  have hkk : ∀ {u : World}, Keep (fun b => b = lb) w u → Rd u 2 ks (pvs rq.keys) := fun k => hk.keepN k fun hne a ha q => hkb (fun e => hne (by rw [e]; rfl)) a ha q
  refine letX0 (fun u => Keep (fun b => b = lb) w u ∧ Blk u rb (rqv rq ks).toArray t_login_Request ∧ Blk u ab (anv an0 nilS).toArray t_login_Answer ∧ ∃ s', IsL u lb E s' ∧ stepX s rq = goX s' rq ∧ s'.users = s.users) ?_ (fun J => ?_)
  · rintro u ⟨hku, hru, hau, s', hs', hst, hus⟩
    rintro u1 rfl
    have hgd := keep_drew u
    have hku := hku.grow hgd
    have hru := hgd.heap hru (fun q => q)
    have hau := hgd.heap hau (fun q => q)
    have hs' := hs'.grow hgd
    generalize u.drew = v at *
    refine ⟨fun o => o = v, rfl, (rq.stage : Int), fun o e => by rw [e]; exact rc hru rfl, rfl, (s'.stage : Int), fun o e => by rw [e]; exact hs'.at (fun t u c => rfl), rq.transit, fun _ o e => by rw [e]; exact rc hru rfl, (rq.next : Int), fun _ o e => by rw [e]; exact rc hru rfl, (rq.stage : Int), fun _ o e => by rw [e]; exact rc hru rfl,
      (rq.next : Int), fun _ o e => by rw [e]; exact rc hru rfl, (rq.next : Int), fun _ o e => by rw [e]; exact rc hru rfl, ?_⟩
    rw [stepB]
    refine br_dec (fun qa => ?_) (fun qa => ?_)
    · exact failEnd (d := 0) hku hau hs' (by decide) (by rw [hst]; unfold goX; rw [if_pos qa])
    refine ⟨(rq.stage : Int), rc hru rfl, fun _ => rfl, s'.proved, fun _ => hs'.at (fun t u c => rfl), ?_⟩
    by_cases qb : rq.stage = 1 ∧ s'.proved = false
    · refine br_t (by rw [qb.1, qb.2]; rfl) ?_
      exact failEnd (d := 1) hku hau hs' (by decide) (by rw [hst]; unfold goX; rw [if_neg qa, if_pos qb])
    refine br_f (by rw [Bool.and_eq_false_iff, beq_eq_false_iff_ne, Bool.not_eq_false']; by_cases r : rq.stage = 1; exact .inr (by simpa using fun q => qb ⟨r, q⟩); exact .inl (by omega)) ?_
    have hgo : goX s' rq = match keysX rq.keys s' rq.keys [] with
        | (s', _, false) => failX s' 1
        | (s', out, true) => if rq.transit = true ∧ s'.proved = true then ({ s' with stage := rq.next, done := decide (rq.next = 3), over := decide (rq.next = 3) }, ⟨0, 0, rq.stage, rq.next, true, out⟩, 0) else (s', ⟨0, 0, rq.stage, 0, false, out⟩, 0) := by unfold goX; rw [if_neg qa, if_neg qb] <;> rfl
    refine ⟨(rq.stage : Int), rc hru rfl, ?_⟩
    refine new_rule fun a1 v1 ha1 hbv1 hgv1 hsv1 => ?_
    refine storeVar_rule (cells := (anv ⟨0, 0, rq.stage, 0, false, []⟩ nilS).toArray) hbv1 i_login_Answer rfl rfl (by simp [anv, Value.oneCell']) fun v2 hbv2 hkv2 hsv2 => ?_
    have hgv2 : Grow v v2 := hgv1.keep hkv2 fun i hi q => by omega
    have hr2' := hgv2.heap hru (fun q => q)
    refine ⟨ks, rc hr2' rfl, ?_⟩
    have hsv := hku.size
    have sv2 := hgv2.size
    have lv := h.el
    let LI : Nat → LgS → List Pr → Sl → World → Prop := fun j st out xs u => Keep (fun b => b = lb) w u ∧ v2.heap.size ≤ u.heap.size ∧ IsL u lb E st ∧ Blk u rb (rqv rq ks).toArray t_login_Request ∧ Blk u ab (anv an0 nilS).toArray t_login_Answer ∧
      Blk u a1 (anv ⟨0, 0, rq.stage, 0, false, out⟩ xs).toArray t_login_Answer ∧ CF.Own u v2.heap.size t_api_Pair 2 xs (pvs out) ∧ out.length ≤ 3 * j ∧ keysX rq.keys s' (rq.keys.take j) [] = (st, out, true) ∧ st.users = s.users
    refine ⟨fun x u => ∃ (j : Nat) (st : LgS) (out : List Pr) (xs : Sl), x = j ∧ j ≤ ks.n ∧ LI j st out xs u, fun x _ => ks.n - x.toNat,
      ⟨0, s', [], nilS, rfl, Nat.zero_le _, hku.grow hgv2, Nat.le_refl _, hs'.grow hgv2, hr2', hgv2.heap hau (fun q => q), hbv2, own_nil _ _ _ _, Nat.zero_le _, rfl, hus⟩, ?_⟩
    rintro x u ⟨j, st, out, xs, rfl, hj, k1, k2, k3, k4, k5, k6, k7, k8, k9, k10⟩
    have na1 : a1 ≠ lb := by omega
    have neq : a1 ≠ rb ∧ a1 ≠ ab := by have := lt_of_heap hru; have := lt_of_heap hau; omega
    refine br_nat (fun hlt => ?_) (fun hge => ?_)
    · have hjl : j < rq.keys.length := by omega
      obtain ⟨ad, had, hcd⟩ := rd_pair (hkk k1) hjl
      refine ⟨⟨by omega, by omega, by rw [had]; rfl⟩, (pc rq.keys[j]).toArray, by rw [had, Int.toNat_natCast]; exact loadVar_rule g_api_Pair i_api_Pair rfl hcd, ?_⟩
      refine new_rule fun kb u1 hkb1 hbk1 hgu1 hsu1 => ?_
      refine storeVar_rule (cells := (pc rq.keys[j]).toArray) hbk1 i_api_Pair rfl rfl (by simp [pc, Value.oneCell']) fun u2 hbk2 hku2 hsu2 => ?_
      have hgu2 : Grow u u2 := hgu1.keep hku2 fun i hi q => by omega
      have kw2 := k1.grow hgu2
      refine ⟨_, loadVar_rule g_api_Pair i_api_Pair rfl (blk_cells hbk2), ks, rc (hgu2.heap k4 (fun q => q)) rfl, ?_⟩
      have hmem : rq.keys[j] ∈ rq.keys := List.getElem_mem hjl
      have htk := List.take_succ_eq_append_getElem hjl
      generalize hkj : rq.keys[j] = kj at *
      have hvu : LbV u2 B := hv.keep kw2 fun b hb q => by omega
      refine key_spec (k3.grow hgu2) hvu hB (hkk kw2) (hl _ hmem) (by rw [k10]; exact hl7) fun xo y hky hsy hrx hxo => ?_
      have kwy : Keep (fun b => b = lb) w y := kw2.trans hky fun _ _ q => q
      have hsn := keysX_snoc rq.keys (rq.keys.take j) s' [] kj
      rw [← htk, k9] at hsn
      dsimp only at hsn
      have hkl := keyX_len st kj rq.keys
      have hkp := keyX_keeps st kj rq.keys
      rcases hkx : keyX st kj rq.keys with ⟨st2, o2, ok⟩
      rw [hkx] at hsy hrx hsn hkl hkp
      have szy := hky.size
      have szu2 := hgu2.size
      cases ok with
      | false =>
        refine br_t rfl ?_
        have hfull : keysX rq.keys s' rq.keys [] = (st2, [], false) := by
          have := keysX_fail rq.keys (rq.keys.take (j + 1)) (rq.keys.drop (j + 1)) s' [] hsn
          rw [List.take_append_drop] at this; exact this
        exact failEnd (d := 1) kwy (hky.heap (hgu2.heap k5 (fun q => q)) nab) hsy (by decide) (by rw [hst, hgo, hfull])
      | true =>
        have ba1 : Blk y a1 (anv ⟨0, 0, rq.stage, 0, false, out⟩ xs).toArray t_login_Answer := hky.heap (hgu2.heap k6 (fun q => q)) na1
        have nxl : ∀ b, xs.blk = some b → b ≠ lb := fun b hb q => by have := (k7.ge b hb).1; omega
        have oxs := (k7.grow hgu2).keep hky fun b hb q => nxl b hb q
        have hxsn : out.length = xs.n := by have := k7.len; rw [pvs_len] at this; omega
        have hxon : o2.length = xo.n := rd_pairs hrx
        have hkl : o2.length ≤ 3 := hkl
        refine br_f rfl ⟨xs, by rw [add0, ba1.cell]; rfl, ?_⟩
        refine append_rule u_sl_api_Pair i_api_Pair rfl (by decide) (by decide) oxs hrx (pvs_one _) (by omega) (by omega) fun x2 y2 hn2 ho2 hk2 hat2 => ?_
        have ba2 : Blk y2 a1 _ t_login_Answer := hk2.heap ba1 fun q => (own_ne oxs ba1 (by decide)) q.symm
        have br2 : Blk y2 rb (rqv rq ks).toArray t_login_Request := hk2.heap (hky.heap (hgu2.heap k4 (fun q => q)) nrb) fun q => (own_ne oxs (hky.heap (hgu2.heap k4 (fun q => q)) nrb) (by decide)) q.symm
        have bb2 : Blk y2 ab (anv an0 nilS).toArray t_login_Answer := hk2.heap (hky.heap (hgu2.heap k5 (fun q => q)) nab) fun q => (own_ne oxs (hky.heap (hgu2.heap k5 (fun q => q)) nab) (by decide)) q.symm
        have ls2 : IsL y2 lb E st2 := hsy.keep hk2 (fun q => nxl lb q.symm rfl) fun b hb q => by have := (oxs.ge b q.symm).1; have := lv b hb; omega
        have kw3 : Keep (fun b => b = lb) w y2 := kwy.trans hk2 fun i hi q => by have := (oxs.ge i q.symm).1; omega
        rw [add0]
        refine put_rule ba2 (by show 0 + 5 < 6; decide) rfl fun y3 hb3 hk3 hs3 => ?_
        have hb3 : Blk y3 a1 (anv ⟨0, 0, rq.stage, 0, false, out ++ o2⟩ x2).toArray t_login_Answer := hb3
        rw [w64 (by omega) (by omega)]
        have szy2 := hk2.size
        refine ⟨⟨j + 1, st2, out ++ o2, x2, by omega, by omega, kw3.trans hk3 (fun i hi q => by omega), by omega, ls2.keep hk3 (by omega) (fun b hb q => by have := lv b hb; omega), hk3.heap br2 (by omega), hk3.heap bb2 (by omega), hb3, ?_, by rw [List.length_append]; omega, hsn, by rw [hkp.2.1]; exact k10⟩, by dsimp only; omega⟩
        refine (show CF.Own y2 v2.heap.size t_api_Pair 2 x2 (pvs (out ++ o2)) by unfold pvs; rw [List.flatMap_append]; exact ho2).keep hk3 fun b hb q => ?_
        exact (own_ne ho2 ba2 (by decide)) (by rw [hb, q])
    · have : j = rq.keys.length := by omega
      subst this
      rw [List.take_length] at k9
      rw [k9] at hgo
      refine ⟨rq.transit, rc k4 rfl, fun _ => rfl, st.proved, fun _ => k3.at (fun t u c => rfl), ?_⟩
      refine letX0 (fun y => Keep (fun b => b = lb) w y ∧ Blk y ab (anv an0 nilS).toArray t_login_Answer ∧ IsL y lb E (stepX s rq).1 ∧ ∃ a, Blk y a1 (anv a xs).toArray t_login_Answer ∧ (stepX s rq).2 = (a, 0) ∧ CF.Own y w.heap.size t_api_Pair 2 xs (pvs a.keys)) ?_ (fun J => ?_)
      · rintro y ⟨y1, y2, y3, a, y4, y5, y6⟩
        exact ⟨_, loadVar_rule g_login_Answer i_login_Answer rfl (blk_cells y4), fin y1 y2 y3 y6 y5⟩
      · by_cases qt : rq.transit = true ∧ st.proved = true
        · have hres : stepX s rq = ({ st with stage := rq.next, done := decide (rq.next = 3), over := decide (rq.next = 3) }, ⟨0, 0, rq.stage, rq.next, true, out⟩, 0) := by rw [hst, hgo]; exact if_pos qt
          refine br_t (by rw [qt.1, qt.2]; rfl) ?_
          rintro u1 rfl
          have hgd := keep_drew u
          have k1 := k1.grow hgd
          have k3 := k3.grow hgd
          have k4 := hgd.heap k4 (fun q => q)
          have k5 := hgd.heap k5 (fun q => q)
          have k6 := hgd.heap k6 (fun q => q)
          have k7 := k7.grow hgd
          have hsz := hgd.size
          generalize u.drew = u1 at *
          refine ⟨fun o => Blk o rb (rqv rq ks).toArray t_login_Request, k4, (rq.next : Int), fun o q => rc q rfl, (rq.next : Int), fun o q => rc q rfl, ?_⟩
          rw [add0, add0]
          refine put_rule k6 (by show 0 + 4 < 6; decide) rfl fun u2 b2 h2 z2 => ⟨h2.heap k4 (by omega), ?_⟩
          refine put_rule b2 (by show 0 + 3 < 6; decide) rfl fun u3 b3 h3 z3 => ⟨h3.heap (h2.heap k4 (by omega)) (by omega), rfl, ?_⟩
          have b3 : Blk u3 a1 (anv ⟨0, 0, rq.stage, rq.next, true, out⟩ xs).toArray t_login_Answer := b3
          have h13 : Keep (fun b => b = a1) u1 u3 := h2.trans h3 fun _ _ q => q
          have l3 := k3.keep h13 (by omega) fun b hb q => by have := lv b hb; omega
          refine l3.put { st with stage := rq.next } (fun t u c => rfl) (by decide) rfl ⟨rfl, rfl, rfl, rfl⟩ fun u4 l4 h4 z4 => ?_
          have br4 : Blk u4 rb (rqv rq ks).toArray t_login_Request := h4.heap (h13.heap k4 (by omega)) nrb
          have en : ((rq.next : Int) == 3) = decide (rq.next = 3) := by rw [Bool.eq_iff_iff, beq_iff_eq, decide_eq_true_eq]; omega
          refine ⟨(rq.next : Int), rc br4 rfl, rfl, ?_⟩
          rw [en]
          refine l4.put { st with stage := rq.next, done := decide (rq.next = 3) } (fun t u c => rfl) (by decide) rfl ⟨rfl, rfl, rfl, rfl⟩ fun u5 l5 h5 z5 => ⟨rfl, decide (rq.next = 3), l5.at (fun t u c => rfl), rfl, ?_⟩
          refine l5.put { st with stage := rq.next, done := decide (rq.next = 3), over := decide (rq.next = 3) } (fun t u c => rfl) (by decide) rfl ⟨rfl, rfl, rfl, rfl⟩ fun u6 l6 h6 z6 => ?_
          have h36 : Keep (fun b => b = lb) u3 u6 := (h4.trans h5 fun _ _ q => q).trans h6 fun _ _ q => q
          refine J u6 ⟨(k1.trans h13 fun i hi q => by omega).trans h36 (fun _ _ q => q), h36.heap (h13.heap k5 (by omega)) nab, by rw [hres]; exact l6, _, h36.heap b3 na1, by rw [hres], ?_⟩
          refine ((k7.mono (by omega)).keep h13 fun b hb q => (own_ne k7 k6 (by decide)) (by rw [hb, q])).keep h36 fun b hb q => ?_
          have := (k7.ge b hb).1
          omega
        · have hres : stepX s rq = (st, ⟨0, 0, rq.stage, 0, false, out⟩, 0) := by rw [hst, hgo]; exact if_neg qt
          refine br_f (by cases hx : rq.transit <;> cases hy : st.proved <;> first | rfl | exact absurd ⟨hx, hy⟩ qt) ?_
          exact J u ⟨k1, k5, by rw [hres]; exact k3, _, k6, by rw [hres], k7.mono (by omega)⟩
  · have h2 := h.grow g2
    refine br_f rfl ⟨rfl, s.over, h2.at (fun t u c => rfl), ?_⟩
    cases ho : s.over with
    | true =>
      have hres : stepX s rq = (s, an0, 12) := by unfold stepX; rw [if_pos ho]; rfl
      exact br_t rfl (fin (a := an0) (x := nilS) gk2 ha2 (by rw [hres]; exact h2) (own_nil _ _ _ _) (by rw [hres]))
    | false =>
      refine br_f rfl ⟨rfl, s.begun, h2.at (fun t u c => rfl), ?_⟩
      cases hbg : s.begun with
      | true => exact br_f rfl (J w2 ⟨gk2, hr2, ha2, s, h2, by unfold stepX; rw [if_neg (by rw [ho]; decide), if_pos hbg], rfl⟩)
      | false =>
        refine br_t rfl ?_
        rintro w3 rfl
        have hgd := keep_drew w2
        have k3 := gk2.grow hgd
        have r3 := hgd.heap hr2 (fun q => q)
        have a3 := hgd.heap ha2 (fun q => q)
        have h3 := h2.grow hgd
        generalize w2.drew = w3 at *
        refine ⟨fun o => Blk o rb (rqv rq ks).toArray t_login_Request, r3, (rq.stage : Int), fun o q => rc q rfl, rfl, ?_⟩
        refine h3.put { s with begun := true } (fun t u c => rfl) (by decide) rfl ⟨rfl, rfl, rfl, rfl⟩ fun w4 h4 hk4 hs4 => ⟨hk4.heap r3 nrb, rfl, ?_⟩
        refine h4.put { s with begun := true, stage := rq.stage } (fun t u c => rfl) (by decide) rfl ⟨rfl, rfl, rfl, rfl⟩ fun w5 h5 hk5 hs5 => ?_
        have k35 : Keep (fun b => b = lb) w3 w5 := hk4.trans hk5 fun _ _ q => q
        have k5 : Keep (fun b => b = lb) w w5 := k3.trans k35 fun _ _ q => q
        have r5 := k35.heap r3 nrb
        have a5 := k35.heap a3 nab
        have hnb : ¬ s.over = true := by rw [ho]; decide
        have hnbg : ¬ s.begun = true := by rw [hbg]; decide
        refine ⟨(rq.stage : Int), rc r5 rfl, br_dec (fun q => ?_) (fun q1 => ⟨ks, rc r5 rfl, ?_⟩)⟩
        · exact failEnd (d := 0) k5 a5 h5 (by decide) (by unfold stepX; rw [if_neg hnb, if_neg hnbg]; exact if_pos (by omega))
        refine lfirst_spec h5 (hkk k5) hkb fun w6 hk6 h6 => ?_
        have k6 : Keep (fun b => b = lb) w w6 := k5.trans hk6 fun _ _ q => q
        have hus := firstX_users { s with begun := true, stage := rq.stage } rq.keys
        have hlt255 := firstX_le { s with begun := true, stage := rq.stage } rq.keys
        have hst : stepX s rq = if (firstX { s with begun := true, stage := rq.stage } rq.keys).2 ≠ 255 then failX (firstX { s with begun := true, stage := rq.stage } rq.keys).1 (firstX { s with begun := true, stage := rq.stage } rq.keys).2 else goX (firstX { s with begun := true, stage := rq.stage } rq.keys).1 rq := by
          unfold stepX; rw [if_neg hnb, if_neg hnbg]; exact if_neg (by omega)
        generalize firstX { s with begun := true, stage := rq.stage } rq.keys = fx at *
        refine br_ne (fun q => ?_) (fun q => ?_)
        · exact failEnd k6 (hk6.heap a5 nab) h6 (by omega) (by rw [hst, if_pos (by omega)])
        · exact J w6 ⟨k6, hk6.heap r5 nrb, hk6.heap a5 nab, fx.1, h6, by rw [hst, if_neg (by omega)], hus⟩
end
end Go.Proofs.YtjfjanogfakclaaDoor

/- Layer 20: the laws' helpers; what a login tells of itself. -/
namespace Go.Proofs.YtjfjanogfakclaaDoor
open Go CF
/-- closed, once the fields are read -/
macro "dcd" : tactic => `(tactic| first | decide | (dsimp only [lg0]; decide) | (simp [lg0]; done))

abbrev hi2 : List Pr := [(kIni, [105]), (kTgt, [116])]
theorem hello_spec {m : Sl} {ms : List Pr} {w : World} {R : Sl → World → Prop} (hm : Rd w 2 m (pvs ms)) (hb : m.n ≤ 1000000000000) (h : ∀ x w', CF.Own w' w.heap.size t_api_Pair 2 x (pvs (hi2 ++ ms)) → Grow w w' → R x w') : Cpalletlaw20_hello m w R := by
  refine Fpalletlaw20_hello.calls _ _ _ ?_
  refine lit_rule (cells := #[.string s_InitiatorName, .string s_i, .string s_TargetName, .string s_t]) (e := t_api_Pair) (z := 2) (base := w.heap.size) (pair_lit2 _ _ _ _ _) rfl (by dcd) (Nat.le_refl _) fun w1 hown1 hg1 _ => ?_
  refine append_rule u_sl_api_Pair i_api_Pair rfl (by dcd) (by dcd) hown1 (hm.grow hg1) (pvs_one _) (by show (2 + m.n) * 32 ≤ _; omega) hg1.size fun x w2 hn2 ho2 hk2 _ => ?_
  refine h x w2 ?_ (hg1.keep hk2 fun i hi q => by have := (hown1.ge i q.symm).1; omega)
  have e : pvs (hi2 ++ ms) = (#[Value.string s_InitiatorName, .string s_i, .string s_TargetName, .string s_t] : Array Value).toList ++ pvs ms := by
    unfold pvs; rw [List.flatMap_append]; rfl
  rw [e]; exact ho2
section
variable {w : World} {lb : Nat} {E : Nat → Prop} {s : LgS} {R : Bool → World → Prop}
theorem done_spec (h : IsL w lb E s) (hR : R s.done w) : Clogin_Login_Done (some ⟨lb, 0, none⟩) w R := by
  refine Flogin_Login_Done.calls _ _ _ ⟨fun _ => rfl, s.done, fun _ => ?_, ?_⟩
  · rw [gAadd1]; exact h.at fun t u c => rfl
  · show R (true && s.done) w
    rw [Bool.true_and]; exact hR
theorem over_spec (h : IsL w lb E s) (hR : R s.over w) : Clogin_Login_Over (some ⟨lb, 0, none⟩) w R := by
  refine Flogin_Login_Over.calls _ _ _ ⟨fun _ => rfl, s.over, fun _ => ?_, ?_⟩
  · rw [gAadd1]; exact h.at fun t u c => rfl
  · show R (true && s.over) w
    rw [Bool.true_and]; exact hR
theorem done_none (hR : R false w) : Clogin_Login_Done none w R := by
  refine Flogin_Login_Done.calls _ _ _ ⟨fun q => (by cases q), false, fun q => (by cases q), hR⟩
theorem over_none (hR : R false w) : Clogin_Login_Over none w R := by
  refine Flogin_Login_Over.calls _ _ _ ⟨fun q => (by cases q), false, fun q => (by cases q), hR⟩
abbrev pm00 : PmS := ⟨[], [], false, false, false, 0, 0, 0, false, false⟩
theorem params_spec {R : Array Value → World → Prop} (h : IsL w lb E s) (hR : ∀ w', Grow w w' → R (pmv s.p).toArray w') : Clogin_Login_Params (some ⟨lb, 0, none⟩) w R := by
  refine Flogin_Login_Params.calls _ _ _ ?_
  refine new_rule fun b w1 hb hb1 hg1 hsz1 => br_f rfl ⟨rfl, (pmv s.p).toArray, ?_, ?_⟩
  · obtain ⟨t, u, c, h1, _⟩ := (h.grow hg1).rep
    rw [gAadd1]
    refine loadVar_rule g_login_Params i_login_Params rfl fun j v hj => ?_
    have hj10 : j < 10 := (List.getElem?_eq_some_iff.1 hj).1
    rw [add0, h1.cell, List.getElem?_toArray]
    unfold lgv
    rw [List.getElem?_append_right (by show 12 ≤ 12 + j; omega)]
    have : 12 + j - [Value.slice t.A t.n t.c, .slice u.A u.n u.c, .bool s.sums, .int .u8 (s.id : Int), .slice c.A c.n c.c, .bool s.begun, .int .u8 (s.stage : Int), .string (str s.meth), .bool s.asked, .bool s.proved, .bool s.over, .bool s.done].length = j := by show 12 + j - 12 = j; omega
    rw [this]; exact hj
  · refine storeVar_rule (cells := (pmv s.p).toArray) hb1 i_login_Params rfl rfl (by simp [pmv, Value.oneCell']) fun w2 hb2 hk2 hs2 => ?_
    exact ⟨_, loadVar_rule g_login_Params i_login_Params rfl (blk_cells hb2), hR w2 (hg1.keep hk2 fun i hi q => by omega)⟩
theorem params_none {R : Array Value → World → Prop} (hR : ∀ w', Grow w w' → R (pmv pm00).toArray w') : Clogin_Login_Params none w R := by
  refine Flogin_Login_Params.calls _ _ _ ?_
  refine new_rule fun b w1 hb hb1 hg1 hsz1 => br_t rfl ?_
  refine storeVar_rule (cells := (pmv pm00).toArray) hb1 i_login_Params rfl rfl (by simp [pmv, Value.oneCell']) fun w2 hb2 hk2 hs2 => ?_
  exact ⟨_, loadVar_rule g_login_Params i_login_Params rfl (blk_cells hb2), hR w2 (hg1.keep hk2 fun i hi q => by omega)⟩
end
theorem find_hit' (k v : L8) (r : List Pr) : find ((k, v) :: r) k = some v := by
  unfold find
  rw [List.find?_cons_of_pos (by simp)]; rfl
theorem find_miss' {k k' v : L8} (r : List Pr) (h : k ≠ k') : find ((k, v) :: r) k' = find r k' := by
  unfold find
  rw [List.find?_cons_of_neg (by simpa using h)]
/-- an answer that is held -/
theorem an_hold {w : World} {a : AnS} {x : Sl} {K : Addr → World → Prop} (h : ∀ b w', b = w.heap.size → Grow w w' → Blk w' b (anv a x).toArray t_login_Answer → K ⟨b, 0, none⟩ w') :
    New (.cells #[.int .u8 0, .int .u8 0, .int .u8 0, .int .u8 0, .bool false, .slice none 0 0] t_login_Answer) w fun a1 w1 => RunU Tryd.prog (storeVar t_login_Answer a1 (.agg (anv a x).toArray)) w1 fun w2 => K a1 w2 := by
  refine new_rule fun b w1 hb hb1 hg1 hsz1 => ?_
  refine storeVar_rule (cells := (anv a x).toArray) hb1 i_login_Answer rfl rfl (by simp [anv, Value.oneCell']) fun w2 hb2 hk2 hs2 => ?_
  exact h b w2 hb (hg1.keep hk2 fun i hi q => by omega) hb2
theorem awake_pure : (stepX (lg0 [[116]] [] false 1 []) ⟨1, 3, true, hi2⟩).2 = (⟨0, 0, 1, 3, true, []⟩, 0) ∧ (stepX (lg0 [[116]] [] false 1 []) ⟨1, 3, true, hi2⟩).1.done = true := ⟨by kernel_rfl, by kernel_rfl⟩
theorem rq_cells (r : RqS) (k : Sl) : (rqv r k).toArray = #[.int .u8 (r.stage : Int), .int .u8 (r.next : Int), .bool r.transit, .slice k.A k.n k.c] := rfl
theorem awake20_spec {w : World} {B : Nat} {R : Bool → World → Prop} (hv : LbV w B) (hB : B ≤ w.heap.size) (h : ∀ w', Grow w w' → R true w') : Cpalletlaw20_awake w R := by
  refine Fpalletlaw20_awake.calls _ _ ?_
  refine lit_rule (cells := #[.string s_t]) (e := t_string) (z := 1) (base := w.heap.size) (str_lit1 _ _) rfl (by dcd) (Nat.le_refl _) fun w1 hown1 hg1 _ => ?_
  refine new_login_spec (u := nilS) (c := nilS) (tgs := [[116]]) (users := []) (chal := []) (id := 1) (hown1.rd (by show 1 ≤ _; decide)) (rd_nilP _ _) (rd_nilP _ _) (by dcd) (by dcd) (by dcd) (by dcd) (fun u hu => by cases hu) fun lb E w2 hg2 hl2 hlb hE => ?_
  refine hello_spec (m := nilS) (ms := []) (rd_nilP _ _) (by dcd) fun x w3 ho3 hg3 => ?_
  rw [List.append_nil] at ho3
  have sz1 := hg1.size
  have sz2 := hg2.size
  have hl3 := hl2.grow hg3
  have hx := ho3.rd (by have := ho3.len; rw [pvs_len] at this; have e : hi2.length = 2 := rfl; omega)
  have hxb : ∀ {p : Prop}, p → ∀ a, x.A = some a → a.block ≠ lb := fun _ a ha q => by
    have := (ho3.ge a.block (by simp [Sl.blk, ha])).1
    have := hl2.lt
    omega
  refine step_spec (rq := ⟨1, 3, true, hi2⟩) (ks := x) hl3 (((hv.grow hg1).grow hg2).grow hg3) (by omega) hx hxb (by dcd) (by dcd) (by dcd) (fun q => absurd rfl q) (by dcd) fun y w4 hk4 hl4 ho4 => ?_
  rw [awake_pure.1] at ho4
  have hdn := awake_pure.2
  rw [awake_pure.1]
  generalize (stepX (lg0 [[116]] [] false 1 []) ⟨1, 3, true, hi2⟩).1 = st at *
  refine an_hold fun b w5 hb hg5 hb5 => ⟨0, fun _ => by rw [add0, hb5.cell]; rfl, true, fun _ => by rw [add0, hb5.cell]; rfl, 3, fun _ => by rw [add0, hb5.cell]; rfl, ?_⟩
  have hgw : Grow w w5 := (((hg1.trans hg2).trans hg3).keep hk4 fun i hi q => by omega).trans hg5
  refine letJ1 (fun (x : Bool) u => x = true ∧ u = w5) ?_ (fun J => ⟨fun _ => done_spec (hl4.grow hg5) (J _ _ ⟨hdn, rfl⟩), fun q => by cases q⟩)
  rintro x u ⟨rfl, rfl⟩
  exact h u hgw
end Go.Proofs.YtjfjanogfakclaaDoor

/- Layer 20: names. -/
namespace Go.Proofs.YtjfjanogfakclaaDoor
open Go CF

theorem find_nil (k : L8) : find [] k = none := rfl
def nmK (name target kind : L8) (told : Bool) : List Pr := [(kIni, name), (kTgt, target)] ++ if told then [(kKind, kind)] else []
def wantN (name target kind : L8) (told : Bool) (tgs : List L8) : Option Nat :=
  if name = [] then some 7 else if told = true ∧ kind ≠ ls s_Normal ∧ kind ≠ ls s_Discovery then some 9 else if told = true ∧ kind = ls s_Discovery then none else if target = [] then some 7 else if target ∈ tgs then none else some 3
theorem keysX_names (all : List Pr) (s : LgS) (name target kind : L8) (told : Bool) : keysX all s (nmK name target kind told) [] = (s, [], true) := by
  have h1 : ∀ v, keyX s (kIni, v) all = (s, [], true) := fun v => by unfold keyX; rw [if_pos (.inl rfl)]
  have h2 : ∀ v, keyX s (kTgt, v) all = (s, [], true) := fun v => by unfold keyX; rw [if_pos (.inr (.inr (.inr rfl)))]
  have h3 : ∀ v, keyX s (kKind, v) all = (s, [], true) := fun v => by unfold keyX; rw [if_pos (.inr (.inr (.inl rfl)))]
  unfold nmK
  cases told
  · simp [keysX, h1, h2]
  · simp [keysX, h1, h2, h3]
theorem names_pure (name target kind : L8) (told : Bool) (tgs : List L8) : ∀ st an e, stepX (lg0 tgs [] false 1 []) ⟨1, 3, true, nmK name target kind told⟩ = (st, an, e) →
    e = 0 ∧ (match wantN name target kind told tgs with
      | some d => an.cls = 2 ∧ an.detail = d ∧ st.over = true ∧ st.done = false
      | none => an.cls = 0 ∧ st.done = true ∧ st.p.ini = name ∧ st.p.disc = decide (told = true ∧ kind = ls s_Discovery) ∧ ((told = true ∧ kind = ls s_Discovery) ∨ st.p.tgt = target)) := by
  intro st an e hst
  have f1 : find (nmK name target kind told) kIni = some name := find_hit' _ _ _
  have f2 : find (nmK name target kind told) kTgt = some target := by
    unfold nmK
    rw [List.cons_append, find_miss' _ (by dcd)]; exact find_hit' _ _ _
  have f3 : find (nmK name target kind told) kKind = if told then some kind else none := by
    unfold nmK
    rw [List.cons_append, find_miss' _ (by dcd), List.cons_append, find_miss' _ (by dcd)]
    cases told
    · rfl
    · exact find_hit' _ _ _
  have hx : stepX (lg0 tgs [] false 1 []) ⟨1, 3, true, nmK name target kind told⟩ = (let s1 : LgS := { lg0 tgs [] false 1 [] with begun := true, stage := 1 }
      if (firstX s1 (nmK name target kind told)).2 ≠ 255 then failX (firstX s1 (nmK name target kind told)).1 (firstX s1 (nmK name target kind told)).2 else goX (firstX s1 (nmK name target kind told)).1 ⟨1, 3, true, nmK name target kind told⟩) := by
    unfold stepX
    rw [if_neg (by dcd), if_neg (by dcd)]
    exact if_neg (by dcd)
  rw [hx] at hst
  dsimp only at hst
  have hgo : ∀ s : LgS, s.stage = 1 → s.proved = true → goX s ⟨1, 3, true, nmK name target kind told⟩ = ({ s with stage := 3, done := true, over := true }, ⟨0, 0, 1, 3, true, []⟩, 0) := fun s h1 h2 => by
    unfold goX
    rw [if_neg (by rw [h1]; dcd), if_neg (by rw [h2]; dcd), keysX_names]
    dsimp only
    rw [if_pos ⟨rfl, h2⟩]; rfl
  have hfail : ∀ (s : LgS) (d : Nat), failX s d = (st, an, e) → e = 0 ∧ an.cls = 2 ∧ an.detail = d ∧ st.over = true ∧ st.done = s.done := fun s d h => by
    unfold failX at h
    obtain ⟨rfl, rfl, rfl⟩ : { s with over := true } = st ∧ (⟨2, d, 0, 0, false, []⟩ : AnS) = an ∧ 0 = e := by
      injection h with h1 h2; injection h2 with h2 h3; exact ⟨h1, h2, h3⟩
    exact ⟨rfl, rfl, rfl, rfl, rfl⟩
  have hdone : ∀ s : LgS, s.stage = 1 → s.proved = true → goX s ⟨1, 3, true, nmK name target kind told⟩ = (st, an, e) → e = 0 ∧ an.cls = 0 ∧ st.done = true ∧ st.p = s.p := fun s h1 h2 h => by
    rw [hgo s h1 h2] at h
    injection h with h1 h2; injection h2 with h2 h3
    subst h1; subst h2; subst h3
    exact ⟨rfl, rfl, rfl, rfl⟩
  have hk : ((if told then some kind else none : Option L8)).getD [] = if told then kind else [] := by cases told <;> rfl
  have ht : ((if told then some kind else none : Option L8)).isSome = told := by cases told <;> rfl
  have hfx : firstX { lg0 tgs [] false 1 [] with begun := true, stage := 1 } (nmK name target kind told) = (let disc := decide ((if told then kind else []) = ls s_Discovery)
      let s1 : LgS := { lg0 tgs [] false 1 [] with begun := true, stage := 1, p := { pm0 with ini := name, disc := disc } }
      if name = [] then (s1, 7) else if told = true ∧ (if told then kind else []) ≠ ls s_Normal ∧ (if told then kind else []) ≠ ls s_Discovery then (s1, 9) else if disc = true then (s1, 255)
      else if target = [] then ({ s1 with p := { s1.p with tgt := target } }, 7) else if target ∈ tgs then ({ s1 with p := { s1.p with tgt := target } }, 255) else ({ s1 with p := { s1.p with tgt := target } }, 3)) := by
    unfold firstX
    rw [f1, f2, f3, hk, ht]
    rfl
  rw [hfx] at hst
  dsimp only at hst
  have hdisc : (if told then kind else []) = ls s_Discovery ↔ (told = true ∧ kind = ls s_Discovery) := by
    cases told
    · simp; decide
    · simp
  have hbad : (told = true ∧ (if told then kind else []) ≠ ls s_Normal ∧ (if told then kind else []) ≠ ls s_Discovery) ↔ (told = true ∧ kind ≠ ls s_Normal ∧ kind ≠ ls s_Discovery) := by
    cases told <;> simp
  unfold wantN
  by_cases q1 : name = []
  · rw [if_pos q1] at hst ⊢
    rw [if_pos (by dcd)] at hst
    obtain ⟨r1, r2, r3, r4, r5⟩ := hfail _ _ hst
    exact ⟨r1, r2, r3, r4, r5⟩
  rw [if_neg q1] at hst ⊢
  by_cases q2 : told = true ∧ kind ≠ ls s_Normal ∧ kind ≠ ls s_Discovery
  · rw [if_pos (hbad.2 q2)] at hst
    rw [if_pos q2]
    rw [if_pos (by dcd)] at hst
    obtain ⟨r1, r2, r3, r4, r5⟩ := hfail _ _ hst
    exact ⟨r1, r2, r3, r4, r5⟩
  rw [if_neg (fun r => q2 (hbad.1 r))] at hst
  rw [if_neg q2]
  by_cases q3 : told = true ∧ kind = ls s_Discovery
  · rw [if_pos (decide_eq_true (hdisc.2 q3)), if_neg (by dcd)] at hst
    rw [if_pos q3]
    obtain ⟨r1, r2, r3, r4⟩ := hdone _ rfl rfl hst
    refine ⟨r1, r2, r3, by rw [r4], by rw [r4]; exact decide_eq_decide.2 hdisc, .inl q3⟩
  rw [if_neg (fun r => q3 (hdisc.1 (of_decide_eq_true r)))] at hst
  rw [if_neg q3]
  by_cases q4 : target = []
  · rw [if_pos q4] at hst ⊢
    rw [if_pos (by dcd)] at hst
    obtain ⟨r1, r2, r3, r4, r5⟩ := hfail _ _ hst
    exact ⟨r1, r2, r3, r4, r5⟩
  rw [if_neg q4] at hst ⊢
  by_cases q5 : target ∈ tgs
  · rw [if_pos q5] at hst ⊢
    rw [if_neg (by dcd)] at hst
    obtain ⟨r1, r2, r3, r4⟩ := hdone _ rfl rfl hst
    exact ⟨r1, r2, r3, by rw [r4], by rw [r4]; exact decide_eq_decide.2 hdisc, .inr (by rw [r4])⟩
  · rw [if_neg q5] at hst ⊢
    rw [if_pos (by dcd)] at hst
    obtain ⟨r1, r2, r3, r4, r5⟩ := hfail _ _ hst
    exact ⟨r1, r2, r3, r4, r5⟩
set_option maxHeartbeats 2000000 in
theorem loginNames_spec {name target kind : L8} {told : Bool} {t : Sl} {tgs : List L8} {w : World} {R : Bool → World → Prop} (hv : ErrV w) (htab : TabV w) (ht : Rd w 1 t (strs tgs)) (htn : t.n * 16 ≤ 140737488351232) (hn : name.length ≤ 140737488351232) (hg : target.length ≤ 140737488351232) (hk : kind.length ≤ 140737488351232)
    (h : ∀ w', Grow w w' → R true w') : Cpalletlaw20_LoginNames (str name) (str target) (str kind) told t w R := by
  refine Fpalletlaw20_LoginNames.calls _ _ _ _ _ _ _ ?_
  have hL := LbV.of hv htab
  refine awake20_spec hL (Nat.le_refl _) fun w1 hg1 => br_f rfl ?_
  refine new_login_spec (t := t) (u := nilS) (c := nilS) (tgs := tgs) (users := []) (chal := []) (sums := false) (id := 1) (ht.grow hg1) (rd_nilP _ _) (rd_nilP _ _) (by omega) (by dcd) (by dcd) (by dcd) (fun u hu => by cases hu) fun lb E w2 hg2 hl2 hlb hE => ?_
  refine lit_rule (cells := #[.string s_InitiatorName, .string (str name), .string s_TargetName, .string (str target)]) (e := t_api_Pair) (z := 2) (base := w2.heap.size) (pair_lit2 _ _ _ _ _) rfl (by dcd) (Nat.le_refl _) fun w3 ho3 hg3 _ => ?_
  have sz1 := hg1.size
  have sz2 := hg2.size
  have tn : tgs.length = t.n := by have := ht.len; rw [List.length_map] at this; omega
  refine letX1 (fun (x : Sl) u => Grow w2 u ∧ CF.Own u w2.heap.size t_api_Pair 2 x (pvs (nmK name target kind told))) ?_ (fun J => ?_)
  · rintro x u ⟨hg3u, hox⟩
    have hgwu := (hg1.trans hg2).trans hg3u
    have hlu := hl2.grow hg3u
    have htu := ht.grow hgwu
    have htnb := ht.nb
    refine ⟨fun b i v => ∃ j : Nat, i = j ∧ j ≤ tgs.length ∧ v = u ∧ b = decide (target ∈ tgs.take j), fun _ i _ => tgs.length - i.toNat, ⟨0, rfl, Nat.zero_le _, rfl, rfl⟩, ?_⟩
    rintro b i v ⟨j, rfl, hj, rfl, rfl⟩
    rw [← tn]
    refine br_nat (fun hlt => ?_) (fun hge => ?_)
    · obtain ⟨ha, hc⟩ := rd_val htu (i := j) (by rw [List.length_map]; exact hlt)
      rw [List.getElem_map] at hc
      refine ⟨fun _ => ⟨by omega, by omega, ha⟩, _, fun _ => by rw [Int.toNat_natCast]; exact hc, ?_⟩
      rw [w64 (by omega) (by omega)]
      refine ⟨⟨j + 1, by omega, by omega, rfl, ?_⟩, by dsimp only; omega⟩
      rw [sEq_str, List.take_succ_eq_append_getElem hlt, Bool.eq_iff_iff, Bool.or_eq_true, decide_eq_true_eq, decide_eq_true_eq, decide_eq_true_eq, List.mem_append, List.mem_singleton]
      exact or_congr Iff.rfl ⟨fun q => q.symm, fun q => q.symm⟩
    · have : j = tgs.length := by omega
      subst this
      rw [List.take_length]
      have hxl : (nmK name target kind told).length ≤ 3 := by unfold nmK; cases told <;> simp
      have hxr := hox.rd (by have := hox.len; rw [pvs_len] at this; omega)
      have hxb : ∀ {p : Prop}, p → ∀ a, x.A = some a → a.block ≠ lb := fun _ a ha q => by
        have := (hox.ge a.block (by simp [Sl.blk, ha])).1
        have := hl2.lt
        omega
      have hkl : ∀ k ∈ nmK name target kind told, k.2.length ≤ 140737488351232 := fun k hk' => by
        unfold nmK at hk'
        cases told <;> simp at hk' <;> rcases hk' with rfl | rfl | rfl <;> assumption
      have hpure := names_pure name target kind told tgs
      -- the step, and what is looked at behind it
      refine letX1 (fun (want : Int) y => y = v ∧ (match wantN name target kind told tgs with | some d => want = (d : Int) | none => want = -1)) ?_ (fun J => ?_)
      · rintro want y ⟨rfl, hwant⟩
        refine step_spec (rq := ⟨1, 3, true, nmK name target kind told⟩) (ks := x) hlu ((hL.grow hgwu)) (by omega) hxr hxb (by dcd) (by dcd) hkl (fun q => absurd rfl q) (by show (nmK name target kind told).length ≤ _; omega) fun z y2 hk2 hly2 hoz => ?_
        rcases hst : stepX (lg0 tgs [] false 1 []) ⟨1, 3, true, nmK name target kind told⟩ with ⟨st, an, e⟩
        obtain ⟨he, hp⟩ := hpure st an e hst
        rw [hst] at hly2 hoz
        subst he
        have hgy2 : Grow w y2 := hgwu.keep hk2 fun i hi q => by omega
        refine an_hold fun ab y3 hab hg3' hb3 => br_f rfl ?_
        have hly3 := hly2.grow hg3'
        have c0 : y3.cell? ((⟨ab, 0, none⟩ : Addr).add 0) = some (.int .u8 (an.cls : Int)) := by rw [add0, hb3.cell]; rfl
        have c1 : y3.cell? ((⟨ab, 0, none⟩ : Addr).add 1) = some (.int .u8 (an.detail : Int)) := by rw [add0, hb3.cell]; rfl
        have hgy3 := hgy2.trans hg3'
        cases hw : wantN name target kind told tgs with
        | some d =>
          rw [hw] at hwant hp
          obtain ⟨p1, p2, p3, p4⟩ := hp
          have hwant : want = (d : Int) := hwant
          subst hwant
          rw [p1] at c0
          rw [p2] at c1
          have hd : d < 256 := by
            have : ∀ o, wantN name target kind told tgs = some o → o ≤ 9 := fun o ho => by
              unfold wantN at ho
              repeat' (first | (injection ho with ho; omega) | (cases ho; done) | split at ho)
            have := this d hw
            omega
          refine br_t (by rw [decide_eq_true_eq]; omega) ⟨_, c0, _, fun _ => c1, ?_⟩
          rw [w64 (n := (d : Int)) (by omega) (by omega)]
          refine letJ1 (fun (b1 : Bool) o => b1 = true ∧ o = y3) ?_ (fun J => ⟨fun _ => over_spec hly3 (J _ _ ⟨p3, rfl⟩), fun q => by simp at q⟩)
          rintro b1 o ⟨rfl, rfl⟩
          refine letJ1 (fun (b2 : Bool) o' => b2 = false ∧ o' = o) ?_ (fun J => ⟨fun _ => done_spec hly3 (J _ _ ⟨p4, rfl⟩), fun q => by simp at q⟩)
          rintro b2 o' ⟨rfl, rfl⟩
          have e : ((((((2 : Nat) : Int) == 2) && (((d : Nat) : Int) == ((d : Nat) : Int))) && true) && (!false)) = true := by simp
          rw [e]; exact h _ hgy3
        | none =>
          rw [hw] at hwant hp
          obtain ⟨p1, p2, p3, p4, p5⟩ := hp
          have hwant : want = -1 := hwant
          subst hwant
          rw [p1] at c0
          refine br_f rfl (params_spec hly3 fun y4 hg4 => ?_)
          refine new_rule fun pb y5 hpb hb5 hg5 hs5 => ?_
          refine storeVar_rule (cells := (pmv st.p).toArray) hb5 i_login_Params rfl rfl (by simp [pmv, Value.oneCell']) fun y6 hb6 hk6 hs6 => ?_
          have hg36 : Grow y3 y6 := hg4.trans (hg5.keep hk6 fun i hi q => by omega)
          refine ⟨_, hg36.cell c0 (fun q => q), ?_⟩
          refine letJ1 (fun (b3 : Bool) o => b3 = true ∧ o = y6) ?_ (fun J => ⟨fun _ => done_spec (hly3.grow hg36) (J _ _ ⟨p2, rfl⟩), fun q => by simp at q⟩)
          rintro b3 o ⟨rfl, rfl⟩
          have q0 : o.cell? ((⟨pb, 0, none⟩ : Addr).add 0) = some (.string (str st.p.ini)) := by rw [add0, hb6.cell]; rfl
          have q2 : o.cell? ((⟨pb, 0, none⟩ : Addr).add 2) = some (.bool st.p.disc) := by rw [add0, hb6.cell]; rfl
          have q1 : o.cell? ((⟨pb, 0, none⟩ : Addr).add 1) = some (.string (str st.p.tgt)) := by rw [add0, hb6.cell]; rfl
          refine ⟨_, fun _ => q0, _, fun _ => q2, _, fun _ => q1, ?_⟩
          have ed : (told && sEq (str kind) s_Discovery) = decide (told = true ∧ kind = ls s_Discovery) := by
            rw [sEq_ls, Bool.eq_iff_iff, Bool.and_eq_true, decide_eq_true_eq, decide_eq_true_eq]
          rw [ed, p3, p4, sEq_str, sEq_str]
          have e : ((((((((0 : Nat) : Int) == 0) && true) && (decide (name = name))) && (decide (told = true ∧ kind = ls s_Discovery) == decide (told = true ∧ kind = ls s_Discovery)))) && ((decide (told = true ∧ kind = ls s_Discovery)) || (decide (st.p.tgt = target)))) = true := by
            rcases p5 with p5 | p5
            · simp [p5]
            · simp [p5]
          rw [e]; exact h _ (hgy3.trans hg36)
      · have e1 : sEq (str name) ⟨#[]⟩ = decide (name = []) := sEq_str (b := [])
        have e2 : sEq (str target) ⟨#[]⟩ = decide (target = []) := sEq_str (b := [])
        have e3 : ∀ a : ByteArray, sEq (str kind) a = decide (kind = ls a) := fun a => sEq_ls
        by_cases q1 : name = []
        · exact br_t (e1.trans (decide_eq_true q1)) (J _ _ ⟨rfl, by rw [show wantN name target kind told tgs = some 7 by unfold wantN; rw [if_pos q1]]; rfl⟩)
        refine br_f (e1.trans (decide_eq_false q1)) ?_
        by_cases q2 : told = true ∧ kind ≠ ls s_Normal ∧ kind ≠ ls s_Discovery
        · exact br_t (by rw [e3, e3]; simp [q2]) (J _ _ ⟨rfl, by rw [show wantN name target kind told tgs = some 9 by unfold wantN; rw [if_neg q1, if_pos q2]]; rfl⟩)
        refine br_f (by rw [e3, e3, Bool.eq_false_iff]; intro r; simp at r; exact q2 ⟨r.1.1, r.1.2, r.2⟩) ?_
        by_cases q3 : told = true ∧ kind = ls s_Discovery
        · exact br_t (by rw [e3]; simp [q3]) (J _ _ ⟨rfl, by rw [show wantN name target kind told tgs = none by unfold wantN; rw [if_neg q1, if_neg q2, if_pos q3]]⟩)
        refine br_f (by rw [e3, Bool.eq_false_iff]; intro r; simp at r; exact q3 ⟨r.1, r.2⟩) ?_
        by_cases q4 : target = []
        · exact br_t (e2.trans (decide_eq_true q4)) (J _ _ ⟨rfl, by rw [show wantN name target kind told tgs = some 7 by unfold wantN; rw [if_neg q1, if_neg q2, if_neg q3, if_pos q4]]; rfl⟩)
        refine br_f (e2.trans (decide_eq_false q4)) ?_
        by_cases q5 : target ∈ tgs
        · exact br_f (by simp [q5]) (J _ _ ⟨rfl, by rw [show wantN name target kind told tgs = none by unfold wantN; rw [if_neg q1, if_neg q2, if_neg q3, if_neg q4, if_pos q5]]⟩)
        · exact br_t (by simp [q5]) (J _ _ ⟨rfl, by rw [show wantN name target kind told tgs = some 3 by unfold wantN; rw [if_neg q1, if_neg q2, if_neg q3, if_neg q4, if_neg q5]]; rfl⟩)
  · cases told with
    | true =>
      refine br_t rfl (lit_rule (cells := #[.string s_SessionType, .string (str kind)]) (e := t_api_Pair) (z := 2) (base := 0) (pair_lit _ _ _) rfl (by dcd) (Nat.zero_le _) fun w4 ho4 hg4 _ => ?_)
      refine append_rule u_sl_api_Pair i_api_Pair rfl (by dcd) (by dcd) (ho3.grow hg4) (ho4.rd (by show 1 ≤ _; dcd)) (by simp [Value.oneCell']) (by show (2 + 1) * 32 ≤ _; dcd) (by have := hg3.size; have := hg4.size; omega) fun x w5 hn5 ho5 hk5 _ => ?_
      exact J x w5 ⟨(hg3.trans hg4).keep hk5 fun i hi q => by have := (ho3.ge i q.symm).1; omega, ho5⟩
    | false => exact br_f rfl (J _ _ ⟨hg3, ho3⟩)
end Go.Proofs.YtjfjanogfakclaaDoor

/- Layer 20: sums. -/
namespace Go.Proofs.YtjfjanogfakclaaDoor
open Go CF

abbrev kHD : L8 := ls s_HeaderDigest
abbrev kDD : L8 := ls s_DataDigest
def sumsK (offer other : L8) : List Pr := hi2 ++ [(kHD, offer), (kDD, other)]
theorem firstOf_noneV {o : L8} : firstOf o [vNone] ≠ vCrc := by
  unfold firstOf
  split
  · rename_i x hx
    have := List.find?_some hx
    simp at this
    rw [this]; decide
  · decide
theorem sums_pure (offer other : L8) (sums : Bool) : ∀ st an e, stepX (lg0 [[116]] [] sums 1 []) ⟨1, 0, false, sumsK offer other⟩ = (st, an, e) →
    e = 0 ∧ an.keys = [(kHD, firstOf offer (if sums then [vCrc, vNone] else [vNone])), (kDD, firstOf other (if sums then [vCrc, vNone] else [vNone]))] ∧
    st.p.hdr = decide (firstOf offer (if sums then [vCrc, vNone] else [vNone]) = vCrc) ∧ st.p.dat = decide (firstOf other (if sums then [vCrc, vNone] else [vNone]) = vCrc) := by
  intro st an e hst
  generalize hown : (if sums then [vCrc, vNone] else [vNone]) = own
  have f1 : find (sumsK offer other) kIni = some [105] := find_hit' _ _ _
  have f2 : find (sumsK offer other) kTgt = some [116] := by
    show find ((kIni, [105]) :: (kTgt, [116]) :: _) kTgt = _
    rw [find_miss' _ (by dcd)]; exact find_hit' _ _ _
  have f3 : find (sumsK offer other) kKind = none := by
    show find ((kIni, [105]) :: (kTgt, [116]) :: (kHD, offer) :: (kDD, other) :: []) kKind = _
    rw [find_miss' _ (by dcd), find_miss' _ (by dcd), find_miss' _ (by dcd), find_miss' _ (by dcd)]; rfl
  have hx : stepX (lg0 [[116]] [] sums 1 []) ⟨1, 0, false, sumsK offer other⟩ = goX { lg0 [[116]] [] sums 1 [] with begun := true, stage := 1, p := { pm0 with ini := [105], tgt := [116] } } ⟨1, 0, false, sumsK offer other⟩ := by
    have hfx : firstX { lg0 [[116]] [] sums 1 [] with begun := true, stage := 1 } (sumsK offer other) = ({ lg0 [[116]] [] sums 1 [] with begun := true, stage := 1, p := { pm0 with ini := [105], tgt := [116] } }, 255) := by
      unfold firstX
      rw [f1, f2, f3]
      rfl
    unfold stepX
    rw [if_neg (by dcd), if_neg (by dcd)]
    dsimp only
    rw [if_neg (by dcd), hfx]
    rfl
  rw [hx] at hst
  have hos : ∀ s : LgS, s.sums = sums → ownSums s = own := fun s h => by unfold ownSums; rw [h]; exact hown
  have d1 : declares (kHD, offer) = false := by
    unfold declares
    rw [decide_eq_false (by dcd)]; rfl
  have d2 : declares (kDD, other) = false := by
    unfold declares
    rw [decide_eq_false (by dcd)]; rfl
  have k1 : ∀ (s : LgS) all, s.sums = sums → keyX s (kHD, offer) all = ({ s with p := { s.p with hdr := decide (firstOf offer own = vCrc) } }, [(kHD, firstOf offer own)], true) := fun s all h => by
    unfold keyX
    rw [if_neg (by dcd), if_neg (by dcd), if_neg (by dcd), if_neg (by dcd), if_neg (by dcd), d1]
    unfold ruleX
    rw [if_pos rfl, hos s h]; rfl
  have k2 : ∀ (s : LgS) all, s.sums = sums → keyX s (kDD, other) all = ({ s with p := { s.p with dat := decide (firstOf other own = vCrc) } }, [(kDD, firstOf other own)], true) := fun s all h => by
    unfold keyX
    rw [if_neg (by dcd), if_neg (by dcd), if_neg (by dcd), if_neg (by dcd), if_neg (by dcd), d2]
    unfold ruleX
    rw [if_neg (by dcd), if_pos rfl, hos s h]; rfl
  have k3 : ∀ (s : LgS) all v, keyX s (kIni, v) all = (s, [], true) := fun s all v => by unfold keyX; rw [if_pos (.inl rfl)]
  have k4 : ∀ (s : LgS) all v, keyX s (kTgt, v) all = (s, [], true) := fun s all v => by unfold keyX; rw [if_pos (.inr (.inr (.inr rfl)))]
  unfold goX at hst
  rw [if_neg (by simp [lg0]), if_neg (by simp [lg0])] at hst
  have hkeys : ∀ all (s : LgS), s.sums = sums → keysX all s (sumsK offer other) [] = ({ s with p := { s.p with hdr := decide (firstOf offer own = vCrc), dat := decide (firstOf other own = vCrc) } }, [(kHD, firstOf offer own), (kDD, firstOf other own)], true) := fun all s h => by
    show keysX all s [(kIni, [105]), (kTgt, [116]), (kHD, offer), (kDD, other)] [] = _
    simp only [keysX, k3, k4, k1 _ _ h]
    rw [k2 _ _ (by exact h)]
    rfl
  rw [hkeys _ _ rfl] at hst
  dsimp only at hst
  rw [if_neg (by simp)] at hst
  injection hst with h1 h2
  injection h2 with h2 h3
  subst h1; subst h2; subst h3
  exact ⟨rfl, rfl, rfl, rfl⟩
theorem sums_len {o : L8} {own : List L8} (h : ∀ x ∈ own, x.length ≤ 10) : (firstOf o own).length ≤ 10 := by
  unfold firstOf
  split
  · rename_i x hx
    have := List.find?_some hx
    exact h x (by simpa using this)
  · decide
set_option maxHeartbeats 1000000 in
theorem loginSums_spec {offer other : L8} {sums : Bool} {w : World} {R : Bool → World → Prop} (hv : ErrV w) (htab : TabV w) (hn : offer.length ≤ 140737488351232) (hg : other.length ≤ 140737488351232) (h : ∀ w', Grow w w' → R true w') : Cpalletlaw20_LoginSums (str offer) (str other) sums w R := by
  refine Fpalletlaw20_LoginSums.calls _ _ _ _ _ ?_
  have hL := LbV.of hv htab
  refine awake20_spec hL (Nat.le_refl _) fun w1 hg1 => br_f rfl ?_
  refine lit_rule (cells := #[.string s_t]) (e := t_string) (z := 1) (base := w1.heap.size) (str_lit1 _ _) rfl (by dcd) (Nat.le_refl _) fun w2 ho2 hg2 _ => ?_
  refine new_login_spec (u := nilS) (c := nilS) (tgs := [[116]]) (users := []) (chal := []) (sums := sums) (id := 1) (ho2.rd (by show 1 ≤ _; dcd)) (rd_nilP _ _) (rd_nilP _ _) (by dcd) (by dcd) (by dcd) (by dcd) (fun u hu => by cases hu) fun lb E w3 hg3 hl3 hlb hE => ?_
  refine lit_rule (cells := #[.string s_HeaderDigest, .string (str offer), .string s_DataDigest, .string (str other)]) (e := t_api_Pair) (z := 2) (base := w3.heap.size) (pair_lit2 _ _ _ _ _) rfl (by dcd) (Nat.le_refl _) fun w4 ho4 hg4 _ => ?_
  refine hello_spec (ms := [(kHD, offer), (kDD, other)]) (ho4.rd (by show 2 ≤ _; dcd)) (by show 2 ≤ _; dcd) fun x w5 ho5 hg5 => ?_
  have g05 := (((hg1.trans hg2).trans hg3).trans hg4).trans hg5
  have s1 := hg1.size
  have s2 := hg2.size
  have s3 := hg3.size
  have s4 := hg4.size
  have hx := ho5.rd (by have := ho5.len; rw [pvs_len] at this; have e : (hi2 ++ [(kHD, offer), (kDD, other)]).length = 4 := rfl; omega)
  have hxb : ∀ {p : Prop}, p → ∀ a, x.A = some a → a.block ≠ lb := fun _ a ha q => by
    have := (ho5.ge a.block (by simp [Sl.blk, ha])).1
    have := hl3.lt
    omega
  refine step_spec (rq := ⟨1, 0, false, sumsK offer other⟩) (ks := x) ((hl3.grow hg4).grow hg5) (hL.grow g05) (by omega) hx hxb (by dcd) (by dcd) (fun k hk => ?_) (fun q => absurd rfl q) (by show 4 ≤ _; dcd) fun y w6 hk6 hl6 ho6 => ?_
  · show k.2.length ≤ _
    have hk : k = (kIni, [105]) ∨ k = (kTgt, [116]) ∨ k = (kHD, offer) ∨ k = (kDD, other) := by simpa [sumsK] using hk
    rcases hk with rfl | rfl | rfl | rfl
    · decide
    · decide
    · exact hn
    · exact hg
  rcases hst : stepX (lg0 [[116]] [] sums 1 []) ⟨1, 0, false, sumsK offer other⟩ with ⟨st, an, e⟩
  obtain ⟨he, hp1, hp2, hp3⟩ := sums_pure offer other sums st an e hst
  rw [hst] at hl6 ho6
  subst he
  have hgw6 : Grow w w6 := g05.keep hk6 fun i hi q => by omega
  refine an_hold fun ab w7 hab hg7 hb7 => ?_
  generalize hown : (if sums then [vCrc, vNone] else [vNone]) = own at *
  refine lit_rule (cells := #[.string s_None]) (e := t_string) (z := 1) (base := w7.heap.size) (str_lit1 _ _) rfl (by dcd) (Nat.le_refl _) fun w8 ho8 hg8 _ => ?_
  refine letX1 (fun (x : Sl) u => Grow w8 u ∧ Rd u 1 x (strs own)) ?_ (fun J => ?_)
  · rintro xo u ⟨hgu, hrx⟩
    refine rfirst_spec hrx (by omega) fun w9 hg9 => ?_
    refine rfirst_spec (hrx.grow hg9) (by omega) fun w10 hg10 => ?_
    have g710 := ((hg8.trans hgu).trans hg9).trans hg10
    refine params_spec ((hl6.grow hg7).grow g710) fun w11 hg11 => ?_
    refine new_rule fun pb w12 hpb hb12 hg12 hs12 => ?_
    refine storeVar_rule (cells := (pmv st.p).toArray) hb12 i_login_Params rfl rfl (by simp [pmv, Value.oneCell']) fun w13 hb13 hk13 hs13 => ?_
    have g713 : Grow w7 w13 := (g710.trans hg11).trans (hg12.keep hk13 fun i hi q => by omega)
    have hb13a : Blk w13 ab (anv an y).toArray t_login_Answer := g713.heap hb7 (fun q => q)
    have hp := (ho6.grow hg7).grow g713
    rw [hp1] at hp
    have hyn : y.n = 2 := by have := hp.len; rw [pvs_len] at this; have e : [(kHD, firstOf offer own), (kDD, firstOf other own)].length = 2 := rfl; omega
    have hyr := hp.rd (by omega)
    have c5 : w13.cell? ((⟨ab, 0, none⟩ : Addr).add 5) = some (.slice y.A y.n y.c) := by rw [add0, hb13a.cell]; rfl
    obtain ⟨a0, ha0, hc0⟩ := rd_pair hyr (i := 0) (by show 0 < 2; dcd)
    obtain ⟨a1, ha1, hc1⟩ := rd_pair hyr (i := 1) (by show 1 < 2; dcd)
    have v0 : w13.cell? (((gA y.A).add ((0 : Int).toNat * 2)).add 1) = some (.string (str (firstOf offer own))) := by rw [ha0]; exact hc0 1 _ rfl
    have v1 : w13.cell? (((gA y.A).add ((1 : Int).toNat * 2)).add 1) = some (.string (str (firstOf other own))) := by rw [ha1]; exact hc1 1 _ rfl
    have q3 : w13.cell? ((⟨pb, 0, none⟩ : Addr).add 3) = some (.bool st.p.hdr) := by rw [add0, hb13.cell]; rfl
    have q4 : w13.cell? ((⟨pb, 0, none⟩ : Addr).add 4) = some (.bool st.p.dat) := by rw [add0, hb13.cell]; rfl
    refine ⟨y, fun _ => c5, y, fun _ => c5, fun _ => ⟨by decide, by omega, by rw [ha0]; rfl⟩, _, fun _ => v0, y, fun _ => c5, fun _ => ⟨by decide, by omega, by rw [ha1]; rfl⟩, _, fun _ => v1, _, fun _ => q3, _, fun _ => q4, _, fun _ => q3, _, fun _ => q4, ?_⟩
    have ec : ∀ l : L8, sEq (str l) s_CRC32C = decide (l = vCrc) := fun l => sEq_ls
    rw [ec, ec, hp2, hp3, hyn, sEq_str, sEq_str]
    have hfin : (sums || ((!decide (firstOf offer own = vCrc)) && (!decide (firstOf other own = vCrc)))) = true := by
      cases sums with
      | true => rfl
      | false =>
        obtain rfl : [vNone] = own := hown
        simp [firstOf_noneV]
    rw [hfin]
    have : R true w13 := h w13 ((hgw6.trans hg7).trans g713)
    simpa using this
  · cases sums with
    | true =>
      refine br_t rfl (lit_rule (cells := #[.string s_CRC32C, .string s_None]) (e := t_string) (z := 1) (base := w8.heap.size) (str_lit2 _ _ _) rfl (by dcd) (Nat.le_refl _) fun w9 ho9 hg9 _ => J _ _ ⟨hg9, ?_⟩)
      rw [← hown]
      exact ho9.rd (by show 2 ≤ _; dcd)
    | false =>
      refine br_f rfl (J _ _ ⟨Keep.refl _ _, ?_⟩)
      rw [← hown]
      exact ho8.rd (by show 1 ≤ _; dcd)
end Go.Proofs.YtjfjanogfakclaaDoor

/- The rows of LoginNames and LoginSums. -/
namespace Go.Proofs.YtjfjanogfakclaaDoor
open Go CF
section
variable {H : Type} {enc : TypeId × Value → H} {w : World} {base : Nat} {spare : Nat → Bool} {held : Bool}
theorem flat_strs20 (l : List L8) : l.flatMap (fun b => [Value.string (str b)]) = strs l := by
  unfold strs
  induction l with
  | nil => rfl
  | cons a r ih => simp only [List.flatMap_cons, ih, List.map_cons, List.singleton_append]
theorem opens_strs20 : Opens enc Tryd.prog w base spare held t_sl_string fun cs => ∃ s : Sl, cs = [.slice s.A s.n s.c] ∧ ∃ xs : List L8, Rd w 1 s (strs xs) ∧ s.n * 16 ≤ 140737488351232 :=
  (opens_slice (f := fun x : L8 => [.string (str x)]) (Q := fun x => x.length ≤ 140737488351232) (z := 1) (bytes := 16) u_sl_string (by kernel_rfl) (by kernel_rfl) (by decide) (fun _ => rfl) (opens_str u_string)).mono
    fun _ ⟨s, h1, xs, h2, _, _, h3⟩ => ⟨s, h1, xs, flat_strs20 xs ▸ h2, h3⟩
end
theorem loginNames_row {a b k : ByteArray} {told : Bool} {t : Sl} {xs : List L8} {w : World} {R : Bool → World → Prop} (ht : Rd w 1 t (strs xs)) (htn : t.n * 16 ≤ 140737488351232) (ha : a.size ≤ 140737488351232) (hb : b.size ≤ 140737488351232) (hk : k.size ≤ 140737488351232)
    (hv : ErrV w) (htab : TabV w) (h : ∀ w', Grow w w' → R true w') : Cpalletlaw20_LoginNames a b k told t w R :=
  loginNames_spec (name := ls a) (target := ls b) (kind := ls k) hv htab ht htn (by rw [length_ls]; omega) (by rw [length_ls]; omega) (by rw [length_ls]; omega) h
theorem loginSums_row {a b : ByteArray} {sums : Bool} {w : World} {R : Bool → World → Prop} (ha : a.size ≤ 140737488351232) (hb : b.size ≤ 140737488351232) (hv : ErrV w) (htab : TabV w) (h : ∀ w', Grow w w' → R true w') : Cpalletlaw20_LoginSums a b sums w R :=
  loginSums_spec (offer := ls a) (other := ls b) hv htab (by rw [length_ls]; omega) (by rw [length_ls]; omega) h
end Go.Proofs.YtjfjanogfakclaaDoor
