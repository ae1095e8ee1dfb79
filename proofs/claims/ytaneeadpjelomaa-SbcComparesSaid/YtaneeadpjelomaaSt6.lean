/- Layer 4: what was written is read; lists of blocks that are alike. -/
import Derived.Test.YtaneeadpjelomaaSt5
namespace Go.Proofs.Ytaneeadpjelomaa
open Go CF

def cont (st : Wst) (file : ByteArray) : L8 := (st.seen file).getD []
theorem cont_step (st : Wst) (file : ByteArray) (o : Nat) (r : L8) : cont (stepW st file o r) file = wr (cont st file) o r := by
  simp [cont, stepW, applyWr, setF]
theorem layW_file {st : Wst} {file : ByteArray} {lba : Nat} {bs : List Bk} (hg : Good (cont st file)) : ∀ k, k ≤ bs.length → Good (cont (layW st file lba (rsOf bs) k) file) ∧
    ∀ j, blkAt (cont (layW st file lba (rsOf bs) k) file) j = if lba ≤ j ∧ j < lba + k then (bs[j - lba]?).getD emptyB else blkAt (cont st file) j
  | 0, _ => ⟨hg, fun j => by rw [if_neg (by omega)]; rfl⟩
  | k + 1, hk => by
    obtain ⟨h1, h2⟩ := layW_file (lba := lba) (bs := bs) hg k (by omega)
    have hr : rsOf bs k = recB (bs[k]'(by omega)) := by unfold rsOf; rw [List.getElem?_eq_getElem (by omega)]
    refine ⟨?_, fun j => ?_⟩
    · show Good (cont (stepW _ file _ _) file)
      rw [cont_step, hr]; exact good_rec h1 _ _
    · show blkAt (cont (stepW _ file _ _) file) j = _
      rw [cont_step, hr, blkAt_rec h1, h2]
      by_cases e : j = lba + k
      · subst e
        rw [if_pos rfl, if_pos (by omega), Nat.add_sub_cancel_left, List.getElem?_eq_getElem (by omega)]
        rfl
      · rw [if_neg e]
        by_cases q : lba ≤ j ∧ j < lba + k
        · rw [if_pos q, if_pos (by omega)]
        · rw [if_neg q, if_neg (by omega)]
theorem blkAt_nil (j : Nat) : blkAt [] j = emptyB := blkOf_not (by simp)
theorem flat_cut (bs : List Bk) (i m : Nat) : ((bs.flatMap bc).drop (i * 19)).take (m * 19) = ((bs.drop i).take m).flatMap bc := by
  have hd : ∀ (i : Nat) (l : List Bk), (l.flatMap bc).drop (i * 19) = (l.drop i).flatMap bc := by
    intro i
    induction i with
    | zero => intro l; simp
    | succ i ih =>
      intro l
      cases l with
      | nil => simp
      | cons b r =>
        rw [List.flatMap_cons, List.drop_succ_cons, ← ih r, List.drop_append, List.drop_of_length_le (by rw [bc_len]; omega), bc_len, List.nil_append]
        congr 1; omega
  have ht : ∀ (i : Nat) (l : List Bk), (l.flatMap bc).take (i * 19) = (l.take i).flatMap bc := by
    intro i
    induction i with
    | zero => intro l; simp
    | succ i ih =>
      intro l
      cases l with
      | nil => simp
      | cons b r =>
        rw [List.flatMap_cons, List.take_succ_cons, List.flatMap_cons, ← ih r, List.take_append, List.take_of_length_le (by rw [bc_len]; omega), bc_len]
        congr 2; omega
  rw [hd, ht]
theorem rd_bk_cut {w : World} {s : Sl} {bs : List Bk} (h : Rd w 19 s (bs.flatMap bc)) {l k : Nat} (hl : l ≤ k) (hk : k ≤ s.n) : Rd w 19 ⟨cutA s.A s.c l 19, k - l, s.c - l⟩ (((bs.drop l).take (k - l)).flatMap bc) := by
  have := h.cut hl hk
  rwa [flat_cut] at this
theorem IsW.nobytes {w : World} {pw : Nat} {D : Nat → Prop} {st : Wst} (h : IsW w pw D st) : NoBytes w D := by
  obtain ⟨mb, md, ws, cs, h⟩ := h
  exact h.nb
theorem size_s_f : (1 : Nat) ≤ s_f.size ∧ s_f.size ≤ 32 := by decide
def bk7 : Bk := ⟨[0, 0, 0, 0, 0, 0, 0, 0, 0, 0, 0, 0, 0, 0, 0, 0], 0, 7, 0, rfl, by decide, by decide, by decide⟩
end Go.Proofs.Ytaneeadpjelomaa
