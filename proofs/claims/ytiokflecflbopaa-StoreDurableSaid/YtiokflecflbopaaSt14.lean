/- Layer 4: what a crash leaves. -/
import Derived.Test.YtiokflecflbopaaSt13
import Derived.Test.YtiokflecflbopaaWo6
namespace Go.Proofs.Ytiokflecflbopaa
open Go CF

def fcont (F : Files) (file : ByteArray) : L8 := (F file).getD []
theorem fcont_wr (F : Files) (file : ByteArray) (o : Nat) (p : L8) : fcont (applyWr F file o p) file = wr (fcont F file) o p := by
  simp [fcont, applyWr, setF]
theorem crashN_ind {P : Files → Prop} {F : Files} {l : List Cg} {keep cut : Nat} (h0 : P F) (hs : ∀ G i (hi : i < l.length), P G → P (crash1 G l[i] i keep cut)) : ∀ k, P (crashN F l keep cut k)
  | 0 => h0
  | k + 1 => by
    have ih := crashN_ind h0 hs k
    simp only [crashN]
    by_cases hk : k < l.length
    · rw [List.getElem?_eq_getElem hk]; exact hs _ _ hk ih
    · rw [List.getElem?_eq_none (by omega)]; exact ih
theorem apAll_ind {P : Files → Prop} {F : Files} {l : List Cg} (h0 : P F) (hs : ∀ G i (hi : i < l.length), P G → P (apC G l[i])) : P (apAll F l) := by
  have h := crashN_ind (keep := l.length) (cut := 0) h0 (l := l) (fun G i hi hg => by rw [crash1, if_pos hi]; exact hs G i hi hg) l.length
  have e : ∀ k, k ≤ l.length → crashN F l l.length 0 k = apAll F (l.take k) := by
    intro k
    induction k with
    | zero => intro _; rfl
    | succ k ih =>
      intro hk
      simp only [crashN]
      rw [List.getElem?_eq_getElem (by omega)]
      simp only
      rw [ih (by omega), crash1, if_pos (by omega), List.take_succ_eq_append_getElem (by omega), apAll_snoc]
  rw [e _ (Nat.le_refl _), List.take_length] at h
  exact h
/-- the writes of a list of blocks -/
def wl (file : ByteArray) (lba : Nat) (bs : List Bk) (k : Nat) : List Cg := (List.range k).map fun i => ⟨119, file, ⟨#[]⟩, 25 * (lba + i), rsOf bs i⟩
theorem layW_waits (st : Wst) (file : ByteArray) (lba : Nat) (bs : List Bk) : ∀ k, (layW st file lba (rsOf bs) k).waits = st.waits ++ wl file lba bs k ∧ (layW st file lba (rsOf bs) k).dur = st.dur
  | 0 => ⟨by simp [layW, wl], rfl⟩
  | k + 1 => by
    obtain ⟨h1, h2⟩ := layW_waits st file lba bs k
    refine ⟨?_, h2⟩
    simp only [layW, stepW, h1, wl, List.range_succ, List.map_append, List.map_cons, List.map_nil, List.append_assoc]
theorem wl_at {file : ByteArray} {lba : Nat} {bs : List Bk} {k i : Nat} (hi : i < (wl file lba bs k).length) : (wl file lba bs k)[i] = ⟨119, file, ⟨#[]⟩, 25 * (lba + i), rsOf bs i⟩ := by
  simp [wl]
theorem wl_len (file : ByteArray) (lba : Nat) (bs : List Bk) (k : Nat) : (wl file lba bs k).length = k := by simp [wl]
/-- records that are there at whole -/
def Full (f : L8) (a : Nat) (bs : List Bk) (from_ : Nat) : Prop := ∀ i (hi : i < bs.length), from_ ≤ i → 25 * (a + i) + 25 ≤ f.length ∧ ∀ t, t < 25 → f.getD (25 * (a + i) + t) 0 = (recB bs[i]).getD t 0
theorem full_blk {f : L8} {a : Nat} {bs : List Bk} {fr : Nat} (h : Full f a bs fr) {i : Nat} (hi : i < bs.length) (hf : fr ≤ i) : blkAt f (a + i) = bs[i] := by
  obtain ⟨h1, h2⟩ := h i hi hf
  have e : (f.drop (25 * (a + i))).take 25 = recB bs[i] := by
    apply List.ext_getElem?
    intro t
    simp only [List.getElem?_take, List.getElem?_drop]
    by_cases q : t < 25
    · rw [if_pos q]
      have := h2 t q
      rw [List.getD_eq_getElem?_getD, List.getD_eq_getElem?_getD, List.getElem?_eq_getElem (show 25 * (a + i) + t < f.length by omega), List.getElem?_eq_getElem (show t < (recB bs[i]).length by rw [recB_len]; exact q)] at this
      rw [List.getElem?_eq_getElem (show 25 * (a + i) + t < f.length by omega), List.getElem?_eq_getElem (show t < (recB bs[i]).length by rw [recB_len]; exact q)]
      exact congrArg some this
    · rw [if_neg q, List.getElem?_eq_none (by rw [recB_len]; omega)]
  unfold blkAt
  rw [e, blkOf_rec]
theorem full_off {f p : L8} {a : Nat} {bs : List Bk} {fr i : Nat} (h : Full f a bs fr) (hp : p.length ≤ 25) (hi : i < fr) : Full (wr f (25 * (a + i)) p) a bs fr := by
  intro j hj hf
  obtain ⟨h1, h2⟩ := h j hj hf
  refine ⟨by rw [wr_len]; omega, fun t ht => ?_⟩
  rw [getD_off (i := a + i) (j := a + j) hp (by omega) ht]
  exact h2 t ht
/-- one record at whole -/
def FullAt (f : L8) (j : Nat) (b : Bk) : Prop := 25 * j + 25 ≤ f.length ∧ ∀ t, t < 25 → f.getD (25 * j + t) 0 = (recB b).getD t 0
theorem fullAt_off {f p : L8} {i j : Nat} {b : Bk} (h : FullAt f j b) (hp : p.length ≤ 25) (hij : j ≠ i) : FullAt (wr f (25 * i) p) j b := by
  refine ⟨by rw [wr_len]; have := h.1; omega, fun t ht => ?_⟩
  rw [getD_off hp hij ht]; exact h.2 t ht
theorem fullAt_new (f : L8) (j : Nat) (b : Bk) : FullAt (wr f (25 * j) (recB b)) j b := by
  refine ⟨by rw [wr_len, recB_len]; omega, fun t ht => ?_⟩
  rw [getD_wr, if_pos ⟨by omega, by rw [recB_len]; omega⟩, show 25 * j + t - 25 * j = t by omega]
theorem layW_full {st : Wst} {file : ByteArray} {lba : Nat} {bs : List Bk} : ∀ k, k ≤ bs.length → ∀ i (hi : i < k) (hb : i < bs.length), FullAt (cont (layW st file lba (rsOf bs) k) file) (lba + i) bs[i]
  | 0, _, i, hi, _ => absurd hi (Nat.not_lt_zero i)
  | k + 1, hk, i, hi, hb => by
    show FullAt (cont (stepW _ file _ _) file) _ _
    rw [cont_step]
    have hr : rsOf bs k = recB (bs[k]'(by omega)) := by unfold rsOf; rw [List.getElem?_eq_getElem (by omega)]
    by_cases e : i = k
    · subst e; rw [hr]; exact fullAt_new _ _ _
    · exact fullAt_off (layW_full k (by omega) i (by omega) hb) (rsOf_len bs k) (by omega)
theorem wl_snoc (file : ByteArray) (lba : Nat) (bs : List Bk) (k : Nat) : wl file lba bs (k + 1) = wl file lba bs k ++ [⟨119, file, ⟨#[]⟩, 25 * (lba + k), rsOf bs k⟩] := by
  simp [wl, List.range_succ]
theorem apAll_wl {st : Wst} {F : Files} {file : ByteArray} {lba : Nat} {bs : List Bk} (h : fcont F file = cont st file) : ∀ k, fcont (apAll F (wl file lba bs k)) file = cont (layW st file lba (rsOf bs) k) file
  | 0 => h
  | k + 1 => by
    rw [wl_snoc, apAll_snoc]
    show fcont (applyWr _ file _ _) file = cont (stepW _ file _ _) file
    rw [fcont_wr, cont_step, apAll_wl h k]
end Go.Proofs.Ytiokflecflbopaa
