/- Layer 4: what a file says of blocks. -/
import Derived.Test.YtaneeadpjelomaaSt2
namespace Go.Proofs.Ytaneeadpjelomaa
open Go CF

theorem getD_wr (f : L8) (o : Nat) (p : L8) (k : Nat) : (wr f o p).getD k 0 = if o ≤ k ∧ k < o + p.length then p.getD (k - o) 0 else f.getD k 0 := by
  unfold wr
  simp only [List.getD_eq_getElem?_getD]
  generalize hg : f ++ List.replicate (o + p.length - f.length) 0 = g
  have hgl : g.length = max f.length (o + p.length) := by rw [← hg]; simp; omega
  have hgk : ∀ k : Nat, (g[k]?).getD 0 = (f[k]?).getD 0 := fun k => by
    rw [← hg]
    rcases Nat.lt_or_ge k f.length with q | q
    · rw [List.getElem?_append_left q]
    · rw [List.getElem?_append_right q, List.getElem?_eq_none q, List.getElem?_replicate]
      split <;> rfl
  have htl : (g.take o).length = o := by rw [List.length_take]; omega
  rcases Nat.lt_or_ge k o with q | q
  · rw [if_neg (by omega), List.append_assoc, List.getElem?_append_left (by omega), List.getElem?_take, if_pos q, hgk]
  · rcases Nat.lt_or_ge k (o + p.length) with q2 | q2
    · rw [if_pos ⟨q, q2⟩, List.append_assoc, List.getElem?_append_right (by omega), htl, List.getElem?_append_left (by omega)]
    · rw [if_neg (by omega), List.getElem?_append_right (by rw [List.length_append, htl]; omega), List.length_append, htl, List.getElem?_drop, show o + p.length + (k - (o + p.length)) = k by omega, hgk]
/-- a record is there at whole -/
def Good (f : L8) : Prop := ∀ j : Nat, f.getD (25 * j) 0 = 1 → 25 * j + 25 ≤ f.length
def blkAt (f : L8) (j : Nat) : Bk := blkOf ((f.drop (25 * j)).take 25)
def sl25 (f : L8) (j : Nat) : L8 := (List.range 25).map fun t => f.getD (25 * j + t) 0
theorem blkOf_not {l : L8} (h : ¬ (25 ≤ l.length ∧ l[0]? = some 1)) : blkOf l = emptyB := dif_neg h
theorem blkAt_good {f : L8} (h : Good f) (j : Nat) : blkAt f j = blkOf (sl25 f j) := by
  unfold blkAt
  by_cases h1 : f.getD (25 * j) 0 = 1
  · have hl := h j h1
    have e : (f.drop (25 * j)).take 25 = sl25 f j := by
      unfold sl25
      apply List.ext_getElem?
      intro t
      simp only [List.getElem?_take, List.getElem?_drop, List.getElem?_map, List.getElem?_range]
      by_cases q : t < 25
      · rw [if_pos q, List.getElem?_eq_getElem (show 25 * j + t < f.length by omega)]
        simp [q, List.getD_eq_getElem?_getD, List.getElem?_eq_getElem (show 25 * j + t < f.length by omega)]
      · simp [q]
    rw [e]
  · rw [blkOf_not, blkOf_not]
    · intro q
      have := q.2
      simp [sl25] at this
      exact h1 (by simpa using this)
    · intro q
      have hq := q.2
      have hlen := q.1
      rw [List.length_take, List.length_drop] at hlen
      rw [List.getElem?_take, if_pos (by decide), List.getElem?_drop, Nat.add_zero] at hq
      exact h1 (by rw [List.getD_eq_getElem?_getD, hq]; rfl)
theorem good_nil : Good [] := fun j h => by simp at h
theorem getD_off {f p : L8} {i j t : Nat} (hp : p.length ≤ 25) (hij : j ≠ i) (ht : t < 25) : (wr f (25 * i) p).getD (25 * j + t) 0 = f.getD (25 * j + t) 0 := by
  rw [getD_wr, if_neg (by omega)]
theorem num_be2 {n : Nat} (h : n < 65536) : num (be2 n) = n := by
  simp only [num, be2, List.foldl_cons, List.foldl_nil, UInt8.toNat_ofNat']
  omega
theorem num_be4 {n : Nat} (h : n < 4294967296) : num (be4 n) = n := by
  simp only [num, be4, List.foldl_cons, List.foldl_nil, UInt8.toNat_ofNat']
  omega
theorem bk_ext {a b : Bk} (h1 : a.d = b.d) (h2 : a.g = b.g) (h3 : a.a = b.a) (h4 : a.r = b.r) : a = b := by
  cases a; cases b; simp only at h1 h2 h3 h4; subst h1; subst h2; subst h3; subst h4; rfl
theorem blkOf_rec (b : Bk) : blkOf (recB b) = b := by
  have h : 25 ≤ (recB b).length ∧ (recB b)[0]? = some 1 := ⟨by rw [recB_len]; decide, rfl⟩
  have hd := b.hd
  have e : recB b = 1 :: (b.d ++ (be2 b.g ++ (be2 b.a ++ be4 b.r))) := by simp [recB]
  have d1 : (recB b).drop 1 = b.d ++ (be2 b.g ++ (be2 b.a ++ be4 b.r)) := by rw [e]; rfl
  have d17 : (recB b).drop 17 = be2 b.g ++ (be2 b.a ++ be4 b.r) := by
    rw [e, List.drop_succ_cons, List.drop_append, List.drop_of_length_le (by omega), hd]; rfl
  have d19 : (recB b).drop 19 = be2 b.a ++ be4 b.r := by
    have : (recB b).drop 19 = ((recB b).drop 17).drop 2 := by rw [List.drop_drop]
    rw [this, d17]; rfl
  have d21 : (recB b).drop 21 = be4 b.r := by
    have : (recB b).drop 21 = ((recB b).drop 19).drop 2 := by rw [List.drop_drop]
    rw [this, d19]; rfl
  unfold blkOf
  rw [dif_pos h]
  apply bk_ext
  · show ((recB b).drop 1).take 16 = b.d
    rw [d1, List.take_append_of_le_length (by omega), List.take_of_length_le (by omega)]
  · show num (((recB b).drop 17).take 2) = b.g
    rw [d17]; exact num_be2 b.hg
  · show num (((recB b).drop 19).take 2) = b.a
    rw [d19]; exact num_be2 b.ha
  · show num (((recB b).drop 21).take 4) = b.r
    rw [d21]; exact num_be4 b.hr
theorem good_rec {f : L8} (h : Good f) (i : Nat) (b : Bk) : Good (wr f (25 * i) (recB b)) := by
  intro j hj
  rw [wr_len, recB_len]
  by_cases e : j = i
  · subst e; omega
  · have := getD_off (f := f) (p := recB b) (t := 0) (by rw [recB_len]; decide) e (by decide)
    rw [Nat.add_zero] at this
    rw [this] at hj
    have := h j hj
    omega
theorem good_zero {f : L8} (h : Good f) (i : Nat) : Good (wr f (25 * i) [0]) := by
  intro j hj
  rw [wr_len]
  by_cases e : j = i
  · subst e
    rw [getD_wr, if_pos ⟨Nat.le_refl _, by simp⟩, Nat.sub_self] at hj
    cases hj
  · have := getD_off (f := f) (p := [0]) (t := 0) (by decide) e (by decide)
    rw [Nat.add_zero] at this
    rw [this] at hj
    have := h j hj
    omega
theorem sl25_off {f p : L8} {i j : Nat} (hp : p.length ≤ 25) (hij : j ≠ i) : sl25 (wr f (25 * i) p) j = sl25 f j := by
  unfold sl25
  apply List.map_congr_left
  intro t ht
  exact getD_off hp hij (List.mem_range.1 ht)
theorem blkAt_rec {f : L8} (h : Good f) (i : Nat) (b : Bk) (j : Nat) : blkAt (wr f (25 * i) (recB b)) j = if j = i then b else blkAt f j := by
  rw [blkAt_good (good_rec h i b)]
  by_cases e : j = i
  · subst e
    rw [if_pos rfl]
    have e2 : sl25 (wr f (25 * j) (recB b)) j = recB b := by
      unfold sl25
      apply List.ext_getElem?
      intro t
      rw [List.getElem?_map]
      by_cases q : t < 25
      · rw [List.getElem?_range q, Option.map_some, getD_wr, if_pos ⟨by omega, by rw [recB_len]; omega⟩, show 25 * j + t - 25 * j = t by omega, List.getD_eq_getElem?_getD, List.getElem?_eq_getElem (by rw [recB_len]; exact q)]
        rfl
      · rw [List.getElem?_eq_none (l := List.range 25) (by simp; omega), List.getElem?_eq_none (l := recB b) (by rw [recB_len]; omega)]; rfl
    rw [e2, blkOf_rec]
  · rw [if_neg e, sl25_off (by rw [recB_len]; decide) e, blkAt_good h]
theorem blkAt_zero {f : L8} (h : Good f) (i j : Nat) : blkAt (wr f (25 * i) [0]) j = if j = i then emptyB else blkAt f j := by
  rw [blkAt_good (good_zero h i)]
  by_cases e : j = i
  · subst e
    rw [if_pos rfl, blkOf_not]
    intro q
    have := q.2
    rw [sl25, List.getElem?_map, List.getElem?_range (by decide), Option.map_some, Nat.add_zero, getD_wr, if_pos ⟨Nat.le_refl _, by simp⟩, Nat.sub_self] at this
    cases this
  · rw [if_neg e, sl25_off (by decide) e, blkAt_good h]
end Go.Proofs.Ytaneeadpjelomaa
