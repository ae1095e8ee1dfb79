import Derived.Test.YtaneeadpjelomaaSt8
/- Layer 4: unmapping; an array of blocks as a variable. -/
namespace Go.Proofs.Ytaneeadpjelomaa
open Go CF

theorem layW_zero {st : Wst} {file : ByteArray} {lba : Nat} (hg : Good (cont st file)) : ∀ k, Good (cont (layW st file lba (fun _ => [0]) k) file) ∧
    ∀ j, blkAt (cont (layW st file lba (fun _ => [0]) k) file) j = if lba ≤ j ∧ j < lba + k then emptyB else blkAt (cont st file) j
  | 0 => ⟨hg, fun j => by rw [if_neg (by omega)]; rfl⟩
  | k + 1 => by
    obtain ⟨h1, h2⟩ := layW_zero (lba := lba) hg k
    refine ⟨?_, fun j => ?_⟩
    · show Good (cont (stepW _ file _ _) file)
      rw [cont_step]; exact good_zero h1 _
    · show blkAt (cont (stepW _ file _ _) file) j = _
      rw [cont_step, blkAt_zero h1, h2]
      by_cases e : j = lba + k
      · subst e
        rw [if_pos rfl, if_pos (by omega)]
      · rw [if_neg e]
        by_cases q : lba ≤ j ∧ j < lba + k
        · rw [if_pos q, if_pos (by omega)]
        · rw [if_neg q, if_neg (by omega)]
theorem store_unmap_spec {w : World} {ps pw : Nat} {D : Nat → Prop} {st : Wst} {file : ByteArray} {blocks : Nat} {cache : Bool} {lba n : Nat} {R : Int → Int → World → Prop}
    (hS : IsS w ps pw file blocks cache) (hps : ¬ D ps) (hw : IsW w pw D st) (hok : Wok st) (hs : 1 ≤ file.size ∧ file.size ≤ 32) (hbk : blocks ≤ 4096) (hl : lba + n ≤ blocks)
    (ho : st.ops < 10000000000) (hn : st.waits.length < 10000000)
    (h : ∀ u D', Keep D w u → IsW u pw D' (syncIf (syncs n false cache) (layW st file lba (fun _ => [0]) n)) → (∀ k, D' k → D k ∨ w.heap.size ≤ k) → IsS u ps pw file blocks cache → R (n : Int) 0 u) :
    Cstore_Store_Unmap (some ⟨ps, 0, none⟩) (lba : Int) (n : Int) w R := by
  refine Fstore_Store_Unmap.calls _ _ _ _ _ ?_
  refine check_spec hS hbk (by omega) ?_
  rw [if_pos hl]
  refine br_f rfl ?_
  refine lay_spec (n := n) (rs := fun _ => [0]) hS hps hw hs (by omega) (fun _ => by decide) (by omega) (by omega) (fun x u K hx hk hK => ?_) fun u D' hk hw' hD' hS' => ?_
  · refine ⟨rfl, ?_⟩
    show Cstore_Store_Unmap_1 (x : Int) u K
    refine Fstore_Store_Unmap_1.calls _ _ _ ?_
    refine lit_rule (cells := #[.int .u8 0]) (e := t_uint8) (z := 1) (base := 0) (by kernel_rfl) rfl (by decide) (Nat.zero_le _) fun w3 hlit3 hg3 _ => hK _ w3 hg3 hlit3
  · obtain ⟨lo, lw⟩ := layW_ops st file lba (fun _ => [0]) n
    by_cases q : 0 < n ∧ (false = true ∨ cache = false)
    · rw [if_pos q]
      have hy : syncs n false cache = true := by
        unfold syncs
        rw [Bool.and_eq_true, decide_eq_true_eq, Bool.or_eq_true, Bool.not_eq_true']
        exact q
      refine sync_spec hw' (layW_ok hok (fun _ => by decide) _ (by omega)) (by omega) (by omega) fun u2 D2 hk2 hw2 hD2 => ?_
      have s1 := hk.size
      have lt := lt_of_heap hS
      refine h u2 D2 (hk.trans hk2 fun i hi e => ?_) (by rw [hy]; exact hw2) (fun k hk' => ?_) (hk2.heap hS' fun e => ?_)
      · rcases hD' i e with r | r
        · exact r
        · omega
      · rcases hD2 k hk' with r | r
        · exact hD' k r
        · exact .inr (by omega)
      · rcases hD' _ e with r | r
        · exact hps r
        · omega
    · rw [if_neg q]
      have hy : syncs n false cache = false := by
        unfold syncs
        by_cases q1 : 0 < n
        · rw [decide_eq_true q1, Bool.true_and]
          cases cache <;> simp_all
        · rw [decide_eq_false q1, Bool.false_and]
      exact h u D' hk (by rw [hy]; exact hw') hD' hS'
/-- blocks side by side in a variable -/
theorem want_set {b : Nat} {w : World} {bs : List Bk} {t : TypeId} {j : Nat} {x : Bk} (hb : Blk w b (bs.flatMap bc).toArray t) (hj : j < bs.length) {K : World → Prop}
    (h : ∀ w', Blk w' b ((bs.set j x).flatMap bc).toArray t → Keep (fun k => k = b) w w' → w'.heap.size = w.heap.size → K w') : RunU Try.prog (storeVar t_api_Block ((⟨b, 0, none⟩ : Addr).add (j * 19)) (.agg (bc x).toArray)) w K := by
  rw [add0, Nat.zero_add]
  have hsz : (bs.flatMap bc).length = bs.length * 19 := flat_length bc_len bs
  have hj1 : (j + 1) * 19 ≤ bs.length * 19 := Nat.mul_le_mul_right _ hj
  refine storeAt_rule (o := j * 19) hb i_api_Block (by simp [bc_len]) (by simp only [List.size_toArray, bc_len, hsz]; omega) (fun v hv => bc_ones x v (by simpa using hv)) fun w1 hb1 hk1 hs1 => h w1 ?_ hk1 hs1
  have e : (bs.set j x).flatMap bc = (bs.flatMap bc).take (j * 19) ++ bc x ++ (bs.flatMap bc).drop ((j + 1) * 19) := by
    have h1 := flat_cut bs 0 j
    rw [Nat.zero_mul, List.drop_zero, List.drop_zero] at h1
    have h2 := flat_cut bs (j + 1) (bs.length)
    rw [List.take_of_length_le (by rw [List.length_drop, hsz]; omega), List.take_of_length_le (by rw [List.length_drop]; omega)] at h2
    rw [h1, h2, List.set_eq_take_append_cons_drop, if_pos hj, List.flatMap_append, List.flatMap_cons, List.append_assoc]
  rw [e]
  have hb1 : Blk w1 b ((bs.flatMap bc).toArray.toList.take (j * 19) ++ (bc x).toArray.toList ++ (bs.flatMap bc).toArray.toList.drop (j * 19 + (bc x).toArray.size)).toArray t := hb1
  simp only [List.size_toArray, bc_len] at hb1
  rw [show (j + 1) * 19 = j * 19 + 19 by omega]
  exact hb1
end Go.Proofs.Ytaneeadpjelomaa
