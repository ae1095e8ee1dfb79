/- Layer 4: what was written is read; lists of blocks that are alike. -/
import Derived.Test.YtiokflecflbopaaSt5
namespace Go.Proofs.Ytiokflecflbopaa
open Go CF

def cont (st : Wst) (file : ByteArray) : L8 := (st.seen file).getD []
theorem cont_step (st : Wst) (file : ByteArray) (o : Nat) (r : L8) : cont (stepW st file o r) file = wr (cont st file) o r := by
  simp [cont, stepW, applyWr, setF]
theorem layW_file {st : Wst} {file : ByteArray} {lba : Nat} {bs : List Bk} (hg : Good (cont st file)) : ∀ k, k ≤ bs.length → Good (cont (layW st file lba (rsOf bs) k) file) ∧
    ∀ j, blkAt (cont (layW st file lba (rsOf bs) k) file) j = if lba ≤ j ∧ j < lba + k then (bs[j - lba]?).getD emptyB else blkAt (cont st file) j
  | 0, _ => ⟨hg, fun j => by rw [if_neg (by omega)]; rfl⟩
  | k + 1, hk => by
    obtain ⟨h1, h2⟩ := layW_file (lba := lba) (bs := bs) hg k (by omega)
    have hr : rsOf bs k = recB (bs[k]'(by omega)) := by unfold rsOf; rw [List.getElem?_eq_getElem (by omega)]
    refine ⟨?_, fun j => ?_⟩
    · show Good (cont (stepW _ file _ _) file)
      rw [cont_step, hr]; exact good_rec h1 _ _
    · show blkAt (cont (stepW _ file _ _) file) j = _
      rw [cont_step, hr, blkAt_rec h1, h2]
      by_cases e : j = lba + k
      · subst e
        rw [if_pos rfl, if_pos (by omega), Nat.add_sub_cancel_left, List.getElem?_eq_getElem (by omega)]
        rfl
      · rw [if_neg e]
        by_cases q : lba ≤ j ∧ j < lba + k
        · rw [if_pos q, if_pos (by omega)]
        · rw [if_neg q, if_neg (by omega)]
theorem blkAt_nil (j : Nat) : blkAt [] j = emptyB := blkOf_not (by simp)
theorem flat_cut (bs : List Bk) (i m : Nat) : ((bs.flatMap bc).drop (i * 19)).take (m * 19) = ((bs.drop i).take m).flatMap bc := by
  have hd : ∀ (i : Nat) (l : List Bk), (l.flatMap bc).drop (i * 19) = (l.drop i).flatMap bc := by
    intro i
    induction i with
    | zero => intro l; simp
    | succ i ih =>
      intro l
      cases l with
      | nil => simp
      | cons b r =>
        rw [List.flatMap_cons, List.drop_succ_cons, ← ih r, List.drop_append, List.drop_of_length_le (by rw [bc_len]; omega), bc_len, List.nil_append]
        congr 1; omega
  have ht : ∀ (i : Nat) (l : List Bk), (l.flatMap bc).take (i * 19) = (l.take i).flatMap bc := by
    intro i
    induction i with
    | zero => intro l; simp
    | succ i ih =>
      intro l
      cases l with
      | nil => simp
      | cons b r =>
        rw [List.flatMap_cons, List.take_succ_cons, List.flatMap_cons, ← ih r, List.take_append, List.take_of_length_le (by rw [bc_len]; omega), bc_len]
        congr 2; omega
  rw [hd, ht]
theorem rd_bk_cut {w : World} {s : Sl} {bs : List Bk} (h : Rd w 19 s (bs.flatMap bc)) {l k : Nat} (hl : l ≤ k) (hk : k ≤ s.n) : Rd w 19 ⟨cutA s.A s.c l 19, k - l, s.c - l⟩ (((bs.drop l).take (k - l)).flatMap bc) := by
  have := h.cut hl hk
  rwa [flat_cut] at this
theorem same04_spec {a b : Sl} {ps qs : List Bk} {w : World} {R : Bool → World → Prop} (ha : Rd w 19 a (ps.flatMap bc)) (hb : Rd w 19 b (qs.flatMap bc))
    (h : ps = qs → ∀ w', Grow w w' → R true w') (h' : ps ≠ qs → ∀ w', Grow w w' → R false w') : Cpalletref04_Same a b w R := by
  refine Fpalletref04_Same.calls _ _ _ _ ?_
  have hna := rd_bk ha
  have hnb := rd_bk hb
  have hba := ha.nb
  refine br_ne (fun hne => ?_) (fun he => ?_)
  · exact h' (fun q => hne (by rw [← hna, ← hnb, q])) w (Keep.refl _ _)
  refine ⟨fun x w' => Grow w w' ∧ ∃ j : Nat, x = j ∧ j ≤ a.n ∧ ps.take j = qs.take j, fun x _ => a.n - x.toNat, ⟨Keep.refl _ _, 0, rfl, by omega, rfl⟩, ?_⟩
  rintro x w0 ⟨hg, j, rfl, hj, hall⟩
  refine br_nat (fun hlt => ?_) (fun hge => ?_)
  · have hja : j < ps.length := by omega
    have hjb : j < qs.length := by omega
    rintro w1 rfl
    have hg1 := hg.trans (keep_drew w0)
    obtain ⟨p, hp, hc⟩ := rd_bk_at (ha.grow hg1) hja
    obtain ⟨q, hq, hd⟩ := rd_bk_at (hb.grow hg1) hjb
    obtain ⟨r, hr, hrun⟩ := neq_rule (x := .tmp 20) (y := .tmp 24) flat_api_Block kd_api_Block gt_api_Block (fit_bc ps[j]) (fit_bc qs[j])
    refine ⟨fun u => u = w0.drew, rfl, ⟨by omega, by omega, by rw [hp]; rfl⟩, (bc ps[j]).toArray, ?_, ⟨by omega, by omega, by rw [hq]; rfl⟩, (bc qs[j]).toArray, ?_, r, fun u _ => hrun u, ?_, ?_⟩
    · rintro u rfl; rw [hp]; exact loadVar_rule g_api_Block i_api_Block (by rw [bc_len]) hc
    · rintro u rfl; rw [hq]; exact loadVar_rule g_api_Block i_api_Block (by rw [bc_len]) hd
    · intro ht
      exact h' (fun q => hr.1 ht (by simp only [q])) _ hg1
    · intro hf
      have hpq : ps[j] = qs[j] := by
        by_cases e : ps[j] = qs[j]
        · exact e
        · have : r = true := hr.2 (fun q => e (bc_inj q))
          rw [this] at hf; cases hf
      rw [w64 (by omega) (by omega)]
      exact ⟨⟨hg1, j + 1, by omega, by omega, by rw [List.take_succ_eq_append_getElem hja, List.take_succ_eq_append_getElem hjb, hall, hpq]⟩, by dsimp only; omega⟩
  · have hjn : j = a.n := by omega
    rw [List.take_of_length_le (by omega), List.take_of_length_le (by omega)] at hall
    exact h hall w0 hg
theorem IsW.nobytes {w : World} {pw : Nat} {D : Nat → Prop} {st : Wst} (h : IsW w pw D st) : NoBytes w D := by
  obtain ⟨mb, md, ws, cs, h⟩ := h
  exact h.nb
theorem size_s_f : (1 : Nat) ≤ s_f.size ∧ s_f.size ≤ 32 := by decide
def bk7 : Bk := ⟨[0, 0, 0, 0, 0, 0, 0, 0, 0, 0, 0, 0, 0, 0, 0, 0], 0, 7, 0, rfl, by decide, by decide, by decide⟩
theorem awake04_spec {w : World} {R : Bool → World → Prop} (h : ∀ w', Grow w w' → R true w') : Cpalletlaw04_awake w R := by
  refine Fpalletlaw04_awake.calls _ _ ?_
  refine world_new_spec fun pw D w1 hg1 hw1 hD1 => ?_
  refine open_spec (blocks := 4) size_s_f (by decide) fun ps w2 hps hg2 hS2 => br_f rfl ?_
  have hw2 := hw1.grow hg2
  have hpsD : ¬ D ps := fun q => by have := hw1.lt q; omega
  refine ⟨(bc bk7).toArray, by kernel_rfl, ?_⟩
  refine lit_rule (cells := (bc bk7).toArray) (e := t_api_Block) (z := 19) (base := w2.heap.size) (lit_block _ _) (by simp [bc_len]) (by decide) (Nat.le_refl _) fun w3 hlit3 hg3 _ => ?_
  have hw3 := hw2.grow hg3
  have hS3 : IsS w3 ps pw s_f 4 true := hg3.heap hS2 (fun q => q)
  have hg13 := (hg1.trans hg2).trans hg3
  have hLit : Rd w3 19 ⟨some ⟨w2.heap.size, 0, none⟩, 1, 1⟩ ([bk7].flatMap bc) := by
    have := hlit3.rd (by show 1 ≤ _; decide)
    simpa using this
  refine store_write_spec (lba := 1) (bs := [bk7]) hS3 hpsD hw3 size_s_f (by decide) (by decide) (fun u hk => hLit.keep hk fun a ha _ q => by
      have := hw2.lt q
      have ha : some (⟨w2.heap.size, 0, none⟩ : Addr) = some a := ha
      injection ha with ha
      subst ha
      exact absurd this (by simp)) (by show (0 : Nat) < _; decide) (by show (0 : Nat) < _; decide) (fun q => absurd q (by decide)) fun _ u D' hk hw' hD' hS' => ?_
  rw [if_neg (by simp)]
  have hpsD' : ¬ D' ps := fun q => by
    rcases hD' ps q with r | r
    · exact hpsD r
    · have := lt_of_heap hS3; omega
  refine store_read_spec (lba := 1) (n := 1) hS' hpsD' hw' size_s_f (by decide) (by decide) (by rw [(layW_ops _ _ _ _ _).1]; decide) fun out u2 hk2 hw2' hown hn => ?_
  have hgA : Grow w u := hg13.keep hk fun i hi q => by have := hD1 i q; omega
  have hgB : Grow w u2 := hgA.keep hk2 fun i hi q => by
    have := hgA.size
    have := hg13.size
    rcases hD' i q with r | r
    · have := hD1 i r; omega
    · omega
  have hrd : rdBl (layW ⟨fun _ => none, fun _ => none, [], 0⟩ s_f 1 (rsOf [bk7]) [bk7].length) s_f 1 1 = [bk7] := by
    have := (layW_file (st := ⟨fun _ => none, fun _ => none, [], 0⟩) (file := s_f) (lba := 1) (bs := [bk7]) good_nil 1 (Nat.le_refl _)).2 1
    unfold rdBl
    simp only [List.range_one, List.map_cons, List.map_nil, Nat.add_zero]
    rw [show ([bk7] : List Bk).length = 1 from rfl]
    have e : blkAt (cont (layW ⟨fun _ => none, fun _ => none, [], 0⟩ s_f 1 (rsOf [bk7]) 1) s_f) 1 = bk7 := by rw [this]; rfl
    unfold cont at e
    rw [e]
  rw [hrd] at hown
  have hro := hown.rd (by omega)
  obtain ⟨a, ha, hc⟩ := rd_bk_at (bs := [bk7]) hro (i := 0) (by decide)
  have hc17 := hc 17 (.int .u16 7) (by rfl)
  have hown1 : (out.n : Int) = 1 := by omega
  refine ⟨fun _ => ⟨by omega, by omega, by rw [ha]; rfl⟩, 7, fun _ => ?_, ?_⟩
  · rw [ha, addr_add]
    exact hc17
  · rw [hown1]
    exact h u2 hgB
end Go.Proofs.Ytiokflecflbopaa
