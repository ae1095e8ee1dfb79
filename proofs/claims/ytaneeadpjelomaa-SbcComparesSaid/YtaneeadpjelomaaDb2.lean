/- Layer 14: blocks are written; blocks that came. -/
import Derived.Test.YtaneeadpjelomaaDb1
import Derived.Test.YtaneeadpjelomaaSt9
namespace Go.Proofs.Ytaneeadpjelomaa
open Go CF

theorem keepD_new {w y z : World} {D : Nat → Prop} {ab : Nat} (hk : Keep D w y) (ha : w.heap.size ≤ ab) (hz : Keep (fun k => k = ab) y z) : Keep D w z :=
  ⟨hz.os.trans hk.os, hz.tape.trans hk.tape, hz.output.trans hk.output, Nat.le_trans hk.size hz.size, fun k hk' hn => by rw [hz.block k (by have := hk.size; omega) (by omega), hk.block k hk' hn]⟩
theorem isW_new {y z : World} {pw : Nat} {D : Nat → Prop} {st : Wst} {ab : Nat} {cs : Array Value} {t : TypeId} (hw : IsW y pw D st) (hb : Blk y ab cs t) (ht : t ≠ t_uint8) (hn : ¬ D ab) (hz : Keep (fun k => k = ab) y z) : IsW z pw D st :=
  hw.keep hz (fun k hk q => hn (q ▸ hk)) fun g cur hg q => by subst q; exact ht (blk_type hb hg)
theorem tne_result : t_api_Result ≠ t_uint8 := by decide
section
variable {w u : World} {dv ps pw : Nat} {file : ByteArray} {kind n : Nat} {cache : Bool} {D D' : Nat → Prop} {st st' : Wst} {bs bs' : List Bk} {m m' : Nat}
theorem dev_write_spec {lba : Nat} {ls : Sl} {L : List Bk} {fua : Bool} {R : Array Value → World → Prop} (h : Dv w dv ps pw file kind n cache D st bs m) (hm : m ≤ 1000000) (hc : lba + L.length ≤ n) (hL : ∀ v, Keep D w v → Rd v 19 ls (L.flatMap bc))
    (hR : ∀ u D' , Keep D w u → Dv u dv ps pw file kind n cache D' (syncIf (syncs L.length fua cache) (layW st file lba (rsOf L) L.length)) (setAll bs lba L L.length) (m + L.length + 1) → (∀ k, D' k → D k ∨ w.heap.size ≤ k) → R (rsv 0 sn0 nilS).toArray u) :
    Csbc_Dev_write (some ⟨dv, 0, none⟩) (lba : Int) ls fua w R := by
  refine Fsbc_Dev_write.calls _ _ _ _ _ _ ?_
  have hsz := h.size
  have hlen := h.len
  have hfew := h.few
  refine new_rule fun ab w1 hab hb1 hg1 hsz1 => ⟨rfl, some ⟨ps, 0, none⟩, dev0 (h.grow hg1).dev, ?_⟩
  have h1 := h.grow hg1
  rw [w64 (n := (lba : Int)) (by omega) (by omega)]
  have nab : ¬ D ab := fun q => by have := h.isW.lt q; omega
  refine store_write2_spec h1.isS h1.nps h1.isW h1.ok h.nm hsz.2 hc (fun v hk => hL v ((hg1.mono fun _ _ q => q.elim).trans hk fun _ _ q => q)) (by omega) (by omega) fun w2 D2 hk2 hw2 hD2 hS2 => br_f rfl ?_
  refine good_spec fun w3 hg3 => ?_
  have s1 := hg1.size
  have s2 := hk2.size
  have nab2 : ¬ D2 ab := fun q => by
    rcases hD2 _ q with r | r
    · exact nab r
    · omega
  have hb3 : Blk w3 ab _ t_api_Result := hg3.heap (hk2.heap hb1 nab) (fun q => q)
  refine ret_rule (st := 0) (s := sn0) (d := nilS) hb3 rfl fun w4 hk4 => ?_
  have hkD : Keep D w w4 := keepD_new (((hg1.mono fun _ _ q => q.elim).trans hk2 fun _ _ q => q).grow hg3) (by omega) hk4
  have hDD : ∀ k, D2 k → D k ∨ w.heap.size ≤ k := fun k q => by
    rcases hD2 k q with r | r
    · exact .inl r
    · exact .inr (by omega)
  obtain ⟨lo, lw⟩ := layW_ops st file lba (rsOf L) L.length
  have so := syncIf_ops (syncs L.length fua cache) (layW st file lba (rsOf L) L.length)
  have sw : (syncIf (syncs L.length fua cache) (layW st file lba (rsOf L) L.length)).waits.length ≤ st.waits.length + L.length := by
    rw [syncIf_waits]
    split
    · exact Nat.zero_le _
    · omega
  refine hR w4 D2 hkD (h.step hkD (isW_new (hw2.grow hg3) hb3 tne_result nab2 hk4) hDD (syncIf_ok (layW_ok h.ok (rsOf_len L) L.length (by omega))) (tells_write h.tells (by omega)) (by rw [setAll_len]; exact hlen) (by omega)) hDD
end
/-! ### a row of blocks changed in place -/
theorem own_storeAt {P : Program} {w : World} {base : Nat} {e ty : TypeId} {z o : Nat} {zv : Option Value} {q bytes : Nat} {s : Sl} {vs : List Value} {cells : Array Value} (hs : Own w base e z s vs) (hinfo : (P.info? ty).map (fun i => (i.zero, i.size, i.bytes)) = some (zv, q, bytes)) (hq : q = cells.size)
    (ho : o + cells.size ≤ vs.length) (hpos : 0 < cells.size) (h1 : ∀ v ∈ cells.toList, v.oneCell' = true) {K : World → Prop}
    (h : ∀ w1, Own w1 base e z s (vs.take o ++ cells.toList ++ vs.drop (o + cells.size)) → Keep (fun k => some k = s.blk) w w1 → w1.heap.size = w.heap.size → K w1) : RunU P (storeVar ty ((gA s.A).add o) (.agg cells)) w K := by
  obtain ⟨hlen, hown⟩ := hs
  rcases hown with ⟨h2, hn0⟩ | ⟨g, cap, cur, hv', hbg, hg, hnc, hcm, hcs, htake⟩
  · rw [hn0, Nat.zero_mul] at hlen; omega
  · injection hv' with hA hN hC
    have hle : s.n * z ≤ cur.size := by rw [hcs]; exact Nat.mul_le_mul_right _ hnc
    rw [hA, gA, add0, Nat.zero_add]
    refine storeAt_rule hg hinfo hq (by omega) h1 fun w1 hb1 hk1 hsz1 => ?_
    refine h w1 ⟨by simp only [List.length_append, List.length_take, List.length_drop, Array.length_toList]; omega, .inr ⟨g, cap, _, by rw [hA, hC], hbg, hb1, hnc, hcm, ?_, ?_⟩⟩ (hk1.mono fun k _ q => by simp [Sl.blk, hA, q]) hsz1
    · simp only [List.size_toArray, List.length_append, List.length_take, List.length_drop, Array.length_toList]; omega
    · have hF : cur.toList.take (s.n * z) = vs := htake
      have hl : vs.length = s.n * z := hlen
      rw [← hF]
      apply List.ext_getElem?
      intro j
      simp only [List.getElem?_take, List.getElem?_append, List.length_append, List.length_take, Array.length_toList, List.getElem?_drop]
      have e1 : min o cur.size = o := by omega
      have e2 : min o (min (s.n * z) cur.size) = o := by omega
      simp only [e1, e2]
      by_cases q1 : j < o
      · have q2 : j < o + cells.size := by omega
        have q3 : j < s.n * z := by omega
        simp only [if_pos q1, if_pos q2, if_pos q3]
      · by_cases q2 : j < o + cells.size
        · have q3 : j < s.n * z := by omega
          simp only [if_neg q1, if_pos q2, if_pos q3]
        · by_cases q3 : j < s.n * z
          · have q4 : o + cells.size + (j - (o + cells.size)) < s.n * z := by omega
            simp only [if_neg q2, if_pos q3, if_pos q4]
          · have q4 : ¬ o + cells.size + (j - (o + cells.size)) < s.n * z := by omega
            simp only [if_neg q2, if_neg q3, if_neg q4]
theorem flat_bc_len (l : List Bk) : (l.flatMap bc).length = l.length * 19 := flat_length bc_len l
theorem flat_set {l : List Bk} {j : Nat} {b : Bk} (hj : j < l.length) (hd : b.d = l[j].d) : (l.flatMap bc).take (j * 19 + 16) ++ tc b.g b.a b.r ++ (l.flatMap bc).drop (j * 19 + 16 + 3) = (l.set j b).flatMap bc := by
  have e : l = l.take j ++ l[j] :: l.drop (j + 1) := by rw [List.getElem_cons_drop, List.take_append_drop]
  have hA : ((l.take j).flatMap bc).length = j * 19 := by rw [flat_bc_len, List.length_take, Nat.min_eq_left (by omega)]
  have hl : l.flatMap bc = (l.take j).flatMap bc ++ (bc l[j] ++ (l.drop (j + 1)).flatMap bc) := by
    conv => lhs; rw [e]
    rw [List.flatMap_append, List.flatMap_cons]
  have hs : (l.set j b).flatMap bc = (l.take j).flatMap bc ++ (bc b ++ (l.drop (j + 1)).flatMap bc) := by
    rw [List.set_eq_take_append_cons_drop, if_pos hj, List.flatMap_append, List.flatMap_cons]
  have hb : bc b = bv l[j].d ++ tc b.g b.a b.r := by unfold bc tc; rw [hd]
  have t1 : ((l.take j).flatMap bc ++ (bc l[j] ++ (l.drop (j + 1)).flatMap bc)).take (j * 19 + 16) = (l.take j).flatMap bc ++ bv l[j].d := by
    rw [← hA, List.take_length_add_append, List.take_append_of_le_length (by rw [bc_len]; omega), bc_head]
  have t2 : ((l.take j).flatMap bc ++ (bc l[j] ++ (l.drop (j + 1)).flatMap bc)).drop (j * 19 + 16 + 3) = (l.drop (j + 1)).flatMap bc := by
    rw [Nat.add_assoc, ← hA, List.drop_length_add_append]
    have : 16 + 3 = (bc l[j]).length := by rw [bc_len]
    rw [this, List.drop_left]
  rw [hl, hs, t1, t2, hb]
  simp
end Go.Proofs.Ytaneeadpjelomaa
