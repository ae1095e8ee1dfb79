/- Rules: bytes copied into a row of one's own. -/
import Derived.Test.YtaneeadpjelomaaCfP
import Derived.Laws.CopyRow
import Derived.Laws.IdiomCopy
namespace Go.Proofs.Ytaneeadpjelomaa.CF
open Go Go.RowKit

theorem copy_rule {P : Program} {w : World} {base : Nat} {t ty e : TypeId} {zv : Option Value} {bytes : Nat} (ht : P.underlying t = some (.slice e)) (hinfo : (P.info? e).map (fun i => (i.zero, i.size, i.bytes)) = some (zv, 1, bytes))
    {f x : Sl} {F xs : List Value} {o : Nat} (hf : Own w base e 1 f F) (hx : Rd w 1 x xs) (h1 : ∀ u ∈ xs, u.oneCell' = true) (ho : o + x.n ≤ f.n)
    {K : Int → World → Prop} (h : ∀ w', Own w' base e 1 f (F.take o ++ xs ++ F.drop (o + x.n)) → Keep (fun k => some k = f.blk) w w' → w'.heap.size = w.heap.size → K (x.n : Int) w') :
    RunK P (.i .i64) (Builtin.copy_ #[t, t] ty #[.slice (cutA f.A f.c o 1) (f.n - o) (f.c - o), .slice x.A x.n x.c]) w K := by
  have hs : (P.info? e).map (·.size) = some 1 := by
    obtain ⟨i, hi, hzz⟩ := Option.map_eq_some_iff.1 hinfo
    simp only [Prod.mk.injEq] at hzz
    rw [hi, Option.map_some, hzz.2.1]
  have hFl : F.length = f.n := by have := hf.len; omega
  have hxl : xs.length = x.n := by have := hx.len; omega
  rcases Nat.eq_zero_or_pos x.n with h0 | hpos
  · have hx0 : xs = [] := List.eq_nil_of_length_eq_zero (by omega)
    refine ⟨(x.n : Int), w, ?_, h w ?_ (Keep.refl _ _) rfl⟩
    · rw [run_copy_none (P := P) w t t ty e _ _ _ _ _ _ ht hs (by rw [h0]; exact Nat.zero_min _), h0]; rfl
    · rw [hx0, h0, List.append_nil, Nat.add_zero, List.take_append_drop]; exact hf
  · obtain ⟨hlen, hown⟩ := hf
    rcases hown with ⟨h2, hn0⟩ | ⟨g, cap, cur, hv, hbg, hg, hnc, hcm, hcs, htake⟩
    · omega
    · injection hv with hA hN hC
      have hne : xs ≠ [] := fun e => by rw [e] at hxl; simp at hxl; omega
      obtain ⟨a, ha, hc⟩ := hx.at_ hne
      have hcA : cutA f.A f.c o 1 = some ⟨g, o, none⟩ := by
        unfold cutA
        rw [if_neg (by omega), hA]
        simp [Addr.add]
        omega
      have hcs' : cur.size = cap := by simpa using hcs
      have hmin : xs.length = Nat.min x.n (f.n - o) := by
        have : Nat.min x.n (f.n - o) = x.n := Nat.min_eq_left (by omega)
        omega
      have hr := run_copy_row (P := P) w t t ty e g o (f.n - o) (f.c - o) a x.n x.c cur e xs ht hs hg hmin hc (by omega) h1
      rw [hcA, ha]
      refine ⟨(x.n : Int), _, by rw [hr, hxl]; rfl, h _ ⟨?_, .inr ⟨g, cap, _, by rw [hA, hC], hbg, setRow_heap w g cur _ e _ hg, hnc, hcm, ?_, ?_⟩⟩ ⟨rfl, rfl, rfl, by simp, fun k _ hk => setRow_other w g k _ (fun e => hk (by simp [Sl.blk, hA, e]))⟩ (by simp)⟩
      · simp only [List.length_append, List.length_take, List.length_drop]
        omega
      · simp only [List.size_toArray, List.length_append, List.length_take, List.length_drop, Array.length_toList]
        omega
      · have hF : cur.toList.take (f.n * 1) = F := htake
        rw [Nat.mul_one] at hF ⊢
        rw [← hF]
        apply List.ext_getElem?
        intro j
        simp only [List.getElem?_take, List.getElem?_append, List.length_append, List.length_take, Array.length_toList, List.getElem?_drop, hxl]
        have e1 : min o cur.size = o := by omega
        have e2 : min o (min f.n cur.size) = o := by omega
        simp only [e1, e2]
        by_cases q1 : j < o
        · have q2 : j < o + x.n := by omega
          have q3 : j < f.n := by omega
          simp only [if_pos q1, if_pos q2, if_pos q3]
        · by_cases q2 : j < o + x.n
          · have q3 : j < f.n := by omega
            simp only [if_neg q1, if_pos q2, if_pos q3]
          · by_cases q3 : j < f.n
            · have q4 : o + x.n + (j - (o + x.n)) < f.n := by omega
              simp only [if_neg q2, if_pos q3, if_pos q4]
            · have q4 : ¬ o + x.n + (j - (o + x.n)) < f.n := by omega
              simp only [if_neg q2, if_neg q3, if_neg q4]
end Go.Proofs.Ytaneeadpjelomaa.CF
