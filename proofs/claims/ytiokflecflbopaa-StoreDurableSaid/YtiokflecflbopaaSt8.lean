/- Layer 4: writing with what is made durable; the law of caches. -/
import Derived.Test.YtiokflecflbopaaSt7
import Derived.Test.YtiokflecflbopaaWo5
namespace Go.Proofs.Ytiokflecflbopaa
open Go CF

def synced (s : Wst) : Wst := ⟨s.seen, apAll s.dur s.waits, [], s.ops + 1⟩
def syncIf (y : Bool) (s : Wst) : Wst := if y then synced s else s
theorem syncIf_seen (y : Bool) (s : Wst) : (syncIf y s).seen = s.seen := by cases y <;> rfl
theorem syncIf_ops (y : Bool) (s : Wst) : (syncIf y s).ops ≤ s.ops + 1 := by
  cases y
  · exact Nat.le_succ _
  · exact Nat.le_refl _
theorem syncIf_waits (y : Bool) (s : Wst) : (syncIf y s).waits = if y then [] else s.waits := by cases y <;> rfl
theorem syncIf_ok {y : Bool} {s : Wst} (h : Wok s) : Wok (syncIf y s) := by
  cases y
  · exact h
  · exact fun c hc => by cases hc
theorem layW_ok {st : Wst} {file : ByteArray} {lba : Nat} {rs : Nat → L8} (h : Wok st) (hlen : ∀ i, (rs i).length ≤ 25) : ∀ k, lba + k ≤ 4096 → Wok (layW st file lba rs k)
  | 0, _ => h
  | k + 1, hb => by
    intro c hc
    have ih := layW_ok (lba := lba) (file := file) h hlen k (by omega)
    rcases List.mem_append.1 hc with q | q
    · exact ih c q
    · rw [List.mem_singleton.1 q]
      refine ⟨rfl, ?_⟩
      have := hlen k
      show 25 * (lba + k) + (rs k).length ≤ _
      omega
/-- does a write end with a sync? -/
def syncs (n : Nat) (fua cache : Bool) : Bool := decide (0 < n) && (fua || !cache)
theorem store_write2_spec {w : World} {ps pw : Nat} {D : Nat → Prop} {st : Wst} {file : ByteArray} {blocks : Nat} {cache fua : Bool} {lba : Nat} {L : Sl} {bs : List Bk} {R : Int → Int → World → Prop}
    (hS : IsS w ps pw file blocks cache) (hps : ¬ D ps) (hw : IsW w pw D st) (hok : Wok st) (hs : 1 ≤ file.size ∧ file.size ≤ 32) (hbk : blocks ≤ 4096) (hl : lba + bs.length ≤ blocks) (hL : ∀ u, Keep D w u → Rd u 19 L (bs.flatMap bc))
    (ho : st.ops < 10000000000) (hn : st.waits.length < 10000000)
    (h : ∀ u D', Keep D w u → IsW u pw D' (syncIf (syncs bs.length fua cache) (layW st file lba (rsOf bs) bs.length)) → (∀ k, D' k → D k ∨ w.heap.size ≤ k) → IsS u ps pw file blocks cache → R (bs.length : Int) 0 u) :
    Cstore_Store_Write (some ⟨ps, 0, none⟩) (lba : Int) L fua w R := by
  refine store_write_spec hS hps hw hs hbk (by omega) hL (by omega) (by omega) (fun q => absurd q (by omega)) fun _ u D' hk hw' hD' hS' => ?_
  obtain ⟨lo, lw⟩ := layW_ops st file lba (rsOf bs) bs.length
  by_cases q : 0 < bs.length ∧ (fua = true ∨ cache = false)
  · rw [if_pos q]
    have hy : syncs bs.length fua cache = true := by
      unfold syncs
      rw [Bool.and_eq_true, decide_eq_true_eq, Bool.or_eq_true, Bool.not_eq_true']
      exact q
    refine sync_spec hw' (layW_ok hok (rsOf_len bs) _ (by omega)) (by omega) (by omega) fun u2 D2 hk2 hw2 hD2 => ?_
    have s1 := hk.size
    have lt := lt_of_heap hS
    refine h u2 D2 (hk.trans hk2 fun i hi e => ?_) (by rw [hy]; exact hw2) (fun k hk' => ?_) (hk2.heap hS' fun e => ?_)
    · rcases hD' i e with r | r
      · exact r
      · omega
    · rcases hD2 k hk' with r | r
      · exact hD' k r
      · exact .inr (by omega)
    · rcases hD' _ e with r | r
      · exact hps r
      · omega
  · rw [if_neg q]
    have hy : syncs bs.length fua cache = false := by
      unfold syncs
      by_cases q1 : 0 < bs.length
      · rw [decide_eq_true q1, Bool.true_and]
        cases fua <;> cases cache <;> simp_all
      · rw [decide_eq_false q1, Bool.false_and]
    exact h u D' hk (by rw [hy]; exact hw') hD' hS'
theorem store_sync_spec {w : World} {ps pw : Nat} {D : Nat → Prop} {st : Wst} {file : ByteArray} {blocks : Nat} {cache : Bool} {R : Int → World → Prop} (hS : IsS w ps pw file blocks cache) (hps : ¬ D ps) (hw : IsW w pw D st) (hok : Wok st)
    (ho : st.ops < 10000000000) (hn : st.waits.length < 10000000)
    (h : ∀ u D', Keep D w u → IsW u pw D' (synced st) → (∀ k, D' k → D k ∨ w.heap.size ≤ k) → IsS u ps pw file blocks cache → R 0 u) : Cstore_Store_Sync (some ⟨ps, 0, none⟩) w R := by
  refine Fstore_Store_Sync.calls _ _ _ (br_f rfl ⟨rfl, some ⟨pw, 0, none⟩, by rw [gA, add0, Blk.cell hS]; rfl, ?_⟩)
  exact sync_spec hw hok (by omega) (by omega) fun u D' hk hw' hD' => h u D' hk hw' hD' (hk.heap hS hps)
theorem wok0 : Wok st0 := fun c hc => by cases hc
theorem storeCaches_spec {l : Sl} {bs : List Bk} {cache fua : Bool} {w : World} {R : Bool → World → Prop} (hl : Rd w 19 l (bs.flatMap bc)) (h : ∀ w', Grow w w' → R true w') : Cpalletlaw04_StoreCaches l cache fua w R := by
  refine Fpalletlaw04_StoreCaches.calls _ _ _ _ _ ?_
  refine awake04_spec fun w0 hg0 => br_f rfl ?_
  have hbl := rd_bk hl
  have hcap := hl.cap
  have hmn : mn (l.n : Int) 30 = ((min l.n 30 : Nat) : Int) := mn_nat l.n 30
  rw [hmn]
  generalize hN : min l.n 30 = N at *
  have hN30 : N ≤ 30 ∧ N ≤ l.n := by omega
  simp only [Int.toNat_natCast, Nat.sub_zero]
  refine world_new_spec fun pa D w1 hg1 hw1 hD1 => ?_
  refine open_spec (blocks := 32) size_s_f (by decide) fun ps w2 hps hg2 hS2 => br_f rfl ⟨⟨by omega, by omega, by omega, hcap⟩, ?_⟩
  have s0 := hg0.size
  have s1 := hg1.size
  have s2 := hg2.size
  have hw2 := hw1.grow hg2
  have hgw2 : Grow w w2 := (hg0.trans hg1).trans hg2
  have nD : ¬ D ps := fun q => by have := hw1.lt q; omega
  have lps := lt_of_heap hS2
  have bD : ∀ k, D k → w.heap.size ≤ k := fun k q => by have := hD1 k q; omega
  have lN : ((bs.drop 0).take (N - 0)).length = N := by rw [List.length_take, List.length_drop]; omega
  obtain ⟨lo, lw⟩ := layW_ops st0 s_f 0 (rsOf ((bs.drop 0).take (N - 0))) ((bs.drop 0).take (N - 0)).length
  refine store_write2_spec (lba := 0) (bs := (bs.drop 0).take (N - 0)) hS2 nD hw2 wok0 size_s_f (by decide) (by rw [lN]; omega) (fun u hk => rd_bk_cut (hl.grow (hgw2.keep hk fun i hi q => by have := bD i q; omega)) (Nat.zero_le _) (by omega)) (by show (0 : Nat) < _; decide) (by show (0 : Nat) < _; decide)
    fun w3 D3 hk3 hw3 hD3 hS3 => ?_
  rw [lN]
  have s3 := hk3.size
  have hgw3 : Grow w w3 := hgw2.keep hk3 fun i hi q => by have := bD i q; omega
  have nD3 : ¬ D3 ps := fun q => by rcases hD3 _ q with r | r; · exact nD r
                                    · omega
  have bD3 : ∀ k, D3 k → w.heap.size ≤ k := fun k q => by
    rcases hD3 k q with r | r
    · exact bD k r
    · omega
  have hww : (syncIf (syncs ((bs.drop 0).take (N - 0)).length fua cache) (layW st0 s_f 0 (rsOf ((bs.drop 0).take (N - 0))) ((bs.drop 0).take (N - 0)).length)).waits.length = if (cache && !fua) = true then N else 0 := by
    rw [syncIf_waits, lN, syncs]
    rw [lN] at lw
    have lw : (layW st0 s_f 0 (rsOf ((bs.drop 0).take (N - 0))) N).waits.length = 0 + N := lw
    generalize (layW st0 s_f 0 (rsOf ((bs.drop 0).take (N - 0))) N).waits = W at lw ⊢
    rw [Nat.zero_add] at lw
    rcases Nat.eq_zero_or_pos N with q | q
    · have hW : W = [] := List.eq_nil_of_length_eq_zero (by omega)
      subst hW
      rw [q]
      cases cache <;> cases fua <;> rfl
    · cases cache <;> cases fua <;> simp [lw, q]
  have hops := syncIf_ops (syncs ((bs.drop 0).take (N - 0)).length fua cache) (layW st0 s_f 0 (rsOf ((bs.drop 0).take (N - 0))) ((bs.drop 0).take (N - 0)).length)
  have lo : (layW st0 s_f 0 (rsOf ((bs.drop 0).take (N - 0))) ((bs.drop 0).take (N - 0)).length).ops = 0 + ((bs.drop 0).take (N - 0)).length := lo
  have hok3 : Wok (syncIf (syncs ((bs.drop 0).take (N - 0)).length fua cache) (layW st0 s_f 0 (rsOf ((bs.drop 0).take (N - 0))) ((bs.drop 0).take (N - 0)).length)) := syncIf_ok (layW_ok wok0 (rsOf_len _) _ (by rw [lN]; omega))
  generalize syncIf (syncs ((bs.drop 0).take (N - 0)).length fua cache) (layW st0 s_f 0 (rsOf ((bs.drop 0).take (N - 0))) ((bs.drop 0).take (N - 0)).length) = st3 at *
  refine ⟨fun q => ?_, fun q => ?_⟩
  all_goals
    refine ⟨fun _ => ?_, fun r => (by simp at r)⟩
    refine waits_spec hw3 ?_
    rw [hww]
    first | rw [if_pos q] | rw [if_neg (by rw [q]; decide)]
    refine br_f (by simp) ?_
    refine store_sync_spec hS3 nD3 hw3 hok3 (by omega) (by rw [hww]; split <;> omega) fun w4 D4 hk4 hw4 hD4 hS4 => ?_
    refine ⟨fun _ => waits_spec hw4 ?_, fun r => (by cases r)⟩
    exact h w4 (hgw3.keep hk4 fun i hi q => by have := bD3 i q; omega)
end Go.Proofs.Ytiokflecflbopaa
