import Derived.Test.YtaneeadpjelomaaSt7
import Derived.Test.YtaneeadpjelomaaWo5
/- Layer 4: writing with what is made durable; the law of caches. -/
namespace Go.Proofs.Ytaneeadpjelomaa
open Go CF

def synced (s : Wst) : Wst := ⟨s.seen, apAll s.dur s.waits, [], s.ops + 1⟩
def syncIf (y : Bool) (s : Wst) : Wst := if y then synced s else s
theorem syncIf_seen (y : Bool) (s : Wst) : (syncIf y s).seen = s.seen := by cases y <;> rfl
theorem syncIf_ops (y : Bool) (s : Wst) : (syncIf y s).ops ≤ s.ops + 1 := by
  cases y
  · exact Nat.le_succ _
  · exact Nat.le_refl _
theorem syncIf_waits (y : Bool) (s : Wst) : (syncIf y s).waits = if y then [] else s.waits := by cases y <;> rfl
theorem syncIf_ok {y : Bool} {s : Wst} (h : Wok s) : Wok (syncIf y s) := by
  cases y
  · exact h
  · exact fun c hc => by cases hc
theorem layW_ok {st : Wst} {file : ByteArray} {lba : Nat} {rs : Nat → L8} (h : Wok st) (hlen : ∀ i, (rs i).length ≤ 25) : ∀ k, lba + k ≤ 4096 → Wok (layW st file lba rs k)
  | 0, _ => h
  | k + 1, hb => by
    intro c hc
    have ih := layW_ok (lba := lba) (file := file) h hlen k (by omega)
    rcases List.mem_append.1 hc with q | q
    · exact ih c q
    · rw [List.mem_singleton.1 q]
      refine ⟨rfl, ?_⟩
      have := hlen k
      show 25 * (lba + k) + (rs k).length ≤ _
      omega
/-- does a write end with a sync? -/
def syncs (n : Nat) (fua cache : Bool) : Bool := decide (0 < n) && (fua || !cache)
theorem store_write2_spec {w : World} {ps pw : Nat} {D : Nat → Prop} {st : Wst} {file : ByteArray} {blocks : Nat} {cache fua : Bool} {lba : Nat} {L : Sl} {bs : List Bk} {R : Int → Int → World → Prop}
    (hS : IsS w ps pw file blocks cache) (hps : ¬ D ps) (hw : IsW w pw D st) (hok : Wok st) (hs : 1 ≤ file.size ∧ file.size ≤ 32) (hbk : blocks ≤ 4096) (hl : lba + bs.length ≤ blocks) (hL : ∀ u, Keep D w u → Rd u 19 L (bs.flatMap bc))
    (ho : st.ops < 10000000000) (hn : st.waits.length < 10000000)
    (h : ∀ u D', Keep D w u → IsW u pw D' (syncIf (syncs bs.length fua cache) (layW st file lba (rsOf bs) bs.length)) → (∀ k, D' k → D k ∨ w.heap.size ≤ k) → IsS u ps pw file blocks cache → R (bs.length : Int) 0 u) :
    Cstore_Store_Write (some ⟨ps, 0, none⟩) (lba : Int) L fua w R := by
  refine store_write_spec hS hps hw hs hbk (by omega) hL (by omega) (by omega) (fun q => absurd q (by omega)) fun _ u D' hk hw' hD' hS' => ?_
  obtain ⟨lo, lw⟩ := layW_ops st file lba (rsOf bs) bs.length
  by_cases q : 0 < bs.length ∧ (fua = true ∨ cache = false)
  · rw [if_pos q]
    have hy : syncs bs.length fua cache = true := by
      unfold syncs
      rw [Bool.and_eq_true, decide_eq_true_eq, Bool.or_eq_true, Bool.not_eq_true']
      exact q
    refine sync_spec hw' (layW_ok hok (rsOf_len bs) _ (by omega)) (by omega) (by omega) fun u2 D2 hk2 hw2 hD2 => ?_
    have s1 := hk.size
    have lt := lt_of_heap hS
    refine h u2 D2 (hk.trans hk2 fun i hi e => ?_) (by rw [hy]; exact hw2) (fun k hk' => ?_) (hk2.heap hS' fun e => ?_)
    · rcases hD' i e with r | r
      · exact r
      · omega
    · rcases hD2 k hk' with r | r
      · exact hD' k r
      · exact .inr (by omega)
    · rcases hD' _ e with r | r
      · exact hps r
      · omega
  · rw [if_neg q]
    have hy : syncs bs.length fua cache = false := by
      unfold syncs
      by_cases q1 : 0 < bs.length
      · rw [decide_eq_true q1, Bool.true_and]
        cases fua <;> cases cache <;> simp_all
      · rw [decide_eq_false q1, Bool.false_and]
    exact h u D' hk (by rw [hy]; exact hw') hD' hS'
theorem store_sync_spec {w : World} {ps pw : Nat} {D : Nat → Prop} {st : Wst} {file : ByteArray} {blocks : Nat} {cache : Bool} {R : Int → World → Prop} (hS : IsS w ps pw file blocks cache) (hps : ¬ D ps) (hw : IsW w pw D st) (hok : Wok st)
    (ho : st.ops < 10000000000) (hn : st.waits.length < 10000000)
    (h : ∀ u D', Keep D w u → IsW u pw D' (synced st) → (∀ k, D' k → D k ∨ w.heap.size ≤ k) → IsS u ps pw file blocks cache → R 0 u) : Cstore_Store_Sync (some ⟨ps, 0, none⟩) w R := by
  refine Fstore_Store_Sync.calls _ _ _ (br_f rfl ⟨rfl, some ⟨pw, 0, none⟩, by rw [gA, add0, Blk.cell hS]; rfl, ?_⟩)
  exact sync_spec hw hok (by omega) (by omega) fun u D' hk hw' hD' => h u D' hk hw' hD' (hk.heap hS hps)
theorem wok0 : Wok st0 := fun c hc => by cases hc
end Go.Proofs.Ytaneeadpjelomaa
