/- Layer 4: the store's calls. -/
import Derived.Test.YtaneeadpjelomaaSt3
namespace Go.Proofs.Ytaneeadpjelomaa
open Go CF

def scells (pw : Nat) (file : ByteArray) (blocks : Nat) (cache : Bool) : Array Value := #[.pointer (some ⟨pw, 0, none⟩), .string file, .int .i64 (blocks : Int), .bool cache]
abbrev IsS (w : World) (ps pw : Nat) (file : ByteArray) (blocks : Nat) (cache : Bool) : Prop := Blk w ps (scells pw file blocks cache) t_store_Store
theorem open_spec {w : World} {pw : Nat} {file : ByteArray} {blocks : Nat} {cache : Bool} {R : Option Addr → Int → World → Prop} (hs : 1 ≤ file.size ∧ file.size ≤ 32) (hb : 1 ≤ blocks ∧ blocks ≤ 4096)
    (h : ∀ ps w', ps = w.heap.size → Grow w w' → IsS w' ps pw file blocks cache → R (some ⟨ps, 0, none⟩) 0 w') : Cstore_Open (some ⟨pw, 0, none⟩) file (blocks : Int) cache w R := by
  refine Fstore_Open.calls _ _ _ _ _ _ ?_
  refine br_f (by rw [Bool.or_eq_false_iff, Bool.or_eq_false_iff, Bool.or_eq_false_iff, decide_eq_false_iff_not, decide_eq_false_iff_not, decide_eq_false_iff_not, decide_eq_false_iff_not]; omega) (br_f rfl ?_)
  exact new_rule fun ps w1 hps hb1 hg1 _ => h ps w1 hps hg1 hb1
theorem check_spec {w : World} {ps pw : Nat} {file : ByteArray} {blocks : Nat} {cache : Bool} {lba n : Nat} {R : Int → World → Prop} (hs : IsS w ps pw file blocks cache) (hb : blocks ≤ 4096) (hl : lba ≤ 1000000000)
    (h : R (if lba + n ≤ blocks then 0 else 4) w) : Cstore_Store_check (some ⟨ps, 0, none⟩) (lba : Int) (n : Int) w R := by
  refine Fstore_Store_check.calls _ _ _ _ _ ?_
  have c2 : w.cell? ((gA (some ⟨ps, 0, none⟩)).add 2) = some (.int .i64 (blocks : Int)) := by rw [gA, add0, hs.cell]; rfl
  refine br_f rfl ⟨fun _ => rfl, (blocks : Int), fun _ => c2, fun _ => rfl, (blocks : Int), fun _ => c2, ?_⟩
  have e : IntKind.wrap .i64 ((blocks : Int) - (lba : Int)) = (blocks : Int) - (lba : Int) := w64 (by omega) (by omega)
  by_cases q : lba + n ≤ blocks
  · rw [if_pos q] at h
    refine br_f ?_ h
    rw [Bool.or_eq_false_iff, Bool.or_eq_false_iff, Bool.or_eq_false_iff, decide_eq_false_iff_not, decide_eq_false_iff_not, decide_eq_false_iff_not, decide_eq_false_iff_not, e]
    omega
  · rw [if_neg q] at h
    refine br_t ?_ h
    rw [Bool.or_eq_true, Bool.or_eq_true, Bool.or_eq_true, decide_eq_true_eq, decide_eq_true_eq, decide_eq_true_eq, decide_eq_true_eq, e]
    omega
def stepW (st : Wst) (file : ByteArray) (o : Nat) (r : L8) : Wst := ⟨applyWr st.seen file o r, st.dur, st.waits ++ [⟨119, file, ⟨#[]⟩, o, r⟩], st.ops + 1⟩
def layW (st : Wst) (file : ByteArray) (lba : Nat) (rs : Nat → L8) : Nat → Wst
  | 0 => st
  | k + 1 => stepW (layW st file lba rs k) file (25 * (lba + k)) (rs k)
theorem layW_ops (st : Wst) (file : ByteArray) (lba : Nat) (rs : Nat → L8) : ∀ k, (layW st file lba rs k).ops = st.ops + k ∧ (layW st file lba rs k).waits.length = st.waits.length + k
  | 0 => ⟨rfl, rfl⟩
  | k + 1 => by
    obtain ⟨h1, h2⟩ := layW_ops st file lba rs k
    simp only [layW, stepW, List.length_append, List.length_singleton, h1, h2]
    omega
theorem lay_spec {w : World} {ps pw : Nat} {D : Nat → Prop} {st : Wst} {file : ByteArray} {blocks : Nat} {cache fua : Bool} {lba n : Nat} {one : Value} {rs : Nat → L8} {R : Int → Int → World → Prop}
    (hS : IsS w ps pw file blocks cache) (hps : ¬ D ps) (hw : IsW w pw D st) (hs : 1 ≤ file.size ∧ file.size ≤ 32) (hb : lba + n ≤ 4096) (hlen : ∀ i, (rs i).length ≤ 25) (ho : st.ops < 100000000000) (hn : st.waits.length < 100000000)
    (hone : ∀ (x : Nat) (u : World) (K : Sl → World → Prop), x < n → Keep D w u → (∀ s u', Grow u u' → Own u' 0 t_uint8 1 s (bv (rs x)) → K s u') → CallV Try.prog cs one #[.int .i64 (x : Int)] u [.sl] K)
    (h : ∀ u D', Keep D w u → IsW u pw D' (layW st file lba rs n) → (∀ k, D' k → D k ∨ w.heap.size ≤ k) → IsS u ps pw file blocks cache →
      if 0 < n ∧ (fua = true ∨ cache = false) then Cworld_World_Sync (some ⟨pw, 0, none⟩) u (fun e v => R (n : Int) e v) else R (n : Int) 0 u) :
    Cstore_Store_lay (some ⟨ps, 0, none⟩) (lba : Int) (n : Int) one fua w R := by
  refine Fstore_Store_lay.calls _ _ _ _ _ _ _ ?_
  have hS' : ∀ {u : World}, Keep D w u → IsS u ps pw file blocks cache := fun k => k.heap hS hps
  refine ⟨fun x w' => ∃ k : Nat, x = k ∧ k ≤ n ∧ ∃ Dk, Keep D w w' ∧ IsW w' pw Dk (layW st file lba rs k) ∧ ∀ j, Dk j → D j ∨ w.heap.size ≤ j, fun x _ => n - x.toNat,
    ⟨0, rfl, Nat.zero_le _, D, Keep.mono (Keep.refl (fun _ => False) w) (fun _ _ q => q.elim), hw, fun _ q => .inl q⟩, ?_⟩
  rintro x w0 ⟨k, rfl, hk, Dk, hk0, hw0, hD0⟩
  refine br_nat (fun hlt => ?_) (fun hge => ?_)
  · rintro w1 rfl
    have hg1 : Grow w0 w0.drew := keep_drew w0
    have hk1 : Keep D w w0.drew := hk0.grow hg1
    refine ⟨fun u => IsS u ps pw file blocks cache, hS' hk1, rfl, some ⟨pw, 0, none⟩, fun u hu => by rw [gA, add0, Blk.cell hu]; rfl, rfl, file, fun u hu => by rw [gA, add0, Blk.cell hu]; rfl, ?_⟩
    refine hone k w0.drew _ hlt hk1 fun s w2 hg2 hown2 => ⟨hS' (hk1.grow hg2), ?_⟩
    have e : IntKind.wrap .i64 ((IntKind.wrap .i64 ((lba : Int) + (k : Int))) * 25) = ((25 * (lba + k) : Nat) : Int) := by
      rw [w64 (n := (lba : Int) + (k : Int)) (by omega) (by omega), w64 (by omega) (by omega)]; omega
    rw [e]
    obtain ⟨lo, lw⟩ := layW_ops st file lba rs k
    have hl25 := hlen k
    have hsn : s.n = (rs k).length := by have := hown2.len; rw [bv_length] at this; omega
    refine world_write_spec (bs := rs k) ((hw0.grow hg1).grow hg2) hs (hown2.rd (by omega)) (by omega) (by omega) (by omega) fun w3 D' hk3 hw3 hD3 => br_f rfl ?_
    rw [w64 (by omega) (by omega)]
    have hsz1 := hg1.size
    have hsz2 := hg2.size
    have hsz0 := hk0.size
    refine ⟨⟨k + 1, by omega, by omega, D', (hk1.grow hg2).trans hk3 fun i hi q => ?_, hw3, fun j hj => ?_⟩, by dsimp only; omega⟩
    · rcases hD0 i q with r | r
      · exact r
      · omega
    · rcases hD3 j hj with q | q
      · exact hD0 j q
      · exact .inr (by omega)
  · have hkn : k = n := by omega
    subst hkn
    have := h w0 Dk hk0 hw0 hD0 (hS' hk0)
    have hc : w0.cell? ((gA (some ⟨ps, 0, none⟩)).add 3) = some (.bool cache) := by rw [gA, add0, Blk.cell (hS' hk0)]; rfl
    refine ⟨fun _ => rfl, cache, fun _ => hc, ?_⟩
    by_cases q : 0 < k ∧ (fua = true ∨ cache = false)
    · rw [if_pos q] at this
      refine br_t ?_ ⟨rfl, some ⟨pw, 0, none⟩, by rw [gA, add0, Blk.cell (hS' hk0)]; rfl, this⟩
      rw [Bool.and_eq_true, decide_eq_true_eq, Bool.or_eq_true, Bool.not_eq_true']
      exact ⟨by omega, q.2⟩
    · rw [if_neg q] at this
      refine br_f ?_ this
      rw [Bool.and_eq_false_iff, decide_eq_false_iff_not, Bool.or_eq_false_iff, Bool.not_eq_false']
      by_cases q1 : 0 < k
      · right
        cases fua <;> cases cache <;> simp_all
      · left; omega
end Go.Proofs.Ytaneeadpjelomaa
