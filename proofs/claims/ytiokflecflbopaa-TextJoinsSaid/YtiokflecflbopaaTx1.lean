/- Layer 18: keys, values, cuts. -/
import Derived.Test.YtiokflecflbopaaCfM
import Derived.Test.YtiokflecflbopaaG1
import Derived.Test.YtiokflecflbopaaG2
import Derived.Test.YtiokflecflbopaaG3
import Derived.Test.YtiokflecflbopaaShelf
namespace Go.Proofs.Ytiokflecflbopaa
open Go CF

def kc (b : UInt8) : Bool := (65 ≤ b && b ≤ 90) || (97 ≤ b && b ≤ 122) || (48 ≤ b && b ≤ 57) || b == 46 || b == 45 || b == 43 || b == 95
def vcB (b : UInt8) : Bool := 32 ≤ b && b ≤ 126
def keyOk (s : L8) : Bool := s.all kc && decide (1 ≤ s.length) && decide (s.length ≤ 63)
def valOk (s : L8) : Bool := s.all vcB && decide (s.length ≤ 255)
theorem all_take_succ {p : UInt8 → Bool} {l : L8} {k : Nat} (h : k < l.length) : (l.take (k + 1)).all p = ((l.take k).all p && p l[k]) := by
  rw [List.take_succ_eq_append_getElem h]; simp only [List.all_append, List.all_cons, List.all_nil, Bool.and_true]
theorem not_all {p : UInt8 → Bool} {l : L8} {k : Nat} (h : k < l.length) (hp : p l[k] = false) : l.all p = false := by
  rw [List.all_eq_false]
  exact ⟨l[k], List.getElem_mem h, by simp [hp]⟩
theorem kc_iff (b : UInt8) : kc b = true ↔ (65 ≤ b.toNat ∧ b.toNat ≤ 90) ∨ (97 ≤ b.toNat ∧ b.toNat ≤ 122) ∨ (48 ≤ b.toNat ∧ b.toNat ≤ 57) ∨ b.toNat = 46 ∨ b.toNat = 45 ∨ b.toNat = 43 ∨ b.toNat = 95 := by
  unfold kc
  simp only [Bool.or_eq_true, Bool.and_eq_true, decide_eq_true_eq, beq_iff_eq, UInt8.le_iff_toNat_le, ← UInt8.toNat_inj]
  simp only [UInt8.reduceToNat, or_assoc]
theorem vc_iff (b : UInt8) : vcB b = true ↔ 32 ≤ b.toNat ∧ b.toNat ≤ 126 := by
  unfold vcB
  simp only [Bool.and_eq_true, decide_eq_true_eq, UInt8.le_iff_toNat_le, UInt8.reduceToNat]
theorem key_text_spec {s : ByteArray} {w : World} {R : Bool → World → Prop} (hs : s.size ≤ 9223372036854775807) (h : R (keyOk (ls s)) w) : Ctext_key s w R := by
  refine Ftext_key.calls _ _ _ ?_
  refine ⟨fun x w' => w' = w ∧ ∃ k : Nat, x = k ∧ k ≤ s.size ∧ ((ls s).take k).all kc = true, fun x _ => s.size - x.toNat, ⟨rfl, 0, rfl, by omega, rfl⟩, ?_⟩
  rintro x w0 ⟨rfl, k, rfl, hk, hall⟩
  refine br_nat (fun hlt => ⟨⟨by omega, by omega⟩, ?_⟩) (fun hge => ?_)
  · have hl : k < (ls s).length := by rw [length_ls]; exact hlt
    rw [bt_get s k hl]
    refine br_not ⟨fun ht => ?_, fun hf => ?_⟩
    · simp only [Bool.or_eq_true, Bool.and_eq_true, decide_eq_true_eq, beq_iff_eq] at ht
      have hb : kc (ls s)[k] = true := by rw [kc_iff]; omega
      rw [w64 (by omega) (by omega)]
      exact ⟨⟨rfl, k + 1, by omega, by omega, by rw [all_take_succ hl, hall, hb]; rfl⟩, by dsimp only; omega⟩
    · simp only [Bool.or_eq_false_iff, Bool.and_eq_false_iff, decide_eq_false_iff_not, beq_eq_false_iff_ne] at hf
      have hb : kc (ls s)[k] = false := by
        rw [Bool.eq_false_iff, Ne, kc_iff]; omega
      have : keyOk (ls s) = false := by unfold keyOk; rw [not_all hl hb]; rfl
      rwa [this] at h
  · have hks : k = s.size := by omega
    have hle := length_ls s
    rw [List.take_of_length_le (by omega)] at hall
    have : keyOk (ls s) = (decide ((s.size : Int) ≥ 1) && decide ((s.size : Int) ≤ 63)) := by
      unfold keyOk; rw [hall, hle, Bool.true_and]
      congr 1 <;> (rw [decide_eq_decide]; omega)
    rwa [this] at h
theorem val_text_spec {s : ByteArray} {w : World} {R : Bool → World → Prop} (hs : s.size ≤ 9223372036854775807) (h : R (valOk (ls s)) w) : Ctext_value s w R := by
  refine Ftext_value.calls _ _ _ ?_
  refine ⟨fun x w' => w' = w ∧ ∃ k : Nat, x = k ∧ k ≤ s.size ∧ ((ls s).take k).all vcB = true, fun x _ => s.size - x.toNat, ⟨rfl, 0, rfl, by omega, rfl⟩, ?_⟩
  rintro x w0 ⟨rfl, k, rfl, hk, hall⟩
  refine br_nat (fun hlt => ⟨⟨by omega, by omega⟩, fun _ => ⟨by omega, by omega⟩, ?_⟩) (fun hge => ?_)
  · have hl : k < (ls s).length := by rw [length_ls]; exact hlt
    rw [bt_get s k hl]
    refine ⟨fun ht => ?_, fun hf => ?_⟩
    · simp only [Bool.or_eq_true, decide_eq_true_eq] at ht
      have hb : vcB (ls s)[k] = false := by
        rw [Bool.eq_false_iff, Ne, vc_iff]; omega
      have : valOk (ls s) = false := by unfold valOk; rw [not_all hl hb]; rfl
      rwa [this] at h
    · simp only [Bool.or_eq_false_iff, decide_eq_false_iff_not] at hf
      have hb : vcB (ls s)[k] = true := by rw [vc_iff]; omega
      rw [w64 (by omega) (by omega)]
      exact ⟨⟨rfl, k + 1, by omega, by omega, by rw [all_take_succ hl, hall, hb]; rfl⟩, by dsimp only; omega⟩
  · have hle := length_ls s
    rw [List.take_of_length_le (by omega)] at hall
    have : valOk (ls s) = decide ((s.size : Int) ≤ 255) := by
      unfold valOk; rw [hall, hle, Bool.true_and]
      rw [decide_eq_decide]; omega
    rwa [this] at h
theorem key_ref_spec {s : ByteArray} {w : World} {R : Bool → World → Prop} (hs : s.size ≤ 9223372036854775807) (h : R (keyOk (ls s)) w) : Cpalletref18_key s w R := by
  refine Fpalletref18_key.calls _ _ _ ?_
  refine ⟨fun x w' => w' = w ∧ ∃ k : Nat, x = k ∧ k ≤ s.size ∧ ((ls s).take k).all kc = true, fun x _ => s.size - x.toNat, ⟨rfl, 0, rfl, by omega, rfl⟩, ?_⟩
  rintro x w0 ⟨rfl, k, rfl, hk, hall⟩
  refine br_nat (fun hlt => ⟨⟨by omega, by omega⟩, ?_⟩) (fun hge => ?_)
  · have hl : k < (ls s).length := by rw [length_ls]; exact hlt
    rw [bt_get s k hl]
    refine br_not ⟨fun ht => ?_, fun hf => ?_⟩
    · simp only [Bool.or_eq_true, Bool.and_eq_true, decide_eq_true_eq, beq_iff_eq] at ht
      have hb : kc (ls s)[k] = true := by rw [kc_iff]; omega
      rw [w64 (by omega) (by omega)]
      exact ⟨⟨rfl, k + 1, by omega, by omega, by rw [all_take_succ hl, hall, hb]; rfl⟩, by dsimp only; omega⟩
    · simp only [Bool.or_eq_false_iff, Bool.and_eq_false_iff, decide_eq_false_iff_not, beq_eq_false_iff_ne] at hf
      have hb : kc (ls s)[k] = false := by
        rw [Bool.eq_false_iff, Ne, kc_iff]; omega
      have : keyOk (ls s) = false := by unfold keyOk; rw [not_all hl hb]; rfl
      rwa [this] at h
  · have hle := length_ls s
    rw [List.take_of_length_le (by omega)] at hall
    have : keyOk (ls s) = (decide ((s.size : Int) > 0) && decide ((s.size : Int) < 64)) := by
      unfold keyOk; rw [hall, hle, Bool.true_and]
      congr 1 <;> (rw [decide_eq_decide]; omega)
    rwa [this] at h
theorem val_ref_spec {s : ByteArray} {w : World} {R : Bool → World → Prop} (hs : s.size ≤ 9223372036854775807) (h : R (valOk (ls s)) w) : Cpalletref18_value s w R := by
  refine Fpalletref18_value.calls _ _ _ ?_
  refine ⟨fun x w' => w' = w ∧ ∃ k : Nat, x = k ∧ k ≤ s.size ∧ ((ls s).take k).all vcB = true, fun x _ => s.size - x.toNat, ⟨rfl, 0, rfl, by omega, rfl⟩, ?_⟩
  rintro x w0 ⟨rfl, k, rfl, hk, hall⟩
  refine br_nat (fun hlt => ⟨⟨by omega, by omega⟩, fun _ => ⟨by omega, by omega⟩, ?_⟩) (fun hge => ?_)
  · have hl : k < (ls s).length := by rw [length_ls]; exact hlt
    rw [bt_get s k hl]
    refine ⟨fun ht => ?_, fun hf => ?_⟩
    · simp only [Bool.or_eq_true, decide_eq_true_eq] at ht
      have hb : vcB (ls s)[k] = false := by
        rw [Bool.eq_false_iff, Ne, vc_iff]; omega
      have : valOk (ls s) = false := by unfold valOk; rw [not_all hl hb]; rfl
      rwa [this] at h
    · simp only [Bool.or_eq_false_iff, decide_eq_false_iff_not] at hf
      have hb : vcB (ls s)[k] = true := by rw [vc_iff]; omega
      rw [w64 (by omega) (by omega)]
      exact ⟨⟨rfl, k + 1, by omega, by omega, by rw [all_take_succ hl, hall, hb]; rfl⟩, by dsimp only; omega⟩
  · have hle := length_ls s
    rw [List.take_of_length_le (by omega)] at hall
    have : valOk (ls s) = decide ((s.size : Int) < 256) := by
      unfold valOk; rw [hall, hle, Bool.true_and]
      rw [decide_eq_decide]; omega
    rwa [this] at h

/-- a text cut at a byte -/
def cutAt (c : UInt8) : L8 → Option (L8 × L8)
  | [] => none
  | b :: r => if b = c then some ([], r) else (cutAt c r).map fun p => (b :: p.1, p.2)
theorem cutAt_some {c : UInt8} : ∀ {l a b : L8}, cutAt c l = some (a, b) → l = a ++ c :: b ∧ c ∉ a ∧ Lib.indexByte l c = (a.length : Int)
  | x :: r, a, b, h => by
    simp only [cutAt] at h
    by_cases hx : x = c
    · rw [if_pos hx] at h
      obtain ⟨rfl, rfl⟩ := Prod.mk.inj (Option.some.inj h)
      subst hx
      exact ⟨rfl, by simp, by simp [Lib.indexByte]⟩
    · rw [if_neg hx] at h
      obtain ⟨⟨a', b'⟩, h1, h2⟩ := Option.map_eq_some_iff.1 h
      obtain ⟨rfl, rfl⟩ := Prod.mk.inj h2
      obtain ⟨h3, h4, h5⟩ := cutAt_some h1
      refine ⟨by rw [h3]; rfl, by simp [h4, Ne.symm hx], ?_⟩
      have hb : (x == c) = false := by simpa using hx
      simp only [Lib.indexByte, hb, h5]
      rw [if_neg (by simp), if_neg (by first | (simp; done) | (simp; omega))]
      simp only [List.length_cons]; omega
theorem cutAt_none {c : UInt8} : ∀ {l : L8}, cutAt c l = none → c ∉ l ∧ Lib.indexByte l c = -1
  | [], _ => ⟨by simp, rfl⟩
  | x :: r, h => by
    simp only [cutAt] at h
    by_cases hx : x = c
    · rw [if_pos hx] at h; cases h
    · rw [if_neg hx] at h
      obtain ⟨h1, h2⟩ := cutAt_none (Option.map_eq_none_iff.1 h)
      refine ⟨by simp [h1, Ne.symm hx], ?_⟩
      have hb : (x == c) = false := by simpa using hx
      simp only [Lib.indexByte, hb, h2]
      simp
theorem str_extract (l : L8) (i j : Nat) : (str l).extract i j = str ((l.take j).drop i) := by
  apply ls_inj
  rw [ls_str]
  show ((str l).extract i j).data.toList = _
  simp [str, ByteArray.data_extract, List.extract_eq_take_drop, List.drop_take]
theorem cut_spec {l : L8} {c : UInt8} {w : World} {R : ByteArray → ByteArray → Bool → World → Prop} (hl : l.length ≤ 9223372036854775806)
    (h1 : ∀ a b w', cutAt c l = some (a, b) → Grow w w' → R (str a) (str b) true w') (h2 : ∀ w', cutAt c l = none → Grow w w' → R (str l) (str []) false w') : Cstrings_Cut (str l) ⟨#[c]⟩ w R := by
  refine Fstrings_Cut.calls _ _ _ _ ?_
  show Cinternal_stringslite_Cut (str l) ⟨#[c]⟩ w fun s1 s2 b w0 => R s1 s2 b w0
  refine Finternal_stringslite_Cut.calls _ _ _ _ ?_
  unfold Finternal_stringslite_Cut Cinternal_stringslite_Index
  refine callK1 (k := .i .i64) (x := Lib.indexByte l c) (Q := fun w' => w' = w) (Try.stringslite_Index_one (str l) c w) ?_
  rintro w' rfl
  cases hc : cutAt c l with
  | none =>
    have := (cutAt_none hc).2
    rw [this]
    refine br_f (by decide) ?_
    exact h2 _ hc (Keep.refl _ _)
  | some p =>
    obtain ⟨a, b⟩ := p
    obtain ⟨e1, e2, e3⟩ := cutAt_some hc
    have hlen : l.length = a.length + (b.length + 1) := by rw [e1]; simp
    have hs1 : ((⟨#[c]⟩ : ByteArray).size : Int) = 1 := rfl
    rw [e3, hs1, w64 (by omega) (by omega), size_str]
    refine br_t (by simp) ?_
    rintro w1 rfl
    refine ⟨fun _ => True, trivial, ⟨by omega, by omega, by omega⟩, ⟨by omega, by omega, by omega⟩, ?_⟩
    have ea : (str l).extract 0 ((a.length : Nat) : Int).toNat = str a := by
      rw [str_extract, e1]; simp
    have eb : (str l).extract (((a.length : Nat) : Int) + 1).toNat ((l.length : Nat) : Int).toNat = str b := by
      rw [str_extract, show (((a.length : Nat) : Int) + 1).toNat = a.length + 1 by omega, Int.toNat_natCast, List.take_of_length_le (Nat.le_refl _), e1]
      simp
    rw [ea, eb]
    exact h1 _ _ _ hc (keep_drew _)
end Go.Proofs.Ytiokflecflbopaa
