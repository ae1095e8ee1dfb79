import Derived.Test.YtjfjanogfakclaaDoorRows
import Derived.Lib.LaidTab
import Derived.Test.YtjfjanogfakclaaDoorB4
/- text.Number and the reference's Number. -/
namespace Go.Proofs.YtjfjanogfakclaaDoor
open Go CF
def hexd (c : UInt8) : Nat := if 48 ≤ c.toNat ∧ c.toNat ≤ 57 then c.toNat - 48 else if 97 ≤ c.toNat ∧ c.toNat ≤ 102 then c.toNat - 87 else if 65 ≤ c.toNat ∧ c.toNat ≤ 70 then c.toNat - 55 else 99
def accR (b : Nat) : Nat → L8 → Option Nat
  | n, [] => some n
  | n, c :: r => if b ≤ hexd c ∨ 18446744073709551616 ≤ n * b + hexd c then none else accR b (n * b + hexd c) r
def numOf : L8 → Option Nat
  | [] => none
  | [c] => accR 10 0 [c]
  | c :: d :: r => if c = 48 then (if d = 120 then (if r = [] then none else accR 16 0 r) else none) else accR 10 0 (c :: d :: r)
def digOk (c : UInt8) : Bool := match dig36 c with | some d => if d < 16 then hexd c == d else decide (16 ≤ hexd c) | none => decide (16 ≤ hexd c)
theorem bt_str {r : L8} {i : Nat} (h : i < r.length) : bt (str r) (i : Int) = (r[i].toNat : Int) := by
  rw [bt_get _ _ (by rw [ls_str]; exact h)]
  simp only [ls_str]
theorem dig_hex (c : UInt8) : (∀ d, dig36 c = some d → d < 16 → hexd c = d) ∧ ((∀ d, dig36 c = some d → 16 ≤ d) → 16 ≤ hexd c) := by
  have h : ∀ i : Fin 256, digOk (UInt8.ofNat i.val) = true := by decide +kernel
  have := h ⟨c.toNat, c.toNat_lt⟩
  have e : UInt8.ofNat c.toNat = c := by simp
  simp only [e] at this
  unfold digOk at this
  cases hd : dig36 c with
  | none => rw [hd] at this; exact ⟨fun d q => (by cases q), fun _ => of_decide_eq_true this⟩
  | some d =>
    rw [hd] at this
    simp only [] at this
    refine ⟨fun d' q hl => ?_, fun q => ?_⟩
    · cases q; rw [if_pos hl] at this; exact eq_of_beq this
    · rw [if_neg (by have := q d rfl; omega)] at this; exact of_decide_eq_true this
theorem numAcc_accR {b : Nat} (hb : b = 10 ∨ b = 16) : ∀ (s : L8) (n : Nat), numAcc b n s = accR b n s
  | [], n => rfl
  | c :: r, n => by
    have hx := dig_hex c
    simp only [numAcc, accR]
    cases hd : dig36 c with
    | none =>
      have := hx.2 (fun d q => by rw [hd] at q; cases q)
      rw [if_pos (by left; omega)]
    | some d =>
      simp only []
      by_cases h16 : d < 16
      · have e := hx.1 d hd h16
        rw [e]
        by_cases h1 : b ≤ d
        · rw [if_pos h1, if_pos (.inl h1)]
        · rw [if_neg h1]
          by_cases h2 : 18446744073709551616 ≤ n * b + d
          · rw [if_pos h2, if_pos (.inr h2)]
          · rw [if_neg h2, if_neg (by omega)]; exact numAcc_accR hb r _
      · have := hx.2 (fun d' q => by rw [hd] at q; cases q; omega)
        rw [if_pos (by omega), if_pos (by left; omega)]
theorem accR_bad {b : Nat} {c : UInt8} (hc : b ≤ hexd c) : ∀ (s : L8) (n : Nat), c ∈ s → accR b n s = none
  | x :: r, n, h => by
    simp only [accR]
    rcases List.mem_cons.1 h with rfl | h
    · rw [if_pos (.inl hc)]
    · split
      · rfl
      · exact accR_bad hc r _ h
theorem numOf_dec {s : L8} (hne : s ≠ []) (h0 : ¬ (1 < s.length ∧ s.head? = some 48)) : numOf s = accR 10 0 s := by
  match s with
  | [] => exact absurd rfl hne
  | [c] => rfl
  | c :: d :: r => simp only [numOf]; rw [if_neg (fun q => h0 ⟨by simp, by rw [q]; rfl⟩)]

theorem numOf_48 (d : UInt8) (r : L8) : numOf (48 :: d :: r) = if d = 120 then (if r = [] then none else accR 16 0 r) else none := by
  show (if (48 : UInt8) = 48 then (if d = 120 then (if r = [] then none else accR 16 0 r) else none) else accR 10 0 (48 :: d :: r)) = _
  exact if_pos rfl
theorem numOf_bad {s : L8} (h : ¬ s.take 2 = [48, 120]) {c : UInt8} (hc : c ∈ s) (hx : 10 ≤ hexd c) : numOf s = none := by
  match s with
  | [] => rfl
  | [d] => exact accR_bad hx _ _ hc
  | d :: e :: r =>
    simp only [numOf]
    split
    · rename_i hd
      rw [if_neg (fun q => h (by rw [hd, q]; rfl))]
    · exact accR_bad hx _ _ hc
set_option maxHeartbeats 1000000 in
theorem number_spec {s : L8} {w : World} {R : Int → Bool → World → Prop} (hv : ErrV w) (hl : s.length ≤ 140737489403904)
    (hok : ∀ (n : Nat) w', numOf s = some n → Grow w w' → R (n : Int) true w') (herr : ∀ w', numOf s = none → Grow w w' → R 0 false w') : Ctext_Number (str s) w R := by
  refine Ftext_Number.calls _ _ _ ?_
  refine Fstrings_CutPrefix.calls _ _ _ _ ?_
  refine Finternal_stringslite_CutPrefix.calls _ _ _ _ ?_
  refine Finternal_stringslite_HasPrefix.calls _ _ _ _ ?_
  unfold Finternal_stringslite_HasPrefix
  have hp2 : (s_0x.size : Int) = 2 := rfl
  rw [hp2, size_str]
  refine ⟨fun q => ⟨by decide, by decide, by simpa using q⟩, ?_⟩
  have hpre : ((decide ((s.length : Int) ≥ 2)) && (sEq ((str s).extract 0 (2 : Int).toNat) s_0x)) = decide (s.take 2 = [48, 120]) := by
    have e : s_0x = str [48, 120] := rfl
    rw [e, show (2 : Int).toNat = 2 from rfl, str_extract, sEq_str, List.drop_zero]
    by_cases h : s.take 2 = [48, 120]
    · have := congrArg List.length h
      simp at this
      simp [h]; omega
    · simp [h]
  rw [hpre]
  refine br_not (br_dec (fun h2 => ?_) (fun h2 => ?_))
  · obtain ⟨r, rfl⟩ : ∃ r, s = 48 :: 120 :: r := ⟨s.drop 2, by have := (List.take_append_drop 2 s).symm; rwa [h2] at this⟩
    have hnum : numOf (48 :: 120 :: r) = if r = [] then none else accR 16 0 r := by simp [numOf]
    have hlr : r.length ≤ 140737489403904 := by simp at hl; omega
    have hx : (str (48 :: 120 :: r)).extract (2 : Int).toNat ((List.length (48 :: 120 :: r) : Nat) : Int).toNat = str r := by
      rw [str_extract, Int.toNat_natCast, List.take_length]; rfl
    refine ⟨⟨by decide, by simp; omega, by omega⟩, ?_⟩
    rw [hx]
    refine br_t rfl ?_
    rw [size_str]
    refine ⟨fun x w' => w' = w ∧ ∃ i : Nat, x = i ∧ i ≤ r.length, fun x _ => r.length - x.toNat, ⟨rfl, 0, rfl, Nat.zero_le _⟩, ?_⟩
    rintro x w1 ⟨rfl, i, rfl, hi⟩
    refine br_nat (fun hlt => ?_) (fun hge => ?_)
    · rw [bt_str hlt]
      refine ⟨⟨by omega, by omega⟩, fun _ => ⟨by omega, by omega⟩, fun _ => ⟨by omega, by omega⟩, ?_⟩
      by_cases hbad : r[i].toNat = 95 ∨ r[i].toNat = 43 ∨ r[i].toNat = 45
      · refine br_t (by simp; omega) ?_
        refine herr _ ?_ (Keep.refl _ _)
        rw [hnum, if_neg (by rintro rfl; simp at hlt)]
        refine accR_bad (c := r[i]) ?_ _ _ (List.getElem_mem hlt)
        unfold hexd
        rw [if_neg (by omega), if_neg (by omega), if_neg (by omega)]; decide
      · refine br_f (by simp; omega) ?_
        rw [w64 (by omega) (by omega)]
        exact ⟨⟨rfl, i + 1, by omega, hlt⟩, (by omega : r.length - ((i : Int) + 1).toNat < r.length - (i : Int).toNat)⟩
    · refine parsed_spec (b := 16) hv (.inr rfl) (by simp at hl; omega) (fun n w' h1 h3 g => hok n w' ?_ g) (fun w' h1 g => herr w' ?_ g)
      · rw [hnum, if_neg h1, ← numAcc_accR (.inr rfl)]; exact h3
      · rw [hnum]
        rcases h1 with h1 | h1
        · rw [if_pos h1]
        · split
          · rfl
          · rw [← numAcc_accR (.inr rfl)]; exact h1
  · refine br_f rfl ?_
    refine ⟨fun x w' => w' = w ∧ ∃ i : Nat, x = i ∧ i ≤ s.length, fun x _ => s.length - x.toNat, ⟨rfl, 0, rfl, Nat.zero_le _⟩, ?_⟩
    rintro x w1 ⟨rfl, i, rfl, hi⟩
    refine br_nat (fun hlt => ?_) (fun hge => ?_)
    · rw [bt_str hlt]
      refine ⟨⟨by omega, by omega⟩, fun _ => ⟨by omega, by omega⟩, ?_⟩
      by_cases hbad : s[i].toNat < 48 ∨ s[i].toNat > 57
      · refine br_t (by simp; omega) ?_
        refine herr _ ?_ (Keep.refl _ _)
        exact numOf_bad h2 (List.getElem_mem hlt) (by unfold hexd; rw [if_neg (by omega)]; split; omega; split <;> omega)
      · refine br_f (by simp; omega) ?_
        rw [w64 (by omega) (by omega)]
        exact ⟨⟨rfl, i + 1, by omega, hlt⟩, (by omega : s.length - ((i : Int) + 1).toNat < s.length - (i : Int).toNat)⟩
    · refine ⟨fun q => ⟨by omega, by have := of_decide_eq_true q; omega⟩, ?_⟩
      by_cases h0 : 1 < s.length ∧ s.head? = some 48
      · obtain ⟨c, d, r, rfl⟩ : ∃ c d r, s = c :: d :: r := by
          match s, h0.1 with
          | c :: d :: r, _ => exact ⟨c, d, r, rfl⟩
          | [c], q => simp at q
          | [], q => simp at q
        obtain rfl : c = 48 := by simpa using h0.2
        have hb : bt (str (48 :: d :: r)) 0 = 48 := by
          have := bt_str (r := 48 :: d :: r) (i := 0) (by simp)
          simpa using this
        rw [hb]
        refine br_t (by simp; omega) ?_
        refine herr _ ?_ (Keep.refl _ _)
        rw [numOf_48, if_neg (fun q => h2 (by rw [q]; rfl))]
      · refine br_f ?_ ?_
        · by_cases hl1 : 1 < s.length
          · obtain ⟨c, r, rfl⟩ : ∃ c r, s = c :: r := by
              match s, hl1 with
              | c :: r, _ => exact ⟨c, r, rfl⟩
              | [], q => simp at q
            have hb : bt (str (c :: r)) 0 = c.toNat := by
              have := bt_str (r := c :: r) (i := 0) (by simp)
              simpa using this
            rw [hb, Bool.and_eq_false_iff]
            right
            have hne : c ≠ 48 := fun q => h0 ⟨hl1, by rw [q]; rfl⟩
            have : c.toNat ≠ 48 := fun q => hne (UInt8.toNat_inj.1 (by rw [q]; rfl))
            simp; omega
          · rw [Bool.and_eq_false_iff]; left; exact decide_eq_false (by omega)
        · refine parsed_spec (b := 10) hv (.inl rfl) hl (fun n w' h1 h3 g => hok n w' ?_ g) (fun w' h1 g => herr w' ?_ g)
          · rw [numOf_dec h1 h0, ← numAcc_accR (.inl rfl)]; exact h3
          · rcases h1 with h1 | h1
            · rw [h1]; rfl
            · by_cases he : s = []
              · rw [he]; rfl
              · rw [numOf_dec he h0, ← numAcc_accR (.inl rfl)]; exact h1
end Go.Proofs.YtjfjanogfakclaaDoor

/- The reference's Number; what two sides come to. -/
namespace Go.Proofs.YtjfjanogfakclaaDoor
open Go CF
theorem wu64n {q : Nat} (h : q ≤ 18446744073709551615) : IntKind.wrap .u64 (q : Int) = q := wu64 (by omega) (by omega)
theorem u8sub {x k : Nat} (h : k ≤ x) (hx : x < 256) : IntKind.wrap .u8 ((x : Int) - (k : Int)) = ((x - k : Nat) : Int) := by rw [wu8 (by omega) (by omega)]; omega
theorem accR_lt {b : Nat} : ∀ {s : L8} {n m : Nat}, n < 18446744073709551616 → accR b n s = some m → m < 18446744073709551616
  | [], n, m, h, e => by cases e; exact h
  | c :: r, n, m, h, e => by
    simp only [accR] at e
    split at e
    · cases e
    · exact accR_lt (by omega) e
theorem numOf_lt {n : Nat} (s : L8) (h : numOf s = some n) : n < 18446744073709551616 := by
  match s with
  | [] => cases h
  | [c] => exact accR_lt (by decide) h
  | c :: d :: r =>
    unfold numOf at h
    simp only [] at h
    split at h
    · split at h
      · split at h
        · cases h
        · exact accR_lt (by decide) h
      · cases h
    · exact accR_lt (by decide) h
theorem accR_app (b : Nat) : ∀ (l r : L8) (n : Nat), accR b n (l ++ r) = (accR b n l).bind fun m => accR b m r
  | [], r, n => rfl
  | c :: l, r, n => by
    simp only [List.cons_append, accR]
    split
    · rfl
    · exact accR_app b l r _
theorem hexd_digit {d : Nat} (h : d < 10) : hexd (UInt8.ofNat (48 + d)) = d := by
  have e : (UInt8.ofNat (48 + d)).toNat = 48 + d := by rw [UInt8.toNat_ofNat']; omega
  unfold hexd
  rw [e, if_pos (by omega)]
  omega
theorem accR_dec (n : Nat) : n < 18446744073709551616 → accR 10 0 (dec n) = some n := by
  induction n using Nat.strongRecOn with
  | _ n ih =>
    intro hn
    by_cases h : n < 10
    · rw [dec_small h]
      simp only [accR]
      rw [hexd_digit h, if_neg (by omega)]
      simp
    · rw [dec_big h, accR_app, ih (n / 10) (by omega) (by omega)]
      show accR 10 (n / 10) [_] = _
      simp only [accR]
      rw [hexd_digit (by omega), if_neg (by omega)]
      congr 1
      omega
theorem dec_ne (n : Nat) : dec n ≠ [] := by
  by_cases h : n < 10
  · rw [dec_small h]; simp
  · rw [dec_big h]; simp
theorem dec_head (n : Nat) : 0 < n → (dec n).head? ≠ some 48 := by
  induction n using Nat.strongRecOn with
  | _ n ih =>
    intro hn
    by_cases h : n < 10
    · rw [dec_small h]
      intro q
      have q2 : UInt8.ofNat (48 + n) = 48 := by simpa using q
      have := congrArg UInt8.toNat q2
      rw [UInt8.toNat_ofNat'] at this
      have h48 : (48 : UInt8).toNat = 48 := rfl
      omega
    · rw [dec_big h]
      have h1 := ih (n / 10) (by omega) (by omega)
      cases hd : dec (n / 10) with
      | nil => exact absurd hd (dec_ne _)
      | cons c r => rw [hd] at h1; simpa using h1
theorem numOf_decN {n : Nat} (h : n < 18446744073709551616) : numOf (dec n) = some n := by
  rw [numOf_dec (dec_ne n) (fun q => ?_), accR_dec n h]
  by_cases h0 : 0 < n
  · exact dec_head n h0 q.2
  · have : n = 0 := by omega
    subst this
    rw [dec_small (by decide)] at q
    exact absurd q.1 (by simp)
set_option maxHeartbeats 1000000 in
theorem rnumber_spec {s : L8} {w : World} {R : Int → Bool → World → Prop} (hl : s.length ≤ 140737489403904)
    (hok : ∀ (n : Nat), numOf s = some n → R (n : Int) true w) (herr : numOf s = none → R 0 false w) : Cpalletref18_Number (str s) w R := by
  refine Fpalletref18_Number.calls _ _ _ ?_
  refine ⟨fun q => ⟨by decide, by have := of_decide_eq_true q; omega⟩, ?_⟩
  refine letX2 (I := fun s1 base u => w = u ∧ ∃ (r : L8) (b : Nat), s1 = str r ∧ base = b ∧ (b = 10 ∨ b = 16) ∧ r.length ≤ 140737489403904 ∧ numOf s = (if r = [] then none else accR b 0 r)) (fun s1 base u => ?_) (fun hj => ?_)
  · rintro ⟨rfl, r, b, rfl, rfl, hb, hlr, hnum⟩
    rw [size_str]
    by_cases hr : r = []
    · refine br_t (by rw [hr]; rfl) ?_
      rw [if_pos hr] at hnum
      exact herr hnum
    rw [if_neg hr] at hnum
    refine br_f (by have : r.length ≠ 0 := fun q => hr (List.length_eq_zero_iff.1 q); simp; exact hr) ?_
    refine ⟨fun n x w' => w' = w ∧ ∃ (i m : Nat), x = i ∧ n = m ∧ i ≤ r.length ∧ m < 18446744073709551616 ∧ numOf s = accR b m (r.drop i), fun _ x _ => r.length - x.toNat, ⟨rfl, 0, 0, rfl, rfl, Nat.zero_le _, by decide, by rw [hnum]; rfl⟩, ?_⟩
    rintro n x w1 ⟨rfl, i, m, rfl, rfl, hi, hm, hacc⟩
    refine br_nat (fun hlt => ?_) (fun hge => ?_)
    · have hcons : r.drop i = r[i] :: r.drop (i + 1) := List.drop_eq_getElem_cons hlt
      rw [hcons] at hacc
      simp only [accR] at hacc
      rw [bt_str hlt]
      refine letX1 (I := fun n u => w1 = u ∧ ∃ m' : Nat, n = m' ∧ m' < 18446744073709551616 ∧ numOf s = accR b m' (r.drop (i + 1))) (fun n u => ?_) (fun hj => ?_)
      · rintro ⟨rfl, m', rfl, hm', ha'⟩
        rw [w64 (by omega) (by omega)]
        exact ⟨⟨rfl, i + 1, m', by omega, rfl, hlt, hm', ha'⟩, (by omega : r.length - ((i : Int) + 1).toNat < r.length - (i : Int).toNat)⟩
      · refine ⟨⟨by omega, by omega⟩, ?_⟩
        have hc256 := r[i].toNat_lt
        refine letX1 (I := fun d u => w1 = u ∧ d = (hexd r[i] : Int)) (fun d u => ?_) (fun hj2 => ?_)
        · rintro ⟨rfl, rfl⟩
          have hh : hexd r[i] ≤ 99 := by unfold hexd; split; omega; split; omega; split <;> omega
          refine ⟨fun _ => by omega, ?_⟩
          have hq : IntKind.wrap .u64 ((IntKind.wrap .u64 (18446744073709551615 - (hexd r[i] : Int))).tdiv (b : Int)) = (((18446744073709551615 - hexd r[i]) / b : Nat) : Int) := by
            rw [wu64 (n := 18446744073709551615 - (hexd r[i] : Int)) (by omega) (by omega), show (18446744073709551615 - (hexd r[i] : Int)) = ((18446744073709551615 - hexd r[i] : Nat) : Int) by omega,
              show (((18446744073709551615 - hexd r[i] : Nat) : Int).tdiv (b : Int)) = (((18446744073709551615 - hexd r[i]) / b : Nat) : Int) from rfl]
            have := Nat.div_le_self (18446744073709551615 - hexd r[i]) b
            exact wu64n (Nat.le_trans this (Nat.sub_le _ _))
          rw [hq]
          have hiff : (18446744073709551615 - hexd r[i]) / b < m ↔ 18446744073709551616 ≤ m * b + hexd r[i] := by
            rcases hb with rfl | rfl <;> omega
          by_cases hbad : b ≤ hexd r[i] ∨ 18446744073709551616 ≤ m * b + hexd r[i]
          · rw [if_pos hbad] at hacc
            refine br_t ?_ (herr hacc)
            rw [Bool.or_eq_true]
            rcases hbad with h1 | h1
            · left; exact decide_eq_true (by omega)
            · right; have := hiff.2 h1; exact decide_eq_true (by omega)
          · rw [if_neg hbad] at hacc
            refine br_f ?_ ?_
            · rw [Bool.or_eq_false_iff]
              exact ⟨decide_eq_false (by omega), decide_eq_false (by intro q; exact hbad (.inr (hiff.1 (by omega))))⟩
            · have hlt2 : m * b + hexd r[i] < 18446744073709551616 := by omega
              have e1 : IntKind.wrap .u64 (IntKind.wrap .u64 ((m : Int) * (b : Int)) + (hexd r[i] : Int)) = ((m * b + hexd r[i] : Nat) : Int) := by
                rw [← Int.natCast_mul, wu64 (n := ((m * b : Nat) : Int)) (by omega) (by omega), wu64 (by omega) (by omega)]; omega
              rw [e1]
              exact hj _ _ ⟨rfl, _, rfl, hlt2, hacc⟩
        · by_cases c1 : 48 ≤ r[i].toNat ∧ r[i].toNat ≤ 57
          · refine br_t (by simp; omega) ?_
            rw [show IntKind.wrap .u8 ((r[i].toNat : Int) - 48) = ((r[i].toNat - 48 : Nat) : Int) from u8sub (k := 48) c1.1 hc256, wu64n (q := r[i].toNat - 48) (by omega)]
            exact hj2 _ _ ⟨rfl, by unfold hexd; rw [if_pos c1]⟩
          refine br_f (by simp; omega) ?_
          by_cases c2 : 97 ≤ r[i].toNat ∧ r[i].toNat ≤ 102
          · refine br_t (by simp; omega) ?_
            rw [show IntKind.wrap .u8 ((r[i].toNat : Int) - 97) = ((r[i].toNat - 97 : Nat) : Int) from u8sub (k := 97) c2.1 hc256, wu64n (q := r[i].toNat - 97) (by omega), wu64 (n := ((r[i].toNat - 97 : Nat) : Int) + 10) (by omega) (by omega)]
            exact hj2 _ _ ⟨rfl, by unfold hexd; rw [if_neg c1, if_pos c2]; omega⟩
          refine br_f (by simp; omega) ?_
          by_cases c3 : 65 ≤ r[i].toNat ∧ r[i].toNat ≤ 70
          · refine br_t (by simp; omega) ?_
            rw [show IntKind.wrap .u8 ((r[i].toNat : Int) - 65) = ((r[i].toNat - 65 : Nat) : Int) from u8sub (k := 65) c3.1 hc256, wu64n (q := r[i].toNat - 65) (by omega), wu64 (n := ((r[i].toNat - 65 : Nat) : Int) + 10) (by omega) (by omega)]
            exact hj2 _ _ ⟨rfl, by unfold hexd; rw [if_neg c1, if_neg c2, if_pos c3]; omega⟩
          refine br_f (by simp; omega) ?_
          exact hj2 _ _ ⟨rfl, by unfold hexd; rw [if_neg c1, if_neg c2, if_neg c3]; rfl⟩
    · rw [List.drop_eq_nil_of_le (by omega)] at hacc
      exact hok m hacc
  · rw [size_str]
    by_cases h0 : 1 < s.length ∧ s.head? = some 48
    · obtain ⟨c, d, r, rfl⟩ : ∃ c d r, s = c :: d :: r := by
        match s, h0.1 with
        | c :: d :: r, _ => exact ⟨c, d, r, rfl⟩
        | [c], q => simp at q
        | [], q => simp at q
      obtain rfl : c = 48 := by simpa using h0.2
      have hb : bt (str (48 :: d :: r)) 0 = 48 := by
        have := bt_str (r := 48 :: d :: r) (i := 0) (by simp)
        simpa using this
      have hb1 : bt (str (48 :: d :: r)) 1 = d.toNat := by
        have := bt_str (r := 48 :: d :: r) (i := 1) (by simp)
        simpa using this
      rw [hb, hb1]
      refine br_t (by simp; omega) ?_
      refine ⟨⟨by decide, by simp; omega⟩, ?_⟩
      refine br_ne (fun hne => ?_) (fun he => ?_)
      · refine herr ?_
        rw [numOf_48, if_neg (fun q => hne (by rw [q]; rfl))]
      · have hd : d = 120 := UInt8.toNat_inj.1 (by have : d.toNat = 120 := by omega
                                                   rw [this]; rfl)
        subst hd
        refine ⟨⟨by decide, by simp; omega, by omega⟩, hj _ _ _ ⟨rfl, r, 16, ?_, rfl, .inr rfl, by simp at hl; omega, ?_⟩⟩
        · rw [str_extract, Int.toNat_natCast, List.take_length]; rfl
        · rw [numOf_48, if_pos rfl]
    · refine br_f ?_ (hj _ _ _ ⟨rfl, s, 10, rfl, rfl, .inl rfl, hl, ?_⟩)
      · by_cases hl1 : 1 < s.length
        · obtain ⟨c, r, rfl⟩ : ∃ c r, s = c :: r := by
            match s, hl1 with
            | c :: r, _ => exact ⟨c, r, rfl⟩
            | [], q => simp at q
          have hb : bt (str (c :: r)) 0 = c.toNat := by
            have := bt_str (r := c :: r) (i := 0) (by simp)
            simpa using this
          rw [hb, Bool.and_eq_false_iff]
          right
          have hne : c ≠ 48 := fun q => h0 ⟨hl1, by rw [q]; rfl⟩
          have : c.toNat ≠ 48 := fun q => hne (UInt8.toNat_inj.1 (by rw [q]; rfl))
          simp; omega
        · rw [Bool.and_eq_false_iff]; left; exact decide_eq_false (by omega)
      · by_cases he : s = []
        · rw [if_pos he, he]; rfl
        · rw [if_neg he, numOf_dec he h0]
end Go.Proofs.YtjfjanogfakclaaDoor

/- Layer 18: lists of pairs. -/
namespace Go.Proofs.YtjfjanogfakclaaDoor
open Go CF

abbrev Pr := L8 × L8
def pc (p : Pr) : List Value := [.string (str p.1), .string (str p.2)]
def pvs (ps : List Pr) : List Value := ps.flatMap pc
theorem pc_len (p : Pr) : (pc p).length = 2 := rfl
theorem pvs_len (ps : List Pr) : (pvs ps).length = ps.length * 2 := flat_length pc_len ps
def find (ps : List Pr) (k : L8) : Option L8 := (ps.find? fun p => p.1 = k).map (·.2)
theorem rd_pairs {w : World} {s : Sl} {ps : List Pr} (h : Rd w 2 s (pvs ps)) : ps.length = s.n := by
  have := h.len; rw [pvs_len] at this; omega
/-- a pair of a list that is read -/
theorem rd_pair {w : World} {s : Sl} {ps : List Pr} (h : Rd w 2 s (pvs ps)) {i : Nat} (hi : i < ps.length) : ∃ a, s.A = some a ∧ Cells w (a.add (i * 2)) (pc ps[i]) := by
  obtain ⟨a, ha, hc⟩ := h.elem (i := i) (by rw [← rd_pairs h]; exact hi) (by decide)
  exact ⟨a, ha, by rw [pvs, flat_elem pc_len hi] at hc; exact hc⟩
theorem find_none_take {ps : List Pr} {k : L8} {j : Nat} (hj : j < ps.length) (h : ∀ p ∈ ps.take j, p.1 ≠ k) (he : ps[j].1 = k) : find ps k = some ps[j].2 := by
  unfold find
  have e : ps = ps.take j ++ ps[j] :: ps.drop (j + 1) := by rw [List.getElem_cons_drop, List.take_append_drop]
  have e2 : ps.find? (fun p => p.1 = k) = some ps[j] := by
    refine (congrArg (List.find? fun p : Pr => decide (p.1 = k)) e).trans ?_
    rw [List.find?_append, List.find?_eq_none.2 (fun p hp => by simpa using h p hp), Option.none_or, List.find?_cons_of_pos (by simpa using he)]
  rw [e2]; rfl
theorem find_none_all {ps : List Pr} {k : L8} (h : ∀ p ∈ ps, p.1 ≠ k) : find ps k = none := by
  unfold find
  rw [List.find?_eq_none.2 (fun p hp => by simpa using h p hp)]; rfl
theorem mem_take_succ {ps : List Pr} {j : Nat} (hj : j < ps.length) {P : Pr → Prop} (h : ∀ p ∈ ps.take j, P p) (he : P ps[j]) : ∀ p ∈ ps.take (j + 1), P p := by
  intro p hp
  rw [List.take_succ_eq_append_getElem hj, List.mem_append, List.mem_singleton] at hp
  rcases hp with hp | rfl
  · exact h p hp
  · exact he
theorem find_text_spec {l : Sl} {ps : List Pr} {k : L8} {w : World} {R : ByteArray → Bool → World → Prop} (hl : Rd w 2 l (pvs ps))
    (h : ∀ w', Grow w w' → R (str ((find ps k).getD [])) (find ps k).isSome w') : Ctext_Find l (str k) w R := by
  refine Ftext_Find.calls _ _ _ _ ?_
  have hn := rd_pairs hl
  have hb := hl.nb
  refine ⟨fun x w' => Grow w w' ∧ ∃ j : Nat, x = j ∧ j ≤ l.n ∧ ∀ p ∈ ps.take j, p.1 ≠ k, fun x _ => l.n - x.toNat, ⟨Keep.refl _ _, 0, rfl, by omega, by simp⟩, ?_⟩
  rintro x w0 ⟨hg, j, rfl, hj, hall⟩
  refine br_nat (fun hlt => ?_) (fun hge => ?_)
  · have hjl : j < ps.length := by omega
    obtain ⟨a, ha, hc⟩ := rd_pair (hl.grow hg) hjl
    refine ⟨⟨by omega, by omega, by rw [ha]; rfl⟩, (pc ps[j]).toArray, ?_, ?_⟩
    · rw [ha]; exact loadVar_rule g_api_Pair i_api_Pair rfl hc
    refine new_rule fun b w1 hb1 hblk hg1 hsz => ?_
    refine storeVar_rule (cells := (pc ps[j]).toArray) hblk i_api_Pair rfl rfl (by simp [pc, Value.oneCell']) fun w2 hblk2 hk2 hsz2 => ?_
    have g2 : Grow w w2 := hg.trans (hg1.keep hk2 (fun i hi e => by omega))
    refine ⟨str ps[j].1, by rw [add0, hblk2.cell]; rfl, ?_⟩
    rw [sEq_str]
    refine br_dec (fun he => ?_) (fun hne => ?_)
    · refine ⟨str ps[j].2, by rw [add0, hblk2.cell]; rfl, ?_⟩
      have := h w2 g2
      rwa [find_none_take hjl hall he] at this
    · rw [w64 (by omega) (by omega)]
      exact ⟨⟨g2, j + 1, by omega, by omega, mem_take_succ hjl hall hne⟩, by dsimp only; omega⟩
  · have hjn : j = l.n := by omega
    rw [List.take_of_length_le (by omega)] at hall
    have := h w0 hg
    rwa [find_none_all hall] at this
/-- a key stands twice -/
def dup : List Pr → Bool
  | [] => false
  | p :: r => (r.any fun q => q.1 = p.1) || dup r
theorem dup_iff (ps : List Pr) : dup ps = true ↔ ∃ i j : Nat, ∃ (_ : j < i) (hi : i < ps.length), (ps[i]).1 = (ps[j]'(by omega)).1 := by
  induction ps with
  | nil => simp [dup]
  | cons p r ih =>
    simp only [dup, Bool.or_eq_true, ih, List.any_eq_true, decide_eq_true_eq]
    constructor
    · rintro (⟨q, hq, e⟩ | ⟨i, j, hj, hi, e⟩)
      · obtain ⟨i, hi, rfl⟩ := List.getElem_of_mem hq
        exact ⟨i + 1, 0, by omega, by simpa using hi, by simpa using e⟩
      · exact ⟨i + 1, j + 1, by omega, by simpa using hi, by simpa using e⟩
    · rintro ⟨i, j, hj, hi, e⟩
      match i, j, hj with
      | i + 1, 0, _ => exact .inl ⟨r[i]'(by simpa using hi), List.getElem_mem _, by simpa using e⟩
      | i + 1, j + 1, hj => exact .inr ⟨i, j, by omega, by simpa using hi, by simpa using e⟩
end Go.Proofs.YtjfjanogfakclaaDoor

/- Layer 18: what bytes say as pairs. -/
namespace Go.Proofs.YtjfjanogfakclaaDoor
open Go CF

theorem cutAt_of {c : UInt8} : ∀ {a b : L8}, c ∉ a → cutAt c (a ++ c :: b) = some (a, b)
  | [], b, _ => by simp [cutAt]
  | x :: r, b, h => by
    have h1 : x ≠ c := fun e => h (by simp [e])
    have h2 : c ∉ r := fun e => h (by simp [e])
    simp only [List.cons_append, cutAt, if_neg h1, cutAt_of h2, Option.map_some]
theorem cutAt_not {c : UInt8} : ∀ {l : L8}, c ∉ l → cutAt c l = none
  | [], _ => rfl
  | x :: r, h => by
    have h1 : x ≠ c := fun e => h (by simp [e])
    have h2 : c ∉ r := fun e => h (by simp [e])
    simp only [cutAt, if_neg h1, cutAt_not h2, Option.map_none]
/-- one pair at the head of a text -/
def step (l : L8) : Option (Pr × L8) :=
  match cutAt 0 l with
  | none => none
  | some (one, more) => match cutAt 61 one with
    | none => none
    | some (k, v) => if keyOk k && valOk v then some ((k, v), more) else none
theorem step_lt {l m : L8} {p : Pr} (h : step l = some (p, m)) : m.length < l.length := by
  unfold step at h
  split at h
  · cases h
  · rename_i one more hc
    have hl := (cutAt_some hc).1
    split at h
    · cases h
    · split at h
      · obtain ⟨_, rfl⟩ := Prod.mk.inj (Option.some.inj h)
        rw [hl]; simp; omega
      · cases h
def pairs (l : L8) : Option (List Pr) :=
  if l = [] then some [] else
  match h : step l with
  | none => none
  | some (p, m) => (pairs m).map (p :: ·)
termination_by l.length
decreasing_by exact step_lt h
theorem pairs_nil : pairs [] = some [] := by rw [pairs]; rfl
theorem pairs_none {l : L8} (hl : l ≠ []) (h : step l = none) : pairs l = none := by
  rw [pairs, if_neg hl]
  split
  · rfl
  · rename_i p m h'; rw [h] at h'; cases h'
theorem pairs_some {l m : L8} {p : Pr} (hl : l ≠ []) (h : step l = some (p, m)) : pairs l = (pairs m).map (p :: ·) := by
  rw [pairs, if_neg hl]
  split
  · rename_i h'; rw [h] at h'; cases h'
  · rename_i p' m' h'
    rw [h] at h'
    obtain ⟨rfl, rfl⟩ := Prod.mk.inj (Option.some.inj h')
    rfl
def parseT (bs : L8) : List Pr × Nat :=
  if 4096 < bs.length then ([], 2) else
  match pairs bs with
  | none => ([], 13)
  | some l => if 64 < l.length then ([], 2) else if dup l then ([], 9) else (l, 0)
theorem dup_snoc (l : List Pr) (p : Pr) : dup (l ++ [p]) = (dup l || (find l p.1).isSome) := by
  induction l with
  | nil => simp [dup, find]
  | cons q r ih =>
    simp only [List.cons_append, dup, ih, find, List.any_append, List.any_cons, List.any_nil, Bool.or_false]
    rw [List.find?_cons]
    have e : (Option.map (fun x : Pr => x.2) (List.find? (fun x : Pr => decide (x.1 = p.1)) r)).isSome = (List.find? (fun x : Pr => decide (x.1 = p.1)) r).isSome := by
      cases List.find? (fun x : Pr => decide (x.1 = p.1)) r <;> rfl
    rw [e]
    by_cases h : q.1 = p.1
    · have h' : decide (p.1 = q.1) = true := by simp [h]
      have h2 : decide (q.1 = p.1) = true := by simp [h]
      simp only [h', h2]; simp
    · have h' : decide (p.1 = q.1) = false := by simp [Ne.symm h]
      have h2 : decide (q.1 = p.1) = false := by simp [h]
      simp only [h', h2]; simp [e, Bool.or_assoc]
theorem pvs_snoc (l : List Pr) (p : Pr) : pvs (l ++ [p]) = pvs l ++ pc p := by simp [pvs]
end Go.Proofs.YtjfjanogfakclaaDoor

/- Layer 18: the reference's reading, and lists that are alike. -/
namespace Go.Proofs.YtjfjanogfakclaaDoor
open Go CF

theorem fit_pc (p : Pr) : FitL [.s, .s] (pc p) := ⟨rfl, rfl, trivial⟩
theorem pc_inj {p q : Pr} (h : pc p = pc q) : p = q := by
  simp only [pc, List.cons.injEq, Value.string.injEq, and_true] at h
  exact Prod.ext (str_inj h.1) (str_inj h.2)
theorem flat_api_Pair : flatK Tryd.prog 8 t_api_Pair = some [.s, .s] := by kernel_rfl
theorem kd_api_Pair : kd Tryd.prog t_api_Pair = .ag := by kernel_rfl
theorem gt_api_Pair : Tryd.prog.eqGuardType Tryd.prog.depth t_api_Pair = false := by kernel_rfl
end Go.Proofs.YtjfjanogfakclaaDoor

/- Layer 18: the law of reading. -/
namespace Go.Proofs.YtjfjanogfakclaaDoor
open Go CF

theorem parse_a1 : parseT [97, 61, 49, 0] = ([([97], [49])], 0) := by
  have hs : step [97, 61, 49, 0] = some (([97], [49]), []) := by decide
  have hp : pairs [97, 61, 49, 0] = some [([97], [49])] := by rw [pairs_some (by decide) hs, pairs_nil]; rfl
  unfold parseT
  rw [if_neg (by decide), hp]
  decide
end Go.Proofs.YtjfjanogfakclaaDoor

/- What two sides come to: both texts. -/
namespace Go.Proofs.YtjfjanogfakclaaDoor
open Go CF
abbrev lYes : L8 := [89, 101, 115]
abbrev lNo : L8 := [78, 111]
abbrev lRej : L8 := [82, 101, 106, 101, 99, 116]
def yesOf (o : L8) (b : Bool) : L8 := if o ≠ lYes ∧ o ≠ lNo then lRej else if b then lYes else lNo
def bothOf (o : L8) (own : Bool) : L8 := yesOf o (decide (o = lYes) && own)
def eitherOf (o : L8) (own : Bool) : L8 := yesOf o (decide (o = lYes) || own)
def leastOf (o : L8) (own low high : Nat) : L8 := match numOf o with
  | some n => if n < low ∨ high < n then lRej else dec (min n own)
  | none => lRej
theorem yes_spec {o : L8} {b : Bool} {w : World} {R : ByteArray → World → Prop} (h : R (str (yesOf o b)) w) : Ctext_yes (str o) b w R := by
  refine Ftext_yes.calls _ _ _ _ ?_
  unfold Ftext_yes
  simp only [show s_Yes = str lYes from rfl, show s_No = str lNo from rfl, show s_Reject = str lRej from rfl, sEq_str]
  unfold yesOf at h
  by_cases h1 : o = lYes
  · refine br_f (by simp [h1]) ?_
    rw [if_neg (fun q => q.1 h1)] at h
    cases b
    · exact br_f rfl (by simpa using h)
    · exact br_t rfl (by simpa using h)
  · by_cases h2 : o = lNo
    · refine br_f (by simp [h2]) ?_
      rw [if_neg (fun q => q.2 h2)] at h
      cases b
      · exact br_f rfl (by simpa using h)
      · exact br_t rfl (by simpa using h)
    · rw [if_pos ⟨h1, h2⟩] at h
      exact br_t (by simp [h1, h2]) h
theorem both_spec {o : L8} {own : Bool} {w : World} {R : ByteArray → World → Prop} (h : R (str (bothOf o own)) w) : Ctext_Both (str o) own w R := by
  refine Ftext_Both.calls _ _ _ _ ?_
  unfold Ftext_Both
  rw [show sEq (str o) s_Yes = decide (o = lYes) from sEq_str (b := lYes)]
  exact yes_spec h
theorem either_spec {o : L8} {own : Bool} {w : World} {R : ByteArray → World → Prop} (h : R (str (eitherOf o own)) w) : Ctext_Either (str o) own w R := by
  refine Ftext_Either.calls _ _ _ _ ?_
  unfold Ftext_Either
  rw [show sEq (str o) s_Yes = decide (o = lYes) from sEq_str (b := lYes)]
  exact yes_spec h
theorem least_spec {o : L8} {own low high : Nat} {w : World} {R : ByteArray → World → Prop} (hv : ErrV w) (ht : TabV w) (hl : o.length ≤ 140737489403904) (how : own < 18446744073709551616)
    (h : ∀ w', Grow w w' → R (str (leastOf o own low high)) w') : Ctext_Least (str o) (own : Int) (low : Int) (high : Int) w R := by
  refine Ftext_Least.calls _ _ _ _ _ _ ?_
  refine number_spec hv hl (fun n w' hn g => ?_) (fun w' hn g => ?_)
  · have hlt : n < 18446744073709551616 := by
      have : ∀ s, numOf s = some n → n < 18446744073709551616 := numOf_lt
      exact this o hn
    by_cases hb : n < low ∨ high < n
    · refine br_t (by simp; omega) ?_
      have := h w' g
      unfold leastOf at this
      rw [hn] at this
      simp only [if_pos hb] at this
      exact this
    · refine br_f (by simp; omega) ?_
      have hm : mn (n : Int) (own : Int) = ((min n own : Nat) : Int) := by unfold mn; split <;> omega
      rw [hm]
      refine format_spec (ht.grow g) (by omega) fun w2 g2 => ?_
      have := h w2 (g.trans g2)
      unfold leastOf at this
      rw [hn] at this
      simp only [if_neg hb] at this
      exact this
  · refine br_t rfl ?_
    have := h w' g
    unfold leastOf at this
    rw [hn] at this
    exact this
end Go.Proofs.YtjfjanogfakclaaDoor

/- Layer 18: pairs as a text. -/
namespace Go.Proofs.YtjfjanogfakclaaDoor
open Go CF

def serP (p : Pr) : L8 := p.1 ++ ([61] ++ (p.2 ++ [0]))
def ser (l : List Pr) : L8 := l.flatMap serP
def prOk (p : Pr) : Bool := keyOk p.1 && valOk p.2
def writeT (l : List Pr) : L8 × Nat :=
  if 64 < l.length then ([], 2) else if l.all prOk then (if 4096 < (ser l).length then ([], 2) else if dup l then ([], 9) else (ser l, 0)) else ([], 13)
theorem ser_snoc (l : List Pr) (p : Pr) : ser (l ++ [p]) = ser l ++ serP p := by simp [ser]
theorem keyOk_len {k : L8} (h : keyOk k = true) : k.length ≤ 63 := by
  unfold keyOk at h; simp only [Bool.and_eq_true, decide_eq_true_eq] at h; exact h.2
theorem valOk_len {k : L8} (h : valOk k = true) : k.length ≤ 255 := by
  unfold valOk at h; simp only [Bool.and_eq_true, decide_eq_true_eq] at h; exact h.2
theorem serP_len {p : Pr} (h : prOk p = true) : (serP p).length ≤ 320 := by
  unfold prOk at h
  rw [Bool.and_eq_true] at h
  have h1 := keyOk_len h.1
  have h2 := valOk_len h.2
  simp [serP]
  omega
/-- a pair's cells are strings within reach -/
def PrL (p : Pr) : Prop := p.1.length ≤ 140737488351232 ∧ p.2.length ≤ 140737488351232
theorem take_all_false {l : List Pr} {j : Nat} (hj : j < l.length) (h : prOk l[j] = false) : l.all prOk = false := by
  rw [List.all_eq_false]; exact ⟨l[j], List.getElem_mem hj, by simp [h]⟩
end Go.Proofs.YtjfjanogfakclaaDoor

/- Layer 18: the reference's writing, the way back, the laws of writing and joining. -/
namespace Go.Proofs.YtjfjanogfakclaaDoor
open Go CF

theorem keyOk_not {k : L8} (h : keyOk k = true) {c : UInt8} (hc : kc c = false) : c ∉ k := by
  unfold keyOk at h
  simp only [Bool.and_eq_true, List.all_eq_true] at h
  exact fun q => by rw [h.1.1 c q] at hc; cases hc
theorem valOk_not {k : L8} (h : valOk k = true) {c : UInt8} (hc : vcB c = false) : c ∉ k := by
  unfold valOk at h
  simp only [Bool.and_eq_true, List.all_eq_true] at h
  exact fun q => by rw [h.1 c q] at hc; cases hc
theorem step_serP {p : Pr} (h : prOk p = true) (r : L8) : step (serP p ++ r) = some (p, r) := by
  unfold prOk at h
  rw [Bool.and_eq_true] at h
  have e : serP p ++ r = (p.1 ++ 61 :: p.2) ++ 0 :: r := by simp [serP]
  have n0 : (0 : UInt8) ∉ p.1 ++ 61 :: p.2 := by
    simp only [List.mem_append, List.mem_cons, not_or]
    exact ⟨keyOk_not h.1 (by decide), by decide, valOk_not h.2 (by decide)⟩
  have n1 : (61 : UInt8) ∉ p.1 := keyOk_not h.1 (by decide)
  unfold step
  rw [e, cutAt_of n0]
  simp only
  rw [cutAt_of n1]
  simp only [h.1, h.2, Bool.and_self, if_true]
theorem pairs_ser : ∀ {l : List Pr}, l.all prOk = true → pairs (ser l) = some l
  | [], _ => pairs_nil
  | p :: l, h => by
    rw [List.all_cons, Bool.and_eq_true] at h
    have e : ser (p :: l) = serP p ++ ser l := by simp [ser]
    rw [e, pairs_some (by simp [serP]) (step_serP h.1 _), pairs_ser h.2]
    rfl
theorem writeT_ok {l : List Pr} (h : (writeT l).2 = 0) : l.length ≤ 64 ∧ l.all prOk = true ∧ (ser l).length ≤ 4096 ∧ dup l = false ∧ (writeT l).1 = ser l := by
  unfold writeT at h ⊢
  by_cases h1 : 64 < l.length
  · rw [if_pos h1] at h; cases h
  rw [if_neg h1] at h ⊢
  by_cases h2 : l.all prOk = true
  · rw [if_pos h2] at h ⊢
    by_cases h3 : 4096 < (ser l).length
    · rw [if_pos h3] at h; cases h
    · rw [if_neg h3] at h ⊢
      by_cases h4 : dup l = true
      · rw [if_pos h4] at h; cases h
      · rw [if_neg h4]
        exact ⟨by omega, h2, by omega, by simpa using h4, rfl⟩
  · rw [if_neg h2] at h; cases h
theorem parse_ser {l : List Pr} (h : (writeT l).2 = 0) : parseT (ser l) = (l, 0) := by
  obtain ⟨h1, h2, h3, h4, _⟩ := writeT_ok h
  unfold parseT
  rw [if_neg (by omega), pairs_ser h2]
  simp only
  rw [if_neg (by omega), h4]
  rfl
end Go.Proofs.YtjfjanogfakclaaDoor

/- Layer 18: the law of joining; pairs as arguments. -/
namespace Go.Proofs.YtjfjanogfakclaaDoor
open Go CF

section
variable {H : Type} {enc : TypeId × Value → H} {w : World} {base : Nat} {spare : Nat → Bool} {held : Bool}
theorem opens_pair : Opens enc Tryd.prog w base spare held t_api_Pair fun cs => ∃ p : Pr, cs = pc p ∧ PrL p :=
  (opens_flat 8 t_api_Pair [.s, .s] flat_api_Pair (by kernel_rfl)).mono fun cs ⟨h, hv⟩ => by
    match cs, h with
    | [.string a, .string b], _ =>
      refine ⟨(ls a, ls b), by simp only [pc, str_ls], ?_, ?_⟩
      · have := hv (.string a) (by simp); simpa [okV, length_ls] using this
      · have := hv (.string b) (by simp); simpa [okV, length_ls] using this
theorem opens_pairs : Opens enc Tryd.prog w base spare held t_sl_api_Pair fun cs => ∃ s : Sl, cs = [.slice s.A s.n s.c] ∧ ∃ ps : List Pr, Rd w 2 s (pvs ps) ∧ (∀ p ∈ ps, PrL p) ∧ s.n * 32 ≤ 140737488351232 :=
  (opens_slice (f := pc) (Q := PrL) (z := 2) (bytes := 32) u_sl_api_Pair (by kernel_rfl) (by kernel_rfl) (by decide) pc_len opens_pair).mono fun _ ⟨s, h1, ps, h2, _, h4, h5⟩ => ⟨s, h1, ps, h2, h4, h5⟩
end
theorem ser_append (l m : List Pr) : ser (l ++ m) = ser l ++ ser m := by simp [ser]
def both (l m : List Pr) : Bool := m.any fun q => (find l q.1).isSome
theorem both_snoc (l : List Pr) (q : Pr) (r : List Pr) : both (l ++ [q]) r = (both l r || r.any fun p => decide (p.1 = q.1)) := by
  unfold both
  induction r with
  | nil => rfl
  | cons p s ihs =>
    have hf : (find (l ++ [q]) p.1).isSome = ((find l p.1).isSome || decide (p.1 = q.1)) := by
      unfold find
      rw [List.find?_append]
      cases hfl : List.find? (fun x : Pr => decide (x.1 = p.1)) l with
      | some x => simp
      | none =>
        by_cases hq : q.1 = p.1
        · simp [hq]
        · simp [hq, Ne.symm hq]
    simp only [List.any_cons, hf, ihs]
    cases (find l p.1).isSome <;> cases decide (p.1 = q.1) <;> simp
theorem dup_append (l m : List Pr) : dup (l ++ m) = (dup l || dup m || both l m) := by
  induction m generalizing l with
  | nil => simp [dup, both]
  | cons q r ih =>
    have e : l ++ q :: r = (l ++ [q]) ++ r := by simp
    rw [e, ih, dup_snoc, both_snoc]
    simp only [dup, both, List.any_cons]
    cases dup l <;> cases (find l q.1).isSome <;> cases (r.any fun p => decide (p.1 = q.1)) <;> cases dup r <;> simp
theorem pvs_append (l m : List Pr) : pvs (l ++ m) = pvs l ++ pvs m := by simp [pvs]
theorem pvs_one (l : List Pr) : ∀ u ∈ pvs l, u.oneCell' = true := by
  intro u hu
  simp only [pvs, pc, List.mem_flatMap, List.mem_cons, List.not_mem_nil, or_false] at hu
  obtain ⟨p, _, rfl | rfl⟩ := hu <;> rfl
theorem bv_one (l : L8) : ∀ u ∈ bv l, u.oneCell' = true := by
  intro u hu
  simp only [bv, List.mem_map] at hu
  obtain ⟨p, _, rfl⟩ := hu; rfl
end Go.Proofs.YtjfjanogfakclaaDoor

/- Layer 13: unpacking. -/
namespace Go.Proofs.YtjfjanogfakclaaDoor
open Go CF

theorem take2 {X : L8} {d : Nat} (h : d + 2 ≤ X.length) : (X.drop d).take 2 = [X[d], X[d + 1]] := by
  rw [List.drop_eq_getElem_cons (show d < X.length by omega), List.take_succ_cons, List.drop_eq_getElem_cons (show d + 1 < X.length by omega), List.take_succ_cons, List.take_zero]
theorem take4 {X : L8} {d : Nat} (h : d + 4 ≤ X.length) : (X.drop d).take 4 = [X[d], X[d + 1], X[d + 2], X[d + 3]] := by
  rw [List.drop_eq_getElem_cons (show d < X.length by omega), List.take_succ_cons, List.drop_eq_getElem_cons (show d + 1 < X.length by omega), List.take_succ_cons, List.drop_eq_getElem_cons (show d + 2 < X.length by omega), List.take_succ_cons,
    List.drop_eq_getElem_cons (show d + 3 < X.length by omega), List.take_succ_cons, List.take_zero]
end Go.Proofs.YtjfjanogfakclaaDoor

/- Layer 14: a device; its reading and writing. -/
namespace Go.Proofs.YtjfjanogfakclaaDoor
open Go CF

/-- a command, taken apart -/
structure Cm where
  kind : Nat
  long : Bool
  lba : Nat
  blocks : Nat
  alloc : Int
  fua : Bool
  prot : Nat
  unmap : Bool
  evpd : Bool
  page : Nat
  control : Nat
  save : Bool
  service : Nat
  type : Nat
  bytes : Bool
def cmv (c : Cm) : List Value := [.int .u8 (c.kind : Int), .bool c.long, .int .u64 (c.lba : Int), .int .u64 (c.blocks : Int), .int .i64 c.alloc, .bool c.fua, .int .u8 (c.prot : Int), .bool c.unmap, .bool c.evpd, .int .u8 (c.page : Int), .int .u8 (c.control : Int),
  .bool c.save, .int .u8 (c.service : Int), .int .u8 (c.type : Int), .bool c.bytes]
def dvcells (ps kind : Nat) : Array Value := #[.pointer (some ⟨ps, 0, none⟩), .int .u8 (kind : Int)]
section
variable {w u : World} {dv ps pw : Nat} {file : ByteArray} {kind n : Nat} {cache : Bool} {D D' : Nat → Prop} {st st' : Wst} {bs bs' : List Bk} {m m' : Nat} {F : Int → Bool}
theorem rdBl_tells (ht : Tells st file bs) {lba k : Nat} (h : lba + k ≤ bs.length) : rdBl st file lba k = (bs.drop lba).take k := by
  apply List.ext_getElem?
  intro i
  unfold rdBl
  rw [List.getElem?_map, List.getElem?_take, List.getElem?_drop]
  by_cases q : i < k
  · rw [List.getElem?_range q, if_pos q, Option.map_some]
    exact ht.2 (lba + i) (by omega)
  · rw [if_neg q, List.getElem?_eq_none (by simp; omega)]; rfl
end
end Go.Proofs.YtjfjanogfakclaaDoor

/- Layer 14: blocks are written; blocks that came. -/
namespace Go.Proofs.YtjfjanogfakclaaDoor
open Go CF

theorem keepD_new {w y z : World} {D : Nat → Prop} {ab : Nat} (hk : Keep D w y) (ha : w.heap.size ≤ ab) (hz : Keep (fun k => k = ab) y z) : Keep D w z :=
  ⟨hz.os.trans hk.os, hz.tape.trans hk.tape, hz.output.trans hk.output, Nat.le_trans hk.size hz.size, fun k hk' hn => by rw [hz.block k (by have := hk.size; omega) (by omega), hk.block k hk' hn]⟩
section
variable {w u : World} {dv ps pw : Nat} {file : ByteArray} {kind n : Nat} {cache : Bool} {D D' : Nat → Prop} {st st' : Wst} {bs bs' : List Bk} {m m' : Nat}
end
/-! ### a row of blocks changed in place -/
theorem own_storeAt {P : Program} {w : World} {base : Nat} {e ty : TypeId} {z o : Nat} {zv : Option Value} {q bytes : Nat} {s : Sl} {vs : List Value} {cells : Array Value} (hs : Own w base e z s vs) (hinfo : (P.info? ty).map (fun i => (i.zero, i.size, i.bytes)) = some (zv, q, bytes)) (hq : q = cells.size)
    (ho : o + cells.size ≤ vs.length) (hpos : 0 < cells.size) (h1 : ∀ v ∈ cells.toList, v.oneCell' = true) {K : World → Prop}
    (h : ∀ w1, Own w1 base e z s (vs.take o ++ cells.toList ++ vs.drop (o + cells.size)) → Keep (fun k => some k = s.blk) w w1 → w1.heap.size = w.heap.size → K w1) : RunU P (storeVar ty ((gA s.A).add o) (.agg cells)) w K := by
  obtain ⟨hlen, hown⟩ := hs
  rcases hown with ⟨h2, hn0⟩ | ⟨g, cap, cur, hv', hbg, hg, hnc, hcm, hcs, htake⟩
  · rw [hn0, Nat.zero_mul] at hlen; omega
  · injection hv' with hA hN hC
    have hle : s.n * z ≤ cur.size := by rw [hcs]; exact Nat.mul_le_mul_right _ hnc
    rw [hA, gA, add0, Nat.zero_add]
    refine storeAt_rule hg hinfo hq (by omega) h1 fun w1 hb1 hk1 hsz1 => ?_
    refine h w1 ⟨by simp only [List.length_append, List.length_take, List.length_drop, Array.length_toList]; omega, .inr ⟨g, cap, _, by rw [hA, hC], hbg, hb1, hnc, hcm, ?_, ?_⟩⟩ (hk1.mono fun k _ q => by simp [Sl.blk, hA, q]) hsz1
    · simp only [List.size_toArray, List.length_append, List.length_take, List.length_drop, Array.length_toList]; omega
    · have hF : cur.toList.take (s.n * z) = vs := htake
      have hl : vs.length = s.n * z := hlen
      rw [← hF]
      apply List.ext_getElem?
      intro j
      simp only [List.getElem?_take, List.getElem?_append, List.length_append, List.length_take, Array.length_toList, List.getElem?_drop]
      have e1 : min o cur.size = o := by omega
      have e2 : min o (min (s.n * z) cur.size) = o := by omega
      simp only [e1, e2]
      by_cases q1 : j < o
      · have q2 : j < o + cells.size := by omega
        have q3 : j < s.n * z := by omega
        simp only [if_pos q1, if_pos q2, if_pos q3]
      · by_cases q2 : j < o + cells.size
        · have q3 : j < s.n * z := by omega
          simp only [if_neg q1, if_pos q2, if_pos q3]
        · by_cases q3 : j < s.n * z
          · have q4 : o + cells.size + (j - (o + cells.size)) < s.n * z := by omega
            simp only [if_neg q2, if_pos q3, if_pos q4]
          · have q4 : ¬ o + cells.size + (j - (o + cells.size)) < s.n * z := by omega
            simp only [if_neg q2, if_neg q3, if_neg q4]
theorem flat_bc_len (l : List Bk) : (l.flatMap bc).length = l.length * 19 := flat_length bc_len l
theorem flat_set {l : List Bk} {j : Nat} {b : Bk} (hj : j < l.length) (hd : b.d = l[j].d) : (l.flatMap bc).take (j * 19 + 16) ++ tc b.g b.a b.r ++ (l.flatMap bc).drop (j * 19 + 16 + 3) = (l.set j b).flatMap bc := by
  have e : l = l.take j ++ l[j] :: l.drop (j + 1) := by rw [List.getElem_cons_drop, List.take_append_drop]
  have hA : ((l.take j).flatMap bc).length = j * 19 := by rw [flat_bc_len, List.length_take, Nat.min_eq_left (by omega)]
  have hl : l.flatMap bc = (l.take j).flatMap bc ++ (bc l[j] ++ (l.drop (j + 1)).flatMap bc) := by
    conv => lhs; rw [e]
    rw [List.flatMap_append, List.flatMap_cons]
  have hs : (l.set j b).flatMap bc = (l.take j).flatMap bc ++ (bc b ++ (l.drop (j + 1)).flatMap bc) := by
    rw [List.set_eq_take_append_cons_drop, if_pos hj, List.flatMap_append, List.flatMap_cons]
  have hb : bc b = bv l[j].d ++ tc b.g b.a b.r := by unfold bc tc; rw [hd]
  have t1 : ((l.take j).flatMap bc ++ (bc l[j] ++ (l.drop (j + 1)).flatMap bc)).take (j * 19 + 16) = (l.take j).flatMap bc ++ bv l[j].d := by
    rw [← hA, List.take_length_add_append, List.take_append_of_le_length (by rw [bc_len]; omega), bc_head]
  have t2 : ((l.take j).flatMap bc ++ (bc l[j] ++ (l.drop (j + 1)).flatMap bc)).drop (j * 19 + 16 + 3) = (l.drop (j + 1)).flatMap bc := by
    rw [Nat.add_assoc, ← hA, List.drop_length_add_append]
    have : 16 + 3 = (bc l[j]).length := by rw [bc_len]
    rw [this, List.drop_left]
  rw [hl, hs, t1, t2, hb]
  simp
end Go.Proofs.YtjfjanogfakclaaDoor

/- Layer 14: blocks that came with a command. -/
namespace Go.Proofs.YtjfjanogfakclaaDoor
open Go CF

def mk1 (kind lba : Nat) (b : Bk) : Bk := mkB kind lba b.d b.hd
/-- blocks given their tuples, the first j of them -/
def mkAll (kind lba : Nat) (U : List Bk) : Nat → List Bk
  | 0 => U
  | j + 1 => (mkAll kind lba U j).set j (mk1 kind (lba + j) (U.getD j zeroBk))
theorem mkAll_len (kind lba : Nat) (U : List Bk) : ∀ j, (mkAll kind lba U j).length = U.length
  | 0 => rfl
  | j + 1 => by simp [mkAll, mkAll_len kind lba U j]
theorem mkAll_at (kind lba : Nat) (U : List Bk) : ∀ (j i : Nat) (hi : i < U.length), (mkAll kind lba U j)[i]'(by rw [mkAll_len]; exact hi) = if i < j then mk1 kind (lba + i) U[i] else U[i]
  | 0, i, hi => by rw [if_neg (by omega)]; rfl
  | j + 1, i, hi => by
    have ih := mkAll_at kind lba U j i hi
    simp only [mkAll, List.getElem_set]
    by_cases e : j = i
    · subst e
      rw [if_pos rfl, if_pos (by omega), List.getD_eq_getElem?_getD, List.getElem?_eq_getElem hi]; rfl
    · rw [if_neg e, ih]
      by_cases q : i < j
      · rw [if_pos q, if_pos (by omega)]
      · rw [if_neg q, if_neg (by omega)]
theorem mk1_cells (kind lba : Nat) (b : Bk) : tc (mk1 kind lba b).g (mk1 kind lba b).a (mk1 kind lba b).r = tc (c16 b.d) 0 (mkR kind lba) := rfl
end Go.Proofs.YtjfjanogfakclaaDoor

/- Layer 14: a command is done. -/
namespace Go.Proofs.YtjfjanogfakclaaDoor
open Go CF

def z10 : Array Value := #[.int .u8 0, .int .u8 0, .int .u16 0, .int .u64 0, .bool false, .int .i64 0, .int .i64 0, .bool false, .bool false, .slice none 0 0]
def unkS : Sn := ⟨5, 0x2400, 0, false, 1, 7, true, true⟩
def invS : Sn := ⟨5, 0x2000, 0, false, 0, 7, true, true⟩
/-- the blocks that a write lays -/
def cameB (kind : Nat) (c : Cm) (l : L8) (N : Nat) : List Bk := if c.prot = 0 then mkAll kind c.lba (unpB false l) N else unpB true l
theorem cameB_len {kind : Nat} {c : Cm} {l : L8} {N : Nat} (h : l.length / szB (decide (c.prot ≠ 0)) = N) : (cameB kind c l N).length = N := by
  unfold cameB
  split
  · rename_i q
    rw [mkAll_len, unpB_len]
    rw [decide_eq_false (by simpa using q)] at h
    exact h
  · rename_i q
    rw [unpB_len]
    rw [decide_eq_true (by simpa using q)] at h
    exact h
section
variable {w u : World} {dv ps pw : Nat} {file : ByteArray} {kind n : Nat} {cache : Bool} {D D' : Nat → Prop} {st st' : Wst} {bs bs' : List Bk} {m m' : Nat}
theorem callK1_mono {P : Program} {f : FuncId} {args : Array Value} {w : World} {k : Kd} {R R' : k.T → World → Prop} (h : CallK P f args w [k] R) (hR : ∀ x w', R x w' → R' x w') : CallK P f args w [k] R' :=
  h.mono fun _ w' ⟨x, h1, h2⟩ => ⟨x, h1, by
    have h2 : R (k.un (k.mk x)) w' := h2
    show R' (k.un (k.mk x)) w'
    exact hR _ _ h2⟩
/-- what a command's own part leaves, in front of its last step -/
def wfS : Sn := ⟨3, 0x0c00, 0, false, 0, 0, false, false⟩
def Ends (D : Nat → Prop) (u : World) (ab : Nat) (R : Array Value → World → Prop) (g : Array Value) (v : World) : Prop :=
  Keep D u v ∧ ∃ (s : Nat) (sn : Sn) (d : Sl), g = (rsv s sn d).toArray ∧ ∀ v', Keep (fun k => k = ab) v v' → R g v'
end
end Go.Proofs.YtjfjanogfakclaaDoor

/- Layer 14: blocks compared. -/
namespace Go.Proofs.YtjfjanogfakclaaDoor
open Go CF

def firstNe (X Y : L8) : Option Nat := (List.range X.length).find? fun i => decide (X.getD i 0 ≠ Y.getD i 0)
def dif (X Y : L8) : Int := match firstNe X Y with | some i => (i : Int) | none => -1
theorem firstNe_none {X Y : L8} (h : ∀ i, i < X.length → X.getD i 0 = Y.getD i 0) : firstNe X Y = none := by
  unfold firstNe
  rw [List.find?_eq_none]
  intro i hi
  rw [h i (List.mem_range.1 hi)]; simp
theorem firstNe_some {X Y : L8} {i : Nat} (hi : i < X.length) (h : ∀ j, j < i → X.getD j 0 = Y.getD j 0) (hne : X.getD i 0 ≠ Y.getD i 0) : firstNe X Y = some i := by
  unfold firstNe
  rw [List.find?_eq_some_iff_append]
  refine ⟨by simpa using hne, List.range i, (List.range (X.length - i - 1)).map (fun k => i + 1 + k), ?_, fun j hj => ?_⟩
  · have e : X.length = i + (1 + (X.length - i - 1)) := by omega
    conv => lhs; rw [e, List.range_add, List.range_add]
    simp [List.map_map, Nat.add_assoc, Function.comp_def]
  · have := h j (List.mem_range.1 hj)
    rw [decide_eq_false (by simpa using this)]; rfl
theorem dif_none {X Y : L8} (h : firstNe X Y = none) : dif X Y = -1 := by unfold dif; rw [h]
theorem dif_some {X Y : L8} {i : Nat} (h : firstNe X Y = some i) : dif X Y = (i : Int) := by unfold dif; rw [h]
theorem rd_at {w : World} {s : Sl} {l : L8} (h : Rd w 1 s (bv l)) {i : Nat} (hi : i < l.length) : s.A.isSome = true ∧ w.cell? ((gA s.A).add (i * 1)) = some (.int .u8 ((l.getD i 0).toNat : Int)) := by
  obtain ⟨a, ha, hc⟩ := h.byte (i := i) (by rw [← rd_n' h]; exact hi)
  rw [ha]
  refine ⟨rfl, ?_⟩
  rw [List.getD_eq_getElem?_getD, List.getElem?_eq_getElem hi]
  exact hc
section
variable {w u : World} {dv ps pw : Nat} {file : ByteArray} {kind n : Nat} {cache : Bool} {D D' : Nat → Prop} {st st' : Wst} {bs bs' : List Bk} {m m' : Nat}
end
end Go.Proofs.YtjfjanogfakclaaDoor

/- Rules: append behind a slice that has no room (it need not be a row of one's own): a new row. -/
namespace Go.Proofs.YtjfjanogfakclaaDoor.CF
open Go Go.RowKit

theorem letX4 {α β γ δ : Type} {j : α → β → γ → δ → World → Prop} {body : (α → β → γ → δ → World → Prop) → Prop} (I : α → β → γ → δ → World → Prop) (h1 : ∀ x y z t u, I x y z t u → j x y z t u) (h2 : (∀ x y z t u, I x y z t u → j x y z t u) → body j) : letX j body := h2 h1
theorem append_full_rule {P : Program} {w : World} {base : Nat} {t ty e : TypeId} {zv : Value} {z bytes : Nat} (ht : P.underlying t = some (.slice e)) (hinfo : (P.info? e).map (fun i => (i.zero, i.size, i.bytes)) = some (some zv, z, bytes))
    (hzc : zv.cells.size = z) (hz0 : 0 < z) (hb0 : 0 < bytes) {s x : Sl} {vs xs : List Value} (hs : Rd w z s vs) (hx : Rd w z x xs) (hc : s.c < s.n + x.n) (hn : 0 < s.n)
    (hbd : (s.n + x.n) * bytes ≤ 140737488355328) (hbase : base ≤ w.heap.size) {K : Sl → World → Prop}
    (h : ∀ s' w', s'.n = s.n + x.n → Own w' base e z s' (vs ++ xs) → Grow w w' → s'.blk = some w.heap.size → K s' w') :
    RunK P .sl (Builtin.append_ #[t, t] ty #[.slice s.A s.n s.c, .slice x.A x.n x.c]) w K := by
  obtain ⟨i, hi, hzz⟩ := Option.map_eq_some_iff.1 hinfo
  simp only [Prod.mk.injEq] at hzz
  obtain ⟨hz, hsz, hby⟩ := hzz
  have hm : s.n + x.n ≤ 140737488355328 := Nat.le_trans (Nat.le_mul_of_pos_right _ hb0) hbd
  have hsl := hs.len
  have hxl := hx.len
  have hcap := hs.cap
  have hx0 : 0 < x.n := by omega
  have ne : ∀ {l : List Value} {n : Nat}, l.length = n * z → 0 < n → l ≠ [] := fun hl h0 q => by
    rw [q, List.length_nil] at hl
    rcases Nat.mul_eq_zero.1 hl.symm with r | r <;> omega
  obtain ⟨b, hb, hbc⟩ := hs.at_ (ne hsl hn)
  obtain ⟨a, ha, hac⟩ := hx.at_ (ne hxl hx0)
  have hr := run_append_grow (P := P) (w := w) t ty e i zv ht hi hz b s.n s.c vs (by rw [hsz]; exact hsl) hbc a x.n x.c xs (by rw [hsz]; exact hxl) hac hc (by omega) (by rw [hby]; exact growslice_fits (by omega) (by omega))
  rw [hb, ha]
  refine ⟨⟨some ⟨w.heap.size, 0, none⟩, s.n + x.n, grownCap w (s.n + x.n) s.c e⟩, _, hr, h _ _ rfl ?_ ⟨rfl, rfl, rfl, by simp, fun k hk _ => heap_alloc_lt w.drew _ k hk⟩ rfl⟩
  have hge := grownCap_ge w (s.n + x.n) s.c e
  have hcm : grownCap w (s.n + x.n) s.c e ≤ maxLen := grownCap_le_maxLen w (s.n + x.n) s.c e (by unfold maxLen; omega)
  have hlen : (vs ++ xs).length = (s.n + x.n) * z := by rw [List.length_append, hsl, hxl, Nat.add_mul]
  refine ⟨hlen, .inr ⟨w.heap.size, grownCap w (s.n + x.n) s.c e, _, rfl, hbase, heap_alloc_new w.drew _, hge, hcm, ?_, ?_⟩⟩
  · simp only [Array.size_append, List.size_toArray, size_zeroCells, hzc, hsl, hxl]
    rw [← Nat.add_mul, ← Nat.add_mul]
    congr 1
    omega
  · simp only [Array.toList_append, List.append_assoc]
    rw [← List.append_assoc, ← hlen]
    exact List.take_left
/-- a cell put into a row of one's own, whatever its elements -/
theorem own_putz {w : World} {base : Nat} {e : TypeId} {z : Nat} {s : Sl} {vs : List Value} (hs : Own w base e z s vs) {i j : Nat} (hi : i * z + j < vs.length) {v : Value} (hv : v.oneCell' = true)
    {K : World → Prop} (h : ∀ w1, Own w1 base e z s (vs.set (i * z + j) v) → Keep (fun k => some k = s.blk) w w1 → w1.heap.size = w.heap.size → K w1) : Put (((gA s.A).add (i * z)).add j) v w K := by
  obtain ⟨hlen, hown⟩ := hs
  rcases hown with ⟨_, hn0⟩ | ⟨g, cap, cur, hv', hbg, hg, hnc, hcm, hcs, htake⟩
  · rw [hn0] at hlen; omega
  · injection hv' with hA hN hC
    have hl : vs.length ≤ cur.size := by
      have := congrArg List.length htake
      rw [List.length_take, Array.length_toList] at this
      omega
    rw [hA, gA, add0, add0, Nat.zero_add]
    refine put_rule hg (by omega) hv fun w1 hb1 hk1 hsz1 => ?_
    refine h w1 ⟨by rw [List.length_set]; exact hlen, .inr ⟨g, cap, _, by rw [hA, hC], hbg, hb1, hnc, hcm, by rw [Array.size_setIfInBounds]; exact hcs, ?_⟩⟩ (hk1.mono fun k _ q => by simp [Sl.blk, hA, q]) hsz1
    rw [Array.toList_setIfInBounds, List.take_set]
    rw [htake]
end Go.Proofs.YtjfjanogfakclaaDoor.CF

/- Layer 19: bytes as digits of base 16, and back; the program's and the reference's. -/
namespace Go.Proofs.YtjfjanogfakclaaDoor
open Go CF

/-! ### small rules -/
theorem lit1 (w : World) (a : Int) : (Instr.buildSlice t_sl_uint8 1 #[(0, .int .u8 a)]).run Tryd.prog w = .ok (.slice (some ⟨w.heap.size, 0, none⟩) 1 1) (w.alloc (.cells #[.int .u8 a] t_uint8)) := by kernel_rfl
theorem lit2 (w : World) (a b : Int) : (Instr.buildSlice t_sl_uint8 2 #[(0, .int .u8 a), (1, .int .u8 b)]).run Tryd.prog w = .ok (.slice (some ⟨w.heap.size, 0, none⟩) 2 2) (w.alloc (.cells #[.int .u8 a, .int .u8 b] t_uint8)) := by kernel_rfl
section
variable {w0 u : World} {p : Sl} {os : L8}
/-- a byte behind a row -/
theorem Row.app1 (h : Row w0 u p os) {a : Int} {c : UInt8} (ha : a = (c.toNat : Int)) (hb : os.length + 1 ≤ 140737488355328) {ty : TypeId} {K : Sl → World → Prop} (hK : ∀ p' u', Row w0 u' p' (os ++ [c]) → Keep (fun k => some k = p.blk) u u' → K p' u') :
    RunK Tryd.prog .sl (Instr.buildSlice t_sl_uint8 1 #[(0, .int .u8 a)]) u fun xs u1 => RunK Tryd.prog .sl (Builtin.append_ #[t_sl_uint8, t_sl_uint8] ty #[.slice p.A p.n p.c, .slice xs.A xs.n xs.c]) u1 K := by
  subst ha
  exact h.lit (l := [c]) (lit1 u _) rfl hb hK
theorem Row.app2 (h : Row w0 u p os) {a b : Int} {c d : UInt8} (ha : a = (c.toNat : Int)) (hd : b = (d.toNat : Int)) (hb : os.length + 2 ≤ 140737488355328) {ty : TypeId} {K : Sl → World → Prop} (hK : ∀ p' u', Row w0 u' p' (os ++ [c, d]) → Keep (fun k => some k = p.blk) u u' → K p' u') :
    RunK Tryd.prog .sl (Instr.buildSlice t_sl_uint8 2 #[(0, .int .u8 a), (1, .int .u8 b)]) u fun xs u1 => RunK Tryd.prog .sl (Builtin.append_ #[t_sl_uint8, t_sl_uint8] ty #[.slice p.A p.n p.c, .slice xs.A xs.n xs.c]) u1 K := by
  subst ha; subst hd
  exact h.lit (l := [c, d]) (lit2 u _ _) rfl hb hK
end
/-- a byte or two behind the bytes of a constant string, or a row -/
def RowC (w0 u : World) (p : Sl) (l : L8) : Prop := Row w0 u p l ∨ (Grow w0 u ∧ Rd u 1 p (bv l) ∧ p.c = p.n ∧ 0 < p.n)
theorem RowC.grow {w0 u : World} {p : Sl} {l : L8} (h : RowC w0 u p l) : Grow w0 u := by
  rcases h with h | h
  · exact h.grow
  · exact h.1
theorem RowC.rd {w0 u : World} {p : Sl} {l : L8} (h : RowC w0 u p l) (hl : l.length ≤ 140737488355328) : Rd u 1 p (bv l) := by
  rcases h with h | h
  · exact h.rd hl
  · exact h.2.1
theorem RowC.const {u : World} {n : Nat} {parts : Array (Nat × Value)} {l : L8} (hr : (Instr.buildSlice t_sl_uint8 n parts).run Tryd.prog u = .ok (.slice (some ⟨u.heap.size, 0, none⟩) n n) (u.alloc (.cells (bv l).toArray t_uint8))) (hn : n = l.length) (hb : l.length ≤ 140737488355328) (h0 : 0 < n)
    {K : Sl → World → Prop} (hK : ∀ p u', RowC u u' p l → K p u') : RunK Tryd.prog .sl (Instr.buildSlice t_sl_uint8 n parts) u fun xs u1 => RunK Tryd.prog .sl (convert t_sl_uint8 t_sl_uint8 (.slice xs.A xs.n xs.c)) u1 K :=
  bytes_at_rule hr hn (by omega) u_sl_uint8 u_uint8 fun u1 hg1 _ hrd => hK _ _ (.inr ⟨hg1, hrd, rfl, h0⟩)
theorem RowC.app2 {w0 u : World} {p : Sl} {os : L8} (h : RowC w0 u p os) {a b : Int} {c d : UInt8} (ha : a = (c.toNat : Int)) (hd : b = (d.toNat : Int)) (hb : os.length + 2 ≤ 140737488355328) {ty : TypeId} {K : Sl → World → Prop} (hK : ∀ p' u', Row w0 u' p' (os ++ [c, d]) → K p' u') :
    RunK Tryd.prog .sl (Instr.buildSlice t_sl_uint8 2 #[(0, .int .u8 a), (1, .int .u8 b)]) u fun xs u1 => RunK Tryd.prog .sl (Builtin.append_ #[t_sl_uint8, t_sl_uint8] ty #[.slice p.A p.n p.c, .slice xs.A xs.n xs.c]) u1 K := by
  rcases h with h | ⟨hg, hrd, hpc, hp0⟩
  · exact h.app2 ha hd hb fun p' u' h' _ => hK p' u' h'
  · subst ha; subst hd
    have hpn := rd_n' hrd
    refine lit_rule (cells := (bv [c, d]).toArray) (e := t_uint8) (z := 1) (base := 0) (lit2 u _ _) rfl (by decide) (Nat.zero_le _) fun u1 hown1 hg1 _ => ?_
    refine append_full_rule (base := w0.heap.size) u_sl_uint8 i_uint8 rfl (by decide) (by decide) (hrd.grow hg1) (hown1.rd (by show 2 ≤ _; decide)) (by show p.c < p.n + 2; omega) hp0 (by show (p.n + 2) * 1 ≤ _; omega) (by have := hg.size; have := hg1.size; omega) fun s' w' hn' hown' hg' _ => ?_
    refine hK s' w' ⟨?_, (hg.trans hg1).trans hg'⟩
    rw [bv_append]; exact hown'
theorem shr4 {n : Nat} (h : n < 256) : bShr .u8 (n : Int) 4 = ((n / 16 : Nat) : Int) := by
  have := shr .u8 n 4 (by decide)
  rw [this]
theorem and15 {n : Nat} (h : n < 256) : bAnd .u8 (n : Int) 15 = ((n % 16 : Nat) : Int) := by
  have : ∀ k : Fin 256, bAnd .u8 (k.val : Int) 15 = ((k.val % 16 : Nat) : Int) := by decide +kernel
  exact this ⟨n, h⟩

/-! ### digits -/
def hexD (n : Nat) : UInt8 := if n < 10 then UInt8.ofNat (48 + n) else UInt8.ofNat (87 + n)
def hexB (b : UInt8) : L8 := [hexD (b.toNat / 16), hexD (b.toNat % 16)]
def hexX (l : L8) : L8 := [48, 120] ++ l.flatMap hexB
def unD (c : UInt8) : Option Nat := if 48 ≤ c.toNat ∧ c.toNat ≤ 57 then some (c.toNat - 48) else if 97 ≤ c.toNat ∧ c.toNat ≤ 102 then some (c.toNat - 87) else if 65 ≤ c.toNat ∧ c.toNat ≤ 70 then some (c.toNat - 55) else none
def unhexL : L8 → Option L8
  | a :: b :: r => match unD a, unD b, unhexL r with | some x, some y, some l => some (UInt8.ofNat (16 * x + y) :: l) | _, _, _ => none
  | _ => some []
def unhexX (s : L8) : Option L8 := if s.length % 2 = 0 ∧ (s.take 2 = [48, 120] ∨ s.take 2 = [48, 88]) then unhexL (s.drop 2) else none
theorem unD_lt {c : UInt8} {x : Nat} (h : unD c = some x) : x < 16 := by
  unfold unD at h
  split at h
  · injection h with h; omega
  split at h
  · injection h with h; omega
  split at h
  · injection h with h; omega
  · cases h
theorem unhexL_app : ∀ (n : Nat) {a : L8} (b : L8), a.length = 2 * n → unhexL (a ++ b) = match unhexL a, unhexL b with | some x, some y => some (x ++ y) | _, _ => none
  | 0, a, b, h => by
    have : a = [] := List.eq_nil_of_length_eq_zero (by omega)
    subst this
    show unhexL b = match some [], unhexL b with | some x, some y => some (x ++ y) | _, _ => none
    cases unhexL b <;> rfl
  | n + 1, a, b, h => by
    match a, h with
    | x :: y :: r, h =>
      have hr : r.length = 2 * n := by simp at h; omega
      have ih := unhexL_app n (a := r) b hr
      show (match unD x, unD y, unhexL (r ++ b) with | some x, some y, some l => some (UInt8.ofNat (16 * x + y) :: l) | _, _, _ => none) = match (match unD x, unD y, unhexL r with | some x, some y, some l => some (UInt8.ofNat (16 * x + y) :: l) | _, _, _ => none), unhexL b with | some x, some y => some (x ++ y) | _, _ => none
      rw [ih]
      cases unD x <;> cases unD y <;> cases unhexL r <;> cases unhexL b <;> rfl
theorem ls_app (a b : ByteArray) : ls (a ++ b) = ls a ++ ls b := by
  show (a ++ b).data.toList = a.data.toList ++ b.data.toList
  rw [ByteArray.data_append, Array.toList_append]
theorem bt_hex {n : Nat} (h : n < 16) : bt s_0123456789abcdef (n : Int) = ((hexD n).toNat : Int) := by
  have : ∀ k : Fin 16, bt s_0123456789abcdef (k.val : Int) = ((hexD k.val).toNat : Int) := by decide +kernel
  exact this ⟨n, h⟩
theorem bt_lt (s : ByteArray) (i : Int) : 0 ≤ bt s i ∧ bt s i < 256 := by
  unfold bt
  split
  · rename_i b _
    have := b.toNat_lt
    omega
  · omega
theorem bt_strC {l : L8} {i : Nat} (h : i < l.length) : bt (str l) (i : Int) = ((l[i]).toNat : Int) := bt_get (str l) i h
theorem digit_spec {c : UInt8} {w : World} {R : Int → World → Prop} (h : R (match unD c with | some x => (x : Int) | none => -1) w) : Cchap_digit (c.toNat : Int) w R := by
  refine Fchap_digit.calls _ _ _ ?_
  have hc := c.toNat_lt
  unfold unD at h
  by_cases h1 : 48 ≤ c.toNat ∧ c.toNat ≤ 57
  · rw [if_pos h1] at h
    refine br_t (by rw [Bool.and_eq_true, decide_eq_true_eq, decide_eq_true_eq]; omega) ?_
    rw [wu8 (by omega) (by omega), w64 (by omega) (by omega), show (c.toNat : Int) - 48 = ((c.toNat - 48 : Nat) : Int) by omega]
    exact h
  refine br_f (by rw [Bool.and_eq_false_iff, decide_eq_false_iff_not, decide_eq_false_iff_not]; omega) ?_
  rw [if_neg h1] at h
  by_cases h2 : 97 ≤ c.toNat ∧ c.toNat ≤ 102
  · rw [if_pos h2] at h
    refine br_t (by rw [Bool.and_eq_true, decide_eq_true_eq, decide_eq_true_eq]; omega) ?_
    rw [wu8 (by omega) (by omega), w64 (n := (c.toNat : Int) - 97) (by omega) (by omega), w64 (by omega) (by omega), show (c.toNat : Int) - 97 + 10 = ((c.toNat - 87 : Nat) : Int) by omega]
    exact h
  refine br_f (by rw [Bool.and_eq_false_iff, decide_eq_false_iff_not, decide_eq_false_iff_not]; omega) ?_
  rw [if_neg h2] at h
  by_cases h3 : 65 ≤ c.toNat ∧ c.toNat ≤ 70
  · rw [if_pos h3] at h
    refine br_t (by rw [Bool.and_eq_true, decide_eq_true_eq, decide_eq_true_eq]; omega) ?_
    rw [wu8 (by omega) (by omega), w64 (n := (c.toNat : Int) - 65) (by omega) (by omega), w64 (by omega) (by omega), show (c.toNat : Int) - 65 + 10 = ((c.toNat - 55 : Nat) : Int) by omega]
    exact h
  refine br_f (by rw [Bool.and_eq_false_iff, decide_eq_false_iff_not, decide_eq_false_iff_not]; omega) ?_
  rw [if_neg h3] at h
  exact h
theorem low_hex {k : Nat} (h : k < 16) : bt s_0123456789abcdef (k : Int) = ((if k < 10 then 48 + k else 87 + k : Nat) : Int) ∧ bt s_0123456789ABCDEF (k : Int) = ((if k < 10 then 48 + k else 55 + k : Nat) : Int) := by
  have : ∀ k : Fin 16, bt s_0123456789abcdef (k.val : Int) = ((if k.val < 10 then 48 + k.val else 87 + k.val : Nat) : Int) ∧ bt s_0123456789ABCDEF (k.val : Int) = ((if k.val < 10 then 48 + k.val else 55 + k.val : Nat) : Int) := by decide +kernel
  exact this ⟨k, h⟩
theorem value_spec {c : UInt8} {w : World} {R : Int → World → Prop} (h : R (match unD c with | some x => (x : Int) | none => -1) w) : Cpalletref19_value (c.toNat : Int) w R := by
  refine Fpalletref19_value.calls _ _ _ ?_
  have hc := c.toNat_lt
  have key : ∀ k, k < 16 → ((c.toNat = (if k < 10 then 48 + k else 87 + k) ∨ c.toNat = (if k < 10 then 48 + k else 55 + k)) ↔ unD c = some k) := by
    intro k hk
    unfold unD
    constructor
    · intro q
      rcases q with q | q <;> split at q <;> (split; · (congr 1; omega)) <;> (try omega) <;> (split; · (congr 1; omega)) <;> (try omega) <;> (split; · (congr 1; omega)) <;> omega
    · intro q
      split at q
      · injection q with q; left; rw [if_pos (by omega)]; omega
      split at q
      · injection q with q; left; rw [if_neg (by omega)]; omega
      split at q
      · injection q with q; right; rw [if_neg (by omega)]; omega
      · cases q
  refine ⟨fun x u => ∃ k : Nat, x = k ∧ k ≤ 16 ∧ u = w ∧ ∀ j, j < k → unD c ≠ some j, fun x _ => 16 - x.toNat, ⟨0, rfl, by decide, rfl, fun j q => absurd q (Nat.not_lt_zero _)⟩, ?_⟩
  rintro x u ⟨k, rfl, hk, rfl, hno⟩
  refine br_nat (y := 16) (fun hlt => ?_) (fun hge => ?_)
  · obtain ⟨e1, e2⟩ := low_hex hlt
    have s1 : (s_0123456789abcdef.size : Int) = 16 := rfl
    have s2 : (s_0123456789ABCDEF.size : Int) = 16 := rfl
    rw [s1, s2, e1, e2]
    refine ⟨⟨by omega, by omega⟩, fun _ => ⟨by omega, by omega⟩, ?_⟩
    have hb : ((((if k < 10 then 48 + k else 87 + k : Nat) : Int) == (c.toNat : Int)) || (((if k < 10 then 48 + k else 55 + k : Nat) : Int) == (c.toNat : Int))) = true ↔ unD c = some k := by
      rw [← key k hlt, Bool.or_eq_true, beq_iff_eq, beq_iff_eq]
      constructor <;> intro q <;> rcases q with q | q <;> first | (left; omega) | (right; omega)
    by_cases hu : unD c = some k
    · refine br_t (hb.2 hu) ?_
      rw [hu] at h; exact h
    · refine br_f (by rw [Bool.eq_false_iff]; exact fun q => hu (hb.1 q)) ?_
      rw [w64 (by omega) (by omega)]
      refine ⟨⟨k + 1, by omega, by omega, rfl, fun j hj => ?_⟩, by dsimp only; omega⟩
      by_cases e : j = k
      · subst e; exact hu
      · exact hno j (by omega)
  · cases hu : unD c with
    | some x => exact absurd hu (hno x (by have := unD_lt hu; omega))
    | none => rw [hu] at h; exact h
theorem hexF_len : ∀ l : L8, (l.flatMap hexB).length = 2 * l.length
  | [] => rfl
  | a :: r => by rw [List.flatMap_cons, List.length_append, hexF_len r]; simp [hexB]; omega
theorem hexX_len (l : L8) : (hexX l).length = 2 + 2 * l.length := by
  unfold hexX
  rw [List.length_append, hexF_len]; rfl
theorem hex_spec {p : Sl} {l : L8} {w : World} {R : ByteArray → World → Prop} (hp : Rd w 1 p (bv l)) (hl : l.length ≤ 70000000000000) (h : ∀ w', Grow w w' → R (str (hexX l)) w') : Cchap_Hex p w R := by
  refine Fchap_Hex.calls _ _ _ ?_
  have hn := rd_n' hp
  refine RowC.const (l := [48, 120]) (by kernel_rfl) rfl (by decide) (by decide) fun q u1 hq1 => ?_
  refine ⟨fun q x u => ∃ k : Nat, x = k ∧ k ≤ l.length ∧ RowC w u q ([48, 120] ++ (l.take k).flatMap hexB), fun _ x _ => l.length - x.toNat, ⟨0, rfl, Nat.zero_le _, by simpa using hq1⟩, ?_⟩
  rintro q x u ⟨k, rfl, hk, hq⟩
  rw [← hn]
  refine br_nat (fun hlt => ?_) (fun hge => ?_)
  · obtain ⟨ha, hc⟩ := rd_at (hp.grow hq.grow) hlt
    refine ⟨⟨by omega, by omega, ha⟩, _, by rw [Int.toNat_natCast]; exact hc, ?_⟩
    rintro u2 rfl
    have hg2 := keep_drew u
    have hb : (l.getD k 0).toNat < 256 := (l.getD k 0).toNat_lt
    generalize hbb : l.getD k 0 = b at *
    rw [shr4 hb, and15 hb]
    have e16 : (s_0123456789abcdef.size : Int) = 16 := rfl
    rw [e16]
    refine ⟨fun _ => True, trivial, ⟨by omega, by omega⟩, ⟨by omega, by omega⟩, ?_⟩
    have hlen : ((l.take k).flatMap hexB).length ≤ 2 * l.length := by rw [hexF_len, List.length_take]; omega
    have hq2 : RowC w u.drew q ([48, 120] ++ (l.take k).flatMap hexB) := by
      rcases hq with q' | ⟨e1, e2, e3, e4⟩
      · exact .inl (q'.go hg2)
      · exact .inr ⟨e1.trans hg2, e2.grow hg2, e3, e4⟩
    refine hq2.app2 (bt_hex (by omega)) (bt_hex (by omega)) (by show ([48, 120] ++ (l.take k).flatMap hexB).length + 2 ≤ _; rw [List.length_append]; show 2 + _ + 2 ≤ _; omega) fun q' u' hq' => ?_
    rw [w64 (by omega) (by omega)]
    refine ⟨⟨k + 1, by omega, by omega, .inl ?_⟩, by dsimp only; omega⟩
    have ek : l[k] = b := by rw [← hbb, List.getD_eq_getElem?_getD, List.getElem?_eq_getElem hlt]; rfl
    rw [List.take_succ_eq_append_getElem hlt, List.flatMap_append, ek, ← List.append_assoc]
    simpa [hexB] using hq'
  · have : k = l.length := by omega
    subst this
    rw [List.take_of_length_le (Nat.le_refl _)] at hq
    have hq : RowC w u q (hexX l) := hq
    exact ⟨_, convStr_rule u_sl_uint8 u_uint8 u_string (hq.rd (by rw [hexX_len]; omega)), h u hq.grow⟩
theorem ext_hex {n : Nat} (h : n < 16) : s_0123456789abcdef.extract n (n + 1) = str [hexD n] := by
  have : ∀ k : Fin 16, ls (s_0123456789abcdef.extract k.val (k.val + 1)) = [hexD k.val] := by decide +kernel
  have := this ⟨n, h⟩
  rw [← this, str_ls]
theorem rhex_spec {p : Sl} {l : L8} {w : World} {R : ByteArray → World → Prop} (hp : Rd w 1 p (bv l)) (hl : l.length ≤ 70000000000000) (h : ∀ w', Grow w w' → R (str (hexX l)) w') : Cpalletref19_Hex p w R := by
  refine Fpalletref19_Hex.calls _ _ _ ?_
  have hn := rd_n' hp
  refine ⟨fun q x u => ∃ k : Nat, x = k ∧ k ≤ l.length ∧ Grow w u ∧ q = str ([48, 120] ++ (l.take k).flatMap hexB), fun _ x _ => l.length - x.toNat, ⟨0, rfl, Nat.zero_le _, Keep.refl _ _, rfl⟩, ?_⟩
  rintro q x u ⟨k, rfl, hk, hg, rfl⟩
  rw [← hn]
  refine br_nat (fun hlt => ?_) (fun hge => ?_)
  · rintro u2 rfl
    have hg2 := hg.trans (keep_drew u)
    obtain ⟨ha, hc⟩ := rd_at (hp.grow hg2) hlt
    have hb : (l.getD k 0).toNat < 256 := (l.getD k 0).toNat_lt
    generalize hbb : l.getD k 0 = b at *
    have cc : ∀ v, v = u.drew → v.cell? ((gA p.A).add (((k : Nat) : Int).toNat * 1)) = some (.int .u8 (b.toNat : Int)) := fun v e => by rw [e, Int.toNat_natCast]; exact hc
    have e1 : IntKind.wrap .u8 ((b.toNat : Int).tdiv 16) = ((b.toNat / 16 : Nat) : Int) := by
      rw [show (b.toNat : Int).tdiv 16 = ((b.toNat / 16 : Nat) : Int) from rfl]; exact wu8 (by omega) (by omega)
    have e2 : IntKind.wrap .u8 (((b.toNat / 16 : Nat) : Int) + 1) = ((b.toNat / 16 + 1 : Nat) : Int) := by rw [wu8 (by omega) (by omega)]; omega
    have e3 : ((b.toNat : Int).tmod 16) = ((b.toNat % 16 : Nat) : Int) := rfl
    have e4 : IntKind.wrap .u8 (((b.toNat % 16 : Nat) : Int) + 1) = ((b.toNat % 16 + 1 : Nat) : Int) := by rw [wu8 (by omega) (by omega)]; omega
    have e16 : (s_0123456789abcdef.size : Int) = 16 := rfl
    refine ⟨fun v => v = u.drew, rfl, ⟨by omega, by omega, ha⟩, _, cc, by decide, ⟨by omega, by omega, ha⟩, _, cc, by decide, ?_⟩
    rw [e1, e2, e16]
    refine ⟨⟨by omega, by omega, by omega⟩, ⟨by omega, by omega, ha⟩, _, cc, by decide, ⟨by omega, by omega, ha⟩, _, cc, by decide, ?_⟩
    rw [e3, e4]
    rw [Int.toNat_natCast, Int.toNat_natCast, Int.toNat_natCast, Int.toNat_natCast, ext_hex (by omega), ext_hex (by omega)]
    have hlen : ((l.take k).flatMap hexB).length ≤ 2 * l.length := by rw [hexF_len, List.length_take]; omega
    have e5 : str ([48, 120] ++ (l.take k).flatMap hexB) ++ (str [hexD (b.toNat / 16)] ++ str [hexD (b.toNat % 16)]) = str ([48, 120] ++ (l.take (k + 1)).flatMap hexB) := by
      have ek : l[k] = b := by rw [← hbb, List.getD_eq_getElem?_getD, List.getElem?_eq_getElem hlt]; rfl
      refine ls_inj ?_
      rw [ls_app, ls_app, ls_str, ls_str, ls_str, ls_str, List.take_succ_eq_append_getElem hlt, List.flatMap_append, ek, ← List.append_assoc]
      simp [hexB]
    refine ⟨⟨by omega, by omega, by omega⟩, by rw [size_str, size_str]; exact (by decide : (2 : Nat) ≤ 9223372036854775807), ?_, ?_⟩
    · rw [ByteArray.size_append, size_str, size_str, size_str, List.length_append]
      show 2 + _ + (1 + 1) ≤ _
      omega
    · rw [e5, w64 (by omega) (by omega)]
      exact ⟨⟨k + 1, by omega, by omega, hg2, rfl⟩, by dsimp only; omega⟩
  · have : k = l.length := by omega
    subst this
    rw [List.take_of_length_le (Nat.le_refl _)]
    exact h u hg
end Go.Proofs.YtjfjanogfakclaaDoor

/- Layer 19: digits of base 16, read. -/
namespace Go.Proofs.YtjfjanogfakclaaDoor
open Go CF

theorem ext_str (l : L8) (i j : Nat) : (str l).extract i j = str ((l.take j).drop i) := by
  refine ls_inj ?_
  show ((str l).extract i j).data.toList = (l.take j).drop i
  rw [ByteArray.data_extract, Array.toList_extract]
  show List.extract l.toArray.toList i j = _
  rw [List.extract_eq_take_drop, List.drop_take]
theorem unhexX_none {s : L8} (h : ¬ (s.length % 2 = 0 ∧ (s.take 2 = [48, 120] ∨ s.take 2 = [48, 88]))) : unhexX s = none := if_neg h
theorem unhexX_of {s : L8} (h : s.length % 2 = 0 ∧ (s.take 2 = [48, 120] ∨ s.take 2 = [48, 88])) : unhexX s = unhexL (s.drop 2) := if_pos h
/-- a pair of digits behind those that were read -/
theorem unhex_step {r : L8} {k : Nat} {out : L8} (hr : r.length % 2 = 0) (hk : 2 * k < r.length) (ho : unhexL (r.take (2 * k)) = some out) :
    (∀ x y, unD (r.getD (2 * k) 0) = some x → unD (r.getD (2 * k + 1) 0) = some y → unhexL (r.take (2 * (k + 1))) = some (out ++ [UInt8.ofNat (16 * x + y)])) ∧
    ((unD (r.getD (2 * k) 0) = none ∨ unD (r.getD (2 * k + 1) 0) = none) → unhexL r = none) := by
  have h1 : 2 * k < r.length := hk
  have h2 : 2 * k + 1 < r.length := by omega
  have hl : (r.take (2 * k)).length = 2 * k := by rw [List.length_take]; omega
  have g1 : r.getD (2 * k) 0 = r[2 * k] := by rw [List.getD_eq_getElem?_getD, List.getElem?_eq_getElem h1]; rfl
  have g2 : r.getD (2 * k + 1) 0 = r[2 * k + 1] := by rw [List.getD_eq_getElem?_getD, List.getElem?_eq_getElem h2]; rfl
  have e : r.drop (2 * k) = r[2 * k] :: r[2 * k + 1] :: r.drop (2 * (k + 1)) := by
    rw [List.drop_eq_getElem_cons h1, List.drop_eq_getElem_cons h2]; rfl
  have et : r.take (2 * (k + 1)) = r.take (2 * k) ++ [r[2 * k], r[2 * k + 1]] := by
    rw [show 2 * (k + 1) = 2 * k + 1 + 1 by omega, List.take_succ_eq_append_getElem h2, List.take_succ_eq_append_getElem h1]; exact List.append_assoc _ _ _
  rw [g1, g2]
  constructor
  · intro x y hx hy
    rw [et, unhexL_app k _ hl, ho]
    show (match some out, (match unD r[2 * k], unD r[2 * k + 1], unhexL [] with | some x, some y, some l => some (UInt8.ofNat (16 * x + y) :: l) | _, _, _ => none) with | some x, some y => some (x ++ y) | _, _ => none) = _
    rw [hx, hy]; rfl
  · intro hn
    have : r = r.take (2 * k) ++ r.drop (2 * k) := (List.take_append_drop _ _).symm
    rw [this, unhexL_app k _ hl, ho, e]
    show (match some out, (match unD r[2 * k], unD r[2 * k + 1], unhexL (r.drop (2 * (k + 1))) with | some x, some y, some l => some (UInt8.ofNat (16 * x + y) :: l) | _, _, _ => none) with | some x, some y => some (x ++ y) | _, _ => none) = none
    rcases hn with hn | hn
    · rw [hn]
    · rw [hn]; cases unD r[2 * k] <;> rfl
theorem nib {x y : Nat} (hx : x < 16) (hy : y < 16) : IntKind.wrap .u8 (bOr .i64 (bShl .i64 (x : Int) 4) (y : Int)) = ((UInt8.ofNat (16 * x + y)).toNat : Int) := by
  have : ∀ (a b : Fin 16), IntKind.wrap .u8 (bOr .i64 (bShl .i64 (a.val : Int) 4) (b.val : Int)) = ((UInt8.ofNat (16 * a.val + b.val)).toNat : Int) := by decide +kernel
  exact this ⟨x, hx⟩ ⟨y, hy⟩
theorem nib' {x y : Nat} (hx : x < 16) (hy : y < 16) : IntKind.wrap .u8 (IntKind.wrap .i64 (IntKind.wrap .i64 (16 * (x : Int)) + (y : Int))) = ((UInt8.ofNat (16 * x + y)).toNat : Int) := by
  rw [w64 (n := 16 * (x : Int)) (by omega) (by omega), w64 (by omega) (by omega), wu8 (by omega) (by omega)]
  rw [UInt8.toNat_ofNat']
  omega
theorem unhex_spec {s : L8} {w : World} {R : Sl → Int → World → Prop} (hl : s.length ≤ 140737488351232)
    (h : ∀ l, unhexX s = some l → ∀ x w', Row w w' x l → R x 0 w') (hbad : unhexX s = none → ∀ w', Grow w w' → R nilS 13 w') : Cchap_Unhex (str s) w R := by
  refine Fchap_Unhex.calls _ _ _ ?_
  unfold Fchap_Unhex
  rw [size_str]
  have et : ((s.length : Int).tmod 2) = ((s.length % 2 : Nat) : Int) := rfl
  rw [et]
  have b1 : ((((s.length % 2 : Nat) : Int) != 0) || (decide ((s.length : Int) < 2))) = decide (s.length % 2 ≠ 0 ∨ s.length < 2) := by
    rw [Bool.eq_iff_iff, Bool.or_eq_true, bne_iff_ne, decide_eq_true_eq, decide_eq_true_eq]; omega
  rw [b1, ext_str, show (s_0x : ByteArray) = str [48, 120] from rfl, show (s_0X : ByteArray) = str [48, 88] from rfl, sEq_str, sEq_str, List.drop_zero]
  refine ⟨by decide, fun q => ?_, fun q => ?_, ?_⟩
  · rw [Bool.not_eq_true', decide_eq_false_iff_not] at q; omega
  · rw [Bool.and_eq_true] at q
    have q := q.2
    rw [Bool.not_eq_true', decide_eq_false_iff_not] at q; omega
  by_cases hc : s.length % 2 = 0 ∧ (s.take 2 = [48, 120] ∨ s.take 2 = [48, 88])
  · have h2 : 2 ≤ s.length := by
      rcases hc.2 with q | q
      · have := congrArg List.length q; rw [List.length_take] at this; simp at this; omega
      · have := congrArg List.length q; rw [List.length_take] at this; simp at this; omega
    refine br_f ?_ ?_
    · rw [Bool.or_eq_false_iff, decide_eq_false_iff_not, Bool.and_eq_false_iff]
      refine ⟨by omega, ?_⟩
      rcases hc.2 with q | q
      · left; simp [q]
      · right; simp [q]
    rw [unhexX_of hc] at h hbad
    generalize hr : s.drop 2 = r at *
    have hrl : r.length = s.length - 2 := by rw [← hr, List.length_drop]
    refine ⟨fun out i u => ∃ (k : Nat) (os : L8), i = ((2 + 2 * k : Nat) : Int) ∧ 2 * k ≤ r.length ∧ unhexL (r.take (2 * k)) = some os ∧ os.length ≤ k ∧ Row w u out os, fun _ i _ => s.length - i.toNat, ⟨0, [], rfl, Nat.zero_le _, rfl, Nat.le_refl _, Row.nil (Keep.refl _ _)⟩, ?_⟩
    rintro out i u ⟨k, os, rfl, hk, ho, hos, hrow⟩
    refine br_nat (fun hlt => ?_) (fun hge => ?_)
    · obtain ⟨st1, st2⟩ := unhex_step (by omega) (by omega) ho
      rintro u1 rfl
      have hg1 := keep_drew u
      have e1 : IntKind.wrap .i64 (((2 + 2 * k : Nat) : Int) + 1) = ((2 + 2 * k + 1 : Nat) : Int) := by rw [w64 (by omega) (by omega)]; omega
      have e2 : IntKind.wrap .i64 (((2 + 2 * k : Nat) : Int) + 2) = ((2 + 2 * (k + 1) : Nat) : Int) := by rw [w64 (by omega) (by omega)]; omega
      rw [e1, e2]
      have c1 : bt (str s) ((2 + 2 * k : Nat) : Int) = ((r.getD (2 * k) 0).toNat : Int) := by
        rw [bt_strC (by omega), ← hr, List.getD_eq_getElem?_getD, List.getElem?_drop, List.getElem?_eq_getElem (by omega)]; rfl
      have c2 : bt (str s) ((2 + 2 * k + 1 : Nat) : Int) = ((r.getD (2 * k + 1) 0).toNat : Int) := by
        rw [bt_strC (by omega), ← hr, List.getD_eq_getElem?_getD, List.getElem?_drop, List.getElem?_eq_getElem (by omega)]; rfl
      rw [c1, c2]
      refine ⟨fun _ => True, trivial, ⟨by omega, by omega⟩, ⟨by omega, by omega⟩, ?_⟩
      refine digit_spec ⟨trivial, digit_spec ?_⟩
      cases hx : unD (r.getD (2 * k) 0) with
      | none => exact br_t rfl (hbad (st2 (.inl hx)) _ (hrow.grow.trans hg1))
      | some x =>
        cases hy : unD (r.getD (2 * k + 1) 0) with
        | none => exact br_t (by simp) (hbad (st2 (.inr hy)) _ (hrow.grow.trans hg1))
        | some y =>
          have hx16 := unD_lt hx
          have hy16 := unD_lt hy
          refine br_f (by rw [Bool.or_eq_false_iff, decide_eq_false_iff_not, decide_eq_false_iff_not]; dsimp only; omega) ?_
          refine (hrow.go hg1).app1 (nib hx16 hy16) (by omega) fun q u2 hq _ => ?_
          refine ⟨⟨k + 1, _, rfl, by omega, st1 x y hx hy, by rw [List.length_append]; simp; omega, hq⟩, by dsimp only; omega⟩
    · have : 2 * k = r.length := by omega
      rw [this, List.take_of_length_le (Nat.le_refl _)] at ho
      exact h os ho out u hrow
  · refine br_t ?_ (hbad (unhexX_none hc) w (Keep.refl _ _))
    rw [Bool.or_eq_true, decide_eq_true_eq, Bool.and_eq_true, Bool.not_eq_true', Bool.not_eq_true', decide_eq_false_iff_not, decide_eq_false_iff_not]
    by_cases q1 : s.length % 2 ≠ 0 ∨ s.length < 2
    · exact .inl q1
    · right
      constructor <;> intro q <;> exact hc ⟨by omega, by simp [q]⟩
theorem two_cons {s : L8} (h : 2 ≤ s.length) : s.take 2 = [s.getD 0 0, s.getD 1 0] := by
  match s, h with
  | a :: b :: r, _ => rfl
theorem runhex_spec {s : L8} {w : World} {R : Sl → Int → World → Prop} (hl : s.length ≤ 140737488351232)
    (h : ∀ l, unhexX s = some l → ∀ x w', Row w w' x l → R x 0 w') (hbad : unhexX s = none → ∀ w', Grow w w' → R nilS 13 w') : Cpalletref19_Unhex (str s) w R := by
  refine Fpalletref19_Unhex.calls _ _ _ ?_
  unfold Fpalletref19_Unhex
  rw [size_str]
  have et : ((s.length : Int).tmod 2) = ((s.length % 2 : Nat) : Int) := rfl
  rw [et]
  have c0 : 2 ≤ s.length → bt (str s) 0 = ((s.getD 0 0).toNat : Int) := fun q => by
    have := bt_strC (l := s) (i := 0) (by omega)
    rw [List.getD_eq_getElem?_getD, List.getElem?_eq_getElem (by omega)]; exact this
  have c1 : 2 ≤ s.length → bt (str s) 1 = ((s.getD 1 0).toNat : Int) := fun q => by
    have := bt_strC (l := s) (i := 1) (by omega)
    rw [List.getD_eq_getElem?_getD, List.getElem?_eq_getElem (by omega)]; exact this
  refine ⟨fun q => ?_, fun q => ?_, fun q => ?_, fun _ => by decide, ?_⟩
  · rw [Bool.not_eq_true', decide_eq_false_iff_not] at q; omega
  · rw [Bool.not_eq_true', Bool.or_eq_false_iff, decide_eq_false_iff_not] at q; omega
  · rw [Bool.and_eq_true, Bool.not_eq_true', Bool.or_eq_false_iff, decide_eq_false_iff_not] at q; omega
  have hnat : ∀ {a b : UInt8}, (a.toNat : Int) = (b.toNat : Int) ↔ a = b := fun {a b} => ⟨fun q => UInt8.toNat_inj.1 (by omega), fun q => by rw [q]⟩
  by_cases hc : s.length % 2 = 0 ∧ (s.take 2 = [48, 120] ∨ s.take 2 = [48, 88])
  · have h2 : 2 ≤ s.length := by
      rcases hc.2 with q | q
      · have := congrArg List.length q; rw [List.length_take] at this; simp at this; omega
      · have := congrArg List.length q; rw [List.length_take] at this; simp at this; omega
    refine br_f ?_ ?_
    · rw [c0 h2, c1 h2]
      rw [two_cons h2] at hc
      simp only [List.cons.injEq, and_true] at hc
      rw [Bool.or_eq_false_iff, Bool.or_eq_false_iff, Bool.or_eq_false_iff, decide_eq_false_iff_not, bne_eq_false_iff_eq, Bool.and_eq_false_iff, bne_eq_false_iff_eq, bne_eq_false_iff_eq, beq_eq_false_iff_ne]
      refine ⟨⟨⟨by omega, ?_⟩, ?_⟩, by omega⟩
      · rcases hc.2 with q | q <;> rw [q.1] <;> rfl
      · rcases hc.2 with q | q
        · left; rw [q.2]; rfl
        · right; rw [q.2]; rfl
    rw [unhexX_of hc] at h hbad
    generalize hr : s.drop 2 = r at *
    have hrl : r.length = s.length - 2 := by rw [← hr, List.length_drop]
    refine ⟨fun out i u => ∃ (k : Nat) (os : L8), i = ((2 + 2 * k : Nat) : Int) ∧ 2 * k ≤ r.length ∧ unhexL (r.take (2 * k)) = some os ∧ os.length ≤ k ∧ Row w u out os, fun _ i _ => s.length - i.toNat, ⟨0, [], rfl, Nat.zero_le _, rfl, Nat.le_refl _, Row.nil (Keep.refl _ _)⟩, ?_⟩
    rintro out i u ⟨k, os, rfl, hk, ho, hos, hrow⟩
    refine br_nat (fun hlt => ?_) (fun hge => ?_)
    · obtain ⟨st1, st2⟩ := unhex_step (by omega) (by omega) ho
      have e1 : IntKind.wrap .i64 (((2 + 2 * k : Nat) : Int) + 1) = ((2 + 2 * k + 1 : Nat) : Int) := by rw [w64 (by omega) (by omega)]; omega
      have e2 : IntKind.wrap .i64 (((2 + 2 * k : Nat) : Int) + 2) = ((2 + 2 * (k + 1) : Nat) : Int) := by rw [w64 (by omega) (by omega)]; omega
      rw [e1, e2]
      have c1 : bt (str s) ((2 + 2 * k : Nat) : Int) = ((r.getD (2 * k) 0).toNat : Int) := by
        rw [bt_strC (by omega), ← hr, List.getD_eq_getElem?_getD, List.getElem?_drop, List.getElem?_eq_getElem (by omega)]; rfl
      have c2 : bt (str s) ((2 + 2 * k + 1 : Nat) : Int) = ((r.getD (2 * k + 1) 0).toNat : Int) := by
        rw [bt_strC (by omega), ← hr, List.getD_eq_getElem?_getD, List.getElem?_drop, List.getElem?_eq_getElem (by omega)]; rfl
      rw [c1, c2]
      refine ⟨⟨by omega, by omega⟩, ?_⟩
      refine value_spec ⟨⟨by omega, by omega⟩, value_spec ?_⟩
      cases hx : unD (r.getD (2 * k) 0) with
      | none => exact br_t rfl (hbad (st2 (.inl hx)) _ hrow.grow)
      | some x =>
        cases hy : unD (r.getD (2 * k + 1) 0) with
        | none => exact br_t (by simp) (hbad (st2 (.inr hy)) _ hrow.grow)
        | some y =>
          have hx16 := unD_lt hx
          have hy16 := unD_lt hy
          refine br_f (by rw [Bool.or_eq_false_iff, decide_eq_false_iff_not, decide_eq_false_iff_not]; dsimp only; omega) ?_
          refine hrow.app1 (nib' hx16 hy16) (by omega) fun q u2 hq _ => ?_
          refine ⟨⟨k + 1, _, rfl, by omega, st1 x y hx hy, by rw [List.length_append]; simp; omega, hq⟩, by dsimp only; omega⟩
    · have : 2 * k = r.length := by omega
      rw [this, List.take_of_length_le (Nat.le_refl _)] at ho
      exact h os ho out u hrow
  · refine br_t ?_ (hbad (unhexX_none hc) w (Keep.refl _ _))
    by_cases h2 : 2 ≤ s.length
    · rw [c0 h2, c1 h2]
      rw [two_cons h2] at hc
      simp only [List.cons.injEq, and_true] at hc
      rw [Bool.or_eq_true, Bool.or_eq_true, Bool.or_eq_true, decide_eq_true_eq, bne_iff_ne, Bool.and_eq_true, bne_iff_ne, bne_iff_ne, beq_iff_eq]
      by_cases q0 : s.getD 0 0 = 48
      · by_cases q1 : s.getD 1 0 = 120
        · right
          have : ¬ s.length % 2 = 0 := fun q => hc ⟨q, .inl ⟨q0, q1⟩⟩
          omega
        · by_cases q2 : s.getD 1 0 = 88
          · right
            have : ¬ s.length % 2 = 0 := fun q => hc ⟨q, .inr ⟨q0, q2⟩⟩
            omega
          · left; right
            exact ⟨fun q => q1 (hnat.1 q), fun q => q2 (hnat.1 q)⟩
      · left; left; right
        exact fun q => q0 (hnat.1 q)
    · rw [Bool.or_eq_true, Bool.or_eq_true, Bool.or_eq_true, decide_eq_true_eq]
      left; left; left; omega
end Go.Proofs.YtjfjanogfakclaaDoor

/- Layer 19: MD5 as it is meant, and the program's. -/
namespace Go.Proofs.YtjfjanogfakclaaDoor
open Go CF

structure Q4 where
  a : Int
  b : Int
  c : Int
  d : Int
def qv (q : Q4) : List Value := [.int .u32 q.a, .int .u32 q.b, .int .u32 q.c, .int .u32 q.d]
abbrev w32 (x : Int) : Int := IntKind.wrap .u32 x
def K32 : List Int := [3614090360, 3905402710, 606105819, 3250441966, 4118548399, 1200080426, 2821735955, 4249261313, 1770035416, 2336552879, 4294925233, 2304563134, 1804603682, 4254626195, 2792965006, 1236535329, 4129170786, 3225465664, 643717713, 3921069994, 3593408605, 38016083, 3634488961, 3889429448, 568446438, 3275163606, 4107603335, 1163531501, 2850285829, 4243563512, 1735328473, 2368359562, 4294588738, 2272392833, 1839030562, 4259657740, 2763975236, 1272893353, 4139469664, 3200236656, 681279174, 3936430074, 3572445317, 76029189, 3654602809, 3873151461, 530742520, 3299628645, 4096336452, 1126891415, 2878612391, 4237533241, 1700485571, 2399980690, 4293915773, 2240044497, 1873313359, 4264355552, 2734768916, 1309151649, 4149444226, 3174756917, 718787259, 3951481745]
def kX (i : Nat) : Int := K32.getD i 0
def shX (i : Nat) : Nat := ([7, 12, 17, 22, 5, 9, 14, 20, 4, 11, 16, 23, 6, 10, 15, 21] : List Nat).getD (4 * (i / 16) + i % 4) 0
def mixF (i : Nat) (b c d : Int) : Int :=
  if i / 16 = 1 then bOr .u32 (bAnd .u32 d b) (bAnd .u32 (bNot .u32 d) c) else if i / 16 = 2 then bXor .u32 (bXor .u32 b c) d else if i / 16 = 3 then bXor .u32 c (bOr .u32 b (bNot .u32 d)) else bOr .u32 (bAnd .u32 b c) (bAnd .u32 (bNot .u32 b) d)
def mixG (i : Nat) : Nat := if i / 16 = 1 then (5 * i + 1) % 16 else if i / 16 = 2 then (3 * i + 5) % 16 else if i / 16 = 3 then 7 * i % 16 else i
theorem mixG_lt {i : Nat} (h : i < 64) : mixG i < 16 := by
  unfold mixG
  split
  · omega
  split
  · omega
  split <;> omega
def rotX (x : Int) (n : Nat) : Int := bOr .u32 (bShl .u32 x n) (bShr .u32 x (32 - n))
def wordN (l : L8) (i : Nat) : Nat := (l.getD (4 * i) 0).toNat + 256 * (l.getD (4 * i + 1) 0).toNat + 65536 * (l.getD (4 * i + 2) 0).toNat + 16777216 * (l.getD (4 * i + 3) 0).toNat
theorem wordN_lt (l : L8) (i : Nat) : wordN l i < 4294967296 := by
  have h0 := (l.getD (4 * i) 0).toNat_lt
  have h1 := (l.getD (4 * i + 1) 0).toNat_lt
  have h2 := (l.getD (4 * i + 2) 0).toNat_lt
  have h3 := (l.getD (4 * i + 3) 0).toNat_lt
  unfold wordN
  omega
def roundX (l : L8) (i : Nat) (s : Q4) : Q4 := ⟨s.d, w32 (s.b + rotX (w32 (w32 (w32 (s.a + mixF i s.b s.c s.d) + kX i) + (wordN l (mixG i) : Int))) (shX i)), s.b, s.c⟩
def roundsX (l : L8) (s : Q4) : Nat → Q4
  | 0 => s
  | k + 1 => roundX l k (roundsX l s k)
def turnX (h : Q4) (l : L8) : Q4 := ⟨w32 (h.a + (roundsX l h 64).a), w32 (h.b + (roundsX l h 64).b), w32 (h.c + (roundsX l h 64).c), w32 (h.d + (roundsX l h 64).d)⟩
def q0 : Q4 := ⟨1732584193, 4023233417, 2562383102, 271733878⟩
def hashN (P : L8) : Nat → Q4
  | 0 => q0
  | k + 1 => turnX (hashN P k) (P.drop (64 * k))
def zerosX (n : Nat) : Nat := (119 - n % 64) % 64
def lenB (N : Nat) (k : Nat) : L8 := (List.range k).map fun i => UInt8.ofNat (N / 2 ^ (8 * i))
def padX (l : L8) : L8 := l ++ [128] ++ List.replicate (zerosX l.length) 0 ++ lenB (8 * l.length) 8
def qAt (q : Q4) (i : Nat) : Int := if i = 0 then q.a else if i = 1 then q.b else if i = 2 then q.c else q.d
def outX (q : Q4) : L8 := (List.range 16).map fun i => UInt8.ofNat ((qAt q (i / 4)).toNat / 2 ^ (8 * (i % 4)))
def md5X (l : L8) : L8 := outX (hashN (padX l) ((padX l).length / 64))
theorem padX_len (l : L8) : (padX l).length = l.length + 1 + zerosX l.length + 8 := by
  unfold padX lenB
  rw [List.length_append, List.length_append, List.length_append, List.length_replicate, List.length_map, List.length_range]; rfl
theorem padX_mod (l : L8) : (padX l).length % 64 = 0 := by rw [padX_len]; unfold zerosX; omega
theorem outX_len (q : Q4) : (outX q).length = 16 := by simp [outX]
def Q4.ok (q : Q4) : Prop := (0 ≤ q.a ∧ q.a < 4294967296) ∧ (0 ≤ q.b ∧ q.b < 4294967296) ∧ (0 ≤ q.c ∧ q.c < 4294967296) ∧ (0 ≤ q.d ∧ q.d < 4294967296)
theorem w32_rng (x : Int) : 0 ≤ w32 x ∧ w32 x < 4294967296 := by
  have e : w32 x = x % 4294967296 := by simp [w32, IntKind.wrap, IntKind.signed, IntKind.bits]
  rw [e]; omega
theorem hashN_ok (P : L8) : ∀ k, (hashN P k).ok
  | 0 => by unfold Q4.ok hashN q0; decide
  | k + 1 => ⟨w32_rng _, w32_rng _, w32_rng _, w32_rng _⟩
theorem qAt_ok {q : Q4} (h : q.ok) (i : Nat) : 0 ≤ qAt q i ∧ qAt q i < 4294967296 := by
  unfold qAt
  split
  · exact h.1
  split
  · exact h.2.1
  split
  · exact h.2.2.1
  · exact h.2.2.2
theorem qv_at (q : Q4) {i : Nat} (h : i < 4) : (qv q)[i]? = some (.int .u32 (qAt q i)) := by
  match i, h with
  | 0, _ => rfl
  | 1, _ => rfl
  | 2, _ => rfl
  | 3, _ => rfl
/-! ### the program's -/
theorem word_spec {i : Nat} {w : World} {R : Int → World → Prop} (hi : i < 64) (h : R (kX i) w) : Cchap_word (i : Int) w R := by
  refine Fchap_word.calls _ _ _ ⟨kX i, ⟨⟨by omega, by omega⟩, ?_⟩, h⟩
  rw [Int.toNat_natCast, Nat.mul_one]
  have e : ∀ (l : List Int) (i : Nat), i < l.length → (l.map (Value.int .u32)).toArray[i]? = some (.int .u32 (l.getD i 0)) := fun l i hi => by
    rw [List.getElem?_toArray, List.getElem?_map, List.getD_eq_getElem?_getD, List.getElem?_eq_getElem hi]; rfl
  exact e K32 i hi
theorem shift_spec {i : Nat} {w : World} {R : Int → World → Prop} (hi : i < 64) (h : R (shX i : Int) w) : Cchap_shift (i : Int) w R := by
  refine Fchap_shift.calls _ _ _ ⟨#[.int .i64 7, .int .i64 12, .int .i64 17, .int .i64 22, .int .i64 5, .int .i64 9, .int .i64 14, .int .i64 20, .int .i64 4, .int .i64 11, .int .i64 16, .int .i64 23, .int .i64 6, .int .i64 10, .int .i64 15, .int .i64 21], by kernel_rfl, by decide, ?_⟩
  have e1 : IntKind.wrap .i64 ((i : Int).tdiv 16) = ((i / 16 : Nat) : Int) := by
    rw [show (i : Int).tdiv 16 = ((i / 16 : Nat) : Int) from rfl]; exact w64 (by omega) (by omega)
  have e2 : ((i : Int).tmod 4) = ((i % 4 : Nat) : Int) := rfl
  rw [e1, e2]
  refine ⟨⟨by omega, by omega⟩, by decide, (shX i : Int), ⟨⟨by omega, by omega⟩, ?_⟩, h⟩
  rw [Int.toNat_natCast, Int.toNat_natCast]
  have : ∀ k : Fin 64, (((#[.int .i64 7, .int .i64 12, .int .i64 17, .int .i64 22, .int .i64 5, .int .i64 9, .int .i64 14, .int .i64 20, .int .i64 4, .int .i64 11, .int .i64 16, .int .i64 23, .int .i64 6, .int .i64 10, .int .i64 15, .int .i64 21] : Array Value).extract (k.val / 16 * 4) (k.val / 16 * 4 + 4))[k.val % 4 * 1]? = some (.int .i64 (shX k.val : Int))) := by
    intro ⟨k, hk⟩
    have hr : k / 16 < 4 := by omega
    have hc : k % 4 < 4 := by omega
    show _ = some (Value.int .i64 ((([7, 12, 17, 22, 5, 9, 14, 20, 4, 11, 16, 23, 6, 10, 15, 21] : List Nat).getD (4 * (k / 16) + k % 4) 0 : Nat) : Int))
    dsimp only
    generalize k / 16 = r at *
    generalize k % 4 = c at *
    match r, hr, c, hc with
    | 0, _, 0, _ => rfl
    | 0, _, 1, _ => rfl
    | 0, _, 2, _ => rfl
    | 0, _, 3, _ => rfl
    | 1, _, 0, _ => rfl
    | 1, _, 1, _ => rfl
    | 1, _, 2, _ => rfl
    | 1, _, 3, _ => rfl
    | 2, _, 0, _ => rfl
    | 2, _, 1, _ => rfl
    | 2, _, 2, _ => rfl
    | 2, _, 3, _ => rfl
    | 3, _, 0, _ => rfl
    | 3, _, 1, _ => rfl
    | 3, _, 2, _ => rfl
    | 3, _, 3, _ => rfl
  exact this ⟨i, hi⟩
theorem shX_rng {i : Nat} (h : i < 64) : 4 ≤ shX i ∧ shX i < 32 := by
  have : ∀ k : Fin 64, 4 ≤ shX k.val ∧ shX k.val < 32 := by decide +kernel
  exact this ⟨i, h⟩
theorem rotl_spec {x : Int} {k : Nat} {w : World} {R : Int → World → Prop} (hk : k < 32) (h : R (rotX x k) w) : Cmath_bits_RotateLeft32 x (k : Int) w R := by
  refine Fmath_bits_RotateLeft32.calls _ _ _ _ ?_
  unfold Fmath_bits_RotateLeft32
  have e1 : bAnd .u64 (IntKind.wrap .u64 (k : Int)) 31 = (k : Int) := by
    have : ∀ j : Fin 32, bAnd .u64 (IntKind.wrap .u64 (j.val : Int)) 31 = (j.val : Int) := by decide +kernel
    exact this ⟨k, hk⟩
  rw [e1, wu64 (n := 32 - (k : Int)) (by omega) (by omega), show (32 - (k : Int)) = ((32 - k : Nat) : Int) by omega]
  exact ⟨by omega, by omega, h⟩
theorem or4 {a b c d : Nat} (ha : a < 256) (hb : b < 256) (hc : c < 256) (hd : d < 256) :
    bOr .u32 (bOr .u32 (bOr .u32 (IntKind.wrap .u32 (a : Int)) (bShl .u32 (IntKind.wrap .u32 (b : Int)) 8)) (bShl .u32 (IntKind.wrap .u32 (c : Int)) 16)) (bShl .u32 (IntKind.wrap .u32 (d : Int)) 24) = ((a + 256 * b + 65536 * c + 16777216 * d : Nat) : Int) := by
  have ob : ∀ {x y : Nat} (s : Nat), x < 2 ^ s → y * 2 ^ s < 4294967296 → x + y * 2 ^ s < 4294967296 → bOr .u32 (x : Int) ((y * 2 ^ s : Nat) : Int) = ((x + y * 2 ^ s : Nat) : Int) := by
    intro x y s hx hy hxy
    unfold bOr
    show IntKind.wrap .u32 (((BitVec.ofInt 32 (x : Int) ||| BitVec.ofInt 32 ((y * 2 ^ s : Nat) : Int)).toNat : Nat) : Int) = _
    rw [BitVec.ofInt_natCast, BitVec.ofInt_natCast, BitVec.toNat_or, BitVec.toNat_ofNat, BitVec.toNat_ofNat, Nat.mod_eq_of_lt (by omega), Nat.mod_eq_of_lt (by omega)]
    have e : x ||| y * 2 ^ s = x + y * 2 ^ s := by
      have := Nat.shiftLeft_add_eq_or_of_lt (i := s) (b := x) hx y
      rw [Nat.shiftLeft_eq] at this
      rw [Nat.or_comm, ← this, Nat.add_comm]
    rw [e]
    exact wu32 (by omega) (by omega)
  have sh : ∀ {y : Nat} (s : Nat), s ≤ 24 → y < 256 → bShl .u32 (IntKind.wrap .u32 (y : Int)) s = ((y * 2 ^ s : Nat) : Int) := by
    intro y s hs hy
    have h2 : y * 2 ^ s < 4294967296 := by
      have : 2 ^ s ≤ 2 ^ 24 := Nat.pow_le_pow_right (by decide) hs
      have : y * 2 ^ s ≤ 255 * 2 ^ 24 := Nat.mul_le_mul (by omega) this
      omega
    unfold bShl
    have e : (min s (IntKind.bits .u32)) = s := by show min s 32 = s; omega
    rw [e, wu32 (n := (y : Int)) (by omega) (by omega)]
    have e2 : (y : Int) * 2 ^ s = ((y * 2 ^ s : Nat) : Int) := by rw [Int.natCast_mul, Int.natCast_pow]; rfl
    rw [e2]
    exact wu32 (by omega) (by omega)
  rw [sh 8 (by decide) hb, sh 16 (by decide) hc, sh 24 (by decide) hd, wu32 (n := (a : Int)) (by omega) (by omega)]
  rw [ob 8 (by omega) (by omega) (by omega), ob 16 (by omega) (by omega) (by omega), ob 24 (by omega) (by omega) (by omega)]
  congr 1
  omega
def wordsA (l : L8) (k : Nat) : Array Value := ((List.range 16).map fun i => Value.int .u32 (if i < k then (wordN l i : Int) else 0)).toArray
theorem wordsA_at (l : L8) {k i : Nat} (h : i < 16) : (wordsA l k)[i]? = some (.int .u32 (if i < k then (wordN l i : Int) else 0)) := by
  unfold wordsA
  rw [List.getElem?_toArray, List.getElem?_map, List.getElem?_range h]; rfl
theorem wordsA_set (l : L8) {k : Nat} (h : k < 16) : (wordsA l k).setIfInBounds k (.int .u32 (wordN l k : Int)) = wordsA l (k + 1) := by
  have hs : ∀ j, (wordsA l j).size = 16 := fun j => by simp [wordsA]
  apply Array.ext
  · rw [Array.size_setIfInBounds, hs, hs]
  · intro i h1 h2
    have hi : i < 16 := by rw [hs] at h2; exact h2
    refine Option.some.inj ?_
    rw [← Array.getElem?_eq_getElem, ← Array.getElem?_eq_getElem, wordsA_at l hi, Array.getElem?_setIfInBounds]
    by_cases e : k = i
    · subst e
      rw [if_pos rfl, if_pos (by rw [hs]; exact h), if_pos (by omega)]
    · rw [if_neg e, wordsA_at l hi]
      by_cases q : i < k
      · rw [if_pos q, if_pos (by omega)]
      · rw [if_neg q, if_neg (by omega)]
theorem turn_spec {h : Q4} {p : Sl} {l : L8} {w : World} {R : Array Value → World → Prop} (hp : Rd w 1 p (bv l)) (h64 : 64 ≤ l.length) (hR : ∀ w', Grow w w' → R (qv (turnX h l)).toArray w') : Cchap_turn (qv h).toArray p w R := by
  refine Fchap_turn.calls _ _ _ _ ?_
  have hn := rd_n' hp
  refine new_rule fun hb w1 hhb hb1 hg1 hsz1 => ?_
  refine new_rule fun ab w2 hab hb2 hg2 hsz2 => ?_
  refine new_rule fun mb w3 hmb hb3 hg3 hsz3 => ?_
  have hb1 : Blk w1 hb (qv h).toArray t_4_uint32 := hb1
  have g13 := (hg1.trans hg2).trans hg3
  have hh3 : Blk w3 hb (qv h).toArray t_4_uint32 := (hg2.trans hg3).heap hb1 (fun q => q)
  have ha3 : Blk w3 ab _ t_4_uint32 := hg3.heap hb2 (fun q => q)
  have hm3 : Blk w3 mb (wordsA l 0) t_16_uint32 := hb3
  have s1 := hg1.size
  refine ⟨fun x u => ∃ k : Nat, x = k ∧ k ≤ 16 ∧ Keep (fun b => b = mb) w3 u ∧ Blk u mb (wordsA l k) t_16_uint32, fun x _ => 16 - x.toNat, ⟨0, rfl, by decide, Keep.refl _ _, hm3⟩, ?_⟩
  rintro x u ⟨k, rfl, hk, hku, hmu⟩
  have hgu : Grow w u := g13.keep hku fun i hi q => by omega
  refine br_nat (y := 16) (fun hlt => ?_) (fun hge => ?_)
  · rintro u1 rfl
    have hgd := keep_drew u
    have hp1 := hp.grow (hgu.trans hgd)
    have e0 : IntKind.wrap .i64 (4 * (k : Int)) = ((4 * k : Nat) : Int) := by rw [w64 (by omega) (by omega)]; omega
    have e1 : ∀ j : Nat, j < 4 → IntKind.wrap .i64 (((4 * k : Nat) : Int) + (j : Int)) = ((4 * k + j : Nat) : Int) := fun j hj => by rw [w64 (by omega) (by omega)]; omega
    rw [e0, show IntKind.wrap .i64 (((4 * k : Nat) : Int) + 1) = _ from e1 1 (by decide), show IntKind.wrap .i64 (((4 * k : Nat) : Int) + 2) = _ from e1 2 (by decide), show IntKind.wrap .i64 (((4 * k : Nat) : Int) + 3) = _ from e1 3 (by decide)]
    obtain ⟨ha, c0⟩ := rd_at hp1 (i := 4 * k) (by omega)
    obtain ⟨_, c1⟩ := rd_at hp1 (i := 4 * k + 1) (by omega)
    obtain ⟨_, c2⟩ := rd_at hp1 (i := 4 * k + 2) (by omega)
    obtain ⟨_, c3⟩ := rd_at hp1 (i := 4 * k + 3) (by omega)
    refine ⟨fun v => v = u.drew, rfl, ⟨by omega, by omega, ha⟩, _, fun v e => by rw [e, Int.toNat_natCast]; exact c0, ⟨by omega, by omega, ha⟩, _, fun v e => by rw [e, Int.toNat_natCast]; exact c1, ⟨by omega, by omega, ha⟩, _, fun v e => by rw [e, Int.toNat_natCast]; exact c2,
      ⟨by omega, by omega, ha⟩, _, fun v e => by rw [e, Int.toNat_natCast]; exact c3, ⟨by omega, by omega⟩, ?_⟩
    rw [or4 (UInt8.toNat_lt _) (UInt8.toNat_lt _) (UInt8.toNat_lt _) (UInt8.toNat_lt _), add0, Int.toNat_natCast, Nat.mul_one, Nat.zero_add]
    refine put_rule (hgd.heap hmu (fun q => q)) (by simp [wordsA]; exact hlt) rfl fun u2 hb2 hk2 hsz2 => ?_
    have hset := wordsA_set l hlt
    unfold wordN at hset
    rw [hset] at hb2
    rw [w64 (by omega) (by omega)]
    exact ⟨⟨k + 1, by omega, by omega, (hku.grow hgd).trans hk2 fun _ _ q => q, hb2⟩, by dsimp only; omega⟩
  · have : k = 16 := by omega
    subst this
    rintro u1 rfl
    have hgd := keep_drew u
    have hne : hb ≠ mb := by omega
    have hh : Blk u.drew hb (qv h).toArray t_4_uint32 := hgd.heap (hku.heap hh3 hne) (fun q => q)
    have ha : Blk u.drew ab _ t_4_uint32 := hgd.heap (hku.heap ha3 (by omega)) (fun q => q)
    have hm : Blk u.drew mb (wordsA l 16) t_16_uint32 := hgd.heap hmu (fun q => q)
    have hc : ∀ {v : World} {i : Nat}, Blk v hb (qv h).toArray t_4_uint32 → i < 4 → v.cell? ((⟨hb, 0, none⟩ : Addr).add (i * 1)) = some (.int .u32 (qAt h i)) := fun q e => by
      rw [add0, q.cell, List.getElem?_toArray, Nat.mul_one, Nat.zero_add]; exact qv_at h e
    have hgw : Grow w u.drew := hgu.trans hgd
    generalize u.drew = v at *
    refine ⟨fun y => y = v, rfl, by decide, _, fun y e => by rw [e]; exact hc hh (i := 0) (by decide), by decide, _, fun y e => by rw [e]; exact hc hh (i := 1) (by decide), by decide, _, fun y e => by rw [e]; exact hc hh (i := 2) (by decide), by decide, _, fun y e => by rw [e]; exact hc hh (i := 3) (by decide), ?_⟩
    refine ⟨fun a b c d x y => ∃ k : Nat, x = k ∧ k ≤ 64 ∧ Grow v y ∧ (⟨a, b, c, d⟩ : Q4) = roundsX l h k, fun _ _ _ _ x _ => 64 - x.toNat, ⟨0, rfl, by decide, Keep.refl _ _, rfl⟩, ?_⟩
    rintro a b c d x y ⟨k, rfl, hk, hgy, hq⟩
    refine br_nat (y := 64) (fun hlt => ?_) (fun hge => ?_)
    · refine letX4 (fun a2 b2 c2 d2 z => Grow v z ∧ (⟨a2, b2, c2, d2⟩ : Q4) = roundsX l h (k + 1)) (fun a2 b2 c2 d2 z hz => ?_) (fun J => ⟨by decide, ?_⟩)
      · rw [w64 (by omega) (by omega)]
        exact ⟨⟨k + 1, by omega, by omega, hz.1, hz.2⟩, by dsimp only; omega⟩
      have e16 : IntKind.wrap .i64 ((k : Int).tdiv 16) = ((k / 16 : Nat) : Int) := by
        rw [show (k : Int).tdiv 16 = ((k / 16 : Nat) : Int) from rfl]; exact w64 (by omega) (by omega)
      rw [e16]
      refine letX2 (fun f g z => z = y ∧ f = mixF k b c d ∧ g = ((mixG k : Nat) : Int)) ?_ (fun J1 => ?_)
      · rintro f g z ⟨rfl, rfl, rfl⟩
        rintro z1 rfl
        have hgz := hgy.trans (keep_drew z)
        have hgl := mixG_lt hlt
        have cm : ∀ {o : World}, Grow v o → o.cell? ((⟨mb, 0, none⟩ : Addr).add (((mixG k : Nat) : Int).toNat * 1)) = some (.int .u32 (wordN l (mixG k) : Int)) := fun q => by
          rw [add0, Blk.cell (q.heap hm (fun q => q)), Int.toNat_natCast, Nat.mul_one, Nat.zero_add, wordsA_at l hgl, if_pos hgl]
        refine ⟨fun o => Grow v o, hgz, ⟨by omega, by omega⟩, _, fun o ho => cm ho, word_spec hlt ⟨hgz, shift_spec hlt ⟨hgz, rotl_spec (shX_rng hlt).2 ?_⟩⟩⟩
        refine J _ _ _ _ _ ⟨hgz, ?_⟩
        show _ = roundX l k (roundsX l h k)
        rw [← hq]; rfl
      · refine br_eq (fun q => ⟨by decide, J1 _ _ _ ⟨rfl, ?_, ?_⟩⟩) (fun q1 => br_eq (fun q => ⟨by decide, J1 _ _ _ ⟨rfl, ?_, ?_⟩⟩) (fun q2 => br_eq (fun q => ⟨by decide, J1 _ _ _ ⟨rfl, ?_, ?_⟩⟩) (fun q3 => J1 _ _ _ ⟨rfl, ?_, ?_⟩)))
        · unfold mixF; rw [if_pos (by omega)]
        · unfold mixG; rw [if_pos (by omega), w64 (n := 5 * (k : Int)) (by omega) (by omega), w64 (by omega) (by omega)]
          rw [show (5 * (k : Int) + 1) = ((5 * k + 1 : Nat) : Int) by omega]; rfl
        · unfold mixF; rw [if_neg (by omega), if_pos (by omega)]
        · unfold mixG; rw [if_neg (by omega), if_pos (by omega), w64 (n := 3 * (k : Int)) (by omega) (by omega), w64 (by omega) (by omega)]
          rw [show (3 * (k : Int) + 5) = ((3 * k + 5 : Nat) : Int) by omega]; rfl
        · unfold mixF; rw [if_neg (by omega), if_neg (by omega), if_pos (by omega)]
        · unfold mixG; rw [if_neg (by omega), if_neg (by omega), if_pos (by omega), w64 (by omega) (by omega)]
          rw [show (7 * (k : Int)) = ((7 * k : Nat) : Int) by omega]; rfl
        · unfold mixF; rw [if_neg (by omega), if_neg (by omega), if_neg (by omega)]
        · unfold mixG; rw [if_neg (by omega), if_neg (by omega), if_neg (by omega)]
    · have : k = 64 := by omega
      subst this
      have hhy : Blk y hb (qv h).toArray t_4_uint32 := hgy.heap hh (fun q => q)
      have hay : Blk y ab _ t_4_uint32 := hgy.heap ha (fun q => q)
      refine ⟨by decide, _, hc hhy (i := 0) (by decide), by decide, _, hc hhy (i := 1) (by decide), by decide, _, hc hhy (i := 2) (by decide), by decide, _, hc hhy (i := 3) (by decide), ?_⟩
      have e : (qv (turnX h l)).toArray = #[.int .u32 (IntKind.wrap .u32 (qAt h 0 + a)), .int .u32 (IntKind.wrap .u32 (qAt h 1 + b)), .int .u32 (IntKind.wrap .u32 (qAt h 2 + c)), .int .u32 (IntKind.wrap .u32 (qAt h 3 + d))] := by
        unfold turnX; rw [← hq]; rfl
      rw [← e]
      refine storeVar_rule hay i_4_uint32 (by rw [e]; rfl) (by rw [e]; rfl) (by rw [e]; simp [Value.oneCell']) fun z hbz hkz hsz => ?_
      refine ⟨_, loadVar_rule g_4_uint32 i_4_uint32 rfl (blk_cells hbz), hR z ?_⟩
      exact (hgw.trans hgy).keep hkz fun i hi q => by omega
end Go.Proofs.YtjfjanogfakclaaDoor

/- Layer 19: the program's sum. -/
namespace Go.Proofs.YtjfjanogfakclaaDoor
open Go CF

def z16v : Array Value := #[.int .u8 0, .int .u8 0, .int .u8 0, .int .u8 0, .int .u8 0, .int .u8 0, .int .u8 0, .int .u8 0, .int .u8 0, .int .u8 0, .int .u8 0, .int .u8 0, .int .u8 0, .int .u8 0, .int .u8 0, .int .u8 0]
theorem lenB_succ (N k : Nat) : lenB N (k + 1) = lenB N k ++ [UInt8.ofNat (N / 2 ^ (8 * k))] := by
  unfold lenB
  rw [List.range_succ, List.map_append]; rfl
theorem rep_succ (j : Nat) : List.replicate (j + 1) (0 : UInt8) = List.replicate j 0 ++ [0] := List.replicate_succ'
def outsA (q : Q4) (k : Nat) : Array Value := ((List.range 16).map fun i => Value.int .u8 (if i < k then (((outX q).getD i 0).toNat : Int) else 0)).toArray
theorem outsA_at (q : Q4) {k i : Nat} (h : i < 16) : (outsA q k)[i]? = some (.int .u8 (if i < k then (((outX q).getD i 0).toNat : Int) else 0)) := by
  unfold outsA
  rw [List.getElem?_toArray, List.getElem?_map, List.getElem?_range h]; rfl
theorem outsA_size (q : Q4) (k : Nat) : (outsA q k).size = 16 := by
  unfold outsA
  rw [List.size_toArray, List.length_map, List.length_range]
theorem outsA_set (q : Q4) {k : Nat} (h : k < 16) : (outsA q k).setIfInBounds k (.int .u8 (((outX q).getD k 0).toNat : Int)) = outsA q (k + 1) := by
  apply Array.ext
  · rw [Array.size_setIfInBounds, outsA_size, outsA_size]
  · intro i h1 h2
    have hi : i < 16 := by rw [outsA_size] at h2; exact h2
    refine Option.some.inj ?_
    rw [← Array.getElem?_eq_getElem, ← Array.getElem?_eq_getElem, outsA_at q hi, Array.getElem?_setIfInBounds]
    by_cases e : k = i
    · subst e
      rw [if_pos rfl, if_pos (by rw [outsA_size]; exact h), if_pos (by omega)]
    · rw [if_neg e, outsA_at q hi]
      by_cases r : i < k
      · rw [if_pos r, if_pos (by omega)]
      · rw [if_neg r, if_neg (by omega)]
theorem outsA_all (q : Q4) : outsA q 16 = (bv (outX q)).toArray := by
  apply Array.ext
  · rw [outsA_size, List.size_toArray, bv_length, outX_len]
  · intro i h1 h2
    have hi : i < 16 := by rw [outsA_size] at h1; exact h1
    refine Option.some.inj ?_
    rw [← Array.getElem?_eq_getElem, ← Array.getElem?_eq_getElem, outsA_at q hi, if_pos hi, List.getElem?_toArray, bv_get _ _ (by rw [outX_len]; exact hi), List.getD_eq_getElem?_getD, List.getElem?_eq_getElem (by rw [outX_len]; exact hi)]; rfl
theorem outX_at (q : Q4) {i : Nat} (h : i < 16) : (outX q).getD i 0 = UInt8.ofNat ((qAt q (i / 4)).toNat / 2 ^ (8 * (i % 4))) := by
  unfold outX
  rw [List.getD_eq_getElem?_getD, List.getElem?_map, List.getElem?_range h]; rfl
theorem cutA_block {a : Option Addr} {m l z : Nat} {b : Addr} (h : cutA a m l z = some b) : ∃ a', a = some a' ∧ b.block = a'.block := by
  unfold cutA at h
  split at h
  · exact ⟨b, h, rfl⟩
  · cases a with
    | none => cases h
    | some a =>
      injection h with h
      exact ⟨a, rfl, by rw [← h, add_block]⟩
set_option maxHeartbeats 1000000 in
theorem sum_spec {p : Sl} {l : L8} {w : World} {R : Array Value → World → Prop} (hp : Rd w 1 p (bv l)) (hl : l.length ≤ 140737488355000) (hR : ∀ w', Grow w w' → R (bv (md5X l)).toArray w') : Cchap_Sum p w R := by
  refine Fchap_Sum.calls _ _ _ ?_
  have hn := rd_n' hp
  refine new_rule fun ab w1 hab hb1 hg1 hsz1 => ?_
  have hb1 : Blk w1 ab z16v t_16_uint8 := hb1
  have hp1 := hp.grow hg1
  refine (Row.nil (Keep.refl _ w1)).app (x := p) (l := l) hp1 (by rw [List.length_nil]; omega) fun q1 w2 hq1 _ => ?_
  rw [List.nil_append] at hq1
  refine hq1.app1 (c := 128) rfl (by omega) fun q2 w3 hq2 _ => ?_
  have hzl : zerosX l.length < 64 := by unfold zerosX; omega
  refine ⟨fun q u => ∃ j : Nat, j ≤ zerosX l.length ∧ Row w1 u q (l ++ [128] ++ List.replicate j 0), fun q _ => l.length + 1 + zerosX l.length - q.n, ⟨0, Nat.zero_le _, by simpa using hq2⟩, ?_⟩
  rintro q u ⟨j, hj, hq⟩
  have hqn : q.n = l.length + 1 + j := by have := hq.n; rw [List.length_append, List.length_append, List.length_replicate] at this; exact this
  refine ⟨by decide, ?_⟩
  rw [show ((q.n : Int).tmod 64) = ((q.n % 64 : Nat) : Int) from rfl]
  by_cases hjz : j = zerosX l.length
  · refine br_f (by rw [bne_eq_false_iff_eq]; unfold zerosX at hjz; omega) ?_
    -- the length
    generalize hZ : l ++ [128] ++ List.replicate j 0 = Z at *
    have hZl : Z.length = l.length + 1 + j := by rw [← hZ, List.length_append, List.length_append, List.length_replicate]; rfl
    refine ⟨fun q x u => ∃ k : Nat, x = k ∧ k ≤ 8 ∧ Row w1 u q (Z ++ lenB (8 * l.length) k), fun _ x _ => 8 - x.toNat, ⟨0, rfl, by decide, by simpa [lenB] using hq⟩, ?_⟩
    rintro q x v ⟨k, rfl, hk, hqv⟩
    have hbl : ∀ k, (lenB (8 * l.length) k).length = k := fun k => by unfold lenB; rw [List.length_map, List.length_range]
    refine br_nat (y := 8) (fun hlt => ?_) (fun hge => ?_)
    · have e1 : IntKind.wrap .i64 (8 * (k : Int)) = ((8 * k : Nat) : Int) := by rw [w64 (by omega) (by omega)]; omega
      have e2 : IntKind.wrap .u64 (IntKind.wrap .u64 (p.n : Int) * 8) = ((8 * l.length : Nat) : Int) := by
        rw [wu64 (n := (p.n : Int)) (by omega) (by omega), wu64 (by omega) (by omega)]; omega
      rw [e1, e2, Int.toNat_natCast, shr .u64 (8 * l.length) (8 * k) (by show 8 * k ≤ 64; omega)]
      refine ⟨by omega, hqv.app1 (wrap_u8 _) (by rw [List.length_append, hbl]; omega) fun q' u' hq' _ => ?_⟩
      rw [w64 (by omega) (by omega)]
      refine ⟨⟨k + 1, by omega, by omega, ?_⟩, by dsimp only; omega⟩
      rw [lenB_succ, ← List.append_assoc]; exact hq'
    · have : k = 8 := by omega
      subst this
      have hP : Z ++ lenB (8 * l.length) 8 = padX l := by rw [← hZ, hjz]; rfl
      rw [hP] at hqv
      have hPl := padX_len l
      have hPm := padX_mod l
      have hPb : (padX l).length ≤ 140737488355328 := by omega
      unfold md5X at hR
      generalize padX l = P at *
      have hPr := hqv.rd hPb
      have hbv : Blk v ab z16v t_16_uint8 := hqv.grow.heap hb1 (fun q => q)
      have gwv : Grow w v := hg1.trans hqv.grow
      refine new_rule fun hb v1 hhb hbh1 hgv1 hszv1 => ?_
      refine storeVar_rule (cells := (qv q0).toArray) hbh1 i_4_uint32 rfl rfl (by simp [qv, Value.oneCell']) fun v2 hbh2 hkv2 hszv2 => ?_
      have gv2 : Grow v v2 := hgv1.keep hkv2 fun i hi q => by omega
      refine ⟨fun q u => ∃ k : Nat, 64 * k ≤ P.length ∧ Grow v u ∧ Rd u 1 q (bv (P.drop (64 * k))) ∧ (∀ a, q.A = some a → a.block < v.heap.size) ∧ Blk u hb (qv (hashN P k)).toArray t_4_uint32, fun q _ => q.n, ⟨0, Nat.zero_le _, gv2, by simpa using hPr.grow gv2, fun a ha => (hqv.own.ge a.block (by simp [Sl.blk, ha])).2, hbh2⟩, ?_⟩
      rintro q u ⟨k, hk, hgu, hrd, hqa, hbu⟩
      have hqn := rd_n' hrd
      rw [List.length_drop] at hqn
      refine br_dec (fun hlt => ?_) (fun hge => ?_)
      · have h64 : 64 ≤ (P.drop (64 * k)).length := by rw [List.length_drop]; omega
        refine ⟨_, loadVar_rule g_4_uint32 i_4_uint32 rfl (blk_cells hbu), turn_spec hrd h64 fun u2 hg2 => ?_⟩
        refine storeVar_rule (cells := (qv (hashN P (k + 1))).toArray) (hg2.heap hbu (fun q => q)) i_4_uint32 rfl rfl (by simp [qv, Value.oneCell']) fun u3 hb3 hk3 hsz3 => ?_
        have hcap := hrd.cap
        have g3 : Grow v u3 := (hgu.trans hg2).keep hk3 fun i hi q => by omega
        have hqa' : ∀ a, cutA q.A q.c 64 1 = some a → a.block < v.heap.size := fun a ha => by
          obtain ⟨a', h1, h2⟩ := cutA_block ha
          rw [h2]; exact hqa a' h1
        refine ⟨⟨by decide, by omega, by omega, hcap⟩, ⟨k + 1, by omega, g3, ?_, hqa', hb3⟩, by show q.n - 64 < q.n; omega⟩
        have hcut := hrd.cutB (l := 64) (k := q.n) (by omega) (Nat.le_refl _)
        rw [List.drop_drop, List.take_of_length_le (by rw [List.length_drop]; omega), show 64 * k + 64 = 64 * (k + 1) by omega] at hcut
        refine (hcut.grow hg2).keep hk3 fun a ha hlt' r => ?_
        have := hqa' a ha
        omega
      · have hk2 : k = P.length / 64 := by omega
        subst hk2
        have hok := hashN_ok P (P.length / 64)
        generalize hashN P (P.length / 64) = H at *
        refine new_rule fun ob u1 hob hbo1 hgo1 hszo1 => ?_
        have hbo1 : Blk u1 ob (outsA H 0) t_16_uint8 := hbo1
        have hbu1 : Blk u1 hb (qv H).toArray t_4_uint32 := hgo1.heap hbu (fun q => q)
        have hlu := lt_of_heap hbu
        refine ⟨fun x z => ∃ k : Nat, x = k ∧ k ≤ 16 ∧ Keep (fun b => b = ob) u1 z ∧ Blk z ob (outsA H k) t_16_uint8, fun x _ => 16 - x.toNat, ⟨0, rfl, by decide, Keep.refl _ _, hbo1⟩, ?_⟩
        rintro x z ⟨k, rfl, hk16, hkz, hbz⟩
        have hgz : Grow w z := ((gwv.trans hgu).trans hgo1).keep hkz fun i hi q => by have := gwv.size; have := hgu.size; omega
        refine br_nat (y := 16) (fun hlt => ?_) (fun hge => ?_)
        · have e4 : IntKind.wrap .i64 ((k : Int).tdiv 4) = ((k / 4 : Nat) : Int) := by
            rw [show (k : Int).tdiv 4 = ((k / 4 : Nat) : Int) from rfl]; exact w64 (by omega) (by omega)
          have e8 : IntKind.wrap .i64 (8 * ((k : Int).tmod 4)) = ((8 * (k % 4) : Nat) : Int) := by
            rw [show (k : Int).tmod 4 = ((k % 4 : Nat) : Int) from rfl, w64 (by omega) (by omega)]; omega
          rw [e4, e8]
          have hr := qAt_ok hok (k / 4)
          have hc : z.cell? ((⟨hb, 0, none⟩ : Addr).add (((k / 4 : Nat) : Int).toNat * 1)) = some (.int .u32 (((qAt H (k / 4)).toNat : Nat) : Int)) := by
            rw [add0, Blk.cell (hkz.heap hbu1 (by omega)), List.getElem?_toArray, Int.toNat_natCast, Nat.mul_one, Nat.zero_add, qv_at H (by omega), Int.toNat_of_nonneg hr.1]
          refine ⟨by decide, ⟨by omega, by omega⟩, _, hc, by decide, by omega, ⟨by omega, by omega⟩, ?_⟩
          rw [Int.toNat_natCast, Int.toNat_natCast, shr .u32 _ (8 * (k % 4)) (by show 8 * (k % 4) ≤ 32; omega), wrap_u8, ← outX_at H hlt, add0, Nat.mul_one, Nat.zero_add]
          refine put_rule hbz (by rw [outsA_size]; exact hlt) rfl fun z2 hb2 hk2 hsz2 => ?_
          rw [outsA_set H hlt] at hb2
          rw [w64 (by omega) (by omega)]
          exact ⟨⟨k + 1, by omega, by omega, hkz.trans hk2 fun _ _ q => q, hb2⟩, by dsimp only; omega⟩
        · have : k = 16 := by omega
          subst this
          have hoa := outsA_all H
          have haz : Blk z ab z16v t_16_uint8 := hkz.heap (hgo1.heap (hgu.heap hbv (fun q => q)) (fun q => q)) (by have := lt_of_heap hbv; have := hgu.size; omega)
          refine ⟨outsA H 16, ?_, ?_⟩
          · have := loadVar_rule (cs := bv (outX H)) g_16_uint8 i_16_uint8 (by rw [bv_length, outX_len]) (blk_cells (by rw [← hoa]; exact hbz))
            rw [← hoa] at this; exact this
          · refine storeVar_rule haz i_16_uint8 (by rw [outsA_size]) (by rw [outsA_size]; rfl) (by rw [hoa]; simpa using bv_one' (outX H)) fun z2 hb2 hk2 hsz2 => ?_
            rw [hoa] at hb2
            refine ⟨_, loadVar_rule (cs := bv (outX H)) g_16_uint8 i_16_uint8 (by rw [bv_length, outX_len]) (blk_cells hb2), hR z2 (hgz.keep hk2 fun i hi q => by omega)⟩
  · refine br_t (by rw [bne_iff_ne]; unfold zerosX at hjz hj hzl; omega) ?_
    refine hq.app1 (c := 0) rfl (by rw [List.length_append, List.length_append, List.length_replicate]; show l.length + 1 + j + 1 ≤ _; omega) fun q' u' hq' _ => ?_
    have hn' := hq'.n
    rw [List.length_append, List.length_append, List.length_append, List.length_replicate] at hn'
    have hn' : q'.n = l.length + 1 + j + 1 := hn'
    refine ⟨⟨j + 1, by omega, ?_⟩, by dsimp only; omega⟩
    rw [rep_succ, ← List.append_assoc]; exact hq'
end Go.Proofs.YtjfjanogfakclaaDoor

/- Layer 19: the reference's sum. -/
namespace Go.Proofs.YtjfjanogfakclaaDoor
open Go CF

def mixK (k : Nat) : List Value := (List.range 64).map fun i => Value.int .u32 (if i < k then kX i else 0)
theorem mixK_len (k : Nat) : (mixK k).length = 64 := by unfold mixK; rw [List.length_map, List.length_range]
theorem mixK_at {k i : Nat} (h : i < 64) : (mixK k)[i]? = some (.int .u32 (if i < k then kX i else 0)) := by
  unfold mixK
  rw [List.getElem?_map, List.getElem?_range h]; rfl
theorem mixK_set {k : Nat} (h : k < 64) : (mixK k).set k (.int .u32 (kX k)) = mixK (k + 1) := by
  apply List.ext_getElem?
  intro i
  by_cases hi : i < 64
  · rw [mixK_at hi, List.getElem?_set]
    by_cases e : k = i
    · subst e
      rw [if_pos rfl, if_pos (by rw [mixK_len]; exact h), if_pos (by omega)]
    · rw [if_neg e, mixK_at hi]
      by_cases q : i < k
      · rw [if_pos q, if_pos (by omega)]
      · rw [if_neg q, if_neg (by omega)]
  · rw [List.getElem?_eq_none (by rw [List.length_set, mixK_len]; omega), List.getElem?_eq_none (by rw [mixK_len]; omega)]
theorem mixK_all : mixK 64 = K32.map (Value.int .u32) := by kernel_rfl
theorem mixK_zero : mixK 0 = List.replicate 64 (.int .u32 0) := by kernel_rfl
theorem backK {k : Nat} (h : k < 64) : (K32.reverse.map (Value.int .u32))[63 - k]? = some (.int .u32 (kX k)) := by
  have hl : K32.length = 64 := rfl
  rw [List.getElem?_map, List.getElem?_reverse (by omega), hl, show 64 - 1 - (63 - k) = k by omega]
  unfold kX
  rw [List.getD_eq_getElem?_getD, List.getElem?_eq_getElem (by omega)]; rfl
theorem constants_spec {w : World} {R : Sl → World → Prop} (h : ∀ x w', Own w' w.heap.size t_uint32 1 x (K32.map (.int .u32)) → Grow w w' → R x w') : Cpalletref19_constants w R := by
  refine Fpalletref19_constants.calls _ _ ?_
  refine lit_rule (cells := (K32.reverse.map (Value.int .u32)).toArray) (e := t_uint32) (z := 1) (base := w.heap.size) (by kernel_rfl) rfl (by decide) (Nat.le_refl _) fun w1 hown1 hg1 hsz1 => ?_
  refine make_rule (n := 64) u_sl_uint32 i_uint32 rfl (by decide) (by decide) (Nat.le_refl w1.heap.size) fun w2 hown2 hg2 hsz2 => ?_
  rw [← mixK_zero] at hown2
  have hbk : ∀ {u : World}, Keep (fun b => b = w1.heap.size) w2 u → Rd u 1 ⟨some ⟨w.heap.size, 0, none⟩, 64, 64⟩ (K32.reverse.map (Value.int .u32)) := fun k =>
    ((hown1.grow hg2).keep k fun b hb q => by simp [Sl.blk] at hb; omega).rd (by show 64 ≤ _; decide)
  refine ⟨fun x u => ∃ k : Nat, x = k ∧ k ≤ 64 ∧ Keep (fun b => b = w1.heap.size) w2 u ∧ Own u w1.heap.size t_uint32 1 ⟨some ⟨w1.heap.size, 0, none⟩, 64, 64⟩ (mixK k), fun x _ => 64 - x.toNat, ⟨0, rfl, by decide, Keep.refl _ _, hown2⟩, ?_⟩
  rintro x u ⟨k, rfl, hk, hku, hou⟩
  refine br_nat (y := 64) (fun hlt => ?_) (fun hge => ?_)
  · have e1 : IntKind.wrap .i64 (63 - (k : Int)) = ((63 - k : Nat) : Int) := by rw [w64 (by omega) (by omega)]; omega
    rw [e1]
    obtain ⟨ha, hc⟩ := rd_val (hbk hku) (i := 63 - k) (by rw [List.length_map]; show 63 - k < 64; omega)
    have hv := backK hlt
    rw [List.getElem?_eq_getElem (by rw [List.length_map]; show 63 - k < 64; omega)] at hv
    rw [Option.some.inj hv] at hc
    refine ⟨⟨by omega, by show ((63 - k : Nat) : Int) < 64; omega, ha⟩, kX k, by rw [Int.toNat_natCast]; exact hc, ⟨by omega, by show (k : Int) < 64; omega, rfl⟩, ?_⟩
    rw [Int.toNat_natCast]
    refine own_put hou (i := k) (by show k < 64; exact hlt) rfl fun u2 ho2 hk2 hsz2 => ?_
    rw [mixK_set hlt] at ho2
    rw [w64 (by omega) (by omega)]
    exact ⟨⟨k + 1, by omega, by omega, hku.trans hk2 (fun b _ q => by simp [Sl.blk] at q; exact q), ho2⟩, by dsimp only; omega⟩
  · have : k = 64 := by omega
    subst this
    rw [mixK_all] at hou
    have s1 := hg1.size
    exact h _ u (hou.mono s1) ((hg1.trans hg2).keep hku fun i hi q => by omega)
theorem left_spec {x : Int} {k : Nat} {w : World} {R : Int → World → Prop} (hk : k < 32) (h : ∀ w', Grow w w' → R (rotX x k) w') : Cpalletref19_left x (k : Int) w R := by
  refine Fpalletref19_left.calls _ _ _ _ ?_
  rintro w0 rfl
  rw [w64 (n := 32 - (k : Int)) (by omega) (by omega), show (32 - (k : Int)) = ((32 - k : Nat) : Int) by omega]
  exact ⟨by omega, by omega, h _ (keep_drew w)⟩
def mAt (B : Nat → Nat) : Nat → Nat
  | 0 => 0
  | t + 1 => mAt B t * 256 + B (3 - t)
theorem mAt_lt {B : Nat → Nat} (hB : ∀ i, B i < 256) : ∀ t, mAt B t < 256 ^ t
  | 0 => by show 0 < 1; decide
  | t + 1 => by
    have := mAt_lt hB t
    have := hB (3 - t)
    show mAt B t * 256 + B (3 - t) < 256 ^ (t + 1)
    rw [Nat.pow_succ]; omega
def turnsV : List Value := [.int .i64 7, .int .i64 12, .int .i64 17, .int .i64 22, .int .i64 5, .int .i64 9, .int .i64 14, .int .i64 20, .int .i64 4, .int .i64 11, .int .i64 16, .int .i64 23, .int .i64 6, .int .i64 10, .int .i64 15, .int .i64 21]
theorem turnsV_at {i : Nat} (h : i < 64) : turnsV[4 * (i / 16) + i % 4]? = some (.int .i64 (shX i : Int)) := by
  have hl : 4 * (i / 16) + i % 4 < 16 := by omega
  have e : turnsV = ([7, 12, 17, 22, 5, 9, 14, 20, 4, 11, 16, 23, 6, 10, 15, 21] : List Nat).map (fun n : Nat => Value.int .i64 (n : Int)) := rfl
  unfold shX
  rw [e, List.getElem?_map, List.getD_eq_getElem?_getD, List.getElem?_eq_getElem (by exact hl)]; rfl
set_option maxHeartbeats 2000000 in
theorem rsum_spec {p : Sl} {l : L8} {w : World} {R : Sl → World → Prop} (hp : Rd w 1 p (bv l)) (hl : l.length ≤ 140737488355000) (hR : ∀ x w', Row w w' x (md5X l) → R x w') : Cpalletref19_Sum p w R := by
  refine Fpalletref19_Sum.calls _ _ _ ?_
  have hn := rd_n' hp
  refine (Row.nil (Keep.refl _ w)).app (x := p) (l := l) hp (by rw [List.length_nil]; omega) fun q1 w2 hq1 _ => ?_
  rw [List.nil_append] at hq1
  refine hq1.app1 (c := 128) rfl (by omega) fun q2 w3 hq2 _ => ?_
  have hzl : zerosX l.length < 64 := by unfold zerosX; omega
  refine ⟨fun q u => ∃ j : Nat, j ≤ zerosX l.length ∧ Row w u q (l ++ [128] ++ List.replicate j 0), fun q _ => l.length + 1 + zerosX l.length - q.n, ⟨0, Nat.zero_le _, by simpa using hq2⟩, ?_⟩
  rintro q u ⟨j, hj, hq⟩
  have hqn : q.n = l.length + 1 + j := by have := hq.n; rw [List.length_append, List.length_append, List.length_replicate] at this; exact this
  refine ⟨by decide, ?_⟩
  rw [show ((q.n : Int).tmod 64) = ((q.n % 64 : Nat) : Int) from rfl]
  by_cases hjz : j = zerosX l.length
  · refine br_f (by rw [bne_eq_false_iff_eq]; unfold zerosX at hjz; omega) ?_
    generalize hZ : l ++ [128] ++ List.replicate j 0 = Z at *
    have hZl : Z.length = l.length + 1 + j := by rw [← hZ, List.length_append, List.length_append, List.length_replicate]; rfl
    have e2 : IntKind.wrap .u64 (IntKind.wrap .u64 (p.n : Int) * 8) = ((8 * l.length : Nat) : Int) := by
      rw [wu64 (n := (p.n : Int)) (by omega) (by omega), wu64 (by omega) (by omega)]; omega
    rw [e2]
    refine ⟨fun q b x u => ∃ k : Nat, x = k ∧ k ≤ 8 ∧ b = ((8 * l.length / 2 ^ (8 * k) : Nat) : Int) ∧ Row w u q (Z ++ lenB (8 * l.length) k), fun _ _ x _ => 8 - x.toNat, ⟨0, rfl, by decide, by rw [Nat.mul_zero, Nat.pow_zero, Nat.div_one], by simpa [lenB] using hq⟩, ?_⟩
    rintro q b x v ⟨k, rfl, hk, rfl, hqv⟩
    have hbl : ∀ k, (lenB (8 * l.length) k).length = k := fun k => by unfold lenB; rw [List.length_map, List.length_range]
    refine br_nat (y := 8) (fun hlt => ?_) (fun hge => ?_)
    · refine hqv.app1 (wrap_u8 _) (by rw [List.length_append, hbl]; omega) fun q' u' hq' _ => ?_
      have e3 : IntKind.wrap .u64 (((8 * l.length / 2 ^ (8 * k) : Nat) : Int).tdiv 256) = ((8 * l.length / 2 ^ (8 * (k + 1)) : Nat) : Int) := by
        rw [show (((8 * l.length / 2 ^ (8 * k) : Nat) : Int).tdiv 256) = ((8 * l.length / 2 ^ (8 * k) / 256 : Nat) : Int) from rfl, Nat.div_div_eq_div_mul, show 2 ^ (8 * k) * 256 = 2 ^ (8 * (k + 1)) by rw [show 8 * (k + 1) = 8 * k + 8 by omega, Nat.pow_add]]
        have : 8 * l.length / 2 ^ (8 * (k + 1)) ≤ 8 * l.length := Nat.div_le_self _ _
        generalize 8 * l.length / 2 ^ (8 * (k + 1)) = m at *; exact wu64 (by omega) (by omega)
      rw [e3, w64 (by omega) (by omega)]
      refine ⟨by decide, ⟨k + 1, by omega, by omega, rfl, ?_⟩, by dsimp only; omega⟩
      rw [lenB_succ, ← List.append_assoc]; exact hq'
    · have : k = 8 := by omega
      subst this
      have hP : Z ++ lenB (8 * l.length) 8 = padX l := by rw [← hZ, hjz]; rfl
      rw [hP] at hqv
      have hPl := padX_len l
      have hPm := padX_mod l
      have hPb : (padX l).length ≤ 140737488355328 := by omega
      unfold md5X at hR
      generalize padX l = P at *
      have hPn := hqv.n
      have hPr := hqv.rd hPb
      have gwv : Grow w v := hqv.grow
      refine lit_rule (cells := (qv q0).toArray) (e := t_uint32) (z := 1) (base := v.heap.size) (by kernel_rfl) rfl (by decide) (Nat.le_refl _) fun v1 hoh1 hg1 hs1 => ?_
      refine lit_rule (cells := turnsV.toArray) (e := t_int) (z := 1) (base := v1.heap.size) (by kernel_rfl) rfl (by decide) (Nat.le_refl _) fun v2 hot2 hg2 hs2 => ?_
      refine constants_spec fun kc v3 hok3 hg3 => ?_
      have hb3 : v3.heap.size ≥ v2.heap.size := hg3.size
      have hoh3 : Own v3 v.heap.size t_uint32 1 ⟨some ⟨v.heap.size, 0, none⟩, 4, 4⟩ (qv (hashN P 0)) := (hoh1.grow hg2).grow hg3
      -- what is kept while the row of the four changes
      let S : Nat → Prop := fun b => b = v.heap.size
      have hgv3 : Grow v v3 := (hg1.trans hg2).trans hg3
      have rP : ∀ {y : World}, Keep S v3 y → Rd y 1 q (bv P) := fun k => (hPr.grow hgv3).keep k fun a ha hlt r => by
        have := (hqv.own.ge a.block (by simp [Sl.blk, ha])).2
        have r : a.block = v.heap.size := r
        omega
      have rT : ∀ {y : World}, Keep S v3 y → Rd y 1 ⟨some ⟨v1.heap.size, 0, none⟩, 16, 16⟩ turnsV := fun k => ((hot2.grow hg3).keep k fun b hb r => by
        simp [Sl.blk] at hb
        have r : b = v.heap.size := r
        omega).rd (by show 16 ≤ _; decide)
      have hkn : kc.n = 64 := by have := hok3.len; rw [List.length_map] at this; have e : K32.length = 64 := rfl; omega
      have rK : ∀ {y : World}, Keep S v3 y → Rd y 1 kc (K32.map (Value.int .u32)) := fun k => (hok3.keep k fun b hb r => by
        have := (hok3.ge b hb).1
        have r : b = v.heap.size := r
        omega).rd (by omega)
      have gw3 : ∀ {y : World}, Keep S v3 y → Grow w y := fun k => (gwv.trans hgv3).keep k fun i hi r => by
        have r : i = v.heap.size := r
        have := gwv.size
        omega
      refine ⟨fun x y => ∃ k : Nat, x = ((64 * k : Nat) : Int) ∧ 64 * k ≤ P.length ∧ Keep S v3 y ∧ Own y v.heap.size t_uint32 1 ⟨some ⟨v.heap.size, 0, none⟩, 4, 4⟩ (qv (hashN P k)), fun x _ => P.length - x.toNat, ⟨0, rfl, Nat.zero_le _, Keep.refl _ _, hoh3⟩, ?_⟩
      rintro x y ⟨k, rfl, hk, hky, hoh⟩
      rw [hPn]
      refine br_nat (fun hlt => ?_) (fun hge => ?_)
      · rintro y1 rfl
        have hgd := keep_drew y
        have hky1 : Keep S v3 y.drew := hky.grow hgd
        have hoh1 := hoh.grow hgd
        have hrh := hoh1.rd (by show 4 ≤ _; decide)
        generalize hH : hashN P k = H at *
        have hc : ∀ {i : Nat}, i < 4 → y.drew.cell? ((gA (some (⟨v.heap.size, 0, none⟩ : Addr))).add (i * 1)) = some (.int .u32 (qAt H i)) := fun {i} hi => by
          obtain ⟨_, c⟩ := rd_val hrh (i := i) (by exact hi)
          have e := qv_at H hi
          rw [List.getElem?_eq_getElem (by exact hi)] at e
          rw [Option.some.inj e] at c
          exact c
        generalize y.drew = v4 at *
        refine ⟨fun o => o = v4, rfl, ⟨by decide, by show (_ : Int) < 4; decide, rfl⟩, _, fun o e => by rw [e]; exact hc (i := 0) (by decide), ⟨by decide, by show (_ : Int) < 4; decide, rfl⟩, _, fun o e => by rw [e]; exact hc (i := 1) (by decide), ⟨by decide, by show (_ : Int) < 4; decide, rfl⟩, _, fun o e => by rw [e]; exact hc (i := 2) (by decide), ⟨by decide, by show (_ : Int) < 4; decide, rfl⟩, _, fun o e => by rw [e]; exact hc (i := 3) (by decide), ?_⟩
        refine ⟨fun a b c d x z => ∃ i : Nat, x = i ∧ i ≤ 64 ∧ Grow v4 z ∧ (⟨a, b, c, d⟩ : Q4) = roundsX (P.drop (64 * k)) H i, fun _ _ _ _ x _ => 64 - x.toNat, ⟨0, rfl, by decide, Keep.refl _ _, rfl⟩, ?_⟩
        rintro a b c d x z ⟨i, rfl, hi, hgz, hq4⟩
        refine br_nat (y := 64) (fun hlti => ?_) (fun hgei => ?_)
        · refine letX4 (fun a2 b2 c2 d2 o => Grow v4 o ∧ (⟨a2, b2, c2, d2⟩ : Q4) = roundsX (P.drop (64 * k)) H (i + 1)) (fun a2 b2 c2 d2 o ho => ?_) (fun J => ⟨by decide, by decide, ?_⟩)
          · rw [w64 (by omega) (by omega)]
            exact ⟨⟨i + 1, by omega, by omega, ho.1, ho.2⟩, by dsimp only; omega⟩
          have e16 : IntKind.wrap .i64 ((i : Int).tdiv 16) = ((i / 16 : Nat) : Int) := by
            rw [show (i : Int).tdiv 16 = ((i / 16 : Nat) : Int) from rfl]; exact w64 (by omega) (by omega)
          rw [e16]
          refine letX2 (fun f g o => o = z ∧ (i / 16 ≠ 1 → i / 16 ≠ 2 → f = mixF i b c d ∧ g = ((mixG i : Nat) : Int))) ?_ (fun J3 => ?_)
          · rintro f g o ⟨rfl, hfg⟩
            refine letX2 (fun f g o' => o' = o ∧ (i / 16 ≠ 2 → f = mixF i b c d ∧ g = ((mixG i : Nat) : Int))) ?_ (fun J2 => ?_)
            · rintro f g o ⟨rfl, hfg⟩
              refine letX2 (fun f g o' => o' = o ∧ f = mixF i b c d ∧ g = ((mixG i : Nat) : Int)) ?_ (fun J1 => ?_)
              · rintro f g o ⟨rfl, rfl, rfl⟩
                have hgl := mixG_lt hlti
                have hkz : Keep S v3 o := hky1.grow hgz
                let B : Nat → Nat := fun t => ((P.drop (64 * k)).getD (4 * mixG i + t) 0).toNat
                have hB : ∀ t, B t < 256 := fun t => UInt8.toNat_lt _
                refine ⟨fun m x o' => ∃ t : Nat, t ≤ 4 ∧ x = 3 - (t : Int) ∧ m = ((mAt B t : Nat) : Int) ∧ o' = o, fun _ x _ => (x + 1).toNat, ⟨0, by decide, rfl, rfl, rfl⟩, ?_⟩
                rintro m x o' ⟨t, ht, rfl, rfl, rfl⟩
                refine br_dec (fun hx => ?_) (fun hx => ?_)
                · have e1 : IntKind.wrap .i64 (IntKind.wrap .i64 (((64 * k : Nat) : Int) + IntKind.wrap .i64 (4 * ((mixG i : Nat) : Int))) + (3 - (t : Int))) = ((64 * k + 4 * mixG i + (3 - t) : Nat) : Int) := by
                    rw [w64 (n := 4 * ((mixG i : Nat) : Int)) (by omega) (by omega), w64 (n := ((64 * k : Nat) : Int) + 4 * ((mixG i : Nat) : Int)) (by omega) (by omega), w64 (by omega) (by omega)]; omega
                  rw [e1]
                  obtain ⟨ha, cb⟩ := rd_at (rP hkz) (i := 64 * k + 4 * mixG i + (3 - t)) (by omega)
                  have eB : (P.getD (64 * k + 4 * mixG i + (3 - t)) 0).toNat = B (3 - t) := by
                    show _ = ((P.drop (64 * k)).getD (4 * mixG i + (3 - t)) 0).toNat
                    rw [List.getD_eq_getElem?_getD, List.getD_eq_getElem?_getD, List.getElem?_drop, Nat.add_assoc]
                  rw [eB] at cb
                  have hm := mAt_lt hB t
                  have hm3 : 256 ^ t ≤ 256 ^ 3 := Nat.pow_le_pow_right (by decide) (by omega)
                  have h8 := hB (3 - t)
                  refine ⟨⟨by omega, by omega, ha⟩, _, by rw [Int.toNat_natCast]; exact cb, ?_⟩
                  have e2 : IntKind.wrap .u32 (IntKind.wrap .u32 (((mAt B t : Nat) : Int) * 256) + IntKind.wrap .u32 ((B (3 - t) : Nat) : Int)) = ((mAt B (t + 1) : Nat) : Int) := by
                    rw [wu32 (n := ((mAt B t : Nat) : Int) * 256) (by omega) (by omega), wu32 (n := ((B (3 - t) : Nat) : Int)) (by omega) (by omega), wu32 (by omega) (by omega)]
                    show _ = ((mAt B t * 256 + B (3 - t) : Nat) : Int)
                    omega
                  rw [e2, w64 (n := 3 - (t : Int) - 1) (by omega) (by omega)]
                  exact ⟨⟨t + 1, by omega, by omega, rfl, rfl⟩, by dsimp only; omega⟩
                · have : t = 4 := by omega
                  subst this
                  have ew : mAt B 4 = wordN (P.drop (64 * k)) (mixG i) := by
                    show ((((0 * 256 + B 3) * 256 + B 2) * 256 + B 1) * 256 + B 0) = B 0 + 256 * B 1 + 65536 * B 2 + 16777216 * B 3
                    omega
                  rw [ew]
                  obtain ⟨hak, ck⟩ := rd_val (rK hkz) (i := i) (by rw [List.length_map]; exact hlti)
                  have eK : (K32.map (Value.int .u32))[i]'(by rw [List.length_map]; exact hlti) = .int .u32 (kX i) := by
                    rw [List.getElem_map]
                    unfold kX
                    rw [List.getD_eq_getElem?_getD, List.getElem?_eq_getElem (by exact hlti)]; rfl
                  rw [eK] at ck
                  have e4 : IntKind.wrap .i64 (IntKind.wrap .i64 (4 * ((i / 16 : Nat) : Int)) + (i : Int).tmod 4) = ((4 * (i / 16) + i % 4 : Nat) : Int) := by
                    rw [show (i : Int).tmod 4 = ((i % 4 : Nat) : Int) from rfl, w64 (n := 4 * ((i / 16 : Nat) : Int)) (by omega) (by omega), w64 (by omega) (by omega)]; omega
                  rw [e4]
                  have hti := turnsV_at hlti
                  have hl16 : 4 * (i / 16) + i % 4 < turnsV.length := by show _ < 16; omega
                  rw [List.getElem?_eq_getElem hl16] at hti
                  obtain ⟨hat, ct⟩ := rd_val (rT hkz) hl16
                  rw [Option.some.inj hti] at ct
                  refine ⟨⟨by omega, by rw [hkn]; omega, hak⟩, _, by rw [Int.toNat_natCast]; exact ck, by decide, ⟨by omega, by show ((4 * (i / 16) + i % 4 : Nat) : Int) < 16; omega, hat⟩, _, by rw [Int.toNat_natCast]; exact ct, ?_⟩
                  refine left_spec (shX_rng hlti).2 fun o2 hg2 => J _ _ _ _ _ ⟨hgz.trans hg2, ?_⟩
                  show _ = roundX (P.drop (64 * k)) i (roundsX (P.drop (64 * k)) H i)
                  rw [← hq4]; rfl
              · refine br_eq (fun r => ⟨by decide, J1 _ _ _ ⟨rfl, ?_, ?_⟩⟩) (fun r => J1 _ _ _ ⟨rfl, (hfg (by omega)).1, (hfg (by omega)).2⟩)
                · unfold mixF; rw [if_neg (by omega), if_pos (by omega)]
                · unfold mixG; rw [if_neg (by omega), if_pos (by omega), w64 (n := 3 * (i : Int)) (by omega) (by omega), w64 (by omega) (by omega)]
                  rw [show (3 * (i : Int) + 5) = ((3 * i + 5 : Nat) : Int) by omega]; rfl
            · refine br_eq (fun r => ⟨by decide, J2 _ _ _ ⟨rfl, fun _ => ⟨?_, ?_⟩⟩⟩) (fun r => J2 _ _ _ ⟨rfl, fun r2 => hfg (by omega) r2⟩)
              · unfold mixF; rw [if_pos (by omega)]
              · unfold mixG; rw [if_pos (by omega), w64 (n := 5 * (i : Int)) (by omega) (by omega), w64 (by omega) (by omega)]
                rw [show (5 * (i : Int) + 1) = ((5 * i + 1 : Nat) : Int) by omega]; rfl
          · refine br_eq (fun r => J3 _ _ _ ⟨rfl, fun r1 r2 => ⟨?_, ?_⟩⟩) (fun r => J3 _ _ _ ⟨rfl, fun r1 r2 => ⟨?_, ?_⟩⟩)
            · unfold mixF; rw [if_neg (by omega), if_neg (by omega), if_neg (by omega)]
            · unfold mixG; rw [if_neg (by omega), if_neg (by omega), if_neg (by omega)]
            · unfold mixF; rw [if_neg (by omega), if_neg (by omega), if_pos (by omega)]
            · unfold mixG; rw [if_neg (by omega), if_neg (by omega), if_pos (by omega), w64 (by omega) (by omega)]
              rw [show (7 * (i : Int)) = ((7 * i : Nat) : Int) by omega]; rfl
        · have : i = 64 := by omega
          subst this
          have hkz : Keep S v3 z := hky1.grow hgz
          have o0 : Own z v.heap.size t_uint32 1 ⟨some ⟨v.heap.size, 0, none⟩, 4, 4⟩ [.int .u32 H.a, .int .u32 H.b, .int .u32 H.c, .int .u32 H.d] := hoh1.grow hgz
          have stp : ∀ {y y2 : World}, Keep S v3 y → Keep (fun b => some b = (⟨some ⟨v.heap.size, 0, none⟩, 4, 4⟩ : Sl).blk) y y2 → Keep S v3 y2 := fun k k2 => k.trans k2 fun b _ r => by
            simp [Sl.blk] at r; exact r
          have cg : ∀ {y : World} {l : List Value} {i : Nat} {n : Int}, Own y v.heap.size t_uint32 1 ⟨some ⟨v.heap.size, 0, none⟩, 4, 4⟩ l → (hi : i < l.length) → l[i] = .int .u32 n → y.cell? ((gA (some (⟨v.heap.size, 0, none⟩ : Addr))).add (i * 1)) = some (.int .u32 n) := fun o hi e => by
            obtain ⟨_, c⟩ := rd_val (o.rd (by show 4 ≤ _; decide)) hi
            rw [e] at c; exact c
          refine ⟨⟨by decide, by show (_ : Int) < 4; decide, rfl⟩, _, cg o0 (i := 0) (by show 0 < 4; decide) rfl, ⟨by decide, by show (_ : Int) < 4; decide, rfl⟩, ?_⟩
          refine own_put o0 (i := 0) (by show 0 < 4; decide) rfl fun z1 o1 k1 _ => ?_
          refine ⟨⟨by decide, by show (_ : Int) < 4; decide, rfl⟩, _, cg o1 (i := 1) (by show 1 < 4; decide) rfl, ⟨by decide, by show (_ : Int) < 4; decide, rfl⟩, ?_⟩
          refine own_put o1 (i := 1) (by show 1 < 4; decide) rfl fun z2 o2 k2 _ => ?_
          refine ⟨⟨by decide, by show (_ : Int) < 4; decide, rfl⟩, _, cg o2 (i := 2) (by show 2 < 4; decide) rfl, ⟨by decide, by show (_ : Int) < 4; decide, rfl⟩, ?_⟩
          refine own_put o2 (i := 2) (by show 2 < 4; decide) rfl fun z3 o3 k3 _ => ?_
          refine ⟨⟨by decide, by show (_ : Int) < 4; decide, rfl⟩, _, cg o3 (i := 3) (by show 3 < 4; decide) rfl, ⟨by decide, by show (_ : Int) < 4; decide, rfl⟩, ?_⟩
          refine own_put o3 (i := 3) (by show 3 < 4; decide) rfl fun z4 o4 k4 _ => ?_
          have e64 : IntKind.wrap .i64 (((64 * k : Nat) : Int) + 64) = ((64 * (k + 1) : Nat) : Int) := by rw [w64 (by omega) (by omega)]; omega
          rw [e64]
          refine ⟨⟨k + 1, rfl, by omega, stp (stp (stp (stp hkz k1) k2) k3) k4, ?_⟩, by dsimp only; omega⟩
          have e : qv (hashN P (k + 1)) = [.int .u32 (IntKind.wrap .u32 (H.a + a)), .int .u32 (IntKind.wrap .u32 (H.b + b)), .int .u32 (IntKind.wrap .u32 (H.c + c)), .int .u32 (IntKind.wrap .u32 (H.d + d))] := by
            show qv (turnX (hashN P k) (P.drop (64 * k))) = _
            rw [hH]
            unfold turnX
            rw [← hq4]; rfl
          rw [e]; exact o4
      · have hk2 : k = P.length / 64 := by omega
        subst hk2
        have hok := hashN_ok P (P.length / 64)
        generalize hashN P (P.length / 64) = H at *
        have hgw := gw3 hky
        have hrh : ∀ {o : World}, Grow y o → Rd o 1 ⟨some ⟨v.heap.size, 0, none⟩, 4, 4⟩ (qv H) := fun g => (hoh.grow g).rd (by show 4 ≤ _; decide)
        refine ⟨fun out x o => ∃ i : Nat, x = i ∧ i ≤ 4 ∧ Row y o out ((outX H).take (4 * i)), fun _ x _ => 4 - x.toNat, ⟨0, rfl, by decide, by simpa using Row.nil (Keep.refl _ y)⟩, ?_⟩
        rintro out x o ⟨i, rfl, hi, ho⟩
        refine br_nat (y := 4) (fun hlt => ?_) (fun hge => ?_)
        · obtain ⟨_, c⟩ := rd_val (hrh ho.grow) (i := i) (by exact hlt)
          have e := qv_at H hlt
          rw [List.getElem?_eq_getElem (by exact hlt)] at e
          rw [Option.some.inj e] at c
          have hr := qAt_ok hok i
          refine ⟨⟨by omega, by show (i : Int) < 4; omega, rfl⟩, qAt H i, by rw [Int.toNat_natCast]; exact c, ?_⟩
          generalize hN : (qAt H i).toNat = N
          have hN' : qAt H i = (N : Int) := by omega
          rw [hN']
          refine ⟨fun out x j o => ∃ t : Nat, j = t ∧ t ≤ 4 ∧ x = ((N / 2 ^ (8 * t) : Nat) : Int) ∧ Row y o out ((outX H).take (4 * i + t)), fun _ _ j _ => 4 - j.toNat, ⟨0, rfl, by decide, by rw [Nat.mul_zero, Nat.pow_zero, Nat.div_one], ho⟩, ?_⟩
          rintro out x jj o ⟨t, rfl, ht, rfl, ho⟩
          refine br_nat (y := 4) (fun hltt => ?_) (fun hget => ?_)
          · have hlo : 4 * i + t < (outX H).length := by rw [outX_len]; omega
            have eo : (outX H)[4 * i + t] = UInt8.ofNat (N / 2 ^ (8 * t)) := by
              have := outX_at H (i := 4 * i + t) (by omega)
              rw [List.getD_eq_getElem?_getD, List.getElem?_eq_getElem hlo, show (4 * i + t) / 4 = i by omega, show (4 * i + t) % 4 = t by omega, hN] at this
              exact this
            refine ho.app1 (wrap_u8 _) (by rw [List.length_take]; omega) fun q' u' hq' _ => ?_
            have e3 : IntKind.wrap .u32 (((N / 2 ^ (8 * t) : Nat) : Int).tdiv 256) = ((N / 2 ^ (8 * (t + 1)) : Nat) : Int) := by
              rw [show (((N / 2 ^ (8 * t) : Nat) : Int).tdiv 256) = ((N / 2 ^ (8 * t) / 256 : Nat) : Int) from rfl, Nat.div_div_eq_div_mul, show 2 ^ (8 * t) * 256 = 2 ^ (8 * (t + 1)) by rw [show 8 * (t + 1) = 8 * t + 8 by omega, Nat.pow_add]]
              have : N / 2 ^ (8 * (t + 1)) ≤ N := Nat.div_le_self _ _
              generalize N / 2 ^ (8 * (t + 1)) = m at *; exact wu32 (by omega) (by omega)
            rw [e3, w64 (by omega) (by omega)]
            refine ⟨by decide, ⟨t + 1, by omega, by omega, rfl, ?_⟩, by dsimp only; omega⟩
            rw [← Nat.add_assoc, List.take_succ_eq_append_getElem hlo, eo]
            exact hq'
          · have : t = 4 := by omega
            subst this
            rw [w64 (by omega) (by omega)]
            exact ⟨⟨i + 1, by omega, by omega, by rw [show 4 * (i + 1) = 4 * i + 4 by omega]; exact ho⟩, by dsimp only; omega⟩
        · have : i = 4 := by omega
          subst this
          rw [List.take_of_length_le (by rw [outX_len]; decide)] at ho
          exact hR out o ⟨ho.own.mono hgw.size, hgw.trans ho.grow⟩
  · refine br_t (by rw [bne_iff_ne]; unfold zerosX at hjz hj hzl; omega) ?_
    refine hq.app1 (c := 0) rfl (by rw [List.length_append, List.length_append, List.length_replicate]; show l.length + 1 + j + 1 ≤ _; omega) fun q' u' hq' _ => ?_
    have hn' := hq'.n
    rw [List.length_append, List.length_append, List.length_append, List.length_replicate] at hn'
    have hn' : q'.n = l.length + 1 + j + 1 := hn'
    refine ⟨⟨j + 1, by omega, ?_⟩, by dsimp only; omega⟩
    rw [rep_succ, ← List.append_assoc]; exact hq'
end Go.Proofs.YtjfjanogfakclaaDoor

/- Layer 19: the answer to a challenge. -/
namespace Go.Proofs.YtjfjanogfakclaaDoor
open Go CF

def answerX (id : Nat) (sec chal : L8) : L8 := hexX (md5X ([UInt8.ofNat id] ++ sec ++ chal))
def rightX (id : Nat) (sec chal ans : L8) : Bool := match unhexX ans with | some p => decide (hexX p = answerX id sec chal) | none => false
theorem md5X_len (l : L8) : (md5X l).length = 16 := outX_len _
theorem id_u8 {id : Nat} (h : id < 256) : (id : Int) = ((UInt8.ofNat id).toNat : Int) := by
  rw [UInt8.toNat_ofNat']
  omega
theorem rd_16 {w : World} {b : Nat} {l : L8} {t : TypeId} (h : Blk w b (bv l).toArray t) (hl : l.length = 16) : Rd w 1 ⟨some (if 16 = 0 then (⟨b, 0, none⟩ : Addr) else (⟨b, 0, none⟩ : Addr).add (0 * 1)), 16 - 0, 16 - 0⟩ (bv l) := by
  refine ⟨by rw [bv_length, hl]; rfl, Nat.le_refl _, by show 16 ≤ _; decide, fun _ => ⟨_, rfl, ?_⟩⟩
  rw [if_neg (by decide), add0]
  exact blk_cells h
theorem answer_spec {id : Nat} {sec cl : L8} {c : Sl} {w : World} {R : ByteArray → World → Prop} (hid : id < 256) (hc : Rd w 1 c (bv cl)) (hl : sec.length + cl.length ≤ 140737488354000) (h : ∀ w', Grow w w' → R (str (answerX id sec cl)) w') :
    Cchap_Answer (id : Int) (str sec) c w R := by
  rw [id_u8 hid]
  refine Fchap_Answer.calls _ _ _ _ _ ?_
  refine Row.start (l := [UInt8.ofNat id]) (lit1 w _) rfl (by show 1 ≤ _; decide) fun p1 w1 h1 => ?_
  refine h1.str (by show 1 + sec.length ≤ _; omega) fun p2 w2 h2 _ => ?_
  refine h2.app (hc.grow h2.grow) (by rw [List.length_append]; show 1 + sec.length + cl.length ≤ _; omega) fun p3 w3 h3 _ => ?_
  have hlen : ([UInt8.ofNat id] ++ sec ++ cl).length = 1 + sec.length + cl.length := by rw [List.length_append, List.length_append]; rfl
  refine sum_spec (h3.rd (by omega)) (by omega) fun w4 hg4 => ?_
  refine new_rule fun b w5 hb hb5 hg5 hsz5 => ?_
  refine storeVar_rule hb5 i_16_uint8 (by simp [bv_length, md5X_len]) (by simp [bv_length, md5X_len]) (by simpa using bv_one' (md5X ([UInt8.ofNat id] ++ sec ++ cl))) fun w6 hb6 hk6 hsz6 => ?_
  have hg6 : Grow w w6 := ((h3.grow.trans hg4).trans hg5).keep hk6 fun i hi q => by have := h3.grow.size; have := hg4.size; omega
  refine ⟨⟨by decide, by decide, by decide⟩, hex_spec (rd_16 hb6 (md5X_len _)) (by rw [md5X_len]; decide) fun w7 hg7 => h w7 (hg6.trans hg7)⟩
theorem ranswer_spec {id : Nat} {sec cl : L8} {c : Sl} {w : World} {R : ByteArray → World → Prop} (hid : id < 256) (hc : Rd w 1 c (bv cl)) (hl : sec.length + cl.length ≤ 140737488354000) (h : ∀ w', Grow w w' → R (str (answerX id sec cl)) w') :
    Cpalletref19_Answer (id : Int) (str sec) c w R := by
  rw [id_u8 hid]
  refine Fpalletref19_Answer.calls _ _ _ _ _ ?_
  refine Row.start (l := [UInt8.ofNat id]) (lit1 w _) rfl (by show 1 ≤ _; decide) fun p1 w1 h1 => ?_
  refine h1.str (by show 1 + sec.length ≤ _; omega) fun p2 w2 h2 _ => ?_
  refine h2.app (hc.grow h2.grow) (by rw [List.length_append]; show 1 + sec.length + cl.length ≤ _; omega) fun p3 w3 h3 _ => ?_
  have hlen : ([UInt8.ofNat id] ++ sec ++ cl).length = 1 + sec.length + cl.length := by rw [List.length_append, List.length_append]; rfl
  refine rsum_spec (h3.rd (by omega)) (by omega) fun x w4 h4 => ?_
  refine rhex_spec (h4.rd (by rw [md5X_len]; decide)) (by rw [md5X_len]; decide) fun w5 hg5 => h w5 ((h3.grow.trans h4.grow).trans hg5)
theorem unD_hexD {n : Nat} (h : n < 16) : unD (hexD n) = some n := by
  have : ∀ k : Fin 16, unD (hexD k.val) = some k.val := by decide +kernel
  exact this ⟨n, h⟩
theorem unhexL_hex : ∀ l : L8, unhexL (l.flatMap hexB) = some l
  | [] => rfl
  | a :: r => by
    have ha := a.toNat_lt
    rw [List.flatMap_cons]
    show (match unD (hexD (a.toNat / 16)), unD (hexD (a.toNat % 16)), unhexL (r.flatMap hexB) with | some x, some y, some l => some (UInt8.ofNat (16 * x + y) :: l) | _, _, _ => none) = some (a :: r)
    rw [unD_hexD (by omega), unD_hexD (by omega), unhexL_hex r]
    have : 16 * (a.toNat / 16) + a.toNat % 16 = a.toNat := by omega
    simp [this]
theorem unhexX_hexX (l : L8) : unhexX (hexX l) = some l := by
  have hl := hexX_len l
  rw [unhexX_of ⟨by omega, .inl rfl⟩]
  exact unhexL_hex l
theorem rightX_answer (id : Nat) (s secret chal : L8) : rightX id secret chal (answerX id s chal) = decide (answerX id s chal = answerX id secret chal) := by
  unfold rightX
  have : unhexX (answerX id s chal) = some (md5X ([UInt8.ofNat id] ++ s ++ chal)) := unhexX_hexX _
  rw [this]; rfl
theorem answerX_len (id : Nat) (s chal : L8) : (answerX id s chal).length = 34 := by
  unfold answerX
  rw [hexX_len, md5X_len]
theorem unhexL_len : ∀ (n : Nat) {s l : L8}, s.length ≤ n → unhexL s = some l → l.length ≤ s.length
  | 0, s, l, hn, h => by
    have : s = [] := List.eq_nil_of_length_eq_zero (by omega)
    subst this
    injection h with h; subst h; simp
  | n + 1, s, l, hn, h => by
    match s, hn, h with
    | [], _, h => injection h with h; subst h; simp
    | [a], _, h => injection h with h; subst h; simp
    | a :: b :: r, hn, h =>
      have h : (match unD a, unD b, unhexL r with | some x, some y, some l => some (UInt8.ofNat (16 * x + y) :: l) | _, _, _ => none) = some l := h
      split at h
      · rename_i x y l' _ _ hr
        injection h with h
        subst h
        have := unhexL_len n (s := r) (by simp at hn; omega) hr
        simp; omega
      · cases h
theorem unhexX_len {s l : L8} (h : unhexX s = some l) : l.length ≤ s.length := by
  unfold unhexX at h
  split at h
  · have := unhexL_len _ (Nat.le_refl _) h
    rw [List.length_drop] at this
    omega
  · cases h
theorem right_spec {id : Nat} {sec cl ans : L8} {c : Sl} {w : World} {R : Bool → World → Prop} (hid : id < 256) (hc : Rd w 1 c (bv cl)) (hl : sec.length + cl.length ≤ 140737488354000) (ha : ans.length ≤ 70000000000000) (h : ∀ w', Grow w w' → R (rightX id sec cl ans) w') :
    Cchap_Right (id : Int) (str sec) c (str ans) w R := by
  refine Fchap_Right.calls _ _ _ _ _ _ ?_
  refine unhex_spec (by omega) (fun l hu x w1 h1 => ?_) (fun hu w1 hg1 => ?_)
  · have hll := unhexX_len hu
    refine letJ1 (fun s u => Grow w u ∧ s = str (hexX l)) ?_ (fun J => ⟨fun _ => hex_spec (h1.rd (by omega)) (by omega) fun w2 hg2 => J _ _ ⟨h1.grow.trans hg2, rfl⟩, fun q => by cases q⟩)
    rintro s u ⟨hgu, rfl⟩
    refine letJ1 (fun s u => Grow w u ∧ s = str (answerX id sec cl)) ?_ (fun J => ⟨fun _ => answer_spec hid (hc.grow hgu) hl fun w2 hg2 => J _ _ ⟨hgu.trans hg2, rfl⟩, fun q => by cases q⟩)
    rintro s v ⟨hgv, rfl⟩
    have e : (((0 : Int) == 0) && sEq (str (hexX l)) (str (answerX id sec cl))) = rightX id sec cl ans := by
      unfold rightX; rw [hu, sEq_str]; rfl
    rw [e]; exact h v hgv
  · refine letJ1 (fun s u => Grow w u) ?_ (fun J => ⟨fun q => (by cases q), fun _ => J _ _ hg1⟩)
    intro s u hgu
    refine letJ1 (fun s u => Grow w u) ?_ (fun J => ⟨fun q => (by cases q), fun _ => J _ _ hgu⟩)
    intro s2 v hgv
    have e : (((13 : Int) == 0) && sEq s s2) = rightX id sec cl ans := by
      unfold rightX; rw [hu]; rfl
    rw [e]; exact h v hgv
end Go.Proofs.YtjfjanogfakclaaDoor

/- TextAgrees. -/
namespace Go.Proofs.YtjfjanogfakclaaDoor
open Go CF
theorem words_lit {w : World} {K : Sl → World → Prop} (h : ∀ s w', Grow w w' → Rd w' 1 s [.string (str lNo), .string (str lYes)] → K s w') :
    RunK Tryd.prog .sl (Instr.buildSlice t_sl_string 2 #[(0, .string s_No), (1, .string s_Yes)]) w K := by
  refine lit_rule (cells := #[.string s_No, .string s_Yes]) (e := t_string) (z := 1) (base := w.heap.size) (by kernel_rfl) rfl (by decide) (Nat.le_refl _) fun w1 hlit hg hsz => ?_
  exact h _ _ hg (hlit.rd (by show 2 ≤ _; decide))
def wordOf (x : Bool) : L8 := if x then lYes else lNo
def idx (x : Bool) : Int := if x then 1 else 0
theorem word_read {w : World} {s : Sl} (h : Rd w 1 s [.string (str lNo), .string (str lYes)]) (x : Bool) : (0 ≤ idx x ∧ idx x < (s.n : Int) ∧ s.A.isSome = true) ∧ ∀ u, Grow w u → u.cell? ((gA s.A).add ((idx x).toNat * 1)) = some (.string (str (wordOf x))) := by
  have hn : s.n = 2 := by have := h.len; simp at this; omega
  obtain ⟨a, hA, hc⟩ := h.at_ (by simp)
  refine ⟨⟨by cases x <;> decide, by rw [hn]; cases x <;> decide, by rw [hA]; rfl⟩, fun u hu => ?_⟩
  obtain ⟨a', hA', hc'⟩ := (h.grow hu).at_ (by simp)
  rw [hA'] 
  show u.cell? (a'.add _) = _
  cases x
  · exact hc' 0 _ rfl
  · exact hc' 1 _ rfl
end Go.Proofs.YtjfjanogfakclaaDoor

/- What the rows' laid variables say: the table of powers, the errors that the library keeps. -/
namespace Go.Proofs.YtjfjanogfakclaaDoor
open Go CF
theorem laidVars_get {P : Program} {w : World} : ∀ {laid : List (String × DataW Unit)} {ps : List MemPlace}, DataW.LaidVars P w laid ps → ∀ {n : String} {d : DataW Unit}, (n, d) ∈ laid →
    ∃ g t cs fuel p, P.globalNamed n = some g ∧ (P.globals[g]?).map (·.type) = some t ∧ w.var? P n = some cs ∧ DataW.trod (fun _ => ()) P w 0 (fun _ => true) false fuel t cs.toList = some (d, p)
  | (m, e) :: r, ps, h, n, d, hm => by
    obtain ⟨g, t, cs, fuel, p, q, h1, h2, h3, h4, h5, _⟩ := h
    rcases List.mem_cons.1 hm with e | hm
    · cases e; exact ⟨g, t, cs, fuel, p, h1, h2, h3, h4⟩
    · exact laidVars_get h5 hm
theorem tabV_of {w : World} {laid : List (String × DataW Unit)} (h : laidMet Tryd.prog laid w) (hm : ("internal/strconv.uint64pow10", Rows.laid_internal_strconv_uint64pow10) ∈ laid) : TabV w := by
  obtain ⟨ps, hl, _⟩ := h
  obtain ⟨g, t, cs, fuel, p, h1, h2, h3, h4⟩ := laidVars_get hl hm
  obtain rfl : g = gl_internal_strconv_uint64pow10 := Option.some.inj (h1.symm.trans (by kernel_rfl))
  obtain rfl : t = gt_internal_strconv_uint64pow10 := Option.some.inj (h2.symm.trans (by kernel_rfl))
  unfold TabV Lib.TabIs
  rw [h3, ← Lib.cells_of_tab (n := 20) (e := t_uint64) (k := .u64) (zs := Lib.pow10Tab) (by kernel_rfl) u_uint64 (by kernel_rfl) (by kernel_rfl) h4]
theorem iface_of {w : World} {n : String} {g : Nat} {cs : Array Value} {fuel : Nat} {m : String} {d : DataW Unit} {p : List MemPlace} (h1 : Tryd.prog.globalNamed n = some g) (h3 : w.var? Tryd.prog n = some cs)
    (h4 : DataW.trod (fun _ => ()) Tryd.prog w 0 (fun _ => true) false fuel t_error cs.toList = some (.iface m d, p)) : ∃ t v, w.cell? ⟨g, 0, none⟩ = some (.iface t v) := by
  have hc := World.var?_cell h1 h3 0
  cases fuel with
  | zero => simp [DataW.trod] at h4
  | succ fuel =>
    have hu : CF.isIface Tryd.prog t_error = true := by kernel_rfl
    unfold CF.isIface at hu
    split at hu
    · rename_i ms hq
      obtain ⟨l⟩ := cs
      simp only [DataW.trod, hq] at h4
      match l, h4, hc with
      | [], h4, _ => simp at h4
      | [x], h4, hc =>
        cases x <;> simp at h4
        rename_i u v
        exact ⟨u, v, hc⟩
      | x :: y :: r, h4, _ => simp at h4
    · cases hu
theorem errV_of {w : World} {laid : List (String × DataW Unit)} (h : laidMet Tryd.prog laid w) (hs : ("strconv.ErrSyntax", Rows.laid_strconv_ErrSyntax) ∈ laid) (hr : ("strconv.ErrRange", Rows.laid_strconv_ErrRange) ∈ laid) : ErrV w := by
  obtain ⟨ps, hl, _⟩ := h
  constructor
  · obtain ⟨g, t, cs, fuel, p, h1, h2, h3, h4⟩ := laidVars_get hl hs
    obtain rfl : g = gl_strconv_ErrSyntax := Option.some.inj (h1.symm.trans (by kernel_rfl))
    obtain rfl : t = t_error := Option.some.inj (h2.symm.trans (by kernel_rfl))
    exact iface_of h1 h3 h4
  · obtain ⟨g, t, cs, fuel, p, h1, h2, h3, h4⟩ := laidVars_get hl hr
    obtain rfl : g = gl_strconv_ErrRange := Option.some.inj (h1.symm.trans (by kernel_rfl))
    obtain rfl : t = t_error := Option.some.inj (h2.symm.trans (by kernel_rfl))
    exact iface_of h1 h3 h4
end Go.Proofs.YtjfjanogfakclaaDoor
