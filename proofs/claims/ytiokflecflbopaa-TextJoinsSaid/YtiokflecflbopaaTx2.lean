/- Layer 18: lists of pairs. -/
import Derived.Test.YtiokflecflbopaaTx1
namespace Go.Proofs.Ytiokflecflbopaa
open Go CF

abbrev Pr := L8 × L8
def pc (p : Pr) : List Value := [.string (str p.1), .string (str p.2)]
def pvs (ps : List Pr) : List Value := ps.flatMap pc
theorem pc_len (p : Pr) : (pc p).length = 2 := rfl
theorem pvs_len (ps : List Pr) : (pvs ps).length = ps.length * 2 := flat_length pc_len ps
def find (ps : List Pr) (k : L8) : Option L8 := (ps.find? fun p => p.1 = k).map (·.2)
theorem rd_pairs {w : World} {s : Sl} {ps : List Pr} (h : Rd w 2 s (pvs ps)) : ps.length = s.n := by
  have := h.len; rw [pvs_len] at this; omega
/-- a pair of a list that is read -/
theorem rd_pair {w : World} {s : Sl} {ps : List Pr} (h : Rd w 2 s (pvs ps)) {i : Nat} (hi : i < ps.length) : ∃ a, s.A = some a ∧ Cells w (a.add (i * 2)) (pc ps[i]) := by
  obtain ⟨a, ha, hc⟩ := h.elem (i := i) (by rw [← rd_pairs h]; exact hi) (by decide)
  exact ⟨a, ha, by rw [pvs, flat_elem pc_len hi] at hc; exact hc⟩
theorem find_none_take {ps : List Pr} {k : L8} {j : Nat} (hj : j < ps.length) (h : ∀ p ∈ ps.take j, p.1 ≠ k) (he : ps[j].1 = k) : find ps k = some ps[j].2 := by
  unfold find
  have e : ps = ps.take j ++ ps[j] :: ps.drop (j + 1) := by rw [List.getElem_cons_drop, List.take_append_drop]
  have e2 : ps.find? (fun p => p.1 = k) = some ps[j] := by
    refine (congrArg (List.find? fun p : Pr => decide (p.1 = k)) e).trans ?_
    rw [List.find?_append, List.find?_eq_none.2 (fun p hp => by simpa using h p hp), Option.none_or, List.find?_cons_of_pos (by simpa using he)]
  rw [e2]; rfl
theorem find_none_all {ps : List Pr} {k : L8} (h : ∀ p ∈ ps, p.1 ≠ k) : find ps k = none := by
  unfold find
  rw [List.find?_eq_none.2 (fun p hp => by simpa using h p hp)]; rfl
theorem mem_take_succ {ps : List Pr} {j : Nat} (hj : j < ps.length) {P : Pr → Prop} (h : ∀ p ∈ ps.take j, P p) (he : P ps[j]) : ∀ p ∈ ps.take (j + 1), P p := by
  intro p hp
  rw [List.take_succ_eq_append_getElem hj, List.mem_append, List.mem_singleton] at hp
  rcases hp with hp | rfl
  · exact h p hp
  · exact he
theorem find_text_spec {l : Sl} {ps : List Pr} {k : L8} {w : World} {R : ByteArray → Bool → World → Prop} (hl : Rd w 2 l (pvs ps))
    (h : ∀ w', Grow w w' → R (str ((find ps k).getD [])) (find ps k).isSome w') : Ctext_Find l (str k) w R := by
  refine Ftext_Find.calls _ _ _ _ ?_
  have hn := rd_pairs hl
  have hb := hl.nb
  refine ⟨fun x w' => Grow w w' ∧ ∃ j : Nat, x = j ∧ j ≤ l.n ∧ ∀ p ∈ ps.take j, p.1 ≠ k, fun x _ => l.n - x.toNat, ⟨Keep.refl _ _, 0, rfl, by omega, by simp⟩, ?_⟩
  rintro x w0 ⟨hg, j, rfl, hj, hall⟩
  refine br_nat (fun hlt => ?_) (fun hge => ?_)
  · have hjl : j < ps.length := by omega
    obtain ⟨a, ha, hc⟩ := rd_pair (hl.grow hg) hjl
    refine ⟨⟨by omega, by omega, by rw [ha]; rfl⟩, (pc ps[j]).toArray, ?_, ?_⟩
    · rw [ha]; exact loadVar_rule g_api_Pair i_api_Pair rfl hc
    refine new_rule fun b w1 hb1 hblk hg1 hsz => ?_
    refine storeVar_rule (cells := (pc ps[j]).toArray) hblk i_api_Pair rfl rfl (by simp [pc, Value.oneCell']) fun w2 hblk2 hk2 hsz2 => ?_
    have g2 : Grow w w2 := hg.trans (hg1.keep hk2 (fun i hi e => by omega))
    refine ⟨str ps[j].1, by rw [add0, hblk2.cell]; rfl, ?_⟩
    rw [sEq_str]
    refine br_dec (fun he => ?_) (fun hne => ?_)
    · refine ⟨str ps[j].2, by rw [add0, hblk2.cell]; rfl, ?_⟩
      have := h w2 g2
      rwa [find_none_take hjl hall he] at this
    · rw [w64 (by omega) (by omega)]
      exact ⟨⟨g2, j + 1, by omega, by omega, mem_take_succ hjl hall hne⟩, by dsimp only; omega⟩
  · have hjn : j = l.n := by omega
    rw [List.take_of_length_le (by omega)] at hall
    have := h w0 hg
    rwa [find_none_all hall] at this
/-- a key stands twice -/
def dup : List Pr → Bool
  | [] => false
  | p :: r => (r.any fun q => q.1 = p.1) || dup r
theorem dup_iff (ps : List Pr) : dup ps = true ↔ ∃ i j : Nat, ∃ (_ : j < i) (hi : i < ps.length), (ps[i]).1 = (ps[j]'(by omega)).1 := by
  induction ps with
  | nil => simp [dup]
  | cons p r ih =>
    simp only [dup, Bool.or_eq_true, ih, List.any_eq_true, decide_eq_true_eq]
    constructor
    · rintro (⟨q, hq, e⟩ | ⟨i, j, hj, hi, e⟩)
      · obtain ⟨i, hi, rfl⟩ := List.getElem_of_mem hq
        exact ⟨i + 1, 0, by omega, by simpa using hi, by simpa using e⟩
      · exact ⟨i + 1, j + 1, by omega, by simpa using hi, by simpa using e⟩
    · rintro ⟨i, j, hj, hi, e⟩
      match i, j, hj with
      | i + 1, 0, _ => exact .inl ⟨r[i]'(by simpa using hi), List.getElem_mem _, by simpa using e⟩
      | i + 1, j + 1, hj => exact .inr ⟨i, j, by omega, by simpa using hi, by simpa using e⟩
theorem twice_spec {l : Sl} {ps : List Pr} {w : World} {R : Bool → World → Prop} (hl : Rd w 2 l (pvs ps))
    (h : ∀ w', Grow w w' → R (dup ps) w') : Cpalletref18_twice l w R := by
  refine Fpalletref18_twice.calls _ _ _ ?_
  have hn := rd_pairs hl
  have hb := hl.nb
  refine ⟨fun x w' => Grow w w' ∧ ∃ i : Nat, x = i ∧ i ≤ l.n ∧ ∀ (a b : Nat) (_ : b < a) (ha : a < i) (hl : a < ps.length), (ps[a]).1 ≠ (ps[b]'(by omega)).1, fun x _ => l.n - x.toNat, ⟨Keep.refl _ _, 0, rfl, by omega, fun a b _ ha => by omega⟩, ?_⟩
  rintro x w0 ⟨hg, i, rfl, hi, hall⟩
  refine br_nat (fun hlt => ?_) (fun hge => ?_)
  · have hil : i < ps.length := by omega
    refine ⟨fun y w' => Grow w w' ∧ ∃ j : Nat, y = j ∧ j ≤ i ∧ ∀ (b : Nat) (_ : b < j) (hb : b < ps.length), (ps[i]).1 ≠ (ps[b]).1, fun y _ => i - y.toNat, ⟨hg, 0, rfl, by omega, fun b hb => by omega⟩, ?_⟩
    rintro y w1 ⟨hg1, j, rfl, hj, hall2⟩
    refine br_nat (fun hlt2 => ?_) (fun hge2 => ?_)
    · have hjl : j < ps.length := by omega
      rintro w2 rfl
      have hg2 := hg1.trans (keep_drew w1)
      obtain ⟨a, ha, hc⟩ := rd_pair (hl.grow hg2) hil
      obtain ⟨a', ha', hc'⟩ := rd_pair (hl.grow hg2) hjl
      rw [ha] at ha'
      obtain rfl := Option.some.inj ha'
      refine ⟨fun u => u = w1.drew, rfl, ⟨by omega, by omega, by rw [ha]; rfl⟩, str ps[i].1, ?_, ⟨by omega, by omega, by rw [ha]; rfl⟩, str ps[j].1, ?_, ?_⟩
      · rintro u rfl; rw [ha]; exact hc 0 _ rfl
      · rintro u rfl; rw [ha]; exact hc' 0 _ rfl
      · rw [sEq_str]
        refine br_dec (fun he => ?_) (fun hne => ?_)
        · have := h _ hg2
          rwa [(dup_iff ps).2 ⟨i, j, hlt2, hil, he⟩] at this
        · rw [w64 (by omega) (by omega)]
          refine ⟨⟨hg2, j + 1, by omega, by omega, fun b hb hbl => ?_⟩, by dsimp only; omega⟩
          rcases Nat.lt_or_ge b j with h' | h'
          · exact hall2 b h' hbl
          · obtain rfl : b = j := by omega
            exact hne
    · rw [w64 (by omega) (by omega)]
      refine ⟨⟨hg1, i + 1, by omega, by omega, fun a b hb ha hal => ?_⟩, by dsimp only; omega⟩
      rcases Nat.lt_or_ge a i with h' | h'
      · exact hall a b hb h' hal
      · obtain rfl : a = i := by omega
        exact hall2 b (by omega) (by omega)
  · have hin : i = l.n := by omega
    have hd : dup ps = false := by
      rw [Bool.eq_false_iff]
      intro hd
      obtain ⟨a, b, hb, ha, e⟩ := (dup_iff ps).1 hd
      exact hall a b hb (by omega) ha e
    have := h w0 hg
    rwa [hd] at this
end Go.Proofs.Ytiokflecflbopaa
