/- Layer 4: what was safe is there behind a crash. -/
import Derived.Test.YtiokflecflbopaaSt14
namespace Go.Proofs.Ytiokflecflbopaa
open Go CF

def dS2 (L : List Bk) (fua sync cache : Bool) : Wst := syncIf sync (syncIf (syncs L.length fua cache) (layW st0 s_f 5 (rsOf L) L.length))
def safeB (L : List Bk) (fua sync cache : Bool) : Bool := syncs L.length fua cache || sync
theorem dS2_safe {L : List Bk} {fua sync cache : Bool} (h : safeB L fua sync cache = true) :
    (dS2 L fua sync cache).waits = [] ∧ fcont (dS2 L fua sync cache).dur s_f = cont (layW st0 s_f 5 (rsOf L) L.length) s_f := by
  obtain ⟨hw, hd⟩ := layW_waits st0 s_f 5 L L.length
  have hA : fcont (apAll (layW st0 s_f 5 (rsOf L) L.length).dur (layW st0 s_f 5 (rsOf L) L.length).waits) s_f = cont (layW st0 s_f 5 (rsOf L) L.length) s_f := by
    rw [hw, hd]
    exact apAll_wl (st := st0) rfl L.length
  unfold dS2 safeB at *
  cases hy : syncs L.length fua cache with
  | true =>
    cases sync with
    | false => exact ⟨rfl, hA⟩
    | true => exact ⟨rfl, hA⟩
  | false =>
    rw [hy, Bool.false_or] at h
    subst h
    exact ⟨rfl, hA⟩
theorem dS2_not {L : List Bk} {fua sync cache : Bool} (h : safeB L fua sync cache = false) : dS2 L fua sync cache = layW st0 s_f 5 (rsOf L) L.length := by
  unfold dS2 safeB at *
  rw [Bool.or_eq_false_iff] at h
  rw [h.1, h.2]; rfl
/-- the files behind the crash -/
def dF (L M : List Bk) (fua sync cache : Bool) (keep cut : Nat) : Files :=
  crashN (layW (dS2 L fua sync cache) s_f 5 (rsOf M) M.length).dur (layW (dS2 L fua sync cache) s_f 5 (rsOf M) M.length).waits keep cut (layW (dS2 L fua sync cache) s_f 5 (rsOf M) M.length).waits.length
theorem dur_safe {L M : List Bk} {fua sync cache : Bool} {keep cut : Nat} (h : safeB L fua sync cache = true) : Full (fcont (dF L M fua sync cache keep cut) s_f) 5 L M.length := by
  obtain ⟨h1, h2⟩ := dS2_safe h
  obtain ⟨hw, hd⟩ := layW_waits (dS2 L fua sync cache) s_f 5 M M.length
  unfold dF
  rw [hw, hd, h1, List.nil_append]
  refine crashN_ind (P := fun G => Full (fcont G s_f) 5 L M.length) ?_ ?_ _
  · rw [h2]
    intro i hi _
    exact layW_full L.length (Nat.le_refl _) i hi hi
  · intro G i hi hG
    rw [wl_at]
    have him : i < M.length := by rw [wl_len] at hi; exact hi
    unfold crash1
    split
    · show Full (fcont (applyWr _ s_f _ _) s_f) _ _ _
      rw [fcont_wr]
      exact full_off hG (rsOf_len M i) him
    · split
      · rw [fcont_wr]
        exact full_off hG (by rw [List.length_take]; have := rsOf_len M i; show min cut (rsOf M i).length ≤ 25; omega) him
      · exact hG
/-- what a place may hold -/
def Holds (L M : List Bk) (safe : Bool) (f : L8) : Prop := Good f ∧ ∀ i (hi : i < L.length), blkAt f (5 + i) = L[i] ∨ (∃ hm : i < M.length, blkAt f (5 + i) = M[i]) ∨ (safe = false ∧ blkAt f (5 + i) = emptyB)
theorem holds_step {L M : List Bk} {safe : Bool} {f : L8} (h : Holds L M safe f) (i : Nat) (b : Bk) (hb : (∃ hi : i < L.length, b = L[i]) ∨ ∃ hm : i < M.length, b = M[i]) : Holds L M safe (wr f (25 * (5 + i)) (recB b)) := by
  refine ⟨good_rec h.1 _ _, fun j hj => ?_⟩
  rw [blkAt_rec h.1]
  by_cases e : 5 + j = 5 + i
  · rw [if_pos e]
    have e : j = i := by omega
    subst e
    rcases hb with ⟨_, rfl⟩ | ⟨hm, rfl⟩
    · exact .inl rfl
    · exact .inr (.inl ⟨hm, rfl⟩)
  · rw [if_neg e]; exact h.2 j hj
theorem rsOf_at {bs : List Bk} {i : Nat} (hi : i < bs.length) : rsOf bs i = recB bs[i] := by unfold rsOf; rw [List.getElem?_eq_getElem hi]
theorem dur_whole {L M : List Bk} {fua sync cache : Bool} {keep : Nat} : Holds L M (safeB L fua sync cache) (fcont (dF L M fua sync cache keep 0) s_f) := by
  obtain ⟨hw, hd⟩ := layW_waits (dS2 L fua sync cache) s_f 5 M M.length
  unfold dF
  rw [hd]
  have hstep : ∀ (ws : List Cg), (∀ i (hi : i < ws.length), ∃ (a : Nat) (b : Bk), ws[i].name = s_f ∧ ws[i].off = 25 * (5 + a) ∧ ws[i].p = recB b ∧ ((∃ hi : a < L.length, b = L[a]) ∨ ∃ hm : a < M.length, b = M[a])) →
      Holds L M (safeB L fua sync cache) (fcont (dS2 L fua sync cache).dur s_f) → ∀ k, Holds L M (safeB L fua sync cache) (fcont (crashN (dS2 L fua sync cache).dur ws keep 0 k) s_f) := fun ws hws h0 k => by
    refine crashN_ind (P := fun G => Holds L M (safeB L fua sync cache) (fcont G s_f)) h0 (fun G i hi hG => ?_) k
    obtain ⟨a, b, hn, ho, hp, hb⟩ := hws i hi
    unfold crash1
    split
    · show Holds _ _ _ (fcont (applyWr _ _ _ _) s_f)
      rw [hn, ho, hp, fcont_wr]
      exact holds_step hG a b hb
    · rw [if_neg (by omega)]; exact hG
  have hM : ∀ i (hi : i < (wl s_f 5 M M.length).length), ∃ (a : Nat) (b : Bk), (wl s_f 5 M M.length)[i].name = s_f ∧ (wl s_f 5 M M.length)[i].off = 25 * (5 + a) ∧ (wl s_f 5 M M.length)[i].p = recB b ∧ ((∃ hi : a < L.length, b = L[a]) ∨ ∃ hm : a < M.length, b = M[a]) := fun i hi => by
    have him : i < M.length := by rw [wl_len] at hi; exact hi
    rw [wl_at]
    exact ⟨i, M[i], rfl, rfl, rsOf_at him, .inr ⟨him, rfl⟩⟩
  have hL : ∀ i (hi : i < (wl s_f 5 L L.length).length), ∃ (a : Nat) (b : Bk), (wl s_f 5 L L.length)[i].name = s_f ∧ (wl s_f 5 L L.length)[i].off = 25 * (5 + a) ∧ (wl s_f 5 L L.length)[i].p = recB b ∧ ((∃ hi : a < L.length, b = L[a]) ∨ ∃ hm : a < M.length, b = M[a]) := fun i hi => by
    have him : i < L.length := by rw [wl_len] at hi; exact hi
    rw [wl_at]
    exact ⟨i, L[i], rfl, rfl, rsOf_at him, .inl ⟨him, rfl⟩⟩
  cases hs : safeB L fua sync cache with
  | true =>
    obtain ⟨h1, h2⟩ := dS2_safe hs
    rw [hs] at hstep
    rw [hw, h1, List.nil_append]
    refine hstep _ hM ?_ _
    rw [h2]
    obtain ⟨g1, g2⟩ := layW_file (st := st0) (file := s_f) (lba := 5) (bs := L) good_nil L.length (Nat.le_refl _)
    refine ⟨g1, fun i hi => .inl ?_⟩
    rw [g2, if_pos (by omega), show 5 + i - 5 = i by omega, List.getElem?_eq_getElem hi]; rfl
  | false =>
    have h2 := dS2_not hs
    rw [hs] at hstep
    rw [hw]
    refine hstep _ ?_ ?_ _
    · rw [h2]
      obtain ⟨lw, ld⟩ := layW_waits st0 s_f 5 L L.length
      rw [lw]
      intro i hi
      show ∃ (a : Nat) (b : Bk), _
      have e0 : st0.waits = [] := rfl
      simp only [e0, List.nil_append] at hi ⊢
      by_cases q : i < (wl s_f 5 L L.length).length
      · rw [List.getElem_append_left q]; exact hL i q
      · rw [List.getElem_append_right (by omega)]; exact hM _ (by rw [List.length_append] at hi; omega)
    · rw [h2, (layW_waits st0 s_f 5 L L.length).2]
      exact ⟨good_nil, fun i hi => .inr (.inr ⟨rfl, blkAt_nil _⟩)⟩
end Go.Proofs.Ytiokflecflbopaa
