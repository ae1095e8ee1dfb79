import Derived.Test.YtaneeadpjelomaaSt9
/- Layer 4: a script of writes and unmappings. -/
namespace Go.Proofs.Ytaneeadpjelomaa
open Go CF

/-- an entry of a script -/
structure Act4 where
  kind : Nat
  a : Int
  n : Int
  l : Sl
  bs : List Bk
  on : Bool
def ac (x : Act4) : List Value := [.int .u8 (x.kind : Int), .int .i64 x.a, .int .i64 x.n, .slice x.l.A x.l.n x.l.c, .bool x.on]
theorem ac_len (x : Act4) : (ac x).length = 5 := rfl
theorem eqAt (bs : List Bk) (F : Nat) (xs : List Bk) (j : Nat) : (xs.length + F ≤ bs.length) → True := fun _ => trivial
/-- the array behind a write of a list from a place on -/
def setAll (bs : List Bk) (F : Nat) (xs : List Bk) : Nat → List Bk
  | 0 => bs
  | k + 1 => (setAll bs F xs k).set (F + k) ((xs[k]?).getD emptyB)
theorem setAll_len (bs : List Bk) (F : Nat) (xs : List Bk) : ∀ k, (setAll bs F xs k).length = bs.length
  | 0 => rfl
  | k + 1 => by simp [setAll, setAll_len bs F xs k]
theorem setAll_get (bs : List Bk) (F : Nat) (xs : List Bk) : ∀ k, F + k ≤ bs.length → ∀ j, j < bs.length → (setAll bs F xs k)[j]? = if F ≤ j ∧ j < F + k then some ((xs[j - F]?).getD emptyB) else bs[j]?
  | 0, _, j, _ => by rw [if_neg (by omega)]; rfl
  | k + 1, hk, j, hj => by
    have ih := setAll_get bs F xs k (by omega) j hj
    simp only [setAll]
    rw [List.getElem?_set, setAll_len]
    by_cases e : F + k = j
    · subst e
      rw [if_pos rfl, if_pos (by omega), if_pos (by omega), Nat.add_sub_cancel_left]
    · rw [if_neg e, ih]
      by_cases q : F ≤ j ∧ j < F + k
      · rw [if_pos q, if_pos (by omega)]
      · rw [if_neg q, if_neg (by omega)]
/-- a file tells these blocks -/
def Tells (st : Wst) (file : ByteArray) (bs : List Bk) : Prop := Good (cont st file) ∧ ∀ j, j < bs.length → some (blkAt (cont st file) j) = bs[j]?
theorem cont_syncIf (y : Bool) (s : Wst) (file : ByteArray) : cont (syncIf y s) file = cont s file := by
  unfold cont; rw [syncIf_seen]
theorem tells_write {st : Wst} {file : ByteArray} {bs xs : List Bk} {F : Nat} {y : Bool} (h : Tells st file bs) (hF : F + xs.length ≤ bs.length) :
    Tells (syncIf y (layW st file F (rsOf xs) xs.length)) file (setAll bs F xs xs.length) := by
  obtain ⟨h1, h2⟩ := layW_file (lba := F) (bs := xs) h.1 xs.length (Nat.le_refl _)
  refine ⟨by rw [cont_syncIf]; exact h1, fun j hj => ?_⟩
  rw [setAll_len] at hj
  rw [cont_syncIf, h2, setAll_get _ _ _ _ hF _ hj]
  split
  · rfl
  · exact h.2 j hj
theorem tells_unmap {st : Wst} {file : ByteArray} {bs : List Bk} {F n : Nat} {y : Bool} (h : Tells st file bs) (hF : F + n ≤ bs.length) :
    Tells (syncIf y (layW st file F (fun _ => [0]) n)) file (setAll bs F [] n) := by
  obtain ⟨h1, h2⟩ := layW_zero (lba := F) h.1 n
  refine ⟨by rw [cont_syncIf]; exact h1, fun j hj => ?_⟩
  rw [setAll_len] at hj
  rw [cont_syncIf, h2, setAll_get _ _ _ _ hF _ hj]
  split
  · simp
  · exact h.2 j hj
theorem tells_empty (n : Nat) (file : ByteArray) : Tells st0 file (List.replicate n emptyB) := by
  refine ⟨good_nil, fun j hj => ?_⟩
  rw [List.length_replicate] at hj
  rw [List.getElem?_replicate, if_pos hj]
  show some (blkAt [] j) = _
  rw [blkAt_nil]
theorem tells_read {st : Wst} {file : ByteArray} {bs : List Bk} (h : Tells st file bs) : rdBl st file 0 bs.length = bs :=
  rdBl_list rfl fun i hi => by
    have := h.2 i hi
    rw [List.getElem?_eq_getElem hi] at this
    rw [Nat.zero_add]
    exact Option.some.inj this
end Go.Proofs.Ytaneeadpjelomaa
