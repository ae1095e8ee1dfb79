import Derived.Test.YtaneeadpjelomaaSt5
/- Layer 4: what was written is read; lists of blocks that are alike. -/
namespace Go.Proofs.Ytaneeadpjelomaa
open Go CF

def cont (st : Wst) (file : ByteArray) : L8 := (st.seen file).getD []
theorem cont_step (st : Wst) (file : ByteArray) (o : Nat) (r : L8) : cont (stepW st file o r) file = wr (cont st file) o r := by
  simp [cont, stepW, applyWr, setF]
theorem layW_file {st : Wst} {file : ByteArray} {lba : Nat} {bs : List Bk} (hg : Good (cont st file)) : ∀ k, k ≤ bs.length → Good (cont (layW st file lba (rsOf bs) k) file) ∧
    ∀ j, blkAt (cont (layW st file lba (rsOf bs) k) file) j = if lba ≤ j ∧ j < lba + k then (bs[j - lba]?).getD emptyB else blkAt (cont st file) j
  | 0, _ => ⟨hg, fun j => by rw [if_neg (by omega)]; rfl⟩
  | k + 1, hk => by
    obtain ⟨h1, h2⟩ := layW_file (lba := lba) (bs := bs) hg k (by omega)
    have hr : rsOf bs k = recB (bs[k]'(by omega)) := by unfold rsOf; rw [List.getElem?_eq_getElem (by omega)]
    refine ⟨?_, fun j => ?_⟩
    · show Good (cont (stepW _ file _ _) file)
      rw [cont_step, hr]; exact good_rec h1 _ _
    · show blkAt (cont (stepW _ file _ _) file) j = _
      rw [cont_step, hr, blkAt_rec h1, h2]
      by_cases e : j = lba + k
      · subst e
        rw [if_pos rfl, if_pos (by omega), Nat.add_sub_cancel_left, List.getElem?_eq_getElem (by omega)]
        rfl
      · rw [if_neg e]
        by_cases q : lba ≤ j ∧ j < lba + k
        · rw [if_pos q, if_pos (by omega)]
        · rw [if_neg q, if_neg (by omega)]
theorem blkAt_nil (j : Nat) : blkAt [] j = emptyB := blkOf_not (by simp)
theorem flat_cut (bs : List Bk) (i m : Nat) : ((bs.flatMap bc).drop (i * 19)).take (m * 19) = ((bs.drop i).take m).flatMap bc := by
  have hd : ∀ (i : Nat) (l : List Bk), (l.flatMap bc).drop (i * 19) = (l.drop i).flatMap bc := by
    intro i
    induction i with
    | zero => intro l; simp
    | succ i ih =>
      intro l
      cases l with
      | nil => simp
      | cons b r =>
        rw [List.flatMap_cons, List.drop_succ_cons, ← ih r, List.drop_append, List.drop_of_length_le (by rw [bc_len]; omega), bc_len, List.nil_append]
        congr 1; omega
  have ht : ∀ (i : Nat) (l : List Bk), (l.flatMap bc).take (i * 19) = (l.take i).flatMap bc := by
    intro i
    induction i with
    | zero => intro l; simp
    | succ i ih =>
      intro l
      cases l with
      | nil => simp
      | cons b r =>
        rw [List.flatMap_cons, List.take_succ_cons, List.flatMap_cons, ← ih r, List.take_append, List.take_of_length_le (by rw [bc_len]; omega), bc_len]
        congr 2; omega
  rw [hd, ht]
theorem rd_bk_cut {w : World} {s : Sl} {bs : List Bk} (h : Rd w 19 s (bs.flatMap bc)) {l k : Nat} (hl : l ≤ k) (hk : k ≤ s.n) : Rd w 19 ⟨cutA s.A s.c l 19, k - l, s.c - l⟩ (((bs.drop l).take (k - l)).flatMap bc) := by
  have := h.cut hl hk
  rwa [flat_cut] at this
theorem IsW.nobytes {w : World} {pw : Nat} {D : Nat → Prop} {st : Wst} (h : IsW w pw D st) : NoBytes w D := by
  obtain ⟨mb, md, ws, cs, h⟩ := h
  exact h.nb
theorem size_s_f : (1 : Nat) ≤ s_f.size ∧ s_f.size ≤ 32 := by decide
def bk7 : Bk := ⟨[0, 0, 0, 0, 0, 0, 0, 0, 0, 0, 0, 0, 0, 0, 0, 0], 0, 7, 0, rfl, by decide, by decide, by decide⟩
end Go.Proofs.Ytaneeadpjelomaa

/- Layer 4: blocks as arguments; the law of two pieces. -/
namespace Go.Proofs.Ytaneeadpjelomaa
open Go CF

section
variable {H : Type} {enc : TypeId × Value → H} {w : World} {base : Nat} {spare : Nat → Bool} {held : Bool}
theorem int_u8 {n : Int} (h : (Lit.int .u8 n).wf = true) : ∃ a : Nat, n = a ∧ a < 256 := by
  simp [Lit.wf, IntKind.min, IntKind.max, IntKind.signed, IntKind.bits] at h
  exact ⟨n.toNat, by omega, by omega⟩
theorem int_u16 {n : Int} (h : (Lit.int .u16 n).wf = true) : ∃ a : Nat, n = a ∧ a < 65536 := by
  simp [Lit.wf, IntKind.min, IntKind.max, IntKind.signed, IntKind.bits] at h
  exact ⟨n.toNat, by omega, by omega⟩
theorem int_u32 {n : Int} (h : (Lit.int .u32 n).wf = true) : ∃ a : Nat, n = a ∧ a < 4294967296 := by
  simp [Lit.wf, IntKind.min, IntKind.max, IntKind.signed, IntKind.bits] at h
  exact ⟨n.toNat, by omega, by omega⟩
theorem bytes_of : ∀ (n : Nat) (cs : List Value), FitL (List.replicate n (.i .u8)) cs → (∀ v ∈ cs, okV v) → ∃ l : L8, l.length = n ∧ cs = bv l
  | 0, [], _, _ => ⟨[], rfl, rfl⟩
  | n + 1, v :: cs, h, hv => by
    obtain ⟨h1, h2⟩ := h
    obtain ⟨l, hl, hc⟩ := bytes_of n cs h2 (fun u hu => hv u (by simp [hu]))
    have hv0 := hv v (by simp)
    obtain ⟨n0, rfl⟩ : ∃ n0 : Int, v = .int .u8 n0 := ⟨_, (Kd.mk_un h1).symm⟩
    obtain ⟨a, rfl, ha⟩ := int_u8 hv0
    refine ⟨UInt8.ofNat a :: l, by simp [hl], ?_⟩
    rw [hc]
    simp only [bv, List.map_cons, UInt8.toNat_ofNat']
    congr 2
    omega
  | n + 1, [], h, _ => h.elim
  | 0, _ :: _, h, _ => h.elim
theorem opens_block : Opens enc Try.prog w base spare held t_api_Block fun cs => ∃ b : Bk, cs = bc b ∧ True :=
  (opens_flat 8 t_api_Block kBk flat_api_Block (by kernel_rfl)).mono fun cs ⟨h, hv⟩ => by
    have h : FitL (List.replicate 16 (.i .u8) ++ [.i .u16, .i .u16, .i .u32]) cs := h
    obtain ⟨h1, h2⟩ := h.append
    simp only [List.length_replicate] at h1 h2
    obtain ⟨l, hl, hc⟩ := bytes_of 16 _ h1 fun v hv' => hv v (List.mem_of_mem_take hv')
    have hv2 : ∀ v ∈ cs.drop 16, okV v := fun v hv' => hv v (List.mem_of_mem_drop hv')
    have e := (List.take_append_drop 16 cs).symm
    generalize cs.drop 16 = r at h2 hv2 e
    match r, h2 with
    | [x, y, z], ⟨hx, hy, hz, _⟩ =>
      have ox := hv2 x (by simp)
      have oy := hv2 y (by simp)
      have oz := hv2 z (by simp)
      obtain ⟨x, rfl⟩ : ∃ n0 : Int, x = .int .u16 n0 := ⟨_, (Kd.mk_un hx).symm⟩
      obtain ⟨y, rfl⟩ : ∃ n0 : Int, y = .int .u16 n0 := ⟨_, (Kd.mk_un hy).symm⟩
      obtain ⟨z, rfl⟩ : ∃ n0 : Int, z = .int .u32 n0 := ⟨_, (Kd.mk_un hz).symm⟩
      obtain ⟨g, rfl, hg⟩ := int_u16 ox
      obtain ⟨a, rfl, ha⟩ := int_u16 oy
      obtain ⟨q, rfl, hr⟩ := int_u32 oz
      exact ⟨⟨l, g, a, q, hl, hg, ha, hr⟩, by rw [e, hc]; rfl, trivial⟩
theorem opens_blocks : Opens enc Try.prog w base spare held t_sl_api_Block fun cs => ∃ s : Sl, cs = [.slice s.A s.n s.c] ∧ ∃ bs : List Bk, Rd w 19 s (bs.flatMap bc) :=
  (opens_slice (f := bc) (Q := fun _ => True) (z := 19) (bytes := 24) u_sl_api_Block (by kernel_rfl) (by kernel_rfl) (by decide) bc_len opens_block).mono fun _ ⟨s, h1, bs, h2, _⟩ => ⟨s, h1, bs, h2⟩
end
theorem rdBl_of {st st' : Wst} {file : ByteArray} {a b n : Nat} (h : ∀ i, i < n → blkAt (cont st file) (a + i) = blkAt (cont st' file) (b + i)) : rdBl st file a n = rdBl st' file b n := by
  unfold rdBl
  apply List.map_congr_left
  intro i hi
  exact h i (List.mem_range.1 hi)
theorem rdBl_list {st : Wst} {file : ByteArray} {a n : Nat} {l : List Bk} (hn : l.length = n) (h : ∀ i (hi : i < l.length), blkAt (cont st file) (a + i) = l[i]) : rdBl st file a n = l := by
  unfold rdBl
  apply List.ext_getElem
  · simp [hn]
  · intro i h1 h2
    rw [List.getElem_map, List.getElem_range]
    exact h i h2
abbrev st0 : Wst := ⟨fun _ => none, fun _ => none, [], 0⟩
end Go.Proofs.Ytaneeadpjelomaa
