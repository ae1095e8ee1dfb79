/- Layer 4: blocks as arguments; the law of two pieces. -/
import Derived.Test.YtaneeadpjelomaaSt6
namespace Go.Proofs.Ytaneeadpjelomaa
open Go CF

section
variable {H : Type} {enc : TypeId × Value → H} {w : World} {base : Nat} {spare : Nat → Bool} {held : Bool}
theorem int_u8 {n : Int} (h : (Lit.int .u8 n).wf = true) : ∃ a : Nat, n = a ∧ a < 256 := by
  simp [Lit.wf, IntKind.min, IntKind.max, IntKind.signed, IntKind.bits] at h
  exact ⟨n.toNat, by omega, by omega⟩
theorem int_u16 {n : Int} (h : (Lit.int .u16 n).wf = true) : ∃ a : Nat, n = a ∧ a < 65536 := by
  simp [Lit.wf, IntKind.min, IntKind.max, IntKind.signed, IntKind.bits] at h
  exact ⟨n.toNat, by omega, by omega⟩
theorem int_u32 {n : Int} (h : (Lit.int .u32 n).wf = true) : ∃ a : Nat, n = a ∧ a < 4294967296 := by
  simp [Lit.wf, IntKind.min, IntKind.max, IntKind.signed, IntKind.bits] at h
  exact ⟨n.toNat, by omega, by omega⟩
theorem bytes_of : ∀ (n : Nat) (cs : List Value), FitL (List.replicate n (.i .u8)) cs → (∀ v ∈ cs, okV v) → ∃ l : L8, l.length = n ∧ cs = bv l
  | 0, [], _, _ => ⟨[], rfl, rfl⟩
  | n + 1, v :: cs, h, hv => by
    obtain ⟨h1, h2⟩ := h
    obtain ⟨l, hl, hc⟩ := bytes_of n cs h2 (fun u hu => hv u (by simp [hu]))
    have hv0 := hv v (by simp)
    obtain ⟨n0, rfl⟩ : ∃ n0 : Int, v = .int .u8 n0 := ⟨_, (Kd.mk_un h1).symm⟩
    obtain ⟨a, rfl, ha⟩ := int_u8 hv0
    refine ⟨UInt8.ofNat a :: l, by simp [hl], ?_⟩
    rw [hc]
    simp only [bv, List.map_cons, UInt8.toNat_ofNat']
    congr 2
    omega
  | n + 1, [], h, _ => h.elim
  | 0, _ :: _, h, _ => h.elim
theorem opens_block : Opens enc Try.prog w base spare held t_api_Block fun cs => ∃ b : Bk, cs = bc b ∧ True :=
  (opens_flat 8 t_api_Block kBk flat_api_Block (by kernel_rfl)).mono fun cs ⟨h, hv⟩ => by
    have h : FitL (List.replicate 16 (.i .u8) ++ [.i .u16, .i .u16, .i .u32]) cs := h
    obtain ⟨h1, h2⟩ := h.append
    simp only [List.length_replicate] at h1 h2
    obtain ⟨l, hl, hc⟩ := bytes_of 16 _ h1 fun v hv' => hv v (List.mem_of_mem_take hv')
    have hv2 : ∀ v ∈ cs.drop 16, okV v := fun v hv' => hv v (List.mem_of_mem_drop hv')
    have e := (List.take_append_drop 16 cs).symm
    generalize cs.drop 16 = r at h2 hv2 e
    match r, h2 with
    | [x, y, z], ⟨hx, hy, hz, _⟩ =>
      have ox := hv2 x (by simp)
      have oy := hv2 y (by simp)
      have oz := hv2 z (by simp)
      obtain ⟨x, rfl⟩ : ∃ n0 : Int, x = .int .u16 n0 := ⟨_, (Kd.mk_un hx).symm⟩
      obtain ⟨y, rfl⟩ : ∃ n0 : Int, y = .int .u16 n0 := ⟨_, (Kd.mk_un hy).symm⟩
      obtain ⟨z, rfl⟩ : ∃ n0 : Int, z = .int .u32 n0 := ⟨_, (Kd.mk_un hz).symm⟩
      obtain ⟨g, rfl, hg⟩ := int_u16 ox
      obtain ⟨a, rfl, ha⟩ := int_u16 oy
      obtain ⟨q, rfl, hr⟩ := int_u32 oz
      exact ⟨⟨l, g, a, q, hl, hg, ha, hr⟩, by rw [e, hc]; rfl, trivial⟩
theorem opens_blocks : Opens enc Try.prog w base spare held t_sl_api_Block fun cs => ∃ s : Sl, cs = [.slice s.A s.n s.c] ∧ ∃ bs : List Bk, Rd w 19 s (bs.flatMap bc) :=
  (opens_slice (f := bc) (Q := fun _ => True) (z := 19) (bytes := 24) u_sl_api_Block (by kernel_rfl) (by kernel_rfl) (by decide) bc_len opens_block).mono fun _ ⟨s, h1, bs, h2, _⟩ => ⟨s, h1, bs, h2⟩
end
theorem rdBl_of {st st' : Wst} {file : ByteArray} {a b n : Nat} (h : ∀ i, i < n → blkAt (cont st file) (a + i) = blkAt (cont st' file) (b + i)) : rdBl st file a n = rdBl st' file b n := by
  unfold rdBl
  apply List.map_congr_left
  intro i hi
  exact h i (List.mem_range.1 hi)
theorem rdBl_list {st : Wst} {file : ByteArray} {a n : Nat} {l : List Bk} (hn : l.length = n) (h : ∀ i (hi : i < l.length), blkAt (cont st file) (a + i) = l[i]) : rdBl st file a n = l := by
  unfold rdBl
  apply List.ext_getElem
  · simp [hn]
  · intro i h1 h2
    rw [List.getElem_map, List.getElem_range]
    exact h i h2
abbrev st0 : Wst := ⟨fun _ => none, fun _ => none, [], 0⟩
end Go.Proofs.Ytaneeadpjelomaa
