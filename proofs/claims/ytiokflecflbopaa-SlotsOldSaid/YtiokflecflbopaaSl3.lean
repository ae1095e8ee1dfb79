/- Layer 5: slots: opened, loaded, saved. -/
import Derived.Test.YtiokflecflbopaaSl2
import Derived.Test.YtiokflecflbopaaWo5
namespace Go.Proofs.Ytiokflecflbopaa
open Go CF

def slcells (pw : Nat) (file : ByteArray) (sure : Bool) (at_ : Int) (gen : Nat) : Array Value := #[.pointer (some ⟨pw, 0, none⟩), .string file, .bool sure, .int .i64 at_, .int .u64 (gen : Int)]
abbrev IsSl (w : World) (ss pw : Nat) (file : ByteArray) (sure : Bool) (at_ : Int) (gen : Nat) : Prop := Blk w ss (slcells pw file sure at_ gen) t_slots_Slots
theorem slots_open_spec {w : World} {pw : Nat} {file : ByteArray} {R : Option Addr → Int → World → Prop} (hs : 1 ≤ file.size ∧ file.size ≤ 30)
    (h : ∀ ss w', ss = w.heap.size → Grow w w' → IsSl w' ss pw file false (-1) 0 → R (some ⟨ss, 0, none⟩) 0 w') : Cslots_Open (some ⟨pw, 0, none⟩) file w R := by
  refine Fslots_Open.calls _ _ _ _ ?_
  refine br_f (by rw [Bool.or_eq_false_iff, decide_eq_false_iff_not, decide_eq_false_iff_not]; omega) (br_f rfl ?_)
  exact new_rule fun ss w1 hss hb1 hg1 _ => h ss w1 hss hg1 hb1
/-- the name of a slot's file -/
def nmS (file : ByteArray) (i : Nat) : ByteArray := (file ++ s_x2e) ++ str [UInt8.ofNat (48 + i)]
theorem nmS_size (file : ByteArray) (i : Nat) : (nmS file i).size = file.size + 2 := by
  unfold nmS
  rw [ByteArray.size_append, ByteArray.size_append, size_str]; rfl
theorem ls_append (a b : ByteArray) : ls (a ++ b) = ls a ++ ls b := by
  show (a ++ b).data.toList = _
  rw [ByteArray.data_append, Array.toList_append]; rfl
theorem nmS_ne (file : ByteArray) : nmS file 0 ≠ nmS file 1 := fun q => by
  have := congrArg ls q
  unfold nmS at this
  rw [ls_append, ls_append] at this
  have := List.append_cancel_left this
  exact absurd this (by decide)
theorem slname_spec {w : World} {ss pw : Nat} {file : ByteArray} {sure : Bool} {at_ : Int} {gen : Nat} {i : Nat} {R : ByteArray → World → Prop} (hS : IsSl w ss pw file sure at_ gen) (hf : file.size ≤ 30) (hi : i < 10)
    (h : ∀ w', Grow w w' → R (nmS file i) w') : Cslots_Slots_name (some ⟨ss, 0, none⟩) (i : Int) w R := by
  refine Fslots_Slots_name.calls _ _ _ _ ?_
  rintro w0 rfl
  have hg0 : Grow w w.drew := keep_drew w
  have e0 : s_x2e.size = 1 := by decide
  refine ⟨fun u => IsSl u ss pw file sure at_ gen, hg0.heap hS (fun q => q), rfl, file, fun u hu => by rw [gA, add0, Blk.cell hu]; rfl, by omega, ?_⟩
  have e1 : IntKind.wrap .u8 (IntKind.wrap .i64 (48 + (i : Int))) = ((UInt8.ofNat (48 + i)).toNat : Int) := by
    rw [w64 (by omega) (by omega), show (48 : Int) + (i : Int) = ((48 + i : Nat) : Int) by omega, wrap_u8]
  rw [e1]
  refine lit_rule (cells := (bv [UInt8.ofNat (48 + i)]).toArray) (e := t_uint8) (z := 1) (base := 0) (by kernel_rfl) rfl (by decide) (Nat.zero_le _) fun w1 hlit1 hg1 _ => ⟨(hg0.trans hg1).heap hS (fun q => q), ?_⟩
  have hrd : Rd w1 1 ⟨some ⟨w.drew.heap.size, 0, none⟩, 1, 1⟩ (bv [UInt8.ofNat (48 + i)]) := hlit1.rd (by show 1 ≤ _; decide)
  refine ⟨fun u => Rd u 1 ⟨some ⟨w.drew.heap.size, 0, none⟩, 1, 1⟩ (bv [UInt8.ofNat (48 + i)]) ∧ IsSl u ss pw file sure at_ gen, ⟨hrd, (hg0.trans hg1).heap hS (fun q => q)⟩, fun u hu => hu.2, str [UInt8.ofNat (48 + i)],
    fun u hu => convStr_rule (s := ⟨some ⟨w.drew.heap.size, 0, none⟩, 1, 1⟩) u_sl_uint8 u_uint8 u_string hu.1, ?_, h w1 (hg0.trans hg1)⟩
  rw [ByteArray.size_append, size_str, e0]
  show file.size + 1 + 1 ≤ _
  omega
/-! ### what is loaded -/
def ldStep (x : Int × Nat × L8) (i : Nat) (l : L8) : Int × Nat × L8 := if (decS l).2.2 = 0 ∧ (x.1 < 0 ∨ x.2.1 < (decS l).1) then ((i : Int), (decS l).1, (decS l).2.1) else x
def slFile (F : Files) (file : ByteArray) (i : Nat) : L8 := ((F (nmS file i)).getD []).take 4116
def ldN (F : Files) (file : ByteArray) : Nat → Int × Nat × L8
  | 0 => (-1, 0, [])
  | k + 1 => ldStep (ldN F file k) k (slFile F file k)
theorem decS_lt (l : L8) : (decS l).1 < 18446744073709551616 := by
  unfold decS
  split
  · decide
  · split
    · decide
    · split
      · decide
      · have := num_lt ((l.drop 4).take 8)
        refine Nat.lt_of_lt_of_le this ?_
        calc 256 ^ ((l.drop 4).take 8).length ≤ 256 ^ 8 := Nat.pow_le_pow_right (by decide) (by rw [List.length_take]; omega)
          _ = 18446744073709551616 := by decide
theorem ldN_none {F : Files} {file : ByteArray} : ∀ {k : Nat}, (ldN F file k).1 < 0 → ldN F file k = (-1, 0, [])
  | 0, _ => rfl
  | k + 1, h => by
    simp only [ldN] at h ⊢
    unfold ldStep at h ⊢
    split
    · rename_i q
      rw [if_pos q] at h
      simp only at h
      omega
    · rename_i q
      rw [if_neg q] at h
      exact ldN_none h
theorem ldN_ge {F : Files} {file : ByteArray} : ∀ (k : Nat), -1 ≤ (ldN F file k).1 ∧ (ldN F file k).1 < k ∨ ldN F file k = (-1, 0, [])
  | 0 => .inr rfl
  | k + 1 => by
    simp only [ldN]
    unfold ldStep
    split
    · left; simp only; omega
    · rcases ldN_ge (F := F) (file := file) k with q | q
      · left; omega
      · right; exact q
theorem put_sl {w : World} {ss pw : Nat} {D : Nat → Prop} {st : Wst} {cs : Array Value} {o : Nat} {v : Value} (hS : Blk w ss cs t_slots_Slots) (hps : ¬ D ss) (hw : IsW w pw D st) (ho : o < cs.size) (hv : v.oneCell' = true) {K : World → Prop}
    (h : ∀ u, Blk u ss (cs.setIfInBounds o v) t_slots_Slots → IsW u pw D st → Keep (fun k => k = ss) w u → K u) : Put ⟨ss, o, none⟩ v w K :=
  put_rule hS ho hv fun u hb hk _ => h u hb (hw.keep hk (fun k hk' q => hps (q ▸ hk')) (fun g cur hg q => by subst q; exact absurd (blk_type hS hg) (by decide))) hk
theorem slots_load_spec {w : World} {ss pw : Nat} {D : Nat → Prop} {st : Wst} {file : ByteArray} {sure : Bool} {at_ : Int} {gen : Nat} {R : Sl → Int → Int → World → Prop} (hS : IsSl w ss pw file sure at_ gen) (hps : ¬ D ss) (hw : IsW w pw D st)
    (hf : 1 ≤ file.size ∧ file.size ≤ 30) (ho : st.ops < 100000000000)
    (h : ∀ best u, Keep (fun k => D k ∨ k = ss) w u → IsW u pw D { st with ops := st.ops + 2 } → IsSl u ss pw file true (ldN st.seen file 2).1 (ldN st.seen file 2).2.1 → Own u w.heap.size t_uint8 1 best (bv (ldN st.seen file 2).2.2) →
      R best (((ldN st.seen file 2).2.1 : Nat) : Int) (if (ldN st.seen file 2).1 < 0 then 8 else 0) u) : Cslots_Slots_Load (some ⟨ss, 0, none⟩) w R := by
  refine Fslots_Slots_Load.calls _ _ _ ?_
  refine br_f rfl ⟨rfl, ?_⟩
  rw [gA, add0]
  have lss := lt_of_heap hS
  refine put_sl hS hps hw (by show 2 < 5; decide) rfl fun w0 hS0 hw0 hk0 => ?_
  have hS0 : IsSl w0 ss pw file false at_ gen := hS0
  refine ⟨fun best a m x u => ∃ j : Nat, x = j ∧ j ≤ 2 ∧ a = (ldN st.seen file j).1 ∧ m = (((ldN st.seen file j).2.1 : Nat) : Int) ∧ Keep (fun k => D k ∨ k = ss) w u ∧ IsW u pw D { st with ops := st.ops + j } ∧ IsSl u ss pw file false at_ gen ∧
      Own u w.heap.size t_uint8 1 best (bv (ldN st.seen file j).2.2), fun _ _ _ x _ => 2 - x.toNat, ⟨0, rfl, by decide, rfl, rfl, hk0.mono fun _ _ q => .inr q, hw0, hS0, own_nil _ _ _ _⟩, ?_⟩
  rintro best a m x w1 ⟨j, rfl, hj, rfl, rfl, hk1, hw1, hS1, hown1⟩
  have s1 := hk1.size
  refine br_dec (fun hlt => ?_) (fun hge => ?_)
  · rintro w2 rfl
    have hg2 : Grow w1 w1.drew := keep_drew w1
    refine ⟨fun u => IsSl u ss pw file false at_ gen, hg2.heap hS1 (fun q => q), rfl, some ⟨pw, 0, none⟩, fun u hu => by rw [add0, Blk.cell hu]; rfl, ?_⟩
    refine slname_spec (hg2.heap hS1 (fun q => q)) hf.2 (by omega) fun w3 hg3 => ⟨(hg2.trans hg3).heap hS1 (fun q => q), ?_⟩
    have hg13 := hg2.trans hg3
    refine world_read_spec (off := 0) (n := 4116) (hw1.grow hg13) (by rw [nmS_size]; omega) (by decide) (by decide) (by show st.ops + j < _; omega) fun s w4 hk4 hw4 hown4 hsn => ?_
    have hown4 : Own w4 w3.heap.size t_uint8 1 s (bv (slFile st.seen file j)) := hown4
    refine br_f (by
      show (_ && _) = false
      cases (st.seen (nmS file j)).isSome <;> rfl) ?_
    have nDown : ∀ b, best.blk = some b → ¬ D b := fun b hb q => by
      have h1 := (hown1.ge b hb).1
      have h2 := hw.lt q
      omega
    have hown1' : Own w4 w.heap.size t_uint8 1 best (bv (ldN st.seen file j).2.2) := (hown1.grow hg13).keep hk4 nDown
    have hS4 : IsSl w4 ss pw file false at_ gen := hk4.heap (hg13.heap hS1 (fun q => q)) hps
    have hk14 : Keep (fun k => D k ∨ k = ss) w w4 := (hk1.grow hg13).trans hk4 fun _ _ q => .inl q
    refine slots_decode_spec (hown4.rd (by omega)) fun s5 w5 hown5 hg5 => ?_
    have fin : ∀ (b : Sl) (a : Int) (m : Int), a = (ldN st.seen file (j + 1)).1 → m = (((ldN st.seen file (j + 1)).2.1 : Nat) : Int) → Own w5 w.heap.size t_uint8 1 b (bv (ldN st.seen file (j + 1)).2.2) →
        (∃ j_1 : Nat, IntKind.wrap .i64 ((j : Int) + 1) = j_1 ∧ j_1 ≤ 2 ∧ a = (ldN st.seen file j_1).1 ∧ m = (((ldN st.seen file j_1).2.1 : Nat) : Int) ∧ Keep (fun k => D k ∨ k = ss) w w5 ∧ IsW w5 pw D { st with ops := st.ops + j_1 } ∧ IsSl w5 ss pw file false at_ gen ∧
          Own w5 w.heap.size t_uint8 1 b (bv (ldN st.seen file j_1).2.2)) ∧ 2 - (IntKind.wrap .i64 ((j : Int) + 1)).toNat < 2 - (j : Int).toNat := fun b a m ha hm hb => by
      rw [w64 (by omega) (by omega)]
      exact ⟨⟨j + 1, by omega, by omega, ha, hm, hk14.grow hg5, hw4.grow hg5, hg5.heap hS4 (fun q => q), hb⟩, by omega⟩
    have hE : ldN st.seen file (j + 1) = ldStep (ldN st.seen file j) j (slFile st.seen file j) := rfl
    generalize ldN st.seen file (j + 1) = L1 at *
    by_cases q : (decS (slFile st.seen file j)).2.2 = 0 ∧ ((ldN st.seen file j).1 < 0 ∨ (ldN st.seen file j).2.1 < (decS (slFile st.seen file j)).1)
    · rw [ldStep, if_pos q] at hE
      refine br_t ?_ (fin _ _ _ (by rw [hE]) (by rw [hE]) (by rw [hE]; exact hown5.mono (by have := hk14.size; omega)))
      rw [Bool.and_eq_true, Bool.or_eq_true, beq_iff_eq, decide_eq_true_eq, decide_eq_true_eq]
      omega
    · rw [ldStep, if_neg q] at hE
      refine br_f ?_ (fin _ _ _ (by rw [hE]) (by rw [hE]) (by rw [hE]; exact hown1'.grow hg5))
      rw [Bool.and_eq_false_iff, Bool.or_eq_false_iff, beq_eq_false_iff_ne, decide_eq_false_iff_not, decide_eq_false_iff_not]
      omega
  · have hj2 : j = 2 := by omega
    subst hj2
    refine ⟨rfl, ?_⟩
    rw [add0]
    refine put_sl hS1 hps hw1 (by show 3 < 5; decide) rfl fun w2 hS2 hw2 hk2 => ⟨rfl, ?_⟩
    rw [add0]
    refine put_sl hS2 hps hw2 (by show 4 < 5; decide) rfl fun w3 hS3 hw3 hk3 => ⟨rfl, ?_⟩
    refine put_sl hS3 hps hw3 (by show 2 < 5; decide) rfl fun w4 hS4 hw4 hk4 => ?_
    have hS4 : IsSl w4 ss pw file true (ldN st.seen file 2).1 (ldN st.seen file 2).2.1 := hS4
    have hkf : Keep (fun k => k = ss) w1 w4 := (hk2.trans hk3 fun _ _ q => q).trans hk4 fun _ _ q => q
    have hk14 : Keep (fun k => D k ∨ k = ss) w w4 := hk1.trans hkf fun _ _ q => .inr q
    have hown4 : Own w4 w.heap.size t_uint8 1 best (bv (ldN st.seen file 2).2.2) := hown1.keep hkf fun b hb q => by
      have := (hown1.ge b hb).1; omega
    have := h best w4 hk14 hw4 hS4 hown4
    refine br_dec (fun q => ?_) (fun q => ?_)
    · rw [if_pos q] at this
      have hn := ldN_none q
      have := h ⟨none, 0, 0⟩ w4 hk14 hw4 hS4 (by rw [hn]; exact own_nil _ _ _ _)
      rw [if_pos q, hn] at this
      exact this
    · rw [if_neg q] at this
      exact this
end Go.Proofs.Ytiokflecflbopaa
