/- Layer 5: a payload is saved. -/
import Derived.Test.YtiokflecflbopaaSl3
namespace Go.Proofs.Ytiokflecflbopaa
open Go CF

/-- the world behind a save: a record written at the head of a slot's file, and all durable -/
def savedW (st : Wst) (file : ByteArray) (to : Nat) (g : Nat) (p : L8) (ops : Nat) : Wst :=
  ⟨applyWr st.seen (nmS file to) 0 (recS g p), apAll st.dur (st.waits ++ [⟨119, nmS file to, ⟨#[]⟩, 0, recS g p⟩]), [], ops⟩
/-- where the newest lies, when it is saved -/
def nowS (st : Wst) (file : ByteArray) (sure : Bool) (at_ : Int) (gen : Nat) : Int × Nat := if sure then (at_, gen) else ((ldN st.seen file 2).1, (ldN st.seen file 2).2.1)
def toS (at_ : Int) : Nat := if at_ = 0 then 1 else 0
theorem slots_save_spec {w : World} {ss pw : Nat} {D : Nat → Prop} {st : Wst} {file : ByteArray} {sure : Bool} {at_ : Int} {gen : Nat} {p : Sl} {l : L8} {R : Int → Int → World → Prop} (hS : IsSl w ss pw file sure at_ gen) (hps : ¬ D ss) (hw : IsW w pw D st)
    (hok : Wok st) (hf : 1 ≤ file.size ∧ file.size ≤ 30) (ho : st.ops < 10000000000) (hn : st.waits.length < 10000000) (hl : l.length ≤ 4096) (hp : ∀ u, Keep (fun k => D k ∨ k = ss) w u → Rd u 1 p (bv l))
    (hg : (nowS st file sure at_ gen).2 + 1 < 18446744073709551616)
    (h : ∀ u D', Keep (fun k => D k ∨ k = ss) w u → IsW u pw D' (savedW st file (toS (nowS st file sure at_ gen).1) ((nowS st file sure at_ gen).2 + 1) l (st.ops + (if sure then 0 else 2) + 2)) → (∀ k, D' k → D k ∨ w.heap.size ≤ k) →
      IsSl u ss pw file true (toS (nowS st file sure at_ gen).1) ((nowS st file sure at_ gen).2 + 1) → R (((nowS st file sure at_ gen).2 + 1 : Nat) : Int) 0 u) : Cslots_Slots_Save (some ⟨ss, 0, none⟩) p w R := by
  refine Fslots_Slots_Save.calls _ _ _ _ ?_
  unfold Fslots_Slots_Save
  simp only [gA, add0, Nat.zero_add]
  have hp0 := hp w (Keep.refl _ _)
  have hln := rd_n hp0
  have lss := lt_of_heap hS
  refine br_dec (fun q => absurd q (by omega)) (fun _ => br_f rfl ⟨rfl, sure, by rw [Blk.cell hS]; rfl, ?_⟩)
  have wokA : ∀ to, Wok ⟨applyWr st.seen (nmS file to) 0 (recS ((nowS st file sure at_ gen).2 + 1) l), st.dur, st.waits ++ [⟨119, nmS file to, ⟨#[]⟩, 0, recS ((nowS st file sure at_ gen).2 + 1) l⟩], 0⟩ := fun to c hc => by
    rcases List.mem_append.1 hc with q | q
    · exact hok c q
    · rw [List.mem_singleton.1 q]; exact ⟨rfl, by show 0 + (recS _ _).length ≤ _; rw [recS_len]; omega⟩
  generalize hN : nowS st file sure at_ gen = N at *
  refine letX0 (fun u => Keep (fun k => D k ∨ k = ss) w u ∧ IsW u pw D { st with ops := st.ops + (if sure then 0 else 2) } ∧ ∃ s1, IsSl u ss pw file s1 N.1 N.2) ?_ (fun J => ?_)
  · rintro w1 ⟨hk1, hw1, s1, hS1⟩
    refine ⟨rfl, ?_⟩
    refine put_sl hS1 hps hw1 (by show 2 < 5; decide) rfl fun w2 hS2 hw2 hk2 => ⟨rfl, N.1, by rw [Blk.cell hS2]; rfl, ?_⟩
    have hS2 : IsSl w2 ss pw file false N.1 N.2 := hS2
    refine letX1 (fun (to : Int) u => u = w2 ∧ to = (toS N.1 : Int)) ?_ (fun J2 => ?_)
    · rintro to u ⟨rfl, rfl⟩
      refine ⟨rfl, (N.2 : Int), by rw [Blk.cell hS2]; rfl, ?_⟩
      rw [wu64 (by omega) (by omega), show ((N.2 : Int) + 1) = ((N.2 + 1 : Nat) : Int) by omega]
      have hk12 : Keep (fun k => D k ∨ k = ss) w u := hk1.trans hk2 fun _ _ q => .inr q
      have s2 := hk12.size
      refine slots_record_spec (hp u hk12) hg (fun q => absurd q (by omega)) fun _ r w3 hown3 hg3 hn3 => ?_
      rintro w4 rfl
      have hg4 : Grow u w3.drew := hg3.trans (keep_drew w3)
      refine ⟨fun u => IsSl u ss pw file false N.1 N.2, hg4.heap hS2 (fun q => q), rfl, some ⟨pw, 0, none⟩, fun u hu => by rw [Blk.cell hu]; rfl, ?_⟩
      have hto : toS N.1 < 10 := by unfold toS; split <;> decide
      refine slname_spec (hg4.heap hS2 (fun q => q)) hf.2 hto fun w5 hg5 => ⟨(hg4.trans hg5).heap hS2 (fun q => q), ?_⟩
      have hg25 := hg4.trans hg5
      have hown5 : Own w5 u.heap.size t_uint8 1 r (bv (recS (N.2 + 1) l)) := (hown3.grow (keep_drew w3)).grow hg5
      refine world_write_spec (off := 0) (bs := recS (N.2 + 1) l) (hw2.grow hg25) (by rw [nmS_size]; omega) (hown5.rd (by omega)) (by rw [recS_len]; omega) (by show st.ops + _ < _; split <;> omega) (by show st.waits.length < _; omega) fun w6 D6 hk6 hw6 hD6 => ?_
      have hS6 : IsSl w6 ss pw file false N.1 N.2 := hk6.heap (hg25.heap hS2 (fun q => q)) hps
      have hk06 : Keep (fun k => D k ∨ k = ss) w w6 := (hk12.grow hg25).trans hk6 fun _ _ q => .inl q
      have s5 := hg25.size
      have nD6 : ¬ D6 ss := fun q => by rcases hD6 _ q with r | r
                                        · exact hps r
                                        · omega
      refine letX1 (fun (e : Int) u => e = 0 ∧ ∃ D', Keep (fun k => D k ∨ k = ss) w u ∧ IsW u pw D' (savedW st file (toS N.1) (N.2 + 1) l (st.ops + (if sure then 0 else 2) + 2)) ∧ (∀ k, D' k → D k ∨ w.heap.size ≤ k) ∧ IsSl u ss pw file false N.1 N.2) ?_ (fun J3 => ?_)
      · rintro e w7 ⟨rfl, D7, hk7, hw7, hD7, hS7⟩
        have nD7 : ¬ D7 ss := fun q => by rcases hD7 _ q with r | r
                                          · exact hps r
                                          · omega
        refine br_f rfl ⟨rfl, (N.2 : Int), by rw [Blk.cell hS7]; rfl, rfl, ?_⟩
        rw [wu64 (by omega) (by omega), show ((N.2 : Int) + 1) = ((N.2 + 1 : Nat) : Int) by omega]
        refine put_sl hS7 nD7 hw7 (by show 3 < 5; decide) rfl fun w8 hS8 hw8 hk8 => ⟨rfl, ?_⟩
        refine put_sl hS8 nD7 hw8 (by show 4 < 5; decide) rfl fun w9 hS9 hw9 hk9 => ⟨rfl, ?_⟩
        refine put_sl hS9 nD7 hw9 (by show 2 < 5; decide) rfl fun w10 hS10 hw10 hk10 => ?_
        refine ⟨rfl, ((N.2 + 1 : Nat) : Int), by rw [Blk.cell hS10]; rfl, ?_⟩
        have hkf : Keep (fun k => k = ss) w7 w10 := (hk8.trans hk9 fun _ _ q => q).trans hk10 fun _ _ q => q
        exact h w10 D7 (hk7.trans hkf fun _ _ q => .inr q) hw10 hD7 hS10
      · refine br_t rfl ⟨rfl, some ⟨pw, 0, none⟩, by rw [Blk.cell hS6]; rfl, ?_⟩
        refine sync_spec hw6 (wokA _) (by show st.ops + _ + 1 < _; split <;> omega) (by show (st.waits ++ [_]).length < _; rw [List.length_append]; show st.waits.length + 1 < _; omega) fun w7 D7 hk7 hw7 hD7 => ?_
        have s6 := hk6.size
        refine J3 0 w7 ⟨rfl, D7, hk06.trans hk7 fun i hi q => ?_, hw7, fun k q => ?_, hk7.heap hS6 nD6⟩
        · rcases hD6 i q with r | r
          · exact .inl r
          · omega
        · rcases hD7 k q with r | r
          · rcases hD6 k r with r | r
            · exact .inl r
            · exact .inr (by omega)
          · exact .inr (by omega)
    · refine br_eq (fun q => J2 1 w2 ⟨rfl, ?_⟩) (fun q => J2 0 w2 ⟨rfl, ?_⟩)
      · unfold toS; rw [if_pos q]; rfl
      · unfold toS; rw [if_neg q]; rfl
  · cases sure with
    | true => exact br_f rfl (J w ⟨Keep.refl _ _, hw, true, by rw [← hN]; exact hS⟩)
    | false =>
      refine br_t rfl (slots_load_spec hS hps hw hf (by omega) fun best u hk hu hSu hb => br_f ?_ (J u ⟨hk, hu, true, by rw [← hN]; exact hSu⟩))
      split <;> rfl
end Go.Proofs.Ytiokflecflbopaa
