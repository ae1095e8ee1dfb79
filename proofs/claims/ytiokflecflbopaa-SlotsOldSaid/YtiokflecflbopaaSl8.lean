/- Layer 5: the law of slots that were spoiled, whole. -/
import Derived.Test.YtiokflecflbopaaSl7
namespace Go.Proofs.Ytiokflecflbopaa
open Go CF

theorem spoil_set {g AT BY : Nat} {p : L8} (hp : p.length ≤ 4096) (hBY : BY < 256) (hb : BY ≠ 0) :
    (decS ((wr (recS g p) (spAt AT (recS g p).length) [UInt8.ofNat (((recS g p).getD (spAt AT (recS g p).length) 0).toNat ^^^ BY)]).take 4116)).2.2 ≠ 0 := by
  have hl := recS_len g p
  have hm : AT % (recS g p).length < (recS g p).length := Nat.mod_lt _ (by omega)
  have hI : spAt AT (recS g p).length < (recS g p).length ∧ ¬ (12 ≤ spAt AT (recS g p).length ∧ spAt AT (recS g p).length < 16) := by unfold spAt; split <;> omega
  generalize spAt AT (recS g p).length = I at *
  have ef : (recS g p).getD I 0 = (recS g p)[I] := by rw [List.getD_eq_getElem?_getD, List.getElem?_eq_getElem hI.1]; rfl
  rw [ef, wr_one hI.1, List.take_of_length_le (by rw [List.length_set]; omega)]
  refine spoil_dec hp hI.1 hI.2 fun q => ?_
  have hx := (xor8 (a := (recS g p)[I].toNat) (b := BY) (recS g p)[I].toNat_lt hBY).2
  have := congrArg UInt8.toNat q
  rw [UInt8.toNat_ofNat', Nat.mod_eq_of_lt hx] at this
  exact xor_ne hb this
theorem slotsOld_spec {a b : Sl} {al bl : L8} {AT BY : Nat} {two : Bool} {w : World} {R : Bool → World → Prop} (ha : Rd w 1 a (bv al)) (hb : Rd w 1 b (bv bl)) (hAT : AT < 65536) (hBY : BY < 256) (h : ∀ w', Grow w w' → R true w') :
    Cpalletlaw05_SlotsOld a b (AT : Int) (BY : Int) two w R := by
  refine Fpalletlaw05_SlotsOld.calls _ _ _ _ _ _ _ ?_
  refine new_rule fun ab w0 hab hb0 hg0 hsz0 => ?_
  refine new_rule fun bb w1 hbb hb1 hg1 hsz1 => ?_
  have hb0 : Blk w0 ab #[.int .u16 (AT : Int)] t_uint16 := hb0
  have hb1 : Blk w1 bb #[.int .u8 (BY : Int)] t_uint8 := hb1
  refine awake05_spec fun w2 hg2 => ?_
  have s0 := hg0.size
  have s1 := hg1.size
  have s2 := hg2.size
  have hgw2 : Grow w w2 := (hg0.trans hg1).trans hg2
  by_cases hlen : a.n ≤ 500 ∧ b.n ≤ 500
  case neg => exact br_t (by rw [Bool.or_eq_true, Bool.or_eq_true, decide_eq_true_eq, decide_eq_true_eq]; omega) (awake05_spec fun w3 hg3 => h w3 (hgw2.trans hg3))
  refine br_f (by rw [Bool.or_eq_false_iff, Bool.or_eq_false_iff, decide_eq_false_iff_not, decide_eq_false_iff_not]; exact ⟨⟨rfl, by omega⟩, by omega⟩) ?_
  have han := rd_n ha
  have hbn := rd_n hb
  refine world_new_spec fun pa D w3 hg3 hw3 hD3 => ?_
  refine new_rule fun wb w4 hwb hb4 hg4 hsz4 => ?_
  have hb4 : Blk w4 wb #[.pointer none] t_p_world_World := hb4
  refine put_rule hb4 (by decide) rfl fun w5 hb5 hk5 hsz5 => ?_
  have hb5 : Blk w5 wb #[.pointer (some ⟨pa, 0, none⟩)] t_p_world_World := hb5
  have s3 := hg3.size
  have s4 := hg4.size
  have lbb := lt_of_heap hb1
  have lab := lt_of_heap hb0
  have hgw5 : Grow w w5 := ((hgw2.trans hg3).trans hg4).keep hk5 fun i hi q => by omega
  have hw5 : IsW w5 pa D ⟨fun _ => none, fun _ => none, [], 0⟩ := (hw3.grow hg4).keep hk5 (fun k hk q => by have := hw3.lt hk; omega) (fun g cur hg q => by subst q; exact absurd (blk_type hb4 hg) (by decide))
  have O5 : OldS w w5 pa wb ab bb w2.heap.size AT BY D ⟨fun _ => none, fun _ => none, [], 0⟩ :=
    ⟨hgw5, hw5, hb5, hk5.heap (hg4.heap (hg3.heap (hg2.heap (hg1.heap hb0 (fun q => q)) (fun q => q)) (fun q => q)) (fun q => q)) (by omega), hk5.heap (hg4.heap (hg3.heap (hg2.heap hb1 (fun q => q)) (fun q => q)) (fun q => q)) (by omega),
      fun c hc => (by cases hc), fun k q => ⟨hD3 k q, by have := hw3.lt q; omega⟩, by omega⟩
  refine ⟨some ⟨pa, 0, none⟩, by rw [Blk.cell hb5]; rfl, ?_⟩
  refine slots_open_spec size_s_k fun ss w6 hss hg6 hS6 => ?_
  have s5 : w4.heap.size ≤ w5.heap.size := by omega
  have lss := lt_of_heap hS6
  have O6 := O5.step (hg6.mono (S' := fun _ => False) fun _ _ q => q) (fun _ q => q.elim) (O5.isW.grow hg6) O5.ok O5.good
  refine ⟨(BY : Int), fun _ => by rw [Blk.cell O6.bb_]; rfl, ?_⟩
  by_cases hz : BY = 0
  · exact br_t (by rw [hz]; rfl) (h w6 O6.grow)
  refine br_f (by rw [Bool.or_eq_false_iff, beq_eq_false_iff_ne]; exact ⟨rfl, by omega⟩) ?_
  have nss : w2.heap.size ≤ ss ∧ ss ≠ wb := by omega
  have nD : ¬ D ss := fun q => by have := hw5.lt q; omega
  have rdA : ∀ {u v : World} {D' : Nat → Prop} {st'} {x : Sl} {l : L8}, Rd w 1 x (bv l) → OldS w u pa wb ab bb w2.heap.size AT BY D' st' → Keep (fun k => D' k ∨ k = ss) u v → Rd v 1 x (bv l) := fun hx O hk =>
    hx.grow (O.grow.keep hk fun i hi q => by
      rcases q with q | q
      · have := (O.good i q).1; omega
      · omega)
  have goodD : ∀ {u : World} {D' D2 : Nat → Prop} {st'}, OldS w u pa wb ab bb w2.heap.size AT BY D' st' → w6.heap.size ≤ u.heap.size → (∀ k, D2 k → D' k ∨ u.heap.size ≤ k) → ∀ k, D2 k → w2.heap.size ≤ k ∧ k ≠ wb := fun O hu hD k q => by
    rcases hD k q with r | r
    · exact O.good k r
    · omega
  have goodS : ∀ {u : World} {D' : Nat → Prop} {st'}, OldS w u pa wb ab bb w2.heap.size AT BY D' st' → ∀ k, (D' k ∨ k = ss) → w2.heap.size ≤ k ∧ k ≠ wb := fun O k q => by
    rcases q with q | q
    · exact O.good k q
    · exact q ▸ nss
  refine slots_save_at (l := al) hS6 nD O6.isW O6.ok size_s_k (by decide) (by decide) (by omega) (fun v hk => rdA ha O6 hk) (at_new s_k) (fun q => by cases q) (by decide) fun w7 D7 st7 hk7 hw7 hwt7 ho7 hat7 hot7 hfile7 hoth7 hD7 nD7 hS7 => ?_
  have O7 := O6.step hk7 (goodS O6) hw7 (fun c hc => by rw [hwt7] at hc; cases hc) (goodD O6 (Nat.le_refl _) hD7)
  have s7 := hk7.size
  have ho7 : st7.ops ≤ 4 := ho7
  refine slots_save_at (l := bl) hS7 nD7 O7.isW O7.ok size_s_k (by omega) (by rw [hwt7]; decide) (by omega) (fun v hk => rdA hb O7 hk) hat7 (fun _ => ⟨rfl, rfl⟩) (by decide) fun w8 D8 st8 hk8 hw8 hwt8 ho8 hat8 hot8 hfile8 hoth8 hD8 nD8 hS8 => ?_
  have O8 := O7.step hk8 (goodS O7) hw8 (fun c hc => by rw [hwt8] at hc; cases hc) (goodD O7 s7 hD8)
  have s8 := hk8.size
  have e0 : toS (-1) = 0 := rfl
  have e1 : toS ((0 : Nat) : Int) = 1 := rfl
  obtain ⟨x7, hx7, hn7⟩ := hfile7
  rw [hn7 rfl, List.append_nil] at hx7
  have hx7 : st7.seen (nmS s_k 0) = some (recS (0 + 1) al) := hx7
  have hoth8 : ∀ n, n ≠ nmS s_k 1 → st8.seen n = st7.seen n := hoth8
  obtain ⟨x8, hx8, hn8⟩ := hfile8
  rw [hn8 (hoth7 _ fun q => nmS_ne s_k q.symm), List.append_nil] at hx8
  have hx8 : st8.seen (nmS s_k 1) = some (recS (0 + 1 + 1) bl) := hx8
  have hx70 : st8.seen (nmS s_k 0) = some (recS (0 + 1) al) := by rw [hoth8 _ (nmS_ne s_k), hx7]
  refine br_f rfl ⟨rfl, ?_⟩
  show Cpalletlaw05_SlotsOld_1 s_kx2e1 ⟨wb, 0, none⟩ ⟨ab, 0, none⟩ ⟨bb, 0, none⟩ w8 _
  rw [s_k1_eq]
  have lr1 := recS_len (0 + 1 + 1) bl
  have lr0 := recS_len (0 + 1) al
  refine spoil_spec O8 (by rw [nmS_size]; decide) hx8 (by omega) (by omega) hAT hBY (by omega) (by rw [hwt8]; decide) fun w9 D9 O9 => ?_
  have hsp1 := spoil_set (g := 0 + 1 + 1) (p := bl) (AT := AT) (by omega) hBY hz
  generalize hI1 : spAt AT (recS (0 + 1 + 1) bl).length = I1 at *
  generalize hY1 : UInt8.ofNat (((recS (0 + 1 + 1) bl).getD I1 0).toNat ^^^ BY) = Y1 at *
  have f1 : slFile (applyWr st8.seen (nmS s_k 1) I1 [Y1]) s_k 1 = (wr (recS (0 + 1 + 1) bl) I1 [Y1]).take 4116 := by rw [slFile_own, hx8]; rfl
  have f0 : slFile (applyWr st8.seen (nmS s_k 1) I1 [Y1]) s_k 0 = recS (0 + 1) al := by
    rw [slFile_other (by decide) (by decide) (by decide)]
    unfold slFile
    rw [hx70]
    show (recS (0 + 1) al).take 4116 = _
    exact List.take_of_length_le (by omega)
  have finish : ∀ (u : World) (D' : Nat → Prop) (st' : Wst) (b4 : Bool), (two = true → b4 = true) → OldS w u pa wb ab bb w2.heap.size AT BY D' st' → st'.ops < 1000 → ldN st'.seen s_k 2 = (if two then ((-1 : Int), 0, []) else (0, 1, al)) →
      Br ((!true) || (two && (!b4))) (R false u) (∃ p3 : Option Addr, u.cell? ⟨wb, 0, none⟩ = some (.pointer p3) ∧ Cslots_Open p3 s_k u fun p4 n6 w012 => Br ((n6 != 0) || ((p4).isNone)) (R false w012) (Cslots_Slots_Load p4 w012 fun xs n7 n8 w013 =>
        Br two (R ((n8 == 8) && ((xs.n : Int) == 0)) w013) (∃ s : ByteArray, (((n8 == 0) && (n7 == 1)) = true → (convert t_sl_uint8 t_string (.slice xs.A xs.n xs.c)).run Try.prog w013 = .ok (.string s) w013) ∧
          ∃ s1 : ByteArray, (((n8 == 0) && (n7 == 1)) = true → (convert t_sl_uint8 t_string (.slice a.A a.n a.c)).run Try.prog w013 = .ok (.string s1) w013) ∧ R (((n8 == 0) && (n7 == 1)) && (sEq s s1)) w013))) := by
    intro u D' st' b4 hb4 O hops hld
    refine br_f (by cases two <;> simp_all) ⟨some ⟨pa, 0, none⟩, by rw [Blk.cell O.bw]; rfl, ?_⟩
    refine slots_open_spec size_s_k fun s3 u1 hs3 hg1 hS1 => br_f rfl ?_
    have n3 : ¬ D' s3 := fun q => by have := O.isW.lt q; omega
    have hfin : ∀ v, Keep (fun k => D' k ∨ k = s3) u1 v → Grow w v := fun v hk => (O.grow.trans hg1).keep hk fun i hi q => by
      have := O.grow.size
      rcases q with q | q
      · have := (O.good i q).1; omega
      · omega
    refine slots_load_at (p := (if two then ((-1 : Int), 0, ([] : L8)) else (0, 1, al)).2.2) (a := (if two then ((-1 : Int), 0, ([] : L8)) else (0, 1, al)).1) (k := (if two then ((-1 : Int), 0, ([] : L8)) else (0, 1, al)).2.1) hS1 n3 (O.isW.grow hg1) size_s_k (by omega) hld (by cases two with | true => exact Nat.zero_le _ | false => show al.length ≤ _; omega) fun best v hk hw' hS' hb' hn' => ?_
    have := h v (hfin v hk)
    cases two with
    | true =>
      refine br_t rfl ?_
      have hn' : best.n = 0 := hn'
      rw [hn']
      exact this
    | false =>
      refine br_f rfl ⟨str al, fun _ => convStr_rule u_sl_uint8 u_uint8 u_string (hb' v (Keep.refl _ _)), str al, fun _ => convStr_rule u_sl_uint8 u_uint8 u_string (ha.grow (hfin v hk)), ?_⟩
      rw [sEq_str]
      simpa using this
  refine ⟨fun q => ⟨rfl, ?_⟩, fun q => ?_⟩
  · have htwo : two = true := by simpa using q
    show Cpalletlaw05_SlotsOld_1 s_kx2e0 ⟨wb, 0, none⟩ ⟨ab, 0, none⟩ ⟨bb, 0, none⟩ w9 _
    rw [s_k0_eq]
    have hx0 : (applyWr st8.seen (nmS s_k 1) I1 [Y1]) (nmS s_k 0) = some (recS (0 + 1) al) := by
      show setF _ _ _ _ = _
      unfold setF
      rw [if_neg (nmS_ne s_k), hx70]
    refine spoil_spec O9 (by rw [nmS_size]; decide) hx0 (by omega) (by omega) hAT hBY (by show st8.ops + 2 < _; omega) (by show (st8.waits ++ [_]).length < _; rw [hwt8]; show 1 < _; decide) fun w10 D10 O10 => ?_
    have hsp0 := spoil_set (g := 0 + 1) (p := al) (AT := AT) (by omega) hBY hz
    generalize spAt AT (recS (0 + 1) al).length = I0 at *
    generalize UInt8.ofNat (((recS (0 + 1) al).getD I0 0).toNat ^^^ BY) = Y0 at *
    refine finish w10 D10 _ true (fun _ => rfl) O10 (by show st8.ops + 2 + 2 < _; omega) ?_
    rw [htwo]
    refine ldN_noneS fun i hi => ?_
    match i, hi with
    | 0, _ =>
      show (decS (slFile (applyWr (applyWr st8.seen (nmS s_k 1) I1 [Y1]) (nmS s_k 0) I0 [Y0]) s_k 0)).2.2 ≠ 0
      rw [slFile_own, hx0]
      exact hsp0
    | 1, _ =>
      show (decS (slFile (applyWr (applyWr st8.seen (nmS s_k 1) I1 [Y1]) (nmS s_k 0) I0 [Y0]) s_k 1)).2.2 ≠ 0
      rw [slFile_other (by decide) (by decide) (by decide), f1]
      exact hsp1
  · have htwo : two = false := by simpa using q
    refine finish w9 D9 _ _ (fun e => by rw [htwo] at e; cases e) O9 (by show st8.ops + 2 < _; omega) ?_
    rw [htwo]
    have hdec : decS (recS (0 + 1) al) = (0 + 1, al, 0) := by
      have := decS_rec (g := 0 + 1) (p := al) (q := []) (by decide) (by omega)
      rwa [List.append_nil] at this
    refine ldN_newS (s := 0) ⟨by decide, by decide, ?_, .inl ?_⟩
    · show decS (slFile (applyWr st8.seen (nmS s_k 1) I1 [Y1]) s_k 0) = _
      rw [f0]; exact hdec
    · show (decS (slFile (applyWr st8.seen (nmS s_k 1) I1 [Y1]) s_k 1)).2.2 ≠ 0
      rw [f1]; exact hsp1
theorem slotsOld_row {a b : Sl} {al bl : L8} {x y : Int} {two : Bool} {w : World} {R : Bool → World → Prop} (ha : Rd w 1 a (bv al)) (hb : Rd w 1 b (bv bl)) (hx : (Lit.int .u16 x).wf = true) (hy : (Lit.int .u8 y).wf = true) (h : ∀ w', Grow w w' → R true w') :
    Cpalletlaw05_SlotsOld a b x y two w R := by
  obtain ⟨A, rfl, hA⟩ := int_u16 hx
  obtain ⟨B, rfl, hB⟩ := int_u8 hy
  exact slotsOld_spec ha hb hA hB h
end Go.Proofs.Ytiokflecflbopaa
