/- Layer 5: the law of slots that were spoiled. -/
import Derived.Test.YtiokflecflbopaaSl6
namespace Go.Proofs.Ytiokflecflbopaa
open Go CF

/-! ### a byte turned -/
theorem num_inj : ∀ {a b : L8}, a.length = b.length → num a = num b → a = b
  | [], [], _, _ => rfl
  | [], _ :: _, h, _ => by simp at h
  | _ :: _, [], h, _ => by simp at h
  | x :: r, y :: t, h, hn => by
    have hl : r.length = t.length := by simpa using h
    rw [num_cons, num_cons, hl] at hn
    have h1 := num_lt r
    have h2 := num_lt t
    rw [hl] at h1
    have hx := x.toNat_lt
    have hy := y.toNat_lt
    have e1 : x.toNat = y.toNat := by
      have q1 := Nat.div_eq_of_lt h1
      have q2 := Nat.div_eq_of_lt h2
      have := congrArg (· / 256 ^ t.length) hn
      have hp : 0 < 256 ^ t.length := Nat.pow_pos (by decide)
      rw [Nat.add_comm, Nat.add_mul_div_right _ _ hp, q1, Nat.add_comm (y.toNat * _), Nat.add_mul_div_right _ _ hp, q2] at this
      omega
    rw [e1] at hn
    rw [UInt8.toNat_inj.1 e1, num_inj hl (by omega)]
theorem set_split (l : L8) (i : Nat) (y : UInt8) (h : i < l.length) : l.set i y = l.take i ++ y :: l.drop (i + 1) := by
  rw [List.set_eq_take_append_cons_drop, if_pos h]
theorem split_at (l : L8) (i : Nat) (h : i < l.length) : l = l.take i ++ l[i] :: l.drop (i + 1) := by
  rw [List.getElem_cons_drop, List.take_append_drop]
theorem wr_one {l : L8} {i : Nat} {y : UInt8} (h : i < l.length) : wr l i [y] = l.set i y := by
  rw [set_split l i y h]
  unfold wr
  have e : i + [y].length - l.length = 0 := by simp; omega
  rw [e]
  simp
theorem spoil_dec {g i : Nat} {p : L8} {y : UInt8} (hp : p.length ≤ 4096) (hi : i < (recS g p).length) (hne : ¬ (12 ≤ i ∧ i < 16)) (hy : y ≠ (recS g p)[i]) : (decS ((recS g p).set i y)).2.2 ≠ 0 := by
  have hl : (recS g p).length = 20 + p.length := recS_len g p
  generalize hL : (recS g p).set i y = L
  have hLl : L.length = 20 + p.length := by rw [← hL, List.length_set, hl]
  have hA : recS g p = s4 ++ (beN 8 g ++ (beN 4 p.length ++ (p ++ beN 4 (c32 (headS g p))))) := by simp [recS, headS]
  have d12 : ((recS g p).drop 12).take 4 = beN 4 p.length := by
    rw [hA]
    have : (s4 ++ (beN 8 g ++ (beN 4 p.length ++ (p ++ beN 4 (c32 (headS g p)))))).drop 12 = beN 4 p.length ++ (p ++ beN 4 (c32 (headS g p))) := by
      have e : (12 : Nat) = s4.length + (beN 8 g).length := by rw [beN_len]; rfl
      rw [e, ← List.append_assoc, ← List.length_append, List.drop_left]
    rw [this, List.take_append_of_le_length (by rw [beN_len]; omega), List.take_of_length_le (by rw [beN_len]; omega)]
  by_cases h4 : i < 4
  · have e : L.take 4 ≠ s4 := by
      intro q
      have h1 : L[i]? = some y := by rw [← hL, List.getElem?_set_self hi]
      have h2 : (recS g p)[i]? = some (recS g p)[i] := List.getElem?_eq_getElem hi
      have h3 : (recS g p)[i]? = s4[i]? := by rw [hA, List.getElem?_append_left (by show i < 4; exact h4)]
      have h5 : (L.take 4)[i]? = some y := by rw [List.getElem?_take, if_pos h4, h1]
      rw [q, ← h3, h2] at h5
      exact hy (Option.some.inj h5).symm
    unfold decS
    rw [if_pos (.inr e)]
    decide
  have hs : L.take 4 = s4 := by
    rw [← hL, List.take_set, List.set_eq_of_length_le (by rw [List.length_take]; omega), hA]
    rfl
  have hn : num ((L.drop 12).take 4) = p.length := by
    have : (L.drop 12).take 4 = beN 4 p.length := by
      rw [← d12, ← hL, List.drop_set]
      split
      · rfl
      · rw [List.take_set, List.set_eq_of_length_le (by rw [List.length_take]; omega)]
    rw [this, num_beN_lt (by omega)]
  rw [decS_eq (by omega) hs, hn, if_neg (by omega)]
  have hh : (recS g p).take (16 + p.length) = headS g p := by
    rw [recS, List.take_append_of_le_length (by rw [headS_len]; omega), List.take_of_length_le (by rw [headS_len]; omega)]
  have hc : (recS g p).drop (16 + p.length) = beN 4 (c32 (headS g p)) := by
    rw [recS, ← headS_len g p, List.drop_left]
  have hcl := c32_lt (headS g p)
  by_cases hb : i < 16 + p.length
  · have e1 : (L.drop (16 + p.length)).take 4 = beN 4 (c32 (headS g p)) := by
      rw [← hL, List.drop_set, if_pos hb, hc, List.take_of_length_le (by rw [beN_len]; omega)]
    have e2 : L.take (16 + p.length) = (headS g p).set i y := by rw [← hL, List.take_set, hh]
    rw [e1, e2, num_beN_lt (by omega), if_pos]
    · simp
    · intro q
      have hih : i < (headS g p).length := by rw [headS_len]; exact hb
      have hx : (headS g p)[i] = (recS g p)[i] := by
        simp only [recS]; rw [List.getElem_append_left hih]
      rw [set_split _ _ _ hih] at q
      have := split_at (headS g p) i hih
      rw [hx] at this
      conv at q => lhs; rw [this]
      exact c32_turn (Ne.symm hy) q
  · have e2 : L.take (16 + p.length) = headS g p := by rw [← hL, List.take_set, hh, List.set_eq_of_length_le (by rw [headS_len]; omega)]
    have e1 : (L.drop (16 + p.length)).take 4 = (beN 4 (c32 (headS g p))).set (i - (16 + p.length)) y := by
      rw [← hL, List.drop_set, if_neg hb, hc, List.take_of_length_le (by rw [List.length_set, beN_len]; omega)]
    rw [e1, e2, if_pos]
    · simp
    · intro q
      have h1 : num (beN 4 (c32 (headS g p))) = c32 (headS g p) := num_beN_lt (by omega)
      have h2 := num_inj (by rw [List.length_set]) (q.trans h1.symm)
      have hj : i - (16 + p.length) < (beN 4 (c32 (headS g p))).length := by rw [beN_len]; omega
      have h3 : (beN 4 (c32 (headS g p)))[i - (16 + p.length)]? = some y := by rw [← h2, List.getElem?_set_self hj]
      rw [← hc, List.getElem?_drop, show 16 + p.length + (i - (16 + p.length)) = i by omega, List.getElem?_eq_getElem hi] at h3
      exact hy (Option.some.inj h3).symm
/-! ### the law -/
theorem xor8 {a b : Nat} (ha : a < 256) (hb : b < 256) : bXor .u8 (a : Int) (b : Int) = ((a ^^^ b : Nat) : Int) ∧ a ^^^ b < 256 := by
  have hlt : a ^^^ b < 256 := Nat.xor_lt_two_pow (n := 8) ha hb
  refine ⟨?_, hlt⟩
  unfold bXor
  show IntKind.wrap .u8 (((BitVec.ofInt 8 (a : Int) ^^^ BitVec.ofInt 8 (b : Int)).toNat : Nat) : Int) = _
  rw [BitVec.ofInt_natCast, BitVec.ofInt_natCast, BitVec.toNat_xor, BitVec.toNat_ofNat, BitVec.toNat_ofNat, Nat.mod_eq_of_lt (by omega), Nat.mod_eq_of_lt (by omega)]
  exact wu8 (by omega) (by omega)
theorem xor_ne {a b : Nat} (hb : b ≠ 0) : a ^^^ b ≠ a := fun q => by
  have := congrArg (a ^^^ ·) q
  simp only [← Nat.xor_assoc, Nat.xor_self, Nat.zero_xor] at this
  exact hb this
theorem s_k1_eq : s_kx2e1 = nmS s_k 1 := by decide
theorem s_k0_eq : s_kx2e0 = nmS s_k 0 := by decide
/-- where the law stands -/
structure OldS (w u : World) (pa wb ab bb B AT BY : Nat) (D : Nat → Prop) (st : Wst) : Prop where
  grow : Grow w u
  isW : IsW u pa D st
  bw : Blk u wb #[.pointer (some ⟨pa, 0, none⟩)] t_p_world_World
  ba : Blk u ab #[.int .u16 (AT : Int)] t_uint16
  bb_ : Blk u bb #[.int .u8 (BY : Int)] t_uint8
  ok : Wok st
  good : ∀ k, D k → B ≤ k ∧ k ≠ wb
  lo : w.heap.size ≤ B ∧ ab < B ∧ bb < B
theorem OldS.step {w u u' : World} {pa wb ab bb B AT BY : Nat} {D D' S : Nat → Prop} {st st' : Wst} (h : OldS w u pa wb ab bb B AT BY D st) (k : Keep S u u') (hs : ∀ k, S k → B ≤ k ∧ k ≠ wb) (hw : IsW u' pa D' st') (hok : Wok st') (hg : ∀ k, D' k → B ≤ k ∧ k ≠ wb) :
    OldS w u' pa wb ab bb B AT BY D' st' := by
  have hl := h.lo
  refine ⟨h.grow.keep k fun i hi q => by have := (hs i q).1; omega, hw, k.heap h.bw fun q => (hs _ q).2 rfl, k.heap h.ba fun q => by have := (hs _ q).1; omega, k.heap h.bb_ fun q => by have := (hs _ q).1; omega, hok, hg, hl⟩
/-- where a byte is turned -/
def spAt (AT n : Nat) : Nat := if 12 ≤ AT % n ∧ AT % n < 16 then 0 else AT % n
theorem spoil_spec {w u : World} {pa wb ab bb B AT BY : Nat} {D : Nat → Prop} {st : Wst} {name : ByteArray} {f : L8} {R : Bool → World → Prop} (h : OldS w u pa wb ab bb B AT BY D st) (hn : 1 ≤ name.size ∧ name.size ≤ 32) (hf : st.seen name = some f) (hf1 : 0 < f.length) (hf2 : f.length ≤ 5000)
    (hAT : AT < 65536) (hBY : BY < 256) (ho : st.ops < 1000) (hwt : st.waits.length < 1000)
    (hK : ∀ u' D', OldS w u' pa wb ab bb B AT BY D' ⟨applyWr st.seen name (spAt AT f.length) [UInt8.ofNat ((f.getD (spAt AT f.length) 0).toNat ^^^ BY)], st.dur, st.waits ++ [⟨119, name, ⟨#[]⟩, spAt AT f.length, [UInt8.ofNat ((f.getD (spAt AT f.length) 0).toNat ^^^ BY)]⟩], st.ops + 2⟩ → R true u') :
    Cpalletlaw05_SlotsOld_1 name ⟨wb, 0, none⟩ ⟨ab, 0, none⟩ ⟨bb, 0, none⟩ u R := by
  refine Fpalletlaw05_SlotsOld_1.calls _ _ _ _ _ _ ?_
  have hl := h.lo
  have lwb := lt_of_heap h.bw
  have lab := lt_of_heap h.ba
  have lbb := lt_of_heap h.bb_
  refine ⟨some ⟨pa, 0, none⟩, by rw [Blk.cell h.bw]; rfl, ?_⟩
  refine world_read_spec (off := 0) (n := 5000) h.isW hn (by decide) (by decide) (by omega) fun xs w1 hk1 hw1 hown1 hn1 => ?_
  rw [hf] at hown1 ⊢
  have hown1 : Own w1 u.heap.size t_uint8 1 xs (bv f) := by
    have e : (((some f).getD []).drop 0).take 5000 = f := List.take_of_length_le hf2
    rw [e] at hown1; exact hown1
  have O1 : OldS w w1 pa wb ab bb B AT BY D { st with ops := st.ops + 1 } := h.step hk1 h.good hw1 h.ok h.good
  have hxn := own_n hown1
  have hrd := hown1.rd (by omega)
  refine br_f rfl ⟨(AT : Int), by rw [Blk.cell O1.ba]; rfl, by omega, ?_⟩
  have e1 : IntKind.wrap .i64 (AT : Int) = (AT : Int) := w64 (by omega) (by omega)
  have e2 : ((AT : Int).tmod (xs.n : Int)) = ((AT % f.length : Nat) : Int) := by rw [hxn]; rfl
  rw [e1, e2]
  have hm : AT % f.length < f.length := Nat.mod_lt _ hf1
  have hsp : spAt AT f.length < f.length := by unfold spAt; split <;> omega
  refine letX1 (fun (i : Int) v => i = (spAt AT f.length : Int) ∧ v = w1) ?_ (fun J => ?_)
  · rintro i v ⟨rfl, rfl⟩
    generalize spAt AT f.length = I at *
    rintro w2 rfl
    have hg2 : Grow v v.drew := keep_drew v
    have O2 := O1.step (hg2.mono (S' := fun _ => False) fun _ _ q => q) (fun _ q => q.elim) (O1.isW.grow hg2) O1.ok O1.good
    have hc : ∀ x, Grow v x → x.cell? ((gA xs.A).add ((I : Int).toNat * 1)) = some (.int .u8 (f[I].toNat : Int)) := fun x hx => by
      obtain ⟨a, ha, hc⟩ := (hrd.grow hx).byte (i := I) (by omega)
      rw [ha, Int.toNat_natCast]; exact hc
    obtain ⟨a, ha, _⟩ := hrd.byte (i := I) (by omega)
    refine ⟨fun x => Grow v x, hg2, some ⟨pa, 0, none⟩, fun x hx => by rw [Blk.cell (hx.heap O1.bw (fun q => q))]; rfl, ⟨by omega, by omega, by rw [ha]; rfl⟩, (f[I].toNat : Int), fun x hx => hc x hx, (BY : Int), fun x hx => by rw [Blk.cell (hx.heap O1.bb_ (fun q => q))]; rfl, ?_⟩
    obtain ⟨ex, hxl⟩ := xor8 (a := f[I].toNat) (b := BY) f[I].toNat_lt hBY
    have ey : ((f[I].toNat ^^^ BY : Nat) : Int) = ((UInt8.ofNat (f[I].toNat ^^^ BY)).toNat : Int) := by rw [UInt8.toNat_ofNat', Nat.mod_eq_of_lt hxl]
    have ef : f.getD I 0 = f[I] := by rw [List.getD_eq_getElem?_getD, List.getElem?_eq_getElem hsp]; rfl
    rw [ex, ey]
    rw [ef] at hK
    generalize UInt8.ofNat (f[I].toNat ^^^ BY) = y at *
    refine lit_rule (cells := (bv [y]).toArray) (e := t_uint8) (z := 1) (base := 0) (by kernel_rfl) rfl (by decide) (Nat.zero_le _) fun w3 hlit3 hg3 _ => ⟨hg2.trans hg3, ?_⟩
    have hg23 := hg2.trans hg3
    have O3 := O1.step (hg23.mono (S' := fun _ => False) fun _ _ q => q) (fun _ q => q.elim) (O1.isW.grow hg23) O1.ok O1.good
    refine world_write_spec (off := I) (bs := [y]) O3.isW hn (hlit3.rd (by show 1 ≤ _; decide)) (by show I + 1 ≤ _; omega) (by show st.ops + 1 < _; omega) (by show st.waits.length < _; omega) fun w4 D4 hk4 hw4 hD4 => ?_
    have s1 := hk1.size
    have s2 := hg23.size
    have lB : ∀ k, u.heap.size ≤ k → B ≤ k ∧ k ≠ wb → B ≤ k ∧ k ≠ wb := fun _ _ q => q
    have := hK w4 D4 (O3.step hk4 O3.good hw4 (fun c hc => ?_) fun k q => ?_)
    · exact this
    · rcases List.mem_append.1 hc with q | q
      · exact O3.ok c q
      · rw [List.mem_singleton.1 q]; exact ⟨rfl, by show I + 1 ≤ _; omega⟩
    · rcases hD4 k q with r | r
      · exact O3.good k r
      · have hB := h.isW
        refine ⟨?_, by omega⟩
        obtain ⟨mb, md, ws, cs, hW⟩ := h.isW
        have := (h.good pa hW.dw).1
        have := h.isW.lt hW.dw
        omega
  · by_cases q : 12 ≤ AT % f.length ∧ AT % f.length < 16
    · refine br_t (by rw [Bool.and_eq_true, decide_eq_true_eq, decide_eq_true_eq]; omega) (J 0 w1 ⟨?_, rfl⟩)
      unfold spAt; rw [if_pos q]; rfl
    · refine br_f (by rw [Bool.and_eq_false_iff, decide_eq_false_iff_not, decide_eq_false_iff_not]; omega) (J _ w1 ⟨?_, rfl⟩)
      unfold spAt; rw [if_neg q]
end Go.Proofs.Ytiokflecflbopaa
