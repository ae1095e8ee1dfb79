/- Layer 5: a slot's bytes. -/
import Derived.Test.YtiokflecflbopaaSl1
namespace Go.Proofs.Ytiokflecflbopaa
open Go CF

def s4 : L8 := [83, 76, 79, 84]
def headS (g : Nat) (p : L8) : L8 := s4 ++ beN 8 g ++ beN 4 p.length ++ p
def recS (g : Nat) (p : L8) : L8 := headS g p ++ beN 4 (c32 (headS g p))
theorem headS_len (g : Nat) (p : L8) : (headS g p).length = 16 + p.length := by simp [headS, s4, beN_len]; omega
theorem recS_len (g : Nat) (p : L8) : (recS g p).length = 20 + p.length := by simp [recS, headS_len, beN_len]; omega
theorem be4_beN (c : Nat) : beN 4 c = [UInt8.ofNat (c / 2 ^ 24), UInt8.ofNat (c / 2 ^ 16), UInt8.ofNat (c / 2 ^ 8), UInt8.ofNat c] := by
  simp [beN]
theorem lay_a (g : Nat) : lay (s4 ++ List.replicate 12 0) 4 8 g = s4 ++ beN 8 g ++ List.replicate 4 0 := rfl
theorem lay_b (g n : Nat) : lay (s4 ++ beN 8 g ++ List.replicate 4 0) 12 4 n = s4 ++ beN 8 g ++ beN 4 n := by
  simp [lay, s4, beN]
theorem own_n {w : World} {base : Nat} {e : TypeId} {s : Sl} {l : L8} (h : Own w base e 1 s (bv l)) : s.n = l.length := by have := h.len; rw [bv_length] at this; omega
theorem rd_n {w : World} {s : Sl} {l : L8} (h : Rd w 1 s (bv l)) : l.length = s.n := by have := h.len; rw [bv_length] at this; omega
theorem own_grow {w u u' : World} {base : Nat} {e : TypeId} {z : Nat} {s : Sl} {vs : List Value} (hg : Grow w u) (ho : Own u base e z s vs) (hb : w.heap.size ≤ base) (hk : Keep (fun k => some k = s.blk) u u') : Grow w u' :=
  hg.keep hk fun i hi q => by have := (ho.ge i q.symm).1; omega
theorem slots_record_spec {p : Sl} {l : L8} {g : Nat} {w : World} {R : Sl → Int → World → Prop} (hp : Rd w 1 p (bv l)) (hg : g < 18446744073709551616)
    (h1 : 4096 < l.length → R ⟨none, 0, 0⟩ 2 w) (h2 : l.length ≤ 4096 → ∀ s w', Own w' w.heap.size t_uint8 1 s (bv (recS g l)) → Grow w w' → s.n = 20 + l.length → R s 0 w') : Cslots_Record (g : Int) p w R := by
  refine Fslots_Record.calls _ _ _ _ ?_
  have hln := rd_n hp
  refine br_dec (fun q => h1 (by omega)) (fun q => ?_)
  have hle : l.length ≤ 4096 := by omega
  refine ⟨⟨some ⟨w.heap.size, 0, none⟩, 4, 4⟩, w.alloc (.cells (bv s4).toArray t_uint8), by kernel_rfl, ⟨some ⟨w.heap.size, 0, none⟩, 4, 4⟩, _, Go.Lib.run_convert_bytes_const w t_sl_uint8 t_uint8 _ 4 4 u_sl_uint8 u_uint8, ?_⟩
  have hg0 : Grow w (w.alloc (.cells (bv s4).toArray t_uint8 ((bv s4).toArray.size, (bv s4).toArray.size + 1))) := keep_alloc w _
  have hrd0 : Rd (w.alloc (.cells (bv s4).toArray t_uint8 ((bv s4).toArray.size, (bv s4).toArray.size + 1))) 1 ⟨some ⟨w.heap.size, 0, none⟩, 4, 4⟩ (bv s4) := by
    refine ⟨rfl, Nat.le_refl _, by show 4 ≤ _; decide, fun _ => ⟨_, rfl, fun j v hj => ?_⟩⟩
    rw [add0, Nat.zero_add]
    unfold World.cell?
    simp only [World.alloc, Array.getElem?_push, if_true]
    simpa using hj
  generalize w.alloc (.cells (bv s4).toArray t_uint8 ((bv s4).toArray.size, (bv s4).toArray.size + 1)) = w0 at *
  refine append_zeros_rule (s := ⟨some ⟨w.heap.size, 0, none⟩, 4, 4⟩) (k := 12) (base := w.heap.size) u_sl_uint8 u_int i_uint8 rfl hrd0 (by show 4 < 4 + 12; decide) (by decide) (by show 4 + 12 ≤ _; decide) hg0.size fun s1 w1 hn1 hown1 hg1 _ => ?_
  have hrep : (List.replicate 12 (Value.int .u8 0)) = bv (List.replicate 12 0) := by simp [bv]
  rw [hrep, ← bv_append] at hown1
  have hn1 : s1.n = 16 := hn1
  refine put_spec (at_ := 4) (n := 8) (hown1.rd (by omega)) (by omega) (by decide) (by decide) (by decide) hg fun s2 w2 hown2 hg2 => ?_
  rw [lay_a] at hown2
  have hn2 : s2.n = 16 := own_n hown2
  have e1 : IntKind.wrap .u64 (p.n : Int) = ((l.length : Nat) : Int) := by rw [wu64 (by omega) (by omega), hln]
  rw [e1]
  refine put_spec (at_ := 12) (n := 4) (hown2.rd (by omega)) (by omega) (by decide) (by decide) (by simp [s4, beN_len]) (by omega) fun s3 w3 hown3 hg3 => ?_
  rw [lay_b] at hown3
  have hn3 : s3.n = 16 := own_n hown3
  have hgw3 : Grow w w3 := ((hg0.trans hg1).trans hg2).trans hg3
  have hgw2 : Grow w w2 := (hg0.trans hg1).trans hg2
  have hown3 := Own.mono (base' := w.heap.size) hown3 hgw2.size
  refine append_rule u_sl_uint8 i_uint8 rfl (by decide) (by decide) hown3 (hp.grow hgw3) (bv_one' _) (by rw [hn3]; omega) hgw3.size fun s5 w4 hn4 hown4 hk4 _ => ?_
  have hgw4 := own_grow hgw3 hown3 (Nat.le_refl _) hk4
  rw [← bv_append] at hown4
  have hown4 : Own w4 w.heap.size t_uint8 1 s5 (bv (headS g l)) := hown4
  have hn5 : s5.n = 16 + l.length := by rw [own_n hown4, headS_len]
  refine crc_c32_spec (hown4.rd (by omega)) ?_
  rw [shr .u32 _ 24 (by decide), shr .u32 _ 16 (by decide), shr .u32 _ 8 (by decide), wrap_u8, wrap_u8, wrap_u8, wrap_u8]
  refine lit_rule (cells := (bv (beN 4 (c32 (headS g l)))).toArray) (e := t_uint8) (z := 1) (base := w.heap.size) (by rw [be4_beN]; kernel_rfl) (by simp [bv_length, beN_len]) (by decide) hgw4.size fun w5 hlit5 hg5 _ => ?_
  refine append_rule u_sl_uint8 i_uint8 rfl (by decide) (by decide) (hown4.grow hg5) (hlit5.rd (by show 4 ≤ _; decide)) (by simpa using bv_one' (beN 4 (c32 (headS g l)))) (by rw [hn5]; show (16 + l.length + 4) * 1 ≤ _; omega) (hgw4.trans hg5).size fun s6 w6 hn6 hown6 hk6 _ => ?_
  have hgw6 := own_grow (hgw4.trans hg5) (hown4.grow hg5) (Nat.le_refl _) hk6
  have e2 : (bv (beN 4 (c32 (headS g l)))).toArray.toList = bv (beN 4 (c32 (headS g l))) := rfl
  rw [e2, ← bv_append] at hown6
  exact h2 hle s6 w6 hown6 hgw6 (by rw [hn6, hn5]; show 16 + l.length + 4 = _; omega)
/-- what the bytes of a slot say: number, payload, error -/
def decS (l : L8) : Nat × L8 × Nat :=
  if l.length < 20 ∨ l.take 4 ≠ s4 then (0, [], 3)
  else if 4096 < num ((l.drop 12).take 4) ∨ l.length < 20 + num ((l.drop 12).take 4) then (0, [], 3)
  else if num ((l.drop (16 + num ((l.drop 12).take 4))).take 4) ≠ c32 (l.take (16 + num ((l.drop 12).take 4))) then (0, [], 5)
  else (num ((l.drop 4).take 8), (l.drop 16).take (num ((l.drop 12).take 4)), 0)
theorem decS_eq {l : L8} (h20 : ¬ l.length < 20) (hs : l.take 4 = s4) : decS l =
    if 4096 < num ((l.drop 12).take 4) ∨ l.length < 20 + num ((l.drop 12).take 4) then (0, [], 3)
    else if num ((l.drop (16 + num ((l.drop 12).take 4))).take 4) ≠ c32 (l.take (16 + num ((l.drop 12).take 4))) then (0, [], 5)
    else (num ((l.drop 4).take 8), (l.drop 16).take (num ((l.drop 12).take 4)), 0) := by
  unfold decS
  rw [if_neg (fun q => q.elim (fun q => absurd q h20) (fun q => q hs))]
theorem s_slot_eq : s_SLOT = str s4 := by decide
theorem slots_decode_spec {p : Sl} {l : L8} {w : World} {R : Int → Sl → Int → World → Prop} (hp : Rd w 1 p (bv l))
    (h : ∀ s w', Own w' w.heap.size t_uint8 1 s (bv (decS l).2.1) → Grow w w' → R (((decS l).1 : Nat) : Int) s (((decS l).2.2 : Nat) : Int) w') : Cslots_Decode p w R := by
  refine Fslots_Decode.calls _ _ _ ?_
  have hln := rd_n hp
  have hnb := hp.nb
  have hcap := hp.cap
  by_cases h20 : l.length < 20
  · have hd : decide ((p.n : Int) < 20) = true := decide_eq_true (by omega)
    have e : decS l = (0, [], 3) := by unfold decS; rw [if_pos (.inl h20)]
    rw [e] at h
    exact ⟨fun q => (by rw [hd] at q; cases q), ⟨#[]⟩, fun q => (by rw [hd] at q; cases q), br_t (by rw [hd]; rfl) (h _ w (own_nil _ _ _ _) (Keep.refl _ _))⟩
  have hd : decide ((p.n : Int) < 20) = false := decide_eq_false (by omega)
  have hx : Rd w 1 ⟨cutA p.A p.c 0 1, 4 - 0, p.c - 0⟩ (bv (l.take 4)) := hp.cutB (l := 0) (k := 4) (by decide) (by omega)
  refine ⟨fun _ => ⟨by decide, by decide, by omega, hcap⟩, str (l.take 4), fun _ => convStr_rule (s := ⟨cutA p.A p.c 0 1, 4 - 0, p.c - 0⟩) u_sl_uint8 u_uint8 u_string hx, ?_⟩
  rw [s_slot_eq, sEq_str, hd, Bool.false_or]
  by_cases hs : l.take 4 = s4
  case neg =>
    have e : decS l = (0, [], 3) := by unfold decS; rw [if_pos (.inr hs)]
    rw [e] at h
    exact br_t (by rw [decide_eq_false hs]; rfl) (h _ w (own_nil _ _ _ _) (Keep.refl _ _))
  refine br_f (by rw [decide_eq_true hs]; rfl) ?_
  refine get_spec (at_ := 4) (n := 8) hp hnb (by decide) (by decide) (by omega) ?_
  refine get_spec (at_ := 12) (n := 4) hp hnb (by decide) (by decide) (by omega) ?_
  have hn4 : num ((l.drop 12).take 4) < 4294967296 := num4 _ (by simp; omega)
  have hN := decS_eq h20 hs
  generalize hn : num ((l.drop 12).take 4) = n at *
  have e1 : IntKind.wrap .i64 ((n : Nat) : Int) = (n : Int) := w64 (by omega) (by omega)
  have e2 : IntKind.wrap .i64 ((p.n : Int) - 20) = (p.n : Int) - 20 := w64 (by omega) (by omega)
  rw [e1, e2]
  by_cases hlong : 4096 < n ∨ l.length < 20 + n
  · rw [if_pos hlong] at hN
    rw [hN] at h
    exact br_t (by rw [Bool.or_eq_true, decide_eq_true_eq, decide_eq_true_eq]; omega) (h _ w (own_nil _ _ _ _) (Keep.refl _ _))
  rw [if_neg hlong] at hN
  refine br_f (by rw [Bool.or_eq_false_iff, decide_eq_false_iff_not, decide_eq_false_iff_not]; omega) ?_
  have e3 : IntKind.wrap .i64 (16 + (n : Int)) = ((16 + n : Nat) : Int) := by rw [w64 (by omega) (by omega)]; omega
  have e4 : IntKind.wrap .u64 (16 + (n : Int)) = ((16 + n : Nat) : Int) := by rw [wu64 (by omega) (by omega)]; omega
  rw [e3, e4]
  refine get_spec (at_ := 16 + n) (n := 4) hp hnb (by decide) (by decide) (by omega) ?_
  have hc4 : num ((l.drop (16 + n)).take 4) < 4294967296 := num4 _ (by simp; omega)
  simp only [Int.toNat_natCast, Nat.sub_zero]
  refine ⟨⟨by decide, by omega, by omega, hcap⟩, ?_⟩
  have hy := hp.cutB (l := 0) (k := 16 + n) (by omega) (by omega)
  simp only [List.drop_zero, Nat.sub_zero] at hy
  refine crc_c32_spec hy ?_
  rw [wu32 (n := ((num ((l.drop (16 + n)).take 4) : Nat) : Int)) (by omega) (by omega)]
  by_cases hc : num ((l.drop (16 + n)).take 4) = c32 (l.take (16 + n))
  case neg =>
    rw [if_pos hc] at hN
    rw [hN] at h
    exact br_ne (fun _ => h _ w (own_nil _ _ _ _) (Keep.refl _ _)) (fun q => absurd (by omega) hc)
  rw [if_neg (by simpa using hc)] at hN
  rw [hN] at h
  refine br_ne (fun q => absurd (by rw [hc]) q) (fun _ => ⟨⟨by decide, by omega, by omega, hcap⟩, ?_⟩)
  have hz := hp.cutB (l := 16) (k := 16 + n) (by omega) (by omega)
  rw [show 16 + n - 16 = n by omega] at hz ⊢
  refine append_rule (s := ⟨none, 0, 0⟩) (vs := []) (base := w.heap.size) u_sl_uint8 i_uint8 rfl (by decide) (by decide) (own_nil _ _ _ _) hz (bv_one' _) (by show (0 + n) * 1 ≤ _; omega) (Nat.le_refl _) fun s1 w1 hn1 hown1 hk1 _ => ?_
  rw [List.nil_append] at hown1
  exact h s1 w1 hown1 (hk1.mono fun i hi q => by cases q)
theorem ref_decode_spec {p : Sl} {l : L8} {w : World} {R : Int → Sl → Int → World → Prop} (hp : Rd w 1 p (bv l))
    (h : ∀ s w', Grow w w' → (∀ u, Grow w u → Rd u 1 s (bv (decS l).2.1)) → R (((decS l).1 : Nat) : Int) s (((decS l).2.2 : Nat) : Int) w') : Cpalletref05_Decode p w R := by
  refine Fpalletref05_Decode.calls _ _ _ ?_
  have hln := rd_n hp
  have hnb := hp.nb
  have hcap := hp.cap
  have nil : ∀ u : World, Rd u 1 ⟨none, 0, 0⟩ (bv []) := fun u => rd_nil u 1
  by_cases h16 : l.length < 16
  · have hd : decide ((p.n : Int) < 16) = true := decide_eq_true (by omega)
    have e : decS l = (0, [], 3) := by unfold decS; rw [if_pos (.inl (by omega))]
    rw [e] at h
    exact ⟨fun q => (by rw [hd] at q; cases q), ⟨#[]⟩, fun q => (by rw [hd] at q; cases q), br_t (by rw [hd]; rfl) (h _ w (Keep.refl _ _) fun u _ => nil u)⟩
  have hd : decide ((p.n : Int) < 16) = false := decide_eq_false (by omega)
  have hx : Rd w 1 ⟨cutA p.A p.c 0 1, 4 - 0, p.c - 0⟩ (bv (l.take 4)) := hp.cutB (l := 0) (k := 4) (by decide) (by omega)
  refine ⟨fun _ => ⟨by decide, by decide, by omega, hcap⟩, str (l.take 4), fun _ => convStr_rule (s := ⟨cutA p.A p.c 0 1, 4 - 0, p.c - 0⟩) u_sl_uint8 u_uint8 u_string hx, ?_⟩
  rw [s_slot_eq, sEq_str, hd, Bool.false_or]
  by_cases hs : l.take 4 = s4
  case neg =>
    have e : decS l = (0, [], 3) := by unfold decS; rw [if_pos (.inr hs)]
    rw [e] at h
    exact br_t (by rw [decide_eq_false hs]; rfl) (h _ w (Keep.refl _ _) fun u _ => nil u)
  refine br_f (by rw [decide_eq_true hs]; rfl) ?_
  refine ref_num_spec (at_ := 12) (n := 4) hp (by decide) (by decide) (by omega) ?_
  have hn4 : num ((l.drop 12).take 4) < 4294967296 := num4 _ (by simp; omega)
  by_cases hshort : 4096 < num ((l.drop 12).take 4) ∨ l.length < 20 + num ((l.drop 12).take 4)
  · have e : decS l = (0, [], 3) := by
      unfold decS
      by_cases q : l.length < 20
      · rw [if_pos (.inl q)]
      · rw [if_neg (fun q => q.elim (fun q => absurd q (by omega)) (fun q => q hs)), if_pos hshort]
    rw [e] at h
    refine br_t ?_ (h _ w (Keep.refl _ _) fun u _ => nil u)
    rw [Bool.or_eq_true, decide_eq_true_eq, decide_eq_true_eq, wu64 (by omega) (by omega), wu64 (by omega) (by omega)]
    omega
  have hN := decS_eq (l := l) (by omega) hs
  rw [if_neg hshort] at hN
  generalize hn : num ((l.drop 12).take 4) = n at *
  refine br_f ?_ ?_
  · rw [Bool.or_eq_false_iff, decide_eq_false_iff_not, decide_eq_false_iff_not, wu64 (by omega) (by omega), wu64 (by omega) (by omega)]
    omega
  rintro w1 rfl
  have hg1 : Grow w w.drew := keep_drew w
  have e4 : IntKind.wrap .u64 (16 + (n : Int)) = ((16 + n : Nat) : Int) := by rw [wu64 (by omega) (by omega)]; omega
  rw [e4]
  have e5 : IntKind.wrap .i64 ((16 + n : Nat) : Int) = ((16 + n : Nat) : Int) := w64 (by omega) (by omega)
  rw [e5]
  simp only [Int.toNat_natCast, Nat.sub_zero]
  refine ⟨⟨by decide, by omega, by omega, hcap⟩, ?_⟩
  refine ref_num_spec (at_ := 16 + n) (n := 4) (hp.grow hg1) (by decide) (by decide) (by omega) ?_
  have hc4 : num ((l.drop (16 + n)).take 4) < 4294967296 := num4 _ (by simp; omega)
  have hy := (hp.grow hg1).cutB (l := 0) (k := 16 + n) (by omega) (by omega)
  simp only [List.drop_zero, Nat.sub_zero] at hy
  refine ref_c32_spec hy ?_
  have hcl := c32_lt (l.take (16 + n))
  rw [wu64 (n := ((c32 (l.take (16 + n)) : Nat) : Int)) (by omega) (by omega)]
  by_cases hc : num ((l.drop (16 + n)).take 4) = c32 (l.take (16 + n))
  case neg =>
    rw [if_pos hc] at hN
    rw [hN] at h
    exact br_ne (fun _ => h _ _ hg1 fun u _ => nil u) (fun q => absurd (by omega) hc)
  rw [if_neg (by simpa using hc)] at hN
  rw [hN] at h
  refine br_ne (fun q => absurd (by rw [hc]) q) (fun _ => ?_)
  rintro w2 rfl
  have hg2 : Grow w w.drew.drew := hg1.trans (keep_drew _)
  refine ⟨⟨by decide, by omega, by omega, hcap⟩, ?_⟩
  refine ref_num_spec (at_ := 4) (n := 8) (hp.grow hg2) (by decide) (by decide) (by omega) ?_
  rw [show 16 + n - 16 = n by omega]
  refine h _ _ hg2 fun u hu => ?_
  have hz := (hp.grow hu).cutB (l := 16) (k := 16 + n) (by omega) (by omega)
  rw [show 16 + n - 16 = n by omega] at hz
  exact hz
theorem ref_record_spec {p : Sl} {l : L8} {g : Nat} {w : World} {R : Sl → World → Prop} (hp : Rd w 1 p (bv l)) (hle : l.length ≤ 4096)
    (h : ∀ s w', Own w' w.heap.size t_uint8 1 s (bv (recS g l)) → Grow w w' → R s w') : Cpalletref05_Record (g : Int) p w R := by
  refine Fpalletref05_Record.calls _ _ _ _ ?_
  have hln := rd_n hp
  unfold Fpalletref05_Record
  rw [s_slot_eq]
  refine append_str_rule (o := ⟨none, 0, 0⟩) (vs := []) (l := s4) (base := w.heap.size) u_sl_uint8 u_string i_uint8 (own_nil _ _ _ _) (by show 0 + 4 ≤ _; decide) (Nat.le_refl _) fun s1 w1 hn1 hown1 hk1 _ => ?_
  have hg1 : Grow w w1 := hk1.mono fun i hi q => by cases q
  rw [List.nil_append] at hown1
  refine big_spec (n := 8) (by decide) (by decide) fun s2 w2 hown2 hg2 hn2 => ?_
  have hn1 : s1.n = 4 := hn1
  refine append_rule u_sl_uint8 i_uint8 rfl (by decide) (by decide) (hown1.grow hg2) (hown2.rd (by omega)) (bv_one' _) (by rw [hn1, hn2]; decide) (hg1.trans hg2).size fun s3 w3 hn3 hown3 hk3 _ => ?_
  rw [← bv_append] at hown3
  have hg3 := own_grow (hg1.trans hg2) (hown1.grow hg2) (Nat.le_refl _) hk3
  have e1 : IntKind.wrap .u64 (p.n : Int) = ((l.length : Nat) : Int) := by rw [wu64 (by omega) (by omega), hln]
  rw [e1]
  refine big_spec (n := 4) (by decide) (by decide) fun s4_ w4 hown4 hg4 hn4 => ?_
  have hn3 : s3.n = 12 := by rw [hn3, hn1, hn2]
  refine append_rule u_sl_uint8 i_uint8 rfl (by decide) (by decide) (hown3.grow hg4) (hown4.rd (by omega)) (bv_one' _) (by rw [hn3, hn4]; decide) (hg3.trans hg4).size fun s5 w5 hn5 hown5 hk5 _ => ?_
  rw [← bv_append] at hown5
  have hg5 := own_grow (hg3.trans hg4) (hown3.grow hg4) (Nat.le_refl _) hk5
  have hn5 : s5.n = 16 := by rw [hn5, hn3, hn4]
  refine append_rule u_sl_uint8 i_uint8 rfl (by decide) (by decide) hown5 (hp.grow hg5) (bv_one' _) (by rw [hn5]; omega) hg5.size fun s6 w6 hn6 hown6 hk6 _ => ?_
  rw [← bv_append] at hown6
  have hg6 := own_grow hg5 hown5 (Nat.le_refl _) hk6
  have hown6 : Own w6 w.heap.size t_uint8 1 s6 (bv (headS g l)) := hown6
  refine ref_c32_spec (hown6.rd (by omega)) ?_
  have hcl := c32_lt (headS g l)
  rw [wu64 (by omega) (by omega)]
  refine big_spec (n := 4) (by decide) (by decide) fun s7 w7 hown7 hg7 hn7 => ?_
  refine append_rule u_sl_uint8 i_uint8 rfl (by decide) (by decide) (hown6.grow hg7) (hown7.rd (by omega)) (bv_one' _) (by rw [hn6, hn5, hn7]; omega) (hg6.trans hg7).size fun s8 w8 hn8 hown8 hk8 _ => ?_
  rw [← bv_append] at hown8
  exact h s8 w8 hown8 (own_grow (hg6.trans hg7) (hown6.grow hg7) (Nat.le_refl _) hk8)
/-- a record says what it was made of, whatever stands behind it -/
theorem decS_rec {g : Nat} {p q : L8} (hg : g < 18446744073709551616) (hp : p.length ≤ 4096) : decS (recS g p ++ q) = (g, p, 0) := by
  have hl : 20 ≤ (recS g p ++ q).length := by rw [List.length_append, recS_len]; omega
  have h4 : (recS g p ++ q).take 4 = s4 := by simp [recS, headS, s4]
  have hb8 : beN 8 g = beN 8 g := rfl
  have hlen8 := beN_len 8 g
  have hlen4 := beN_len 4 p.length
  have hA : recS g p ++ q = s4 ++ (beN 8 g ++ (beN 4 p.length ++ (p ++ (beN 4 (c32 (headS g p)) ++ q)))) := by simp [recS, headS]
  have d4 : (recS g p ++ q).drop 4 = beN 8 g ++ (beN 4 p.length ++ (p ++ (beN 4 (c32 (headS g p)) ++ q))) := by rw [hA]; rfl
  have d12 : (recS g p ++ q).drop 12 = beN 4 p.length ++ (p ++ (beN 4 (c32 (headS g p)) ++ q)) := by
    have : (recS g p ++ q).drop 12 = ((recS g p ++ q).drop 4).drop 8 := by rw [List.drop_drop]
    rw [this, d4, List.drop_append, List.drop_of_length_le (by omega), hlen8]; rfl
  have d16 : (recS g p ++ q).drop 16 = p ++ (beN 4 (c32 (headS g p)) ++ q) := by
    have : (recS g p ++ q).drop 16 = ((recS g p ++ q).drop 12).drop 4 := by rw [List.drop_drop]
    rw [this, d12, List.drop_append, List.drop_of_length_le (by omega), hlen4]; rfl
  have hn : num (((recS g p ++ q).drop 12).take 4) = p.length := by
    rw [d12, List.take_append_of_le_length (by omega), List.take_of_length_le (by omega), num_beN_lt (by omega)]
  have hgn : num (((recS g p ++ q).drop 4).take 8) = g := by
    rw [d4, List.take_append_of_le_length (by omega), List.take_of_length_le (by omega), num_beN_lt (by omega)]
  have hh : (recS g p ++ q).take (16 + p.length) = headS g p := by
    rw [recS, List.append_assoc, List.take_append_of_le_length (by rw [headS_len]; omega), List.take_of_length_le (by rw [headS_len]; omega)]
  have hcc : ((recS g p ++ q).drop (16 + p.length)).take 4 = beN 4 (c32 (headS g p)) := by
    rw [recS, List.append_assoc, List.drop_append, List.drop_of_length_le (by rw [headS_len]; omega), headS_len, Nat.sub_self, List.nil_append, List.drop_zero, List.take_append_of_le_length (by rw [beN_len]; omega), List.take_of_length_le (by rw [beN_len]; omega)]
  have hcl := c32_lt (headS g p)
  unfold decS
  rw [if_neg (fun q => q.elim (fun q => absurd q (by omega)) (fun q => q h4)), hn, if_neg (by rw [List.length_append, recS_len]; omega), hcc, hh, num_beN_lt (by omega), if_neg (by simp), hgn, d16, List.take_append_of_le_length (by omega), List.take_of_length_le (by omega)]
end Go.Proofs.Ytiokflecflbopaa
