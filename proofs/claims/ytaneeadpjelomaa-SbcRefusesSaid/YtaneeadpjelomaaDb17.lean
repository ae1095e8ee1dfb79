import Derived.Test.YtaneeadpjelomaaDb16
/- Layer 14: the reference's count of unpacked blocks; a byte of a row that was read; blocks with a byte turned. -/
namespace Go.Proofs.Ytaneeadpjelomaa
open Go CF

theorem ref_num_any {p : Sl} {l : L8} {at_ n : Nat} {w : World} {R : Int → World → Prop} (hp : Rd w 1 p (bv l)) (hb : p.n ≤ 140737488351232) (hn : 1 ≤ n) (hn8 : n ≤ 8) (ha : at_ + n ≤ p.n) (h : ∀ v, R v w) : Cpalletref01_Num p (at_ : Int) (n : Int) w R := by
  refine Fpalletref01_Num.calls _ _ _ _ _ ?_
  have hln := rd_n' hp
  refine Fpalletref01_Get.calls _ _ _ _ _ ?_
  refine Fpalletref01_field.calls _ _ _ _ _ ?_
  refine br_f (by rw [Bool.or_eq_false_iff, decide_eq_false_iff_not, decide_eq_false_iff_not]; omega) ?_
  refine br_f (by rw [Bool.or_eq_false_iff, Bool.or_eq_false_iff, decide_eq_false_iff_not, decide_eq_false_iff_not, decide_eq_false_iff_not, w64 (by omega) (by omega)]; omega) ?_
  refine br_f rfl ⟨fun _ i x => x = w ∧ ∃ k : Nat, i = k ∧ k ≤ n, fun _ i _ => n - i.toNat, ⟨rfl, 0, rfl, Nat.zero_le _⟩, ?_⟩
  rintro v i x ⟨rfl, k, rfl, hk⟩
  refine br_nat (fun hlt => ?_) (fun _ => h v)
  have e : IntKind.wrap .i64 ((at_ : Int) + (k : Int)) = ((at_ + k : Nat) : Int) := by rw [w64 (by omega) (by omega)]; omega
  rw [e]
  obtain ⟨hA, hc⟩ := rd_at hp (i := at_ + k) (by omega)
  refine ⟨⟨by omega, by omega, hA⟩, _, by rw [Int.toNat_natCast]; exact hc, ?_⟩
  rw [w64 (by omega) (by omega)]
  exact ⟨⟨rfl, k + 1, by omega, by omega⟩, by dsimp only; omega⟩
theorem wrap_u16_lt (v : Int) : ∃ g : Nat, g < 65536 ∧ IntKind.wrap .u16 v = (g : Int) := by
  have e : IntKind.wrap .u16 v = v % 65536 := by simp [IntKind.wrap, IntKind.signed, IntKind.bits]
  exact ⟨(v % 65536).toNat, by omega, by rw [e]; omega⟩
theorem wrap_u32_lt (v : Int) : ∃ g : Nat, g < 4294967296 ∧ IntKind.wrap .u32 v = (g : Int) := by
  have e : IntKind.wrap .u32 v = v % 4294967296 := by simp [IntKind.wrap, IntKind.signed, IntKind.bits]
  exact ⟨(v % 4294967296).toNat, by omega, by rw [e]; omega⟩
theorem ref_unpack_count {p : Sl} {l : L8} {w : World} {R : Sl → Bool → World → Prop} (hp : Rd w 1 p (bv l)) (hb : p.n ≤ 1000000) (hl : l.length % 24 = 0) (h : ∀ out u, Grow w u → out.n = l.length / 24 → R out true u) : Cpalletref13_Unpack p true w R := by
  refine Fpalletref13_Unpack.calls _ _ _ _ ?_
  have hln := rd_n' hp
  refine letX1 (fun (n : Int) x => x = w ∧ n = 24) ?_ (fun J => br_t rfl (J _ _ ⟨rfl, rfl⟩))
  rintro n x ⟨rfl, rfl⟩
  have em : ((p.n : Int).tmod 24) = ((p.n % 24 : Nat) : Int) := rfl
  refine ⟨by decide, br_f (by rw [em, bne_eq_false_iff_eq]; omega) ?_⟩
  refine ⟨fun out i y => ∃ (j : Nat) (L : List Bk), i = ((24 * j : Nat) : Int) ∧ 24 * j ≤ p.n ∧ L.length = j ∧ Grow x y ∧ Own y x.heap.size t_api_Block 19 out (L.flatMap bc), fun _ i _ => p.n - i.toNat, ⟨0, [], rfl, Nat.zero_le _, rfl, Keep.refl _ _, own_nil _ _ _ _⟩, ?_⟩
  rintro out i y ⟨j, L, rfl, hj, hL, hgy, hown⟩
  have hon : out.n = j := by have := hown.len; rw [flat_bc_len] at this; omega
  refine br_nat (fun hlt => ?_) (fun hge => h out y hgy (by omega))
  refine letX1 (fun (out1 : Sl) z => ∃ L1 : List Bk, L1.length = j + 1 ∧ Grow x z ∧ Own z x.heap.size t_api_Block 19 out1 (L1.flatMap bc)) ?_ (fun J => ?_)
  · rintro o z ⟨L1, hL1, hgz, ho⟩
    rw [w64 (by omega) (by omega)]
    exact ⟨⟨j + 1, L1, by omega, by omega, hL1, hgz, ho⟩, by dsimp only; omega⟩
  refine new_rule fun bb y1 hbb hb1 hg1 hsz1 => ?_
  have hbz : Blk y1 bb (bc ⟨List.replicate 16 0, 0, 0, 0, rfl, by decide, by decide, by decide⟩).toArray t_api_Block := hb1
  refine ⟨fun k z => ∃ (q : Nat) (b : Bk), k = q ∧ q ≤ 16 ∧ Grow y z ∧ Blk z bb (bc b).toArray t_api_Block, fun k _ => 16 - k.toNat, ⟨0, _, rfl, Nat.zero_le _, hg1, hbz⟩, ?_⟩
  rintro k z ⟨q, b, rfl, hq, hgz, hbz⟩
  have hpz := hp.grow (hgy.trans hgz)
  refine br_nat (y := 16) (fun hlt2 => ?_) (fun hge2 => ?_)
  · have e : IntKind.wrap .i64 (((24 * j : Nat) : Int) + (q : Int)) = ((24 * j + q : Nat) : Int) := by rw [w64 (by omega) (by omega)]; omega
    rw [e]
    obtain ⟨hA, hc⟩ := rd_at hpz (i := 24 * j + q) (by omega)
    refine ⟨⟨by omega, by omega, hA⟩, _, by rw [Int.toNat_natCast]; exact hc, ⟨by omega, by omega⟩, ?_⟩
    rw [add0, Int.toNat_natCast, Nat.mul_one]
    have ea : (⟨bb, 0, none⟩ : Addr).add q = ⟨bb, q, none⟩ := by rw [add0, Nat.zero_add]
    rw [ea]
    refine put_rule hbz (by simp [bc_len]; omega) rfl fun z1 hb2 hk2 _ => ?_
    rw [w64 (by omega) (by omega)]
    refine ⟨⟨q + 1, ⟨b.d.set q (l.getD (24 * j + q) 0), b.g, b.a, b.r, by rw [List.length_set]; exact b.hd, b.hg, b.ha, b.hr⟩, by omega, by omega, hgz.keep hk2 fun i hi e => by omega, ?_⟩, by dsimp only; omega⟩
    have e : ((bc b).toArray.setIfInBounds q (.int .u8 ((l.getD (24 * j + q) 0).toNat : Int))) = (bc ⟨b.d.set q (l.getD (24 * j + q) 0), b.g, b.a, b.r, by rw [List.length_set]; exact b.hd, b.hg, b.ha, b.hr⟩).toArray := by
      rw [← Array.toList_inj]
      simp only [Array.toList_setIfInBounds]
      have hd := b.hd
      show (bv b.d ++ _).set q _ = _
      rw [List.set_append_left _ _ (by rw [bv_length]; omega), bv_set]
      rfl
    rw [← e]; exact hb2
  · have hg1z := hgy.trans hgz
    refine letX0 (fun u => Grow y u ∧ ∃ b1 : Bk, Blk u bb (bc b1).toArray t_api_Block) ?_ (fun J1 => br_t rfl ?_)
    · rintro u ⟨hgu, b1, hbu⟩
      refine ⟨_, bLoad (blk_cells hbu), ?_⟩
      refine lit_rule (cells := (bc b1).toArray) (e := t_api_Block) (z := 19) (base := 0) (lit_block _ _) (by simp [bc_len]) (by decide) (Nat.zero_le _) fun u1 hlit hg3 _ => ?_
      refine append_rule u_sl_api_Block i_api_Block rfl (by decide) (by decide) ((hown.grow hgu).grow hg3) (hlit.rd (by show 1 ≤ _; decide)) (fun v hv => bc_ones _ v (by simpa using hv)) (by show (out.n + 1) * 24 ≤ _; omega) ((hgy.trans hgu).trans hg3).size fun o u2 hn2 hown2 hk2 _ => ?_
      refine J o u2 ⟨L ++ [b1], by simp [hL], own_grow' ((hgy.trans hgu).trans hg3) ((hown.grow hgu).grow hg3) (Nat.le_refl _) hk2, ?_⟩
      rw [List.flatMap_append]
      simpa using hown2
    · have a1 : IntKind.wrap .i64 (((24 * j : Nat) : Int) + 16) = ((24 * j + 16 : Nat) : Int) := by rw [w64 (by omega) (by omega)]; omega
      have a2 : IntKind.wrap .i64 (((24 * j : Nat) : Int) + 18) = ((24 * j + 18 : Nat) : Int) := by rw [w64 (by omega) (by omega)]; omega
      have a3 : IntKind.wrap .i64 (((24 * j : Nat) : Int) + 20) = ((24 * j + 20 : Nat) : Int) := by rw [w64 (by omega) (by omega)]; omega
      rw [a1, a2, a3]
      refine ref_num_any (n := 2) hpz (by omega) (by decide) (by decide) (by omega) fun v1 => ?_
      refine ref_num_any (n := 2) hpz (by omega) (by decide) (by decide) (by omega) fun v2 => ?_
      refine ref_num_any (n := 4) hpz (by omega) (by decide) (by decide) (by omega) fun v3 => ?_
      obtain ⟨g, hg, e1⟩ := wrap_u16_lt v1
      obtain ⟨a, ha, e2⟩ := wrap_u16_lt v2
      obtain ⟨r, hr, e3⟩ := wrap_u32_lt v3
      rw [e1, e2, e3, add0, Nat.zero_add]
      refine storeAt_rule (o := 16) (cells := (tc g a r).toArray) hbz i_api_Tuple rfl (by simp [bc_len, tc]) (by intro v hv; simp [tc] at hv; rcases hv with rfl | rfl | rfl <;> rfl) fun z1 hb2 hk2 _ => J1 z1 ⟨hgz.keep hk2 fun i hi e => by omega, ⟨b.d, g, a, r, b.hd, hg, ha, hr⟩, ?_⟩
      have e : (bc b).take 16 ++ tc g a r ++ (bc b).drop (16 + 3) = bc ⟨b.d, g, a, r, b.hd, hg, ha, hr⟩ := by
        rw [bc_head, List.drop_of_length_le (by rw [bc_len]; decide), List.append_nil]; rfl
      rw [← e]; exact hb2
/-! ### a row that was read is written over -/
section
variable {w u v : World} {dv ps pw : Nat} {file : ByteArray} {kind n : Nat} {cache : Bool} {D : Nat → Prop} {st : Wst} {bs : List Bk} {m B : Nat} {ls : List (Nat × List Value × TypeId)} {rows : List (Sl × L8)}
theorem Lw.put_row (L : Lw w u dv ps pw file kind n cache D st bs m ls rows) (hB : IsWB u pw D st B) (hwB : w.heap.size ≤ B) {d : Sl} {cur : Array Value} {b : Nat} (hd : d.blk = some b) (hb : u.heap[b]? = some (.cells cur t_uint8 (0, 0))) (hbB : B ≤ b) (hbD : ¬ D b) (hl : ∀ x ∈ ls, x.2.2 ≠ t_uint8)
    (hk : Keep (fun k => some k = d.blk) u v) : Lw w v dv ps pw file kind n cache D st bs m ls [] := by
  have nk : ∀ k, some k = d.blk → k = b := fun k q => by rw [hd] at q; exact Option.some.inj q
  have ne : ∀ {k : Nat} {cs : Array Value} {t : TypeId}, Blk u k cs t → t ≠ t_uint8 → ¬ (some k = d.blk) := fun {k cs t} hb2 ht q => by
    have := nk k q
    subst this
    exact ht (blk_type hb2 hb)
  refine ⟨L.grow.keep hk fun i hi q => by have := nk i q; omega, ⟨hk.heap L.dvs.dev (ne L.dvs.dev (by decide)), hk.heap L.dvs.isS (ne L.dvs.isS (by decide)), (hB.keep hk (fun k hk q => hbD (nk k q ▸ hk)) (fun g c hg q => by have := nk g q; omega)).isW, L.dvs.nps, L.dvs.ndv, L.dvs.ok, L.dvs.tells, L.dvs.len, L.dvs.size, L.dvs.nm, L.dvs.kd, L.dvs.few⟩, L.above,
    fun x hx => ⟨hk.heap (L.loc x hx).1 (ne (L.loc x hx).1 (hl x hx)), (L.loc x hx).2⟩, fun x hx => by cases hx⟩
end
/-! ### a byte of a block is turned -/
theorem set_split' (l : L8) (i : Nat) (y : UInt8) (h : i < l.length) : l.set i y = l.take i ++ y :: l.drop (i + 1) := by
  rw [List.set_eq_take_append_cons_drop, if_pos h]
theorem split_at' (l : L8) (i : Nat) (h : i < l.length) : l = l.take i ++ l[i] :: l.drop (i + 1) := by
  rw [List.getElem_cons_drop, List.take_append_drop]
def turnD (b : Bk) (i : Nat) (y : UInt8) : Bk := ⟨b.d.set i y, b.g, b.a, b.r, by rw [List.length_set]; exact b.hd, b.hg, b.ha, b.hr⟩
theorem wire_turn (b : Bk) {i : Nat} (hi : i < 16) (y : UInt8) : (wireB true b).set i y = wireB true (turnD b i y) := by
  have hd := b.hd
  show (b.d ++ tupB b).set i y = b.d.set i y ++ tupB b
  rw [List.set_append_left _ _ (by omega)]
theorem pack_turn : ∀ (X : List Bk) (k i : Nat) (y : UInt8) (hk : k < X.length), i < 16 → (packB true X).set (24 * k + i) y = packB true (X.set k (turnD X[k] i y))
  | b :: r, 0, i, y, _, hi => by
    have e : ∀ (a : Bk) (q : List Bk), packB true (a :: q) = wireB true a ++ packB true q := fun a q => by simp [packB]
    rw [List.set_cons_zero, e, e, List.set_append_left _ _ (by rw [wireB_len]; show _ < 24; omega), Nat.mul_zero, Nat.zero_add, wire_turn b hi]; rfl
  | b :: r, k + 1, i, y, hk, hi => by
    have e : ∀ (a : Bk) (q : List Bk), packB true (a :: q) = wireB true a ++ packB true q := fun a q => by simp [packB]
    have hw : (wireB true b).length = 24 := wireB_len true b
    rw [List.set_cons_succ, e, e, List.set_append_right _ _ (by omega), hw, show 24 * (k + 1) + i - 24 = 24 * k + i by omega, pack_turn r k i y (by simpa using hk) hi]; rfl
theorem unpB_wires (X : List Bk) : unpB true (packB true X) = X := by
  have e24 : szB true = 24 := rfl
  apply List.ext_getElem
  · rw [unpB_len, packB_len, e24]; omega
  · intro i h1 h2
    rw [unpB_at h1, e24]
    have : ((packB true X).drop (i * 24)).take 24 = wireB true X[i] := by
      clear h1
      induction X generalizing i with
      | nil => simp at h2
      | cons b r ih =>
        have e : packB true (b :: r) = wireB true b ++ packB true r := by simp [packB]
        have hw : (wireB true b).length = 24 := wireB_len true b
        rw [e]
        cases i with
        | zero => rw [Nat.zero_mul, List.drop_zero, List.take_append_of_le_length (by omega), List.take_of_length_le (by omega)]; rfl
        | succ i =>
          rw [show (i + 1) * 24 = 24 + i * 24 by omega, ← List.drop_drop]
          have hd := List.drop_left (l₁ := wireB true b) (l₂ := packB true r)
          rw [hw] at hd
          rw [hd, ih i (by simpa using h2)]; rfl
    rw [this, unB_wire]
theorem chk_turn {kind prot F : Nat} {b : Bk} {i : Nat} {y : UInt8} (hk : 1 ≤ kind ∧ kind ≤ 3) (hp : prot = 1) (hi : i < b.d.length) (hy : y ≠ b.d[i]) : chkB kind prot F (turnD (mk1 kind F b) i y) = 0x1001 := by
  have hd : (turnD (mk1 kind F b) i y).d = b.d.set i y := rfl
  have hg : (turnD (mk1 kind F b) i y).g = c16 b.d := rfl
  have hesc : escB kind (turnD (mk1 kind F b) i y) = false := by
    show (decide ((0 : Nat) = 65535) && _) = false
    rfl
  unfold chkB
  rw [if_neg (by rw [hesc]; simp; omega), if_pos]
  refine ⟨by omega, ?_⟩
  rw [hd, hg]
  have h1 := set_split' b.d i y hi
  have h2 := split_at' b.d i hi
  rw [h1]
  intro e
  rw [h2] at e
  have e2 : c16 (b.d.take i ++ b.d[i] :: b.d.drop (i + 1)) = c16 (b.d.take i ++ y :: b.d.drop (i + 1)) := by
    have e3 : b.d.take i ++ b.d[i] :: b.d.drop (i + 1) = b.d := (split_at' b.d i hi).symm
    simp only [e3] at e ⊢
    exact e
  exact c16_turn (fun q => hy q.symm) e2
end Go.Proofs.Ytaneeadpjelomaa
