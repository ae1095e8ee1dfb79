/- Layer 4: blocks as arguments; the law of two pieces. -/
import Derived.Test.YtiokflecflbopaaSt6
namespace Go.Proofs.Ytiokflecflbopaa
open Go CF

section
variable {H : Type} {enc : TypeId × Value → H} {w : World} {base : Nat} {spare : Nat → Bool} {held : Bool}
theorem int_u8 {n : Int} (h : (Lit.int .u8 n).wf = true) : ∃ a : Nat, n = a ∧ a < 256 := by
  simp [Lit.wf, IntKind.min, IntKind.max, IntKind.signed, IntKind.bits] at h
  exact ⟨n.toNat, by omega, by omega⟩
theorem int_u16 {n : Int} (h : (Lit.int .u16 n).wf = true) : ∃ a : Nat, n = a ∧ a < 65536 := by
  simp [Lit.wf, IntKind.min, IntKind.max, IntKind.signed, IntKind.bits] at h
  exact ⟨n.toNat, by omega, by omega⟩
theorem int_u32 {n : Int} (h : (Lit.int .u32 n).wf = true) : ∃ a : Nat, n = a ∧ a < 4294967296 := by
  simp [Lit.wf, IntKind.min, IntKind.max, IntKind.signed, IntKind.bits] at h
  exact ⟨n.toNat, by omega, by omega⟩
theorem bytes_of : ∀ (n : Nat) (cs : List Value), FitL (List.replicate n (.i .u8)) cs → (∀ v ∈ cs, okV v) → ∃ l : L8, l.length = n ∧ cs = bv l
  | 0, [], _, _ => ⟨[], rfl, rfl⟩
  | n + 1, v :: cs, h, hv => by
    obtain ⟨h1, h2⟩ := h
    obtain ⟨l, hl, hc⟩ := bytes_of n cs h2 (fun u hu => hv u (by simp [hu]))
    have hv0 := hv v (by simp)
    obtain ⟨n0, rfl⟩ : ∃ n0 : Int, v = .int .u8 n0 := ⟨_, (Kd.mk_un h1).symm⟩
    obtain ⟨a, rfl, ha⟩ := int_u8 hv0
    refine ⟨UInt8.ofNat a :: l, by simp [hl], ?_⟩
    rw [hc]
    simp only [bv, List.map_cons, UInt8.toNat_ofNat']
    congr 2
    omega
  | n + 1, [], h, _ => h.elim
  | 0, _ :: _, h, _ => h.elim
theorem opens_block : Opens enc Try.prog w base spare held t_api_Block fun cs => ∃ b : Bk, cs = bc b ∧ True :=
  (opens_flat 8 t_api_Block kBk flat_api_Block (by kernel_rfl)).mono fun cs ⟨h, hv⟩ => by
    have h : FitL (List.replicate 16 (.i .u8) ++ [.i .u16, .i .u16, .i .u32]) cs := h
    obtain ⟨h1, h2⟩ := h.append
    simp only [List.length_replicate] at h1 h2
    obtain ⟨l, hl, hc⟩ := bytes_of 16 _ h1 fun v hv' => hv v (List.mem_of_mem_take hv')
    have hv2 : ∀ v ∈ cs.drop 16, okV v := fun v hv' => hv v (List.mem_of_mem_drop hv')
    have e := (List.take_append_drop 16 cs).symm
    generalize cs.drop 16 = r at h2 hv2 e
    match r, h2 with
    | [x, y, z], ⟨hx, hy, hz, _⟩ =>
      have ox := hv2 x (by simp)
      have oy := hv2 y (by simp)
      have oz := hv2 z (by simp)
      obtain ⟨x, rfl⟩ : ∃ n0 : Int, x = .int .u16 n0 := ⟨_, (Kd.mk_un hx).symm⟩
      obtain ⟨y, rfl⟩ : ∃ n0 : Int, y = .int .u16 n0 := ⟨_, (Kd.mk_un hy).symm⟩
      obtain ⟨z, rfl⟩ : ∃ n0 : Int, z = .int .u32 n0 := ⟨_, (Kd.mk_un hz).symm⟩
      obtain ⟨g, rfl, hg⟩ := int_u16 ox
      obtain ⟨a, rfl, ha⟩ := int_u16 oy
      obtain ⟨q, rfl, hr⟩ := int_u32 oz
      exact ⟨⟨l, g, a, q, hl, hg, ha, hr⟩, by rw [e, hc]; rfl, trivial⟩
theorem opens_blocks : Opens enc Try.prog w base spare held t_sl_api_Block fun cs => ∃ s : Sl, cs = [.slice s.A s.n s.c] ∧ ∃ bs : List Bk, Rd w 19 s (bs.flatMap bc) :=
  (opens_slice (f := bc) (Q := fun _ => True) (z := 19) (bytes := 24) u_sl_api_Block (by kernel_rfl) (by kernel_rfl) (by decide) bc_len opens_block).mono fun _ ⟨s, h1, bs, h2, _⟩ => ⟨s, h1, bs, h2⟩
end
theorem rdBl_of {st st' : Wst} {file : ByteArray} {a b n : Nat} (h : ∀ i, i < n → blkAt (cont st file) (a + i) = blkAt (cont st' file) (b + i)) : rdBl st file a n = rdBl st' file b n := by
  unfold rdBl
  apply List.map_congr_left
  intro i hi
  exact h i (List.mem_range.1 hi)
theorem rdBl_list {st : Wst} {file : ByteArray} {a n : Nat} {l : List Bk} (hn : l.length = n) (h : ∀ i (hi : i < l.length), blkAt (cont st file) (a + i) = l[i]) : rdBl st file a n = l := by
  unfold rdBl
  apply List.ext_getElem
  · simp [hn]
  · intro i h1 h2
    rw [List.getElem_map, List.getElem_range]
    exact h i h2
abbrev st0 : Wst := ⟨fun _ => none, fun _ => none, [], 0⟩
theorem storeSplits_spec {l : Sl} {bs : List Bk} {A B : Nat} {w : World} {R : Bool → World → Prop} (hl : Rd w 19 l (bs.flatMap bc)) (hA : A < 256) (hB : B < 256) (h : ∀ w', Grow w w' → R true w') :
    Cpalletlaw04_StoreSplits l (A : Int) (B : Int) w R := by
  refine Fpalletlaw04_StoreSplits.calls _ _ _ _ _ ?_
  refine awake04_spec fun w0 hg0 => br_f rfl ?_
  have hbl := rd_bk hl
  have hcap := hl.cap
  have hmn : mn (l.n : Int) 20 = ((min l.n 20 : Nat) : Int) := mn_nat l.n 20
  rw [hmn]
  generalize hN : min l.n 20 = N at *
  have hN20 : N ≤ 20 ∧ N ≤ l.n := by omega
  have e1 : IntKind.wrap .i64 ((N : Int) + 1) = ((N + 1 : Nat) : Int) := by rw [w64 (by omega) (by omega)]; omega
  have e2 : (IntKind.wrap .i64 (A : Int)).tmod ((N + 1 : Nat) : Int) = ((A % (N + 1) : Nat) : Int) := by rw [w64 (by omega) (by omega)]; exact (Int.ofNat_tmod A (N + 1)).symm
  have e3 : (IntKind.wrap .i64 (B : Int)).tmod 12 = ((B % 12 : Nat) : Int) := by rw [w64 (by omega) (by omega)]; exact (Int.ofNat_tmod B 12).symm
  rw [e1, e2, e3]
  have hK : A % (N + 1) ≤ N := by have := Nat.mod_lt A (show 0 < N + 1 by omega); omega
  generalize A % (N + 1) = K at *
  have hF : B % 12 < 12 := Nat.mod_lt _ (by decide)
  generalize B % 12 = F at *
  have e4 : IntKind.wrap .i64 ((F : Int) + (K : Int)) = ((F + K : Nat) : Int) := by rw [w64 (by omega) (by omega)]; omega
  have e5 : IntKind.wrap .i64 ((N : Int) - (K : Int)) = ((N - K : Nat) : Int) := by rw [w64 (by omega) (by omega)]; omega
  rw [e4, e5]
  simp only [Int.toNat_natCast, Nat.sub_zero]
  refine ⟨by omega, by decide, ?_⟩
  -- two worlds, two stores
  refine world_new_spec fun pa DA w1 hg1 hwA1 hDA1 => ?_
  refine open_spec (blocks := 32) size_s_f (by decide) fun sa w2 hsa hg2 hSA2 => ?_
  refine world_new_spec fun pb DB w3 hg3 hwB3 hDB3 => ?_
  refine open_spec (blocks := 32) size_s_f (by decide) fun sb w4 hsb hg4 hSB4 => ?_
  refine br_f rfl ?_
  have s0 := hg0.size
  have s1 := hg1.size
  have s2 := hg2.size
  have s3 := hg3.size
  have s4 := hg4.size
  have hwA4 := ((hwA1.grow hg2).grow hg3).grow hg4
  have hwB4 := hwB3.grow hg4
  have hSA4 : IsS w4 sa pa s_f 32 true := (hg3.trans hg4).heap hSA2 (fun q => q)
  have hgw4 : Grow w w4 := (((hg0.trans hg1).trans hg2).trans hg3).trans hg4
  have sa2 := lt_of_heap hSA2
  have sb4 := lt_of_heap hSB4
  have nAsa : ¬ DA sa := fun q => by have := hwA1.lt q; omega
  have nAsb : ¬ DA sb := fun q => by have := hwA1.lt q; omega
  have nBsa : ¬ DB sa := fun q => by have := hDB3 _ q; omega
  have nBsb : ¬ DB sb := fun q => by have := hwB3.lt q; omega
  have dAB : ∀ k, DA k → ¬ DB k := fun k q r => by have := hwA1.lt q; have := hDB3 k r; omega
  have bA : ∀ k, DA k → w.heap.size ≤ k := fun k q => by have := hDA1 k q; omega
  have bB : ∀ k, DB k → w.heap.size ≤ k := fun k q => by have := hDB3 k q; omega
  refine ⟨⟨by omega, by omega, by omega, hcap⟩, ?_⟩
  have hbsl : bs.length = l.n := hbl
  -- the whole
  refine store_write_spec (lba := F) (bs := (bs.drop 0).take (N - 0)) hSA4 nAsa hwA4 size_s_f (by decide) (by omega) (fun u hk => rd_bk_cut (hl.grow (hgw4.keep hk fun i hi q => by have := bA i q; omega)) (Nat.zero_le _) (by omega)) (by show (0 : Nat) < _; decide) (by show (0 : Nat) < _; decide)
    (fun q => by rw [List.length_take, List.length_drop] at q; omega) fun _ w5 DA5 hk5 hwA5 hDA5 hSA5 => ?_
  rw [if_neg (by simp)]
  have hgw5 : Grow w w5 := hgw4.keep hk5 fun i hi q => by have := bA i q; omega
  have s5 := hk5.size
  have hwB5 := hwB4.keep hk5 (fun k q r => dAB k r q) hwA4.nobytes
  have hSB5 : IsS w5 sb pb s_f 32 true := hk5.heap hSB4 nAsb
  have nA5sa : ¬ DA5 sa := fun q => by rcases hDA5 _ q with r | r; · exact nAsa r
                                       · omega
  have dAB5 : ∀ k, DA5 k → ¬ DB k := fun k q r => by
    rcases hDA5 k q with e | e
    · exact dAB k e r
    · have := hwB4.lt r; omega
  have bA5 : ∀ k, DA5 k → w.heap.size ≤ k := fun k q => by
    rcases hDA5 k q with e | e
    · exact bA k e
    · omega
  refine ⟨⟨by omega, by omega, by omega, hcap⟩, ?_⟩
  -- the first piece
  refine store_write_spec (lba := F) (bs := (bs.drop 0).take (K - 0)) hSB5 nBsb hwB5 size_s_f (by decide) (by omega) (fun u hk => rd_bk_cut (hl.grow (hgw5.keep hk fun i hi q => by have := bB i q; omega)) (Nat.zero_le _) (by omega)) (by show (0 : Nat) < _; decide) (by show (0 : Nat) < _; decide)
    (fun q => by rw [List.length_take, List.length_drop] at q; omega) fun _ w6 DB6 hk6 hwB6 hDB6 hSB6 => ?_
  rw [if_neg (by simp)]
  have hgw6 : Grow w w6 := hgw5.keep hk6 fun i hi q => by have := bB i q; omega
  have s6 := hk6.size
  have hwA6 := hwA5.keep hk6 dAB5 hwB5.nobytes
  have hSA6 : IsS w6 sa pa s_f 32 true := hk6.heap hSA5 nBsa
  have nB6sb : ¬ DB6 sb := fun q => by rcases hDB6 _ q with r | r; · exact nBsb r
                                       · omega
  have nB6sa : ¬ DB6 sa := fun q => by rcases hDB6 _ q with r | r; · exact nBsa r
                                       · omega
  have dAB6 : ∀ k, DA5 k → ¬ DB6 k := fun k q r => by
    rcases hDB6 k r with e | e
    · exact dAB5 k q e
    · have := hwA5.lt q; omega
  have bB6 : ∀ k, DB6 k → w.heap.size ≤ k := fun k q => by
    rcases hDB6 k q with e | e
    · exact bB k e
    · omega
  refine ⟨⟨by omega, by omega, by omega, hcap⟩, ?_⟩
  -- the second piece
  have o6 := layW_ops st0 s_f F (rsOf ((bs.drop 0).take (K - 0))) ((bs.drop 0).take (K - 0)).length
  have lK : ((bs.drop 0).take (K - 0)).length = K := by rw [List.length_take, List.length_drop]; omega
  have lN : ((bs.drop 0).take (N - 0)).length = N := by rw [List.length_take, List.length_drop]; omega
  have lR : ((bs.drop K).take (N - K)).length = N - K := by rw [List.length_take, List.length_drop]; omega
  refine store_write_spec (lba := F + K) (bs := (bs.drop K).take (N - K)) hSB6 nB6sb hwB6 size_s_f (by decide) (by omega) (fun u hk => rd_bk_cut (hl.grow (hgw6.keep hk fun i hi q => by have := bB6 i q; omega)) hK (by omega)) (by rw [o6.1, lK]; show 0 + K < _; omega) (by rw [o6.2, lK]; show 0 + K < _; omega)
    (fun q => by omega) fun _ w7 DB7 hk7 hwB7 hDB7 hSB7 => ?_
  rw [if_neg (by simp)]
  have hgw7 : Grow w w7 := hgw6.keep hk7 fun i hi q => by have := bB6 i q; omega
  have s7 := hk7.size
  have hwA7 := hwA6.keep hk7 dAB6 hwB6.nobytes
  have hSA7 : IsS w7 sa pa s_f 32 true := hk7.heap hSA6 nB6sa
  have nB7sb : ¬ DB7 sb := fun q => by rcases hDB7 _ q with r | r; · exact nB6sb r
                                       · omega
  have dAB7 : ∀ k, DA5 k → ¬ DB7 k := fun k q r => by
    rcases hDB7 k r with e | e
    · exact dAB6 k q e
    · have := hwA6.lt q; omega
  have bB7 : ∀ k, DB7 k → w.heap.size ≤ k := fun k q => by
    rcases hDB7 k q with e | e
    · exact bB6 k e
    · omega
  have oA := layW_ops st0 s_f F (rsOf ((bs.drop 0).take (N - 0))) ((bs.drop 0).take (N - 0)).length
  generalize hstA : layW st0 s_f F (rsOf ((bs.drop 0).take (N - 0))) ((bs.drop 0).take (N - 0)).length = stA at *
  have oB := layW_ops (layW st0 s_f F (rsOf ((bs.drop 0).take (K - 0))) ((bs.drop 0).take (K - 0)).length) s_f (F + K) (rsOf ((bs.drop K).take (N - K))) ((bs.drop K).take (N - K)).length
  have fA := layW_file (st := st0) (file := s_f) (lba := F) (bs := (bs.drop 0).take (N - 0)) good_nil _ (Nat.le_refl _)
  have fB := layW_file (st := st0) (file := s_f) (lba := F) (bs := (bs.drop 0).take (K - 0)) good_nil _ (Nat.le_refl _)
  have fC := layW_file (lba := F + K) (bs := (bs.drop K).take (N - K)) fB.1 _ (Nat.le_refl _)
  rw [hstA, lN] at fA
  rw [o6.1] at oB
  generalize hstB : layW (layW st0 s_f F (rsOf ((bs.drop 0).take (K - 0))) ((bs.drop 0).take (K - 0)).length) s_f (F + K) (rsOf ((bs.drop K).take (N - K))) ((bs.drop K).take (N - K)).length = stB at *
  rw [lR, lK] at fC
  rw [lK] at fB
  -- reads
  refine store_read_spec (lba := 0) (n := 32) hSA7 nA5sa hwA7 size_s_f (by decide) (by decide) (by rw [oA.1, lN]; show 0 + N < _; omega) fun x w8 hk8 hwA8 hown8 hn8 => ?_
  have s8 := hk8.size
  have hwB8 := hwB7.keep hk8 (fun k q r => dAB7 k r q) hwA7.nobytes
  have hSB8 : IsS w8 sb pb s_f 32 true := hk8.heap hSB7 fun q => by rcases hDA5 _ q with r | r; · exact nAsb r
                                                                    · omega
  have hgw8 : Grow w w8 := hgw7.keep hk8 fun i hi q => by have := bA5 i q; omega
  have oB' : stB.ops = 0 + K + (N - K) := by rw [oB.1, lK, lR]
  have x8 := hown8.rd (by omega)
  refine store_read_spec (lba := 0) (n := 32) hSB8 nB7sb hwB8 size_s_f (by decide) (by decide) (by rw [oB']; omega) fun y w9 hk9 hwB9 hown9 hn9 => ?_
  have s9 := hk9.size
  have hSB9 : IsS w9 sb pb s_f 32 true := hk9.heap hSB8 nB7sb
  have hgw9 : Grow w w9 := hgw8.keep hk9 fun i hi q => by have := bB7 i q; omega
  have y9 := hown9.rd (by omega)
  have big : ∀ {u u' : World} {o : Sl} {vs : List Value} {b : Nat}, w7.heap.size ≤ b → Own u b t_api_Block 19 o vs → Keep DB7 u u' → Own u' b t_api_Block 19 o vs := fun hb ho hk => ho.keep hk fun g hg q => by
    have := (ho.ge g hg).1
    have := hwB7.lt q
    omega
  refine store_read_spec (lba := F) (n := K) hSB9 nB7sb hwB9 size_s_f (by decide) (by omega) (by show stB.ops + 32 < _; rw [oB']; omega) fun c w10 hk10 hwB10 hown10 hn10 => ?_
  have s10 := hk10.size
  have hSB10 : IsS w10 sb pb s_f 32 true := hk10.heap hSB9 nB7sb
  have hgw10 : Grow w w10 := hgw9.keep hk10 fun i hi q => by have := bB7 i q; omega
  refine store_read_spec (lba := F + K) (n := N - K) hSB10 nB7sb hwB10 size_s_f (by decide) (by omega) (by show stB.ops + 32 + K < _; rw [oB']; omega) fun d w11 hk11 hwB11 hown11 hn11 => ?_
  have s11 := hk11.size
  have hgw11 : Grow w w11 := hgw10.keep hk11 fun i hi q => by have := bB7 i q; omega
  refine br_f rfl ?_
  have x11 := (big (by omega) (big (by omega) (big (by omega) hown8 hk9) hk10) hk11).rd (by omega)
  have y11 := (big (by omega) (big (by omega) hown9 hk10) hk11).rd (by omega)
  have c11 := (big (by omega) hown10 hk11).rd (by omega)
  have d11 := hown11.rd (by omega)
  have at0 : ∀ (M i : Nat), ((bs.drop 0).take (M - 0))[i]? = if i < M then bs[i]? else none := fun M i => by
    rw [List.drop_zero, Nat.sub_zero, List.getElem?_take]
  have hxy : rdBl stA s_f 0 32 = rdBl stB s_f 0 32 := rdBl_of fun i hi => by
    rw [fA.2, fC.2, fB.2, at0]
    by_cases q1 : F + K ≤ 0 + i ∧ 0 + i < F + K + (N - K)
    · rw [if_pos q1, if_pos (by omega), if_pos (by omega), List.getElem?_take, if_pos (by omega), List.getElem?_drop]
      congr 2; omega
    · rw [if_neg q1]
      by_cases q2 : F ≤ 0 + i ∧ 0 + i < F + K
      · rw [if_pos q2, if_pos (by omega), if_pos (by omega), at0, if_pos (by omega)]
      · rw [if_neg q2, if_neg (by omega)]
  have hcc : rdBl stB s_f F K = (bs.drop 0).take (K - 0) := rdBl_list lK fun i hi => by
    rw [fC.2, fB.2, if_neg (by omega), if_pos (by omega), show F + i - F = i by omega, List.getElem?_eq_getElem hi]; rfl
  have hdd : rdBl stB s_f (F + K) (N - K) = (bs.drop K).take (N - K) := rdBl_list lR fun i hi => by
    rw [fC.2, if_pos (by omega), show F + K + i - (F + K) = i by omega, List.getElem?_eq_getElem hi]; rfl
  refine same04_spec x11 y11 (fun _ w12 hg12 => ?_) (fun q => absurd hxy q)
  refine ⟨fun _ => ⟨by omega, by omega, by omega, hcap⟩, ⟨fun _ => ?_, fun q => (by cases q)⟩⟩
  refine same04_spec (c11.grow hg12) (rd_bk_cut (hl.grow (hgw11.trans hg12)) (Nat.zero_le K) (by omega)) (fun _ w13 hg13 => ?_) (fun q => absurd hcc q)
  refine ⟨fun _ => ⟨by omega, by omega, by omega, hcap⟩, ⟨fun _ => ?_, fun q => (by cases q)⟩⟩
  refine same04_spec ((d11.grow hg12).grow hg13) (rd_bk_cut (hl.grow ((hgw11.trans hg12).trans hg13)) hK (by omega)) (fun _ w14 hg14 => ?_) (fun q => absurd hdd q)
  exact h w14 (((hgw11.trans hg12).trans hg13).trans hg14)
theorem storeSplits_row {l : Sl} {bs : List Bk} {x y : Int} {w : World} {R : Bool → World → Prop} (hl : Rd w 19 l (bs.flatMap bc)) (hx : (Lit.int .u8 x).wf = true) (hy : (Lit.int .u8 y).wf = true) (h : ∀ w', Grow w w' → R true w') :
    Cpalletlaw04_StoreSplits l x y w R := by
  obtain ⟨A, rfl, hA⟩ := int_u8 hx
  obtain ⟨B, rfl, hB⟩ := int_u8 hy
  exact storeSplits_spec hl hA hB h
end Go.Proofs.Ytiokflecflbopaa
