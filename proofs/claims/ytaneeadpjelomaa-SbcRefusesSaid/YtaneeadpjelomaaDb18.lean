import Derived.Test.YtaneeadpjelomaaDb17
/- Layer 14: the law of protection. -/
namespace Go.Proofs.Ytaneeadpjelomaa
open Go CF

section
variable {w u : World} {dv ps pw : Nat} {file : ByteArray} {kind n : Nat} {cache : Bool} {D D' : Nat → Prop} {st : Wst} {bs : List Bk} {m : Nat} {ls : List (Nat × List Value × TypeId)} {rows : List (Sl × L8)}
theorem Lw.part (L : Lw w u dv ps pw file kind n cache D st bs m ls rows) {ls1 : List (Nat × List Value × TypeId)} {rows1 : List (Sl × L8)} (h1 : ∀ x ∈ ls1, x ∈ ls) (h2 : ∀ x ∈ rows1, x ∈ rows) : Lw w u dv ps pw file kind n cache D st bs m ls1 rows1 :=
  ⟨L.grow, L.dvs, L.above, fun x q => L.loc x (h1 x q), fun x q => L.row x (h2 x q)⟩
/-- blocks are written with their tuples -/
theorem Lw.writeP (L : Lw w u dv ps pw file kind n cache D st bs m ls rows) (hm : m ≤ 1000000) {c : Cm} {p : Sl} {l : L8} {K : Array Value → World → Prop} (hk : c.kind = 8) (hp0 : c.prot ≠ 0) (hkn : knownB kind c.prot = true) (hc : c.lba + c.blocks ≤ n) (hp : Rd u 1 p (bv l)) (hl : l.length = 24 * c.blocks)
    (hG : (∀ i (hi : i < (unpB true l).length), chkB kind c.prot (c.lba + i) (unpB true l)[i] = 0) → ∀ v D' st', Lw w v dv ps pw file kind n cache D' st' (setAll bs c.lba (unpB true l) c.blocks) (m + c.blocks + 1) ls rows → K (rsv 0 sn0 nilS).toArray v)
    (hB : ∀ i (hi : i < (unpB true l).length), chkB kind c.prot (c.lba + i) (unpB true l)[i] ≠ 0 → ∀ v, Lw w v dv ps pw file kind n cache D st bs m ls rows → K (rsv 2 (atS 11 (chkB kind c.prot (c.lba + i) (unpB true l)[i]) (c.lba + i)) nilS).toArray v) :
    Csbc_Dev_Do (some ⟨dv, 0, none⟩) (cmv c).toArray p u K := by
  have hsz := L.dvs.size
  have hln := rd_n' hp
  have e1 : decide (c.prot ≠ 0) = true := by simpa using hp0
  have e24 : szB true = 24 := rfl
  have hcame : cameB kind c l c.blocks = unpB true l := by unfold cameB; rw [if_neg hp0]
  refine do_spec L.dvs hm hp (by omega) (by omega) (by omega) (fun q => by rw [hkn] at q; cases q) (fun _ _ _ q => by omega) (fun _ q => by omega) (fun _ q => by omega) (fun _ _ _ q => ?_) (fun _ _ _ _ _ _ i hi hz _ v hv => hB i hi hz v (L.go hv)) (fun _ _ _ _ _ hall v D' hkp hdv hDD => ?_) (fun _ q => by omega)
    (fun _ _ ab v _ _ _ => ⟨fun q => by omega, fun q => by omega, fun q => by omega, fun q => by omega, fun q => by omega⟩) (fun _ a b c _ _ _ _ _ _ => by omega)
  · exfalso; rw [e1, e24] at q; omega
  · rw [hcame] at hdv
    exact hG (hall hp0) v D' _ (L.step hkp hdv hDD)
end
theorem setAll_self {bs : List Bk} {F k : Nat} (h : F + k ≤ bs.length) : setAll bs F ((bs.drop F).take k) k = bs := by
  have hl : ((bs.drop F).take k).length = k := by rw [List.length_take, List.length_drop]; omega
  have := setAll_eq (bs := bs) (F := F) (xs := (bs.drop F).take k) (by omega)
  rw [hl] at this
  rw [this, List.append_assoc, ← List.drop_drop, List.take_append_drop, List.take_append_drop]
theorem sbcProtects_spec {p : Sl} {lp : L8} {PR LB AT BY : Nat} {w : World} {R : Bool → World → Prop} (hp : Rd w 1 p (bv lp)) (hpb : p.n ≤ 140737488351232) (hPR : PR < 256) (hLB : LB < 256) (hAT : AT < 256) (hBY : BY < 256) (h : ∀ w', Grow w w' → R true w') :
    Cpalletlaw14_SbcProtects p (PR : Int) (LB : Int) (AT : Int) (BY : Int) w R := by
  refine Fpalletlaw14_SbcProtects.calls _ _ _ _ _ _ _ ?_
  unfold Fpalletlaw14_SbcProtects
  have hln := rd_n' hp
  have hcap := hp.cap
  have eN : mn (IntKind.wrap .i64 ((p.n : Int).tdiv 16)) 8 = ((min (p.n / 16) 8 : Nat) : Int) := by
    have : ((p.n : Int).tdiv 16) = ((p.n / 16 : Nat) : Int) := rfl
    rw [this, w64 (by omega) (by omega)]
    exact mn_nat (p.n / 16) 8
  rw [eN]
  generalize hN : min (p.n / 16) 8 = N
  have e16 : IntKind.wrap .i64 (16 * (N : Int)) = ((16 * N : Nat) : Int) := by rw [w64 (by omega) (by omega)]; omega
  have eL : ((IntKind.wrap .u64 (LB : Int)).tmod 8) = ((LB % 8 : Nat) : Int) := by rw [wu64 (by omega) (by omega)]; rfl
  have hlb : LB % 8 < 8 := Nat.mod_lt _ (by decide)
  have eB : IntKind.wrap .u64 (N : Int) = (N : Int) := wu64 (by omega) (by omega)
  have eK : IntKind.wrap .u8 (1 + ((PR : Int).tmod 3)) = ((1 + PR % 3 : Nat) : Int) := by
    have : ((PR : Int).tmod 3) = ((PR % 3 : Nat) : Int) := rfl
    rw [this, wu8 (by omega) (by omega)]; omega
  have eA : IntKind.wrap .i64 (AT : Int) = (AT : Int) := w64 (by omega) (by omega)
  rw [e16, eL, eB, eK, eA]
  have hkd : 1 ≤ 1 + PR % 3 ∧ 1 + PR % 3 ≤ 3 := by omega
  generalize 1 + PR % 3 = kd at *
  generalize LB % 8 = lba at *
  refine awake14_spec fun w0 hg0 => br_f rfl ⟨by decide, by decide, by decide, ?_⟩
  refine device_spec (n := 16) (kind := kd) (cache := true) (by decide) hkd.2 fun dv ps pw D w1 L1 => ?_
  by_cases hN0 : N = 0
  · exact br_t (by rw [hN0]; rfl) (h w1 (hg0.trans L1.grow))
  refine br_f (by rw [Bool.or_eq_false_iff, beq_eq_false_iff_ne]; exact ⟨rfl, by omega⟩) ?_
  have bnd : (0 : Int) ≤ (0 : Int) ∧ (0 : Int) ≤ ((16 * N : Nat) : Int) ∧ ((16 * N : Nat) : Int) ≤ (p.c : Int) ∧ p.n ≤ p.c := ⟨by decide, by omega, by omega, hcap⟩
  simp only [Int.toNat_natCast]
  have hcut : ∀ x, Grow w x → Rd x 1 ⟨cutA p.A p.c 0 1, 16 * N - 0, p.c - 0⟩ (bv (lp.take (16 * N))) := fun x hx => (hp.grow hx).cutB (l := 0) (k := 16 * N) (Nat.zero_le _) (by omega)
  have hll : (lp.take (16 * N)).length = 16 * N := by rw [List.length_take]; omega
  refine ⟨bnd, L1.write0 (by decide) (c := ⟨8, false, lba, N, 0, false, 0, false, false, 0, 0, false, 0, 0, false⟩) (.inl rfl) rfl (by show lba + N ≤ 16; omega) (hcut w1 (hg0.trans L1.grow)) hll fun w2 D2 L2 => ?_⟩
  have hX := xs_many (kind := kd) (F := lba) (N := N) (l := lp) (by omega)
  have hmk := mk_len (kind := kd) (lba := lba) (N := N) (l := lp.take (16 * N)) hll
  have hpart := setAll_read (bs := List.replicate 16 emptyB) (F := lba) (xs := mkAll kd lba (unpB false (lp.take (16 * N))) N) (by rw [hmk, List.length_replicate]; omega)
  have hfB := xs_fine hX (fine_rep kd 16) (F := lba) (by rw [List.length_replicate]; omega)
  have hpk : packB false (mkAll kd lba (unpB false (lp.take (16 * N))) N) = lp.take (16 * N) := mk_bytes (by rw [hll]; omega)
  rw [hmk] at hpart
  have hBl : (setAll (List.replicate 16 emptyB) lba (mkAll kd lba (unpB false (lp.take (16 * N))) N) N).length = 16 := by rw [setAll_len, List.length_replicate]
  have L2 : Lw w0 w2 dv ps pw s_f kd 16 true D2 (syncIf (syncs N (false || decide ((8 : Nat) = 9)) true) (layW st0 s_f lba (rsOf (mkAll kd lba (unpB false (lp.take (16 * N))) N)) N)) (setAll (List.replicate 16 emptyB) lba (mkAll kd lba (unpB false (lp.take (16 * N))) N) N) (0 + N + 1) [] [] := L2
  generalize setAll (List.replicate 16 emptyB) lba (mkAll kd lba (unpB false (lp.take (16 * N))) N) N = B at *
  generalize syncIf (syncs N (false || decide ((8 : Nat) = 9)) true) (layW st0 s_f lba (rsOf (mkAll kd lba (unpB false (lp.take (16 * N))) N)) N) = st2 at *
  generalize mkAll kd lba (unpB false (lp.take (16 * N))) N = X at *
  generalize lp.take (16 * N) = l at *
  have hXl : X.length = N := hX.1
  have hself : setAll B lba X N = B := by rw [← hpart]; exact setAll_self (by omega)
  have hXfine : ∀ prot i (hi : i < X.length), chkB kd prot (lba + i) X[i] = 0 := fun prot i hi => by
    have := fine_part (lba := lba) (k := N) hfB i (by rw [hpart]; exact hi) prot
    simpa only [hpart] using this
  have hkn : ∀ q, q ≤ 4 → knownB kd q = true := fun q hq => by unfold knownB; simp; omega
  refine L2.res fun rb w3 L3 => ⟨0, by rw [add0, Blk.cell L3.held]; rfl, br_f rfl ?_⟩
  refine ⟨fun q x => ∃ (k : Nat) (D4 : Nat → Prop) (st4 : Wst) (m4 : Nat), q = k ∧ k ≤ 5 ∧ m4 ≤ 100 + 100 * k ∧ Lw w0 x dv ps pw s_f kd 16 true D4 st4 B m4 [] [], fun q _ => 5 - q.toNat,
    ⟨0, D2, st2, 0 + N + 1, rfl, Nat.zero_le _, by omega, L3.part (fun x hx => by cases hx) (fun x hx => hx)⟩, ?_⟩
  rintro q x ⟨k, D4, st4, m4, rfl, hk, hm4, L4⟩
  refine br_nat (y := 5) (fun hlt => ?_) (fun hge => ?_)
  · refine letX0 (fun z => ∃ (D5 : Nat → Prop) (st5 : Wst) (m5 : Nat), m5 ≤ 100 + 100 * (k + 1) ∧ Lw w0 z dv ps pw s_f kd 16 true D5 st5 B m5 [] []) (fun z hz => by
      obtain ⟨D5, st5, m5, hm5, L5⟩ := hz
      rw [wu8 (by omega) (by omega)]
      exact ⟨⟨k + 1, D5, st5, m5, by omega, by omega, hm5, L5⟩, by dsimp only; omega⟩) (fun J => ?_)
    refine L4.read (by omega) (c := ⟨7, false, lba, N, 0, false, k, false, false, 0, 0, false, 0, 0, false⟩) rfl (hkn k (by omega)) (by show lba + N ≤ 16; omega) (rd_nilB _) (by decide) hfB fun d x1 L5 hdn hown => ?_
    have L5 : Lw w0 x1 dv ps pw s_f kd 16 true D4 { st4 with ops := st4.ops + N } B (m4 + N) [] [(d, packB (decide (k ≠ 0)) ((B.drop lba).take N))] := L5
    have hdn : d.n = N * szB (decide (k ≠ 0)) := hdn
    rw [hpart] at L5
    refine L5.res fun r1 x2 L6 => ⟨0, by rw [add0, Blk.cell L6.held]; rfl, br_f rfl ?_⟩
    by_cases hk0 : k = 0
    · exact br_t (by rw [hk0]; rfl) (J x2 ⟨D4, _, m4 + N, by omega, L6.part (fun x hx => by cases hx) (fun x hx => by cases hx)⟩)
    refine br_f (by rw [beq_eq_false_iff_ne]; omega) ⟨d, by rw [add0, Blk.cell L6.held]; rfl, ?_⟩
    have ew : decide (k ≠ 0) = true := by simpa using hk0
    rw [ew] at L6 hdn
    have e24 : szB true = 24 := rfl
    rw [e24] at hdn
    have hrd : Rd x2 1 d (bv (packB true X)) := (L6.row _ List.mem_cons_self).1
    have hpl : (packB true X).length = 24 * N := by rw [packB_len, hXl, e24]; omega
    refine ref_unpack_count hrd (by omega) (by omega) fun out x3 hg3 hon => ?_
    rw [hpl] at hon
    refine br_f (by rw [Bool.or_eq_false_iff]; exact ⟨rfl, by rw [bne_eq_false_iff_eq]; omega⟩) ?_
    have L7 := L6.go hg3
    refine ⟨d, by rw [add0, Blk.cell L7.held]; rfl, ?_⟩
    have hrd7 : Rd x3 1 d (bv (packB true X)) := (L7.row _ List.mem_cons_self).1
    refine L7.writeP (by omega) (c := ⟨8, false, lba, N, 0, false, k, false, false, 0, 0, false, 0, 0, false⟩) rfl hk0 (hkn k (by omega)) (by show lba + N ≤ 16; omega) hrd7 hpl (fun _ v D8 st8 L8_ => ?_) (fun i hi hz => ?_)
    · rw [show setAll B (Cm.lba ⟨8, false, lba, N, 0, false, k, false, false, 0, 0, false, 0, 0, false⟩) (unpB true (packB true X)) (Cm.blocks ⟨8, false, lba, N, 0, false, k, false, false, 0, 0, false, 0, 0, false⟩) = B from by rw [unpB_wires]; exact hself] at L8_
      refine L8_.res fun wb x4 L9 => ⟨0, by rw [add0, Blk.cell L9.held]; rfl, br_f rfl (J x4 ⟨D8, st8, m4 + N + N + 1, by omega, L9.part (fun x hx => by cases hx) (fun x hx => by cases hx)⟩)⟩
    · exfalso
      apply hz
      have hi2 : i < X.length := by rw [unpB_wires] at hi; exact hi
      have : (unpB true (packB true X))[i] = X[i] := by simp only [unpB_wires]
      rw [this]
      exact hXfine _ i hi2
  clear L1 L2 L3
  have hB4 := L4.dvs.isW.toB
  refine L4.readK (by omega) (c := ⟨7, false, lba, N, 0, false, 1, false, false, 0, 0, false, 0, 0, false⟩) rfl (hkn 1 (by decide)) (by show lba + N ≤ 16; omega) (rd_nilB _) (by decide) hfB fun d x1 hk1 hr1 L5 hdn hown => ?_
  have hB5 := hr1 _ hB4
  have L5 : Lw w0 x1 dv ps pw s_f kd 16 true D4 { st4 with ops := st4.ops + N } B (m4 + N) [] [(d, packB true ((B.drop lba).take N))] := L5
  have hown : Own x1 x.heap.size t_uint8 1 d (bv (packB true ((B.drop lba).take N))) := hown
  have hdn : d.n = N * 24 := hdn
  have hB5 : IsWB x1 pw D4 { st4 with ops := st4.ops + N } x.heap.size := hB5
  rw [hpart] at L5 hown
  have hpl : (packB true X).length = 24 * N := by rw [packB_len, hXl]; show N * 24 = _; omega
  refine new_rule fun r2 x2 hr2 hb2 hg2 hsz2 => lay_rule (st := 0) (s := sn0) (d := d) hb2 rfl fun x3 hb3 hk3 hsz3 => ?_
  have hg3 : Grow x1 x3 := hg2.keep hk3 fun i hi q => by omega
  have L6 := L5.go hg3
  have hown3 := hown.grow hg3
  refine ⟨d, by rw [add0, Blk.cell hb3]; rfl, by omega, by decide, by decide, ?_⟩
  have eI : ((AT : Int).tmod ((16 * N : Nat) : Int)) = ((AT % (16 * N) : Nat) : Int) := rfl
  rw [eI]
  have hI : AT % (16 * N) < 16 * N := Nat.mod_lt _ (by omega)
  generalize AT % (16 * N) = I at *
  have eD : IntKind.wrap .i64 ((I : Int).tdiv 16) = ((I / 16 : Nat) : Int) := by
    have : ((I : Int).tdiv 16) = ((I / 16 : Nat) : Int) := rfl
    rw [this, w64 (by omega) (by omega)]
  have eM : ((I : Int).tmod 16) = ((I % 16 : Nat) : Int) := rfl
  have eQ : IntKind.wrap .i64 ((IntKind.wrap .i64 (((I / 16 : Nat) : Int) * 24)) + ((I % 16 : Nat) : Int)) = ((24 * (I / 16) + I % 16 : Nat) : Int) := by rw [w64 (n := ((I / 16 : Nat) : Int) * 24) (by omega) (by omega), w64 (by omega) (by omega)]; omega
  rw [eD, eM, eQ]
  have hT : I / 16 < N := by omega
  have hM : I % 16 < 16 := Nat.mod_lt _ (by decide)
  generalize I / 16 = T at *
  generalize I % 16 = M at *
  have hpos : 24 * T + M < (packB true X).length := by omega
  obtain ⟨hsA, hcI⟩ := rd_at (hown3.rd (by omega)) (i := 24 * T + M) hpos
  have bI : (0 : Int) ≤ ((24 * T + M : Nat) : Int) ∧ ((24 * T + M : Nat) : Int) < (d.n : Int) ∧ d.A.isSome = true := ⟨by omega, by omega, hsA⟩
  obtain ⟨b0, hb0x, hb0d⟩ := hX.2 T hT
  have hTX : T < X.length := by omega
  have hXT : X[T] = mk1 kd (lba + T) b0 := by
    rw [List.getElem?_eq_getElem hTX] at hb0x
    exact Option.some.inj hb0x
  have hMd : M < b0.d.length := by rw [b0.hd]; exact hM
  have hbyte : (packB true X).getD (24 * T + M) 0 = b0.d[M] := by
    have h1 := pack_turn X T M 0 hTX hM
    have e1 : (packB true X)[24 * T + M]? = some b0.d[M] := by
      have : ∀ (Y : List Bk) (t : Nat) (ht : t < Y.length), (packB true Y)[24 * t + M]? = some (Y[t].d[M]'(by rw [Y[t].hd]; exact hM)) := by
        intro Y
        induction Y with
        | nil => intro t ht; simp at ht
        | cons a r ih =>
          intro t ht
          have e : packB true (a :: r) = wireB true a ++ packB true r := by simp [packB]
          have hw : (wireB true a).length = 24 := wireB_len true a
          have had := a.hd
          rw [e]
          cases t with
          | zero =>
            rw [List.getElem?_append_left (by omega)]
            show (a.d ++ tupB a)[24 * 0 + M]? = _
            rw [List.getElem?_append_left (by omega), Nat.mul_zero, Nat.zero_add, List.getElem?_eq_getElem (by omega)]; rfl
          | succ t =>
            rw [List.getElem?_append_right (by omega), hw, show 24 * (t + 1) + M - 24 = 24 * t + M by omega, ih t (by simpa using ht)]; rfl
      rw [this X T hTX]
      simp only [hXT]; rfl
    rw [List.getD_eq_getElem?_getD, e1]; rfl
  rw [hbyte] at hcI
  rw [Int.toNat_natCast]
  refine ⟨bI, (b0.d[M].toNat : Int), hcI, bI, ?_⟩
  obtain ⟨ex, hne⟩ := xor8' (a := b0.d[M].toNat) (b := BY) b0.d[M].toNat_lt hBY
  rw [ex]
  have hne := fun hz => hne hz b0.d[M] rfl
  have hsame : BY = 0 → UInt8.ofNat (b0.d[M].toNat ^^^ BY) = b0.d[M] := by rintro rfl; rw [Nat.xor_zero]; exact UInt8.ofNat_toNat
  generalize UInt8.ofNat (b0.d[M].toNat ^^^ BY) = y at *
  refine own_put (i := 24 * T + M) hown3 (by omega) rfl fun x4 hown4 hk4 _ => ?_
  rw [bv_set, pack_turn X T M y hTX hM] at hown4
  obtain ⟨db, hdb⟩ : ∃ db, d.blk = some db := by
    cases hA : d.A with
    | none => rw [hA] at hsA; cases hsA
    | some a => exact ⟨a.block, by simp [Sl.blk, hA]⟩
  obtain ⟨cur, hcur⟩ := own_heap hown3 hdb
  have hge := (hown3.ge db hdb).1
  have sx := L4.grow.size
  have L7 := L6.put_row (hB5.grow hg3) (by omega) hdb hcur hge (fun q => by have := L4.dvs.isW.lt q; omega) (fun x hx => by cases hx) hk4
  have hkn1 := hkn 1 (by decide)
  have hYl : (X.set T (turnD X[T] M y)).length = N := by rw [List.length_set]; exact hXl
  have hpl2 : (packB true (X.set T (turnD X[T] M y))).length = 24 * N := by rw [packB_len, hYl]; show N * 24 = _; omega
  have hchk : ∀ i (hi : i < (X.set T (turnD X[T] M y)).length), i ≠ T → chkB kd 1 (lba + i) (X.set T (turnD X[T] M y))[i] = 0 := fun i hi hne => by
    have hi2 : i < X.length := by rw [List.length_set] at hi; exact hi
    have : (X.set T (turnD X[T] M y))[i] = X[i] := List.getElem_set_ne (fun q => hne q.symm) hi
    rw [this]; exact hXfine 1 i hi2
  have hg40 := hg0.trans L7.grow
  refine L7.writeP (by omega) (c := ⟨8, false, lba, N, 0, false, 1, false, false, 0, 0, false, 0, 0, false⟩) rfl (show (1 : Nat) ≠ 0 by decide) hkn1 (by show lba + N ≤ 16; omega) (hown4.rd (by omega)) hpl2 (fun hall x5 D5 st5 L8_ => ?_) (fun i hi hz x5 L8_ => ?_)
  · -- nothing was turned
    have hz : BY = 0 := by
      by_cases hz : BY = 0
      · exact hz
      exfalso
      have hi2 : T < (unpB true (packB true (X.set T (turnD X[T] M y)))).length := by rw [unpB_wires, hYl]; exact hT
      have := hall T hi2
      have e : (unpB true (packB true (X.set T (turnD X[T] M y))))[T] = turnD (mk1 kd (lba + T) b0) M y := by
        simp only [unpB_wires, List.getElem_set_self]
        rw [hXT]
      rw [e] at this
      have hc := chk_turn (kind := kd) (prot := 1) (F := lba + T) (b := b0) (i := M) (y := y) hkd rfl hMd (hne hz)
      have hthis : chkB kd 1 (lba + T) (turnD (mk1 kd (lba + T) b0) M y) = 0 := this
      rw [hc] at hthis
      cases hthis
    have L8_ : Lw w0 x5 dv ps pw s_f kd 16 true D5 st5 (setAll B lba (unpB true (packB true (X.set T (turnD X[T] M y)))) N) (m4 + N + N + 1) [] [] := L8_
    have hXX : X.set T (turnD X[T] M y) = X := by
      have e : turnD X[T] M y = X[T] := by
        rw [hXT, hsame hz]
        show (⟨(mk1 kd (lba + T) b0).d.set M b0.d[M], _, _, _, _, _, _, _⟩ : Bk) = mk1 kd (lba + T) b0
        have : (mk1 kd (lba + T) b0).d.set M b0.d[M] = (mk1 kd (lba + T) b0).d := List.set_getElem_self hMd
        simp only [this]
      rw [e, List.set_getElem_self]
    rw [hXX, unpB_wires, hself] at L8_
    refine L8_.res fun wb x6 L9 => ?_
    refine L9.read (by omega) (c := ⟨7, false, lba, N, 0, false, 0, false, false, 0, 0, false, 0, 0, false⟩) rfl (hkn 0 (by decide)) (by show lba + N ≤ 16; omega) (rd_nilB _) (by decide) hfB fun e x7 L10 hen howne => ?_
    refine L10.res fun sb x8 L11 => ?_
    refine br_t (by rw [hz]; rfl) ⟨0, by rw [add0, Blk.cell (L11.loc _ (List.mem_cons_of_mem _ List.mem_cons_self)).1]; rfl, ?_⟩
    exact h x8 (hg0.trans L11.grow)
  · have hiY : i < (X.set T (turnD X[T] M y)).length := by rw [unpB_wires] at hi; exact hi
    have e : (unpB true (packB true (X.set T (turnD X[T] M y))))[i] = (X.set T (turnD X[T] M y))[i] := by simp only [unpB_wires]
    rw [e] at hz ⊢
    have hiT : i = T := by
      by_cases q : i = T
      · exact q
      · exact absurd (hchk i hiY q) hz
    subst hiT
    have e2 : (X.set i (turnD X[i] M y))[i] = turnD (mk1 kd (lba + i) b0) M y := by rw [List.getElem_set_self, hXT]
    rw [e2] at hz ⊢
    have hzne : BY ≠ 0 := by
      intro q
      apply hz
      have e3 : turnD (mk1 kd (lba + i) b0) M y = X[i] := by
        rw [hXT, hsame q]
        show (⟨(mk1 kd (lba + i) b0).d.set M b0.d[M], _, _, _, _, _, _, _⟩ : Bk) = mk1 kd (lba + i) b0
        have : (mk1 kd (lba + i) b0).d.set M b0.d[M] = (mk1 kd (lba + i) b0).d := List.set_getElem_self hMd
        simp only [this]
      rw [e3]
      exact hXfine 1 i hTX
    have hc : chkB kd 1 (lba + i) (turnD (mk1 kd (lba + i) b0) M y) = 0x1001 := chk_turn hkd rfl hMd (hne hzne)
    rw [show chkB kd (Cm.prot ⟨8, false, lba, N, 0, false, 1, false, false, 0, 0, false, 0, 0, false⟩) (Cm.lba ⟨8, false, lba, N, 0, false, 1, false, false, 0, 0, false, 0, 0, false⟩ + i) (turnD (mk1 kd (lba + i) b0) M y) = 0x1001 from hc]
    show New _ _ _
    refine L8_.res fun wb x6 L9 => ?_
    refine L9.read (by omega) (c := ⟨7, false, lba, N, 0, false, 0, false, false, 0, 0, false, 0, 0, false⟩) rfl (hkn 0 (by decide)) (by show lba + N ≤ 16; omega) (rd_nilB _) (by decide) hfB fun e x7 L10 hen howne => ?_
    have L10 : Lw w0 x7 dv ps pw s_f kd 16 true D4 { st4 with ops := st4.ops + N + N } B (m4 + N + N) [(wb, rsv 2 (atS 11 0x1001 (lba + i)) nilS, t_api_Result)] [(e, packB false ((B.drop lba).take N))] := L10
    rw [hpart, hpk] at L10
    refine L10.res fun sb x8 L11 => ?_
    refine br_f (by rw [beq_eq_false_iff_ne]; omega) ?_
    rintro x9 rfl
    have hg9 : Grow x8 x8.drew := keep_drew x8
    have hwb := (L11.loc _ (List.mem_cons_of_mem _ List.mem_cons_self)).1
    have hsb := L11.held
    have hrow : Rd x8 1 e (bv l) := (L11.row _ List.mem_cons_self).1
    have hg8 := hg0.trans L11.grow
    refine ⟨fun z => Grow x8 z, hg9, (rsv 2 (atS 11 0x1001 (lba + i)) nilS).toArray, fun z hz => rLoad (blk_cells (hz.heap hwb (fun q => q))), by decide, ?_⟩
    have eS : IntKind.wrap .u64 ((lba : Int) + IntKind.wrap .u64 ((i : Nat) : Int)) = ((lba + i : Nat) : Int) := by rw [wu64 (n := (i : Int)) (by omega) (by omega), wu64 (by omega) (by omega)]; omega
    rw [eS]
    refine at14_spec (key := 11) (code := 4097) (info := lba + i) fun z1 hz1 => ⟨hg9.trans hz1, ?_⟩
    refine same14_spec (d1 := nilS) (d2 := nilS) (l := []) (rd_nilB _) (rd_nilB _) fun z2 hz2 => ?_
    have hgz := (hg9.trans hz1).trans hz2
    refine ⟨hgz, fun z => Grow x8 z, hgz, fun _ q => q, e, fun _ z hz => by rw [add0, Blk.cell (hz.heap hsb (fun q => q))]; rfl, fun z => Grow x8 z, hgz, fun _ q => q, str l, fun _ z hz => convStr_rule u_sl_uint8 u_uint8 u_string (hrow.grow hz), fun _ => bnd, fun z => Grow x8 z, hgz, fun _ q => q, str l,
      fun _ z hz => convStr_rule (s := ⟨cutA p.A p.c 0 1, 16 * N - 0, p.c - 0⟩) u_sl_uint8 u_uint8 u_string (hcut z (hg8.trans hz)), ?_⟩
    have := h z2 (hg8.trans hgz)
    simpa [sEq_str] using this
theorem sbcProtects_row {p : Sl} {lp : L8} {x y z t : Int} {w : World} {R : Bool → World → Prop} (hp : Rd w 1 p (bv lp)) (hpb : p.n ≤ 140737488351232) (hx : (Lit.int .u8 x).wf = true) (hy : (Lit.int .u8 y).wf = true) (hz : (Lit.int .u8 z).wf = true) (ht : (Lit.int .u8 t).wf = true) (h : ∀ w', Grow w w' → R true w') :
    Cpalletlaw14_SbcProtects p x y z t w R := by
  obtain ⟨A, rfl, hA⟩ := int_u8 hx
  obtain ⟨B, rfl, hB⟩ := int_u8 hy
  obtain ⟨C, rfl, hC⟩ := int_u8 hz
  obtain ⟨D, rfl, hD⟩ := int_u8 ht
  exact sbcProtects_spec hp hpb hA hB hC hD h
end Go.Proofs.Ytaneeadpjelomaa
