import Derived.Test.YtaneeadpjelomaaDb9
import Derived.Test.YtaneeadpjelomaaDb8
/- Layer 14: the law of COMPARE AND WRITE. -/
namespace Go.Proofs.Ytaneeadpjelomaa
open Go CF

section
variable {w u u' v v' : World} {dv ps pw : Nat} {file : ByteArray} {kind n : Nat} {cache : Bool} {D D' : Nat → Prop} {st st' : Wst} {bs bs' : List Bk} {m m' : Nat} {ls : List (Nat × List Value × TypeId)} {rows : List (Sl × L8)}
theorem Lw.compare (L : Lw w u dv ps pw file kind n cache D st bs m ls rows) (hm : m ≤ 900000) {c : Cm} {p : Sl} {l : L8} {K : Array Value → World → Prop} (hk : c.kind = 14) (hp0 : c.prot = 0) (hc : c.lba + c.blocks ≤ n) (hp : Rd u 1 p (bv l)) (hl : l.length = 2 * (16 * c.blocks)) (hf : Fine kind bs)
    (h : ∀ s sn v D' st' B', Lw w v dv ps pw file kind n cache D' st' B' (m + c.blocks + c.blocks + 1) ls rows →
      ((s = 0 ∧ sn = sn0 ∧ firstNe (packB false ((bs.drop c.lba).take c.blocks)) (l.take (16 * c.blocks)) = none ∧ B' = setAll bs c.lba (mkAll kind c.lba (unpB false (l.drop (16 * c.blocks))) c.blocks) c.blocks) ∨
        ∃ i, s = 2 ∧ sn = atS 14 0x1d00 i ∧ firstNe (packB false ((bs.drop c.lba).take c.blocks)) (l.take (16 * c.blocks)) = some i ∧ B' = bs) → K (rsv s sn nilS).toArray v) :
    Csbc_Dev_Do (some ⟨dv, 0, none⟩) (cmv c).toArray p u K := by
  have hsz := L.dvs.size
  have hkd := L.dvs.kd
  have hln := rd_n' hp
  have hkn : knownB kind c.prot = true := by unfold knownB; rw [hp0]; simp [hkd]
  have e0 : decide (c.prot ≠ 0) = false := by simpa using hp0
  have e16 : szB false = 16 := rfl
  refine do_spec L.dvs (by omega) hp (by omega) (by omega) (by omega) (fun q => by rw [hkn] at q; cases q) (fun _ _ _ q => by omega) (fun _ q => by omega) (fun _ q => by omega) (fun _ q => by omega) (fun _ q => by omega) (fun _ q => by omega) (fun _ q => by omega)
    (fun _ _ ab y hy hab hby => ⟨fun q => by omega, fun q => by omega, fun q => by omega, fun _ => ?_, fun q => by omega⟩) (fun _ _ _ _ _ _ _ _ a _ => by omega)
  have hun : packB false (unpB (decide (c.prot ≠ 0)) (l.take (16 * c.blocks))) = l.take (16 * c.blocks) := by rw [e0]; exact unpB_bytes (by rw [List.length_take]; omega)
  refine dev_compare_spec (H := 16 * c.blocks) (L.dvs.grow hy) hm (hp.grow hy) (by omega) hc (by rw [e0, e16]) (fun q => absurd hl q) (fun q => absurd ⟨hp0, fun i hi => fine_part hf i hi c.prot⟩ q) (fun _ i hi z hz hw => ⟨hz, 2, _, nilS, rfl, fun v' hv' => ?_⟩) (fun _ hno z D2 hz hd hD2 => ⟨hz, 0, sn0, nilS, rfl, fun v' hv' => ?_⟩)
  · rw [hun] at hi
    refine h 2 _ v' D _ bs (L.fin hy hby hab hz (((L.dvs.grow hy).ops hz hw).mono (by omega)) (fun _ q => .inl q) hv') (.inr ⟨i, rfl, rfl, hi, rfl⟩)
  · rw [hun] at hno
    have hcame : cameB kind c (l.drop (16 * c.blocks)) c.blocks = mkAll kind c.lba (unpB false (l.drop (16 * c.blocks))) c.blocks := by unfold cameB; rw [if_pos hp0]
    rw [hcame] at hd
    exact h 0 _ v' D2 _ _ (L.fin hy hby hab hz hd hD2 hv') (.inl ⟨rfl, rfl, hno, rfl⟩)
end
theorem sbcCompares_spec {th td fr : Sl} {lt ld lf : L8} {AT CN : Nat} {w : World} {R : Bool → World → Prop} (ht : Rd w 1 th (bv lt)) (hd : Rd w 1 td (bv ld)) (hf : Rd w 1 fr (bv lf)) (hAT : AT < 256) (hCN : CN < 256) (h : ∀ w', Grow w w' → R true w') :
    Cpalletlaw14_SbcCompares th td fr (AT : Int) (CN : Int) w R := by
  refine Fpalletlaw14_SbcCompares.calls _ _ _ _ _ _ _ ?_
  unfold Fpalletlaw14_SbcCompares
  have hlt := rd_n' ht
  have hld := rd_n' hd
  have hlf := rd_n' hf
  have hct := ht.cap
  have hcd := hd.cap
  have hcf := hf.cap
  have eN : IntKind.wrap .i64 (1 + ((IntKind.wrap .i64 (CN : Int)).tmod 4)) = ((1 + CN % 4 : Nat) : Int) := by
    rw [w64 (n := (CN : Int)) (by omega) (by omega)]
    have : ((CN : Int).tmod 4) = ((CN % 4 : Nat) : Int) := rfl
    rw [this, w64 (by omega) (by omega)]; omega
  rw [eN]
  have hN4 : 1 ≤ 1 + CN % 4 ∧ 1 + CN % 4 ≤ 4 := by omega
  generalize 1 + CN % 4 = N at *
  have e16 : IntKind.wrap .i64 (16 * (N : Int)) = ((16 * N : Nat) : Int) := by rw [w64 (by omega) (by omega)]; omega
  have e17 : IntKind.wrap .i64 (17 - (N : Int)) = ((17 - N : Nat) : Int) := by rw [w64 (by omega) (by omega)]; omega
  have eL : IntKind.wrap .u64 ((IntKind.wrap .i64 (AT : Int)).tmod ((17 - N : Nat) : Int)) = ((AT % (17 - N) : Nat) : Int) := by
    rw [w64 (n := (AT : Int)) (by omega) (by omega)]
    have : ((AT : Int).tmod ((17 - N : Nat) : Int)) = ((AT % (17 - N) : Nat) : Int) := rfl
    rw [this]
    have := Nat.mod_le AT (17 - N)
    exact wu64 (by omega) (by omega)
  have eB : IntKind.wrap .u64 (N : Int) = (N : Int) := wu64 (by omega) (by omega)
  rw [e16, e17, eL, eB]
  have hlb : AT % (17 - N) < 17 - N := Nat.mod_lt _ (by omega)
  generalize AT % (17 - N) = lba at *
  refine awake14_spec fun w0 hg0 => br_f rfl ⟨by decide, by omega, ?_⟩
  by_cases hsh : th.n < 16 * N ∨ td.n < 16 * N ∨ fr.n < 16 * N
  · exact br_t (by rw [Bool.or_eq_true, Bool.or_eq_true, decide_eq_true_eq, decide_eq_true_eq, decide_eq_true_eq]; omega) (h w0 hg0)
  refine br_f (by rw [Bool.or_eq_false_iff, Bool.or_eq_false_iff, decide_eq_false_iff_not, decide_eq_false_iff_not, decide_eq_false_iff_not]; omega) ?_
  refine device_spec (n := 16) (kind := 1) (cache := true) (by decide) (by decide) fun dv ps pw D w1 L1 => br_f rfl ?_
  simp only [Int.toNat_natCast]
  have cutR : ∀ {s : Sl} {l : L8}, Rd w 1 s (bv l) → 16 * N ≤ s.n → ∀ x, Grow w x → Rd x 1 ⟨cutA s.A s.c 0 1, 16 * N - 0, s.c - 0⟩ (bv (l.take (16 * N))) := fun hs hle x hx => (hs.grow hx).cutB (l := 0) (k := 16 * N) (Nat.zero_le _) hle
  have cutT := cutR ht (by omega)
  have cutD := cutR hd (by omega)
  have cutF := cutR hf (by omega)
  have bnd : ∀ {s : Sl}, 16 * N ≤ s.n → s.n ≤ s.c → (0 : Int) ≤ (0 : Int) ∧ (0 : Int) ≤ ((16 * N : Nat) : Int) ∧ ((16 * N : Nat) : Int) ≤ (s.c : Int) ∧ s.n ≤ s.c := fun a b => ⟨by decide, by omega, by omega, b⟩
  have lT : (lt.take (16 * N)).length = 16 * N := by rw [List.length_take]; omega
  have lO : (ld.take (16 * N)).length = 16 * N := by rw [List.length_take]; omega
  have lF : (lf.take (16 * N)).length = 16 * N := by rw [List.length_take]; omega
  have gT : ∀ i, i < 16 * N → (lt.take (16 * N)).getD i 0 = lt.getD i 0 := fun i hi => by rw [List.getD_eq_getElem?_getD, List.getD_eq_getElem?_getD, List.getElem?_take, if_pos hi]
  have gO : ∀ i, i < 16 * N → (ld.take (16 * N)).getD i 0 = ld.getD i 0 := fun i hi => by rw [List.getD_eq_getElem?_getD, List.getD_eq_getElem?_getD, List.getElem?_take, if_pos hi]
  generalize lt.take (16 * N) = T at *
  generalize ld.take (16 * N) = O at *
  generalize lf.take (16 * N) = F at *
  refine ⟨bnd (by omega) hct, L1.write0 (by decide) (c := ⟨8, false, lba, N, 0, false, 0, false, false, 0, 0, false, 0, 0, false⟩) (.inl rfl) rfl (by show lba + N ≤ 16; omega) (cutT w1 (hg0.trans L1.grow)) lT fun w2 D2 L2 => ?_⟩
  have mkOk : ∀ {X : L8} {B : List Bk}, X.length = 16 * N → B.length = 16 → Fine 1 B → Fine 1 (setAll B lba (mkAll 1 lba (unpB false X) N) N) ∧ packB false (((setAll B lba (mkAll 1 lba (unpB false X) N) N).drop lba).take N) = X ∧ (setAll B lba (mkAll 1 lba (unpB false X) N) N).length = 16 := by
    intro X B hX hB hfB
    have hmk := mk_len (kind := 1) (lba := lba) (N := N) (l := X) hX
    refine ⟨?_, ?_, by rw [setAll_len]; exact hB⟩
    · have := fine_set hfB (F := lba) (xs := mkAll 1 lba (unpB false X) N) (by rw [hmk, hB]; omega) (fine_mk (by rw [unpB_len, hX]; show 16 * N / 16 = N; omega))
      rwa [hmk] at this
    · have hpart := setAll_read (bs := B) (F := lba) (xs := mkAll 1 lba (unpB false X) N) (by rw [hmk, hB]; omega)
      rw [hmk] at hpart
      rw [hpart]; exact mk_bytes (by rw [hX]; omega)
  obtain ⟨hf1, hp1, hlen1⟩ := mkOk lT (List.length_replicate (n := 16) (a := emptyB)) (fine_rep 1 16)
  have L2 : Lw w0 w2 dv ps pw s_f 1 16 true D2 (syncIf (syncs N (false || decide ((8 : Nat) = 9)) true) (layW st0 s_f lba (rsOf (mkAll 1 lba (unpB false T) N)) N)) (setAll (List.replicate 16 emptyB) lba (mkAll 1 lba (unpB false T) N) N) (0 + N + 1) [] [] := L2
  generalize setAll (List.replicate 16 emptyB) lba (mkAll 1 lba (unpB false T) N) N = B1 at *
  refine L2.res fun ab w3 L3 => ⟨bnd (by omega) hcd, ?_⟩
  have hg3 := hg0.trans L3.grow
  refine append_rule (s := ⟨none, 0, 0⟩) (vs := []) (base := w3.heap.size) u_sl_uint8 i_uint8 rfl (by decide) (by decide) (own_nil _ _ _ _) (cutD w3 hg3) (bv_one' _) (by show (0 + (16 * N - 0)) * 1 ≤ _; omega) (Nat.le_refl _) fun x4 w4 hn4 hown4 hk4 _ => ⟨bnd (by omega) hcf, ?_⟩
  rw [List.nil_append] at hown4
  have hg4 : Grow w3 w4 := hk4.mono fun i hi q => by cases q
  have hn4 : x4.n = 0 + (16 * N - 0) := hn4
  refine append_rule u_sl_uint8 i_uint8 rfl (by decide) (by decide) hown4 (cutF w4 (hg3.trans hg4)) (bv_one' _) (by show (x4.n + (16 * N - 0)) * 1 ≤ _; omega) hg4.size fun x5 w5 hn5 hown5 hk5 _ => ?_
  rw [← bv_append] at hown5
  have hg5 := own_grow' hg4 hown4 (Nat.le_refl _) hk5
  have hn5 : x5.n = x4.n + (16 * N - 0) := hn5
  have L5 := L3.go hg5
  have hOF : (O ++ F).length = 2 * (16 * N) := by rw [List.length_append]; omega
  have hO : (O ++ F).take (16 * N) = O := by rw [List.take_append_of_le_length (by omega), List.take_of_length_le (by omega)]
  have hF : (O ++ F).drop (16 * N) = F := by rw [← lO, List.drop_left]
  refine L5.compare (by show 0 + N + 1 ≤ _; omega) (c := ⟨14, false, lba, N, 0, false, 0, false, false, 0, 0, false, 0, 0, false⟩) rfl rfl (by show lba + N ≤ 16; omega) (hown5.rd (by omega)) hOF hf1 fun s sn w6 D6 st6 B6 L6 hcase => ?_
  simp only [hp1, hO, hF] at hcase
  have hB6 : Fine 1 B6 ∧ packB false ((B6.drop lba).take N) = (if s = 0 then F else T) := by
    rcases hcase with ⟨rfl, _, _, rfl⟩ | ⟨i, rfl, _, _, rfl⟩
    · obtain ⟨a, b, _⟩ := mkOk lF hlen1 hf1
      exact ⟨a, b⟩
    · exact ⟨hf1, hp1⟩
  have L6 : Lw w0 w6 dv ps pw s_f 1 16 true D6 st6 B6 (0 + N + 1 + N + N + 1) [(ab, rsv 0 sn0 nilS, t_api_Result)] [] := L6
  refine L6.res fun bb w7 L7 => ?_
  refine L7.read (by omega) (c := ⟨7, false, lba, N, 0, false, 0, false, false, 0, 0, false, 0, 0, false⟩) rfl rfl (by show lba + N ≤ 16; omega) (rd_nilB _) (by decide) hB6.1 fun d w8 L8 hdn hown8 => ?_
  refine L8.res fun cb w9 L9 => ?_
  have hrow := (L9.row _ List.mem_cons_self).1
  have hrow : Rd w9 1 d (bv (packB false ((B6.drop lba).take N))) := hrow
  rw [hB6.2] at hrow
  have hc9 := L9.held
  have hb9 := (L9.loc _ (List.mem_cons_of_mem _ List.mem_cons_self)).1
  have ha9 := (L9.loc _ (List.mem_cons_of_mem _ (List.mem_cons_of_mem _ List.mem_cons_self))).1
  have hg9 := hg0.trans L9.grow
  have e1 : IntKind.wrap .i64 (((16 * N : Nat) : Int) - 1) = ((16 * N : Nat) : Int) - 1 := w64 (by omega) (by omega)
  rw [e1]
  refine ⟨fun first i x => ∃ j : Nat, i = (j : Int) - 1 ∧ j ≤ 16 * N ∧ Grow w9 x ∧ ((first = -1 ∧ ∀ k, j ≤ k → k < 16 * N → T.getD k 0 = O.getD k 0) ∨ ∃ f : Nat, first = f ∧ j ≤ f ∧ f < 16 * N ∧ T.getD f 0 ≠ O.getD f 0 ∧ ∀ k, j ≤ k → k < f → T.getD k 0 = O.getD k 0), fun _ i _ => (i + 1).toNat,
    ⟨16 * N, rfl, Nat.le_refl _, Keep.refl _ _, .inl ⟨rfl, fun k a b => by omega⟩⟩, ?_⟩
  rintro first i x ⟨j, rfl, hj, hgx, hfirst⟩
  by_cases hj0 : j = 0
  case neg =>
    refine br_t (by rw [decide_eq_true_eq]; omega) ?_
    obtain ⟨q, rfl⟩ : ∃ q, j = q + 1 := ⟨j - 1, by omega⟩
    have ei : ((q + 1 : Nat) : Int) - 1 = (q : Int) := by omega
    rw [ei]
    refine letX1 (fun (first1 : Int) y => Grow w9 y ∧ ((first1 = -1 ∧ ∀ k, q ≤ k → k < 16 * N → T.getD k 0 = O.getD k 0) ∨ ∃ f : Nat, first1 = f ∧ q ≤ f ∧ f < 16 * N ∧ T.getD f 0 ≠ O.getD f 0 ∧ ∀ k, q ≤ k → k < f → T.getD k 0 = O.getD k 0))
      (fun f1 y hy => by
        rw [w64 (by omega) (by omega)]
        exact ⟨⟨q, rfl, by omega, hy.1, hy.2⟩, by dsimp only; omega⟩) (fun J => ?_)
    rintro y rfl
    have hgy : Grow w9 x.drew := hgx.trans (keep_drew x)
    obtain ⟨aT, cT⟩ := rd_at (ht.grow hg9) (i := q) (by omega)
    obtain ⟨aD, cD⟩ := rd_at (hd.grow hg9) (i := q) (by omega)
    refine ⟨fun z => Grow w9 z, hgy, ⟨by omega, by omega, aT⟩, ((T.getD q 0).toNat : Int), fun z hz => by rw [Int.toNat_natCast, gT q (by omega)]; exact hz.cell cT (fun e => e), ⟨by omega, by omega, aD⟩, ((O.getD q 0).toNat : Int), fun z hz => by rw [Int.toNat_natCast, gO q (by omega)]; exact hz.cell cD (fun e => e), ?_⟩
    refine br_ne (fun e => J _ _ ⟨hgy, .inr ⟨q, rfl, Nat.le_refl _, by omega, fun e2 => e (by rw [e2]), fun k a b => by omega⟩⟩) (fun e => J _ _ ⟨hgy, ?_⟩)
    have eq : T.getD q 0 = O.getD q 0 := UInt8.toNat_inj.1 (by omega)
    rcases hfirst with ⟨h1, h2⟩ | ⟨f, h1, h2, h3, h4, h5⟩
    · exact .inl ⟨h1, fun k a b => by
        by_cases e : k = q
        · rw [e]; exact eq
        · exact h2 k (by omega) b⟩
    · exact .inr ⟨f, h1, by omega, h3, h4, fun k a b => by
        by_cases e : k = q
        · rw [e]; exact eq
        · exact h5 k (by omega) b⟩
  subst hj0
  refine br_f (by rw [decide_eq_false_iff_not]; omega) ?_
  have ha := hgx.heap ha9 (fun q => q)
  have hb := hgx.heap hb9 (fun q => q)
  have hc := hgx.heap hc9 (fun q => q)
  refine ⟨0, by rw [add0, Blk.cell ha]; rfl, 0, fun _ => by rw [add0, Blk.cell hc]; rfl, br_f rfl ?_⟩
  have hgwx := hg9.trans hgx
  rcases hfirst with ⟨rfl, hall⟩ | ⟨f, rfl, _, hfN, hne, hall⟩
  · have hno : firstNe T O = none := firstNe_none fun k hk => hall k (Nat.zero_le _) (by omega)
    rw [hno] at hcase
    rcases hcase with ⟨rfl, rfl, _, _⟩ | ⟨i, _, _, q, _⟩
    · refine br_t rfl ?_
      rintro y rfl
      have hgy : Grow w9 x.drew := hgx.trans (keep_drew x)
      refine ⟨fun z => Grow w9 z, hgy, 0, fun z hz => by rw [add0, Blk.cell (hz.heap hb9 (fun q => q))]; rfl, d, fun _ z hz => by rw [add0, Blk.cell (hz.heap hc9 (fun q => q))]; rfl, str F, fun _ z hz => convStr_rule u_sl_uint8 u_uint8 u_string (hrow.grow hz), fun _ => bnd (by omega) hcf, str F,
        fun _ z hz => convStr_rule (s := ⟨cutA fr.A fr.c 0 1, 16 * N - 0, fr.c - 0⟩) u_sl_uint8 u_uint8 u_string (cutF z (hg9.trans hz)), ?_⟩
      have := h x.drew (hg9.trans hgy)
      simpa [sEq_str] using this
    · cases q
  · have hso : firstNe T O = some f := firstNe_some (by omega) (fun k hk => hall k (Nat.zero_le _) hk) hne
    rw [hso] at hcase
    rcases hcase with ⟨_, _, q, _⟩ | ⟨i, rfl, rfl, q, _⟩
    · cases q
    · obtain rfl := Option.some.inj q
      refine br_f (by rw [decide_eq_false_iff_not]; omega) ?_
      rintro y rfl
      have hgy : Grow w9 x.drew := hgx.trans (keep_drew x)
      refine ⟨fun z => Grow w9 z, hgy, (rsv 2 (atS 14 0x1d00 f) nilS).toArray, fun z hz => rLoad (blk_cells (hz.heap hb9 (fun q => q))), ?_⟩
      rw [wu64 (by omega) (by omega)]
      refine at14_spec (key := 14) (code := 7424) (info := f) fun y2 hg2 => ⟨hgy.trans hg2, ?_⟩
      refine same14_spec (d1 := nilS) (d2 := nilS) (l := []) (rd_nilB _) (rd_nilB _) fun y3 hg3' => ⟨(hgy.trans hg2).trans hg3', ?_⟩
      have hgz := (hgy.trans hg2).trans hg3'
      refine ⟨fun z => Grow w9 z, hgz, fun _ q => q, d, fun _ z hz => by rw [add0, Blk.cell (hz.heap hc9 (fun q => q))]; rfl, fun z => Grow w9 z, hgz, fun _ q => q, str T, fun _ z hz => convStr_rule u_sl_uint8 u_uint8 u_string (hrow.grow hz), fun _ => bnd (by omega) hct, fun z => Grow w9 z, hgz, fun _ q => q, str T,
        fun _ z hz => convStr_rule (s := ⟨cutA th.A th.c 0 1, 16 * N - 0, th.c - 0⟩) u_sl_uint8 u_uint8 u_string (cutT z (hg9.trans hz)), ?_⟩
      have := h y3 (hg9.trans hgz)
      simpa [sEq_str] using this
theorem sbcCompares_row {th td fr : Sl} {lt ld lf : L8} {x y : Int} {w : World} {R : Bool → World → Prop} (ht : Rd w 1 th (bv lt)) (hd : Rd w 1 td (bv ld)) (hf : Rd w 1 fr (bv lf)) (hx : (Lit.int .u8 x).wf = true) (hy : (Lit.int .u8 y).wf = true) (h : ∀ w', Grow w w' → R true w') :
    Cpalletlaw14_SbcCompares th td fr x y w R := by
  obtain ⟨A, rfl, hA⟩ := int_u8 hx
  obtain ⟨B, rfl, hB⟩ := int_u8 hy
  exact sbcCompares_spec ht hd hf hA hB h
end Go.Proofs.Ytaneeadpjelomaa
