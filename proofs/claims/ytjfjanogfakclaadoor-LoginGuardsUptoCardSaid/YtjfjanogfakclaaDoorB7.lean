import Derived.Test.YtjfjanogfakclaaDoorB6
/- Layer 20: no login is done without the right answer. -/
namespace Go.Proofs.YtjfjanogfakclaaDoor
open Go CF

def toldIn (ks : List Pr) : Bool := ks.any fun k => decide (k.1 = kCA)
def rightIn (us : List Pr) (id : Nat) (chal : L8) (ks : List Pr) : Bool := ks.any fun k => decide (k.1 = kCR) && us.any fun u => rightX id u.2 chal k.2
structure GInv (s : LgS) (T R : Bool) : Prop where
  a : s.asked = true → T = true
  p : s.proved = true → R = true ∧ T = true
  d : s.done = true → R = true ∧ T = true
theorem GInv.of {s t : LgS} {T R : Bool} (h : GInv s T R) (h1 : t.asked = s.asked) (h2 : t.proved = s.proved) (h3 : t.done = s.done) : GInv t T R := ⟨fun q => h.a (h1 ▸ q), fun q => h.p (h2 ▸ q), fun q => h.d (h3 ▸ q)⟩
theorem GInv.mono {s : LgS} {T R T' R' : Bool} (h : GInv s T R) (hT : T = true → T' = true) (hR : R = true → R' = true) : GInv s T' R' := ⟨fun q => hT (h.a q), fun q => ⟨hR (h.p q).1, hT (h.p q).2⟩, fun q => ⟨hR (h.d q).1, hT (h.d q).2⟩⟩
theorem ruleX_flags (s : LgS) (k : Pr) : (ruleX s k).1.asked = s.asked ∧ (ruleX s k).1.proved = s.proved ∧ (ruleX s k).1.done = s.done := by
  unfold ruleX
  repeat' (first | exact ⟨rfl, rfl, rfl⟩ | split)
theorem keyX_ginv {s : LgS} {k : Pr} {all : List Pr} {T R : Bool} (h : GInv s T R) (hk : k ∈ all) (hT : toldIn all = true → T = true) (hR : rightIn s.users s.id s.chal all = true → R = true) : GInv (keyX s k all).1 T R := by
  unfold keyX
  split
  · exact h
  split
  · exact h.of rfl rfl rfl
  split
  · rename_i q
    split
    · exact h
    · refine ⟨fun _ => hT ?_, h.p, h.d⟩
      unfold toldIn
      exact List.any_eq_true.2 ⟨k, hk, by simpa using q⟩
  split
  · split
    · rename_i q
      unfold knows at q
      obtain ⟨u, hu, hq⟩ := List.any_eq_true.1 q
      rw [Bool.and_eq_true, Bool.and_eq_true] at hq
      have hr : R = true := by
        refine hR ?_
        unfold rightIn
        cases hf : find all kCR with
        | none =>
          rw [hf] at hq
          have : rightX s.id u.2 s.chal [] = false := rfl
          exact absurd hq.2 (by show rightX s.id u.2 s.chal [] ≠ true; rw [this]; dcd)
        | some v =>
          rw [hf] at hq
          unfold find at hf
          obtain ⟨p, hp, rfl⟩ := Option.map_eq_some_iff.1 hf
          have h1 := List.mem_of_find?_eq_some hp
          have h2 := List.find?_some hp
          exact List.any_eq_true.2 ⟨p, h1, by rw [Bool.and_eq_true]; exact ⟨h2, List.any_eq_true.2 ⟨u, hu, hq.2⟩⟩⟩
      exact ⟨fun e => (by cases e), fun _ => ⟨hr, h.a hq.1.2⟩, h.d⟩
    · exact h
  split
  · exact h
  · exact h.of (ruleX_flags s k).1 (ruleX_flags s k).2.1 (ruleX_flags s k).2.2
theorem keysX_ginv {all : List Pr} {T R : Bool} (hT : toldIn all = true → T = true) : ∀ (l : List Pr) (s : LgS) (out : List Pr), (∀ k ∈ l, k ∈ all) → (rightIn s.users s.id s.chal all = true → R = true) → GInv s T R → GInv (keysX all s l out).1 T R
  | [], s, out, _, _, h => h
  | k :: r, s, out, hl, hR, h => by
    have h1 := keyX_ginv h (hl k List.mem_cons_self) hT hR
    have hk := keyX_keeps s k all
    show GInv (match keyX s k all with | (s', o, true) => keysX all s' r (out ++ o) | (s', _, false) => (s', [], false)).1 T R
    rcases hx : keyX s k all with ⟨s', o, b⟩
    rw [hx] at h1 hk
    cases b with
    | true => exact keysX_ginv hT r s' (out ++ o) (fun k hk => hl k (List.mem_cons_of_mem _ hk)) (by rw [hk.2.1, hk.2.2.1, hk.2.2.2]; exact hR) h1
    | false => exact h1
theorem keysX_keeps (all : List Pr) : ∀ (l : List Pr) (s : LgS) (out : List Pr), (keysX all s l out).1.users = s.users ∧ (keysX all s l out).1.chal = s.chal ∧ (keysX all s l out).1.id = s.id
  | [], s, out => ⟨rfl, rfl, rfl⟩
  | k :: r, s, out => by
    have hk := keyX_keeps s k all
    show (match keyX s k all with | (s', o, true) => keysX all s' r (out ++ o) | (s', _, false) => (s', [], false)).1.users = s.users ∧ (match keyX s k all with | (s', o, true) => keysX all s' r (out ++ o) | (s', _, false) => (s', [], false)).1.chal = s.chal ∧ (match keyX s k all with | (s', o, true) => keysX all s' r (out ++ o) | (s', _, false) => (s', [], false)).1.id = s.id
    rcases hx : keyX s k all with ⟨s', o, b⟩
    rw [hx] at hk
    cases b with
    | true =>
      have := keysX_keeps all r s' (out ++ o)
      exact ⟨this.1.trans hk.2.1, this.2.1.trans hk.2.2.1, this.2.2.trans hk.2.2.2⟩
    | false => exact ⟨hk.2.1, hk.2.2.1, hk.2.2.2⟩
theorem goX_ginv {s : LgS} {rq : RqS} {T R : Bool} (hT : toldIn rq.keys = true → T = true) (hR : rightIn s.users s.id s.chal rq.keys = true → R = true) (h : GInv s T R) : GInv (goX s rq).1 T R ∧ (goX s rq).1.users = s.users ∧ (goX s rq).1.chal = s.chal ∧ (goX s rq).1.id = s.id := by
  unfold goX
  split
  · exact ⟨h.of rfl rfl rfl, rfl, rfl, rfl⟩
  split
  · exact ⟨h.of rfl rfl rfl, rfl, rfl, rfl⟩
  have h1 := keysX_ginv (R := R) hT rq.keys s [] (fun _ q => q) hR h
  have h2 := keysX_keeps rq.keys rq.keys s []
  rcases hx : keysX rq.keys s rq.keys [] with ⟨s', out, b⟩
  rw [hx] at h1 h2
  cases b with
  | false => exact ⟨h1.of rfl rfl rfl, h2⟩
  | true =>
    dsimp only
    split
    · rename_i q
      refine ⟨⟨h1.a, h1.p, fun _ => h1.p q.2⟩, h2⟩
    · exact ⟨h1, h2⟩
theorem stepX_ginv {s : LgS} {rq : RqS} {T R : Bool} (hT : toldIn rq.keys = true → T = true) (hR : rightIn s.users s.id s.chal rq.keys = true → R = true) (h : GInv s T R) : GInv (stepX s rq).1 T R ∧ (stepX s rq).1.users = s.users ∧ (stepX s rq).1.chal = s.chal ∧ (stepX s rq).1.id = s.id := by
  unfold stepX
  split
  · exact ⟨h, rfl, rfl, rfl⟩
  split
  · exact goX_ginv hT hR h
  dsimp only
  split
  · exact ⟨h.of rfl rfl rfl, rfl, rfl, rfl⟩
  have hf : (firstX { s with begun := true, stage := rq.stage } rq.keys).1.asked = s.asked ∧ (firstX { s with begun := true, stage := rq.stage } rq.keys).1.proved = s.proved ∧ (firstX { s with begun := true, stage := rq.stage } rq.keys).1.done = s.done ∧
      (firstX { s with begun := true, stage := rq.stage } rq.keys).1.users = s.users ∧ (firstX { s with begun := true, stage := rq.stage } rq.keys).1.chal = s.chal ∧ (firstX { s with begun := true, stage := rq.stage } rq.keys).1.id = s.id := by
    unfold firstX
    repeat' (first | exact ⟨rfl, rfl, rfl, rfl, rfl, rfl⟩ | split | dsimp only)
  obtain ⟨f1, f2, f3, f4, f5, f6⟩ := hf
  split
  · exact ⟨(h.of f1 f2 f3).of rfl rfl rfl, f4, f5, f6⟩
  · have := goX_ginv (s := (firstX { s with begun := true, stage := rq.stage } rq.keys).1) (rq := rq) hT (by rw [f4, f5, f6]; exact hR) (h.of f1 f2 f3)
    exact ⟨this.1, this.2.1.trans f4, this.2.2.1.trans f5, this.2.2.2.trans f6⟩
theorem any_succ {α : Type} (p : α → Bool) {l : List α} {j : Nat} (h : j < l.length) : (l.take (j + 1)).any p = ((l.take j).any p || p l[j]) := by
  rw [List.take_succ_eq_append_getElem h, List.any_append]
  simp
def rqf (x : RqS × Sl) : List Value := rqv x.1 x.2
theorem rqf_len (x : RqS × Sl) : (rqf x).length = 4 := rfl
structure RqOk (w : World) (x : RqS × Sl) : Prop where
  keys : Rd w 2 x.2 (pvs x.1.keys)
  st : x.1.stage < 256
  nx : x.1.next < 256
  len : ∀ k ∈ x.1.keys, k.2.length ≤ 4294967296
  few : x.1.keys.length ≤ 4294967296
set_option maxHeartbeats 2000000 in
theorem loginGuards_spec {U c S : Sl} {us : List Pr} {chal : L8} {id : Nat} {rs : List (RqS × Sl)} {w : World} {R : Bool → World → Prop} (hv : ErrV w) (htab : TabV w) (hu : Rd w 2 U (pvs us)) (hsec : ∀ u ∈ us, u.2.length ≤ 4294967296) (hun : U.n ≤ 4294967296) (hid : id < 256) (hc : Rd w 1 c (bv chal)) (hcl : chal.length ≤ 4294967296)
    (hS : Rd w 4 S (rs.flatMap rqf)) (hrs : ∀ x ∈ rs, RqOk w x) (h : ∀ w', Grow w w' → R true w') : Cpalletlaw20_LoginGuards U (id : Int) c S w R := by
  refine Fpalletlaw20_LoginGuards.calls _ _ _ _ _ _ ?_
  have hL := LbV.of hv htab
  have hcn := rd_n' hc
  have hUn : us.length = U.n := rd_pairs hu
  have hSn := rd_as rqf_len (by dcd) hS
  have hSb := hS.nb
  refine awake20_spec hL (Nat.le_refl _) fun w1 hg1 => br_f rfl ?_
  refine br_eq (fun _ => h w1 hg1) (fun hne => ?_)
  refine lit_rule (cells := #[.string s_t]) (e := t_string) (z := 1) (base := w1.heap.size) (str_lit1 _ _) rfl (by dcd) (Nat.le_refl _) fun w2 ho2 hg2 _ => ?_
  have g12 := hg1.trans hg2
  refine new_login_spec (t := ⟨some ⟨w1.heap.size, 0, none⟩, 1, 1⟩) (u := U) (c := c) (tgs := [[116]]) (users := us) (chal := chal) (sums := false) (ho2.rd (by show 1 ≤ _; dcd)) (hu.grow g12) (hc.grow g12) (by show 1 * 16 ≤ _; dcd) (by omega) hid (by omega) (fun u hu => by
    have := hsec u hu; omega) fun lb E w3 hg3 hl3 hlb hE => ?_
  have g03 := g12.trans hg3
  have s12 := g12.size
  have hlw : w.heap.size ≤ lb := by omega
  have gk : ∀ {b : World}, Keep (fun k => k = lb) w3 b → Grow w b := fun k => g03.keep k fun i hi q => by omega
  have emp : us.isEmpty = false := by
    cases us with
    | nil => simp at hUn; omega
    | cons a r => rfl
  refine ⟨fun right told i u => ∃ (k : Nat) (st : LgS), i = k ∧ k ≤ rs.length ∧ Keep (fun b => b = lb) w3 u ∧ IsL u lb E st ∧ st.users = us ∧ st.chal = chal ∧ st.id = id ∧ GInv st told right, fun _ _ i _ => rs.length - i.toNat,
    ⟨0, _, rfl, Nat.zero_le _, Keep.refl _ _, hl3, rfl, rfl, rfl, ⟨fun q => (by cases q), fun q => (by have q : us.isEmpty = true := q; rw [emp] at q; cases q), fun q => (by cases q)⟩⟩, ?_⟩
  rintro right told i u ⟨k, st, rfl, hk, hku, hlu, u1, u2, u3, hG⟩
  by_cases hlt : k < rs.length ∧ k < 30
  · refine br_t (by rw [Bool.and_eq_true, decide_eq_true_eq, decide_eq_true_eq]; omega) ?_
    have hkl := hlt.1
    have hx := hrs _ (List.getElem_mem hkl)
    have hcell : ∀ {o : World}, Grow w o → S.A.isSome = true ∧ Cells o ((gA S.A).add (k * 4)) (rqf rs[k]) := fun g => rd_str rqf_len (by dcd) (hS.grow g) hkl
    generalize rs[k] = x at *
    have hxn : x.1.keys.length = x.2.n := rd_pairs hx.keys
    have hfew := hx.few
    have gu := gk hku
    refine ⟨fun r1 t1 j o => ∃ t : Nat, j = t ∧ t ≤ x.1.keys.length ∧ Grow u o ∧ t1 = (told || toldIn (x.1.keys.take t)) ∧ r1 = (right || rightIn us id chal (x.1.keys.take t)), fun _ _ j _ => x.1.keys.length - j.toNat, ⟨0, rfl, Nat.zero_le _, Keep.refl _ _, by simp [toldIn], by simp [rightIn]⟩, ?_⟩
    rintro r1 t1 j o ⟨t, rfl, ht, hgo, rfl, rfl⟩
    have go := gu.trans hgo
    obtain ⟨hSA, hSc⟩ := hcell go
    have cx : ∀ {y : World}, Grow o y → y.cell? (((gA S.A).add (((k : Nat) : Int).toNat * 4)).add 3) = some (.slice x.2.A x.2.n x.2.c) := fun g => by
      rw [Int.toNat_natCast]; exact (hcell (go.trans g)).2 3 _ rfl
    refine ⟨⟨by omega, by omega, hSA⟩, x.2, cx (Keep.refl _ _), ?_⟩
    rw [← hxn]
    refine br_nat (fun hlt2 => ?_) (fun hge2 => ?_)
    · have hT1 : toldIn (x.1.keys.take (t + 1)) = (toldIn (x.1.keys.take t) || decide (x.1.keys[t].1 = kCA)) := any_succ _ hlt2
      have hR1 : rightIn us id chal (x.1.keys.take (t + 1)) = (rightIn us id chal (x.1.keys.take t) || (decide (x.1.keys[t].1 = kCR) && us.any fun u => rightX id u.2 chal x.1.keys[t].2)) := any_succ _ hlt2
      have hkv := hx.len _ (List.getElem_mem hlt2)
      obtain ⟨ad, had, hcd⟩ := rd_pair (hx.keys.grow go) hlt2
      generalize x.1.keys[t] = kk at *
      refine letX2 (fun r2 t2 y => Grow u y ∧ t2 = (told || toldIn (x.1.keys.take (t + 1))) ∧ r2 = (right || rightIn us id chal (x.1.keys.take (t + 1)))) (fun r2 t2 y hy => ?_) (fun J => ?_)
      · rw [w64 (by omega) (by omega)]
        exact ⟨⟨t + 1, by omega, by omega, hy.1, hy.2.1, hy.2.2⟩, by dsimp only; omega⟩
      refine ⟨⟨by omega, by omega, hSA⟩, x.2, cx (Keep.refl _ _), ⟨by omega, by omega, by rw [had]; rfl⟩, (pc kk).toArray, by rw [had, Int.toNat_natCast]; exact loadVar_rule g_api_Pair i_api_Pair rfl hcd, ?_⟩
      refine new_rule fun kb o1 hkb hb1 hgo1 hso1 => ?_
      refine storeVar_rule (cells := (pc kk).toArray) hb1 i_api_Pair rfl rfl (by simp [pc, Value.oneCell']) fun o2 hb2 hko2 hso2 => ?_
      have hgo2 : Grow o o2 := hgo1.keep hko2 fun i hi q => by omega
      have k0 : o2.cell? ((⟨kb, 0, none⟩ : Addr).add 0) = some (.string (str kk.1)) := by rw [add0, Blk.cell hb2]; rfl
      have k1 : o2.cell? ((⟨kb, 0, none⟩ : Addr).add 1) = some (.string (str kk.2)) := by rw [add0, Blk.cell hb2]; rfl
      refine ⟨str kk.1, k0, ?_⟩
      refine letX1 (fun (t3 : Bool) y => y = o2 ∧ t3 = (told || toldIn (x.1.keys.take (t + 1)))) ?_ (fun J4 => ?_)
      rotate_left
      · rw [sEq_ls]
        refine br_dec (fun q => J4 _ _ ⟨rfl, ?_⟩) (fun q => J4 _ _ ⟨rfl, ?_⟩)
        · rw [hT1, decide_eq_true q]; simp
        · rw [hT1, decide_eq_false q]; simp
      rintro t3 y ⟨rfl, rfl⟩
      refine ⟨str kk.1, k0, ?_⟩
      rw [sEq_ls]
      by_cases qR : kk.1 = kCR
      rotate_left
      · exact br_t (by rw [decide_eq_false qR]; rfl) (J _ _ _ ⟨hgo.trans hgo2, rfl, by rw [hR1, decide_eq_false qR]; simp⟩)
      refine br_f (by rw [decide_eq_true qR]; rfl) ⟨str kk.2, k1, ?_⟩
      have hR2 : rightIn us id chal (x.1.keys.take (t + 1)) = (rightIn us id chal (x.1.keys.take t) || us.any fun u => rightX id u.2 chal kk.2) := by rw [hR1, decide_eq_true qR, Bool.true_and]
      have gy := go.trans hgo2
      refine runhex_spec (by omega) (fun l hul x3 w9 hx3 => ?_) (fun hul w9 hg9 => ?_)
      · have hll := unhexX_len hul
        have hrx : ∀ u : Pr, rightX id u.2 chal kk.2 = decide (hexX l = answerX id u.2 chal) := fun u => by unfold rightX; rw [hul]
        have g9 := gy.trans hx3.grow
        refine ⟨fun r3 n1 z => ∃ m : Nat, n1 = m ∧ m ≤ us.length ∧ Grow w9 z ∧ r3 = ((right || rightIn us id chal (x.1.keys.take t)) || (us.take m).any fun u => rightX id u.2 chal kk.2), fun _ n1 _ => us.length - n1.toNat, ⟨0, rfl, Nat.zero_le _, Keep.refl _ _, by simp⟩, ?_⟩
        rintro r3 n1 z ⟨m, rfl, hm, hgz, rfl⟩
        rw [← hUn]
        refine br_nat (fun hlt3 => ?_) (fun hge3 => ?_)
        · have hA1 := any_succ (fun u : Pr => rightX id u.2 chal kk.2) hlt3
          have hum := hsec _ (List.getElem_mem hlt3)
          refine letX1 (fun (r4 : Bool) z' => Grow w9 z' ∧ r4 = ((right || rightIn us id chal (x.1.keys.take t)) || (us.take (m + 1)).any fun u => rightX id u.2 chal kk.2)) (fun r4 z' hz' => ?_) (fun J1 => ?_)
          · rw [w64 (by omega) (by omega)]
            exact ⟨⟨m + 1, by omega, by omega, hz'.1, hz'.2⟩, by dsimp only; omega⟩
          rintro z1 rfl
          have hgz1 := hgz.trans (keep_drew z)
          have gw1 := g9.trans hgz1
          have cu : ∀ {v : World}, Rd v 2 U (pvs us) → U.A.isSome = true ∧ v.cell? (((gA U.A).add (((m : Nat) : Int).toNat * 2)).add 1) = some (.string (str us[m].2)) := fun q => by
            obtain ⟨a, ha, hc⟩ := rd_pair q hlt3
            rw [ha, Int.toNat_natCast]
            exact ⟨rfl, hc 1 _ rfl⟩
          refine ⟨fun v => Rd v 2 U (pvs us), hu.grow gw1, fun _ => ⟨by omega, by omega, (cu (hu.grow gw1)).1⟩, _, fun _ v q => (cu q).2, ?_⟩
          refine letJ1 (fun (s4 : ByteArray) v => s4 = str (hexX l) ∧ Grow w9 v) ?_ (fun J3 => ⟨fun _ => rhex_spec ((hx3.rd (by omega)).grow hgz1) (by omega) fun v hv => J3 _ _ ⟨rfl, hgz1.trans hv⟩, fun q => by cases q⟩)
          rintro s4 v ⟨rfl, hgv⟩
          refine ⟨hu.grow (g9.trans hgv), ?_⟩
          refine letJ1 (fun (s5 : ByteArray) v' => s5 = str (answerX id us[m].2 chal) ∧ Grow w9 v') ?_ (fun J2 => ⟨fun _ => ranswer_spec hid (hc.grow (g9.trans hgv)) (by omega) fun v' hv' => J2 _ _ ⟨rfl, hgv.trans hv'⟩, fun q => by cases q⟩)
          rintro s5 v' ⟨rfl, hgv'⟩
          rw [hrx] at hA1
          rw [sEq_str]
          by_cases qq : hexX l = answerX id us[m].2 chal
          · refine br_t (by rw [decide_eq_true qq]; rfl) (J1 _ _ ⟨hgv', ?_⟩)
            rw [hA1, decide_eq_true qq]; simp
          · refine br_f (by rw [decide_eq_false qq]; rfl) (J1 _ _ ⟨hgv', ?_⟩)
            rw [hA1, decide_eq_false qq]; simp
        · have : m = us.length := by omega
          subst this
          rw [List.take_length]
          exact J _ _ _ ⟨((hgo.trans hgo2).trans hx3.grow).trans hgz, rfl, by rw [hR2, Bool.or_assoc]⟩
      · have hrx : (us.any fun u => rightX id u.2 chal kk.2) = false := by
          have : ∀ u : Pr, rightX id u.2 chal kk.2 = false := fun u => by unfold rightX; rw [hul]
          rw [List.any_eq_false]; intro u _; rw [this]; decide
        have g9 := gy.trans hg9
        refine ⟨fun r3 n1 z => ∃ m : Nat, n1 = m ∧ m ≤ us.length ∧ Grow w9 z ∧ r3 = (right || rightIn us id chal (x.1.keys.take t)), fun _ n1 _ => us.length - n1.toNat, ⟨0, rfl, Nat.zero_le _, Keep.refl _ _, rfl⟩, ?_⟩
        rintro r3 n1 z ⟨m, rfl, hm, hgz, rfl⟩
        rw [← hUn]
        refine br_nat (fun hlt3 => ?_) (fun hge3 => ?_)
        · refine letX1 (fun (r4 : Bool) z' => Grow w9 z' ∧ r4 = (right || rightIn us id chal (x.1.keys.take t))) (fun r4 z' hz' => ?_) (fun J1 => ?_)
          · rw [w64 (by omega) (by omega)]
            exact ⟨⟨m + 1, by omega, by omega, hz'.1, hz'.2⟩, by dsimp only; omega⟩
          rintro z1 rfl
          have hgz1 := hgz.trans (keep_drew z)
          refine ⟨fun _ => True, trivial, fun q => (by cases q), ⟨#[]⟩, fun q => (by cases q), ?_⟩
          refine letJ1 (fun (s4 : ByteArray) v => Grow w9 v) ?_ (fun J3 => ⟨fun q => (by cases q), fun _ => J3 _ _ hgz1⟩)
          intro s4 v hgv
          refine ⟨trivial, ?_⟩
          refine letJ1 (fun (s5 : ByteArray) v' => Grow w9 v') ?_ (fun J2 => ⟨fun q => (by cases q), fun _ => J2 _ _ hgv⟩)
          intro s5 v' hgv'
          exact br_f rfl (J1 _ _ ⟨hgv', rfl⟩)
        · exact J _ _ _ ⟨((hgo.trans hgo2).trans hg9).trans hgz, rfl, by rw [hR2, hrx, Bool.or_false]⟩
    · have : t = x.1.keys.length := by omega
      subst this
      rw [List.take_length]
      have hkeys : Rd o 2 x.2 (pvs x.1.keys) := hx.keys.grow go
      have hGs := stepX_ginv (s := st) (rq := x.1) (T := told || toldIn x.1.keys) (R := right || rightIn us id chal x.1.keys) (fun q => by rw [q]; simp) (fun q => by rw [u1, u2, u3] at q; rw [q]; simp) (hG.mono (fun q => by rw [q]; rfl) (fun q => by rw [q]; rfl))
      have hb1 : ∀ k' ∈ x.1.keys, k'.2.length ≤ 70000000000000 := fun k' hk' => by have := hx.len k' hk'; omega
      refine ⟨⟨by omega, by omega, hSA⟩, (rqf x).toArray, by rw [Int.toNat_natCast]; exact loadVar_rule g_login_Request i_login_Request rfl hSc, ?_⟩
      have hksz := hku.size
      refine step_spec (rq := x.1) (ks := x.2) (hlu.grow hgo) (hL.grow go) hlw hkeys (fun hne' a ha q => ?_) hx.st hx.nx (fun k' hk' => by have := hb1 k' hk'; omega) (fun _ k' hk' => hb1 k' hk') (by omega) fun y o2 hk2 hl2 ho2 => ?_
      · obtain ⟨a', ha', hc'⟩ := hx.keys.at_ (fun e => hne' (by cases hxk : x.1.keys with | nil => rfl | cons p r => rw [hxk] at e; simp [pvs, pc] at e))
        rw [ha] at ha'
        obtain rfl := Option.some.inj ha'
        have hlt0 : a.block < w.heap.size := by
          cases hxk : x.1.keys with
          | nil => exact absurd hxk hne'
          | cons p r =>
            rw [hxk] at hc'
            have := cell_lt (hc' 0 (.string (str p.1)) rfl)
            rwa [add_block] at this
        omega
      refine done_spec hl2 ?_
      have hks2 : Keep (fun b => b = lb) w3 o2 := (hku.grow hgo).trans hk2 fun _ _ q => q
      refine br_f ?_ ?_
      · cases hd : (stepX st x.1).1.done with
        | false => rfl
        | true =>
          obtain ⟨d1, d2⟩ := hGs.1.d hd
          rw [d1, d2]; rfl
      rw [w64 (by omega) (by omega)]
      exact ⟨⟨k + 1, (stepX st x.1).1, by omega, by omega, hks2, hl2, hGs.2.1.trans u1, hGs.2.2.1.trans u2, hGs.2.2.2.trans u3, hGs.1⟩, by dsimp only; omega⟩
  · refine br_f (by rw [Bool.and_eq_false_iff, decide_eq_false_iff_not, decide_eq_false_iff_not]; omega) (h u (gk hku))
end Go.Proofs.YtjfjanogfakclaaDoor

/- The rows of LoginNil, LoginProves and LoginGuards, where what is read is small. -/
namespace Go.Proofs.YtjfjanogfakclaaDoor
open Go CF
theorem nat_u8 {n : Int} (h : (Lit.int .u8 n).wf = true) : ∃ m : Nat, n = m ∧ m < 256 := by
  simp [Lit.wf, IntKind.min, IntKind.max, IntKind.signed, IntKind.bits] at h
  exact ⟨n.toNat, by omega, by omega⟩
theorem list4u {cs : List Value} (h : cs.length = 4) : ∃ a b c d, cs = [a, b, c, d] := by
  match cs, h with
  | [a, b, c, d], _ => exact ⟨a, b, c, d, rfl⟩
section
variable {H : Type} {enc : TypeId × Value → H} {w : World} {base : Nat} {spare : Nat → Bool} {held : Bool}
theorem opens_upair : U.Opens enc Tryd.prog w base spare held t_api_Pair fun cs => ∃ p : Pr, cs = pc p ∧ p.2.length ≤ 4294967296 :=
  (U.opens_flat 8 t_api_Pair [.s, .s] flat_api_Pair (by kernel_rfl)).mono fun cs ⟨h, hv⟩ => by
    match cs, h with
    | [.string a, .string b], _ =>
      refine ⟨(ls a, ls b), by simp only [pc, str_ls], ?_⟩
      have := hv (.string b) (by simp); simpa [U.okV, length_ls] using this
theorem flat_login_User : flatK Tryd.prog 8 t_login_User = some [.s, .s] := by kernel_rfl
theorem opens_user : U.Opens enc Tryd.prog w base spare held t_login_User fun cs => ∃ p : Pr, cs = pc p ∧ p.2.length ≤ 4294967296 :=
  (U.opens_flat 8 t_login_User [.s, .s] flat_login_User (by kernel_rfl)).mono fun cs ⟨h, hv⟩ => by
    match cs, h with
    | [.string a, .string b], _ =>
      refine ⟨(ls a, ls b), by simp only [pc, str_ls], ?_⟩
      have := hv (.string b) (by simp); simpa [U.okV, length_ls] using this
theorem opens_users : U.Opens enc Tryd.prog w base spare held t_sl_login_User fun cs => ∃ s : Sl, cs = [.slice s.A s.n s.c] ∧ ∃ ps : List Pr, Rd w 2 s (pvs ps) ∧ (∀ p ∈ ps, p.2.length ≤ 4294967296) ∧ s.n ≤ 4294967296 :=
  (U.opens_slice (f := pc) (Q := fun p => p.2.length ≤ 4294967296) (z := 2) (bytes := 32) u_sl_login_User (by kernel_rfl) (by kernel_rfl) (by decide) pc_len opens_user).mono
    fun _ ⟨s, h1, ps, h2, h3, h4, h5⟩ => ⟨s, h1, ps, h2, h4, by omega⟩
theorem u_login_Request : Tryd.prog.underlying t_login_Request = some (.struct #[⟨"Stage", t_uint8, 0, false, "", "", 0⟩, ⟨"Next", t_uint8, 1, false, "", "", 1⟩, ⟨"Transit", t_bool, 2, false, "", "", 2⟩, ⟨"Keys", t_sl_api_Pair, 3, false, "", "", 8⟩]) := by kernel_rfl
theorem opens_rq : U.Opens enc Tryd.prog w base spare held t_login_Request fun cs => ∃ x : RqS × Sl, cs = rqf x ∧ RqOk w x := by
  refine (U.opens_fields u_login_Request (Φ := [fun cs => ∃ n, cs = [.int .u8 n] ∧ (Lit.int .u8 n).wf = true, fun cs => ∃ n, cs = [.int .u8 n] ∧ (Lit.int .u8 n).wf = true, fun cs => ∃ b, cs = [.bool b],
    fun cs => ∃ s : Sl, cs = [.slice s.A s.n s.c] ∧ ∃ ps : List Pr, Rd w 2 s (ps.flatMap pc) ∧ ps.length = s.n ∧ (∀ p ∈ ps, p.2.length ≤ 4294967296) ∧ s.n * 32 ≤ 4294967296]) rfl ?_).mono ?_
  · intro i f φ hf hφ
    match i with
    | 0 => injection hf with hf; injection hφ with hφ; subst hf; subst hφ; exact U.opens_int u_uint8
    | 1 => injection hf with hf; injection hφ with hφ; subst hf; subst hφ; exact U.opens_int u_uint8
    | 2 => injection hf with hf; injection hφ with hφ; subst hf; subst hφ; exact U.opens_bool u_bool
    | 3 => injection hf with hf; injection hφ with hφ; subst hf; subst hφ; exact U.opens_slice (f := pc) (Q := fun p => p.2.length ≤ 4294967296) (z := 2) (bytes := 32) u_sl_api_Pair (by kernel_rfl) (by kernel_rfl) (by decide) pc_len opens_upair
    | i + 4 => simp at hφ
  · rintro cs ⟨hl, h⟩
    have hl : cs.length = 4 := hl.trans (by kernel_rfl)
    obtain ⟨a, ha, wa⟩ := h 0 _ _ rfl rfl
    obtain ⟨b, hb, wb⟩ := h 1 _ _ rfl rfl
    obtain ⟨c, hc⟩ := h 2 _ _ rfl rfl
    obtain ⟨s, hs, ps, h1, h2, h3, h4⟩ := h 3 _ _ rfl rfl
    have e1 : Tryd.prog.cellsOf t_uint8 = 1 := by kernel_rfl
    have e2 : Tryd.prog.cellsOf t_bool = 1 := by kernel_rfl
    have e3 : Tryd.prog.cellsOf t_sl_api_Pair = 1 := by kernel_rfl
    change (cs.drop 0).take (Tryd.prog.cellsOf t_uint8) = _ at ha
    change (cs.drop 1).take (Tryd.prog.cellsOf t_uint8) = _ at hb
    change (cs.drop 2).take (Tryd.prog.cellsOf t_bool) = _ at hc
    change (cs.drop 3).take (Tryd.prog.cellsOf t_sl_api_Pair) = _ at hs
    rw [e1] at ha hb
    rw [e2] at hc
    rw [e3] at hs
    obtain ⟨c0, c1, c2, c3, rfl⟩ := list4u hl
    simp only [List.drop_zero, List.take_succ_cons, List.take_zero, List.drop_succ_cons, List.cons.injEq, and_true] at ha hb hc hs
    subst ha; subst hb; subst hc; subst hs
    obtain ⟨a, rfl, za⟩ := nat_u8 wa
    obtain ⟨b, rfl, zb⟩ := nat_u8 wb
    exact ⟨(⟨a, b, c, ps⟩, s), rfl, ⟨h1, za, zb, h3, by show ps.length ≤ _; omega⟩⟩
theorem opens_rqs : U.Opens enc Tryd.prog w base spare held t_sl_login_Request fun cs => ∃ s : Sl, cs = [.slice s.A s.n s.c] ∧ ∃ rs : List (RqS × Sl), Rd w 4 s (rs.flatMap rqf) ∧ (∀ x ∈ rs, RqOk w x) :=
  (U.opens_slice (f := rqf) (Q := RqOk w) (z := 4) (bytes := 32) u_sl_login_Request (by kernel_rfl) (by kernel_rfl) (by decide) rqf_len opens_rq).mono
    fun _ ⟨s, h1, rs, h2, _, h4, _⟩ => ⟨s, h1, rs, h2, h4⟩
theorem opens_ubytes : U.Opens enc Tryd.prog w base spare held t_sl_uint8 fun cs => ∃ s : Sl, cs = [.slice s.A s.n s.c] ∧ ∃ l : L8, Rd w 1 s (bv l) ∧ l.length ≤ 4294967296 :=
  (U.opens_bytes u_sl_uint8 u_uint8 (by kernel_rfl) (by kernel_rfl)).mono fun _ ⟨s, h1, l, h2, h3, h4⟩ => ⟨s, h1, l, h2, by omega⟩
end
theorem loginNil_row {x : RqS × Sl} {c : Sl} {chal : L8} {w : World} {R : Bool → World → Prop} (hc : Rd w 1 c (bv chal)) (hcl : chal.length ≤ 4294967296) (hv : ErrV w) (htab : TabV w) (h : ∀ w', Grow w w' → R true w') : Cpalletlaw20_LoginNil (rqf x).toArray c w R :=
  loginNil_spec hv htab hc hcl h
theorem loginProves_row {name secret wrong : ByteArray} {chal : L8} {c : Sl} {id : Int} {ask : Bool} {w : World} {R : Bool → World → Prop} (hid : (Lit.int .u8 id).wf = true) (hc : Rd w 1 c (bv chal)) (hcl : chal.length ≤ 4294967296) (hn : name.size ≤ 4294967296) (hs : secret.size ≤ 4294967296) (hw : wrong.size ≤ 4294967296)
    (hv : ErrV w) (htab : TabV w) (h : ∀ w', Grow w w' → R true w') : Cpalletlaw20_LoginProves name secret wrong id c ask w R := by
  obtain ⟨id, rfl, hi⟩ := nat_u8 hid
  exact loginProves_spec (name := ls name) (secret := ls secret) (wrong := ls wrong) hv htab hc hi (by rw [length_ls]; omega) (by rw [length_ls]; omega) (by rw [length_ls]; omega) hcl h
theorem loginGuards_row {U c S : Sl} {us : List Pr} {chal : L8} {id : Int} {rs : List (RqS × Sl)} {w : World} {R : Bool → World → Prop} (hu : Rd w 2 U (pvs us)) (hsec : ∀ u ∈ us, u.2.length ≤ 4294967296) (hun : U.n ≤ 4294967296) (hid : (Lit.int .u8 id).wf = true) (hc : Rd w 1 c (bv chal)) (hcl : chal.length ≤ 4294967296)
    (hS : Rd w 4 S (rs.flatMap rqf)) (hrs : ∀ x ∈ rs, RqOk w x) (hv : ErrV w) (htab : TabV w) (h : ∀ w', Grow w w' → R true w') : Cpalletlaw20_LoginGuards U id c S w R := by
  obtain ⟨id, rfl, hi⟩ := nat_u8 hid
  exact loginGuards_spec hv htab hu hsec hun hi hc hcl hS hrs h
end Go.Proofs.YtjfjanogfakclaaDoor
