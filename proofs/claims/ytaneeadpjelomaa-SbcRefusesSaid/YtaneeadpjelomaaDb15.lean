import Derived.Test.YtaneeadpjelomaaDb14
/- Layer 14: two devices side by side; the law of writes that are split. -/
namespace Go.Proofs.Ytaneeadpjelomaa
open Go CF

theorem IsW.nb {w : World} {pw : Nat} {D : Nat → Prop} {st : Wst} (h : IsW w pw D st) : NoBytes w D := by
  obtain ⟨mb, md, ws, cs, h⟩ := h
  exact h.nb
section
variable {w u u' v v' : World} {kind : Nat} {dv ps pw dv' ps' pw' : Nat} {D D' D1 S : Nat → Prop} {st st' st1 : Wst} {bs bs' bs1 : List Bk} {m m' m1 : Nat} {ls ls1 : List (Nat × List Value × TypeId)} {rows rows1 : List (Sl × L8)}
theorem Dv.keepS {file : ByteArray} {n : Nat} {cache : Bool} (h : Dv w dv ps pw file kind n cache D st bs m) (k : Keep S w u) (hd : ∀ k, D k → ¬ S k) (hs : NoBytes w S) (n1 : ¬ S dv) (n2 : ¬ S ps) : Dv u dv ps pw file kind n cache D st bs m :=
  ⟨k.heap h.dev n1, k.heap h.isS n2, h.isW.keep k hd hs, h.nps, h.ndv, h.ok, h.tells, h.len, h.size, h.nm, h.kd, h.few⟩
/-- two devices in two worlds -/
structure Tw (w u : World) (kind dv ps pw : Nat) (D : Nat → Prop) (st : Wst) (bs : List Bk) (m dv' ps' pw' : Nat) (D' : Nat → Prop) (st' : Wst) (bs' : List Bk) (m' : Nat) (ls : List (Nat × List Value × TypeId)) (rows : List (Sl × L8)) : Prop where
  a : Lw w u dv ps pw s_f kind 16 true D st bs m ls rows
  b : Lw w u dv' ps' pw' s_f kind 16 true D' st' bs' m' ls rows
  dis : ∀ k, D k → ¬ D' k
  na : ¬ D dv' ∧ ¬ D ps'
  nb : ¬ D' dv ∧ ¬ D' ps
theorem Tw.swap (T : Tw w u kind dv ps pw D st bs m dv' ps' pw' D' st' bs' m' ls rows) : Tw w u kind dv' ps' pw' D' st' bs' m' dv ps pw D st bs m ls rows := ⟨T.b, T.a, fun k q r => T.dis k r q, T.nb, T.na⟩
theorem Tw.go (T : Tw w u kind dv ps pw D st bs m dv' ps' pw' D' st' bs' m' ls rows) (g : Grow u v) : Tw w v kind dv ps pw D st bs m dv' ps' pw' D' st' bs' m' ls rows := ⟨T.a.go g, T.b.go g, T.dis, T.na, T.nb⟩
theorem Tw.sub (T : Tw w u kind dv ps pw D st bs m dv' ps' pw' D' st' bs' m' ls rows) (h1 : ∀ x ∈ ls1, x ∈ ls) (h2 : ∀ x ∈ rows1, x ∈ rows) : Tw w u kind dv ps pw D st bs m dv' ps' pw' D' st' bs' m' ls1 rows1 :=
  ⟨⟨T.a.grow, T.a.dvs, T.a.above, fun x q => T.a.loc x (h1 x q), fun x q => T.a.row x (h2 x q)⟩, ⟨T.b.grow, T.b.dvs, T.b.above, fun x q => T.b.loc x (h1 x q), fun x q => T.b.row x (h2 x q)⟩, T.dis, T.na, T.nb⟩
/-- a step of the first device -/
theorem Tw.one (T : Tw w u kind dv ps pw D st bs m dv' ps' pw' D' st' bs' m' ls rows) (L : Lw w v dv ps pw s_f kind 16 true D1 st1 bs1 m1 ls1 rows1) (k : Keep D u v) (hD : ∀ k, D1 k → D k ∨ u.heap.size ≤ k)
    (h1 : ∀ x ∈ ls1, x ∈ ls ∨ u.heap.size ≤ x.1) (h2 : ∀ x ∈ rows1, x ∈ rows ∨ ∀ b, x.1.blk = some b → u.heap.size ≤ b) : Tw w v kind dv ps pw D1 st1 bs1 m1 dv' ps' pw' D' st' bs' m' ls1 rows1 := by
  have lt' := fun k (q : D' k) => T.b.dvs.isW.lt q
  have ldv := lt_of_heap T.b.dvs.dev
  have lps := lt_of_heap T.b.dvs.isS
  refine ⟨L, ⟨L.grow, T.b.dvs.keepS k (fun k q r => T.dis k r q) T.a.dvs.isW.nb T.na.1 T.na.2, T.b.above, fun x q => ⟨(L.loc x q).1, fun r => ?_⟩, fun x q => ⟨(L.row x q).1, fun b hb => ⟨fun r => ?_, ((L.row x q).2 b hb).2⟩⟩⟩, fun k q r => ?_, ⟨fun q => ?_, fun q => ?_⟩, T.nb⟩
  · rcases h1 x q with e | e
    · exact (T.b.loc x e).2 r
    · have := lt' _ r; omega
  · rcases h2 x q with e | e
    · exact ((T.b.row x e).2 b hb).1 r
    · have := e b hb; have := lt' _ r; omega
  · rcases hD k q with e | e
    · exact T.dis k e r
    · have := lt' _ r; omega
  · rcases hD _ q with e | e
    · exact T.na.1 e
    · omega
  · rcases hD _ q with e | e
    · exact T.na.2 e
    · omega
theorem Tw.res (T : Tw w u kind dv ps pw D st bs m dv' ps' pw' D' st' bs' m' ls rows) {s : Nat} {sn : Sn} {d : Sl} {K : Addr → World → Prop}
    (h : ∀ ab v, Grow u v → u.heap.size ≤ ab → Tw w v kind dv ps pw D st bs m dv' ps' pw' D' st' bs' m' ((ab, rsv s sn d, t_api_Result) :: ls) rows → K ⟨ab, 0, none⟩ v) :
    New (.cells z10 t_api_Result) u fun a u1 => RunU Try.prog (storeVar t_api_Result a (.agg (rsv s sn d).toArray)) u1 fun x => K a x := by
  refine new_rule fun ab u1 hab hb1 hg1 hsz1 => lay_rule hb1 rfl fun u2 hb2 hk2 hsz2 => ?_
  have hg : Grow u u2 := hg1.keep hk2 fun i hi q => by omega
  have T2 := T.go hg
  have add : ∀ {dv ps pw : Nat} {D : Nat → Prop} {st : Wst} {bs : List Bk} {m : Nat}, Lw w u dv ps pw s_f kind 16 true D st bs m ls rows → Lw w u2 dv ps pw s_f kind 16 true D st bs m ls rows → Lw w u2 dv ps pw s_f kind 16 true D st bs m ((ab, rsv s sn d, t_api_Result) :: ls) rows := fun L L2 => by
    refine ⟨L2.grow, L2.dvs, L2.above, fun x hx => ?_, L2.row⟩
    rcases List.mem_cons.1 hx with rfl | hx
    · exact ⟨hb2, fun q => by have := L.dvs.isW.lt q; omega⟩
    · exact L2.loc x hx
  exact h ab u2 hg (by omega) ⟨add T.a T2.a, add T.b T2.b, T2.dis, T2.na, T2.nb⟩
end
/-! ### the blocks of a write that is split -/
def chunkS (same : Bool) (l : L8) (i : Nat) : L8 := if same then l.take 16 else (l.drop (16 * i)).take 16
def XsOk (kind F N : Nat) (same : Bool) (l : L8) (xs : List Bk) : Prop := xs.length = N ∧ ∀ i, i < N → ∃ b, xs[i]? = some (mk1 kind (F + i) b) ∧ b.d = chunkS same l i
theorem mk1_d {kind F : Nat} {b b' : Bk} (h : b.d = b'.d) : mk1 kind F b = mk1 kind F b' := by
  have e : ∀ (d d' : L8) (hd : d.length = 16) (hd' : d'.length = 16), d = d' → mkB kind F d hd = mkB kind F d' hd' := by
    rintro d _ hd hd' rfl; rfl
  exact e _ _ _ _ h
theorem unB_d {l : L8} (h : l.length = 16) : (unB false l).d = l := pad16_eq h
theorem xs_many {kind F N : Nat} {l : L8} (h : 16 * N ≤ l.length) : XsOk kind F N false l (mkAll kind F (unpB false (l.take (16 * N))) N) := by
  have hl : (l.take (16 * N)).length = 16 * N := by rw [List.length_take]; omega
  refine ⟨mk_len hl, fun i hi => ?_⟩
  have hu : i < (unpB false (l.take (16 * N))).length := by rw [unpB_len, hl]; show i < 16 * N / 16; omega
  refine ⟨(unpB false (l.take (16 * N)))[i], ?_, ?_⟩
  · rw [List.getElem?_eq_getElem (by rw [mkAll_len]; exact hu), mkAll_at _ _ _ _ _ hu, if_pos hi]
  · rw [unpB_at hu]
    have e16 : szB false = 16 := rfl
    rw [e16, unB_d (by rw [List.length_take, List.length_drop]; omega), List.drop_take, List.take_take, Nat.mul_comm i 16, Nat.min_eq_left (by omega)]
    rfl
theorem xs_same {kind F N : Nat} {l : L8} {c : Cm} {b0 : Bk} (hc : c.prot = 0) (hF : c.lba = F) (hb : b0.d = l.take 16) : XsOk kind F N true l (samesB kind c b0 N) := by
  refine ⟨samesB_len _ _ _ _, fun i hi => ⟨b0, ?_, hb⟩⟩
  unfold samesB
  rw [List.getElem?_map, List.getElem?_range hi]
  unfold sameB
  simp only [Option.map_some, if_pos hc, hF]
theorem one_step {kind F j : Nat} {bs xs : List Bk} {l : L8} {b : Bk} (hl : l.length = 16) (hx : xs[j]? = some (mk1 kind (F + j) b)) (hb : b.d = l) :
    setAll (setAll bs F xs j) (F + j) (mkAll kind (F + j) (unpB false l) 1) 1 = setAll bs F xs (j + 1) := by
  have hu : 0 < (unpB false l).length := by rw [unpB_len, hl]; decide
  have e : (mkAll kind (F + j) (unpB false l) 1)[0]? = some (mk1 kind (F + j) b) := by
    rw [List.getElem?_eq_getElem (by rw [mkAll_len]; exact hu), mkAll_at _ _ _ _ _ hu, if_pos Nat.zero_lt_one]
    refine congrArg some (mk1_d ?_)
    rw [unpB_at hu, hb]
    have e16 : szB false = 16 := rfl
    have : (l.drop (0 * szB false)).take (szB false) = l := by rw [e16, Nat.zero_mul, List.drop_zero, List.take_of_length_le (by omega)]
    rw [this]; exact unB_d hl
  show (setAll bs F xs j).set (F + j + 0) (((mkAll kind (F + j) (unpB false l) 1)[0]?).getD emptyB) = (setAll bs F xs j).set (F + j) ((xs[j]?).getD emptyB)
  rw [e, hx]; rfl
theorem xs_fine {kind F N : Nat} {same : Bool} {l : L8} {xs bs : List Bk} (h : XsOk kind F N same l xs) (hb : Fine kind bs) (hF : F + N ≤ bs.length) : Fine kind (setAll bs F xs N) := by
  obtain ⟨hN, hx⟩ := h
  subst hN
  refine fine_set hb hF fun i hi prot => ?_
  obtain ⟨b, e, _⟩ := hx i hi
  rw [List.getElem?_eq_getElem hi] at e
  rw [Option.some.inj e]
  exact fine_mk1 _ _ _ _
theorem chunk_len {same : Bool} {l : L8} {i N : Nat} (h : 16 * N ≤ l.length) (hi : i < N) : (chunkS same l i).length = 16 := by
  unfold chunkS
  split
  · rw [List.length_take]; omega
  · rw [List.length_take, List.length_drop]; omega
end Go.Proofs.Ytaneeadpjelomaa
