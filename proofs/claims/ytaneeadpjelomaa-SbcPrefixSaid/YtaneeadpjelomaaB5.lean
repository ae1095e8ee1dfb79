import Derived.Test.YtaneeadpjelomaaB4
/- Layer 14: where a law stands: a device, results that are held, rows that are held. -/
namespace Go.Proofs.Ytaneeadpjelomaa
open Go CF

/-! ### blocks and their bytes -/
theorem setAll_eq {bs xs : List Bk} {F : Nat} (h : F + xs.length ≤ bs.length) : setAll bs F xs xs.length = bs.take F ++ xs ++ bs.drop (F + xs.length) := by
  apply List.ext_getElem?
  intro j
  by_cases hj : j < bs.length
  · rw [setAll_get _ _ _ _ h _ hj]
    have l1 : (bs.take F).length = F := by rw [List.length_take]; omega
    by_cases q : F ≤ j ∧ j < F + xs.length
    · rw [if_pos q, List.append_assoc, List.getElem?_append_right (by omega), l1, List.getElem?_append_left (by omega), List.getElem?_eq_getElem (by omega)]; rfl
    · rw [if_neg q]
      rcases Nat.lt_or_ge j F with q1 | q1
      · rw [List.append_assoc, List.getElem?_append_left (by omega), List.getElem?_take, if_pos q1]
      · rw [List.getElem?_append_right (by rw [List.length_append]; omega), List.length_append, l1, List.getElem?_drop, show F + xs.length + (j - (F + xs.length)) = j by omega]
  · rw [List.getElem?_eq_none (by rw [setAll_len]; omega), List.getElem?_eq_none (by simp; omega)]
theorem setAll_read {bs xs : List Bk} {F : Nat} (h : F + xs.length ≤ bs.length) : ((setAll bs F xs xs.length).drop F).take xs.length = xs := by
  have l1 : (bs.take F).length = F := by rw [List.length_take]; omega
  have hd := List.drop_left (l₁ := bs.take F) (l₂ := xs ++ bs.drop (F + xs.length))
  rw [l1] at hd
  rw [setAll_eq h, List.append_assoc, hd, List.take_append_of_le_length (Nat.le_refl _), List.take_length]
theorem packB_append (wt : Bool) (a b : List Bk) : packB wt (a ++ b) = packB wt a ++ packB wt b := by simp [packB]
theorem packB_data {a b : List Bk} (h : a.map Bk.d = b.map Bk.d) : packB false a = packB false b := by
  have e : ∀ l : List Bk, packB false l = (l.map Bk.d).flatten := by
    intro l
    induction l with
    | nil => rfl
    | cons x r ih => simp only [packB, List.flatMap_cons, List.map_cons, List.flatten_cons] at ih ⊢; rw [ih]; simp [wireB]
  rw [e, e, h]
theorem mkAll_data {kind lba : Nat} {U : List Bk} (j : Nat) : (mkAll kind lba U j).map Bk.d = U.map Bk.d := by
  apply List.ext_getElem
  · simp [mkAll_len]
  · intro i h1 h2
    have hi : i < U.length := by simpa using h2
    simp only [List.getElem_map]
    rw [mkAll_at _ _ _ _ _ hi]
    split <;> rfl
theorem chunks_all (l : L8) (z : Nat) : ∀ k, k * z ≤ l.length → (List.range k).flatMap (fun i => (l.drop (i * z)).take z) = l.take (k * z)
  | 0, _ => by simp
  | k + 1, h => by
    rw [Nat.succ_mul] at h
    rw [List.range_succ, List.flatMap_append, chunks_all l z k (by omega), List.flatMap_singleton, Nat.succ_mul, List.take_add]
theorem unpB_bytes {l : L8} (h : l.length % 16 = 0) : packB false (unpB false l) = l := by
  unfold packB unpB
  rw [List.flatMap_map]
  have e16 : szB false = 16 := rfl
  rw [e16]
  have hm : l.length / 16 * 16 = l.length := by have := Nat.div_add_mod l.length 16; omega
  have e : ∀ i ∈ List.range (l.length / 16), wireB false (unB false ((l.drop (i * 16)).take 16)) = (l.drop (i * 16)).take 16 := fun i hi => by
    have hi := List.mem_range.1 hi
    have hl : ((l.drop (i * 16)).take 16).length = 16 := by rw [List.length_take, List.length_drop]; omega
    show pad16 _ ++ [] = _
    rw [List.append_nil, pad16_eq hl]
  have e2 : (List.range (l.length / 16)).flatMap (fun i => wireB false (unB false ((l.drop (i * 16)).take 16))) = (List.range (l.length / 16)).flatMap (fun i => (l.drop (i * 16)).take 16) := by
    generalize List.range (l.length / 16) = r at *
    induction r with
    | nil => rfl
    | cons a r ih => rw [List.flatMap_cons, List.flatMap_cons, e a (by simp), ih (fun i hi => e i (by simp [hi]))]
  rw [e2, chunks_all l 16 _ (by omega), hm, List.take_length]
theorem mk_bytes {kind lba N : Nat} {l : L8} (h : l.length % 16 = 0) : packB false (mkAll kind lba (unpB false l) N) = l := by
  rw [packB_data (mkAll_data N), unpB_bytes h]
theorem mk_len {kind lba N : Nat} {l : L8} (h : l.length = 16 * N) : (mkAll kind lba (unpB false l) N).length = N := by
  rw [mkAll_len, unpB_len]
  show l.length / 16 = N
  omega
/-! ### blocks that stand every look -/
def Fine (kind : Nat) (bs : List Bk) : Prop := ∀ i (hi : i < bs.length), ∀ prot, chkB kind prot i bs[i] = 0
theorem fine_mk1 (kind lba prot : Nat) (b : Bk) : chkB kind prot lba (mk1 kind lba b) = 0 := by
  have e1 : (mk1 kind lba b).g = c16 (mk1 kind lba b).d := rfl
  have e2 : (mk1 kind lba b).r = mkR kind lba := rfl
  unfold chkB
  split
  · rfl
  · rename_i q
    have e3 : ¬ (prot ≠ 4 ∧ kind ≠ 3 ∧ (mk1 kind lba b).r ≠ lba % 4294967296) := fun e => e.2.2 (by
      have e4 : mkR kind lba = lba % 4294967296 := if_pos (by omega)
      rw [e2, e4])
    rw [if_neg (fun e => e.2 e1), if_neg e3]
theorem fine_empty (kind prot lba : Nat) : chkB kind prot lba emptyB = 0 := by
  have e : escB kind emptyB = true := by simp [escB, emptyB]
  unfold chkB
  rw [if_pos (by simp [e])]
theorem fine_rep (kind n : Nat) : Fine kind (List.replicate n emptyB) := fun i hi prot => by
  rw [List.getElem_replicate]; exact fine_empty _ _ _
theorem fine_set {kind F : Nat} {bs xs : List Bk} (h : Fine kind bs) (hF : F + xs.length ≤ bs.length) (hx : ∀ i (hi : i < xs.length) prot, chkB kind prot (F + i) xs[i] = 0) : Fine kind (setAll bs F xs xs.length) := fun i hi prot => by
  have hi' : i < bs.length := by rw [setAll_len] at hi; exact hi
  have e := setAll_get bs F xs xs.length hF i hi'
  rw [List.getElem?_eq_getElem hi] at e
  split at e
  · rename_i q
    rw [List.getElem?_eq_getElem (by omega)] at e
    rw [Option.some.inj e]
    have := hx (i - F) (by omega) prot
    rwa [show F + (i - F) = i by omega] at this
  · rw [List.getElem?_eq_getElem hi'] at e
    rw [Option.some.inj e]
    exact h i hi' prot
theorem fine_mk {kind F N : Nat} {U : List Bk} (hU : U.length = N) : ∀ i (hi : i < (mkAll kind F U N).length) prot, chkB kind prot (F + i) (mkAll kind F U N)[i] = 0 := fun i hi prot => by
  have hi' : i < U.length := by rw [mkAll_len] at hi; exact hi
  rw [mkAll_at _ _ _ _ _ hi', if_pos (by omega)]
  exact fine_mk1 _ _ _ _
theorem fine_part {kind lba k : Nat} {bs : List Bk} (h : Fine kind bs) : ∀ i (hi : i < ((bs.drop lba).take k).length) prot, chkB kind prot (lba + i) ((bs.drop lba).take k)[i] = 0 := fun i hi prot => by
  have hi2 : i < k ∧ lba + i < bs.length := by rw [List.length_take, List.length_drop] at hi; omega
  have e : ((bs.drop lba).take k)[i] = bs[lba + i]'hi2.2 := by simp
  rw [e]
  exact h _ hi2.2 prot
/-! ### where a law stands -/
structure Lwq (w u : World) (dv ps pw : Nat) (file : ByteArray) (kind n : Nat) (cache : Bool) (D : Nat → Prop) (st : Wst) (bs : List Bk) (m : Nat) (ls : List (Nat × List Value × TypeId)) (rows : List (Sl × L8)) (F : Int → Bool) : Prop where
  grow : Grow w u
  dvs : Dvq u dv ps pw file kind n cache D st bs m F
  above : ∀ k, D k → w.heap.size ≤ k
  loc : ∀ x ∈ ls, Blk u x.1 x.2.1.toArray x.2.2 ∧ ¬ D x.1
  row : ∀ x ∈ rows, Rd u 1 x.1 (bv x.2) ∧ ∀ b, x.1.blk = some b → ¬ D b ∧ b < u.heap.size
abbrev Lw (w u : World) (dv ps pw : Nat) (file : ByteArray) (kind n : Nat) (cache : Bool) (D : Nat → Prop) (st : Wst) (bs : List Bk) (m : Nat) (ls : List (Nat × List Value × TypeId)) (rows : List (Sl × L8)) : Prop := Lwq w u dv ps pw file kind n cache D st bs m ls rows quiet
section
variable {w u v : World} {dv ps pw : Nat} {file : ByteArray} {kind n : Nat} {cache : Bool} {D D' : Nat → Prop} {st st' : Wst} {bs bs' : List Bk} {m m' : Nat} {ls : List (Nat × List Value × TypeId)} {rows : List (Sl × L8)}
theorem Lwq.go {F : Int → Bool} (L : Lwq w u dv ps pw file kind n cache D st bs m ls rows F) (g : Grow u v) : Lwq w v dv ps pw file kind n cache D st bs m ls rows F :=
  ⟨L.grow.trans g, L.dvs.grow g, L.above, fun x hx => ⟨g.heap (L.loc x hx).1 (fun q => q), (L.loc x hx).2⟩, fun x hx => ⟨(L.row x hx).1.grow g, fun b hb => ⟨((L.row x hx).2 b hb).1, by have := ((L.row x hx).2 b hb).2; have := g.size; omega⟩⟩⟩
theorem Lwq.step {F : Int → Bool} (L : Lwq w u dv ps pw file kind n cache D st bs m ls rows F) (k : Keep D u v) (hd : Dvq v dv ps pw file kind n cache D' st' bs' m' F) (hD : ∀ k, D' k → D k ∨ u.heap.size ≤ k) : Lwq w v dv ps pw file kind n cache D' st' bs' m' ls rows F := by
  have sg := L.grow.size
  refine ⟨L.grow.keep k fun i hi q => by have := L.above i q; omega, hd, fun j q => ?_, fun x hx => ⟨k.heap (L.loc x hx).1 (L.loc x hx).2, fun q => ?_⟩, fun x hx => ⟨(L.row x hx).1.keep k fun a ha _ q => ?_, fun b hb => ⟨fun q => ?_, ?_⟩⟩⟩
  · rcases hD j q with r | r
    · exact L.above j r
    · omega
  · rcases hD _ q with r | r
    · exact (L.loc x hx).2 r
    · have := lt_of_heap (L.loc x hx).1; omega
  · exact ((L.row x hx).2 a.block (by simp [Sl.blk, ha])).1 q
  · have h2 := (L.row x hx).2 b hb
    rcases hD _ q with r | r
    · exact h2.1 r
    · omega
  · have h2 := (L.row x hx).2 b hb
    have := k.size
    omega
/-- a result that is held -/
theorem Lwq.res {F : Int → Bool} (L : Lwq w u dv ps pw file kind n cache D st bs m ls rows F) {s : Nat} {sn : Sn} {d : Sl} {K : Addr → World → Prop} (h : ∀ ab v, Lwq w v dv ps pw file kind n cache D st bs m ((ab, rsv s sn d, t_api_Result) :: ls) rows F → K ⟨ab, 0, none⟩ v) :
    New (.cells z10 t_api_Result) u fun a u1 => RunU Try.prog (storeVar t_api_Result a (.agg (rsv s sn d).toArray)) u1 fun x => K a x := by
  refine new_rule fun ab u1 hab hb1 hg1 hsz1 => lay_rule hb1 rfl fun u2 hb2 hk2 hsz2 => ?_
  have hg : Grow u u2 := hg1.keep hk2 fun i hi q => by omega
  have L2 := L.go hg
  refine h ab u2 ⟨L2.grow, L2.dvs, L2.above, fun x hx => ?_, L2.row⟩
  rcases List.mem_cons.1 hx with rfl | hx
  · exact ⟨hb2, fun q => by have := L.dvs.isW.lt q; omega⟩
  · exact L2.loc x hx
theorem Lwq.held {F : Int → Bool} {ab : Nat} {vs : List Value} {t : TypeId} (L : Lwq w u dv ps pw file kind n cache D st bs m ((ab, vs, t) :: ls) rows F) : Blk u ab vs.toArray t := (L.loc _ List.mem_cons_self).1
/-- blocks are written without tuples -/
theorem Lwq.write0K (L : Lw w u dv ps pw file kind n cache D st bs m ls rows) (hm : m ≤ 1000000) {c : Cm} {p : Sl} {l : L8} {K : Array Value → World → Prop} (hk : c.kind = 8 ∨ c.kind = 9) (hp0 : c.prot = 0) (hc : c.lba + c.blocks ≤ n) (hp : Rd u 1 p (bv l)) (hl : l.length = 16 * c.blocks)
    (h : ∀ v D', Keep D u v → (∀ k, D' k → D k ∨ u.heap.size ≤ k) → Lw w v dv ps pw file kind n cache D' (syncIf (syncs c.blocks (c.fua || decide (c.kind = 9)) cache) (layW st file c.lba (rsOf (mkAll kind c.lba (unpB false l) c.blocks)) c.blocks)) (setAll bs c.lba (mkAll kind c.lba (unpB false l) c.blocks) c.blocks) (m + c.blocks + 1) ls rows →
      K (rsv 0 sn0 nilS).toArray v) : Csbc_Dev_Do (some ⟨dv, 0, none⟩) (cmv c).toArray p u K := by
  have hsz := L.dvs.size
  have hkd := L.dvs.kd
  have hln := rd_n' hp
  have hkn : knownB kind c.prot = true := by unfold knownB; rw [hp0]; simp [hkd]
  have e0 : decide (c.prot ≠ 0) = false := by simpa using hp0
  have e16 : szB false = 16 := rfl
  have hcame : cameB kind c l c.blocks = mkAll kind c.lba (unpB false l) c.blocks := by unfold cameB; rw [if_pos hp0]
  refine do_spec L.dvs hm hp (by omega) (by omega) (by omega) (fun q => by rw [hkn] at q; cases q) (fun _ _ _ q => by omega) (fun _ q => by omega) (fun _ q => by omega) (fun _ _ _ q => ?_) (fun _ _ _ q => absurd hp0 q) (fun _ _ _ _ _ _ v D' hkp hdv hDD => ?_) (fun _ q => by omega)
    (fun _ _ ab v _ _ _ => ⟨fun q => by omega, fun q => by omega, fun q => by omega, fun q => by omega, fun q => by omega⟩) (fun _ a b c _ _ _ _ _ _ => by omega)
  · exfalso; rw [e0, e16] at q; omega
  · rw [hcame] at hdv
    exact h v D' hkp hDD (L.step hkp hdv hDD)
theorem Lwq.write0 (L : Lw w u dv ps pw file kind n cache D st bs m ls rows) (hm : m ≤ 1000000) {c : Cm} {p : Sl} {l : L8} {K : Array Value → World → Prop} (hk : c.kind = 8 ∨ c.kind = 9) (hp0 : c.prot = 0) (hc : c.lba + c.blocks ≤ n) (hp : Rd u 1 p (bv l)) (hl : l.length = 16 * c.blocks)
    (h : ∀ v D', Lw w v dv ps pw file kind n cache D' (syncIf (syncs c.blocks (c.fua || decide (c.kind = 9)) cache) (layW st file c.lba (rsOf (mkAll kind c.lba (unpB false l) c.blocks)) c.blocks)) (setAll bs c.lba (mkAll kind c.lba (unpB false l) c.blocks) c.blocks) (m + c.blocks + 1) ls rows →
      K (rsv 0 sn0 nilS).toArray v) : Csbc_Dev_Do (some ⟨dv, 0, none⟩) (cmv c).toArray p u K := L.write0K hm hk hp0 hc hp hl fun v D' _ _ => h v D'
theorem Dvq.ops (h : Dv u dv ps pw file kind n cache D st bs m) (k : Keep D u v) {j : Nat} (hw : IsW v pw D { st with ops := st.ops + j }) : Dv v dv ps pw file kind n cache D { st with ops := st.ops + j } bs (m + j) :=
  h.step k hw (fun _ q => .inl q) h.ok h.tells h.len (by have := h.few; show st.ops + j ≤ _ ∧ st.waits.length ≤ _; omega)
/-- blocks are read -/
theorem Lwq.readK (L : Lw w u dv ps pw file kind n cache D st bs m ls rows) (hm : m ≤ 1000000) {c : Cm} {p : Sl} {l : L8} {K : Array Value → World → Prop} (hk : c.kind = 7) (hkn : knownB kind c.prot = true) (hc : c.lba + c.blocks ≤ n) (hp : Rd u 1 p (bv l)) (hpb : p.n ≤ 140737488351232) (hf : Fine kind bs)
    (h : ∀ d v, Keep D u v → RdW u v pw D st c.blocks → Lw w v dv ps pw file kind n cache D { st with ops := st.ops + c.blocks } bs (m + c.blocks) ls ((d, packB (decide (c.prot ≠ 0)) ((bs.drop c.lba).take c.blocks)) :: rows) → d.n = c.blocks * szB (decide (c.prot ≠ 0)) → Own v u.heap.size t_uint8 1 d (bv (packB (decide (c.prot ≠ 0)) ((bs.drop c.lba).take c.blocks))) → K (rsv 0 sn0 d).toArray v) :
    Csbc_Dev_Do (some ⟨dv, 0, none⟩) (cmv c).toArray p u K := by
  have hsz := L.dvs.size
  have hlen := L.dvs.len
  refine do_spec L.dvs hm hp hpb (by omega) (by omega) (fun q => by rw [hkn] at q; cases q) (fun _ _ _ q => by omega) (fun _ _ _ _ d v hkp hw hown => ?_) (fun _ _ _ i hi q => absurd (fine_part hf i hi c.prot) q) (fun _ q => by omega) (fun _ q => by omega) (fun _ q => by omega) (fun _ q => by omega)
    (fun _ _ ab v _ _ _ => ⟨fun q => by omega, fun q => by omega, fun q => by omega, fun q => by omega, fun q => by omega⟩) (fun _ a _ _ _ _ _ _ _ _ => by omega)
  have hLl : ((bs.drop c.lba).take c.blocks).length = c.blocks := by rw [List.length_take, List.length_drop]; omega
  have hdn := own_n' hown
  rw [packB_len, hLl] at hdn
  have hs24 : szB (decide (c.prot ≠ 0)) ≤ 24 := by unfold szB; split <;> decide
  have hmul : c.blocks * szB (decide (c.prot ≠ 0)) ≤ 4096 * 24 := Nat.mul_le_mul (by omega) hs24
  have L2 := L.step hkp (L.dvs.ops hkp (hw.isW L.dvs.isW)) (fun _ q => .inl q)
  refine h d v hkp hw ⟨L2.grow, L2.dvs, L2.above, L2.loc, fun x hx => ?_⟩ hdn hown
  rcases List.mem_cons.1 hx with rfl | hx
  · refine ⟨hown.rd (by omega), fun b hb => ⟨fun q => ?_, (hown.ge b hb).2⟩⟩
    have := (hown.ge b hb).1
    have := L.dvs.isW.lt q
    omega
  · exact L2.row x hx
theorem Lwq.read (L : Lw w u dv ps pw file kind n cache D st bs m ls rows) (hm : m ≤ 1000000) {c : Cm} {p : Sl} {l : L8} {K : Array Value → World → Prop} (hk : c.kind = 7) (hkn : knownB kind c.prot = true) (hc : c.lba + c.blocks ≤ n) (hp : Rd u 1 p (bv l)) (hpb : p.n ≤ 140737488351232) (hf : Fine kind bs)
    (h : ∀ d v, Lw w v dv ps pw file kind n cache D { st with ops := st.ops + c.blocks } bs (m + c.blocks) ls ((d, packB (decide (c.prot ≠ 0)) ((bs.drop c.lba).take c.blocks)) :: rows) → d.n = c.blocks * szB (decide (c.prot ≠ 0)) → Own v u.heap.size t_uint8 1 d (bv (packB (decide (c.prot ≠ 0)) ((bs.drop c.lba).take c.blocks))) → K (rsv 0 sn0 d).toArray v) :
    Csbc_Dev_Do (some ⟨dv, 0, none⟩) (cmv c).toArray p u K := L.readK hm hk hkn hc hp hpb hf fun d v _ _ => h d v
end
end Go.Proofs.Ytaneeadpjelomaa

/- Layer 14: ranges hold nothing any more. -/
namespace Go.Proofs.Ytaneeadpjelomaa
open Go CF

theorem get_any {p : Sl} {l : L8} {at_ n : Nat} {w : World} {R : Int → Int → World → Prop} (hp : Rd w 1 p (bv l)) (hb : p.n ≤ 140737489403904) (hn : 1 ≤ n) (hn8 : n ≤ 8) (ha : at_ ≤ 140737489403904)
    (h : R ((if at_ + n ≤ l.length then num ((l.drop at_).take n) else 0 : Nat) : Int) (if at_ + n ≤ l.length then 0 else 4) w) : Cbe_Get p (at_ : Int) (n : Int) w R := by
  by_cases q : at_ + n ≤ l.length
  · rw [if_pos q, if_pos q] at h
    exact get_spec hp hb hn hn8 q h
  · rw [if_neg q, if_neg q] at h
    have hln := rd_n' hp
    refine Fbe_Get.calls _ _ _ _ _ (Fbe_field.calls _ _ _ _ _ ?_)
    have e1 : IntKind.wrap .i64 ((p.n : Int) - (n : Int)) = (p.n : Int) - (n : Int) := w64 (by omega) (by omega)
    refine br_f (by rw [Bool.or_eq_false_iff, decide_eq_false_iff_not, decide_eq_false_iff_not]; omega) (br_t (by rw [Bool.or_eq_true, decide_eq_true_eq, decide_eq_true_eq, e1]; omega) (br_t rfl h))
/-- the ranges that parameters tell -/
def rngL (l : L8) (j : Nat) : Nat := num ((l.drop (8 + 16 * j)).take 8)
def rngK (l : L8) (j : Nat) : Nat := num ((l.drop (8 + 16 * j + 8)).take 4)
def sumK (l : L8) : Nat → Nat
  | 0 => 0
  | j + 1 => sumK l j + rngK l j
def unAll (bs : List Bk) (l : L8) : Nat → List Bk
  | 0 => bs
  | j + 1 => setAll (unAll bs l j) (rngL l j) [] (rngK l j)
theorem unAll_len (bs : List Bk) (l : L8) : ∀ j, (unAll bs l j).length = bs.length
  | 0 => rfl
  | j + 1 => by simp only [unAll]; rw [setAll_len, unAll_len bs l j]
theorem sumK_mono (l : L8) {i j : Nat} (h : i ≤ j) : sumK l i ≤ sumK l j := by
  induction j with
  | zero => rw [Nat.le_zero.1 h]; exact Nat.le_refl _
  | succ j ih =>
    rcases Nat.lt_or_ge i (j + 1) with q | q
    · have := ih (by omega); simp only [sumK]; omega
    · have : i = j + 1 := by omega
      rw [this]; exact Nat.le_refl _
theorem rngK_lt (l : L8) (j : Nat) : rngK l j < 4294967296 := num_take _ 4
theorem rngL_lt (l : L8) (j : Nat) : rngL l j < 18446744073709551616 := num_take _ 8
section
variable {w u : World} {dv ps pw : Nat} {file : ByteArray} {kind n : Nat} {cache : Bool} {D D' : Nat → Prop} {st st' : Wst} {bs bs' : List Bk} {m m' : Nat}
theorem Dvq.unmap (h : Dv w dv ps pw file kind n cache D st bs m) (hm : m ≤ 1000000) {lba k : Nat} {R : Int → Int → World → Prop} (hk : lba + k ≤ n)
    (hR : ∀ u D' st', Keep D w u → Dv u dv ps pw file kind n cache D' st' (setAll bs lba [] k) (m + k + 1) → (∀ k, D' k → D k ∨ w.heap.size ≤ k) → R (k : Int) 0 u) : Cstore_Store_Unmap (some ⟨ps, 0, none⟩) (lba : Int) (k : Int) w R := by
  have hsz := h.size
  have hlen := h.len
  have hfew := h.few
  refine store_unmap_spec h.isS h.nps h.isW h.ok h.nm hsz.2 hk (by omega) (by omega) fun u D2 hk2 hw2 hD2 hS2 => ?_
  obtain ⟨lo, lw⟩ := layW_ops st file lba (fun _ => [0]) k
  have so := syncIf_ops (syncs k false cache) (layW st file lba (fun _ => [0]) k)
  have sw : (syncIf (syncs k false cache) (layW st file lba (fun _ => [0]) k)).waits.length ≤ st.waits.length + k := by
    rw [syncIf_waits]
    split
    · exact Nat.zero_le _
    · omega
  exact hR u D2 _ hk2 (h.step hk2 hw2 hD2 (syncIf_ok (layW_ok h.ok (fun _ => by decide) k (by omega))) (tells_unmap h.tells (by omega)) (by rw [setAll_len]; exact hlen) (by omega)) hD2
theorem dev_unmap_spec {p : Sl} {l : L8} {K : Array Value → World → Prop} (h : Dv w dv ps pw file kind n cache D st bs m) (hm : m ≤ 900000) (hp : Rd w 1 p (bv l)) (hb : p.n ≤ 140737488351232)
    (hpk : ∀ v, Keep D w v → Rd v 1 p (bv l))
    (k0 : l.length = 0 → ∀ u, Grow w u → K (rsv 0 sn0 nilS).toArray u)
    (kE : ∀ sn, sn.key = 5 → (l.length < 8 ∨ num ((l.drop 0).take 2) ≠ l.length - 2 ∨ num ((l.drop 2).take 2) ≠ l.length - 8 ∨ (l.length - 8) % 16 ≠ 0 ∨ (∃ j, j < (l.length - 8) / 16 ∧ n < rngL l j + rngK l j) ∨ 256 < sumK l ((l.length - 8) / 16)) → ∀ u, Grow w u → K (rsv 2 sn nilS).toArray u)
    (kG : ∀ u D' st', 8 ≤ l.length → Keep D w u → Dv u dv ps pw file kind n cache D' st' (unAll bs l ((l.length - 8) / 16)) (m + 5000) → (∀ k, D' k → D k ∨ w.heap.size ≤ k) → K (rsv 0 sn0 nilS).toArray u) :
    Csbc_Dev_unmap (some ⟨dv, 0, none⟩) p w K := by
  refine Fsbc_Dev_unmap.calls _ _ _ _ ?_
  have hsz := h.size
  have hlen := h.len
  have hln := rd_n' hp
  refine new_rule fun ab w1 hab hb1 hg1 hsz1 => ?_
  have hb1 : Blk w1 ab z10 t_api_Result := hb1
  have lD := fun k (q : D k) => h.isW.lt q
  have nab : ¬ D ab := fun q => by have := lD _ q; omega
  have ret : ∀ {v : World} {s : Nat} {sn : Sn} {d : Sl}, Grow w1 v → (∀ v', Grow w v' → K (rsv s sn d).toArray v') →
      RunU Try.prog (storeVar t_api_Result ⟨ab, 0, none⟩ (.agg (rsv s sn d).toArray)) v fun w' => ∃ res : Array Value, (loadVar t_api_Result ⟨ab, 0, none⟩).run Try.prog w' = .ok (.agg res) w' ∧ K res w' := fun g hR => ret_rule (g.heap hb1 (fun q => q)) rfl fun v' hk => hR v' (grow_new (hg1.trans g) (by omega) hk)
  by_cases hl0 : l.length = 0
  · exact br_t (by rw [beq_iff_eq]; omega) (good_spec fun v hv => ret hv (k0 hl0))
  refine br_f (by rw [beq_eq_false_iff_ne]; omega) ?_
  have hp1 := hp.grow hg1
  refine get_any (at_ := 0) (n := 2) hp1 (by omega) (by decide) (by decide) (by decide) ?_
  refine get_any (at_ := 2) (n := 2) hp1 (by omega) (by decide) (by decide) (by decide) ⟨fun _ => by decide, ?_⟩
  have n02 := num_take (l.drop 0) 2
  have n22 := num_take (l.drop 2) 2
  have p256 : (256 : Nat) ^ 2 = 65536 := rfl
  rw [p256] at n02 n22
  by_cases hform : 8 ≤ l.length ∧ num ((l.drop 0).take 2) = l.length - 2 ∧ num ((l.drop 2).take 2) = l.length - 8 ∧ (l.length - 8) % 16 = 0
  case neg =>
    refine br_t ?_ (length_spec fun v hv => ret hv (kE _ rfl (by omega)))
    by_cases h8 : l.length < 8
    · simp only [Bool.or_eq_true, decide_eq_true_eq]
      left; left; left; right; omega
    · rw [if_pos (by omega), if_pos (by omega), if_pos (by omega), w64 (by omega) (by omega), w64 (by omega) (by omega), w64 (by omega) (by omega), w64 (by omega) (by omega)]
      have em : (((num ((l.drop 2).take 2) : Nat) : Int).tmod 16) = ((num ((l.drop 2).take 2) % 16 : Nat) : Int) := rfl
      rw [em]
      simp only [Bool.or_eq_true, bne_iff_ne, ne_eq]
      by_cases q1 : num ((l.drop 0).take 2) = l.length - 2
      · by_cases q2 : num ((l.drop 2).take 2) = l.length - 8
        · right; omega
        · left; right; omega
      · left; left; right; omega
  obtain ⟨h8, hf1, hf2, hf3⟩ := hform
  rw [if_pos (by omega), if_pos (by omega), if_pos (by omega)]
  refine br_f ?_ ?_
  · rw [w64 (by omega) (by omega), w64 (by omega) (by omega), w64 (by omega) (by omega), w64 (by omega) (by omega)]
    have em : (((num ((l.drop 2).take 2) : Nat) : Int).tmod 16) = ((num ((l.drop 2).take 2) % 16 : Nat) : Int) := rfl
    rw [em]
    simp only [Bool.or_eq_false_iff, bne_eq_false_iff_eq, decide_eq_false_iff_not]
    exact ⟨⟨⟨⟨trivial, by omega⟩, by omega⟩, by omega⟩, by omega⟩
  generalize hN : (l.length - 8) / 16 = N at *
  have hlN : l.length = 8 + 16 * N := by omega
  refine ⟨fun total i v => ∃ j : Nat, i = ((8 + 16 * j : Nat) : Int) ∧ j ≤ N ∧ Grow w1 v ∧ total = ((sumK l j : Nat) : Int) ∧ sumK l j ≤ 256 ∧ ∀ k, k < j → rngL l k + rngK l k ≤ n, fun _ i _ => 8 + 16 * N - i.toNat, ⟨0, rfl, Nat.zero_le _, Keep.refl _ _, rfl, Nat.zero_le _, fun _ q => absurd q (Nat.not_lt_zero _)⟩, ?_⟩
  rintro total i v ⟨j, rfl, hj, hgv, rfl, hs, hall⟩
  by_cases hjN : j = N
  case neg =>
    refine br_t (by rw [decide_eq_true_eq]; omega) ?_
    have hjl : 8 + 16 * j + 16 ≤ l.length := by omega
    have hpv := hp1.grow hgv
    refine get_spec (at_ := 8 + 16 * j) (n := 8) hpv (by omega) (by decide) (by decide) (by omega) ?_
    have e8 : IntKind.wrap .i64 (((8 + 16 * j : Nat) : Int) + 8) = ((8 + 16 * j + 8 : Nat) : Int) := by rw [w64 (by omega) (by omega)]; omega
    rw [e8]
    refine get_spec (at_ := 8 + 16 * j + 8) (n := 4) hpv (by omega) (by decide) (by decide) (by omega) ?_
    have hrl := rngL_lt l j
    have hrk := rngK_lt l j
    show Csbc_Dev_blocks _ v fun n8 w010 => Cbe_Within ((rngL l j : Nat) : Int) ((rngK l j : Nat) : Int) n8 w010 _
    refine blocks_spec (h.grow (hg1.trans hgv)) (within_spec hrl (by omega) (by omega) ?_)
    by_cases hin : rngL l j + rngK l j ≤ n
    case neg =>
      exact br_t (by rw [decide_eq_false hin]; rfl) (at_spec (key := 5) (code := 0x2100) (info := rngL l j) fun v2 hv2 => ret (hgv.trans hv2) (kE _ rfl (.inr (.inr (.inr (.inr (.inl ⟨j, by omega, by omega⟩)))))))
    refine br_f (by rw [decide_eq_true hin]; rfl) ?_
    have et : IntKind.wrap .u64 (((sumK l j : Nat) : Int) + ((rngK l j : Nat) : Int)) = ((sumK l (j + 1) : Nat) : Int) := by rw [wu64 (by omega) (by omega)]; simp only [sumK]; omega
    show Br (decide (IntKind.wrap .u64 (((sumK l j : Nat) : Int) + ((rngK l j : Nat) : Int)) > 256)) _ _
    by_cases h256 : 256 < sumK l (j + 1)
    · have hmono := sumK_mono l (i := j + 1) (j := N) (by omega)
      refine br_t (by rw [et, decide_eq_true_eq]; omega) (fails_spec (s := ⟨5, 0x2600, 0, false, ((8 + 16 * j + 8 : Nat) : Int), -1, true, false⟩) fun v2 hv2 => ret (hgv.trans hv2) (kE _ rfl (.inr (.inr (.inr (.inr (.inr (by omega))))))))
    · have e16 : IntKind.wrap .i64 (((8 + 16 * j : Nat) : Int) + 16) = ((8 + 16 * (j + 1) : Nat) : Int) := by rw [w64 (by omega) (by omega)]; omega
      refine br_f (by rw [et, decide_eq_false_iff_not]; omega) ?_
      show (∃ j_1 : Nat, IntKind.wrap .i64 (((8 + 16 * j : Nat) : Int) + 16) = ((8 + 16 * j_1 : Nat) : Int) ∧ j_1 ≤ N ∧ Grow w1 v ∧ IntKind.wrap .u64 (((sumK l j : Nat) : Int) + ((rngK l j : Nat) : Int)) = ((sumK l j_1 : Nat) : Int) ∧ sumK l j_1 ≤ 256 ∧ ∀ k, k < j_1 → rngL l k + rngK l k ≤ n) ∧ 8 + 16 * N - (IntKind.wrap .i64 (((8 + 16 * j : Nat) : Int) + 16)).toNat < 8 + 16 * N - (((8 + 16 * j : Nat) : Int)).toNat
      rw [e16, et]
      exact ⟨⟨j + 1, rfl, by omega, hgv, rfl, by omega, fun k hk => by
        by_cases e : k = j
        · rw [e]; exact hin
        · exact hall k (by omega)⟩, by omega⟩
  subst hjN
  refine br_f (by rw [decide_eq_false_iff_not]; omega) ?_
  have hwv := hg1.trans hgv
  have hbv : Blk v ab z10 t_api_Result := hgv.heap hb1 (fun q => q)
  have lab := lt_of_heap hbv
  refine ⟨fun i x => ∃ (k : Nat) (Dk : Nat → Prop) (stk : Wst), i = ((8 + 16 * k : Nat) : Int) ∧ k ≤ j ∧ Keep D v x ∧ Dv x dv ps pw file kind n cache Dk stk (unAll bs l k) (m + sumK l k + k) ∧ (∀ q, Dk q → D q ∨ v.heap.size ≤ q), fun i _ => 8 + 16 * j - i.toNat,
    ⟨0, D, st, rfl, Nat.zero_le _, Keep.refl _ _, h.grow hwv, fun _ q => .inl q⟩, ?_⟩
  rintro i x ⟨k, Dk, stk, rfl, hk, hkx, hdx, hDk⟩
  have hkD : Keep D w x := (hwv.mono fun _ _ q => q.elim).trans hkx fun _ _ q => q
  have sv := hwv.size
  have sx := hkx.size
  by_cases hkj : k = j
  case neg =>
    refine br_t (by rw [decide_eq_true_eq]; omega) ?_
    have hpx := hpk x hkD
    refine get_spec (at_ := 8 + 16 * k) (n := 8) hpx (by omega) (by decide) (by decide) (by omega) ?_
    have e8 : IntKind.wrap .i64 (((8 + 16 * k : Nat) : Int) + 8) = ((8 + 16 * k + 8 : Nat) : Int) := by rw [w64 (by omega) (by omega)]; omega
    rw [e8]
    refine get_spec (at_ := 8 + 16 * k + 8) (n := 4) hpx (by omega) (by decide) (by decide) (by omega) ⟨rfl, some ⟨ps, 0, none⟩, dev0 hdx.dev, ?_⟩
    show Cstore_Store_Unmap _ (IntKind.wrap .i64 ((rngL l k : Nat) : Int)) (IntKind.wrap .i64 ((rngK l k : Nat) : Int)) x _
    have hin := hall k (by omega)
    rw [w64 (by omega) (by omega), w64 (by omega) (by omega)]
    have hsk := sumK_mono l (i := k) (j := j) hk
    have hsk1 := sumK_mono l (i := k + 1) (j := j) (by omega)
    have hj16 : j ≤ 4096 := by omega
    refine hdx.unmap (by omega) hin fun y Dy sty hky hdy hDy => br_f rfl ?_
    have e16 : IntKind.wrap .i64 (((8 + 16 * k : Nat) : Int) + 16) = ((8 + 16 * (k + 1) : Nat) : Int) := by rw [w64 (by omega) (by omega)]; omega
    show (∃ (k_1 : Nat) (Dk : Nat → Prop) (stk : Wst), IntKind.wrap .i64 (((8 + 16 * k : Nat) : Int) + 16) = ((8 + 16 * k_1 : Nat) : Int) ∧ k_1 ≤ j ∧ Keep D v y ∧ Dv y dv ps pw file kind n cache Dk stk (unAll bs l k_1) (m + sumK l k_1 + k_1) ∧ (∀ q, Dk q → D q ∨ v.heap.size ≤ q)) ∧ 8 + 16 * j - (IntKind.wrap .i64 (((8 + 16 * k : Nat) : Int) + 16)).toNat < 8 + 16 * j - (((8 + 16 * k : Nat) : Int)).toNat
    rw [e16]
    refine ⟨⟨k + 1, Dy, sty, rfl, by omega, hkx.trans hky fun i hi q => ?_, hdy.mono (by simp only [sumK]; omega), fun q hq => ?_⟩, by omega⟩
    · rcases hDk i q with r | r
      · exact r
      · omega
    · rcases hDy q hq with r | r
      · exact hDk q r
      · exact .inr (by omega)
  subst hkj
  refine br_f (by rw [decide_eq_false_iff_not]; omega) (good_spec fun y hy => ?_)
  have hby : Blk y ab z10 t_api_Result := hy.heap (hkx.heap hbv nab) (fun q => q)
  have nab2 : ¬ Dk ab := fun q => by
    rcases hDk _ q with r | r
    · exact nab r
    · omega
  refine ret_rule (st := 0) (s := sn0) (d := nilS) hby rfl fun z hz => ?_
  refine kG z Dk stk h8 (keepD_new (hkD.grow hy) (by omega) hz) (((hdx.grow hy).put hby tne_result (by decide) (by decide) nab2 hz).mono (by omega)) fun q hq => ?_
  rcases hDk q hq with r | r
  · exact .inl r
  · exact .inr (by omega)
end
end Go.Proofs.Ytaneeadpjelomaa

/- Layer 14: one block is written many times. -/
namespace Go.Proofs.Ytaneeadpjelomaa
open Go CF

def z16 : L8 := [0, 0, 0, 0, 0, 0, 0, 0, 0, 0, 0, 0, 0, 0, 0, 0]
def withR (b : Bk) (r : Nat) : Bk := ⟨b.d, b.g, b.a, r % 4294967296, b.hd, b.hg, b.ha, by omega⟩
/-- the block that is written at a place -/
def sameB (kind : Nat) (c : Cm) (b0 : Bk) (i : Nat) : Bk := if c.prot = 0 then mk1 kind (c.lba + i) b0 else if kind = 1 ∨ kind = 2 then withR b0 (c.lba + i) else b0
def samesB (kind : Nat) (c : Cm) (b0 : Bk) (N : Nat) : List Bk := (List.range N).map (sameB kind c b0)
theorem samesB_len (kind : Nat) (c : Cm) (b0 : Bk) (N : Nat) : (samesB kind c b0 N).length = N := by simp [samesB]
theorem samesB_succ (kind : Nat) (c : Cm) (b0 : Bk) (N : Nat) : samesB kind c b0 (N + 1) = samesB kind c b0 N ++ [sameB kind c b0 N] := by simp [samesB, List.range_succ]
theorem flat_16_uint8 : flatK Try.prog 8 t_16_uint8 = some (List.replicate 16 (.i .u8)) := by kernel_rfl
theorem kd_16_uint8 : kd Try.prog t_16_uint8 = .ag := by kernel_rfl
theorem gt_16_uint8 : Try.prog.eqGuardType Try.prog.depth t_16_uint8 = false := by kernel_rfl
theorem eq16 {x y : Operand} (a b : L8) (ha : a.length = 16) (hb : b.length = 16) : ∃ r : Bool, (r = true ↔ a = b) ∧ ∀ w, (do eqGuard .eql t_16_uint8 x y (.agg (bv a).toArray) (.agg (bv b).toArray); binOp .eql t_16_uint8 (.agg (bv a).toArray) (.agg (bv b).toArray) : Sem Value).run Try.prog w = .ok (.bool r) w := by
  obtain ⟨r, h1, h2⟩ := eql_rule (x := x) (y := y) flat_16_uint8 kd_16_uint8 gt_16_uint8 (fit_bytes a 16 ha) (fit_bytes b 16 hb)
  exact ⟨r, h1.trans ⟨bv_inj, fun h => by rw [h]⟩, h2⟩
theorem dev_come_all {w : World} {dv ps kind : Nat} {c : Cm} {p : Sl} {l : L8} {N : Nat} {R : Sl → Array Value → Bool → World → Prop} (hd : Blk w dv (dvcells ps kind) t_sbc_Dev) (hp : Rd w 1 p (bv l)) (hb : p.n ≤ 140737488351232) (hlba : c.lba ≤ 4096) (hN : N ≤ 4096)
    (hL : (l.length % szB (decide (c.prot ≠ 0)) ≠ 0 ∨ l.length / szB (decide (c.prot ≠ 0)) ≠ N) → ∀ u, Grow w u → R nilS (rsv 2 (badS 0x1a00) nilS).toArray false u)
    (hC : c.prot ≠ 0 → ∀ code info u, Grow w u → R nilS (rsv 2 (atS 11 code info) nilS).toArray false u)
    (hG : l.length / szB (decide (c.prot ≠ 0)) = N → ∀ xs u, Grow w u → Own u w.heap.size t_api_Block 19 xs ((cameB kind c l N).flatMap bc) → R xs (rsv 0 sn0 nilS).toArray true u) :
    Csbc_Dev_come (some ⟨dv, 0, none⟩) (cmv c).toArray p (N : Int) w R := by
  refine dev_come_spec hd hp hb hlba hN hL (fun q1 q2 q3 xs v hv ho => ?_) (fun q1 q2 q3 q4 xs v hv ho => ?_) (fun q1 q2 q3 i hi hz hall v hv => hC q3 _ _ v hv)
  · have e0 : decide (c.prot ≠ 0) = false := by simpa using q3
    refine hG (by rw [e0]; exact q2) xs v hv ?_
    unfold cameB; rw [if_pos q3]; exact ho
  · have e0 : decide (c.prot ≠ 0) = true := by simpa using q3
    refine hG (by rw [e0]; exact q2) xs v hv ?_
    unfold cameB; rw [if_neg q3]; exact ho
def sameN (n : Nat) (c : Cm) : Nat := if c.blocks = 0 then n - c.lba else c.blocks
section
variable {w u : World} {dv ps pw : Nat} {file : ByteArray} {kind n : Nat} {cache : Bool} {D D' : Nat → Prop} {st st' : Wst} {bs bs' : List Bk} {m m' : Nat}
theorem dev_same_any {F : Int → Bool} {c : Cm} {p : Sl} {l : L8} {K : Array Value → World → Prop} (h : Dvq w dv ps pw file kind n cache D st bs m F) (hFu : c.unmap = true → F = quiet) (hm : m ≤ 900000) (hp : Rd w 1 p (bv l)) (hb : p.n ≤ 140737488351232) (hc : c.lba + c.blocks ≤ n)
    (kL : (l.length % szB (decide (c.prot ≠ 0)) ≠ 0 ∨ l.length / szB (decide (c.prot ≠ 0)) ≠ 1) → ∀ u, Grow w u → K (rsv 2 (badS 0x1a00) nilS).toArray u)
    (kC : c.prot ≠ 0 → ∀ code info u, Grow w u → K (rsv 2 (atS 11 code info) nilS).toArray u)
    (kU : ∀ b0, cameB kind c l 1 = [b0] → c.unmap = true → b0.d = z16 → ∀ u D' st', Keep D w u → Dvq u dv ps pw file kind n cache D' st' (setAll bs c.lba [] (sameN n c)) (m + sameN n c + 1) F → (∀ k, D' k → D k ∨ w.heap.size ≤ k) → K (rsv 0 sn0 nilS).toArray u)
    (kW : ∀ b0, cameB kind c l 1 = [b0] → ¬ (c.unmap = true ∧ b0.d = z16) → (∀ i : Nat, i < sameN n c + (if syncs (sameN n c) false cache then 1 else 0) → F ((st.ops + i : Nat) : Int) = false) → ∀ u D' st', Keep D w u → Dvq u dv ps pw file kind n cache D' st' (setAll bs c.lba (samesB kind c b0 (sameN n c)) (sameN n c)) (m + sameN n c + 1) F → (∀ k, D' k → D k ∨ w.heap.size ≤ k) → K (rsv 0 sn0 nilS).toArray u)
    (kF : ∀ b0, cameB kind c l 1 = [b0] → ¬ (c.unmap = true ∧ b0.d = z16) → ∀ k : Nat, k < sameN n c + (if syncs (sameN n c) false cache then 1 else 0) → (∀ i : Nat, i < k → F ((st.ops + i : Nat) : Int) = false) → F ((st.ops + k : Nat) : Int) = true → ∀ u D' st', Keep D w u → Dvq u dv ps pw file kind n cache D' st' (setAll bs c.lba (samesB kind c b0 (sameN n c)) k) (m + sameN n c + 1) F → (∀ k, D' k → D k ∨ w.heap.size ≤ k) → K (rsv 2 (atS 3 0x0c00 (c.lba + k)) nilS).toArray u) :
    Csbc_Dev_same (some ⟨dv, 0, none⟩) (cmv c).toArray p w K := by
  refine Fsbc_Dev_same.calls _ _ _ _ _ ?_
  have hsz := h.size
  have hlen := h.len
  refine new_rule fun cb w0 hcb hb0 hg0 hsz0 => ?_
  have hb0 : Blk w0 cb (cmv c).toArray t_api_Cmd := hb0
  refine new_rule fun ab w1 hab hb1 hg1 hsz1 => ?_
  have hb1 : Blk w1 ab z10 t_api_Result := hb1
  have hgw1 := hg0.trans hg1
  have hc1 : Blk w1 cb (cmv c).toArray t_api_Cmd := hg1.heap hb0 (fun q => q)
  have lD := fun k (q : D k) => h.isW.lt q
  have nab : ¬ D ab := fun q => by have := lD _ q; omega
  have ncb : ¬ D cb := fun q => by have := lD _ q; omega
  have sw := hg0.size
  have cAt : ∀ {v : World} {i : Nat} {x : Value}, Grow w1 v → (cmv c).toArray[i]? = some x → v.cell? ((⟨cb, 0, none⟩ : Addr).add i) = some x := fun g e => by rw [add0, Blk.cell (g.heap hc1 (fun q => q)), Nat.zero_add]; exact e
  refine ⟨(c.blocks : Int), cAt (Keep.refl _ _) rfl, ?_⟩
  have hNle : c.lba + sameN n c ≤ n := by unfold sameN; split <;> omega
  refine letX1 (fun (n1 : Int) v => n1 = (sameN n c : Int) ∧ Grow w1 v) ?_ (fun J => ?_)
  case refine_2 =>
    refine br_eq (fun q => ?_) (fun q => J _ _ ⟨by unfold sameN; rw [if_neg (by omega)], Keep.refl _ _⟩)
    rintro w2 rfl
    have hg2 : Grow w1 w1.drew := keep_drew w1
    refine ⟨fun v => Grow w1 v, hg2, (c.lba : Int), fun v hv => cAt hv rfl, blocks_spec (h.grow (hgw1.trans hg2)) ⟨hg2, J _ _ ⟨?_, hg2⟩⟩⟩
    unfold sameN; rw [if_pos (by omega), wu64 (by omega) (by omega)]; omega
  rintro n1 v ⟨rfl, hgv⟩
  have hcv := hgv.heap hc1 (fun q => q)
  have hav := hgv.heap hb1 (fun q => q)
  have hwv := hgw1.trans hgv
  have hv := h.grow hwv
  have sv := hwv.size
  have lab := lt_of_heap hav
  generalize hNN : sameN n c = N at *
  refine ⟨_, cLoad (blk_cells hcv), ?_⟩
  have fault : ∀ {y : World} {sn : Sn}, Grow v y → (∀ z, Grow w z → K (rsv 2 sn nilS).toArray z) → ∀ rb z, rb = y.heap.size → Blk z rb (rsv 2 sn nilS).toArray t_api_Result → Grow y z →
      ∃ g10 : Array Value, (loadVar t_api_Result ⟨rb, 0, none⟩).run Try.prog z = .ok (.agg g10) z ∧ RunU Try.prog (storeVar t_api_Result ⟨ab, 0, none⟩ (.agg g10)) z fun w028 => ∃ res6 : Array Value, (loadVar t_api_Result ⟨ab, 0, none⟩).run Try.prog w028 = .ok (.agg res6) w028 ∧ K res6 w028 := by
    intro y sn hy hR rb z hrb hbz hyz
    exact ⟨_, rLoad (blk_cells hbz), ret_rule ((hy.trans hyz).heap hav (fun q => q)) rfl fun z' hk' => hR z' (grow_new ((hwv.trans hy).trans hyz) (by omega) hk')⟩
  refine dev_come_all (N := 1) hv.dev (hp.grow hwv) hb (by omega) (by decide) (fun q y hy => ?_) (fun q code info y hy => ?_) (fun hl1 xs y hy ho => ?_)
  · refine new_rule fun rb w5 hrb hb5 hg5 hsz5 => lay_rule hb5 rfl fun w6 hb6 hk6 hsz6 => br_t rfl ?_
    exact fault hy (kL q) rb w6 hrb hb6 (hg5.keep hk6 fun i hi q => by omega)
  · refine new_rule fun rb w5 hrb hb5 hg5 hsz5 => lay_rule hb5 rfl fun w6 hb6 hk6 hsz6 => br_t rfl ?_
    exact fault hy (kC q code info) rb w6 hrb hb6 (hg5.keep hk6 fun i hi q => by omega)
  refine new_rule fun rb w5 hrb hb5 hg5 hsz5 => lay_rule hb5 rfl fun w6 hb6 hk6 hsz6 => br_f rfl ?_
  have hy6 : Grow y w6 := hg5.keep hk6 fun i hi q => by omega
  have hv6 := hy.trans hy6
  have hw6 := hwv.trans hv6
  have hcl := cameB_len (kind := kind) (c := c) (l := l) (N := 1) hl1
  obtain ⟨b0, hb0c⟩ : ∃ b0, cameB kind c l 1 = [b0] := by
    match hq : cameB kind c l 1, hcl with
    | [b0], _ => exact ⟨b0, rfl⟩
  have kU := kU b0 hb0c
  have kW := kW b0 hb0c
  have kF := kF b0 hb0c
  rw [hb0c] at ho
  have ho6 : Own w6 w.heap.size t_api_Block 19 xs ([b0].flatMap bc) := (ho.grow hy6).mono sv
  have hxn : xs.n = 1 := by have := ho6.len; rw [flat_bc_len] at this; simp at this; omega
  have hat : ∀ z, Grow w6 z → ∃ a, xs.A = some a ∧ Cells z (a.add (0 * 19)) (bc b0) := fun z hz => rd_bk_at ((ho6.grow hz).rd (by omega)) (i := 0) Nat.zero_lt_one
  have hat' : ∀ z, Grow w6 z → Cells z ((gA xs.A).add ((0 : Int).toNat * 19)) (bc b0) := fun z hz => by
    obtain ⟨a, ha, hc⟩ := hat z hz
    rw [ha]; exact hc
  have bd : (0 : Int) ≤ (0 : Int) ∧ (0 : Int) < (xs.n : Int) ∧ xs.A.isSome = true := by
    obtain ⟨a, ha, _⟩ := hat w6 (Keep.refl _ _)
    exact ⟨by decide, by omega, by rw [ha]; rfl⟩
  have hc6 := hv6.heap hcv (fun q => q)
  have ha6 := hv6.heap hav (fun q => q)
  have h6 := h.grow hw6
  have s6 := hv6.size
  obtain ⟨r, hr, hrun⟩ := eq16 (x := .tmp 42) (y := .tmp 43) b0.d z16 b0.hd rfl
  refine ⟨c.unmap, by rw [add0, Blk.cell hc6]; rfl, fun _ => bd, (bv b0.d).toArray, fun _ => dLoad b0.hd (cells_head (hat' w6 (Keep.refl _ _))), r, fun _ => hrun w6, ?_⟩
  have lastS : ∀ {s2 : Nat} {sn2 : Sn} {D2 : Nat → Prop} {st2 : Wst} {B2 : List Bk} {m2 : Nat} {y2 : World}, Keep D w6 y2 → Dvq y2 dv ps pw file kind n cache D2 st2 B2 m2 F → (∀ k, D2 k → D k ∨ w6.heap.size ≤ k) → (∀ z, Keep D w z → Dvq z dv ps pw file kind n cache D2 st2 B2 m2 F → (∀ k, D2 k → D k ∨ w.heap.size ≤ k) → K (rsv s2 sn2 nilS).toArray z) →
      RunU Try.prog (storeVar t_api_Result ⟨ab, 0, none⟩ (.agg (rsv s2 sn2 nilS).toArray)) y2 fun w' => ∃ res : Array Value, (loadVar t_api_Result ⟨ab, 0, none⟩).run Try.prog w' = .ok (.agg res) w' ∧ K res w' := by
    intro s2 sn2 D2 st2 B2 m2 y2 hk2 hd2 hD2 hK
    have hby : Blk y2 ab z10 t_api_Result := hk2.heap ha6 nab
    have nab2 : ¬ D2 ab := fun q => by
      rcases hD2 _ q with r | r
      · exact nab r
      · omega
    refine ret_rule (st := s2) (s := sn2) (d := nilS) hby rfl fun z hz => hK z (keepD_new ((hw6.mono fun _ _ q => q.elim).trans hk2 fun _ _ q => q) (by omega) hz) (hd2.put hby tne_result (by decide) (by decide) nab2 hz) fun k q => ?_
    rcases hD2 k q with r | r
    · exact .inl r
    · exact .inr (by omega)
  by_cases hun : c.unmap = true ∧ b0.d = z16
  · refine br_t (by rw [hun.1, hr.2 hun.2]; rfl) ?_
    rintro w7 rfl
    have hg7 : Grow w6 w6.drew := keep_drew w6
    have h7 := h6.grow hg7
    refine ⟨fun z => Grow w6 z, hg7, rfl, some ⟨ps, 0, none⟩, fun z hz => dev0 (h6.grow hz).dev, (c.lba : Int), fun z hz => by rw [add0, Blk.cell (hz.heap hc6 (fun q => q))]; rfl, ?_⟩
    rw [w64 (by omega) (by omega), w64 (by omega) (by omega)]
    have hF0 := hFu hun.1
    subst hF0
    refine h7.unmap (by omega) hNle fun y2 D2 st2 hk2 hd2 hD2 => br_f rfl (good_spec fun y3 hy3 => ?_)
    refine lastS (((hg7.mono fun _ _ q => q.elim).trans hk2 fun _ _ q => q).grow hy3) (hd2.grow hy3) hD2 fun z hz hdz hDz => ?_
    exact kU hun.1 hun.2 z D2 st2 hz hdz hDz
  · have hguard : (c.unmap && r) = false := by
      cases hu : c.unmap with
      | false => rfl
      | true =>
        cases hr' : r with
        | false => rfl
        | true => exact absurd ⟨hu, hr.1 hr'⟩ hun
    refine br_f hguard ⟨fun all x z => ∃ j : Nat, x = j ∧ j ≤ N ∧ Grow w6 z ∧ Own z w6.heap.size t_api_Block 19 all ((samesB kind c b0 j).flatMap bc), fun _ x _ => N - x.toNat, ⟨0, rfl, Nat.zero_le _, Keep.refl _ _, own_nil _ _ _ _⟩, ?_⟩
    rintro all x z ⟨j, rfl, hj, hgz, hown⟩
    have han : all.n = j := by have := hown.len; rw [flat_bc_len, samesB_len] at this; omega
    refine br_nat (fun hlt => ?_) (fun hge => ?_)
    · refine letX1 (fun all1 y2 => Grow w6 y2 ∧ Own y2 w6.heap.size t_api_Block 19 all1 ((samesB kind c b0 (j + 1)).flatMap bc)) (fun all1 y2 hy2 => by
        rw [wu64 (by omega) (by omega)]
        exact ⟨⟨j + 1, by omega, by omega, hy2.1, hy2.2⟩, by dsimp only; omega⟩) (fun J2 => ?_)
      refine ⟨bd, (bc b0).toArray, bLoad (hat' z hgz), ?_⟩
      refine new_rule fun bb w8 hbb hb8 hg8 hsz8 => ?_
      refine storeVar_rule (cells := (bc b0).toArray) hb8 i_api_Block (by simp [bc_len]) (by simp [bc_len]) (bc_all _) fun w9 hb9 hk9 hsz9 => ?_
      have hz9 : Grow z w9 := hg8.keep hk9 fun i hi q => by omega
      have h69 := hgz.trans hz9
      refine ⟨(c.prot : Int), by rw [add0, Blk.cell (h69.heap hc6 (fun q => q))]; rfl, ?_⟩
      have sz := hgz.size
      refine letX0 (fun y2 => Grow w6 y2 ∧ Own y2 w6.heap.size t_api_Block 19 all ((samesB kind c b0 j).flatMap bc) ∧ Blk y2 bb (bc (sameB kind c b0 j)).toArray t_api_Block) ?_ (fun J3 => ?_)
      · rintro y2 ⟨g2, o2, b2⟩
        refine ⟨_, bLoad (blk_cells b2), ?_⟩
        refine lit_rule (cells := (bc (sameB kind c b0 j)).toArray) (e := t_api_Block) (z := 19) (base := 0) (lit_block _ _) (by simp [bc_len]) (by decide) (Nat.zero_le _) fun y3 hlit3 hg3 _ => ?_
        refine append_rule u_sl_api_Block i_api_Block rfl (by decide) (by decide) (o2.grow hg3) (hlit3.rd (by show 1 ≤ _; decide)) (fun x hx => bc_ones _ x (by simpa using hx)) (by show (all.n + 1) * 24 ≤ _; omega) (g2.trans hg3).size fun s' y4 hn4 hown4 hk4 _ => ?_
        refine J2 s' y4 ⟨own_grow' (g2.trans hg3) (o2.grow hg3) (Nat.le_refl _) hk4, ?_⟩
        rw [samesB_succ, List.flatMap_append]
        simpa using hown4
      · have o9 := hown.grow hz9
        have e64 : IntKind.wrap .u64 ((c.lba : Int) + (j : Int)) = ((c.lba + j : Nat) : Int) := by rw [wu64 (by omega) (by omega)]; omega
        have nbb : all.blk ≠ some bb := fun q => by have := (hown.ge bb q).2; omega
        by_cases hp0 : c.prot = 0
        · refine br_t (by rw [beq_iff_eq]; omega) ?_
          rintro y2 rfl
          have g2 : Grow w6 w9.drew := h69.trans (keep_drew w9)
          refine ⟨fun q => Grow w9 q, keep_drew w9, rfl, (kind : Int), fun q hq => dev1 (h6.grow (h69.trans hq)).dev, (c.lba : Int), fun q hq => by rw [add0, Blk.cell ((h69.trans hq).heap hc6 (fun q => q))]; rfl, (bv b0.d).toArray, fun q hq => dLoad b0.hd (cells_head (blk_cells (hq.heap hb9 (fun q => q)))), ?_⟩
          rw [e64]
          refine make_spec (app := 0) b0.hd fun y3 hy3 => ?_
          have hb3 : Blk y3 bb (bc b0).toArray t_api_Block := ((keep_drew w9).trans hy3).heap hb9 (fun q => q)
          rw [add0, Nat.zero_add]
          refine storeAt_rule (o := 16) (cells := (tc (c16 b0.d) 0 (mkR kind (c.lba + j))).toArray) hb3 i_api_Tuple rfl (by simp [bc_len, tc]) (by intro v hv; simp [tc] at hv; rcases hv with rfl | rfl | rfl <;> rfl) fun y4 hb4 hk4 hsz4 => ?_
          have g3 := g2.trans hy3
          refine J3 y4 ⟨g3.keep hk4 fun i hi q => by omega, (((o9.grow (keep_drew w9)).grow hy3).keep hk4 fun b hbb q => nbb (by rw [hbb, q])), ?_⟩
          have e : (bc b0).take 16 ++ tc (c16 b0.d) 0 (mkR kind (c.lba + j)) ++ (bc b0).drop (16 + 3) = bc (sameB kind c b0 j) := by
            rw [bc_head, List.drop_of_length_le (by rw [bc_len]; decide), List.append_nil]
            unfold sameB; rw [if_pos hp0]; rfl
          rw [← e]; exact hb4
        · refine br_f (by rw [beq_eq_false_iff_ne]; omega) ⟨rfl, (kind : Int), dev1 (h6.grow h69).dev, fun _ => rfl, (kind : Int), fun _ => dev1 (h6.grow h69).dev, ?_⟩
          by_cases hk12 : kind = 1 ∨ kind = 2
          · refine br_t (by rw [Bool.or_eq_true, beq_iff_eq, beq_iff_eq]; omega) ⟨(c.lba : Int), by rw [add0, Blk.cell (h69.heap hc6 (fun q => q))]; rfl, ?_⟩
            rw [e64, add0, add0]
            refine put_rule hb9 (by simp [bc_len]) rfl fun y2 hb2 hk2 _ => J3 y2 ⟨h69.keep hk2 fun i hi q => by omega, o9.keep hk2 fun b hbb q => nbb (by rw [hbb, q]), ?_⟩
            have e : ((bc b0).toArray.setIfInBounds (0 + 16 + 2) (.int .u32 (IntKind.wrap .u32 ((c.lba + j : Nat) : Int)))) = (bc (sameB kind c b0 j)).toArray := by
              have ew : IntKind.wrap .u32 ((c.lba + j : Nat) : Int) = (((c.lba + j) % 4294967296 : Nat) : Int) := by
                have e : IntKind.wrap .u32 ((c.lba + j : Nat) : Int) = ((c.lba + j : Nat) : Int) % 4294967296 := by simp [IntKind.wrap, IntKind.signed, IntKind.bits]
                rw [e]; omega
              rw [ew]
              unfold sameB; rw [if_neg hp0, if_pos hk12]
              have hl16 : (bv b0.d).length = 16 := by rw [bv_length, b0.hd]
              show ((bv b0.d ++ [_, _, _]).toArray.setIfInBounds 18 _) = (bv b0.d ++ [_, _, _]).toArray
              rw [← Array.toList_inj]
              simp only [Array.toList_setIfInBounds]
              rw [List.set_append_right _ _ (by omega), hl16]; rfl
            rw [← e]; exact hb2
          · refine br_f (by rw [Bool.or_eq_false_iff, beq_eq_false_iff_ne, beq_eq_false_iff_ne]; omega) (J3 w9 ⟨h69, o9, ?_⟩)
            unfold sameB; rw [if_neg hp0, if_neg hk12]; exact hb9
    · have hjN : j = N := by omega
      subst hjN
      refine ⟨(c.lba : Int), by rw [add0, Blk.cell (hgz.heap hc6 (fun q => q))]; rfl, ?_⟩
      have hz6 := h6.grow hgz
      have sz := hgz.size
      refine dev_write_any (L := samesB kind c b0 j) hz6 (by omega) (by rw [samesB_len]; omega) (fun q hq => ?_) (fun hfl y2 D2 hk2 hd2 hD2 => ?_) (fun k hkl hfl hf y2 D2 hk2 hd2 hD2 => ?_)
      · have oo := hown.keep hq fun b hbb e => by
          have := (hown.ge b hbb).1
          have := lD _ e
          omega
        exact oo.rd (by have := oo.len; rw [flat_bc_len, samesB_len] at this; omega)
      · rw [samesB_len] at hd2 hfl
        refine lastS ((hgz.mono fun _ _ q => q.elim).trans hk2 fun _ _ q => q) hd2 (fun k q => ?_) fun q hq hdq hDq => kW hun hfl q D2 _ hq hdq hDq
        rcases hD2 k q with r | r
        · exact .inl r
        · exact .inr (by omega)
      · rw [samesB_len] at hd2 hkl
        refine lastS ((hgz.mono fun _ _ q => q.elim).trans hk2 fun _ _ q => q) hd2 (fun k q => ?_) fun q hq hdq hDq => kF hun k hkl hfl hf q D2 _ hq hdq hDq
        rcases hD2 k q with r | r
        · exact .inl r
        · exact .inr (by omega)
theorem dev_same_spec {c : Cm} {p : Sl} {l : L8} {K : Array Value → World → Prop} (h : Dv w dv ps pw file kind n cache D st bs m) (hm : m ≤ 900000) (hp : Rd w 1 p (bv l)) (hb : p.n ≤ 140737488351232) (hc : c.lba + c.blocks ≤ n)
    (kL : (l.length % szB (decide (c.prot ≠ 0)) ≠ 0 ∨ l.length / szB (decide (c.prot ≠ 0)) ≠ 1) → ∀ u, Grow w u → K (rsv 2 (badS 0x1a00) nilS).toArray u)
    (kC : c.prot ≠ 0 → ∀ code info u, Grow w u → K (rsv 2 (atS 11 code info) nilS).toArray u)
    (kU : ∀ b0, cameB kind c l 1 = [b0] → c.unmap = true → b0.d = z16 → ∀ u D' st', Keep D w u → Dv u dv ps pw file kind n cache D' st' (setAll bs c.lba [] (sameN n c)) (m + sameN n c + 1) → (∀ k, D' k → D k ∨ w.heap.size ≤ k) → K (rsv 0 sn0 nilS).toArray u)
    (kW : ∀ b0, cameB kind c l 1 = [b0] → ¬ (c.unmap = true ∧ b0.d = z16) → ∀ u D' st', Keep D w u → Dv u dv ps pw file kind n cache D' st' (setAll bs c.lba (samesB kind c b0 (sameN n c)) (sameN n c)) (m + sameN n c + 1) → (∀ k, D' k → D k ∨ w.heap.size ≤ k) → K (rsv 0 sn0 nilS).toArray u) :
    Csbc_Dev_same (some ⟨dv, 0, none⟩) (cmv c).toArray p w K :=
  dev_same_any h (fun _ => rfl) hm hp hb hc kL kC kU (fun b0 e q _ => kW b0 e q) (fun _ _ _ k _ _ q => by cases q)
end
end Go.Proofs.Ytaneeadpjelomaa

/- Layer 14: devices made; results compared; the device is awake. -/
namespace Go.Proofs.Ytaneeadpjelomaa
open Go CF

theorem rd_nilB (w : World) : Rd w 1 nilS (bv []) := rd_nil w 1
theorem device_specK {n kind : Nat} {cache : Bool} {w : World} {R : Option Addr → Option Addr → World → Prop} (hn : 1 ≤ n ∧ n ≤ 4096) (hk : kind ≤ 3)
    (h : ∀ dv ps pw D v, w.heap.size ≤ dv → w.heap.size ≤ ps → Lw w v dv ps pw s_f kind n cache D st0 (List.replicate n emptyB) 0 [] [] → R (some ⟨dv, 0, none⟩) (some ⟨pw, 0, none⟩) v) : Cpalletlaw14_device (n : Int) (kind : Int) cache w R := by
  refine Fpalletlaw14_device.calls _ _ _ _ _ ?_
  refine world_new_spec fun pw D w1 hg1 hw1 hD1 => ?_
  refine open_spec (blocks := n) (by decide) hn fun ps w2 hps hg2 hS2 => br_f rfl ?_
  refine new_rule fun dv w3 hdv hb3 hg3 hsz3 => ?_
  have s1 := hg1.size
  have s2 := hg2.size
  have lD := fun k (q : D k) => hw1.lt q
  have lps := lt_of_heap hS2
  refine h dv ps pw D w3 (by omega) (by omega) ⟨(hg1.trans hg2).trans hg3, ⟨hb3, hg3.heap hS2 (fun q => q), (hw1.grow hg2).grow hg3, fun q => (by have := lD _ q; omega), fun q => (by have := lD _ q; omega), fun c hc => (by cases hc), tells_empty n s_f, List.length_replicate, hn, by decide, hk, ⟨Nat.le_refl _, Nat.le_refl _⟩⟩,
    hD1, fun x hx => (by cases hx), fun x hx => (by cases hx)⟩
theorem device_spec {n kind : Nat} {cache : Bool} {w : World} {R : Option Addr → Option Addr → World → Prop} (hn : 1 ≤ n ∧ n ≤ 4096) (hk : kind ≤ 3)
    (h : ∀ dv ps pw D v, Lw w v dv ps pw s_f kind n cache D st0 (List.replicate n emptyB) 0 [] [] → R (some ⟨dv, 0, none⟩) (some ⟨pw, 0, none⟩) v) : Cpalletlaw14_device (n : Int) (kind : Int) cache w R := device_specK hn hk fun dv ps pw D v _ _ => h dv ps pw D v
theorem bytes14_spec {n b : Nat} {w : World} {R : Sl → World → Prop} (hn : n ≤ 100000) (hb : b < 256) (h : ∀ s v, Own v w.heap.size t_uint8 1 s (bv (List.replicate n (UInt8.ofNat b))) → Grow w v → s.n = n → R s v) : Cpalletlaw14_bytes (n : Int) (b : Int) w R := by
  refine Fpalletlaw14_bytes.calls _ _ _ _ ?_
  refine make_rule (base := w.heap.size) u_sl_uint8 i_uint8 rfl (by omega) (by omega) (Nat.le_refl _) fun w1 hown1 hg1 hsz1 => ?_
  have hrep : (List.replicate n (Value.int .u8 0)) = bv (List.replicate n 0) := by simp [bv]
  rw [hrep] at hown1
  have eb : (b : Int) = ((UInt8.ofNat b).toNat : Int) := by rw [UInt8.toNat_ofNat']; omega
  refine ⟨fun i u => ∃ j : Nat, i = j ∧ j ≤ n ∧ Grow w u ∧ Own u w.heap.size t_uint8 1 ⟨some ⟨w.heap.size, 0, none⟩, n, n⟩ (bv (List.replicate j (UInt8.ofNat b) ++ List.replicate (n - j) 0)), fun i _ => n - i.toNat, ⟨0, rfl, Nat.zero_le _, hg1, by simpa using hown1⟩, ?_⟩
  rintro i u ⟨j, rfl, hj, hgu, hown⟩
  refine br_nat (fun hlt => ?_) (fun hge => ?_)
  · refine ⟨⟨by omega, by show (j : Int) < (n : Int); omega, rfl⟩, ?_⟩
    rw [eb, Int.toNat_natCast]
    refine own_put hown (i := j) (by show j < n; omega) rfl fun w3 hown3 hk3 _ => ?_
    rw [bv_set] at hown3
    have e : (List.replicate j (UInt8.ofNat b) ++ List.replicate (n - j) 0).set j (UInt8.ofNat b) = List.replicate (j + 1) (UInt8.ofNat b) ++ List.replicate (n - (j + 1)) 0 := by
      rw [List.set_append_right _ _ (by simp), List.length_replicate, Nat.sub_self, show n - j = (n - (j + 1)) + 1 by omega, List.replicate_succ, List.set_cons_zero, List.replicate_succ' (n := j), List.append_assoc]; rfl
    rw [e] at hown3
    rw [w64 (by omega) (by omega)]
    exact ⟨⟨j + 1, by omega, by omega, own_grow' hgu hown (Nat.le_refl _) hk3, hown3⟩, by dsimp only; omega⟩
  · have : j = n := by omega
    subst this
    rw [Nat.sub_self, List.replicate_zero, List.append_nil] at hown
    exact h _ u hown hgu rfl
/-! ### the reference's results -/
theorem ends14_spec {key code : Nat} {w : World} {R : Array Value → World → Prop} (h : ∀ w', Grow w w' → R (rsv 2 ⟨key, code, 0, false, 0, 0, false, false⟩ nilS).toArray w') : Cpalletref14_Ends (key : Int) (code : Int) w R := by
  refine Fpalletref14_Ends.calls _ _ _ _ ?_
  refine new_rule fun ab w1 hab hb1 hg1 hsz1 => ⟨(rsv 2 ⟨key, code, 0, false, 0, 0, false, false⟩ nilS).toArray, by kernel_rfl, ?_⟩
  exact ret_rule hb1 rfl fun w2 hk2 => h w2 (grow_new hg1 (by omega) hk2)
theorem at14_spec {key code info : Nat} {w : World} {R : Array Value → World → Prop} (h : ∀ w', Grow w w' → R (rsv 2 (atS key code info) nilS).toArray w') : Cpalletref14_At (key : Int) (code : Int) (info : Int) w R := by
  refine Fpalletref14_At.calls _ _ _ _ _ ?_
  refine new_rule fun ab w1 hab hb1 hg1 hsz1 => ?_
  refine ends14_spec fun w2 hg2 => ?_
  refine new_rule fun rb w3 hrb hb3 hg3 hsz3 => lay_rule hb3 rfl fun w4 hb4 hk4 hsz4 => ?_
  have hg24 : Grow w2 w4 := hg3.keep hk4 fun i hi q => by omega
  rw [add0, add0, add0]
  refine put_rule hb4 (by show 3 < 10; decide) rfl fun w5 hb5 hk5 hsz5 => ?_
  refine put_rule hb5 (by show 4 < 10; decide) rfl fun w6 hb6 hk6 hsz6 => ?_
  have hb6 : Blk w6 rb (rsv 2 (atS key code info) nilS).toArray t_api_Result := hb6
  refine ⟨_, rLoad (blk_cells hb6), ?_⟩
  have hg16 : Grow w1 w6 := ((hg2.trans hg24).keep hk5 fun i hi q => by have := hg2.size; omega).keep hk6 fun i hi q => by have := hg2.size; omega
  exact ret_rule (hg16.heap hb1 (fun q => q)) rfl fun w7 hk7 => h w7 (grow_new (hg1.trans hg16) (by omega) hk7)
def kSn : List Kd := [.i .u8, .i .u16, .i .u64, .b, .i .i64, .i .i64, .b, .b]
theorem flat_api_Sense : flatK Try.prog 8 t_api_Sense = some kSn := by kernel_rfl
theorem kd_api_Sense : kd Try.prog t_api_Sense = .ag := by kernel_rfl
theorem gt_api_Sense : Try.prog.eqGuardType Try.prog.depth t_api_Sense = false := by kernel_rfl
theorem fit_snv (s : Sn) : FitL kSn (snv s) := ⟨rfl, rfl, rfl, rfl, rfl, rfl, rfl, rfl, trivial⟩
theorem rsv_sense {w : World} {b : Nat} {s : Nat} {sn : Sn} {d : Sl} (h : Blk w b (rsv s sn d).toArray t_api_Result) : Cells w ((⟨b, 0, none⟩ : Addr).add 1) (snv sn) := fun j v hj => by
  rw [addr_add]
  refine blk_cells h (1 + j) v ?_
  have : j < 8 := (List.getElem?_eq_some_iff.1 hj).1
  unfold rsv
  rw [List.append_assoc, List.getElem?_append_right (by simp), show 1 + j - [Value.int .u8 (s : Int)].length = j by simp, List.getElem?_append_left (by exact this)]
  exact hj
theorem same14_spec {s : Nat} {sn : Sn} {d1 d2 : Sl} {l : L8} {w : World} {R : Bool → World → Prop} (h1 : Rd w 1 d1 (bv l)) (h2 : Rd w 1 d2 (bv l)) (h : ∀ w', Grow w w' → R true w') : Cpalletref14_Same (rsv s sn d1).toArray (rsv s sn d2).toArray w R := by
  refine Fpalletref14_Same.calls _ _ _ _ ?_
  refine new_rule fun ab w1 hab hb1 hg1 hsz1 => ?_
  refine new_rule fun bb w2 hbb hb2 hg2 hsz2 => ?_
  have hb1 : Blk w2 ab (rsv s sn d1).toArray t_api_Result := hg2.heap hb1 (fun q => q)
  have hb2 : Blk w2 bb (rsv s sn d2).toArray t_api_Result := hb2
  obtain ⟨r, hr, hrun⟩ := eql_rule (x := .tmp 12) (y := .tmp 14) flat_api_Sense kd_api_Sense gt_api_Sense (fit_snv sn) (fit_snv sn)
  have hr1 : r = true := hr.2 rfl
  subst hr1
  have g := hg1.trans hg2
  refine ⟨(s : Int), by rw [add0, hb1.cell]; rfl, (s : Int), by rw [add0, hb2.cell]; rfl, (snv sn).toArray, fun _ => sLoad (rsv_sense hb1), (snv sn).toArray, fun _ => sLoad (rsv_sense hb2), true, fun _ => hrun w2, d1, fun _ => by rw [add0, hb1.cell]; rfl, str l,
    fun _ => convStr_rule u_sl_uint8 u_uint8 u_string (h1.grow g), d2, fun _ => by rw [add0, hb2.cell]; rfl, str l, fun _ => convStr_rule u_sl_uint8 u_uint8 u_string (h2.grow g), ?_⟩
  have := h w2 g
  simpa [sEq_str] using this
/-! ### awake -/
theorem awake14_spec {w : World} {R : Bool → World → Prop} (h : ∀ w', Grow w w' → R true w') : Cpalletlaw14_awake w R := by
  refine Fpalletlaw14_awake.calls _ _ ?_
  refine device_spec (n := 4) (kind := 0) (cache := true) (by decide) (by decide) fun dv ps pw D w0 L0 => br_f rfl ?_
  refine bytes14_spec (n := 16) (b := 170) (by decide) (by decide) fun xs w1 hown1 hg1 hn1 => ?_
  have L1 := L0.go hg1
  have hw0 := L0.grow.size
  generalize hl : List.replicate 16 (UInt8.ofNat 170) = l at *
  have hll : l.length = 16 := by rw [← hl]; simp
  refine L1.write0 (by decide) (c := ⟨8, false, 1, 1, 0, false, 0, false, false, 0, 0, false, 0, 0, false⟩) (.inl rfl) rfl (by decide) (hown1.rd (by omega)) hll fun w2 D2 L2 => ?_
  refine L2.res fun ab w3 L3 => ?_
  have hmk := mk_len (kind := 0) (lba := 1) (N := 1) (l := l) (by omega)
  have hfine : Fine 0 (setAll (List.replicate 4 emptyB) 1 (mkAll 0 1 (unpB false l) 1) 1) := by
    have := fine_set (fine_rep 0 4) (F := 1) (xs := mkAll 0 1 (unpB false l) 1) (by rw [hmk]; decide) (fine_mk (by rw [unpB_len, hll]; rfl))
    rwa [hmk] at this
  have hrd := setAll_read (bs := List.replicate 4 emptyB) (F := 1) (xs := mkAll 0 1 (unpB false l) 1) (by rw [hmk]; decide)
  rw [hmk] at hrd
  refine L3.read (by decide) (c := ⟨7, false, 1, 1, 0, false, 0, false, false, 0, 0, false, 0, 0, false⟩) rfl rfl (by decide) (rd_nilB _) (by decide) hfine fun d w4 L4 hdn hown4 => ?_
  refine L4.res fun bb w5 L5 => ?_
  have L5row := (L5.row _ List.mem_cons_self).1
  rintro w6 rfl
  have hg6 : Grow w5 w5.drew := keep_drew w5
  have e1 : packB (decide ((0 : Nat) ≠ 0)) (((setAll (List.replicate 4 emptyB) 1 (mkAll 0 1 (unpB false l) 1) 1).drop 1).take 1) = l := by
    rw [hrd]; exact mk_bytes (by rw [hll])
  have L5row : Rd w5 1 d (bv l) := by rw [← e1]; exact L5row
  have hb5 := L5.held
  have ha5 : Blk w5 ab _ t_api_Result := (L5.loc _ (List.mem_cons_of_mem _ List.mem_cons_self)).1
  have ca : ∀ u, Grow w5 u → u.cell? ((⟨ab, 0, none⟩ : Addr).add 0) = some (.int .u8 0) := fun u hu => by rw [add0, Blk.cell (hu.heap ha5 (fun q => q))]; rfl
  have cb : ∀ u, Grow w5 u → u.cell? ((⟨bb, 0, none⟩ : Addr).add 0) = some (.int .u8 0) := fun u hu => by rw [add0, Blk.cell (hu.heap hb5 (fun q => q))]; rfl
  have cd : ∀ u, Grow w5 u → u.cell? ((⟨bb, 0, none⟩ : Addr).add 9) = some (.slice d.A d.n d.c) := fun u hu => by rw [add0, Blk.cell (hu.heap hb5 (fun q => q))]; rfl
  refine ⟨fun u => Grow w5 u, hg6, 0, ca, 0, fun _ => cb, d, fun _ => cd, str l, fun _ u hu => convStr_rule u_sl_uint8 u_uint8 u_string (L5row.grow hu), fun _ => ?_, fun q => by cases q⟩
  refine bytes14_spec (n := 16) (b := 170) (by decide) (by decide) fun ys w7 hown7 hg7 hn7 => ?_
  rw [hl] at hown7
  refine ⟨hg6.trans hg7, fun u => Grow w7 u, Keep.refl _ _, fun u hu => (hg6.trans hg7).trans hu, str l, fun _ u hu => convStr_rule u_sl_uint8 u_uint8 u_string ((hown7.grow hu).rd (by omega)), ?_⟩
  have := h w7 (L5.grow.trans (hg6.trans hg7))
  simpa [sEq_str] using this
end Go.Proofs.Ytaneeadpjelomaa

/- Layer 14: the law of what is verified. -/
namespace Go.Proofs.Ytaneeadpjelomaa
open Go CF

section
variable {w u u' v v' : World} {dv ps pw : Nat} {file : ByteArray} {kind n : Nat} {cache : Bool} {D D' : Nat → Prop} {st st' : Wst} {bs bs' : List Bk} {m m' : Nat} {ls : List (Nat × List Value × TypeId)} {rows : List (Sl × L8)}
theorem Lwq.fin {F : Int → Bool} {ab : Nat} (L : Lwq w u dv ps pw file kind n cache D st bs m ls rows F) (hg : Grow u u') (hb : Blk u' ab z10 t_api_Result) (hab : u.heap.size ≤ ab) (hk : Keep D u' v) (hd : Dvq v dv ps pw file kind n cache D' st' bs' m' F) (hD : ∀ k, D' k → D k ∨ u'.heap.size ≤ k) (hk' : Keep (fun k => k = ab) v v') :
    Lwq w v' dv ps pw file kind n cache D' st' bs' m' ls rows F := by
  have nab : ¬ D ab := fun q => by have := L.dvs.isW.lt q; omega
  have sg := hg.size
  have nab' : ¬ D' ab := fun q => by
    rcases hD _ q with r | r
    · exact nab r
    · have := lt_of_heap hb; omega
  have hbv := hk.heap hb nab
  refine L.step (keepD_new ((hg.mono fun _ _ q => q.elim).trans hk fun _ _ q => q) hab hk') (hd.put hbv tne_result (by decide) (by decide) nab' hk') fun k q => ?_
  rcases hD k q with r | r
  · exact .inl r
  · exact .inr (by omega)
theorem fin_keep {ab : Nat} (hg : Grow u u') (hab : u.heap.size ≤ ab) (hk : Keep D u' v) (hk' : Keep (fun k => k = ab) v v') : Keep D u v' := keepD_new ((hg.mono fun _ _ q => q.elim).trans hk fun _ _ q => q) hab hk'
theorem Lwq.verify (L : Lw w u dv ps pw file kind n cache D st bs m ls rows) (hm : m ≤ 1000000) {c : Cm} {p : Sl} {l : L8} {K : Array Value → World → Prop} (hk : c.kind = 10) (hkn : knownB kind c.prot = true) (hc : c.lba + c.blocks ≤ n) (hp : Rd u 1 p (bv l)) (hpb : p.n ≤ 140737488351232) (hf : Fine kind bs)
    (hl : c.bytes = true → l.length = szB (decide (c.prot ≠ 0)) * c.blocks)
    (h1 : c.bytes = true → ∀ i, firstNe (packB false ((bs.drop c.lba).take c.blocks)) (packB false (unpB (decide (c.prot ≠ 0)) l)) = some i → ∀ v, Lw w v dv ps pw file kind n cache D { st with ops := st.ops + c.blocks } bs (m + c.blocks) ls rows → K (rsv 2 (atS 14 0x1d00 i) nilS).toArray v)
    (h2 : (c.bytes = true → firstNe (packB false ((bs.drop c.lba).take c.blocks)) (packB false (unpB (decide (c.prot ≠ 0)) l)) = none) → ∀ v, Lw w v dv ps pw file kind n cache D { st with ops := st.ops + c.blocks } bs (m + c.blocks) ls rows → K (rsv 0 sn0 nilS).toArray v) :
    Csbc_Dev_Do (some ⟨dv, 0, none⟩) (cmv c).toArray p u K := by
  have hsz := L.dvs.size
  refine do_spec L.dvs hm hp hpb (by omega) (by omega) (fun q => by rw [hkn] at q; cases q) (fun _ _ _ q => by omega) (fun _ q => by omega) (fun _ q => by omega) (fun _ q => by omega) (fun _ q => by omega) (fun _ q => by omega) (fun _ q => by omega)
    (fun _ _ ab y hy hab hby => ⟨fun _ => ?_, fun q => by omega, fun q => by omega, fun q => by omega, fun q => by omega⟩) (fun _ _ _ _ a _ _ _ _ _ => by omega)
  have hs16 : 16 ≤ szB (decide (c.prot ≠ 0)) := by unfold szB; split <;> decide
  have fin : ∀ {z : World}, Keep D y z → IsW z pw D { st with ops := st.ops + c.blocks } → ∀ v', Keep (fun k => k = ab) z v' → Lw w v' dv ps pw file kind n cache D { st with ops := st.ops + c.blocks } bs (m + c.blocks) ls rows := fun {z} hz hw v' hv' =>
    L.fin hy hby hab hz ((L.dvs.grow hy).ops hz hw) (fun _ q => .inl q) hv'
  refine dev_verify_spec (L.dvs.grow hy) hm (hp.grow hy) hpb hc (fun q r => ?_) (fun i hi q => absurd (fine_part hf i hi c.prot) q) (fun _ hby' i hi z hz hw => ⟨hz, 2, _, nilS, rfl, fun v' hv' => h1 hby' i hi v' (fin hz hw v' hv')⟩) (fun _ hno z hz hw => ⟨hz, 0, sn0, nilS, rfl, fun v' hv' => h2 hno v' (fin hz hw v' hv')⟩)
  exfalso
  have := hl q
  rw [this] at r
  rcases r with r | r
  · exact r (Nat.mul_mod_right _ _)
  · exact r (Nat.mul_div_cancel_left _ (by omega))
end
theorem firstNe_self (X : L8) : firstNe X X = none := firstNe_none fun _ _ => rfl
theorem firstNe_set {X : L8} {i : Nat} {y : UInt8} (hi : i < X.length) (hy : y ≠ X[i]) : firstNe X (X.set i y) = some i := by
  refine firstNe_some hi (fun j hj => ?_) ?_
  · rw [List.getD_eq_getElem?_getD, List.getD_eq_getElem?_getD, List.getElem?_set_ne (by omega)]
  · rw [List.getD_eq_getElem?_getD, List.getD_eq_getElem?_getD, List.getElem?_set_self hi, List.getElem?_eq_getElem hi]
    exact fun q => hy q.symm
theorem xor8' {a b : Nat} (ha : a < 256) (hb : b < 256) : bXor .u8 (a : Int) (b : Int) = ((UInt8.ofNat (a ^^^ b)).toNat : Int) ∧ (b ≠ 0 → ∀ x : UInt8, x.toNat = a → UInt8.ofNat (a ^^^ b) ≠ x) := by
  have hlt : a ^^^ b < 256 := Nat.xor_lt_two_pow (n := 8) ha hb
  have e : (UInt8.ofNat (a ^^^ b)).toNat = a ^^^ b := by rw [UInt8.toNat_ofNat', Nat.mod_eq_of_lt hlt]
  refine ⟨?_, fun h x hx q => ?_⟩
  · rw [e]
    unfold bXor
    show IntKind.wrap .u8 (((BitVec.ofInt 8 (a : Int) ^^^ BitVec.ofInt 8 (b : Int)).toNat : Nat) : Int) = _
    rw [BitVec.ofInt_natCast, BitVec.ofInt_natCast, BitVec.toNat_xor, BitVec.toNat_ofNat, BitVec.toNat_ofNat, Nat.mod_eq_of_lt (by omega), Nat.mod_eq_of_lt (by omega)]
    exact wu8 (by omega) (by omega)
  · rw [← q, e] at hx
    have := congrArg (a ^^^ ·) hx
    simp only [← Nat.xor_assoc, Nat.xor_self, Nat.zero_xor] at this
    exact h this
theorem sbcVerifies_spec {p : Sl} {lp : L8} {AT BY LB : Nat} {w : World} {R : Bool → World → Prop} (hp : Rd w 1 p (bv lp)) (hpb : p.n ≤ 140737488351232) (hAT : AT < 65536) (hBY : BY < 256) (hLB : LB < 256) (h : ∀ w', Grow w w' → R true w') :
    Cpalletlaw14_SbcVerifies p (AT : Int) (BY : Int) (LB : Int) w R := by
  refine Fpalletlaw14_SbcVerifies.calls _ _ _ _ _ _ ?_
  unfold Fpalletlaw14_SbcVerifies
  have hln := rd_n' hp
  have hcap := hp.cap
  have eN : mn (IntKind.wrap .i64 ((p.n : Int).tdiv 16)) 6 = ((min (p.n / 16) 6 : Nat) : Int) := by
    have : ((p.n : Int).tdiv 16) = ((p.n / 16 : Nat) : Int) := rfl
    rw [this, w64 (by omega) (by omega)]
    exact mn_nat (p.n / 16) 6
  rw [eN]
  generalize hN : min (p.n / 16) 6 = N
  have e16 : IntKind.wrap .i64 (16 * (N : Int)) = ((16 * N : Nat) : Int) := by rw [w64 (by omega) (by omega)]; omega
  have eL : ((IntKind.wrap .u64 (LB : Int)).tmod 10) = ((LB % 10 : Nat) : Int) := by rw [wu64 (by omega) (by omega)]; rfl
  have eB : IntKind.wrap .u64 (N : Int) = (N : Int) := wu64 (by omega) (by omega)
  rw [e16, eL, eB]
  refine awake14_spec fun w0 hg0 => br_f rfl ⟨by decide, by decide, ?_⟩
  refine device_spec (n := 16) (kind := 0) (cache := true) (by decide) (by decide) fun dv ps pw D w1 L1 => ?_
  have L1 : Lw w0 w1 dv ps pw s_f 0 16 true D st0 (List.replicate 16 emptyB) 0 [] [] := L1
  by_cases hN0 : N = 0
  · exact br_t (by rw [hN0]; rfl) (h w1 (hg0.trans L1.grow))
  have hlb : LB % 10 < 10 := Nat.mod_lt _ (by decide)
  generalize LB % 10 = lba at *
  refine br_f (by rw [Bool.or_eq_false_iff, beq_eq_false_iff_ne]; exact ⟨rfl, by omega⟩) ?_
  have bnd : (0 : Int) ≤ (0 : Int) ∧ (0 : Int) ≤ ((16 * N : Nat) : Int) ∧ ((16 * N : Nat) : Int) ≤ (p.c : Int) ∧ p.n ≤ p.c := ⟨by decide, by omega, by omega, hcap⟩
  simp only [Int.toNat_natCast]
  have hcut : ∀ x, Grow w x → Rd x 1 ⟨cutA p.A p.c 0 1, 16 * N - 0, p.c - 0⟩ (bv (lp.take (16 * N))) := fun x hx => (hp.grow hx).cutB (l := 0) (k := 16 * N) (Nat.zero_le _) (by omega)
  have hll : (lp.take (16 * N)).length = 16 * N := by rw [List.length_take]; omega
  generalize hl : lp.take (16 * N) = l at *
  refine ⟨bnd, L1.write0 (by decide) (c := ⟨9, false, lba, N, 0, false, 0, false, false, 0, 0, false, 0, 0, false⟩) (.inr rfl) rfl (by show lba + N ≤ 16; omega) (hcut w1 (hg0.trans L1.grow)) hll fun w2 D2 L2 => ?_⟩
  have hmk := mk_len (kind := 0) (lba := lba) (N := N) (l := l) hll
  have hfine : Fine 0 (setAll (List.replicate 16 emptyB) lba (mkAll 0 lba (unpB false l) N) N) := by
    have := fine_set (fine_rep 0 16) (F := lba) (xs := mkAll 0 lba (unpB false l) N) (by rw [hmk, List.length_replicate]; omega) (fine_mk (by rw [unpB_len, hll]; show 16 * N / 16 = N; omega))
    rwa [hmk] at this
  have hpart := setAll_read (bs := List.replicate 16 emptyB) (F := lba) (xs := mkAll 0 lba (unpB false l) N) (by rw [hmk, List.length_replicate]; omega)
  rw [hmk] at hpart
  have hpart2 : packB false (((setAll (List.replicate 16 emptyB) lba (mkAll 0 lba (unpB false l) N) N).drop lba).take N) = l := by
    rw [hpart]; exact mk_bytes (by rw [hll]; omega)
  generalize setAll (List.replicate 16 emptyB) lba (mkAll 0 lba (unpB false l) N) N = B at *
  have hsy : syncs N (false || decide ((9 : Nat) = 9)) true = true := by unfold syncs; rw [decide_eq_true (by omega)]; rfl
  have L2 : Lw w0 w2 dv ps pw s_f 0 16 true D2 (syncIf (syncs N (false || decide ((9 : Nat) = 9)) true) (layW st0 s_f lba (rsOf (mkAll 0 lba (unpB false l) N)) N)) B (0 + N + 1) [] [] := L2
  rw [hsy] at L2
  have hwt : (syncIf true (layW st0 s_f lba (rsOf (mkAll 0 lba (unpB false l) N)) N)).waits = [] := rfl
  generalize syncIf true (layW st0 s_f lba (rsOf (mkAll 0 lba (unpB false l) N)) N) = S2 at *
  refine L2.res fun ab w3 L3 => ?_
  refine waits_spec L3.dvs.isW ?_
  rw [hwt]
  have hg3 := hg0.trans L3.grow
  have hun : packB false (unpB (decide ((0 : Nat) ≠ 0)) l) = l := unpB_bytes (by rw [hll]; omega)
  refine ⟨bnd, L3.verify (by omega) (c := ⟨10, false, lba, N, 0, false, 0, false, false, 0, 0, false, 0, 0, true⟩) rfl rfl (by show lba + N ≤ 16; omega) (hcut w3 hg3) (by show 16 * N - 0 ≤ _; omega) hfine (fun _ => hll) (fun _ i hi => ?_) (fun _ w4 L4 => ?_)⟩
  · exfalso
    simp only [hpart2, hun, firstNe_self] at hi
    cases hi
  refine L4.res fun bb w5 L5 => ?_
  refine L5.verify (by show 0 + N + 1 + N ≤ _; omega) (c := ⟨10, false, lba, N, 0, false, 0, false, false, 0, 0, false, 0, 0, false⟩) rfl rfl (by show lba + N ≤ 16; omega) (rd_nilB _) (by decide) hfine (fun q => by cases q) (fun q => by cases q) (fun _ w6 L6 => ?_)
  refine L6.res fun cb w7 L7 => ?_
  have hc7 := L7.held
  have hb7 := (L7.loc _ (List.mem_cons_of_mem _ List.mem_cons_self)).1
  have ha7 := (L7.loc _ (List.mem_cons_of_mem _ (List.mem_cons_of_mem _ List.mem_cons_self))).1
  refine ⟨0, by rw [add0, Blk.cell ha7]; rfl, 0, fun _ => by rw [add0, Blk.cell hb7]; rfl, 0, fun _ => by rw [add0, Blk.cell hc7]; rfl, br_f rfl ?_⟩
  have hg7 := hg0.trans L7.grow
  by_cases hz : BY = 0
  · exact br_t (by rw [hz]; rfl) (h w7 hg7)
  refine br_f (by rw [beq_eq_false_iff_ne]; omega) ⟨by omega, bnd, ?_⟩
  refine append_rule (s := ⟨none, 0, 0⟩) (vs := []) (base := w7.heap.size) u_sl_uint8 i_uint8 rfl (by decide) (by decide) (own_nil _ _ _ _) (hcut w7 hg7) (bv_one' _) (by show (0 + (16 * N - 0)) * 1 ≤ _; omega) (Nat.le_refl _) fun xs w8 hn8 hown8 hk8 _ => ?_
  rw [List.nil_append] at hown8
  have hg8 : Grow w7 w8 := hk8.mono fun i hi q => by cases q
  have L8_ := L7.go hg8
  have hxn : xs.n = 16 * N := by have : xs.n = 0 + (16 * N - 0) := hn8; omega
  have eI : ((IntKind.wrap .i64 (AT : Int)).tmod ((16 * N : Nat) : Int)) = ((AT % (16 * N) : Nat) : Int) := by rw [w64 (by omega) (by omega)]; rfl
  rw [eI]
  have hI : AT % (16 * N) < 16 * N := Nat.mod_lt _ (by omega)
  generalize AT % (16 * N) = I at *
  have hr8 := hown8.rd (by omega)
  have hIl : I < l.length := by omega
  obtain ⟨hsA, hcI⟩ := rd_at hr8 hIl
  have bI : (0 : Int) ≤ (I : Int) ∧ (I : Int) < (xs.n : Int) ∧ xs.A.isSome = true := ⟨by omega, by omega, hsA⟩
  have eg : l.getD I 0 = l[I] := by rw [List.getD_eq_getElem?_getD, List.getElem?_eq_getElem hIl]; rfl
  rw [Int.toNat_natCast]
  rw [eg] at hcI
  refine ⟨bI, (l[I].toNat : Int), hcI, bI, ?_⟩
  obtain ⟨ex, hne⟩ := xor8' (a := l[I].toNat) (b := BY) l[I].toNat_lt hBY
  rw [ex]
  have hne := hne hz l[I] rfl
  generalize UInt8.ofNat (l[I].toNat ^^^ BY) = y at *
  refine own_put (i := I) hown8 (by omega) rfl fun w9 hown9 hk9 _ => ?_
  rw [bv_set] at hown9
  have s7 := L7.grow.size
  have hg79 : Grow w7 w9 := own_grow' hg8 hown8 (Nat.le_refl _) hk9
  have L9 := L7.go hg79
  have hll9 : (l.set I y).length = 16 * N := by rw [List.length_set]; exact hll
  have hun9 : packB false (unpB (decide ((0 : Nat) ≠ 0)) (l.set I y)) = l.set I y := unpB_bytes (by rw [hll9]; omega)
  refine L9.verify (by show 0 + N + 1 + N + N ≤ _; omega) (c := ⟨10, false, lba, N, 0, false, 0, false, false, 0, 0, false, 0, 0, true⟩) rfl rfl (by show lba + N ≤ 16; omega) (hown9.rd (by omega)) (by omega) hfine (fun _ => hll9) (fun _ i hi w10 L10 => ?_) (fun q => ?_)
  · have hi : firstNe l (l.set I y) = some i := by rw [← hi]; simp only [hpart2, hun9]
    rw [firstNe_set hIl hne] at hi
    obtain rfl := Option.some.inj hi
    refine L10.res fun eb w11 L11 => ?_
    rintro w12 rfl
    have hg12 : Grow w11 w11.drew := keep_drew w11
    have he11 := L11.held
    refine ⟨fun x => Grow w11 x, hg12, (rsv 2 (atS 14 0x1d00 I) nilS).toArray, fun x hx => rLoad (blk_cells (hx.heap he11 (fun q => q))), ?_⟩
    rw [wu64 (by omega) (by omega)]
    refine at14_spec (key := 14) (code := 7424) (info := I) fun w13 hg13 => ⟨hg12.trans hg13, ?_⟩
    refine same14_spec (d1 := nilS) (d2 := nilS) (l := []) (rd_nilB _) (rd_nilB _) fun w14 hg14 => ?_
    have hg1114 := (hg12.trans hg13).trans hg14
    refine ⟨fun _ => ?_, fun q => by cases q⟩
    have L14 := L11.go hg1114
    refine waits_spec L14.dvs.isW ?_
    have hwt14 : S2.waits.length = 0 := by rw [hwt]; rfl
    show R (true && (((S2.waits.length : Nat) : Int) == (0 : Int))) w14
    rw [hwt14]
    exact h w14 (hg0.trans L14.grow)
  · exfalso
    have := q rfl
    simp only [hpart2, hun9, firstNe_set hIl hne] at this
    cases this
theorem sbcVerifies_row {p : Sl} {lp : L8} {x y z : Int} {w : World} {R : Bool → World → Prop} (hp : Rd w 1 p (bv lp)) (hpb : p.n ≤ 140737488351232) (hx : (Lit.int .u16 x).wf = true) (hy : (Lit.int .u8 y).wf = true) (hz : (Lit.int .u8 z).wf = true) (h : ∀ w', Grow w w' → R true w') :
    Cpalletlaw14_SbcVerifies p x y z w R := by
  obtain ⟨A, rfl, hA⟩ := int_u16 hx
  obtain ⟨B, rfl, hB⟩ := int_u8 hy
  obtain ⟨C, rfl, hC⟩ := int_u8 hz
  exact sbcVerifies_spec hp hpb hA hB hC h
end Go.Proofs.Ytaneeadpjelomaa

/- Layer 14: a law takes blocks away, or writes the same block. -/
namespace Go.Proofs.Ytaneeadpjelomaa
open Go CF

section
variable {w u u' v v' : World} {dv ps pw : Nat} {file : ByteArray} {kind n : Nat} {cache : Bool} {D D' : Nat → Prop} {st st' : Wst} {bs bs' : List Bk} {m m' : Nat} {ls : List (Nat × List Value × TypeId)} {rows : List (Sl × L8)}
theorem Lwq.unmap (L : Lw w u dv ps pw file kind n cache D st bs m ls rows) (hm : m ≤ 900000) {c : Cm} {p : Sl} {l : L8} {K : Array Value → World → Prop} (hk : c.kind = 13) (hkn : knownB kind c.prot = true) (hlb : c.lba < 18446744073709551616) (hbl : c.blocks < 18446744073709551616)
    (hp : Rd u 1 p (bv l)) (hpb : p.n ≤ 140737488351232) (hpD : ∀ b, p.blk = some b → ¬ D b) (h8 : 8 ≤ l.length) (e1 : num ((l.drop 0).take 2) = l.length - 2) (e2 : num ((l.drop 2).take 2) = l.length - 8) (e3 : (l.length - 8) % 16 = 0)
    (e4 : ∀ j, j < (l.length - 8) / 16 → rngL l j + rngK l j ≤ n) (e5 : sumK l ((l.length - 8) / 16) ≤ 256)
    (h : ∀ v D' st', Lw w v dv ps pw file kind n cache D' st' (unAll bs l ((l.length - 8) / 16)) (m + 5000) ls rows → K (rsv 0 sn0 nilS).toArray v) :
    Csbc_Dev_Do (some ⟨dv, 0, none⟩) (cmv c).toArray p u K := by
  refine do_spec L.dvs (by omega) hp hpb hlb hbl (fun q => by rw [hkn] at q; cases q) (fun _ q => absurd hk q) (fun _ q => by omega) (fun _ q => by omega) (fun _ q => by omega) (fun _ q => by omega) (fun _ q => by omega) (fun _ q => by omega)
    (fun _ _ ab y hy hab hby => ⟨fun q => by omega, fun q => by omega, fun _ => ?_, fun q => by omega, fun q => by omega⟩) (fun _ _ _ _ _ _ _ a => absurd hk a)
  refine dev_unmap_spec (L.dvs.grow hy) hm (hp.grow hy) hpb (fun x hx => (hp.grow hy).keep hx fun a ha _ => hpD a.block (by simp [Sl.blk, ha])) (fun q => by omega) (fun sn _ q => ?_) (fun z D2 st2 _ hz hd hD2 => ⟨hz, 0, sn0, nilS, rfl, fun v' hv' => ?_⟩)
  · exfalso
    rcases q with q | q | q | q | ⟨j, hj, q⟩ | q
    · omega
    · exact q e1
    · exact q e2
    · exact q e3
    · have := e4 j hj; omega
    · omega
  · exact h v' D2 st2 (L.fin hy hby hab hz hd hD2 hv')
/-- the same block, without tuples -/
theorem Lwq.sameK (L : Lw w u dv ps pw file kind n cache D st bs m ls rows) (hm : m ≤ 900000) {c : Cm} {p : Sl} {l : L8} {K : Array Value → World → Prop} (hk : c.kind = 12) (hp0 : c.prot = 0) (hc : c.lba + c.blocks ≤ n)
    (hp : Rd u 1 p (bv l)) (hl : l.length = 16)
    (h : ∀ v D' st' b0, b0.d = l → Keep D u v → (∀ k, D' k → D k ∨ u.heap.size ≤ k) → Lw w v dv ps pw file kind n cache D' st' (if c.unmap = true ∧ l = z16 then setAll bs c.lba [] (sameN n c) else setAll bs c.lba (samesB kind c b0 (sameN n c)) (sameN n c)) (m + sameN n c + 1) ls rows → K (rsv 0 sn0 nilS).toArray v) :
    Csbc_Dev_Do (some ⟨dv, 0, none⟩) (cmv c).toArray p u K := by
  have hsz := L.dvs.size
  have hkd := L.dvs.kd
  have hln := rd_n' hp
  have hkn : knownB kind c.prot = true := by unfold knownB; rw [hp0]; simp [hkd]
  have e0 : decide (c.prot ≠ 0) = false := by simpa using hp0
  have e16 : szB false = 16 := rfl
  refine do_spec L.dvs (by omega) hp (by omega) (by omega) (by omega) (fun q => by rw [hkn] at q; cases q) (fun _ _ _ q => by omega) (fun _ q => by omega) (fun _ q => by omega) (fun _ q => by omega) (fun _ q => by omega) (fun _ q => by omega) (fun _ q => by omega)
    (fun _ _ ab y hy hab hby => ⟨fun q => by omega, fun _ => ?_, fun q => by omega, fun q => by omega, fun q => by omega⟩) (fun _ _ _ _ _ _ a => absurd hk a)
  have hd0 : ∀ b0, cameB kind c l 1 = [b0] → b0.d = l := fun b0 q => by
    unfold cameB at q
    rw [if_pos hp0] at q
    have e := mkAll_data (kind := kind) (lba := c.lba) (U := unpB false l) 1
    rw [q] at e
    have e2 := unpB_bytes (l := l) (by omega)
    rw [packB_data (b := [b0]) e.symm] at e2
    have : packB false [b0] = b0.d := by simp [packB, wireB]
    rw [← this]; exact e2
  refine dev_same_spec (L.dvs.grow hy) hm (hp.grow hy) (by omega) hc (fun q => ?_) (fun q => absurd hp0 q) (fun b0 hb0 hu hz16 z D2 st2 hz hd hD2 => ⟨hz, 0, sn0, nilS, rfl, fun v' hv' => ?_⟩) (fun b0 hb0 hno z D2 st2 hz hd hD2 => ⟨hz, 0, sn0, nilS, rfl, fun v' hv' => ?_⟩)
  · exfalso; rw [e0, e16, hl] at q; omega
  · refine h v' D2 st2 b0 (hd0 b0 hb0) (fin_keep hy hab hz hv') (fun k q => (hD2 k q).imp_right fun r => by have := hy.size; omega) ?_
    rw [if_pos ⟨hu, by rw [← hd0 b0 hb0]; exact hz16⟩]
    exact L.fin hy hby hab hz hd hD2 hv'
  · refine h v' D2 st2 b0 (hd0 b0 hb0) (fin_keep hy hab hz hv') (fun k q => (hD2 k q).imp_right fun r => by have := hy.size; omega) ?_
    rw [if_neg (by rw [← hd0 b0 hb0]; exact hno)]
    exact L.fin hy hby hab hz hd hD2 hv'
theorem Lwq.same (L : Lw w u dv ps pw file kind n cache D st bs m ls rows) (hm : m ≤ 900000) {c : Cm} {p : Sl} {l : L8} {K : Array Value → World → Prop} (hk : c.kind = 12) (hp0 : c.prot = 0) (hc : c.lba + c.blocks ≤ n)
    (hp : Rd u 1 p (bv l)) (hl : l.length = 16)
    (h : ∀ v D' st' b0, b0.d = l → Lw w v dv ps pw file kind n cache D' st' (if c.unmap = true ∧ l = z16 then setAll bs c.lba [] (sameN n c) else setAll bs c.lba (samesB kind c b0 (sameN n c)) (sameN n c)) (m + sameN n c + 1) ls rows → K (rsv 0 sn0 nilS).toArray v) :
    Csbc_Dev_Do (some ⟨dv, 0, none⟩) (cmv c).toArray p u K := L.sameK hm hk hp0 hc hp hl fun v D' st' b0 e _ _ => h v D' st' b0 e
end
end Go.Proofs.Ytaneeadpjelomaa

/- Layer 3: a plan of calls that fail. -/
namespace Go.Proofs.Ytaneeadpjelomaa
open Go CF

theorem imap_new' {w' : World} {b : Nat} (h : w'.heap[b]? = some (.map #[] 0)) : IMap w' b fun _ => none := ⟨#[], 0, h, fun e he => by simp at he, fun s => rfl⟩
def planOf (ns : List Int) : Int → Bool := fun n => decide (n ∈ ns)
theorem planOf_nil : planOf [] = quiet := by funext n; simp [planOf, quiet]
theorem plan_spec {w : World} {pw : Nat} {D : Nat → Prop} {st : Wst} {F : Int → Bool} {xs : Sl} {ns : List Int} {R : World → Prop} (hw : IsWq w pw D st F) (hx : ∀ u, Keep D w u → Rd u 1 xs (ns.map fun n => .int .i64 n))
    (h : ∀ w' D', Keep D w w' → IsWq w' pw D' { st with ops := 0 } (planOf ns) → (∀ k, D' k → D k ∨ w.heap.size ≤ k) → R w') : Cworld_World_Plan (some ⟨pw, 0, none⟩) xs (-1) w R := by
  obtain ⟨pl, _, mb, md, ws, cs, hw⟩ := hw
  refine Fworld_World_Plan.calls _ _ _ _ _ ?_
  refine br_f rfl ?_
  refine new_rule fun b0 w0 hb0e hb0 hg0 hsz0 => ⟨rfl, ?_⟩
  have hw0 := hw.keep hg0 (fun _ _ q => q) (nobytes_none w)
  have hpb : pw ≠ b0 := fun q => by have := lt_of_heap hw.blk; omega
  rw [gA, add0]
  refine put_rule hw0.blk (by show 3 < 7; decide) rfl fun w1 hb1 hk1 hs1 => ⟨rfl, ?_⟩
  rw [add0]
  refine put_rule hb1 (by show 5 < 7; decide) rfl fun w2 hb2 hk2 hs2 => ⟨rfl, ?_⟩
  rw [add0]
  refine put_rule hb2 (by show 4 < 7; decide) rfl fun w3 hb3 hk3 hs3 => ?_
  have hb3 : Blk w3 pw (wcells (some b0) mb md ws 0) t_world_World := hb3
  have k03 : Keep (fun k => k = pw) w0 w3 := (hk1.trans hk2 fun _ _ q => q).trans hk3 fun _ _ q => q
  have hm3 : IMap w3 b0 fun _ => none := imap_new' (k03.heap hb0 (fun q => hpb q.symm))
  have kw3 : Keep D w w3 := (hg0.mono (S' := D) fun _ _ q => q.elim).trans k03 fun _ _ q => (by subst q; exact hw.dw)
  have hlen : ns.length = xs.n := by have := (hx w (Keep.mono (Keep.refl (fun _ => False) w) fun _ _ q => q.elim)).len; simpa using this
  have hnb := (hx w (Keep.mono (Keep.refl (fun _ => False) w) fun _ _ q => q.elim)).nb
  refine ⟨fun x u => ∃ j : Nat, x = j ∧ j ≤ ns.length ∧ Keep (fun k => k = b0) w3 u ∧ ∃ m, IMap u b0 m ∧ ∀ n, (m n).getD (.bool false) = .bool (decide (n ∈ ns.take j)), fun x _ => ns.length - x.toNat,
    ⟨0, rfl, Nat.zero_le _, Keep.mono (Keep.refl (fun _ => False) w3) (fun _ _ q => q.elim), _, hm3, fun n => by simp⟩, ?_⟩
  rintro x u ⟨j, rfl, hj, hku, m, hm, hmj⟩
  have hbu : Blk u pw (wcells (some b0) mb md ws 0) t_world_World := hku.heap hb3 hpb
  have sw3 := kw3.size
  have keepD : Keep D w u := kw3.trans hku fun i hi q => by omega
  rw [← hlen]
  refine br_nat (fun hlt => ?_) (fun hge => ?_)
  · obtain ⟨a, ha, hc⟩ := (hx u keepD).at_ (by intro q; rw [List.map_eq_nil_iff.1 q] at hlt; exact absurd hlt (Nat.not_lt_zero _))
    refine ⟨⟨by omega, by omega, by rw [ha]; rfl⟩, ns[j], ?_, rfl, some b0, by rw [hbu.cell]; rfl, ?_⟩
    · rw [ha]
      show u.cell? (a.add _) = _
      rw [Int.toNat_natCast, Nat.mul_one]
      exact hc j _ (by simp [hlt])
    · refine iupd_rule (P := Try.prog) u_map_int_bool u_int hm ns[j] (.bool true) fun u1 hm1 hk1' hs1' => ?_
      rw [w64 (by omega) (by omega)]
      refine ⟨⟨j + 1, by omega, hlt, hku.trans hk1' fun _ _ q => q, _, hm1, fun n => ?_⟩, (by omega : ns.length - ((j : Int) + 1).toNat < ns.length - (j : Int).toNat)⟩
      rw [List.take_succ_eq_append_getElem hlt]
      unfold iupd
      by_cases q : n = ns[j]
      · rw [if_pos q, decide_eq_true (List.mem_append.2 (.inr (List.mem_singleton.2 q)))]; rfl
      · rw [if_neg q, hmj n]
        have e : n ∈ ns.take j ↔ n ∈ ns.take j ++ [ns[j]] := ⟨fun r => List.mem_append.2 (.inl r), fun r => (List.mem_append.1 r).elim id (fun r => absurd (List.mem_singleton.1 r) q)⟩
        exact congrArg Value.bool (decide_eq_decide.2 e)
  · rw [List.take_of_length_le (by omega)] at hmj
    have kall : Keep (fun k => k = pw ∨ k = b0) w0 u := (k03.mono fun _ _ q => .inl q).trans hku fun _ _ q => .inr q
    have nbs : NoBytes w0 fun k => k = pw ∨ k = b0 := fun g cur hg q => by
      rcases q with q | q
      · subst q; exact absurd (blk_type hw0.blk hg) (by decide)
      · subst q; rw [hb0] at hg; cases hg
    have lt := hw.lt
    have mb0 : mb < b0 := by have := isF_lt hw.seen; omega
    have md0 : md < b0 := by have := isF_lt hw.dur; omega
    refine h u (fun k => D k ∨ k = b0) keepD ⟨⟨some b0, planOf ns⟩, rfl, mb, md, ws, cs, hbu, hw0.seen.keep kall (fun q => by rcases q with q | q; exact hw0.pm.1 q; omega) nbs, hw0.dur.keep kall (fun q => by rcases q with q | q; exact hw0.pm.2 q; omega) nbs, hw.ne,
      hw0.own.keep kall fun b hb q => ?_, hw.waits, fun c hc => (hw0.rows c hc).keep kall fun b hb q => ?_, .inl hw.dw, .inl hw.db, .inl hw.dd, fun g hg => .inl (hw.ds g hg), fun k hk => ?_, fun g cur hg q => ?_, ⟨m, hm, hmj⟩, fun b hb => .inr (by cases hb; rfl), ⟨fun q => by cases q; omega, fun q => by cases q; omega⟩⟩ fun k hk => ?_
    · rcases q with q | q
      · exact hw0.wm.2.2 (by rw [hb, q])
      · obtain ⟨cur, hc⟩ := own_heap hw0.own hb
        subst q; rw [hb0] at hc; cases hc
    · obtain ⟨cur, hc⟩ := own_heap (hw0.rows c hc) hb
      exact nbs b cur hc q
    · have := kall.size
      rcases hk with q | q
      · have := lt k q; omega
      · omega
    · rcases q with q | q
      · by_cases e : g = pw
        · subst e; exact absurd (blk_type hbu hg) (by decide)
        · have hlt := lt g q
          exact hw0.nb g cur (by rw [← kall.block g (by omega) (fun r => by rcases r with r | r; exact e r; omega)]; exact hg) q
      · subst q
        obtain ⟨es, c, hmm, _⟩ := hm
        rw [hmm] at hg; cases hg
    · rcases hk with q | q
      · exact .inl q
      · exact .inr (by omega)
end Go.Proofs.Ytaneeadpjelomaa

/- Layer 14: a law plans calls that fail, and writes under the plan. -/
namespace Go.Proofs.Ytaneeadpjelomaa
open Go CF
section
variable {w u v : World} {dv ps pw : Nat} {file : ByteArray} {kind n : Nat} {cache : Bool} {D D' : Nat → Prop} {st st' : Wst} {bs bs' : List Bk} {m m' : Nat} {ls : List (Nat × List Value × TypeId)} {rows : List (Sl × L8)} {F : Int → Bool}
theorem Lwq.plan (L : Lwq w u dv ps pw file kind n cache D st bs m ls rows F) {xs : Sl} {ns : List Int} {R : World → Prop} (hx : ∀ v, Keep D u v → Rd v 1 xs (ns.map fun n => .int .i64 n))
    (h : ∀ v D', Keep D u v → (∀ k, D' k → D k ∨ u.heap.size ≤ k) → Lwq w v dv ps pw file kind n cache D' { st with ops := 0 } bs m ls rows (planOf ns) → R v) : Cworld_World_Plan (some ⟨pw, 0, none⟩) xs (-1) u R := by
  refine plan_spec L.dvs.isW hx fun v D' hk hw hD => ?_
  have hd := L.dvs
  have l1 := lt_of_heap hd.dev
  have l2 := lt_of_heap hd.isS
  have hdv : Dvq v dv ps pw file kind n cache D' { st with ops := 0 } bs m (planOf ns) := by
    refine ⟨hk.heap hd.dev hd.ndv, hk.heap hd.isS hd.nps, hw, fun q => ?_, fun q => ?_, hd.ok, hd.tells, hd.len, hd.size, hd.nm, hd.kd, ⟨Nat.zero_le _, hd.few.2⟩⟩
    · rcases hD _ q with r | r
      · exact hd.nps r
      · omega
    · rcases hD _ q with r | r
      · exact hd.ndv r
      · omega
  refine h v D' hk hD ?_
  have sg := L.grow.size
  refine ⟨L.grow.keep hk fun i hi q => by have := L.above i q; omega, hdv, fun j q => ?_, fun x hx => ⟨hk.heap (L.loc x hx).1 (L.loc x hx).2, fun q => ?_⟩, fun x hx => ⟨(L.row x hx).1.keep hk fun a ha _ q => ?_, fun b hb => ⟨fun q => ?_, ?_⟩⟩⟩
  · rcases hD j q with r | r
    · exact L.above j r
    · omega
  · rcases hD _ q with r | r
    · exact (L.loc x hx).2 r
    · have := lt_of_heap (L.loc x hx).1; omega
  · exact ((L.row x hx).2 a.block (by simp [Sl.blk, ha])).1 q
  · have := (L.row x hx).2 b hb
    rcases hD b q with r | r
    · exact this.1 r
    · omega
  · have := (L.row x hx).2 b hb
    have := hk.size; omega
/-- a write under a plan, without tuples, in a cache: as many blocks as ahead of the first call that fails -/
theorem Lwq.writeP (L : Lwq w u dv ps pw file kind n true D st bs m ls rows F) (hm : m ≤ 1000000) {c : Cm} {p : Sl} {l : L8} {K : Array Value → World → Prop} (hk : c.kind = 8) (hf : c.fua = false) (hp0 : c.prot = 0) (hc : c.lba + c.blocks ≤ n) (hp : Rd u 1 p (bv l)) (hl : l.length = 16 * c.blocks)
    (h1 : (∀ i : Nat, i < c.blocks → F ((st.ops + i : Nat) : Int) = false) → ∀ v D' st', Keep D u v → (∀ k, D' k → D k ∨ u.heap.size ≤ k) → Lwq w v dv ps pw file kind n true D' st' (setAll bs c.lba (mkAll kind c.lba (unpB false l) c.blocks) c.blocks) (m + c.blocks + 1) ls rows F → K (rsv 0 sn0 nilS).toArray v)
    (h2 : ∀ k : Nat, k < c.blocks → (∀ i : Nat, i < k → F ((st.ops + i : Nat) : Int) = false) → F ((st.ops + k : Nat) : Int) = true → ∀ v D' st', Keep D u v → (∀ k, D' k → D k ∨ u.heap.size ≤ k) → Lwq w v dv ps pw file kind n true D' st' (setAll bs c.lba (mkAll kind c.lba (unpB false l) c.blocks) k) (m + c.blocks + 1) ls rows F →
      K (rsv 2 (atS 3 0x0c00 (c.lba + k)) nilS).toArray v) : Csbc_Dev_Do (some ⟨dv, 0, none⟩) (cmv c).toArray p u K := by
  have hsz := L.dvs.size
  have hkd := L.dvs.kd
  have hln := rd_n' hp
  have hkn : knownB kind c.prot = true := by unfold knownB; rw [hp0]; simp [hkd]
  have e0 : decide (c.prot ≠ 0) = false := by simpa using hp0
  have e16 : szB false = 16 := rfl
  have hcame : cameB kind c l c.blocks = mkAll kind c.lba (unpB false l) c.blocks := by unfold cameB; rw [if_pos hp0]
  have hsy : syncs c.blocks (c.fua || decide (c.kind = 9)) true = false := by
    unfold syncs
    rw [hf, decide_eq_false (by omega : ¬ c.kind = 9)]
    simp
  refine do_plan L.dvs hm hp (by omega) (by omega) (by omega) (fun q => by rw [hkn] at q; cases q) (fun _ _ _ q => by omega) (fun _ _ q => by omega) (fun _ _ q => by omega) (fun _ _ _ q => ?_) (fun _ _ _ q => absurd hp0 q) (fun hfl _ _ _ _ _ _ v D' hkp hdv hDD => ?_) (fun _ _ q => by omega)
    (fun _ _ ab v _ _ _ => ⟨fun q => by omega, fun q => by omega, fun q => by omega, fun q => by omega, fun q => by omega⟩) (fun _ q => by omega) (fun _ _ _ _ _ _ k hkl hfl hfk v D' hkp hdv hDD => ?_) (fun _ q => by omega) (fun _ a b c _ _ _ _ _ _ => by omega)
  · exfalso; rw [e0, e16] at q; omega
  · rw [hcame] at hdv
    rw [hsy] at hfl
    exact h1 (fun i hi => hfl i (by simpa using hi)) v D' _ hkp hDD (L.step hkp hdv hDD)
  · rw [hcame] at hdv
    rw [hsy] at hkl
    exact h2 k (by simpa using hkl) hfl hfk v D' _ hkp hDD (L.step hkp hdv hDD)
/-- a write of the same block under a plan -/
theorem Lwq.sameP (L : Lwq w u dv ps pw file kind n true D st bs m ls rows F) (hm : m ≤ 900000) {c : Cm} {p : Sl} {l : L8} {K : Array Value → World → Prop} (hk : c.kind = 12) (hu : c.unmap = false) (hb0 : 0 < c.blocks) (hp0 : c.prot = 0) (hc : c.lba + c.blocks ≤ n) (hp : Rd u 1 p (bv l)) (hl : l.length = 16)
    (h1 : ∀ b0, b0.d = l → (∀ i : Nat, i < c.blocks → F ((st.ops + i : Nat) : Int) = false) → ∀ v D' st', Keep D u v → (∀ k, D' k → D k ∨ u.heap.size ≤ k) → Lwq w v dv ps pw file kind n true D' st' (setAll bs c.lba (samesB kind c b0 c.blocks) c.blocks) (m + c.blocks + 1) ls rows F → K (rsv 0 sn0 nilS).toArray v)
    (h2 : ∀ b0, b0.d = l → ∀ k : Nat, k < c.blocks → (∀ i : Nat, i < k → F ((st.ops + i : Nat) : Int) = false) → F ((st.ops + k : Nat) : Int) = true → ∀ v D' st', Keep D u v → (∀ k, D' k → D k ∨ u.heap.size ≤ k) → Lwq w v dv ps pw file kind n true D' st' (setAll bs c.lba (samesB kind c b0 c.blocks) k) (m + c.blocks + 1) ls rows F →
      K (rsv 2 (atS 3 0x0c00 (c.lba + k)) nilS).toArray v) : Csbc_Dev_Do (some ⟨dv, 0, none⟩) (cmv c).toArray p u K := by
  have hsz := L.dvs.size
  have hkd := L.dvs.kd
  have hln := rd_n' hp
  have hkn : knownB kind c.prot = true := by unfold knownB; rw [hp0]; simp [hkd]
  have e0 : decide (c.prot ≠ 0) = false := by simpa using hp0
  have e16 : szB false = 16 := rfl
  have hN : sameN n c = c.blocks := by unfold sameN; rw [if_neg (by omega)]
  have hsy : syncs c.blocks false true = false := by unfold syncs; simp
  refine do_plan L.dvs (by omega) hp (by omega) (by omega) (by omega) (fun q => by rw [hkn] at q; cases q) (fun _ _ _ q => by omega) (fun _ _ q => by omega) (fun _ _ q => by omega) (fun _ q => by omega) (fun _ q => by omega) (fun _ _ q => by omega) (fun _ _ q => by omega)
    (fun _ _ ab y hy hab hby => ⟨fun q => by omega, fun _ => ?_, fun q => by omega, fun q => by omega, fun q => by omega⟩) (fun _ q => by omega) (fun _ q => by omega) (fun _ q => by omega) (fun _ _ _ _ _ _ a => absurd hk a)
  have hd0 : ∀ b0, cameB kind c l 1 = [b0] → b0.d = l := fun b0 q => by
    unfold cameB at q
    rw [if_pos hp0] at q
    have e := mkAll_data (kind := kind) (lba := c.lba) (U := unpB false l) 1
    rw [q] at e
    have e2 := unpB_bytes (l := l) (by omega)
    rw [packB_data (b := [b0]) e.symm] at e2
    have : packB false [b0] = b0.d := by simp [packB, wireB]
    rw [← this]; exact e2
  refine dev_same_any (L.dvs.grow hy) (fun q => by rw [hu] at q; cases q) hm (hp.grow hy) (by omega) hc (fun q => ?_) (fun q => absurd hp0 q) (fun b0 _ q => by rw [hu] at q; cases q) (fun b0 hb0' hno hfl z D2 st2 hz hd hD2 => ⟨hz, 0, sn0, nilS, rfl, fun v' hv' => ?_⟩)
    (fun b0 hb0' hno k hkl hfl hfk z D2 st2 hz hd hD2 => ⟨hz, 2, atS 3 0x0c00 (c.lba + k), nilS, rfl, fun v' hv' => ?_⟩)
  · exfalso; rw [e0, e16, hl] at q; omega
  · rw [hN] at hd hfl
    rw [hsy] at hfl
    exact h1 b0 (hd0 b0 hb0') (fun i hi => hfl i (by simpa using hi)) v' D2 st2 (fin_keep hy hab hz hv') (fun k q => (hD2 k q).imp_right fun r => by have := hy.size; omega) (L.fin hy hby hab hz hd hD2 hv')
  · rw [hN] at hd hkl
    rw [hsy] at hkl
    exact h2 b0 (hd0 b0 hb0') k (by simpa using hkl) hfl hfk v' D2 st2 (fin_keep hy hab hz hv') (fun k q => (hD2 k q).imp_right fun r => by have := hy.size; omega) (L.fin hy hby hab hz hd hD2 hv')
end
end Go.Proofs.Ytaneeadpjelomaa

/- Layer 14: the law of writes that fail: its plain part. -/
namespace Go.Proofs.Ytaneeadpjelomaa
open Go CF
theorem setAll_take (bs : List Bk) (F : Nat) (xs : List Bk) : ∀ k, k ≤ xs.length → ∀ j, k ≤ j → setAll bs F xs k = setAll bs F (xs.take j) k
  | 0, _, _, _ => rfl
  | k + 1, hk, j, hj => by
    have e : xs[k]? = (xs.take j)[k]? := by rw [List.getElem?_take, if_pos (by omega)]
    simp only [setAll, e]
    rw [setAll_take bs F xs k (by omega) j (by omega)]
theorem setAll_eq_k {bs xs : List Bk} {F k : Nat} (hk : k ≤ xs.length) (h : F + k ≤ bs.length) : setAll bs F xs k = bs.take F ++ xs.take k ++ bs.drop (F + k) := by
  rw [setAll_take bs F xs k hk k (Nat.le_refl _)]
  have hl : (xs.take k).length = k := by rw [List.length_take]; omega
  have := setAll_eq (bs := bs) (xs := xs.take k) (F := F) (by omega)
  rw [hl] at this
  exact this
theorem packB_take (l : List Bk) (k : Nat) : packB false (l.take k) = (packB false l).take (16 * k) := by
  induction l generalizing k with
  | nil => simp [packB]
  | cons b r ih =>
    cases k with
    | zero => simp [packB]
    | succ k =>
      have hb : (wireB false b).length = 16 := by unfold wireB; simp [b.hd]
      have e1 : packB false (b :: r) = wireB false b ++ packB false r := by simp [packB]
      have e2 : packB false ((b :: r).take (k + 1)) = wireB false b ++ packB false (r.take k) := by simp [packB]
      rw [e1, e2, ih, show 16 * (k + 1) = (wireB false b).length + 16 * k by omega, List.take_append]
      congr 1
      · rw [List.take_of_length_le (by omega)]
      · congr 1; omega
/-- what is read behind a write that went on for k blocks -/
theorem prefix_bytes {bs xs : List Bk} {F k : Nat} (hk : k ≤ xs.length) (h : F + k ≤ bs.length) :
    packB false (setAll bs F xs k) = (packB false bs).take (16 * F) ++ (packB false xs).take (16 * k) ++ packB false (bs.drop (F + k)) := by
  rw [setAll_eq_k hk h, packB_append, packB_append, packB_take, packB_take]
theorem packB_drop0 (l : List Bk) (k : Nat) : packB false (l.drop k) = (packB false l).drop (16 * k) := by
  have h1 := packB_append false (l.take k) (l.drop k)
  rw [List.take_append_drop, packB_take] at h1
  have h2 := List.take_append_drop (16 * k) (packB false l)
  exact (List.append_cancel_left (h2.trans h1)).symm
theorem prefix_at {bs xs : List Bk} {F k i : Nat} (hk : k ≤ xs.length) (h : F + k ≤ bs.length) :
    (packB false (setAll bs F xs k))[i]? = if 16 * F ≤ i ∧ i < 16 * (F + k) then (packB false xs)[i - 16 * F]? else (packB false bs)[i]? := by
  have lb : (packB false bs).length = 16 * bs.length := by rw [packB_len]; show bs.length * 16 = _; omega
  have lx : (packB false xs).length = 16 * xs.length := by rw [packB_len]; show xs.length * 16 = _; omega
  have l1 : ((packB false bs).take (16 * F)).length = 16 * F := by rw [List.length_take]; omega
  have l2 : ((packB false xs).take (16 * k)).length = 16 * k := by rw [List.length_take]; omega
  rw [prefix_bytes hk h, packB_drop0]
  by_cases a : i < 16 * F
  · rw [if_neg (by omega), List.append_assoc, List.getElem?_append_left (by omega), List.getElem?_take, if_pos a]
  · by_cases b : i < 16 * (F + k)
    · rw [if_pos ⟨by omega, b⟩, List.getElem?_append_left (by rw [List.length_append]; omega), List.getElem?_append_right (by omega), l1, List.getElem?_take, if_pos (by omega)]
    · rw [if_neg (by omega), List.getElem?_append_right (by rw [List.length_append]; omega), List.length_append, l1, l2, List.getElem?_drop]
      congr 1; omega
theorem packB_sames {kind : Nat} {c : Cm} {b0 : Bk} (hp : c.prot = 0) : ∀ N i, i < 16 * N → (packB false (samesB kind c b0 N))[i]? = b0.d[i % 16]?
  | 0, i, h => absurd h (by omega)
  | N + 1, i, h => by
    have ls : (packB false (samesB kind c b0 N)).length = 16 * N := by rw [packB_len, samesB_len]; show N * 16 = _; omega
    have hone : packB false [sameB kind c b0 N] = b0.d := by
      have : (sameB kind c b0 N).d = b0.d := by unfold sameB; rw [if_pos hp]; rfl
      simp [packB, wireB, this]
    rw [samesB_succ, packB_append, hone]
    by_cases q : i < 16 * N
    · rw [List.getElem?_append_left (by omega)]; exact packB_sames hp N i q
    · rw [List.getElem?_append_right (by omega), ls]
      congr 1; omega
end Go.Proofs.Ytaneeadpjelomaa

/- Layer 14: compare and write. -/
namespace Go.Proofs.Ytaneeadpjelomaa
open Go CF

/-- what is behind the blocks that came -/
def cmpTail (dv cb ab : Nat) (told : Sl) (K : Array Value → World → Prop) (r : Addr) (xs1 : Sl) (g2 : Array Value) (b1 : Bool) (w010 : World) : Prop :=
  RunU Try.prog (storeVar t_api_Result r (.agg g2)) w010 fun w011 => Br (!b1)
    (∃ g3 : Array Value, (loadVar t_api_Result r).run Try.prog w011 = .ok (.agg g3) w011 ∧ RunU Try.prog (storeVar t_api_Result ⟨ab, 0, none⟩ (.agg g3)) w011 fun w012 => ∃ res1 : Array Value, (loadVar t_api_Result ⟨ab, 0, none⟩).run Try.prog w012 = .ok (.agg res1) w012 ∧ K res1 w012)
    (∃ g4 : Array Value, (loadVar t_api_Cmd ⟨cb, 0, none⟩).run Try.prog w011 = .ok (.agg g4) w011 ∧ Csbc_Dev_read (some ⟨dv, 0, none⟩) g4 w011 fun xs2 g5 b2 w013 => RunU Try.prog (storeVar t_api_Result r (.agg g5)) w013 fun w014 => Br (!b2)
      (∃ g6 : Array Value, (loadVar t_api_Result r).run Try.prog w014 = .ok (.agg g6) w014 ∧ RunU Try.prog (storeVar t_api_Result ⟨ab, 0, none⟩ (.agg g6)) w014 fun w015 => ∃ res2 : Array Value, (loadVar t_api_Result ⟨ab, 0, none⟩).run Try.prog w015 = .ok (.agg res2) w015 ∧ K res2 w015)
      (Csbc_differ xs2 told w014 fun n5 w016 => Br (decide (n5 ≥ 0))
        (Csbc_at 14 7424 (IntKind.wrap .u64 n5) w016 fun g7 w017 => RunU Try.prog (storeVar t_api_Result ⟨ab, 0, none⟩ (.agg g7)) w017 fun w018 => ∃ res3 : Array Value, (loadVar t_api_Result ⟨ab, 0, none⟩).run Try.prog w018 = .ok (.agg res3) w018 ∧ K res3 w018)
        (∃ n6 : Int, w016.cell? ((⟨cb, 0, none⟩ : Addr).add 2) = some (.int .u64 n6) ∧ ∃ b3 : Bool, w016.cell? ((⟨cb, 0, none⟩ : Addr).add 5) = some (.bool b3) ∧ Csbc_Dev_write (some ⟨dv, 0, none⟩) n6 xs1 b3 w016 fun g8 w019 => RunU Try.prog (storeVar t_api_Result ⟨ab, 0, none⟩ (.agg g8)) w019 fun w020 =>
          ∃ res4 : Array Value, (loadVar t_api_Result ⟨ab, 0, none⟩).run Try.prog w020 = .ok (.agg res4) w020 ∧ K res4 w020)))
section
variable {w u : World} {dv ps pw : Nat} {file : ByteArray} {kind n : Nat} {cache : Bool} {D D' : Nat → Prop} {st st' : Wst} {bs bs' : List Bk} {m m' : Nat}
theorem dev_compare_spec {c : Cm} {p : Sl} {l : L8} {H : Nat} {K : Array Value → World → Prop} (h : Dv w dv ps pw file kind n cache D st bs m) (hm : m ≤ 900000) (hp : Rd w 1 p (bv l)) (hb : p.n ≤ 140737488351232) (hc : c.lba + c.blocks ≤ n) (hH : H = szB (decide (c.prot ≠ 0)) * c.blocks)
    (k1 : l.length ≠ 2 * H → ∀ u, Grow w u → K (rsv 2 (badS 0x1a00) nilS).toArray u)
    (k2 : ¬ (c.prot = 0 ∧ ∀ i (hi : i < ((bs.drop c.lba).take c.blocks).length), chkB kind c.prot (c.lba + i) ((bs.drop c.lba).take c.blocks)[i] = 0) → ∀ code info u j, Keep D w u → IsW u pw D { st with ops := st.ops + j } → j ≤ c.blocks → K (rsv 2 (atS 11 code info) nilS).toArray u)
    (k4 : l.length = 2 * H → ∀ i, firstNe (packB false ((bs.drop c.lba).take c.blocks)) (packB false (unpB (decide (c.prot ≠ 0)) (l.take H))) = some i → ∀ u, Keep D w u → IsW u pw D { st with ops := st.ops + c.blocks } → K (rsv 2 (atS 14 0x1d00 i) nilS).toArray u)
    (k5 : l.length = 2 * H → firstNe (packB false ((bs.drop c.lba).take c.blocks)) (packB false (unpB (decide (c.prot ≠ 0)) (l.take H))) = none → ∀ u D', Keep D w u →
      Dv u dv ps pw file kind n cache D' (syncIf (syncs c.blocks c.fua cache) (layW { st with ops := st.ops + c.blocks } file c.lba (rsOf (cameB kind c (l.drop H) c.blocks)) c.blocks)) (setAll bs c.lba (cameB kind c (l.drop H) c.blocks) c.blocks) (m + c.blocks + c.blocks + 1) →
      (∀ k, D' k → D k ∨ w.heap.size ≤ k) → K (rsv 0 sn0 nilS).toArray u) : Csbc_Dev_compare (some ⟨dv, 0, none⟩) (cmv c).toArray p w K := by
  refine Fsbc_Dev_compare.calls _ _ _ _ _ ?_
  have hsz := h.size
  have hlen := h.len
  have hfew := h.few
  have hln := rd_n' hp
  have hcap := hp.cap
  refine new_rule fun cb w0 hcb hb0 hg0 hsz0 => ?_
  have hb0 : Blk w0 cb (cmv c).toArray t_api_Cmd := hb0
  refine new_rule fun ab w1 hab hb1 hg1 hsz1 => ?_
  have hb1 : Blk w1 ab z10 t_api_Result := hb1
  have hgw1 := hg0.trans hg1
  have hc1 : Blk w1 cb (cmv c).toArray t_api_Cmd := hg1.heap hb0 (fun q => q)
  have lD := fun k (q : D k) => h.isW.lt q
  have nab : ¬ D ab := fun q => by have := lD _ q; omega
  have ncb : ¬ D cb := fun q => by have := lD _ q; omega
  have sw := hg0.size
  have cAt : ∀ {v : World} {i : Nat} {x : Value}, Grow w1 v → (cmv c).toArray[i]? = some x → v.cell? ((⟨cb, 0, none⟩ : Addr).add i) = some x := fun g e => by rw [add0, Blk.cell (g.heap hc1 (fun q => q)), Nat.zero_add]; exact e
  generalize hwt : decide (c.prot ≠ 0) = wt at *
  have ew : ((c.prot : Int) != 0) = wt := by rw [← hwt, Bool.eq_iff_iff, bne_iff_ne, decide_eq_true_eq]; omega
  have hs24 : 16 ≤ szB wt ∧ szB wt ≤ 24 := by unfold szB; split <;> decide
  have hHle : H ≤ 24 * 4096 := by rw [hH]; exact Nat.mul_le_mul hs24.2 (by omega)
  rintro w2 rfl
  have hg2 : Grow w1 w1.drew := keep_drew w1
  refine ⟨fun v => Grow w1 v, hg2, (c.prot : Int), fun v hv => cAt hv rfl, (c.blocks : Int), fun v hv => cAt hv rfl, ?_⟩
  rw [ew]
  refine size_spec ⟨hg2, ?_⟩
  have eH : IntKind.wrap .i64 (((szB wt : Nat) : Int) * IntKind.wrap .i64 (c.blocks : Int)) = (H : Int) := by
    rw [w64 (n := (c.blocks : Int)) (by omega) (by omega)]
    have : ((szB wt : Nat) : Int) * (c.blocks : Int) = ((H : Nat) : Int) := by rw [hH]; exact (Int.natCast_mul _ _).symm
    rw [this]; exact w64 (by omega) (by omega)
  have e2H : IntKind.wrap .i64 (2 * (H : Int)) = ((2 * H : Nat) : Int) := by rw [w64 (by omega) (by omega)]; omega
  rw [eH, e2H]
  have ret : ∀ {v : World} {s : Nat} {sn : Sn} {d : Sl}, Grow w1 v → (∀ v', Grow w v' → K (rsv s sn d).toArray v') →
      RunU Try.prog (storeVar t_api_Result ⟨ab, 0, none⟩ (.agg (rsv s sn d).toArray)) v fun w' => ∃ res : Array Value, (loadVar t_api_Result ⟨ab, 0, none⟩).run Try.prog w' = .ok (.agg res) w' ∧ K res w' := fun g hR => ret_rule (g.heap hb1 (fun q => q)) rfl fun v' hk => hR v' (grow_new (hgw1.trans g) (by omega) hk)
  by_cases hl2 : l.length = 2 * H
  case neg => exact br_t (by rw [bne_iff_ne]; omega) (length_spec fun w3 hg3 => ret (hg2.trans hg3) fun v' hv' => k1 hl2 v' hv')
  refine br_f (by rw [bne_eq_false_iff_eq]; omega) ?_
  rintro w3 rfl
  have hg3 : Grow w1 w1.drew.drew := hg2.trans (keep_drew _)
  simp only [Int.toNat_natCast]
  refine ⟨fun v => Grow w1 v, hg3, ⟨by decide, by omega, by omega, hcap⟩, (c.prot : Int), fun v hv => cAt hv rfl, ?_⟩
  rw [ew]
  have hdm : H % szB wt = 0 ∧ H / szB wt = c.blocks := by rw [hH]; exact ⟨Nat.mul_mod_right _ _, Nat.mul_div_cancel_left _ (by omega)⟩
  have hcut0 : ∀ v, Grow w v → Rd v 1 ⟨cutA p.A p.c 0 1, H - 0, p.c - 0⟩ (bv (l.take H)) := fun v hv => (hp.grow hv).cutB (l := 0) (k := H) (Nat.zero_le _) (by omega)
  have hcut1 : ∀ v, Grow w v → Rd v 1 ⟨cutA p.A p.c H 1, p.n - H, p.c - H⟩ (bv (l.drop H)) := fun v hv => by
    have := (hp.grow hv).cutB (l := H) (k := p.n) (by omega) (Nat.le_refl _)
    rwa [List.take_of_length_le (by rw [List.length_drop]; omega)] at this
  have hl0 : (l.take H).length = H := by rw [List.length_take]; omega
  have hl1 : (l.drop H).length = H := by rw [List.length_drop]; omega
  refine unpack_spec (hcut0 _ (hgw1.trans hg3)) (by show H - 0 ≤ _; omega) (fun q => absurd (by rw [hl0]; exact hdm.1) q) fun _ told w4 hg4 hown4 => ?_
  have hgw4 := (hgw1.trans hg3).trans hg4
  have hown4 : Own w4 w.heap.size t_api_Block 19 told ((unpB wt (l.take H)).flatMap bc) := hown4.mono (hgw1.trans hg3).size
  have hUl : (unpB wt (l.take H)).length = c.blocks := by rw [unpB_len, hl0]; exact hdm.2
  rintro w5 rfl
  have hg15 : Grow w1 w4.drew := (hg3.trans hg4).trans (keep_drew _)
  have hown5 : Own w4.drew w.heap.size t_api_Block 19 told ((unpB wt (l.take H)).flatMap bc) := hown4.grow (keep_drew _)
  generalize w4.drew = w5 at *
  have hgw5 := hgw1.trans hg15
  have h5 := h.grow hgw5
  refine ⟨fun v => Grow w1 v, hg15, (cmv c).toArray, fun v hv => cLoad (blk_cells (hv.heap hc1 (fun q => q))), ⟨by omega, by omega, by omega, hcap⟩, (c.blocks : Int), fun v hv => cAt hv rfl, ?_⟩
  have hLl : ((bs.drop c.lba).take c.blocks).length = c.blocks := by rw [List.length_take, List.length_drop]; omega
  have lab5 : ab < w5.heap.size := lt_of_heap (hg15.heap hb1 (fun q => q))
  have lcb5 : cb < w5.heap.size := lt_of_heap (hg15.heap hc1 (fun q => q))
  -- behind a fault
  have tailE : ∀ (code info : Nat) (rb : Nat) (v : World) (old : Array Value), ¬ (c.prot = 0 ∧ ∀ i (hi : i < ((bs.drop c.lba).take c.blocks).length), chkB kind c.prot (c.lba + i) ((bs.drop c.lba).take c.blocks)[i] = 0) → Grow w5 v → Blk v rb old t_api_Result → old.size = 10 → w5.heap.size ≤ rb →
      cmpTail dv cb ab told K ⟨rb, 0, none⟩ nilS (rsv 2 (atS 11 code info) nilS).toArray false v := fun code info rb v old hnot hgv hbr ho hrb =>
    lay_rule hbr ho fun v2 hb2 hk2 _ => br_t rfl ⟨_, rLoad (blk_cells hb2), by
      have hg2' : Grow w5 v2 := hgv.keep hk2 fun i hi q => by omega
      have hab2 := (hg15.trans hg2').heap hb1 (fun q => q)
      refine ret_rule hab2 rfl fun v3 hk3 => ?_
      have hgw2 := hgw5.trans hg2'
      have hD2 : Keep D w v3 := keepD_new (hgw2.mono fun _ _ q => q.elim) (by omega) hk3
      exact k2 hnot code info v3 0 hD2 (isW_new (h.isW.grow hgw2) hab2 tne_result nab hk3) (Nat.zero_le _)⟩
  -- behind blocks that are right
  have tailG : ∀ (xs1 : Sl) (rb : Nat) (v : World) (old : Array Value), Grow w5 v → Blk v rb old t_api_Result → old.size = 10 → w5.heap.size ≤ rb → (xs1.blk ≠ some rb) → Own v w.heap.size t_api_Block 19 xs1 ((cameB kind c (l.drop H) c.blocks).flatMap bc) →
      cmpTail dv cb ab told K ⟨rb, 0, none⟩ xs1 (rsv 0 sn0 nilS).toArray true v := fun xs1 rb v old hgv hbr ho hrb hxr hown1 =>
    lay_rule hbr ho fun v2 hb2 hk2 _ => br_f rfl (by
      have hg2' : Grow w5 v2 := hgv.keep hk2 fun i hi q => by omega
      have hg1' := hg15.trans hg2'
      have hgw2 := hgw5.trans hg2'
      have hc2 := hg1'.heap hc1 (fun q => q)
      have ha2 := hg1'.heap hb1 (fun q => q)
      have hown2 : Own v2 w.heap.size t_api_Block 19 xs1 ((cameB kind c (l.drop H) c.blocks).flatMap bc) := hown1.keep hk2 fun b hbb q => hxr (by rw [hbb, q])
      have htold2 := hown5.grow hg2'
      have h2 := h.grow hgw2
      have nrb : ¬ D rb := fun q => by have := lD _ q; have := hgw5.size; omega
      have sw2 := hgw2.size
      have sw5 := hgw5.size
      refine ⟨_, cLoad (blk_cells hc2), dev_read_spec h2 (by omega) hc (fun hchk xs2 v3 hk3 hr3 hown3 => ?_) (fun i hi hz v3 hk3 hr3 => ?_)⟩
      · have hkD3 : Keep D w v3 := (hgw2.mono fun _ _ q => q.elim).trans hk3 fun _ _ q => q
        have ro : ∀ {x : Sl} {L : List Bk}, Own v2 w.heap.size t_api_Block 19 x (L.flatMap bc) → Own v3 w.heap.size t_api_Block 19 x (L.flatMap bc) := fun ho => ho.keep hk3 fun b hbb q => by
          have := (ho.ge b hbb).1
          have := lD _ q
          omega
        refine lay_rule (hk3.heap hb2 nrb) rfl fun v4 hb4 hk4 _ => br_f rfl ?_
        have ro4 : ∀ {x : Sl} {L : List Bk}, Own v3 w.heap.size t_api_Block 19 x (L.flatMap bc) → Own v4 w.heap.size t_api_Block 19 x (L.flatMap bc) := fun ho => ho.keep hk4 fun b hbb q => own_ne ho (hk3.heap hb2 nrb) (by decide) (by rw [hbb, q])
        have hkD4 : Keep D w v4 := keepD_new hkD3 (by omega) hk4
        have hw4 : IsW v4 pw D { st with ops := st.ops + c.blocks } := isW_new (hr3.isW h2.isW) (hk3.heap hb2 nrb) tne_result nrb hk4
        have o2 := ro4 (hown3.mono sw2)
        have oT := ro4 (ro htold2)
        have oX := ro4 (ro hown2)
        have ha4 : Blk v4 ab z10 t_api_Result := hk4.heap (hk3.heap ha2 nab) (by omega)
        have hc4 : Blk v4 cb (cmv c).toArray t_api_Cmd := hk4.heap (hk3.heap hc2 ncb) (by omega)
        have rdo : ∀ {y : World} {x : Sl} {L : List Bk}, L.length ≤ 4096 → Own y w.heap.size t_api_Block 19 x (L.flatMap bc) → Rd y 19 x (L.flatMap bc) := fun hL ho => ho.rd (by have := ho.len; rw [flat_bc_len] at this; omega)
        refine differ_spec (rdo (by omega) o2) (rdo (by omega) oT) (by omega) (by omega) (by omega) fun v5 hg5 => ?_
        have hkD5 := hkD4.grow hg5
        cases hf : firstNe (packB false ((bs.drop c.lba).take c.blocks)) (packB false (unpB wt (l.take H))) with
        | some i =>
          have hil : i < 65536 + 1 := by
            have := List.mem_of_find?_eq_some hf
            rw [List.mem_range, packB_len] at this
            have e16 : szB false = 16 := rfl
            rw [e16] at this
            omega
          rw [dif_some hf]
          refine br_t (by rw [decide_eq_true_eq]; omega) ?_
          rw [wu64 (by omega) (by omega)]
          refine at_spec (key := 14) (code := 0x1d00) (info := i) fun v6 hg6 => ?_
          have ha6 := (hg5.trans hg6).heap ha4 (fun q => q)
          refine ret_rule ha6 rfl fun v7 hk7 => ?_
          exact k4 hl2 i hf v7 (keepD_new (hkD5.grow hg6) (by omega) hk7) (isW_new ((hw4.grow hg5).grow hg6) ha6 tne_result nab hk7)
        | none =>
          rw [dif_none hf]
          have hc5 := hg5.heap hc4 (fun q => q)
          refine br_f (by rw [decide_eq_false_iff_not]; omega) ⟨(c.lba : Int), by rw [add0, Blk.cell hc5]; rfl, c.fua, by rw [add0, Blk.cell hc5]; rfl, ?_⟩
          have hVl : (cameB kind c (l.drop H) c.blocks).length = c.blocks := cameB_len (by rw [hwt, hl1]; exact hdm.2)
          have hd5 : Dv v5 dv ps pw file kind n cache D { st with ops := st.ops + c.blocks } bs (m + c.blocks) := h.ops hkD5 (hw4.grow hg5)
          have oX5 := oX.grow hg5
          have s5 := hkD5.size
          refine dev_write_spec (L := cameB kind c (l.drop H) c.blocks) hd5 (by omega) (by omega) (fun y hy => rdo (by omega) (oX5.keep hy fun b hbb q => by
            have := (oX5.ge b hbb).1
            have := lD _ q
            omega)) fun v6 D6 hk6 hd6 hD6 => ?_
          rw [hVl] at hd6
          have ha6 : Blk v6 ab z10 t_api_Result := hk6.heap (hg5.heap ha4 (fun q => q)) nab
          have nab6 : ¬ D6 ab := fun q => by
            rcases hD6 _ q with r | r
            · exact nab r
            · have := lt_of_heap (hg5.heap ha4 (fun q => q)); omega
          refine ret_rule (st := 0) (s := sn0) (d := nilS) ha6 rfl fun v7 hk7 => ?_
          refine k5 hl2 hf v7 D6 (keepD_new (hkD5.trans hk6 fun _ _ q => q) (by omega) hk7) (hd6.put ha6 tne_result (by decide) (by decide) nab6 hk7) fun k q => ?_
          rcases hD6 k q with r | r
          · exact .inl r
          · exact .inr (by omega)
      · refine lay_rule (hk3.heap hb2 nrb) rfl fun v4 hb4 hk4 _ => br_t rfl ⟨_, rLoad (blk_cells hb4), ?_⟩
        have hkD3 : Keep D w v3 := (hgw2.mono fun _ _ q => q.elim).trans hk3 fun _ _ q => q
        have ha4 : Blk v4 ab z10 t_api_Result := hk4.heap (hk3.heap ha2 nab) (by omega)
        refine ret_rule ha4 rfl fun v5 hk5 => ?_
        exact k2 (fun q => hz (q.2 i hi)) _ _ v5 c.blocks (keepD_new (keepD_new hkD3 (by omega) hk4) (by omega) hk5) (isW_new (isW_new (hr3.isW h2.isW) (hk3.heap hb2 nrb) tne_result nrb hk4) ha4 tne_result nab hk5) (Nat.le_refl _))
  have come : ∀ (v : World) (hgv : Grow w5 v) (R : Sl → Array Value → Bool → World → Prop), (∀ code info v2, ¬ (c.prot = 0 ∧ ∀ i (hi : i < ((bs.drop c.lba).take c.blocks).length), chkB kind c.prot (c.lba + i) ((bs.drop c.lba).take c.blocks)[i] = 0) → Grow v v2 → R nilS (rsv 2 (atS 11 code info) nilS).toArray false v2) →
      (∀ xs v2, Grow v v2 → Own v2 v.heap.size t_api_Block 19 xs ((cameB kind c (l.drop H) c.blocks).flatMap bc) → R xs (rsv 0 sn0 nilS).toArray true v2) →
      Csbc_Dev_come (some ⟨dv, 0, none⟩) (cmv c).toArray ⟨cutA p.A p.c H 1, p.n - H, p.c - H⟩ (c.blocks : Int) v R := by
    intro v hgv R hE hG
    refine dev_come_spec (N := c.blocks) (h5.grow hgv).dev (hcut1 v (hgw5.trans hgv)) (by show p.n - H ≤ _; omega) (by omega) (by omega) (fun q => ?_) (fun q1 q2 q3 xs v2 hv2 ho => ?_) (fun q1 q2 q3 q4 xs v2 hv2 ho => ?_) (fun q1 q2 q3 i hi hz hall v2 hv2 => hE _ _ v2 (fun q => q3 q.1) hv2)
    · exfalso
      rw [hwt, hl1] at q
      rcases q with q | q
      · exact q hdm.1
      · exact q hdm.2
    · refine hG xs v2 hv2 ?_
      unfold cameB; rw [if_pos q3]; exact ho
    · refine hG xs v2 hv2 ?_
      unfold cameB; rw [if_neg q3]; exact ho
  refine ⟨?_, ?_⟩
  · refine come w5 (Keep.refl _ _) _ (fun code info v2 hnot hv2 => ?_) (fun xs v2 hv2 ho => ?_)
    · refine new_rule fun rb v3 hrb hb3 hg3' hsz3 => ⟨hg15.trans (hv2.trans hg3'), ?_⟩
      exact tailE code info rb v3 _ hnot (hv2.trans hg3') hb3 rfl (by have := hv2.size; omega)
    · refine new_rule fun rb v3 hrb hb3 hg3' hsz3 => ⟨hg15.trans (hv2.trans hg3'), ?_⟩
      exact tailG xs rb v3 _ (hv2.trans hg3') hb3 rfl (by have := hv2.size; omega) (fun q => by have := (ho.ge _ q).2; omega) ((ho.grow hg3').mono hgw5.size)
  · refine new_rule fun rb v3 hrb hb3 hg3' hsz3 => ⟨hg15.trans hg3', ?_⟩
    refine come v3 hg3' _ (fun code info v2 hnot hv2 => ?_) (fun xs v2 hv2 ho => ?_)
    · exact tailE code info rb v2 _ hnot (hg3'.trans hv2) (hv2.heap hb3 (fun q => q)) rfl (by omega)
    · exact tailG xs rb v2 _ (hg3'.trans hv2) (hv2.heap hb3 (fun q => q)) rfl (by omega) (fun q => by have := (ho.ge _ q).1; omega) (ho.mono (hgw5.trans hg3').size)
end
end Go.Proofs.Ytaneeadpjelomaa

/- Layer 14: the law of COMPARE AND WRITE. -/
namespace Go.Proofs.Ytaneeadpjelomaa
open Go CF

section
variable {w u u' v v' : World} {dv ps pw : Nat} {file : ByteArray} {kind n : Nat} {cache : Bool} {D D' : Nat → Prop} {st st' : Wst} {bs bs' : List Bk} {m m' : Nat} {ls : List (Nat × List Value × TypeId)} {rows : List (Sl × L8)}
theorem Lwq.compare (L : Lw w u dv ps pw file kind n cache D st bs m ls rows) (hm : m ≤ 900000) {c : Cm} {p : Sl} {l : L8} {K : Array Value → World → Prop} (hk : c.kind = 14) (hp0 : c.prot = 0) (hc : c.lba + c.blocks ≤ n) (hp : Rd u 1 p (bv l)) (hl : l.length = 2 * (16 * c.blocks)) (hf : Fine kind bs)
    (h : ∀ s sn v D' st' B', Lw w v dv ps pw file kind n cache D' st' B' (m + c.blocks + c.blocks + 1) ls rows →
      ((s = 0 ∧ sn = sn0 ∧ firstNe (packB false ((bs.drop c.lba).take c.blocks)) (l.take (16 * c.blocks)) = none ∧ B' = setAll bs c.lba (mkAll kind c.lba (unpB false (l.drop (16 * c.blocks))) c.blocks) c.blocks) ∨
        ∃ i, s = 2 ∧ sn = atS 14 0x1d00 i ∧ firstNe (packB false ((bs.drop c.lba).take c.blocks)) (l.take (16 * c.blocks)) = some i ∧ B' = bs) → K (rsv s sn nilS).toArray v) :
    Csbc_Dev_Do (some ⟨dv, 0, none⟩) (cmv c).toArray p u K := by
  have hsz := L.dvs.size
  have hkd := L.dvs.kd
  have hln := rd_n' hp
  have hkn : knownB kind c.prot = true := by unfold knownB; rw [hp0]; simp [hkd]
  have e0 : decide (c.prot ≠ 0) = false := by simpa using hp0
  have e16 : szB false = 16 := rfl
  refine do_spec L.dvs (by omega) hp (by omega) (by omega) (by omega) (fun q => by rw [hkn] at q; cases q) (fun _ _ _ q => by omega) (fun _ q => by omega) (fun _ q => by omega) (fun _ q => by omega) (fun _ q => by omega) (fun _ q => by omega) (fun _ q => by omega)
    (fun _ _ ab y hy hab hby => ⟨fun q => by omega, fun q => by omega, fun q => by omega, fun _ => ?_, fun q => by omega⟩) (fun _ _ _ _ _ _ _ _ a _ => by omega)
  have hun : packB false (unpB (decide (c.prot ≠ 0)) (l.take (16 * c.blocks))) = l.take (16 * c.blocks) := by rw [e0]; exact unpB_bytes (by rw [List.length_take]; omega)
  refine dev_compare_spec (H := 16 * c.blocks) (L.dvs.grow hy) hm (hp.grow hy) (by omega) hc (by rw [e0, e16]) (fun q => absurd hl q) (fun q => absurd ⟨hp0, fun i hi => fine_part hf i hi c.prot⟩ q) (fun _ i hi z hz hw => ⟨hz, 2, _, nilS, rfl, fun v' hv' => ?_⟩) (fun _ hno z D2 hz hd hD2 => ⟨hz, 0, sn0, nilS, rfl, fun v' hv' => ?_⟩)
  · rw [hun] at hi
    refine h 2 _ v' D _ bs (L.fin hy hby hab hz (((L.dvs.grow hy).ops hz hw).mono (by omega)) (fun _ q => .inl q) hv') (.inr ⟨i, rfl, rfl, hi, rfl⟩)
  · rw [hun] at hno
    have hcame : cameB kind c (l.drop (16 * c.blocks)) c.blocks = mkAll kind c.lba (unpB false (l.drop (16 * c.blocks))) c.blocks := by unfold cameB; rw [if_pos hp0]
    rw [hcame] at hd
    exact h 0 _ v' D2 _ _ (L.fin hy hby hab hz hd hD2 hv') (.inl ⟨rfl, rfl, hno, rfl⟩)
end
theorem sbcCompares_spec {th td fr : Sl} {lt ld lf : L8} {AT CN : Nat} {w : World} {R : Bool → World → Prop} (ht : Rd w 1 th (bv lt)) (hd : Rd w 1 td (bv ld)) (hf : Rd w 1 fr (bv lf)) (hAT : AT < 256) (hCN : CN < 256) (h : ∀ w', Grow w w' → R true w') :
    Cpalletlaw14_SbcCompares th td fr (AT : Int) (CN : Int) w R := by
  refine Fpalletlaw14_SbcCompares.calls _ _ _ _ _ _ _ ?_
  unfold Fpalletlaw14_SbcCompares
  have hlt := rd_n' ht
  have hld := rd_n' hd
  have hlf := rd_n' hf
  have hct := ht.cap
  have hcd := hd.cap
  have hcf := hf.cap
  have eN : IntKind.wrap .i64 (1 + ((IntKind.wrap .i64 (CN : Int)).tmod 4)) = ((1 + CN % 4 : Nat) : Int) := by
    rw [w64 (n := (CN : Int)) (by omega) (by omega)]
    have : ((CN : Int).tmod 4) = ((CN % 4 : Nat) : Int) := rfl
    rw [this, w64 (by omega) (by omega)]; omega
  rw [eN]
  have hN4 : 1 ≤ 1 + CN % 4 ∧ 1 + CN % 4 ≤ 4 := by omega
  generalize 1 + CN % 4 = N at *
  have e16 : IntKind.wrap .i64 (16 * (N : Int)) = ((16 * N : Nat) : Int) := by rw [w64 (by omega) (by omega)]; omega
  have e17 : IntKind.wrap .i64 (17 - (N : Int)) = ((17 - N : Nat) : Int) := by rw [w64 (by omega) (by omega)]; omega
  have eL : IntKind.wrap .u64 ((IntKind.wrap .i64 (AT : Int)).tmod ((17 - N : Nat) : Int)) = ((AT % (17 - N) : Nat) : Int) := by
    rw [w64 (n := (AT : Int)) (by omega) (by omega)]
    have : ((AT : Int).tmod ((17 - N : Nat) : Int)) = ((AT % (17 - N) : Nat) : Int) := rfl
    rw [this]
    have := Nat.mod_le AT (17 - N)
    exact wu64 (by omega) (by omega)
  have eB : IntKind.wrap .u64 (N : Int) = (N : Int) := wu64 (by omega) (by omega)
  rw [e16, e17, eL, eB]
  have hlb : AT % (17 - N) < 17 - N := Nat.mod_lt _ (by omega)
  generalize AT % (17 - N) = lba at *
  refine awake14_spec fun w0 hg0 => br_f rfl ⟨by decide, by omega, ?_⟩
  by_cases hsh : th.n < 16 * N ∨ td.n < 16 * N ∨ fr.n < 16 * N
  · exact br_t (by rw [Bool.or_eq_true, Bool.or_eq_true, decide_eq_true_eq, decide_eq_true_eq, decide_eq_true_eq]; omega) (h w0 hg0)
  refine br_f (by rw [Bool.or_eq_false_iff, Bool.or_eq_false_iff, decide_eq_false_iff_not, decide_eq_false_iff_not, decide_eq_false_iff_not]; omega) ?_
  refine device_spec (n := 16) (kind := 1) (cache := true) (by decide) (by decide) fun dv ps pw D w1 L1 => br_f rfl ?_
  simp only [Int.toNat_natCast]
  have cutR : ∀ {s : Sl} {l : L8}, Rd w 1 s (bv l) → 16 * N ≤ s.n → ∀ x, Grow w x → Rd x 1 ⟨cutA s.A s.c 0 1, 16 * N - 0, s.c - 0⟩ (bv (l.take (16 * N))) := fun hs hle x hx => (hs.grow hx).cutB (l := 0) (k := 16 * N) (Nat.zero_le _) hle
  have cutT := cutR ht (by omega)
  have cutD := cutR hd (by omega)
  have cutF := cutR hf (by omega)
  have bnd : ∀ {s : Sl}, 16 * N ≤ s.n → s.n ≤ s.c → (0 : Int) ≤ (0 : Int) ∧ (0 : Int) ≤ ((16 * N : Nat) : Int) ∧ ((16 * N : Nat) : Int) ≤ (s.c : Int) ∧ s.n ≤ s.c := fun a b => ⟨by decide, by omega, by omega, b⟩
  have lT : (lt.take (16 * N)).length = 16 * N := by rw [List.length_take]; omega
  have lO : (ld.take (16 * N)).length = 16 * N := by rw [List.length_take]; omega
  have lF : (lf.take (16 * N)).length = 16 * N := by rw [List.length_take]; omega
  have gT : ∀ i, i < 16 * N → (lt.take (16 * N)).getD i 0 = lt.getD i 0 := fun i hi => by rw [List.getD_eq_getElem?_getD, List.getD_eq_getElem?_getD, List.getElem?_take, if_pos hi]
  have gO : ∀ i, i < 16 * N → (ld.take (16 * N)).getD i 0 = ld.getD i 0 := fun i hi => by rw [List.getD_eq_getElem?_getD, List.getD_eq_getElem?_getD, List.getElem?_take, if_pos hi]
  generalize lt.take (16 * N) = T at *
  generalize ld.take (16 * N) = O at *
  generalize lf.take (16 * N) = F at *
  refine ⟨bnd (by omega) hct, L1.write0 (by decide) (c := ⟨8, false, lba, N, 0, false, 0, false, false, 0, 0, false, 0, 0, false⟩) (.inl rfl) rfl (by show lba + N ≤ 16; omega) (cutT w1 (hg0.trans L1.grow)) lT fun w2 D2 L2 => ?_⟩
  have mkOk : ∀ {X : L8} {B : List Bk}, X.length = 16 * N → B.length = 16 → Fine 1 B → Fine 1 (setAll B lba (mkAll 1 lba (unpB false X) N) N) ∧ packB false (((setAll B lba (mkAll 1 lba (unpB false X) N) N).drop lba).take N) = X ∧ (setAll B lba (mkAll 1 lba (unpB false X) N) N).length = 16 := by
    intro X B hX hB hfB
    have hmk := mk_len (kind := 1) (lba := lba) (N := N) (l := X) hX
    refine ⟨?_, ?_, by rw [setAll_len]; exact hB⟩
    · have := fine_set hfB (F := lba) (xs := mkAll 1 lba (unpB false X) N) (by rw [hmk, hB]; omega) (fine_mk (by rw [unpB_len, hX]; show 16 * N / 16 = N; omega))
      rwa [hmk] at this
    · have hpart := setAll_read (bs := B) (F := lba) (xs := mkAll 1 lba (unpB false X) N) (by rw [hmk, hB]; omega)
      rw [hmk] at hpart
      rw [hpart]; exact mk_bytes (by rw [hX]; omega)
  obtain ⟨hf1, hp1, hlen1⟩ := mkOk lT (List.length_replicate (n := 16) (a := emptyB)) (fine_rep 1 16)
  have L2 : Lw w0 w2 dv ps pw s_f 1 16 true D2 (syncIf (syncs N (false || decide ((8 : Nat) = 9)) true) (layW st0 s_f lba (rsOf (mkAll 1 lba (unpB false T) N)) N)) (setAll (List.replicate 16 emptyB) lba (mkAll 1 lba (unpB false T) N) N) (0 + N + 1) [] [] := L2
  generalize setAll (List.replicate 16 emptyB) lba (mkAll 1 lba (unpB false T) N) N = B1 at *
  refine L2.res fun ab w3 L3 => ⟨bnd (by omega) hcd, ?_⟩
  have hg3 := hg0.trans L3.grow
  refine append_rule (s := ⟨none, 0, 0⟩) (vs := []) (base := w3.heap.size) u_sl_uint8 i_uint8 rfl (by decide) (by decide) (own_nil _ _ _ _) (cutD w3 hg3) (bv_one' _) (by show (0 + (16 * N - 0)) * 1 ≤ _; omega) (Nat.le_refl _) fun x4 w4 hn4 hown4 hk4 _ => ⟨bnd (by omega) hcf, ?_⟩
  rw [List.nil_append] at hown4
  have hg4 : Grow w3 w4 := hk4.mono fun i hi q => by cases q
  have hn4 : x4.n = 0 + (16 * N - 0) := hn4
  refine append_rule u_sl_uint8 i_uint8 rfl (by decide) (by decide) hown4 (cutF w4 (hg3.trans hg4)) (bv_one' _) (by show (x4.n + (16 * N - 0)) * 1 ≤ _; omega) hg4.size fun x5 w5 hn5 hown5 hk5 _ => ?_
  rw [← bv_append] at hown5
  have hg5 := own_grow' hg4 hown4 (Nat.le_refl _) hk5
  have hn5 : x5.n = x4.n + (16 * N - 0) := hn5
  have L5 := L3.go hg5
  have hOF : (O ++ F).length = 2 * (16 * N) := by rw [List.length_append]; omega
  have hO : (O ++ F).take (16 * N) = O := by rw [List.take_append_of_le_length (by omega), List.take_of_length_le (by omega)]
  have hF : (O ++ F).drop (16 * N) = F := by rw [← lO, List.drop_left]
  refine L5.compare (by show 0 + N + 1 ≤ _; omega) (c := ⟨14, false, lba, N, 0, false, 0, false, false, 0, 0, false, 0, 0, false⟩) rfl rfl (by show lba + N ≤ 16; omega) (hown5.rd (by omega)) hOF hf1 fun s sn w6 D6 st6 B6 L6 hcase => ?_
  simp only [hp1, hO, hF] at hcase
  have hB6 : Fine 1 B6 ∧ packB false ((B6.drop lba).take N) = (if s = 0 then F else T) := by
    rcases hcase with ⟨rfl, _, _, rfl⟩ | ⟨i, rfl, _, _, rfl⟩
    · obtain ⟨a, b, _⟩ := mkOk lF hlen1 hf1
      exact ⟨a, b⟩
    · exact ⟨hf1, hp1⟩
  have L6 : Lw w0 w6 dv ps pw s_f 1 16 true D6 st6 B6 (0 + N + 1 + N + N + 1) [(ab, rsv 0 sn0 nilS, t_api_Result)] [] := L6
  refine L6.res fun bb w7 L7 => ?_
  refine L7.read (by omega) (c := ⟨7, false, lba, N, 0, false, 0, false, false, 0, 0, false, 0, 0, false⟩) rfl rfl (by show lba + N ≤ 16; omega) (rd_nilB _) (by decide) hB6.1 fun d w8 L8 hdn hown8 => ?_
  refine L8.res fun cb w9 L9 => ?_
  have hrow := (L9.row _ List.mem_cons_self).1
  have hrow : Rd w9 1 d (bv (packB false ((B6.drop lba).take N))) := hrow
  rw [hB6.2] at hrow
  have hc9 := L9.held
  have hb9 := (L9.loc _ (List.mem_cons_of_mem _ List.mem_cons_self)).1
  have ha9 := (L9.loc _ (List.mem_cons_of_mem _ (List.mem_cons_of_mem _ List.mem_cons_self))).1
  have hg9 := hg0.trans L9.grow
  have e1 : IntKind.wrap .i64 (((16 * N : Nat) : Int) - 1) = ((16 * N : Nat) : Int) - 1 := w64 (by omega) (by omega)
  rw [e1]
  refine ⟨fun first i x => ∃ j : Nat, i = (j : Int) - 1 ∧ j ≤ 16 * N ∧ Grow w9 x ∧ ((first = -1 ∧ ∀ k, j ≤ k → k < 16 * N → T.getD k 0 = O.getD k 0) ∨ ∃ f : Nat, first = f ∧ j ≤ f ∧ f < 16 * N ∧ T.getD f 0 ≠ O.getD f 0 ∧ ∀ k, j ≤ k → k < f → T.getD k 0 = O.getD k 0), fun _ i _ => (i + 1).toNat,
    ⟨16 * N, rfl, Nat.le_refl _, Keep.refl _ _, .inl ⟨rfl, fun k a b => by omega⟩⟩, ?_⟩
  rintro first i x ⟨j, rfl, hj, hgx, hfirst⟩
  by_cases hj0 : j = 0
  case neg =>
    refine br_t (by rw [decide_eq_true_eq]; omega) ?_
    obtain ⟨q, rfl⟩ : ∃ q, j = q + 1 := ⟨j - 1, by omega⟩
    have ei : ((q + 1 : Nat) : Int) - 1 = (q : Int) := by omega
    rw [ei]
    refine letX1 (fun (first1 : Int) y => Grow w9 y ∧ ((first1 = -1 ∧ ∀ k, q ≤ k → k < 16 * N → T.getD k 0 = O.getD k 0) ∨ ∃ f : Nat, first1 = f ∧ q ≤ f ∧ f < 16 * N ∧ T.getD f 0 ≠ O.getD f 0 ∧ ∀ k, q ≤ k → k < f → T.getD k 0 = O.getD k 0))
      (fun f1 y hy => by
        rw [w64 (by omega) (by omega)]
        exact ⟨⟨q, rfl, by omega, hy.1, hy.2⟩, by dsimp only; omega⟩) (fun J => ?_)
    rintro y rfl
    have hgy : Grow w9 x.drew := hgx.trans (keep_drew x)
    obtain ⟨aT, cT⟩ := rd_at (ht.grow hg9) (i := q) (by omega)
    obtain ⟨aD, cD⟩ := rd_at (hd.grow hg9) (i := q) (by omega)
    refine ⟨fun z => Grow w9 z, hgy, ⟨by omega, by omega, aT⟩, ((T.getD q 0).toNat : Int), fun z hz => by rw [Int.toNat_natCast, gT q (by omega)]; exact hz.cell cT (fun e => e), ⟨by omega, by omega, aD⟩, ((O.getD q 0).toNat : Int), fun z hz => by rw [Int.toNat_natCast, gO q (by omega)]; exact hz.cell cD (fun e => e), ?_⟩
    refine br_ne (fun e => J _ _ ⟨hgy, .inr ⟨q, rfl, Nat.le_refl _, by omega, fun e2 => e (by rw [e2]), fun k a b => by omega⟩⟩) (fun e => J _ _ ⟨hgy, ?_⟩)
    have eq : T.getD q 0 = O.getD q 0 := UInt8.toNat_inj.1 (by omega)
    rcases hfirst with ⟨h1, h2⟩ | ⟨f, h1, h2, h3, h4, h5⟩
    · exact .inl ⟨h1, fun k a b => by
        by_cases e : k = q
        · rw [e]; exact eq
        · exact h2 k (by omega) b⟩
    · exact .inr ⟨f, h1, by omega, h3, h4, fun k a b => by
        by_cases e : k = q
        · rw [e]; exact eq
        · exact h5 k (by omega) b⟩
  subst hj0
  refine br_f (by rw [decide_eq_false_iff_not]; omega) ?_
  have ha := hgx.heap ha9 (fun q => q)
  have hb := hgx.heap hb9 (fun q => q)
  have hc := hgx.heap hc9 (fun q => q)
  refine ⟨0, by rw [add0, Blk.cell ha]; rfl, 0, fun _ => by rw [add0, Blk.cell hc]; rfl, br_f rfl ?_⟩
  have hgwx := hg9.trans hgx
  rcases hfirst with ⟨rfl, hall⟩ | ⟨f, rfl, _, hfN, hne, hall⟩
  · have hno : firstNe T O = none := firstNe_none fun k hk => hall k (Nat.zero_le _) (by omega)
    rw [hno] at hcase
    rcases hcase with ⟨rfl, rfl, _, _⟩ | ⟨i, _, _, q, _⟩
    · refine br_t rfl ?_
      rintro y rfl
      have hgy : Grow w9 x.drew := hgx.trans (keep_drew x)
      refine ⟨fun z => Grow w9 z, hgy, 0, fun z hz => by rw [add0, Blk.cell (hz.heap hb9 (fun q => q))]; rfl, d, fun _ z hz => by rw [add0, Blk.cell (hz.heap hc9 (fun q => q))]; rfl, str F, fun _ z hz => convStr_rule u_sl_uint8 u_uint8 u_string (hrow.grow hz), fun _ => bnd (by omega) hcf, str F,
        fun _ z hz => convStr_rule (s := ⟨cutA fr.A fr.c 0 1, 16 * N - 0, fr.c - 0⟩) u_sl_uint8 u_uint8 u_string (cutF z (hg9.trans hz)), ?_⟩
      have := h x.drew (hg9.trans hgy)
      simpa [sEq_str] using this
    · cases q
  · have hso : firstNe T O = some f := firstNe_some (by omega) (fun k hk => hall k (Nat.zero_le _) hk) hne
    rw [hso] at hcase
    rcases hcase with ⟨_, _, q, _⟩ | ⟨i, rfl, rfl, q, _⟩
    · cases q
    · obtain rfl := Option.some.inj q
      refine br_f (by rw [decide_eq_false_iff_not]; omega) ?_
      rintro y rfl
      have hgy : Grow w9 x.drew := hgx.trans (keep_drew x)
      refine ⟨fun z => Grow w9 z, hgy, (rsv 2 (atS 14 0x1d00 f) nilS).toArray, fun z hz => rLoad (blk_cells (hz.heap hb9 (fun q => q))), ?_⟩
      rw [wu64 (by omega) (by omega)]
      refine at14_spec (key := 14) (code := 7424) (info := f) fun y2 hg2 => ⟨hgy.trans hg2, ?_⟩
      refine same14_spec (d1 := nilS) (d2 := nilS) (l := []) (rd_nilB _) (rd_nilB _) fun y3 hg3' => ⟨(hgy.trans hg2).trans hg3', ?_⟩
      have hgz := (hgy.trans hg2).trans hg3'
      refine ⟨fun z => Grow w9 z, hgz, fun _ q => q, d, fun _ z hz => by rw [add0, Blk.cell (hz.heap hc9 (fun q => q))]; rfl, fun z => Grow w9 z, hgz, fun _ q => q, str T, fun _ z hz => convStr_rule u_sl_uint8 u_uint8 u_string (hrow.grow hz), fun _ => bnd (by omega) hct, fun z => Grow w9 z, hgz, fun _ q => q, str T,
        fun _ z hz => convStr_rule (s := ⟨cutA th.A th.c 0 1, 16 * N - 0, th.c - 0⟩) u_sl_uint8 u_uint8 u_string (cutT z (hg9.trans hz)), ?_⟩
      have := h y3 (hg9.trans hgz)
      simpa [sEq_str] using this
theorem sbcCompares_row {th td fr : Sl} {lt ld lf : L8} {x y : Int} {w : World} {R : Bool → World → Prop} (ht : Rd w 1 th (bv lt)) (hd : Rd w 1 td (bv ld)) (hf : Rd w 1 fr (bv lf)) (hx : (Lit.int .u8 x).wf = true) (hy : (Lit.int .u8 y).wf = true) (h : ∀ w', Grow w w' → R true w') :
    Cpalletlaw14_SbcCompares th td fr x y w R := by
  obtain ⟨A, rfl, hA⟩ := int_u8 hx
  obtain ⟨B, rfl, hB⟩ := int_u8 hy
  exact sbcCompares_spec ht hd hf hA hB h
end Go.Proofs.Ytaneeadpjelomaa

/- Layer 14: the law of blocks taken away. -/
namespace Go.Proofs.Ytaneeadpjelomaa
open Go CF

theorem fine_un {kind F k : Nat} {bs : List Bk} (h : Fine kind bs) (hF : F + k ≤ bs.length) : Fine kind (setAll bs F [] k) := fun i hi prot => by
  have hi' : i < bs.length := by rw [setAll_len] at hi; exact hi
  have e := setAll_get bs F [] k hF i hi'
  rw [List.getElem?_eq_getElem hi] at e
  split at e
  · rw [Option.some.inj e]
    exact fine_empty _ _ _
  · rw [List.getElem?_eq_getElem hi'] at e
    rw [Option.some.inj e]
    exact h i hi' prot
theorem packB_getD : ∀ {bs : List Bk} {i : Nat}, i < 16 * bs.length → (packB false bs).getD i 0 = ((bs[i / 16]?).getD emptyB).d.getD (i % 16) 0
  | [], i, h => by simp at h
  | b :: r, i, h => by
    have hd := b.hd
    have e : packB false (b :: r) = b.d ++ packB false r := by simp [packB, wireB]
    rw [e]
    rw [List.length_cons] at h
    by_cases q : i < 16
    · rw [List.getD_eq_getElem?_getD, List.getElem?_append_left (by omega), show i / 16 = 0 by omega, show i % 16 = i by omega, List.getD_eq_getElem?_getD]; rfl
    · have ih := packB_getD (bs := r) (i := i - 16) (by omega)
      rw [List.getD_eq_getElem?_getD, List.getElem?_append_right (by omega), hd, ← List.getD_eq_getElem?_getD, ih, show (i - 16) % 16 = i % 16 by omega]
      have : i / 16 = (i - 16) / 16 + 1 := by omega
      rw [this]; rfl
theorem empty_getD (j : Nat) : emptyB.d.getD j 0 = 0 := by
  have e : emptyB.d = List.replicate 16 0 := rfl
  rw [e, List.getD_eq_getElem?_getD, List.getElem?_replicate]
  split <;> rfl
theorem un_getD {bs : List Bk} {F k i : Nat} (hF : F + k ≤ bs.length) (hi : i < 16 * bs.length) : (packB false (setAll bs F [] k)).getD i 0 = if 16 * F ≤ i ∧ i < 16 * (F + k) then 0 else (packB false bs).getD i 0 := by
  rw [packB_getD (by rw [setAll_len]; exact hi), setAll_get _ _ _ _ hF _ (by omega)]
  by_cases q : 16 * F ≤ i ∧ i < 16 * (F + k)
  · rw [if_pos (by omega), if_pos q]; exact empty_getD _
  · rw [if_neg (by omega), if_neg q, packB_getD hi]
def unQ (at_ k : Nat) : L8 := [0, 22, 0, 16, 0, 0, 0, 0, 0, 0, 0, 0, 0, 0, 0, UInt8.ofNat at_, 0, 0, 0, UInt8.ofNat k, 0, 0, 0, 0]
theorem unQ_lit' (w : World) (a b : UInt8) : (Instr.buildSlice 22 24 #[(0, .int .u8 0), (1, .int .u8 22), (2, .int .u8 0), (3, .int .u8 16), (4, .int .u8 0), (5, .int .u8 0), (6, .int .u8 0), (7, .int .u8 0), (8, .int .u8 0), (9, .int .u8 0), (10, .int .u8 0), (11, .int .u8 0), (12, .int .u8 0), (13, .int .u8 0), (14, .int .u8 0), (15, .int .u8 (a.toNat : Int)), (16, .int .u8 0), (17, .int .u8 0), (18, .int .u8 0), (19, .int .u8 (b.toNat : Int)), (20, .int .u8 0), (21, .int .u8 0), (22, .int .u8 0), (23, .int .u8 0)]).run Try.prog w = .ok (.slice (some ⟨w.heap.size, 0, none⟩) 24 24) (w.alloc (.cells (bv [0, 22, 0, 16, 0, 0, 0, 0, 0, 0, 0, 0, 0, 0, 0, a, 0, 0, 0, b, 0, 0, 0, 0]).toArray t_uint8)) := by kernel_rfl
theorem unQ_lit (w : World) {A N : Nat} (hA : A < 256) (hN : N < 256) : (Instr.buildSlice 22 24 #[(0, .int .u8 0), (1, .int .u8 22), (2, .int .u8 0), (3, .int .u8 16), (4, .int .u8 0), (5, .int .u8 0), (6, .int .u8 0), (7, .int .u8 0), (8, .int .u8 0), (9, .int .u8 0), (10, .int .u8 0), (11, .int .u8 0), (12, .int .u8 0), (13, .int .u8 0), (14, .int .u8 0), (15, .int .u8 (A : Int)), (16, .int .u8 0), (17, .int .u8 0), (18, .int .u8 0), (19, .int .u8 (N : Int)), (20, .int .u8 0), (21, .int .u8 0), (22, .int .u8 0), (23, .int .u8 0)]).run Try.prog w = .ok (.slice (some ⟨w.heap.size, 0, none⟩) 24 24) (w.alloc (.cells (bv (unQ A N)).toArray t_uint8)) := by
  have h := unQ_lit' w (UInt8.ofNat A) (UInt8.ofNat N)
  rw [UInt8.toNat_ofNat', UInt8.toNat_ofNat', Nat.mod_eq_of_lt hA, Nat.mod_eq_of_lt hN] at h
  exact h
theorem sbcUnmaps_spec {p : Sl} {lp : L8} {LB CN : Nat} {same : Bool} {w : World} {R : Bool → World → Prop} (hp : Rd w 1 p (bv lp)) (hLB : LB < 256) (hCN : CN < 256) (h : ∀ w', Grow w w' → R true w') :
    Cpalletlaw14_SbcUnmaps p (LB : Int) (CN : Int) same w R := by
  refine Fpalletlaw14_SbcUnmaps.calls _ _ _ _ _ _ ?_
  unfold Fpalletlaw14_SbcUnmaps
  have hln := rd_n' hp
  have hcap := hp.cap
  have eA : ((IntKind.wrap .i64 (LB : Int)).tmod 16) = ((LB % 16 : Nat) : Int) := by rw [w64 (by omega) (by omega)]; rfl
  rw [eA]
  have hA : LB % 16 < 16 := Nat.mod_lt _ (by decide)
  generalize LB % 16 = A at *
  have eS : IntKind.wrap .i64 (16 - (A : Int)) = ((16 - A : Nat) : Int) := by rw [w64 (by omega) (by omega)]; omega
  rw [eS]
  have eK : IntKind.wrap .i64 (1 + ((IntKind.wrap .i64 (CN : Int)).tmod ((16 - A : Nat) : Int))) = ((1 + CN % (16 - A) : Nat) : Int) := by
    rw [w64 (n := (CN : Int)) (by omega) (by omega)]
    have e : ((CN : Int).tmod ((16 - A : Nat) : Int)) = ((CN % (16 - A) : Nat) : Int) := rfl
    rw [e]
    have : CN % (16 - A) < 16 - A := Nat.mod_lt _ (by omega)
    rw [w64 (by omega) (by omega)]; omega
  rw [eK]
  have hK : 1 + CN % (16 - A) ≤ 16 - A ∧ 1 ≤ 1 + CN % (16 - A) := by have : CN % (16 - A) < 16 - A := Nat.mod_lt _ (by omega); omega
  generalize 1 + CN % (16 - A) = N at *
  have e1 : IntKind.wrap .i64 (16 * (A : Int)) = ((16 * A : Nat) : Int) := by rw [w64 (by omega) (by omega)]; omega
  have e2 : IntKind.wrap .i64 (16 * (IntKind.wrap .i64 ((A : Int) + (N : Int)))) = ((16 * (A + N) : Nat) : Int) := by rw [w64 (n := (A : Int) + (N : Int)) (by omega) (by omega), w64 (by omega) (by omega)]; omega
  have e3 : IntKind.wrap .u64 (A : Int) = (A : Int) := wu64 (by omega) (by omega)
  have e4 : IntKind.wrap .u64 (N : Int) = (N : Int) := wu64 (by omega) (by omega)
  have e5 : IntKind.wrap .u8 (A : Int) = (A : Int) := wu8 (by omega) (by omega)
  have e6 : IntKind.wrap .u8 (N : Int) = (N : Int) := wu8 (by omega) (by omega)
  rw [e1, e2, e3, e4, e5, e6]
  refine awake14_spec fun w0 hg0 => ?_
  by_cases hsh : p.n < 256
  · exact br_t (by rw [Bool.or_eq_true, decide_eq_true_eq]; omega) (awake14_spec fun w1 hg1 => h w1 (hg0.trans hg1))
  refine br_f (by rw [Bool.or_eq_false_iff, decide_eq_false_iff_not]; exact ⟨rfl, by omega⟩) ?_
  refine device_spec (n := 16) (kind := 1) (cache := true) (by decide) (by decide) fun dv ps pw D w1 L1 => br_f rfl ⟨by decide, by omega, ⟨by decide, by decide, by omega, hcap⟩, ?_⟩
  have hcut : ∀ x, Grow w x → Rd x 1 ⟨cutA p.A p.c 0 1, 256 - 0, p.c - 0⟩ (bv (lp.take 256)) := fun x hx => (hp.grow hx).cutB (l := 0) (k := 256) (Nat.zero_le _) (by omega)
  have hll : (lp.take 256).length = 256 := by rw [List.length_take]; omega
  have hget : ∀ i, i < 256 → (lp.take 256).getD i 0 = lp.getD i 0 := fun i hi => by rw [List.getD_eq_getElem?_getD, List.getD_eq_getElem?_getD, List.getElem?_take, if_pos hi]
  generalize lp.take 256 = P at *
  refine L1.write0 (by decide) (c := ⟨8, false, 0, 16, 0, false, 0, false, false, 0, 0, false, 0, 0, false⟩) (.inl rfl) rfl (by decide) (hcut w1 (hg0.trans L1.grow)) hll fun w2 D2 L2 => ?_
  have hmk := mk_len (kind := 1) (lba := 0) (N := 16) (l := P) hll
  have hfine : Fine 1 (setAll (List.replicate 16 emptyB) 0 (mkAll 1 0 (unpB false P) 16) 16) := by
    have := fine_set (fine_rep 1 16) (F := 0) (xs := mkAll 1 0 (unpB false P) 16) (by rw [hmk, List.length_replicate]; omega) (fine_mk (by rw [unpB_len, hll]; rfl))
    rwa [hmk] at this
  have hB1l : (setAll (List.replicate 16 emptyB) 0 (mkAll 1 0 (unpB false P) 16) 16).length = 16 := by rw [setAll_len, List.length_replicate]
  have hpart := setAll_read (bs := List.replicate 16 emptyB) (F := 0) (xs := mkAll 1 0 (unpB false P) 16) (by rw [hmk, List.length_replicate]; omega)
  rw [hmk, List.drop_zero, List.take_of_length_le (by omega)] at hpart
  have hpB : packB false (setAll (List.replicate 16 emptyB) 0 (mkAll 1 0 (unpB false P) 16) 16) = P := by
    rw [hpart]; exact mk_bytes (by rw [hll])
  have L2 : Lw w0 w2 dv ps pw s_f 1 16 true D2 (syncIf (syncs 16 (false || decide ((8 : Nat) = 9)) true) (layW st0 s_f 0 (rsOf (mkAll 1 0 (unpB false P) 16)) 16)) (setAll (List.replicate 16 emptyB) 0 (mkAll 1 0 (unpB false P) 16) 16) (0 + 16 + 1) [] [] := L2
  generalize setAll (List.replicate 16 emptyB) 0 (mkAll 1 0 (unpB false P) 16) 16 = B at *
  refine L2.res fun ab w3 L3 => ?_
  refine lit_rule (cells := (bv (unQ A N)).toArray) (e := t_uint8) (z := 1) (base := 0) (unQ_lit w3 (by omega) (by omega)) rfl (by decide) (Nat.zero_le _) fun w4 hlit4 hg4 hsz4 => ?_
  have L4 := L3.go hg4
  refine new_rule fun cb w5 hcb hb5 hg5 hsz5 => ?_
  refine storeVar_rule (cells := (cmv ⟨13, false, 0, 0, 24, false, 0, false, false, 0, 0, false, 0, 0, false⟩).toArray) hb5 i_api_Cmd rfl rfl (by simp [cmv, Value.oneCell']) fun w6 hb6 hk6 hsz6 => ?_
  have hg46 : Grow w4 w6 := hg5.keep hk6 fun i hi q => by omega
  have L6 := L4.go hg46
  have hun1 : unAll B (unQ A N) 1 = setAll B A [] N := by
    have a1 : rngL (unQ A N) 0 = A := by
      show num [0, 0, 0, 0, 0, 0, 0, UInt8.ofNat A] = A
      simp [num]; omega
    have a2 : rngK (unQ A N) 0 = N := by
      show num [0, 0, 0, UInt8.ofNat N] = N
      simp [num]; omega
    show setAll B (rngL (unQ A N) 0) [] (rngK (unQ A N) 0) = _
    rw [a1, a2]
  have hqlen : (unQ A N).length = 24 := rfl
  have hrngL : rngL (unQ A N) 0 = A := by
    show num [0, 0, 0, 0, 0, 0, 0, UInt8.ofNat A] = A
    simp [num]; omega
  have hrngK : rngK (unQ A N) 0 = N := by
    show num [0, 0, 0, UInt8.ofNat N] = N
    simp [num]; omega
  refine letX1 (fun (q : Sl) (x : World) => ∀ K : Array Value → World → Prop, (∀ v D' st' m', m' ≤ 900000 → Lw w0 v dv ps pw s_f 1 16 true D' st' (setAll B A [] N) m' [(ab, rsv 0 sn0 nilS, t_api_Result)] [] → K (rsv 0 sn0 nilS).toArray v) →
      ∃ g1 : Array Value, (loadVar t_api_Cmd ⟨cb, 0, none⟩).run Try.prog x = .ok (.agg g1) x ∧ Csbc_Dev_Do (some ⟨dv, 0, none⟩) g1 q x K) ?_ (fun J => ?_)
  case refine_2 =>
    cases same with
    | false =>
      refine br_f rfl (J _ _ fun K hK => ⟨_, cLoad (blk_cells hb6), ?_⟩)
      refine L6.unmap (by decide) (c := ⟨13, false, 0, 0, 24, false, 0, false, false, 0, 0, false, 0, 0, false⟩) rfl rfl (by decide) (by decide) ((hlit4.grow hg46).rd (by show 24 ≤ _; omega)) (by show 24 ≤ _; omega) (fun b hb q => ?_) (l := unQ A N) (by rw [hqlen]; omega) (by rw [hqlen]; show num [0, 22] = 22; decide) (by rw [hqlen]; show num [0, 16] = 16; decide) (by rw [hqlen]) (fun j hj => ?_) ?_ (fun v D' st' hv => ?_)
      · obtain rfl : w3.heap.size = b := by simpa [Sl.blk] using hb
        have := L3.dvs.isW.lt q
        omega
      · rw [hqlen] at hj
        obtain rfl : j = 0 := by omega
        rw [hrngL, hrngK]; omega
      · rw [hqlen]
        show 0 + rngK (unQ A N) 0 ≤ 256
        rw [hrngK]; omega
      · exact hK v D' st' (0 + 16 + 1 + 5000) (by decide) (by rw [hqlen] at hv; rw [← hun1]; exact hv)
    | true =>
      refine br_t rfl ?_
      refine storeVar_rule (cells := (cmv ⟨12, false, A, N, 0, false, 0, true, false, 0, 0, false, 0, 0, false⟩).toArray) hb6 i_api_Cmd rfl rfl (by simp [cmv, Value.oneCell']) fun w7 hb7 hk7 hsz7 => ?_
      have hg47 : Grow w4 w7 := hg46.keep hk7 fun i hi q => by omega
      have L7 := L4.go hg47
      refine bytes14_spec (n := 16) (b := 0) (by decide) (by decide) fun z w8 hown8 hg8 hz8 => J _ _ fun K hK => ⟨_, cLoad (blk_cells (hg8.heap hb7 (fun q => q))), ?_⟩
      refine (L7.go hg8).same (by decide) (c := ⟨12, false, A, N, 0, false, 0, true, false, 0, 0, false, 0, 0, false⟩) rfl rfl (by show A + N ≤ 16; omega) (hown8.rd (by omega)) rfl (fun v D' st' b0 _ hv => ?_)
      rw [if_pos ⟨rfl, rfl⟩] at hv
      have es : sameN 16 ⟨12, false, A, N, 0, false, 0, true, false, 0, 0, false, 0, 0, false⟩ = N := by unfold sameN; exact if_neg (by show ¬ N = 0; omega)
      rw [es] at hv
      exact hK v D' st' _ (by omega) hv
  intro q x hI
  refine hI _ fun w9 D9 st9 m9 hm9 L9 => ?_
  refine L9.res fun bb w10 L10 => ?_
  have hfin2 := fine_un (F := A) (k := N) hfine (by omega)
  have hlen2 : (setAll B A [] N).length = 16 := by rw [setAll_len]; exact hB1l
  have hgt : ∀ i, i < 256 → (packB false (setAll B A [] N)).getD i 0 = if 16 * A ≤ i ∧ i < 16 * (A + N) then 0 else lp.getD i 0 := fun i hi => by rw [un_getD (by omega) (by omega), hpB, hget i hi]
  have hpl : (packB false (setAll B A [] N)).length = 256 := by rw [packB_len, hlen2]; rfl
  generalize setAll B A [] N = B2 at *
  refine L10.read (by omega) (c := ⟨7, false, 0, 16, 0, false, 0, false, false, 0, 0, false, 0, 0, false⟩) rfl rfl (by decide) (rd_nilB _) (by decide) hfin2 fun d w11 L11 hdn hown11 => ?_
  refine L11.res fun rb w12 L12 => ?_
  have hrow := (L12.row _ List.mem_cons_self).1
  have hrow : Rd w12 1 d (bv (packB false ((B2.drop 0).take 16))) := hrow
  rw [List.drop_zero, List.take_of_length_le (by omega)] at hrow
  have hr12 := L12.held
  have hb12 := (L12.loc _ (List.mem_cons_of_mem _ List.mem_cons_self)).1
  have ha12 := (L12.loc _ (List.mem_cons_of_mem _ (List.mem_cons_of_mem _ List.mem_cons_self))).1
  have hg12 := hg0.trans L12.grow
  have hdn : d.n = 256 := hdn
  refine ⟨0, by rw [add0, Blk.cell ha12]; rfl, 0, fun _ => by rw [add0, Blk.cell hb12]; rfl, 0, fun _ => by rw [add0, Blk.cell hr12]; rfl, d, fun _ => by rw [add0, Blk.cell hr12]; rfl, br_f (by rw [hdn]; rfl) ?_⟩
  refine ⟨fun i x => ∃ j : Nat, i = j ∧ j ≤ 256 ∧ Grow w12 x, fun i _ => 256 - i.toNat, ⟨0, rfl, Nat.zero_le _, Keep.refl _ _⟩, ?_⟩
  rintro i x ⟨j, rfl, hj, hgx⟩
  refine br_nat (y := 256) (fun hlt => ?_) (fun hge => h x (hg12.trans hgx))
  refine letX0 (fun y => Grow w12 y) (fun y hy => by
    rw [w64 (by omega) (by omega)]
    exact ⟨⟨j + 1, by omega, by omega, hy⟩, by dsimp only; omega⟩) (fun J => ?_)
  obtain ⟨aT, cT⟩ := rd_at (hp.grow (hg12.trans hgx)) (i := j) (by omega)
  refine ⟨⟨by omega, by omega, aT⟩, ((lp.getD j 0).toNat : Int), by rw [Int.toNat_natCast]; exact cT, ?_⟩
  refine letX1 (fun (want : Int) y => y = x ∧ want = ((packB false B2).getD j 0).toNat) ?_ (fun J1 => ?_)
  · rintro want y ⟨rfl, rfl⟩
    obtain ⟨aD, cD⟩ := rd_at (hrow.grow hgx) (i := j) (by omega)
    refine ⟨d, by rw [add0, Blk.cell (hgx.heap hr12 (fun q => q))]; rfl, ⟨by omega, by omega, aD⟩, _, by rw [Int.toNat_natCast]; exact cD, ?_⟩
    exact br_f (by rw [bne_eq_false_iff_eq]) (J _ hgx)
  · by_cases hin : 16 * A ≤ j ∧ j < 16 * (A + N)
    · refine br_t (by rw [Bool.and_eq_true, decide_eq_true_eq, decide_eq_true_eq]; omega) (J1 _ _ ⟨rfl, ?_⟩)
      rw [hgt j (by omega), if_pos hin]; rfl
    · refine br_f (by rw [Bool.and_eq_false_iff, decide_eq_false_iff_not, decide_eq_false_iff_not]; omega) (J1 _ _ ⟨rfl, ?_⟩)
      rw [hgt j (by omega), if_neg hin]
theorem sbcUnmaps_row {p : Sl} {lp : L8} {x y : Int} {same : Bool} {w : World} {R : Bool → World → Prop} (hp : Rd w 1 p (bv lp)) (hx : (Lit.int .u8 x).wf = true) (hy : (Lit.int .u8 y).wf = true) (h : ∀ w', Grow w w' → R true w') :
    Cpalletlaw14_SbcUnmaps p x y same w R := by
  obtain ⟨A, rfl, hA⟩ := int_u8 hx
  obtain ⟨B, rfl, hB⟩ := int_u8 hy
  exact sbcUnmaps_spec hp hA hB h
end Go.Proofs.Ytaneeadpjelomaa

/- Layer 14: two devices side by side; the law of writes that are split. -/
namespace Go.Proofs.Ytaneeadpjelomaa
open Go CF

theorem IsWq.nb {w : World} {pw : Nat} {D : Nat → Prop} {st : Wst} {F : Int → Bool} (h : IsWq w pw D st F) : NoBytes w D := by
  obtain ⟨_, _, mb, md, ws, cs, h⟩ := h
  exact h.nb
section
variable {w u u' v v' : World} {kind : Nat} {dv ps pw dv' ps' pw' : Nat} {D D' D1 S : Nat → Prop} {st st' st1 : Wst} {bs bs' bs1 : List Bk} {m m' m1 : Nat} {ls ls1 : List (Nat × List Value × TypeId)} {rows rows1 : List (Sl × L8)}
theorem Dvq.keepS {file : ByteArray} {n : Nat} {cache : Bool} (h : Dv w dv ps pw file kind n cache D st bs m) (k : Keep S w u) (hd : ∀ k, D k → ¬ S k) (hs : NoBytes w S) (n1 : ¬ S dv) (n2 : ¬ S ps) : Dv u dv ps pw file kind n cache D st bs m :=
  ⟨k.heap h.dev n1, k.heap h.isS n2, h.isW.keep k hd hs, h.nps, h.ndv, h.ok, h.tells, h.len, h.size, h.nm, h.kd, h.few⟩
/-- two devices in two worlds -/
structure Tw (w u : World) (kind dv ps pw : Nat) (D : Nat → Prop) (st : Wst) (bs : List Bk) (m dv' ps' pw' : Nat) (D' : Nat → Prop) (st' : Wst) (bs' : List Bk) (m' : Nat) (ls : List (Nat × List Value × TypeId)) (rows : List (Sl × L8)) : Prop where
  a : Lw w u dv ps pw s_f kind 16 true D st bs m ls rows
  b : Lw w u dv' ps' pw' s_f kind 16 true D' st' bs' m' ls rows
  dis : ∀ k, D k → ¬ D' k
  na : ¬ D dv' ∧ ¬ D ps'
  nb : ¬ D' dv ∧ ¬ D' ps
theorem Tw.swap (T : Tw w u kind dv ps pw D st bs m dv' ps' pw' D' st' bs' m' ls rows) : Tw w u kind dv' ps' pw' D' st' bs' m' dv ps pw D st bs m ls rows := ⟨T.b, T.a, fun k q r => T.dis k r q, T.nb, T.na⟩
theorem Tw.go (T : Tw w u kind dv ps pw D st bs m dv' ps' pw' D' st' bs' m' ls rows) (g : Grow u v) : Tw w v kind dv ps pw D st bs m dv' ps' pw' D' st' bs' m' ls rows := ⟨T.a.go g, T.b.go g, T.dis, T.na, T.nb⟩
theorem Tw.sub (T : Tw w u kind dv ps pw D st bs m dv' ps' pw' D' st' bs' m' ls rows) (h1 : ∀ x ∈ ls1, x ∈ ls) (h2 : ∀ x ∈ rows1, x ∈ rows) : Tw w u kind dv ps pw D st bs m dv' ps' pw' D' st' bs' m' ls1 rows1 :=
  ⟨⟨T.a.grow, T.a.dvs, T.a.above, fun x q => T.a.loc x (h1 x q), fun x q => T.a.row x (h2 x q)⟩, ⟨T.b.grow, T.b.dvs, T.b.above, fun x q => T.b.loc x (h1 x q), fun x q => T.b.row x (h2 x q)⟩, T.dis, T.na, T.nb⟩
/-- a step of the first device -/
theorem Tw.one (T : Tw w u kind dv ps pw D st bs m dv' ps' pw' D' st' bs' m' ls rows) (L : Lw w v dv ps pw s_f kind 16 true D1 st1 bs1 m1 ls1 rows1) (k : Keep D u v) (hD : ∀ k, D1 k → D k ∨ u.heap.size ≤ k)
    (h1 : ∀ x ∈ ls1, x ∈ ls ∨ u.heap.size ≤ x.1) (h2 : ∀ x ∈ rows1, x ∈ rows ∨ ∀ b, x.1.blk = some b → u.heap.size ≤ b) : Tw w v kind dv ps pw D1 st1 bs1 m1 dv' ps' pw' D' st' bs' m' ls1 rows1 := by
  have lt' := fun k (q : D' k) => T.b.dvs.isW.lt q
  have ldv := lt_of_heap T.b.dvs.dev
  have lps := lt_of_heap T.b.dvs.isS
  refine ⟨L, ⟨L.grow, T.b.dvs.keepS k (fun k q r => T.dis k r q) T.a.dvs.isW.nb T.na.1 T.na.2, T.b.above, fun x q => ⟨(L.loc x q).1, fun r => ?_⟩, fun x q => ⟨(L.row x q).1, fun b hb => ⟨fun r => ?_, ((L.row x q).2 b hb).2⟩⟩⟩, fun k q r => ?_, ⟨fun q => ?_, fun q => ?_⟩, T.nb⟩
  · rcases h1 x q with e | e
    · exact (T.b.loc x e).2 r
    · have := lt' _ r; omega
  · rcases h2 x q with e | e
    · exact ((T.b.row x e).2 b hb).1 r
    · have := e b hb; have := lt' _ r; omega
  · rcases hD k q with e | e
    · exact T.dis k e r
    · have := lt' _ r; omega
  · rcases hD _ q with e | e
    · exact T.na.1 e
    · omega
  · rcases hD _ q with e | e
    · exact T.na.2 e
    · omega
theorem Tw.res (T : Tw w u kind dv ps pw D st bs m dv' ps' pw' D' st' bs' m' ls rows) {s : Nat} {sn : Sn} {d : Sl} {K : Addr → World → Prop}
    (h : ∀ ab v, Grow u v → u.heap.size ≤ ab → Tw w v kind dv ps pw D st bs m dv' ps' pw' D' st' bs' m' ((ab, rsv s sn d, t_api_Result) :: ls) rows → K ⟨ab, 0, none⟩ v) :
    New (.cells z10 t_api_Result) u fun a u1 => RunU Try.prog (storeVar t_api_Result a (.agg (rsv s sn d).toArray)) u1 fun x => K a x := by
  refine new_rule fun ab u1 hab hb1 hg1 hsz1 => lay_rule hb1 rfl fun u2 hb2 hk2 hsz2 => ?_
  have hg : Grow u u2 := hg1.keep hk2 fun i hi q => by omega
  have T2 := T.go hg
  have add : ∀ {dv ps pw : Nat} {D : Nat → Prop} {st : Wst} {bs : List Bk} {m : Nat}, Lw w u dv ps pw s_f kind 16 true D st bs m ls rows → Lw w u2 dv ps pw s_f kind 16 true D st bs m ls rows → Lw w u2 dv ps pw s_f kind 16 true D st bs m ((ab, rsv s sn d, t_api_Result) :: ls) rows := fun L L2 => by
    refine ⟨L2.grow, L2.dvs, L2.above, fun x hx => ?_, L2.row⟩
    rcases List.mem_cons.1 hx with rfl | hx
    · exact ⟨hb2, fun q => by have := L.dvs.isW.lt q; omega⟩
    · exact L2.loc x hx
  exact h ab u2 hg (by omega) ⟨add T.a T2.a, add T.b T2.b, T2.dis, T2.na, T2.nb⟩
end
/-! ### the blocks of a write that is split -/
def chunkS (same : Bool) (l : L8) (i : Nat) : L8 := if same then l.take 16 else (l.drop (16 * i)).take 16
def XsOk (kind F N : Nat) (same : Bool) (l : L8) (xs : List Bk) : Prop := xs.length = N ∧ ∀ i, i < N → ∃ b, xs[i]? = some (mk1 kind (F + i) b) ∧ b.d = chunkS same l i
theorem mk1_d {kind F : Nat} {b b' : Bk} (h : b.d = b'.d) : mk1 kind F b = mk1 kind F b' := by
  have e : ∀ (d d' : L8) (hd : d.length = 16) (hd' : d'.length = 16), d = d' → mkB kind F d hd = mkB kind F d' hd' := by
    rintro d _ hd hd' rfl; rfl
  exact e _ _ _ _ h
theorem unB_d {l : L8} (h : l.length = 16) : (unB false l).d = l := pad16_eq h
theorem xs_many {kind F N : Nat} {l : L8} (h : 16 * N ≤ l.length) : XsOk kind F N false l (mkAll kind F (unpB false (l.take (16 * N))) N) := by
  have hl : (l.take (16 * N)).length = 16 * N := by rw [List.length_take]; omega
  refine ⟨mk_len hl, fun i hi => ?_⟩
  have hu : i < (unpB false (l.take (16 * N))).length := by rw [unpB_len, hl]; show i < 16 * N / 16; omega
  refine ⟨(unpB false (l.take (16 * N)))[i], ?_, ?_⟩
  · rw [List.getElem?_eq_getElem (by rw [mkAll_len]; exact hu), mkAll_at _ _ _ _ _ hu, if_pos hi]
  · rw [unpB_at hu]
    have e16 : szB false = 16 := rfl
    rw [e16, unB_d (by rw [List.length_take, List.length_drop]; omega), List.drop_take, List.take_take, Nat.mul_comm i 16, Nat.min_eq_left (by omega)]
    rfl
theorem xs_same {kind F N : Nat} {l : L8} {c : Cm} {b0 : Bk} (hc : c.prot = 0) (hF : c.lba = F) (hb : b0.d = l.take 16) : XsOk kind F N true l (samesB kind c b0 N) := by
  refine ⟨samesB_len _ _ _ _, fun i hi => ⟨b0, ?_, hb⟩⟩
  unfold samesB
  rw [List.getElem?_map, List.getElem?_range hi]
  unfold sameB
  simp only [Option.map_some, if_pos hc, hF]
theorem one_step {kind F j : Nat} {bs xs : List Bk} {l : L8} {b : Bk} (hl : l.length = 16) (hx : xs[j]? = some (mk1 kind (F + j) b)) (hb : b.d = l) :
    setAll (setAll bs F xs j) (F + j) (mkAll kind (F + j) (unpB false l) 1) 1 = setAll bs F xs (j + 1) := by
  have hu : 0 < (unpB false l).length := by rw [unpB_len, hl]; decide
  have e : (mkAll kind (F + j) (unpB false l) 1)[0]? = some (mk1 kind (F + j) b) := by
    rw [List.getElem?_eq_getElem (by rw [mkAll_len]; exact hu), mkAll_at _ _ _ _ _ hu, if_pos Nat.zero_lt_one]
    refine congrArg some (mk1_d ?_)
    rw [unpB_at hu, hb]
    have e16 : szB false = 16 := rfl
    have : (l.drop (0 * szB false)).take (szB false) = l := by rw [e16, Nat.zero_mul, List.drop_zero, List.take_of_length_le (by omega)]
    rw [this]; exact unB_d hl
  show (setAll bs F xs j).set (F + j + 0) (((mkAll kind (F + j) (unpB false l) 1)[0]?).getD emptyB) = (setAll bs F xs j).set (F + j) ((xs[j]?).getD emptyB)
  rw [e, hx]; rfl
theorem xs_fine {kind F N : Nat} {same : Bool} {l : L8} {xs bs : List Bk} (h : XsOk kind F N same l xs) (hb : Fine kind bs) (hF : F + N ≤ bs.length) : Fine kind (setAll bs F xs N) := by
  obtain ⟨hN, hx⟩ := h
  subst hN
  refine fine_set hb hF fun i hi prot => ?_
  obtain ⟨b, e, _⟩ := hx i hi
  rw [List.getElem?_eq_getElem hi] at e
  rw [Option.some.inj e]
  exact fine_mk1 _ _ _ _
theorem chunk_len {same : Bool} {l : L8} {i N : Nat} (h : 16 * N ≤ l.length) (hi : i < N) : (chunkS same l i).length = 16 := by
  unfold chunkS
  split
  · rw [List.length_take]; omega
  · rw [List.length_take, List.length_drop]; omega
end Go.Proofs.Ytaneeadpjelomaa

/- Layer 14: the law of writes that are split. -/
namespace Go.Proofs.Ytaneeadpjelomaa
open Go CF

theorem sbcSplits_spec {p : Sl} {lp : L8} {LB P : Nat} {same : Bool} {w : World} {R : Bool → World → Prop} (hp : Rd w 1 p (bv lp)) (hpb : p.n ≤ 140737488351232) (hLB : LB < 256) (hP : P < 256) (h : ∀ w', Grow w w' → R true w') :
    Cpalletlaw14_SbcSplits p (LB : Int) (P : Int) same w R := by
  refine Fpalletlaw14_SbcSplits.calls _ _ _ _ _ _ ?_
  unfold Fpalletlaw14_SbcSplits
  have hln := rd_n' hp
  have hcap := hp.cap
  have eN : mn (IntKind.wrap .i64 ((p.n : Int).tdiv 16)) 6 = ((min (p.n / 16) 6 : Nat) : Int) := by
    have : ((p.n : Int).tdiv 16) = ((p.n / 16 : Nat) : Int) := rfl
    rw [this, w64 (by omega) (by omega)]
    exact mn_nat (p.n / 16) 6
  rw [eN]
  generalize hN : min (p.n / 16) 6 = N
  have e16 : IntKind.wrap .i64 (16 * (N : Int)) = ((16 * N : Nat) : Int) := by rw [w64 (by omega) (by omega)]; omega
  have eL1 : ((IntKind.wrap .i64 (LB : Int)).tmod 10) = ((LB % 10 : Nat) : Int) := by rw [w64 (by omega) (by omega)]; rfl
  have hlb : LB % 10 < 10 := Nat.mod_lt _ (by decide)
  have eL : IntKind.wrap .u64 ((LB % 10 : Nat) : Int) = ((LB % 10 : Nat) : Int) := wu64 (by omega) (by omega)
  have eK : ((P : Int).tmod 4) = ((P % 4 : Nat) : Int) := rfl
  have eB : IntKind.wrap .u64 (N : Int) = (N : Int) := wu64 (by omega) (by omega)
  rw [e16, eL1, eL, eK, eB]
  have hkd : P % 4 ≤ 3 := by omega
  generalize P % 4 = kd at *
  generalize LB % 10 = lba at *
  refine awake14_spec fun w0 hg0 => br_f rfl ⟨by decide, by decide, by decide, ?_⟩
  refine device_specK (n := 16) (kind := kd) (cache := true) (by decide) hkd fun dv ps pw D w1 qd1 qp1 L1 => ?_
  refine device_specK (n := 16) (kind := kd) (cache := true) (by decide) hkd fun dv' ps' pw' D' w2 qd2 qp2 L2 => ?_
  have s1 := L1.grow.size
  have lt1 := fun k (q : D k) => L1.dvs.isW.lt q
  have ld1 := lt_of_heap L1.dvs.dev
  have lp1 := lt_of_heap L1.dvs.isS
  have T2 : Tw w0 w2 kd dv ps pw D st0 (List.replicate 16 emptyB) 0 dv' ps' pw' D' st0 (List.replicate 16 emptyB) 0 [] [] :=
    ⟨L1.go L2.grow, ⟨L1.grow.trans L2.grow, L2.dvs, fun k q => by have := L2.above k q; omega, fun x hx => (by cases hx), fun x hx => (by cases hx)⟩, fun k q r => by have := lt1 k q; have := L2.above k r; omega,
      ⟨fun q => by have := lt1 _ q; omega, fun q => by have := lt1 _ q; omega⟩, ⟨fun q => by have := L2.above _ q; omega, fun q => by have := L2.above _ q; omega⟩⟩
  clear L1 L2
  by_cases hN0 : N = 0
  · exact br_t (by rw [hN0]; rfl) (h w2 (hg0.trans T2.a.grow))
  refine br_f (by rw [Bool.or_eq_false_iff, beq_eq_false_iff_ne]; exact ⟨rfl, by omega⟩) ?_
  refine new_rule fun cb w3 hcb hb3 hg3 hsz3 => ?_
  refine storeVar_rule (cells := (cmv ⟨8, false, lba, N, 0, false, 0, false, false, 0, 0, false, 0, 0, false⟩).toArray) hb3 i_api_Cmd rfl rfl (by simp [cmv, Value.oneCell']) fun w4 hb4 hk4 hsz4 => ?_
  have hg4 : Grow w2 w4 := hg3.keep hk4 fun i hi q => by omega
  have bnd : (0 : Int) ≤ (0 : Int) ∧ (0 : Int) ≤ ((16 * N : Nat) : Int) ∧ ((16 * N : Nat) : Int) ≤ (p.c : Int) ∧ p.n ≤ p.c := ⟨by decide, by omega, by omega, hcap⟩
  have bnd16 : (0 : Int) ≤ (0 : Int) ∧ (0 : Int) ≤ (16 : Int) ∧ (16 : Int) ≤ (p.c : Int) ∧ p.n ≤ p.c := ⟨by decide, by decide, by omega, hcap⟩
  have hE : Fine kd (List.replicate 16 emptyB) := fine_rep kd 16
  have hEl : (List.replicate 16 emptyB).length = 16 := List.length_replicate
  generalize List.replicate 16 emptyB = E at *
  refine ⟨bnd, ?_⟩
  simp only [Int.toNat_natCast]
  refine letX1 (fun (q : Sl) (x : World) => ∀ K : Array Value → World → Prop, (∀ v D1 st1 m1 XS, XsOk kd lba N same lp XS → m1 ≤ 1000 → Tw w0 v kd dv ps pw D1 st1 (setAll E lba XS N) m1 dv' ps' pw' D' st0 E 0 [] [] → K (rsv 0 sn0 nilS).toArray v) →
      ∃ g1 : Array Value, (loadVar t_api_Cmd ⟨cb, 0, none⟩).run Try.prog x = .ok (.agg g1) x ∧ Csbc_Dev_Do (some ⟨dv, 0, none⟩) g1 q x K) ?_ (fun J => ?_)
  case refine_2 =>
    cases same with
    | false =>
      refine br_f rfl (J _ _ fun K hK => ⟨_, cLoad (blk_cells hb4), ?_⟩)
      have T4 := T2.go hg4
      have hcut : Rd w4 1 ⟨cutA p.A p.c 0 1, 16 * N - 0, p.c - 0⟩ (bv (lp.take (16 * N))) := (hp.grow (hg0.trans T4.a.grow)).cutB (l := 0) (k := 16 * N) (Nat.zero_le _) (by omega)
      refine T4.a.write0K (by decide) (c := ⟨8, false, lba, N, 0, false, 0, false, false, 0, 0, false, 0, 0, false⟩) (.inl rfl) rfl (by show lba + N ≤ 16; omega) hcut (by rw [List.length_take]; show _ = 16 * N; omega) fun v D1 hk1 hD1 L1 => ?_
      exact hK v D1 _ (0 + N + 1) _ (xs_many (by omega)) (by omega) (T4.one L1 hk1 hD1 (fun x q => .inl q) (fun x q => .inl q))
    | true =>
      refine br_t rfl ?_
      rw [add0]
      refine put_rule hb4 (by simp [cmv]) rfl fun w5 hb5 hk5 _ => ⟨bnd16, J _ _ fun K hK => ?_⟩
      have hg5 : Grow w2 w5 := hg4.keep hk5 fun i hi q => by omega
      have hb5 : Blk w5 cb (cmv ⟨12, false, lba, N, 0, false, 0, false, false, 0, 0, false, 0, 0, false⟩).toArray t_api_Cmd := hb5
      refine ⟨_, cLoad (blk_cells hb5), ?_⟩
      have T5 := T2.go hg5
      have hcut : Rd w5 1 ⟨cutA p.A p.c 0 1, 16 - 0, p.c - 0⟩ (bv (lp.take 16)) := (hp.grow (hg0.trans T5.a.grow)).cutB (l := 0) (k := 16) (Nat.zero_le _) (by omega)
      refine T5.a.sameK (by decide) (c := ⟨12, false, lba, N, 0, false, 0, false, false, 0, 0, false, 0, 0, false⟩) rfl rfl (by show lba + N ≤ 16; omega) hcut (by rw [List.length_take]; omega) fun v D1 st1 b0 hb0 hk1 hD1 L1 => ?_
      rw [if_neg (fun q => by cases q.1)] at L1
      have es : sameN 16 ⟨12, false, lba, N, 0, false, 0, false, false, 0, 0, false, 0, 0, false⟩ = N := by unfold sameN; exact if_neg (by show ¬ N = 0; omega)
      rw [es] at L1
      exact hK v D1 _ (0 + N + 1) _ (xs_same rfl rfl hb0) (by omega) (T5.one L1 hk1 hD1 (fun x q => .inl q) (fun x q => .inl q))
  intro q x hI
  refine hI _ fun w6 D1 st1 m1 XS hXS hm1 T6 => ?_
  have hXl := hXS.1
  have hfB := xs_fine hXS hE (F := lba) (by omega)
  refine T6.res fun ab w7 hg67 hab T7 => ?_
  refine ⟨fun i y => ∃ (j : Nat) (D2 : Nat → Prop) (st2 : Wst) (m2 : Nat), i = j ∧ j ≤ N ∧ m2 ≤ 2 * j ∧ Tw w0 y kd dv ps pw D1 st1 (setAll E lba XS N) m1 dv' ps' pw' D2 st2 (setAll E lba XS j) m2 [(ab, rsv 0 sn0 nilS, t_api_Result)] [], fun i _ => 6 - i.toNat,
    ⟨0, D', st0, 0, rfl, Nat.zero_le _, Nat.le_refl _, T7⟩, ?_⟩
  rintro i y ⟨j, D2, st2, m2, rfl, hj, hm2, T⟩
  have hpy := hp.grow (hg0.trans T.a.grow)
  refine br_nat (fun hlt => ?_) (fun hge => ?_)
  · refine letX0 (fun z => ∃ (D3 : Nat → Prop) (st3 : Wst) (m3 : Nat), m3 ≤ 2 * (j + 1) ∧ Tw w0 z kd dv ps pw D1 st1 (setAll E lba XS N) m1 dv' ps' pw' D3 st3 (setAll E lba XS (j + 1)) m3 [(ab, rsv 0 sn0 nilS, t_api_Result)] []) (fun z hz => by
      obtain ⟨D3, st3, m3, hm3, T3⟩ := hz
      rw [w64 (by omega) (by omega)]
      exact ⟨⟨j + 1, D3, st3, m3, by omega, by omega, hm3, T3⟩, by dsimp only; omega⟩) (fun J => ?_)
    have f1 : IntKind.wrap .i64 (16 * (j : Int)) = ((16 * j : Nat) : Int) := by rw [w64 (by omega) (by omega)]; omega
    have f2 : IntKind.wrap .i64 (((16 * j : Nat) : Int) + 16) = ((16 * j + 16 : Nat) : Int) := by rw [w64 (by omega) (by omega)]; omega
    have f3 : IntKind.wrap .u64 (IntKind.wrap .i64 ((lba : Int) + (j : Int))) = ((lba + j : Nat) : Int) := by rw [w64 (by omega) (by omega), wu64 (by omega) (by omega)]; omega
    rw [f1, f2, f3]
    refine ⟨⟨by omega, by omega, by omega, hcap⟩, ?_⟩
    refine letX1 (fun (one : Sl) z => z = y ∧ Rd y 1 one (bv (chunkS same lp j))) ?_ (fun J1 => ?_)
    · rintro one z ⟨rfl, hone⟩
      have hcl := chunk_len (same := same) (l := lp) (i := j) (N := N) (by omega) hlt
      refine T.swap.a.write0K (by omega) (c := ⟨8, false, lba + j, 1, 0, false, 0, false, false, 0, 0, false, 0, 0, false⟩) (.inl rfl) rfl (by show lba + j + 1 ≤ 16; omega) hone hcl fun v D3 hk3 hD3 L3 => ?_
      obtain ⟨b, hb1, hb2⟩ := hXS.2 j hlt
      have L3 := L3
      rw [show setAll (setAll E lba XS j) (Cm.lba ⟨8, false, lba + j, 1, 0, false, 0, false, false, 0, 0, false, 0, 0, false⟩) (mkAll kd (Cm.lba ⟨8, false, lba + j, 1, 0, false, 0, false, false, 0, 0, false, 0, 0, false⟩) (unpB false (chunkS same lp j)) (Cm.blocks ⟨8, false, lba + j, 1, 0, false, 0, false, false, 0, 0, false, 0, 0, false⟩)) (Cm.blocks ⟨8, false, lba + j, 1, 0, false, 0, false, false, 0, 0, false, 0, 0, false⟩) = setAll E lba XS (j + 1) from one_step hcl hb1 hb2] at L3
      have T3 := (T.swap.one L3 hk3 hD3 (fun x q => .inl q) (fun x q => .inl q)).swap
      refine T3.res fun sb v2 hg2 hsb T4 => ?_
      refine ⟨0, by rw [add0, Blk.cell T4.a.held]; rfl, br_f rfl (J v2 ⟨D3, _, m2 + 1 + 1, by omega, T4.sub (fun x q => List.mem_cons_of_mem _ q) (fun x q => q)⟩)⟩
    · cases same with
      | false =>
        refine br_f rfl (J1 _ _ ⟨rfl, ?_⟩)
        rw [Int.toNat_natCast, Int.toNat_natCast]
        have := hpy.cutB (l := 16 * j) (k := 16 * j + 16) (by omega) (by omega)
        rw [show 16 * j + 16 - 16 * j = 16 by omega] at this ⊢
        exact this
      | true =>
        exact br_t rfl ⟨bnd16, J1 _ _ ⟨rfl, hpy.cutB (l := 0) (k := 16) (Nat.zero_le _) (by omega)⟩⟩
  have hjN : j = N := by omega
  subst hjN
  generalize hB : setAll E lba XS j = B at *
  have hBl : B.length = 16 := by rw [← hB, setAll_len]; exact hEl
  have hwN : ∃ wN : Nat, wN ≤ 1 ∧ knownB kd wN = true ∧ wN = if kd > 0 then 1 else 0 := by
    refine ⟨if kd > 0 then 1 else 0, by split <;> decide, ?_, rfl⟩
    unfold knownB
    split
    · simp; omega
    · simp; omega
  obtain ⟨wN, hw1, hwk, hwe⟩ := hwN
  refine letX1 (fun (with_ : Int) z => z = y ∧ with_ = (wN : Int)) ?_ (fun J => br_dec (fun q => J _ _ ⟨rfl, by rw [hwe, if_pos (by omega)]; rfl⟩) (fun q => J _ _ ⟨rfl, by rw [hwe, if_neg (by omega)]; rfl⟩))
  rintro with_ z ⟨rfl, rfl⟩
  refine T.a.readK (by omega) (c := ⟨7, false, 0, 16, 0, false, wN, false, false, 0, 0, false, 0, 0, false⟩) rfl hwk (by show 0 + 16 ≤ 16; decide) (rd_nilB _) (by decide) hfB fun d v1 hk1 hr1 L1 hdn hown1 => ?_
  have T1 := T.one L1 hk1 (fun _ q => .inl q) (fun x q => .inl q) (fun x q => by
    rcases List.mem_cons.1 q with rfl | q
    · exact .inr fun b hb => (hown1.ge b hb).1
    · exact .inl q)
  refine T1.res fun xb v2 hg2 hxb T3 => ?_
  have hdl : ((B.drop 0).take 16) = B := by rw [List.drop_zero, List.take_of_length_le (by omega)]
  have T3 : Tw w0 v2 kd dv ps pw D1 { st1 with ops := st1.ops + 16 } B (m1 + 16) dv' ps' pw' D2 st2 B m2 [(xb, rsv 0 sn0 d, t_api_Result), (ab, rsv 0 sn0 nilS, t_api_Result)] [(d, packB (decide (wN ≠ 0)) ((B.drop 0).take 16))] := T3
  rw [hdl] at T3
  generalize hwt : decide (wN ≠ 0) = wt at *
  have hs24 : szB wt ≤ 24 := by unfold szB; split <;> decide
  have hlt2 := fun k (q : D2 k) => T3.b.dvs.isW.lt q
  refine ⟨fun all i u => ∃ k : Nat, i = k ∧ k ≤ 16 ∧ Keep D2 v2 u ∧ IsWB u pw' D2 { st2 with ops := st2.ops + k } v2.heap.size ∧ Own u v2.heap.size t_uint8 1 all (bv (packB wt (B.take k))), fun _ i _ => 16 - i.toNat,
    ⟨0, rfl, Nat.zero_le _, Keep.refl _ _, T3.b.dvs.isW.toB, by rw [List.take_zero]; exact own_nil _ _ _ _⟩, ?_⟩
  rintro all i u ⟨k, rfl, hk, hku, hWu, hown⟩
  have Lu : Lw w0 u dv' ps' pw' s_f kd 16 true D2 { st2 with ops := st2.ops + k } B (m2 + k) [(xb, rsv 0 sn0 d, t_api_Result), (ab, rsv 0 sn0 nilS, t_api_Result)] [(d, packB wt B)] := T3.b.step hku (T3.b.dvs.ops hku hWu.isW) (fun _ q => .inl q)
  have han : all.n = k * szB wt := by
    have := own_n' hown
    rw [packB_len, List.length_take, hBl, Nat.min_eq_left hk] at this
    exact this
  have hmul : k * szB wt ≤ 16 * 24 := Nat.mul_le_mul hk hs24
  refine br_nat (y := 16) (fun hlt => ?_) (fun hge => ?_)
  · rw [wu64 (by omega) (by omega)]
    have hkB : k < B.length := by omega
    refine Lu.readK (by omega) (c := ⟨7, false, k, 1, 0, false, wN, false, false, 0, 0, false, 0, 0, false⟩) rfl hwk (by show k + 1 ≤ 16; omega) (rd_nilB _) (by decide) hfB fun e u1 hk2 hr2 L2 hen howne => ?_
    rw [show decide ((Cm.prot ⟨7, false, k, 1, 0, false, wN, false, false, 0, 0, false, 0, 0, false⟩) ≠ 0) = wt from hwt] at howne hen
    have hone : (B.drop k).take 1 = [B[k]] := by rw [List.drop_eq_getElem_cons hkB]; rfl
    have howne : Own u1 u.heap.size t_uint8 1 e (bv (packB wt ((B.drop k).take 1))) := howne
    have hen : e.n = 1 * szB wt := hen
    rw [hone] at howne
    refine new_rule fun sb u2 hsb hb2 hg3 hsz3 => lay_rule (st := 0) (s := sn0) (d := e) hb2 rfl fun u3 hb3 hk3 hsz4 => ?_
    have hg13 : Grow u1 u3 := hg3.keep hk3 fun i hi q => by omega
    refine ⟨0, by rw [add0, Blk.cell hb3]; rfl, br_f rfl ⟨e, by rw [add0, Blk.cell hb3]; rfl, ?_⟩⟩
    have hku3 : Keep D2 v2 u3 := (hku.trans hk2 fun _ _ q => q).grow hg13
    have nall : ∀ b, all.blk = some b → ¬ D2 b := fun b hb q => by have := (hown.ge b hb).1; have := hlt2 _ q; omega
    have hown3 := (hown.keep hk2 nall).grow hg13
    refine append_rule u_sl_uint8 i_uint8 rfl (by decide) (by decide) hown3 ((howne.grow hg13).rd (by omega)) (bv_one' _) (by show (all.n + e.n) * 1 ≤ _; omega) hku3.size fun all1 u4 hn4 hown4 hk4 _ => ?_
    rw [w64 (by omega) (by omega)]
    refine ⟨⟨k + 1, by omega, by omega, hku3.trans (S' := fun b => some b = all.blk) hk4 fun i hi q => by have := (hown.ge i q.symm).1; omega, ?_, ?_⟩, by dsimp only; omega⟩
    · have hW3 := (hr2 _ _ hWu).grow hg13
      exact hW3.keep hk4 (fun b hb q => nall b q.symm hb) (fun g cur hg q => (hown.ge g q.symm).1)
    · rw [← bv_append] at hown4
      rw [packB_succ wt hkB]
      have : packB wt [B[k]] = wireB wt B[k] := by simp [packB]
      rw [this] at hown4
      exact hown4
  · have hk16 : k = 16 := by omega
    subst hk16
    rw [List.take_of_length_le (by omega)] at hown
    have hx := (Lu.loc _ List.mem_cons_self).1
    have ha := (Lu.loc _ (List.mem_cons_of_mem _ List.mem_cons_self)).1
    have hd := (Lu.row _ List.mem_cons_self).1
    have hd : Rd u 1 d (bv (packB wt B)) := hd
    refine ⟨0, by rw [add0, Blk.cell ha]; rfl, 0, fun _ => by rw [add0, Blk.cell hx]; rfl, d, fun _ => by rw [add0, Blk.cell hx]; rfl, str (packB wt B), fun _ => convStr_rule u_sl_uint8 u_uint8 u_string hd, str (packB wt B), fun _ => convStr_rule u_sl_uint8 u_uint8 u_string (hown.rd (by omega)), ?_⟩
    have := h u (hg0.trans Lu.grow)
    simpa [sEq_str] using this
theorem sbcSplits_row {p : Sl} {lp : L8} {x y : Int} {same : Bool} {w : World} {R : Bool → World → Prop} (hp : Rd w 1 p (bv lp)) (hpb : p.n ≤ 140737488351232) (hx : (Lit.int .u8 x).wf = true) (hy : (Lit.int .u8 y).wf = true) (h : ∀ w', Grow w w' → R true w') :
    Cpalletlaw14_SbcSplits p x y same w R := by
  obtain ⟨A, rfl, hA⟩ := int_u8 hx
  obtain ⟨B, rfl, hB⟩ := int_u8 hy
  exact sbcSplits_spec hp hpb hA hB h
end Go.Proofs.Ytaneeadpjelomaa
