import Derived.Test.YtaneeadpjelomaaDb5
/- Layer 14: where a law stands: a device, results that are held, rows that are held. -/
namespace Go.Proofs.Ytaneeadpjelomaa
open Go CF

/-! ### blocks and their bytes -/
theorem setAll_eq {bs xs : List Bk} {F : Nat} (h : F + xs.length ≤ bs.length) : setAll bs F xs xs.length = bs.take F ++ xs ++ bs.drop (F + xs.length) := by
  apply List.ext_getElem?
  intro j
  by_cases hj : j < bs.length
  · rw [setAll_get _ _ _ _ h _ hj]
    have l1 : (bs.take F).length = F := by rw [List.length_take]; omega
    by_cases q : F ≤ j ∧ j < F + xs.length
    · rw [if_pos q, List.append_assoc, List.getElem?_append_right (by omega), l1, List.getElem?_append_left (by omega), List.getElem?_eq_getElem (by omega)]; rfl
    · rw [if_neg q]
      rcases Nat.lt_or_ge j F with q1 | q1
      · rw [List.append_assoc, List.getElem?_append_left (by omega), List.getElem?_take, if_pos q1]
      · rw [List.getElem?_append_right (by rw [List.length_append]; omega), List.length_append, l1, List.getElem?_drop, show F + xs.length + (j - (F + xs.length)) = j by omega]
  · rw [List.getElem?_eq_none (by rw [setAll_len]; omega), List.getElem?_eq_none (by simp; omega)]
theorem setAll_read {bs xs : List Bk} {F : Nat} (h : F + xs.length ≤ bs.length) : ((setAll bs F xs xs.length).drop F).take xs.length = xs := by
  have l1 : (bs.take F).length = F := by rw [List.length_take]; omega
  have hd := List.drop_left (l₁ := bs.take F) (l₂ := xs ++ bs.drop (F + xs.length))
  rw [l1] at hd
  rw [setAll_eq h, List.append_assoc, hd, List.take_append_of_le_length (Nat.le_refl _), List.take_length]
theorem packB_append (wt : Bool) (a b : List Bk) : packB wt (a ++ b) = packB wt a ++ packB wt b := by simp [packB]
theorem packB_data {a b : List Bk} (h : a.map Bk.d = b.map Bk.d) : packB false a = packB false b := by
  have e : ∀ l : List Bk, packB false l = (l.map Bk.d).flatten := by
    intro l
    induction l with
    | nil => rfl
    | cons x r ih => simp only [packB, List.flatMap_cons, List.map_cons, List.flatten_cons] at ih ⊢; rw [ih]; simp [wireB]
  rw [e, e, h]
theorem mkAll_data {kind lba : Nat} {U : List Bk} (j : Nat) : (mkAll kind lba U j).map Bk.d = U.map Bk.d := by
  apply List.ext_getElem
  · simp [mkAll_len]
  · intro i h1 h2
    have hi : i < U.length := by simpa using h2
    simp only [List.getElem_map]
    rw [mkAll_at _ _ _ _ _ hi]
    split <;> rfl
theorem chunks_all (l : L8) (z : Nat) : ∀ k, k * z ≤ l.length → (List.range k).flatMap (fun i => (l.drop (i * z)).take z) = l.take (k * z)
  | 0, _ => by simp
  | k + 1, h => by
    rw [Nat.succ_mul] at h
    rw [List.range_succ, List.flatMap_append, chunks_all l z k (by omega), List.flatMap_singleton, Nat.succ_mul, List.take_add]
theorem unpB_bytes {l : L8} (h : l.length % 16 = 0) : packB false (unpB false l) = l := by
  unfold packB unpB
  rw [List.flatMap_map]
  have e16 : szB false = 16 := rfl
  rw [e16]
  have hm : l.length / 16 * 16 = l.length := by have := Nat.div_add_mod l.length 16; omega
  have e : ∀ i ∈ List.range (l.length / 16), wireB false (unB false ((l.drop (i * 16)).take 16)) = (l.drop (i * 16)).take 16 := fun i hi => by
    have hi := List.mem_range.1 hi
    have hl : ((l.drop (i * 16)).take 16).length = 16 := by rw [List.length_take, List.length_drop]; omega
    show pad16 _ ++ [] = _
    rw [List.append_nil, pad16_eq hl]
  have e2 : (List.range (l.length / 16)).flatMap (fun i => wireB false (unB false ((l.drop (i * 16)).take 16))) = (List.range (l.length / 16)).flatMap (fun i => (l.drop (i * 16)).take 16) := by
    generalize List.range (l.length / 16) = r at *
    induction r with
    | nil => rfl
    | cons a r ih => rw [List.flatMap_cons, List.flatMap_cons, e a (by simp), ih (fun i hi => e i (by simp [hi]))]
  rw [e2, chunks_all l 16 _ (by omega), hm, List.take_length]
theorem mk_bytes {kind lba N : Nat} {l : L8} (h : l.length % 16 = 0) : packB false (mkAll kind lba (unpB false l) N) = l := by
  rw [packB_data (mkAll_data N), unpB_bytes h]
theorem mk_len {kind lba N : Nat} {l : L8} (h : l.length = 16 * N) : (mkAll kind lba (unpB false l) N).length = N := by
  rw [mkAll_len, unpB_len]
  show l.length / 16 = N
  omega
/-! ### blocks that stand every look -/
def Fine (kind : Nat) (bs : List Bk) : Prop := ∀ i (hi : i < bs.length), ∀ prot, chkB kind prot i bs[i] = 0
theorem fine_mk1 (kind lba prot : Nat) (b : Bk) : chkB kind prot lba (mk1 kind lba b) = 0 := by
  have e1 : (mk1 kind lba b).g = c16 (mk1 kind lba b).d := rfl
  have e2 : (mk1 kind lba b).r = mkR kind lba := rfl
  unfold chkB
  split
  · rfl
  · rename_i q
    have e3 : ¬ (prot ≠ 4 ∧ kind ≠ 3 ∧ (mk1 kind lba b).r ≠ lba % 4294967296) := fun e => e.2.2 (by
      have e4 : mkR kind lba = lba % 4294967296 := if_pos (by omega)
      rw [e2, e4])
    rw [if_neg (fun e => e.2 e1), if_neg e3]
theorem fine_empty (kind prot lba : Nat) : chkB kind prot lba emptyB = 0 := by
  have e : escB kind emptyB = true := by simp [escB, emptyB]
  unfold chkB
  rw [if_pos (by simp [e])]
theorem fine_rep (kind n : Nat) : Fine kind (List.replicate n emptyB) := fun i hi prot => by
  rw [List.getElem_replicate]; exact fine_empty _ _ _
theorem fine_set {kind F : Nat} {bs xs : List Bk} (h : Fine kind bs) (hF : F + xs.length ≤ bs.length) (hx : ∀ i (hi : i < xs.length) prot, chkB kind prot (F + i) xs[i] = 0) : Fine kind (setAll bs F xs xs.length) := fun i hi prot => by
  have hi' : i < bs.length := by rw [setAll_len] at hi; exact hi
  have e := setAll_get bs F xs xs.length hF i hi'
  rw [List.getElem?_eq_getElem hi] at e
  split at e
  · rename_i q
    rw [List.getElem?_eq_getElem (by omega)] at e
    rw [Option.some.inj e]
    have := hx (i - F) (by omega) prot
    rwa [show F + (i - F) = i by omega] at this
  · rw [List.getElem?_eq_getElem hi'] at e
    rw [Option.some.inj e]
    exact h i hi' prot
theorem fine_mk {kind F N : Nat} {U : List Bk} (hU : U.length = N) : ∀ i (hi : i < (mkAll kind F U N).length) prot, chkB kind prot (F + i) (mkAll kind F U N)[i] = 0 := fun i hi prot => by
  have hi' : i < U.length := by rw [mkAll_len] at hi; exact hi
  rw [mkAll_at _ _ _ _ _ hi', if_pos (by omega)]
  exact fine_mk1 _ _ _ _
theorem fine_part {kind lba k : Nat} {bs : List Bk} (h : Fine kind bs) : ∀ i (hi : i < ((bs.drop lba).take k).length) prot, chkB kind prot (lba + i) ((bs.drop lba).take k)[i] = 0 := fun i hi prot => by
  have hi2 : i < k ∧ lba + i < bs.length := by rw [List.length_take, List.length_drop] at hi; omega
  have e : ((bs.drop lba).take k)[i] = bs[lba + i]'hi2.2 := by simp
  rw [e]
  exact h _ hi2.2 prot
/-! ### where a law stands -/
structure Lw (w u : World) (dv ps pw : Nat) (file : ByteArray) (kind n : Nat) (cache : Bool) (D : Nat → Prop) (st : Wst) (bs : List Bk) (m : Nat) (ls : List (Nat × List Value × TypeId)) (rows : List (Sl × L8)) : Prop where
  grow : Grow w u
  dvs : Dv u dv ps pw file kind n cache D st bs m
  above : ∀ k, D k → w.heap.size ≤ k
  loc : ∀ x ∈ ls, Blk u x.1 x.2.1.toArray x.2.2 ∧ ¬ D x.1
  row : ∀ x ∈ rows, Rd u 1 x.1 (bv x.2) ∧ ∀ b, x.1.blk = some b → ¬ D b ∧ b < u.heap.size
section
variable {w u v : World} {dv ps pw : Nat} {file : ByteArray} {kind n : Nat} {cache : Bool} {D D' : Nat → Prop} {st st' : Wst} {bs bs' : List Bk} {m m' : Nat} {ls : List (Nat × List Value × TypeId)} {rows : List (Sl × L8)}
theorem Lw.go (L : Lw w u dv ps pw file kind n cache D st bs m ls rows) (g : Grow u v) : Lw w v dv ps pw file kind n cache D st bs m ls rows :=
  ⟨L.grow.trans g, L.dvs.grow g, L.above, fun x hx => ⟨g.heap (L.loc x hx).1 (fun q => q), (L.loc x hx).2⟩, fun x hx => ⟨(L.row x hx).1.grow g, fun b hb => ⟨((L.row x hx).2 b hb).1, by have := ((L.row x hx).2 b hb).2; have := g.size; omega⟩⟩⟩
theorem Lw.step (L : Lw w u dv ps pw file kind n cache D st bs m ls rows) (k : Keep D u v) (hd : Dv v dv ps pw file kind n cache D' st' bs' m') (hD : ∀ k, D' k → D k ∨ u.heap.size ≤ k) : Lw w v dv ps pw file kind n cache D' st' bs' m' ls rows := by
  have sg := L.grow.size
  refine ⟨L.grow.keep k fun i hi q => by have := L.above i q; omega, hd, fun j q => ?_, fun x hx => ⟨k.heap (L.loc x hx).1 (L.loc x hx).2, fun q => ?_⟩, fun x hx => ⟨(L.row x hx).1.keep k fun a ha _ q => ?_, fun b hb => ⟨fun q => ?_, ?_⟩⟩⟩
  · rcases hD j q with r | r
    · exact L.above j r
    · omega
  · rcases hD _ q with r | r
    · exact (L.loc x hx).2 r
    · have := lt_of_heap (L.loc x hx).1; omega
  · exact ((L.row x hx).2 a.block (by simp [Sl.blk, ha])).1 q
  · have h2 := (L.row x hx).2 b hb
    rcases hD _ q with r | r
    · exact h2.1 r
    · omega
  · have h2 := (L.row x hx).2 b hb
    have := k.size
    omega
/-- a result that is held -/
theorem Lw.res (L : Lw w u dv ps pw file kind n cache D st bs m ls rows) {s : Nat} {sn : Sn} {d : Sl} {K : Addr → World → Prop} (h : ∀ ab v, Lw w v dv ps pw file kind n cache D st bs m ((ab, rsv s sn d, t_api_Result) :: ls) rows → K ⟨ab, 0, none⟩ v) :
    New (.cells z10 t_api_Result) u fun a u1 => RunU Try.prog (storeVar t_api_Result a (.agg (rsv s sn d).toArray)) u1 fun x => K a x := by
  refine new_rule fun ab u1 hab hb1 hg1 hsz1 => lay_rule hb1 rfl fun u2 hb2 hk2 hsz2 => ?_
  have hg : Grow u u2 := hg1.keep hk2 fun i hi q => by omega
  have L2 := L.go hg
  refine h ab u2 ⟨L2.grow, L2.dvs, L2.above, fun x hx => ?_, L2.row⟩
  rcases List.mem_cons.1 hx with rfl | hx
  · exact ⟨hb2, fun q => by have := L.dvs.isW.lt q; omega⟩
  · exact L2.loc x hx
theorem Lw.held {ab : Nat} {vs : List Value} {t : TypeId} (L : Lw w u dv ps pw file kind n cache D st bs m ((ab, vs, t) :: ls) rows) : Blk u ab vs.toArray t := (L.loc _ List.mem_cons_self).1
/-- blocks are written without tuples -/
theorem Lw.write0K (L : Lw w u dv ps pw file kind n cache D st bs m ls rows) (hm : m ≤ 1000000) {c : Cm} {p : Sl} {l : L8} {K : Array Value → World → Prop} (hk : c.kind = 8 ∨ c.kind = 9) (hp0 : c.prot = 0) (hc : c.lba + c.blocks ≤ n) (hp : Rd u 1 p (bv l)) (hl : l.length = 16 * c.blocks)
    (h : ∀ v D', Keep D u v → (∀ k, D' k → D k ∨ u.heap.size ≤ k) → Lw w v dv ps pw file kind n cache D' (syncIf (syncs c.blocks (c.fua || decide (c.kind = 9)) cache) (layW st file c.lba (rsOf (mkAll kind c.lba (unpB false l) c.blocks)) c.blocks)) (setAll bs c.lba (mkAll kind c.lba (unpB false l) c.blocks) c.blocks) (m + c.blocks + 1) ls rows →
      K (rsv 0 sn0 nilS).toArray v) : Csbc_Dev_Do (some ⟨dv, 0, none⟩) (cmv c).toArray p u K := by
  have hsz := L.dvs.size
  have hkd := L.dvs.kd
  have hln := rd_n' hp
  have hkn : knownB kind c.prot = true := by unfold knownB; rw [hp0]; simp [hkd]
  have e0 : decide (c.prot ≠ 0) = false := by simpa using hp0
  have e16 : szB false = 16 := rfl
  have hcame : cameB kind c l c.blocks = mkAll kind c.lba (unpB false l) c.blocks := by unfold cameB; rw [if_pos hp0]
  refine do_spec L.dvs hm hp (by omega) (by omega) (by omega) (fun q => by rw [hkn] at q; cases q) (fun _ _ _ q => by omega) (fun _ q => by omega) (fun _ q => by omega) (fun _ _ _ q => ?_) (fun _ _ _ q => absurd hp0 q) (fun _ _ _ _ _ _ v D' hkp hdv hDD => ?_) (fun _ q => by omega)
    (fun _ _ ab v _ _ _ => ⟨fun q => by omega, fun q => by omega, fun q => by omega, fun q => by omega, fun q => by omega⟩) (fun _ a b c _ _ _ _ _ _ => by omega)
  · exfalso; rw [e0, e16] at q; omega
  · rw [hcame] at hdv
    exact h v D' hkp hDD (L.step hkp hdv hDD)
theorem Lw.write0 (L : Lw w u dv ps pw file kind n cache D st bs m ls rows) (hm : m ≤ 1000000) {c : Cm} {p : Sl} {l : L8} {K : Array Value → World → Prop} (hk : c.kind = 8 ∨ c.kind = 9) (hp0 : c.prot = 0) (hc : c.lba + c.blocks ≤ n) (hp : Rd u 1 p (bv l)) (hl : l.length = 16 * c.blocks)
    (h : ∀ v D', Lw w v dv ps pw file kind n cache D' (syncIf (syncs c.blocks (c.fua || decide (c.kind = 9)) cache) (layW st file c.lba (rsOf (mkAll kind c.lba (unpB false l) c.blocks)) c.blocks)) (setAll bs c.lba (mkAll kind c.lba (unpB false l) c.blocks) c.blocks) (m + c.blocks + 1) ls rows →
      K (rsv 0 sn0 nilS).toArray v) : Csbc_Dev_Do (some ⟨dv, 0, none⟩) (cmv c).toArray p u K := L.write0K hm hk hp0 hc hp hl fun v D' _ _ => h v D'
theorem Dv.ops (h : Dv u dv ps pw file kind n cache D st bs m) (k : Keep D u v) {j : Nat} (hw : IsW v pw D { st with ops := st.ops + j }) : Dv v dv ps pw file kind n cache D { st with ops := st.ops + j } bs (m + j) :=
  h.step k hw (fun _ q => .inl q) h.ok h.tells h.len (by have := h.few; show st.ops + j ≤ _ ∧ st.waits.length ≤ _; omega)
/-- blocks are read -/
theorem Lw.readK (L : Lw w u dv ps pw file kind n cache D st bs m ls rows) (hm : m ≤ 1000000) {c : Cm} {p : Sl} {l : L8} {K : Array Value → World → Prop} (hk : c.kind = 7) (hkn : knownB kind c.prot = true) (hc : c.lba + c.blocks ≤ n) (hp : Rd u 1 p (bv l)) (hpb : p.n ≤ 140737488351232) (hf : Fine kind bs)
    (h : ∀ d v, Keep D u v → RdW u v pw D st c.blocks → Lw w v dv ps pw file kind n cache D { st with ops := st.ops + c.blocks } bs (m + c.blocks) ls ((d, packB (decide (c.prot ≠ 0)) ((bs.drop c.lba).take c.blocks)) :: rows) → d.n = c.blocks * szB (decide (c.prot ≠ 0)) → Own v u.heap.size t_uint8 1 d (bv (packB (decide (c.prot ≠ 0)) ((bs.drop c.lba).take c.blocks))) → K (rsv 0 sn0 d).toArray v) :
    Csbc_Dev_Do (some ⟨dv, 0, none⟩) (cmv c).toArray p u K := by
  have hsz := L.dvs.size
  have hlen := L.dvs.len
  refine do_spec L.dvs hm hp hpb (by omega) (by omega) (fun q => by rw [hkn] at q; cases q) (fun _ _ _ q => by omega) (fun _ _ _ _ d v hkp hw hown => ?_) (fun _ _ _ i hi q => absurd (fine_part hf i hi c.prot) q) (fun _ q => by omega) (fun _ q => by omega) (fun _ q => by omega) (fun _ q => by omega)
    (fun _ _ ab v _ _ _ => ⟨fun q => by omega, fun q => by omega, fun q => by omega, fun q => by omega, fun q => by omega⟩) (fun _ a _ _ _ _ _ _ _ _ => by omega)
  have hLl : ((bs.drop c.lba).take c.blocks).length = c.blocks := by rw [List.length_take, List.length_drop]; omega
  have hdn := own_n' hown
  rw [packB_len, hLl] at hdn
  have hs24 : szB (decide (c.prot ≠ 0)) ≤ 24 := by unfold szB; split <;> decide
  have hmul : c.blocks * szB (decide (c.prot ≠ 0)) ≤ 4096 * 24 := Nat.mul_le_mul (by omega) hs24
  have L2 := L.step hkp (L.dvs.ops hkp (hw.isW L.dvs.isW)) (fun _ q => .inl q)
  refine h d v hkp hw ⟨L2.grow, L2.dvs, L2.above, L2.loc, fun x hx => ?_⟩ hdn hown
  rcases List.mem_cons.1 hx with rfl | hx
  · refine ⟨hown.rd (by omega), fun b hb => ⟨fun q => ?_, (hown.ge b hb).2⟩⟩
    have := (hown.ge b hb).1
    have := L.dvs.isW.lt q
    omega
  · exact L2.row x hx
theorem Lw.read (L : Lw w u dv ps pw file kind n cache D st bs m ls rows) (hm : m ≤ 1000000) {c : Cm} {p : Sl} {l : L8} {K : Array Value → World → Prop} (hk : c.kind = 7) (hkn : knownB kind c.prot = true) (hc : c.lba + c.blocks ≤ n) (hp : Rd u 1 p (bv l)) (hpb : p.n ≤ 140737488351232) (hf : Fine kind bs)
    (h : ∀ d v, Lw w v dv ps pw file kind n cache D { st with ops := st.ops + c.blocks } bs (m + c.blocks) ls ((d, packB (decide (c.prot ≠ 0)) ((bs.drop c.lba).take c.blocks)) :: rows) → d.n = c.blocks * szB (decide (c.prot ≠ 0)) → Own v u.heap.size t_uint8 1 d (bv (packB (decide (c.prot ≠ 0)) ((bs.drop c.lba).take c.blocks))) → K (rsv 0 sn0 d).toArray v) :
    Csbc_Dev_Do (some ⟨dv, 0, none⟩) (cmv c).toArray p u K := L.readK hm hk hkn hc hp hpb hf fun d v _ _ => h d v
end
end Go.Proofs.Ytaneeadpjelomaa
