import Derived.Test.YtaneeadpjelomaaPi4
import Derived.Test.YtaneeadpjelomaaSt10
/- Layer 14: a device; its reading and writing. -/
namespace Go.Proofs.Ytaneeadpjelomaa
open Go CF

/-- a command, taken apart -/
structure Cm where
  kind : Nat
  long : Bool
  lba : Nat
  blocks : Nat
  alloc : Int
  fua : Bool
  prot : Nat
  unmap : Bool
  evpd : Bool
  page : Nat
  control : Nat
  save : Bool
  service : Nat
  type : Nat
  bytes : Bool
def cmv (c : Cm) : List Value := [.int .u8 (c.kind : Int), .bool c.long, .int .u64 (c.lba : Int), .int .u64 (c.blocks : Int), .int .i64 c.alloc, .bool c.fua, .int .u8 (c.prot : Int), .bool c.unmap, .bool c.evpd, .int .u8 (c.page : Int), .int .u8 (c.control : Int),
  .bool c.save, .int .u8 (c.service : Int), .int .u8 (c.type : Int), .bool c.bytes]
theorem cLoad {w : World} {a : Addr} {c : Cm} (h : Cells w a (cmv c)) : (loadVar t_api_Cmd a).run Try.prog w = .ok (.agg (cmv c).toArray) w := loadVar_rule g_api_Cmd i_api_Cmd rfl h
def dvcells (ps kind : Nat) : Array Value := #[.pointer (some ⟨ps, 0, none⟩), .int .u8 (kind : Int)]
/-- a device, what it keeps, and what it may write over -/
structure Dv (w : World) (dv ps pw : Nat) (file : ByteArray) (kind n : Nat) (cache : Bool) (D : Nat → Prop) (st : Wst) (bs : List Bk) (m : Nat) : Prop where
  dev : Blk w dv (dvcells ps kind) t_sbc_Dev
  isS : IsS w ps pw file n cache
  isW : IsW w pw D st
  nps : ¬ D ps
  ndv : ¬ D dv
  ok : Wok st
  tells : Tells st file bs
  len : bs.length = n
  size : 1 ≤ n ∧ n ≤ 4096
  nm : 1 ≤ file.size ∧ file.size ≤ 32
  kd : kind ≤ 3
  few : st.ops ≤ m ∧ st.waits.length ≤ m
section
variable {w u : World} {dv ps pw : Nat} {file : ByteArray} {kind n : Nat} {cache : Bool} {D D' : Nat → Prop} {st st' : Wst} {bs bs' : List Bk} {m m' : Nat}
theorem Dv.step (h : Dv w dv ps pw file kind n cache D st bs m) (k : Keep D w u) (hw : IsW u pw D' st') (hD : ∀ k, D' k → D k ∨ w.heap.size ≤ k) (hok : Wok st') (ht : Tells st' file bs') (hl : bs'.length = n) (hf : st'.ops ≤ m' ∧ st'.waits.length ≤ m') :
    Dv u dv ps pw file kind n cache D' st' bs' m' := by
  have l1 := lt_of_heap h.dev
  have l2 := lt_of_heap h.isS
  refine ⟨k.heap h.dev h.ndv, k.heap h.isS h.nps, hw, fun q => ?_, fun q => ?_, hok, ht, hl, h.size, h.nm, h.kd, hf⟩
  · rcases hD _ q with r | r
    · exact h.nps r
    · omega
  · rcases hD _ q with r | r
    · exact h.ndv r
    · omega
theorem Dv.grow (h : Dv w dv ps pw file kind n cache D st bs m) (g : Grow w u) : Dv u dv ps pw file kind n cache D st bs m :=
  ⟨g.heap h.dev (fun q => q), g.heap h.isS (fun q => q), h.isW.grow g, h.nps, h.ndv, h.ok, h.tells, h.len, h.size, h.nm, h.kd, h.few⟩
theorem Dv.mono (h : Dv w dv ps pw file kind n cache D st bs m) (hm : m ≤ m') : Dv w dv ps pw file kind n cache D st bs m' :=
  ⟨h.dev, h.isS, h.isW, h.nps, h.ndv, h.ok, h.tells, h.len, h.size, h.nm, h.kd, by have := h.few; omega⟩
theorem Dv.cell0 (h : Dv w dv ps pw file kind n cache D st bs m) : w.cell? ((gA (some ⟨dv, 0, none⟩)).add 0) = some (.pointer (some ⟨ps, 0, none⟩)) := by rw [gA, add0, h.dev.cell]; rfl
theorem dev0 (h : Blk w dv (dvcells ps kind) t_sbc_Dev) : w.cell? ((gA (some ⟨dv, 0, none⟩)).add 0) = some (.pointer (some ⟨ps, 0, none⟩)) := by rw [gA, add0, h.cell]; rfl
theorem dev1 (h : Blk w dv (dvcells ps kind) t_sbc_Dev) : w.cell? ((gA (some ⟨dv, 0, none⟩)).add 1) = some (.int .u8 (kind : Int)) := by rw [gA, add0, h.cell]; rfl
theorem rdBl_tells (ht : Tells st file bs) {lba k : Nat} (h : lba + k ≤ bs.length) : rdBl st file lba k = (bs.drop lba).take k := by
  apply List.ext_getElem?
  intro i
  unfold rdBl
  rw [List.getElem?_map, List.getElem?_take, List.getElem?_drop]
  by_cases q : i < k
  · rw [List.getElem?_range q, if_pos q, Option.map_some]
    exact ht.2 (lba + i) (by omega)
  · rw [if_neg q, List.getElem?_eq_none (by simp; omega)]; rfl
theorem blocks_spec {R : Int → World → Prop} (h : Dv w dv ps pw file kind n cache D st bs m) (hR : R (n : Int) w) : Csbc_Dev_blocks (some ⟨dv, 0, none⟩) w R := by
  refine Fsbc_Dev_blocks.calls _ _ _ ⟨rfl, some ⟨ps, 0, none⟩, dev0 h.dev, ?_⟩
  refine Fstore_Store_Blocks.calls _ _ _ (br_f rfl ⟨rfl, (n : Int), by rw [gA, add0, Blk.cell h.isS]; rfl, ?_⟩)
  have := h.size
  dsimp only
  rw [wu64 (by omega) (by omega)]
  exact hR
theorem dev_read_spec {c : Cm} {R : Sl → Array Value → Bool → World → Prop} (h : Dv w dv ps pw file kind n cache D st bs m) (hm : m ≤ 1000000) (hc : c.lba + c.blocks ≤ n)
    (h1 : (∀ i (hi : i < ((bs.drop c.lba).take c.blocks).length), chkB kind c.prot (c.lba + i) ((bs.drop c.lba).take c.blocks)[i] = 0) → ∀ xs u, Keep D w u → RdW w u pw D st c.blocks →
      Own u w.heap.size t_api_Block 19 xs (((bs.drop c.lba).take c.blocks).flatMap bc) → R xs (rsv 0 sn0 nilS).toArray true u)
    (h2 : ∀ i (hi : i < ((bs.drop c.lba).take c.blocks).length), chkB kind c.prot (c.lba + i) ((bs.drop c.lba).take c.blocks)[i] ≠ 0 → ∀ u, Keep D w u → RdW w u pw D st c.blocks →
      R nilS (rsv 2 (atS 11 (chkB kind c.prot (c.lba + i) ((bs.drop c.lba).take c.blocks)[i]) (c.lba + i)) nilS).toArray false u) :
    Csbc_Dev_read (some ⟨dv, 0, none⟩) (cmv c).toArray w R := by
  refine Fsbc_Dev_read.calls _ _ _ _ ?_
  have hlen := h.len
  have hsz := h.size
  refine new_rule fun cb w0 hcb hb0 hg0 hsz0 => ?_
  have hb0 : Blk w0 cb (cmv c).toArray t_api_Cmd := hb0
  refine new_rule fun ab w1 hab hb1 hg1 hsz1 => ?_
  rintro w2 rfl
  have hg2 : Grow w1 w1.drew := keep_drew w1
  have hgw2 := (hg0.trans hg1).trans hg2
  have hw2 := h.grow hgw2
  have hc2 : Blk w1.drew cb (cmv c).toArray t_api_Cmd := (hg1.trans hg2).heap hb0 (fun q => q)
  have c2 : ∀ {v : World}, Blk v cb (cmv c).toArray t_api_Cmd → v.cell? ((⟨cb, 0, none⟩ : Addr).add 2) = some (.int .u64 (c.lba : Int)) := fun q => by rw [add0, q.cell]; rfl
  have c3 : ∀ {v : World}, Blk v cb (cmv c).toArray t_api_Cmd → v.cell? ((⟨cb, 0, none⟩ : Addr).add 3) = some (.int .u64 (c.blocks : Int)) := fun q => by rw [add0, q.cell]; rfl
  have c6 : ∀ {v : World}, Blk v cb (cmv c).toArray t_api_Cmd → v.cell? ((⟨cb, 0, none⟩ : Addr).add 6) = some (.int .u8 (c.prot : Int)) := fun q => by rw [add0, q.cell]; rfl
  refine ⟨fun v => Blk v dv (dvcells ps kind) t_sbc_Dev ∧ Blk v cb (cmv c).toArray t_api_Cmd, ⟨hw2.dev, hc2⟩, rfl, some ⟨ps, 0, none⟩, fun v hv => dev0 hv.1, (c.lba : Int), fun v hv => c2 hv.2, (c.blocks : Int), fun v hv => c3 hv.2, ?_⟩
  rw [w64 (n := (c.lba : Int)) (by omega) (by omega), w64 (n := (c.blocks : Int)) (by omega) (by omega)]
  have hfew := h.few
  refine store_readR_spec hw2.isS hw2.nps hw2.isW h.nm hsz.2 hc (by omega) fun xs w3 hk3 hw3 hown3 hn3 => br_f rfl ?_
  rw [rdBl_tells h.tells (by omega)] at hown3
  have hLl : ((bs.drop c.lba).take c.blocks).length = c.blocks := by rw [List.length_take, List.length_drop]; omega
  generalize (bs.drop c.lba).take c.blocks = L at *
  have lt0 := fun k (q : D k) => h.isW.lt q
  have hkw3 : Keep D w w3 := (hgw2.mono fun _ _ q => q.elim).trans hk3 fun _ _ q => q
  have hc3 : Blk w3 cb (cmv c).toArray t_api_Cmd := hk3.heap hc2 fun q => by have := lt0 _ q; omega
  have hd3 : Blk w3 dv (dvcells ps kind) t_sbc_Dev := hk3.heap hw2.dev h.ndv
  have ha3 : ∀ {cs}, Blk w1 ab cs t_api_Result → Blk w3 ab cs t_api_Result := fun q => hk3.heap (hg2.heap q (fun q => q)) fun q => by have := lt0 _ q; omega
  have hown3 : Own w3 w.heap.size t_api_Block 19 xs (L.flatMap bc) := hown3.mono hgw2.size
  have hxr := hown3.rd (by omega)
  have s2 := hgw2.size
  have s3 := hkw3.size
  refine ⟨fun x v => ∃ j : Nat, x = j ∧ j ≤ L.length ∧ Grow w3 v ∧ ∀ i (hi : i < L.length), i < j → chkB kind c.prot (c.lba + i) L[i] = 0, fun x _ => L.length - x.toNat, ⟨0, rfl, Nat.zero_le _, Keep.refl _ _, fun _ _ q => absurd q (Nat.not_lt_zero _)⟩, ?_⟩
  rintro x v ⟨j, rfl, hj, hgv, hall⟩
  have hav : Blk v ab _ t_api_Result := hgv.heap (ha3 hb1) (fun q => q)
  have fin : ∀ {y : World} , Grow w3 y → ∀ {z : World}, Keep (fun k => k = ab) y z → Keep D w z ∧ RdW w z pw D st c.blocks := fun {y} hy {z} hz => by
    have hgz : Grow w3 y := hy
    have hzD : Keep (fun k => k = ab) w3 z := (hgz.mono fun _ _ q => q.elim).trans hz fun _ _ q => q
    refine ⟨⟨hzD.os.trans hkw3.os, hzD.tape.trans hkw3.tape, hzD.output.trans hkw3.output, Nat.le_trans hkw3.size hzD.size, fun k hk hn => ?_⟩, ?_⟩
    · rw [hzD.block k (by omega) (by omega), hkw3.block k hk hn]
    · refine ((hw3.pre hgw2).grow hgz).keep hz (fun k hk q => ?_) (fun g cur hg q => ?_)
      · have := lt0 _ hk; omega
      · subst q
        have := hgz.heap (ha3 hb1) (fun q => q)
        exact absurd (blk_type this hg) (by decide)
  refine br_nat (fun hlt => ?_) (fun hge => ?_)
  · have hjL : j < L.length := by omega
    obtain ⟨a0, ha0, hc0⟩ := rd_bk_at (hxr.grow hgv) hjL
    refine ⟨⟨by omega, by omega, by rw [ha0]; rfl⟩, (bc L[j]).toArray, by rw [ha0, Int.toNat_natCast]; exact bLoad hc0, ?_⟩
    refine new_rule fun bb w4 hbb hb4 hg4 hsz4 => ?_
    refine storeVar_rule (cells := (bc L[j]).toArray) hb4 i_api_Block (by simp [bc_len]) (by simp [bc_len]) (bc_all _) fun w5 hb5 hk5 hsz5 => ?_
    have hg5 : Grow v w5 := hg4.keep hk5 fun i hi q => by omega
    have hg35 := hgv.trans hg5
    have hc5 := hg35.heap hc3 (fun q => q)
    refine ⟨(c.lba : Int), c2 hc5, ?_⟩
    rintro w6 rfl
    have hg6 : Grow w5 w5.drew := keep_drew w5
    have hg36 := hg35.trans hg6
    refine ⟨fun y => Blk y dv (dvcells ps kind) t_sbc_Dev ∧ Blk y cb (cmv c).toArray t_api_Cmd ∧ Blk y bb (bc L[j]).toArray t_api_Block, ⟨hg36.heap hd3 (fun q => q), hg36.heap hc3 (fun q => q), hg6.heap hb5 (fun q => q)⟩, rfl, (kind : Int), fun y hy => dev1 hy.1, (c.prot : Int), fun y hy => c6 hy.2.1,
      (bc L[j]).toArray, fun y hy => bLoad (blk_cells hy.2.2), ?_⟩
    have e1 : IntKind.wrap .u64 ((c.lba : Int) + IntKind.wrap .u64 (j : Int)) = ((c.lba + j : Nat) : Int) := by
      rw [wu64 (n := (j : Int)) (by omega) (by omega), wu64 (by omega) (by omega)]; omega
    rw [e1]
    refine check_b_spec fun w7 hg7 => ?_
    have hg37 := hg36.trans hg7
    by_cases hz : chkB kind c.prot (c.lba + j) L[j] = 0
    · refine br_f (by rw [hz]; rfl) ?_
      rw [w64 (by omega) (by omega)]
      refine ⟨⟨j + 1, by omega, by omega, hg37, fun i hi q => ?_⟩, by dsimp only; omega⟩
      by_cases e : i = j
      · subst e; exact hz
      · exact hall i hi (by omega)
    · refine br_t (by rw [bne_iff_ne]; omega) ?_
      refine at_spec (key := 11) fun w8 hg8 => ?_
      have hg38 := hg37.trans hg8
      refine ret_rule (hg38.heap (ha3 hb1) (fun q => q)) rfl fun w9 hk9 => ?_
      obtain ⟨f1, f2⟩ := fin hg38 hk9
      exact h2 j hjL hz w9 f1 f2
  · refine ret_rule (st := 0) (s := sn0) (d := nilS) hav rfl fun w4 hk4 => ?_
    obtain ⟨f1, f2⟩ := fin hgv hk4
    refine h1 (fun i hi => hall i hi (by omega)) xs w4 f1 f2 ((hown3.grow hgv).keep hk4 fun b hb q => ?_)
    obtain ⟨cur, hcur⟩ := own_heap (hown3.grow hgv) hb
    subst q
    exact absurd (blk_type hav hcur) (by decide)
end
end Go.Proofs.Ytaneeadpjelomaa
