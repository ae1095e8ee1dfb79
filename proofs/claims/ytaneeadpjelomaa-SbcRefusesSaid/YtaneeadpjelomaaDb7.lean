import Derived.Test.YtaneeadpjelomaaDb6
import Derived.Test.YtaneeadpjelomaaSt7
/- Layer 14: devices made; results compared; the device is awake. -/
namespace Go.Proofs.Ytaneeadpjelomaa
open Go CF

theorem rd_nilB (w : World) : Rd w 1 nilS (bv []) := rd_nil w 1
theorem device_specK {n kind : Nat} {cache : Bool} {w : World} {R : Option Addr → Option Addr → World → Prop} (hn : 1 ≤ n ∧ n ≤ 4096) (hk : kind ≤ 3)
    (h : ∀ dv ps pw D v, w.heap.size ≤ dv → w.heap.size ≤ ps → Lw w v dv ps pw s_f kind n cache D st0 (List.replicate n emptyB) 0 [] [] → R (some ⟨dv, 0, none⟩) (some ⟨pw, 0, none⟩) v) : Cpalletlaw14_device (n : Int) (kind : Int) cache w R := by
  refine Fpalletlaw14_device.calls _ _ _ _ _ ?_
  refine world_new_spec fun pw D w1 hg1 hw1 hD1 => ?_
  refine open_spec (blocks := n) (by decide) hn fun ps w2 hps hg2 hS2 => br_f rfl ?_
  refine new_rule fun dv w3 hdv hb3 hg3 hsz3 => ?_
  have s1 := hg1.size
  have s2 := hg2.size
  have lD := fun k (q : D k) => hw1.lt q
  have lps := lt_of_heap hS2
  refine h dv ps pw D w3 (by omega) (by omega) ⟨(hg1.trans hg2).trans hg3, ⟨hb3, hg3.heap hS2 (fun q => q), (hw1.grow hg2).grow hg3, fun q => (by have := lD _ q; omega), fun q => (by have := lD _ q; omega), fun c hc => (by cases hc), tells_empty n s_f, List.length_replicate, hn, by decide, hk, ⟨Nat.le_refl _, Nat.le_refl _⟩⟩,
    hD1, fun x hx => (by cases hx), fun x hx => (by cases hx)⟩
theorem device_spec {n kind : Nat} {cache : Bool} {w : World} {R : Option Addr → Option Addr → World → Prop} (hn : 1 ≤ n ∧ n ≤ 4096) (hk : kind ≤ 3)
    (h : ∀ dv ps pw D v, Lw w v dv ps pw s_f kind n cache D st0 (List.replicate n emptyB) 0 [] [] → R (some ⟨dv, 0, none⟩) (some ⟨pw, 0, none⟩) v) : Cpalletlaw14_device (n : Int) (kind : Int) cache w R := device_specK hn hk fun dv ps pw D v _ _ => h dv ps pw D v
theorem bytes14_spec {n b : Nat} {w : World} {R : Sl → World → Prop} (hn : n ≤ 100000) (hb : b < 256) (h : ∀ s v, Own v w.heap.size t_uint8 1 s (bv (List.replicate n (UInt8.ofNat b))) → Grow w v → s.n = n → R s v) : Cpalletlaw14_bytes (n : Int) (b : Int) w R := by
  refine Fpalletlaw14_bytes.calls _ _ _ _ ?_
  refine make_rule (base := w.heap.size) u_sl_uint8 i_uint8 rfl (by omega) (by omega) (Nat.le_refl _) fun w1 hown1 hg1 hsz1 => ?_
  have hrep : (List.replicate n (Value.int .u8 0)) = bv (List.replicate n 0) := by simp [bv]
  rw [hrep] at hown1
  have eb : (b : Int) = ((UInt8.ofNat b).toNat : Int) := by rw [UInt8.toNat_ofNat']; omega
  refine ⟨fun i u => ∃ j : Nat, i = j ∧ j ≤ n ∧ Grow w u ∧ Own u w.heap.size t_uint8 1 ⟨some ⟨w.heap.size, 0, none⟩, n, n⟩ (bv (List.replicate j (UInt8.ofNat b) ++ List.replicate (n - j) 0)), fun i _ => n - i.toNat, ⟨0, rfl, Nat.zero_le _, hg1, by simpa using hown1⟩, ?_⟩
  rintro i u ⟨j, rfl, hj, hgu, hown⟩
  refine br_nat (fun hlt => ?_) (fun hge => ?_)
  · refine ⟨⟨by omega, by show (j : Int) < (n : Int); omega, rfl⟩, ?_⟩
    rw [eb, Int.toNat_natCast]
    refine own_put hown (i := j) (by show j < n; omega) rfl fun w3 hown3 hk3 _ => ?_
    rw [bv_set] at hown3
    have e : (List.replicate j (UInt8.ofNat b) ++ List.replicate (n - j) 0).set j (UInt8.ofNat b) = List.replicate (j + 1) (UInt8.ofNat b) ++ List.replicate (n - (j + 1)) 0 := by
      rw [List.set_append_right _ _ (by simp), List.length_replicate, Nat.sub_self, show n - j = (n - (j + 1)) + 1 by omega, List.replicate_succ, List.set_cons_zero, List.replicate_succ' (n := j), List.append_assoc]; rfl
    rw [e] at hown3
    rw [w64 (by omega) (by omega)]
    exact ⟨⟨j + 1, by omega, by omega, own_grow' hgu hown (Nat.le_refl _) hk3, hown3⟩, by dsimp only; omega⟩
  · have : j = n := by omega
    subst this
    rw [Nat.sub_self, List.replicate_zero, List.append_nil] at hown
    exact h _ u hown hgu rfl
/-! ### the reference's results -/
theorem ends14_spec {key code : Nat} {w : World} {R : Array Value → World → Prop} (h : ∀ w', Grow w w' → R (rsv 2 ⟨key, code, 0, false, 0, 0, false, false⟩ nilS).toArray w') : Cpalletref14_Ends (key : Int) (code : Int) w R := by
  refine Fpalletref14_Ends.calls _ _ _ _ ?_
  refine new_rule fun ab w1 hab hb1 hg1 hsz1 => ⟨(rsv 2 ⟨key, code, 0, false, 0, 0, false, false⟩ nilS).toArray, by kernel_rfl, ?_⟩
  exact ret_rule hb1 rfl fun w2 hk2 => h w2 (grow_new hg1 (by omega) hk2)
theorem at14_spec {key code info : Nat} {w : World} {R : Array Value → World → Prop} (h : ∀ w', Grow w w' → R (rsv 2 (atS key code info) nilS).toArray w') : Cpalletref14_At (key : Int) (code : Int) (info : Int) w R := by
  refine Fpalletref14_At.calls _ _ _ _ _ ?_
  refine new_rule fun ab w1 hab hb1 hg1 hsz1 => ?_
  refine ends14_spec fun w2 hg2 => ?_
  refine new_rule fun rb w3 hrb hb3 hg3 hsz3 => lay_rule hb3 rfl fun w4 hb4 hk4 hsz4 => ?_
  have hg24 : Grow w2 w4 := hg3.keep hk4 fun i hi q => by omega
  rw [add0, add0, add0]
  refine put_rule hb4 (by show 3 < 10; decide) rfl fun w5 hb5 hk5 hsz5 => ?_
  refine put_rule hb5 (by show 4 < 10; decide) rfl fun w6 hb6 hk6 hsz6 => ?_
  have hb6 : Blk w6 rb (rsv 2 (atS key code info) nilS).toArray t_api_Result := hb6
  refine ⟨_, rLoad (blk_cells hb6), ?_⟩
  have hg16 : Grow w1 w6 := ((hg2.trans hg24).keep hk5 fun i hi q => by have := hg2.size; omega).keep hk6 fun i hi q => by have := hg2.size; omega
  exact ret_rule (hg16.heap hb1 (fun q => q)) rfl fun w7 hk7 => h w7 (grow_new (hg1.trans hg16) (by omega) hk7)
def kSn : List Kd := [.i .u8, .i .u16, .i .u64, .b, .i .i64, .i .i64, .b, .b]
theorem flat_api_Sense : flatK Try.prog 8 t_api_Sense = some kSn := by kernel_rfl
theorem kd_api_Sense : kd Try.prog t_api_Sense = .ag := by kernel_rfl
theorem gt_api_Sense : Try.prog.eqGuardType Try.prog.depth t_api_Sense = false := by kernel_rfl
theorem fit_snv (s : Sn) : FitL kSn (snv s) := ⟨rfl, rfl, rfl, rfl, rfl, rfl, rfl, rfl, trivial⟩
theorem rsv_sense {w : World} {b : Nat} {s : Nat} {sn : Sn} {d : Sl} (h : Blk w b (rsv s sn d).toArray t_api_Result) : Cells w ((⟨b, 0, none⟩ : Addr).add 1) (snv sn) := fun j v hj => by
  rw [addr_add]
  refine blk_cells h (1 + j) v ?_
  have : j < 8 := (List.getElem?_eq_some_iff.1 hj).1
  unfold rsv
  rw [List.append_assoc, List.getElem?_append_right (by simp), show 1 + j - [Value.int .u8 (s : Int)].length = j by simp, List.getElem?_append_left (by exact this)]
  exact hj
theorem same14_spec {s : Nat} {sn : Sn} {d1 d2 : Sl} {l : L8} {w : World} {R : Bool → World → Prop} (h1 : Rd w 1 d1 (bv l)) (h2 : Rd w 1 d2 (bv l)) (h : ∀ w', Grow w w' → R true w') : Cpalletref14_Same (rsv s sn d1).toArray (rsv s sn d2).toArray w R := by
  refine Fpalletref14_Same.calls _ _ _ _ ?_
  refine new_rule fun ab w1 hab hb1 hg1 hsz1 => ?_
  refine new_rule fun bb w2 hbb hb2 hg2 hsz2 => ?_
  have hb1 : Blk w2 ab (rsv s sn d1).toArray t_api_Result := hg2.heap hb1 (fun q => q)
  have hb2 : Blk w2 bb (rsv s sn d2).toArray t_api_Result := hb2
  obtain ⟨r, hr, hrun⟩ := eql_rule (x := .tmp 12) (y := .tmp 14) flat_api_Sense kd_api_Sense gt_api_Sense (fit_snv sn) (fit_snv sn)
  have hr1 : r = true := hr.2 rfl
  subst hr1
  have g := hg1.trans hg2
  refine ⟨(s : Int), by rw [add0, hb1.cell]; rfl, (s : Int), by rw [add0, hb2.cell]; rfl, (snv sn).toArray, fun _ => sLoad (rsv_sense hb1), (snv sn).toArray, fun _ => sLoad (rsv_sense hb2), true, fun _ => hrun w2, d1, fun _ => by rw [add0, hb1.cell]; rfl, str l,
    fun _ => convStr_rule u_sl_uint8 u_uint8 u_string (h1.grow g), d2, fun _ => by rw [add0, hb2.cell]; rfl, str l, fun _ => convStr_rule u_sl_uint8 u_uint8 u_string (h2.grow g), ?_⟩
  have := h w2 g
  simpa [sEq_str] using this
/-! ### awake -/
theorem awake14_spec {w : World} {R : Bool → World → Prop} (h : ∀ w', Grow w w' → R true w') : Cpalletlaw14_awake w R := by
  refine Fpalletlaw14_awake.calls _ _ ?_
  refine device_spec (n := 4) (kind := 0) (cache := true) (by decide) (by decide) fun dv ps pw D w0 L0 => br_f rfl ?_
  refine bytes14_spec (n := 16) (b := 170) (by decide) (by decide) fun xs w1 hown1 hg1 hn1 => ?_
  have L1 := L0.go hg1
  have hw0 := L0.grow.size
  generalize hl : List.replicate 16 (UInt8.ofNat 170) = l at *
  have hll : l.length = 16 := by rw [← hl]; simp
  refine L1.write0 (by decide) (c := ⟨8, false, 1, 1, 0, false, 0, false, false, 0, 0, false, 0, 0, false⟩) (.inl rfl) rfl (by decide) (hown1.rd (by omega)) hll fun w2 D2 L2 => ?_
  refine L2.res fun ab w3 L3 => ?_
  have hmk := mk_len (kind := 0) (lba := 1) (N := 1) (l := l) (by omega)
  have hfine : Fine 0 (setAll (List.replicate 4 emptyB) 1 (mkAll 0 1 (unpB false l) 1) 1) := by
    have := fine_set (fine_rep 0 4) (F := 1) (xs := mkAll 0 1 (unpB false l) 1) (by rw [hmk]; decide) (fine_mk (by rw [unpB_len, hll]; rfl))
    rwa [hmk] at this
  have hrd := setAll_read (bs := List.replicate 4 emptyB) (F := 1) (xs := mkAll 0 1 (unpB false l) 1) (by rw [hmk]; decide)
  rw [hmk] at hrd
  refine L3.read (by decide) (c := ⟨7, false, 1, 1, 0, false, 0, false, false, 0, 0, false, 0, 0, false⟩) rfl rfl (by decide) (rd_nilB _) (by decide) hfine fun d w4 L4 hdn hown4 => ?_
  refine L4.res fun bb w5 L5 => ?_
  have L5row := (L5.row _ List.mem_cons_self).1
  rintro w6 rfl
  have hg6 : Grow w5 w5.drew := keep_drew w5
  have e1 : packB (decide ((0 : Nat) ≠ 0)) (((setAll (List.replicate 4 emptyB) 1 (mkAll 0 1 (unpB false l) 1) 1).drop 1).take 1) = l := by
    rw [hrd]; exact mk_bytes (by rw [hll])
  have L5row : Rd w5 1 d (bv l) := by rw [← e1]; exact L5row
  have hb5 := L5.held
  have ha5 : Blk w5 ab _ t_api_Result := (L5.loc _ (List.mem_cons_of_mem _ List.mem_cons_self)).1
  have ca : ∀ u, Grow w5 u → u.cell? ((⟨ab, 0, none⟩ : Addr).add 0) = some (.int .u8 0) := fun u hu => by rw [add0, Blk.cell (hu.heap ha5 (fun q => q))]; rfl
  have cb : ∀ u, Grow w5 u → u.cell? ((⟨bb, 0, none⟩ : Addr).add 0) = some (.int .u8 0) := fun u hu => by rw [add0, Blk.cell (hu.heap hb5 (fun q => q))]; rfl
  have cd : ∀ u, Grow w5 u → u.cell? ((⟨bb, 0, none⟩ : Addr).add 9) = some (.slice d.A d.n d.c) := fun u hu => by rw [add0, Blk.cell (hu.heap hb5 (fun q => q))]; rfl
  refine ⟨fun u => Grow w5 u, hg6, 0, ca, 0, fun _ => cb, d, fun _ => cd, str l, fun _ u hu => convStr_rule u_sl_uint8 u_uint8 u_string (L5row.grow hu), fun _ => ?_, fun q => by cases q⟩
  refine bytes14_spec (n := 16) (b := 170) (by decide) (by decide) fun ys w7 hown7 hg7 hn7 => ?_
  rw [hl] at hown7
  refine ⟨hg6.trans hg7, fun u => Grow w7 u, Keep.refl _ _, fun u hu => (hg6.trans hg7).trans hu, str l, fun _ u hu => convStr_rule u_sl_uint8 u_uint8 u_string ((hown7.grow hu).rd (by omega)), ?_⟩
  have := h w7 (L5.grow.trans (hg6.trans hg7))
  simpa [sEq_str] using this
end Go.Proofs.Ytaneeadpjelomaa
