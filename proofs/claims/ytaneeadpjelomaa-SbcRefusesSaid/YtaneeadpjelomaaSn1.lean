import Derived.Test.YtaneeadpjelomaaPi2
/- What a command brings: a sense, a result. -/
namespace Go.Proofs.Ytaneeadpjelomaa
open Go CF

/-- a sense -/
structure Sn where
  key : Nat
  code : Nat
  info : Nat
  hi : Bool
  field : Int
  bit : Int
  hf : Bool
  ic : Bool
def sn0 : Sn := ⟨0, 0, 0, false, 0, 0, false, false⟩
def snv (s : Sn) : List Value := [.int .u8 (s.key : Int), .int .u16 (s.code : Int), .int .u64 (s.info : Int), .bool s.hi, .int .i64 s.field, .int .i64 s.bit, .bool s.hf, .bool s.ic]
def badS (code : Nat) : Sn := ⟨5, code, 0, false, 0, 0, false, false⟩
def badF (field : Nat) : Sn := ⟨5, 0x2600, 0, false, (field : Int), -1, true, false⟩
def atS (key code info : Nat) : Sn := ⟨key, code, info, true, 0, 0, false, false⟩
/-- a result: status, sense, data -/
def rsv (st : Nat) (s : Sn) (d : Sl) : List Value := [.int .u8 (st : Int)] ++ snv s ++ [.slice d.A d.n d.c]
abbrev nilS : Sl := ⟨none, 0, 0⟩
theorem rsv_len (st : Nat) (s : Sn) (d : Sl) : (rsv st s d).length = 10 := rfl
theorem rsv_ones (st : Nat) (s : Sn) (d : Sl) : (rsv st s d).toArray.all (·.oneCell') = true := by simp [rsv, snv, Value.oneCell']
theorem rLoad {w : World} {a : Addr} {st : Nat} {s : Sn} {d : Sl} (h : Cells w a (rsv st s d)) : (loadVar t_api_Result a).run Try.prog w = .ok (.agg (rsv st s d).toArray) w := loadVar_rule g_api_Result i_api_Result rfl h
theorem sLoad {w : World} {a : Addr} {s : Sn} (h : Cells w a (snv s)) : (loadVar t_api_Sense a).run Try.prog w = .ok (.agg (snv s).toArray) w := loadVar_rule g_api_Sense i_api_Sense rfl h
/-- a result that is laid and handed back -/
theorem ret_rule {w : World} {a : Nat} {old : Array Value} {st : Nat} {s : Sn} {d : Sl} {K : Array Value → World → Prop} (hb : Blk w a old t_api_Result) (ho : old.size = 10)
    (h : ∀ w', Keep (fun k => k = a) w w' → K (rsv st s d).toArray w') :
    RunU Try.prog (storeVar t_api_Result ⟨a, 0, none⟩ (.agg (rsv st s d).toArray)) w fun w' => ∃ res : Array Value, (loadVar t_api_Result ⟨a, 0, none⟩).run Try.prog w' = .ok (.agg res) w' ∧ K res w' :=
  storeVar_rule (cells := (rsv st s d).toArray) hb i_api_Result rfl ho (rsv_ones _ _ _) fun w1 hb1 hk1 _ => ⟨_, rLoad (blk_cells hb1), h w1 hk1⟩
/-- a result that is laid into a variable -/
theorem lay_rule {w : World} {a : Nat} {old : Array Value} {st : Nat} {s : Sn} {d : Sl} {K : World → Prop} (hb : Blk w a old t_api_Result) (ho : old.size = 10)
    (h : ∀ w', Blk w' a (rsv st s d).toArray t_api_Result → Keep (fun k => k = a) w w' → w'.heap.size = w.heap.size → K w') : RunU Try.prog (storeVar t_api_Result ⟨a, 0, none⟩ (.agg (rsv st s d).toArray)) w K :=
  storeVar_rule (cells := (rsv st s d).toArray) hb i_api_Result rfl ho (rsv_ones _ _ _) h
theorem grow_new {w u v : World} {a : Nat} (hg : Grow w u) (ha : w.heap.size ≤ a) (hk : Keep (fun k => k = a) u v) : Grow w v := hg.keep hk fun i hi q => by omega
theorem fails_spec {s : Sn} {w : World} {R : Array Value → World → Prop} (h : ∀ w', Grow w w' → R (rsv 2 s nilS).toArray w') : Csbc_fails (snv s).toArray w R := by
  refine Fsbc_fails.calls _ _ _ ?_
  refine new_rule fun sb w0 hsb hb0 hg0 hsz0 => ?_
  have hb0 : Blk w0 sb (snv s).toArray t_api_Sense := hb0
  refine new_rule fun ab w1 hab hb1 hg1 hsz1 => ⟨_, sLoad (blk_cells (hg1.heap hb0 (fun q => q))), (rsv 2 s nilS).toArray, by kernel_rfl, ?_⟩
  exact ret_rule hb1 rfl fun w2 hk2 => h w2 (grow_new (hg0.trans hg1) (by have := hg0.size; omega) hk2)
theorem at_spec {key code info : Nat} {w : World} {R : Array Value → World → Prop} (h : ∀ w', Grow w w' → R (rsv 2 (atS key code info) nilS).toArray w') : Csbc_at (key : Int) (code : Int) (info : Int) w R := by
  refine Fsbc_at.calls _ _ _ _ _ ?_
  refine new_rule fun ab w0 hab hb0 hg0 hsz0 => ?_
  refine fails_spec (s := atS key code info) fun w1 hg1 => ?_
  exact ret_rule (hg1.heap hb0 (fun q => q)) rfl fun w2 hk2 => h w2 (grow_new (hg0.trans hg1) (by omega) hk2)
theorem good_spec {d : Sl} {w : World} {R : Array Value → World → Prop} (h : ∀ w', Grow w w' → R (rsv 0 sn0 d).toArray w') : Csbc_good d w R := by
  refine Fsbc_good.calls _ _ _ ?_
  refine new_rule fun ab w0 hab hb0 hg0 hsz0 => ?_
  exact ret_rule (st := 0) (s := sn0) (d := d) hb0 rfl fun w2 hk2 => h w2 (grow_new hg0 (by omega) hk2)
theorem length_spec {w : World} {R : Array Value → World → Prop} (h : ∀ w', Grow w w' → R (rsv 2 (badS 0x1a00) nilS).toArray w') : Csbc_length w R := by
  refine Fsbc_length.calls _ _ ?_
  refine new_rule fun ab w0 hab hb0 hg0 hsz0 => ?_
  refine fails_spec (s := badS 0x1a00) fun w1 hg1 => ?_
  exact ret_rule (hg1.heap hb0 (fun q => q)) rfl fun w2 hk2 => h w2 (grow_new (hg0.trans hg1) (by omega) hk2)
theorem within_spec {a b c : Nat} {w : World} {R : Bool → World → Prop} (ha : a < 18446744073709551616) (hb : b < 18446744073709551616) (hc : c < 18446744073709551616) (h : R (decide (a + b ≤ c)) w) : Cbe_Within (a : Int) (b : Int) (c : Int) w R := by
  refine Fbe_Within.calls _ _ _ _ _ ?_
  unfold Fbe_Within
  have e : (decide ((a : Int) ≤ (c : Int)) && decide ((b : Int) ≤ IntKind.wrap .u64 ((c : Int) - (a : Int)))) = decide (a + b ≤ c) := by
    rw [Bool.eq_iff_iff, Bool.and_eq_true, decide_eq_true_eq, decide_eq_true_eq, decide_eq_true_eq]
    by_cases q : a ≤ c
    · rw [wu64 (by omega) (by omega)]; omega
    · omega
  first
    | (rw [e]; exact h)
    | exact e ▸ h
end Go.Proofs.Ytaneeadpjelomaa
