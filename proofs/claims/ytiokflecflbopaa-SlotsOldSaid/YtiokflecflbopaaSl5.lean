/- Layer 5: what slots say. -/
import Derived.Test.YtiokflecflbopaaSl4
import Derived.Test.YtiokflecflbopaaSt7
namespace Go.Proofs.Ytiokflecflbopaa
open Go CF

theorem nmS_inj {file : ByteArray} {i j : Nat} (hi : i < 2) (hj : j < 2) (h : nmS file i = nmS file j) : i = j := by
  have h01 := nmS_ne file
  match i, j, hi, hj with
  | 0, 0, _, _ => rfl
  | 0, 1, _, _ => exact absurd h h01
  | 1, 0, _, _ => exact absurd h.symm h01
  | 1, 1, _, _ => rfl
theorem slFile_other {F : Files} {file : ByteArray} {i t o : Nat} {r : L8} (hi : i < 2) (ht : t < 2) (h : i ≠ t) : slFile (applyWr F (nmS file t) o r) file i = slFile F file i := by
  unfold slFile applyWr setF
  rw [if_neg (fun q => h (nmS_inj hi ht q))]
theorem slFile_own {F : Files} {file : ByteArray} {t o : Nat} {r : L8} : slFile (applyWr F (nmS file t) o r) file t = (wr ((F (nmS file t)).getD []) o r).take 4116 := by
  unfold slFile applyWr setF
  rw [if_pos rfl]; rfl
theorem wr_zero (f r : L8) : ∃ x, wr f 0 r = r ++ x := ⟨_, by unfold wr; rw [List.take_zero, List.nil_append]⟩
theorem slFile_save {F : Files} {file : ByteArray} {t g : Nat} {p : L8} (hp : p.length ≤ 4096) : ∃ x, slFile (applyWr F (nmS file t) 0 (recS g p)) file t = recS g p ++ x := by
  rw [slFile_own]
  obtain ⟨x, hx⟩ := wr_zero ((F (nmS file t)).getD []) (recS g p)
  refine ⟨x.take (4116 - (recS g p).length), ?_⟩
  rw [hx, List.take_append, List.take_of_length_le (by rw [recS_len]; omega)]
/-- the newest lies in slot s, numbered k -/
structure NewS (F : Files) (file : ByteArray) (s k : Nat) (p : L8) : Prop where
  lt : s < 2
  pos : 0 < k
  is : decS (slFile F file s) = (k, p, 0)
  old : (decS (slFile F file (1 - s))).2.2 ≠ 0 ∨ (decS (slFile F file (1 - s))).1 < k
/-- none is saved -/
def NoneS (F : Files) (file : ByteArray) : Prop := ∀ i, i < 2 → (decS (slFile F file i)).2.2 ≠ 0
theorem ldN_two (F : Files) (file : ByteArray) : ldN F file 2 = ldStep (ldStep (-1, 0, []) 0 (slFile F file 0)) 1 (slFile F file 1) := rfl
theorem ldN_noneS {F : Files} {file : ByteArray} (h : NoneS F file) : ldN F file 2 = (-1, 0, []) := by
  rw [ldN_two]
  have h0 := h 0 (by decide)
  have h1 := h 1 (by decide)
  have e : ldStep (-1, 0, []) 0 (slFile F file 0) = (-1, 0, []) := if_neg (fun q => h0 q.1)
  rw [e]
  exact if_neg (fun q => h1 q.1)
theorem ldN_newS {F : Files} {file : ByteArray} {s k : Nat} {p : L8} (h : NewS F file s k p) : ldN F file 2 = ((s : Int), k, p) := by
  rw [ldN_two]
  obtain ⟨hs, hk, hi, ho⟩ := h
  match s, hs with
  | 0, _ =>
    have e : ldStep (-1, 0, []) 0 (slFile F file 0) = (0, k, p) := by
      unfold ldStep; rw [hi, if_pos ⟨rfl, .inl (by decide)⟩]; rfl
    rw [e]
    refine if_neg fun q => ?_
    have q1 : (decS (slFile F file 1)).2.2 = 0 := q.1
    have q2 := q.2
    rcases ho with ho | ho
    · exact ho q1
    · rcases q2 with q2 | q2
      · exact absurd q2 (by show ¬ ((0 : Int) < 0); decide)
      · have q2 : k < (decS (slFile F file 1)).1 := q2
        have ho : (decS (slFile F file 1)).1 < k := ho
        omega
  | 1, _ =>
    have ho : (decS (slFile F file 0)).2.2 ≠ 0 ∨ (decS (slFile F file 0)).1 < k := ho
    have e : ldStep (-1, 0, []) 0 (slFile F file 0) = (-1, 0, []) ∨ (ldStep (-1, 0, []) 0 (slFile F file 0)).2.1 < k := by
      unfold ldStep
      rcases ho with ho | ho
      · left; exact if_neg (fun q => ho q.1)
      · right
        split
        · exact ho
        · exact hk
    unfold ldStep at e ⊢
    rw [hi]
    refine (if_pos ⟨rfl, ?_⟩).trans rfl
    rcases e with e | e
    · rw [e]; left; decide
    · right; exact e
/-- what is behind a save -/
theorem newS_save {F : Files} {file : ByteArray} {t k : Nat} {p : L8} (ht : t < 2) (hp : p.length ≤ 4096) (hk : k + 1 < 18446744073709551616) (ho : (decS (slFile F file (1 - t))).2.2 ≠ 0 ∨ (decS (slFile F file (1 - t))).1 < k + 1) :
    NewS (applyWr F (nmS file t) 0 (recS (k + 1) p)) file t (k + 1) p := by
  obtain ⟨x, hx⟩ := slFile_save (F := F) (file := file) (t := t) (g := k + 1) hp
  refine ⟨ht, by omega, by rw [hx, decS_rec hk hp], ?_⟩
  rw [slFile_other (by omega) ht (by omega)]
  exact ho
theorem noneS_nil (file : ByteArray) : NoneS (fun _ => none) file := fun i _ => by
  show (decS []).2.2 ≠ 0
  decide
/-- the number and the slot of the newest, by what is saved -/
def AtS (F : Files) (file : ByteArray) (a : Int) (k : Nat) (p : L8) : Prop := (a = -1 ∧ k = 0 ∧ p = [] ∧ NoneS F file) ∨ ∃ s : Nat, a = (s : Int) ∧ NewS F file s k p
theorem AtS.ld {F : Files} {file : ByteArray} {a : Int} {k : Nat} {p : L8} (h : AtS F file a k p) : ldN F file 2 = (a, k, p) := by
  rcases h with ⟨rfl, rfl, rfl, h⟩ | ⟨s, rfl, h⟩
  · exact ldN_noneS h
  · exact ldN_newS h
theorem AtS.now {st : Wst} {file : ByteArray} {sure : Bool} {a : Int} {k : Nat} {p : L8} (h : AtS st.seen file a k p) {a' : Int} {k' : Nat} (hs : sure = true → a' = a ∧ k' = k) : nowS st file sure a' k' = (a, k) := by
  unfold nowS
  cases sure with
  | true => obtain ⟨rfl, rfl⟩ := hs rfl; rfl
  | false => rw [if_neg (by decide), h.ld]
theorem AtS.save {F : Files} {file : ByteArray} {a : Int} {k : Nat} {p q : L8} (h : AtS F file a k p) (hq : q.length ≤ 4096) (hk : k + 1 < 18446744073709551616) :
    AtS (applyWr F (nmS file (toS a)) 0 (recS (k + 1) q)) file (toS a : Int) (k + 1) q := by
  refine .inr ⟨_, rfl, ?_⟩
  rcases h with ⟨rfl, rfl, rfl, h⟩ | ⟨s, rfl, h⟩
  · exact newS_save (t := 0) (by decide) hq hk (.inl (h 1 (by decide)))
  · have hs := h.lt
    have e : toS (s : Int) = 1 - s := by unfold toS; split <;> omega
    rw [e]
    refine newS_save (by omega) hq hk (.inr ?_)
    rw [show 1 - (1 - s) = s by omega, h.is]
    exact Nat.lt_succ_self k
theorem slots_save_at {w : World} {ss pw : Nat} {D : Nat → Prop} {st : Wst} {file : ByteArray} {sure : Bool} {at_ a : Int} {gen k : Nat} {p0 : L8} {p : Sl} {l : L8} {R : Int → Int → World → Prop} (hS : IsSl w ss pw file sure at_ gen) (hps : ¬ D ss) (hw : IsW w pw D st)
    (hok : Wok st) (hf : 1 ≤ file.size ∧ file.size ≤ 30) (ho : st.ops < 10000000000) (hn : st.waits.length < 10000000) (hl : l.length ≤ 4096) (hp : ∀ u, Keep (fun k => D k ∨ k = ss) w u → Rd u 1 p (bv l))
    (hat : AtS st.seen file a k p0) (hs : sure = true → at_ = a ∧ gen = k) (hk : k + 1 < 18446744073709551616)
    (h : ∀ u D' st', Keep (fun k => D k ∨ k = ss) w u → IsW u pw D' st' → st'.waits = [] → st'.ops ≤ st.ops + 4 → AtS st'.seen file (toS a) (k + 1) l → (∀ s, s < 2 → s ≠ toS a → slFile st'.seen file s = slFile st.seen file s) → (∃ x, st'.seen (nmS file (toS a)) = some (recS (k + 1) l ++ x) ∧ (st.seen (nmS file (toS a)) = none → x = [])) →
      (∀ n, n ≠ nmS file (toS a) → st'.seen n = st.seen n) → (∀ k, D' k → D k ∨ w.heap.size ≤ k) → ¬ D' ss →
      IsSl u ss pw file true (toS a) (k + 1) → R ((k + 1 : Nat) : Int) 0 u) : Cslots_Slots_Save (some ⟨ss, 0, none⟩) p w R := by
  have hnow := hat.now hs
  have lss := lt_of_heap hS
  refine slots_save_spec hS hps hw hok hf ho hn hl hp (by rw [hnow]; exact hk) fun u D' hk' hw' hD' hS' => ?_
  rw [hnow] at hw' hS' ⊢
  have ht : toS a < 2 := by unfold toS; split <;> decide
  refine h u D' _ hk' hw' rfl ?_ (hat.save hl hk) (fun s hs hne => slFile_other hs ht hne) ?_ (fun n hn => ?_) hD' (fun q => ?_) hS'
  · show st.ops + _ + 2 ≤ _
    split <;> omega
  · refine ⟨_, (if_pos rfl).trans (congrArg some (by unfold wr; rw [List.take_zero, List.nil_append])), fun q => ?_⟩
    rw [q]
    simp
  · show setF _ _ _ n = _
    unfold setF
    rw [if_neg hn]
  · rcases hD' _ q with r | r
    · exact hps r
    · omega
theorem slots_load_at {w : World} {ss pw : Nat} {D : Nat → Prop} {st : Wst} {file : ByteArray} {sure : Bool} {at_ a : Int} {gen k : Nat} {p : L8} {R : Sl → Int → Int → World → Prop} (hS : IsSl w ss pw file sure at_ gen) (hps : ¬ D ss) (hw : IsW w pw D st)
    (hf : 1 ≤ file.size ∧ file.size ≤ 30) (ho : st.ops < 10000000000) (hl : ldN st.seen file 2 = (a, k, p)) (hp : p.length ≤ 4096)
    (h : ∀ best u, Keep (fun k => D k ∨ k = ss) w u → IsW u pw D { st with ops := st.ops + 2 } → IsSl u ss pw file true a k → (∀ v, Grow u v → Rd v 1 best (bv p)) → best.n = p.length → R best (k : Int) (if a < 0 then 8 else 0) u) : Cslots_Slots_Load (some ⟨ss, 0, none⟩) w R := by
  refine slots_load_spec hS hps hw hf (by omega) fun best u hk hu hSu hb => ?_
  rw [hl] at hSu hb ⊢
  have hn := own_n hb
  exact h best u hk hu hSu (fun v hv => (hb.grow hv).rd (by rw [hn]; show p.length ≤ _; omega)) hn
theorem size_s_k : (1 : Nat) ≤ s_k.size ∧ s_k.size ≤ 30 := by decide
theorem s_a_eq : s_a = str [97] := by decide
theorem at_new (file : ByteArray) : AtS (fun _ => none) file (-1) 0 [] := .inl ⟨rfl, rfl, rfl, noneS_nil _⟩
theorem awake05_spec {w : World} {R : Bool → World → Prop} (h : ∀ w', Grow w w' → R true w') : Cpalletlaw05_awake w R := by
  refine Fpalletlaw05_awake.calls _ _ ?_
  refine world_new_spec fun pa D w1 hg1 hw1 hD1 => ?_
  refine slots_open_spec size_s_k fun ss w2 hss hg2 hS2 => br_f rfl ?_
  have s1 := hg1.size
  have s2 := hg2.size
  have lss := lt_of_heap hS2
  have nD : ¬ D ss := fun q => by have := hw1.lt q; omega
  refine bytes_at_rule (l := [97]) (by kernel_rfl) rfl (by decide) u_sl_uint8 u_uint8 fun w3 hg3 hsz3 hrd3 => ?_
  have hgw3 : Grow w w3 := (hg1.trans hg2).trans hg3
  have hw3 := (hw1.grow hg2).grow hg3
  have hS3 : IsSl w3 ss pa s_k false (-1) 0 := hg3.heap hS2 (fun q => q)
  refine slots_save_at (l := [97]) hS3 nD hw3 (fun c hc => by cases hc) size_s_k (by show (0 : Nat) < _; decide) (by show (0 : Nat) < _; decide) (by decide) (fun u hk => hrd3.keep hk fun a ha _ q => ?_) (at_new s_k) (fun q => by cases q) (by decide) fun w4 D4 st4 hk4 hw4 hwt4 ho4 hat4 _ _ _ hD4 nD4 hS4 => ?_
  · injection ha with ha
    subst ha
    rcases q with q | q
    · have : w2.heap.size < w1.heap.size := hw1.lt q
      omega
    · have q : w2.heap.size = ss := q; omega
  have s3 := hg3.size
  have hk04 : Grow w w4 := hgw3.keep hk4 fun i hi q => by
    rcases q with q | q
    · have := hD1 i q; omega
    · omega
  have ho4 : st4.ops ≤ 0 + 4 := ho4
  refine slots_load_at hS4 nD4 hw4 size_s_k (by omega) hat4.ld (by decide) fun best w5 hk5 hw5 hS5 hb5 hn5 => ?_
  have hk05 : Grow w w5 := hk04.keep hk5 fun i hi q => by
    rcases q with q | q
    · rcases hD4 i q with r | r
      · have := hD1 i r; omega
      · omega
    · omega
  refine ⟨str [97], fun _ => convStr_rule u_sl_uint8 u_uint8 u_string (hb5 w5 (Keep.refl _ _)), ?_⟩
  have e : sEq (str [97]) s_a = true := by rw [s_a_eq, sEq_str]; rfl
  rw [e]
  exact h w5 hk05
theorem slotsRecords_spec {gen : Nat} {p q : Sl} {ls qs : L8} {w : World} {R : Bool → World → Prop} (hg : gen < 18446744073709551616) (hp : Rd w 1 p (bv ls)) (hq : Rd w 1 q (bv qs)) (hqn : q.n ≤ 140737488351232) (h : ∀ w', Grow w w' → R true w') :
    Cpalletlaw05_SlotsRecords (gen : Int) p q w R := by
  refine Fpalletlaw05_SlotsRecords.calls _ _ _ _ _ ?_
  refine awake05_spec fun w0 hg0 => br_f rfl ?_
  have hln := rd_n hp
  refine slots_record_spec (hp.grow hg0) hg (fun hlong => br_dec (fun _ => h w0 hg0) (fun q => absurd (by omega) q)) fun hle a w1 hown1 hg1 hn1 => ?_
  refine br_dec (fun q => absurd q (by omega)) (fun _ => ?_)
  have hgw1 := hg0.trans hg1
  refine slots_decode_spec (hq.grow hgw1) fun x w2 hown2 hg2 => ?_
  have hgw2 := hgw1.trans hg2
  refine ref_decode_spec (hq.grow hgw2) fun y w3 hg3 hy => ?_
  rintro w4 rfl
  have hg34 : Grow w3 w3.drew := keep_drew w3
  have hdl : (decS qs).2.1.length ≤ 4096 := by
    unfold decS
    split
    · exact Nat.zero_le _
    · split
      · exact Nat.zero_le _
      · split
        · exact Nat.zero_le _
        · rename_i q _
          simp only [List.length_take]; omega
  have hxr : ∀ u, Grow w2 u → Rd u 1 x (bv (decS qs).2.1) := fun u hu => (hown2.grow hu).rd (by rw [own_n hown2]; omega)
  have har : ∀ u, Grow w1 u → Rd u 1 a (bv (recS gen ls)) := fun u hu => (hown1.grow hu).rd (by omega)
  refine ⟨fun u => Grow w3 u, hg34, str (recS gen ls), fun _ u hu => convStr_rule u_sl_uint8 u_uint8 u_string (har u ((hg2.trans hg3).trans hu)), ?_⟩
  refine ⟨fun _ => ?_, fun q => by cases q⟩
  have hgw4 := (hgw2.trans hg3).trans hg34
  refine ref_record_spec (hp.grow hgw4) hle fun b w5 hown5 hg5 => ?_
  have hg35 := hg34.trans hg5
  have hbr : ∀ u, Grow w5 u → Rd u 1 b (bv (recS gen ls)) := fun u hu => (hown5.grow hu).rd (by rw [own_n hown5, recS_len]; omega)
  refine ⟨hg35, fun u => Grow w5 u, Keep.refl _ _, fun u hu => hg35.trans hu, str (recS gen ls), fun _ u hu => convStr_rule u_sl_uint8 u_uint8 u_string (hbr u hu), fun u => Grow w5 u, Keep.refl _ _, fun u hu => hu,
    str (decS qs).2.1, fun _ u hu => convStr_rule u_sl_uint8 u_uint8 u_string (hxr u ((hg3.trans hg35).trans hu)), fun u => Grow w5 u, Keep.refl _ _, fun u hu => hu, str (decS qs).2.1,
    fun _ u hu => convStr_rule u_sl_uint8 u_uint8 u_string (hy u ((hg3.trans hg35).trans hu)), br_f ?_ ?_⟩
  · simp [sEq_str]
  have hgw5 := hgw4.trans hg5
  refine append_rule (s := ⟨none, 0, 0⟩) (vs := []) (base := w5.heap.size) u_sl_uint8 i_uint8 rfl (by decide) (by decide) (own_nil _ _ _ _) (har w5 (((hg2.trans hg3).trans hg34).trans hg5)) (bv_one' _) (by show (0 + a.n) * 1 ≤ _; omega) (Nat.le_refl _) fun c w6 hn6 hown6 hk6 _ => ?_
  rw [List.nil_append] at hown6
  have hg6 : Grow w5 w6 := hk6.mono fun i hi q => by cases q
  have hn6 : c.n = 0 + a.n := hn6
  refine append_wide_rule u_sl_uint8 i_uint8 rfl hown6 (hq.grow (hgw5.trans hg6)) (bv_one' _) (by omega) hg6.size fun d w7 hn7 hown7 hk7 => ?_
  rw [← bv_append] at hown7
  have hg7 := own_grow hg6 hown6 (Nat.le_refl _) hk7
  refine slots_decode_spec (hown7.rd (by omega)) fun e w8 hown8 hg8 => ?_
  rw [decS_rec hg hle] at hown8 ⊢
  refine ⟨_, fun _ => convStr_rule u_sl_uint8 u_uint8 u_string (hown8.rd (by rw [own_n hown8]; show ls.length ≤ _; omega)), _, fun _ => convStr_rule u_sl_uint8 u_uint8 u_string (hp.grow ((hgw5.trans hg7).trans hg8)), ?_⟩
  have := h w8 ((hgw5.trans hg7).trans hg8)
  simpa [sEq_str] using this
theorem int_u64 {n : Int} (h : (Lit.int .u64 n).wf = true) : ∃ a : Nat, n = a ∧ a < 18446744073709551616 := by
  simp [Lit.wf, IntKind.min, IntKind.max, IntKind.signed, IntKind.bits] at h
  exact ⟨n.toNat, by omega, by omega⟩
theorem slotsRecords_row {gen : Int} {p q : Sl} {ls qs : L8} {w : World} {R : Bool → World → Prop} (hg : (Lit.int .u64 gen).wf = true) (hp : Rd w 1 p (bv ls)) (hq : Rd w 1 q (bv qs)) (hqn : q.n ≤ 140737488351232) (h : ∀ w', Grow w w' → R true w') :
    Cpalletlaw05_SlotsRecords gen p q w R := by
  obtain ⟨g, rfl, hg2⟩ := int_u64 hg
  exact slotsRecords_spec hg2 hp hq hqn h
end Go.Proofs.Ytiokflecflbopaa
