import Derived.Lib.ConvBytes
import Derived.Shelf.Small.Wraps
import Derived.Shelf.Strconv.Itoa0
import Derived.Shelf.Strconv.Itoa1
import Derived.Shelf.LaysM
import Derived.Shelf.Strconv.Itoa2
import Derived.Shelf.Strconv.Itoa3
import Derived.Shelf.Strconv.Clone
import Derived.Shelf.Strconv.SyntaxError
import Derived.Shelf.LaysC
import Derived.Shelf.Strconv.ToError
import Derived.Shelf.Strconv.Lower
import Derived.Shelf.Strconv.ParseUint10
import Derived.Shelf.Strconv.ParseUint10Empty
import Derived.Shelf.Strconv.ParseUint10Any
import Derived.Shelf.Strconv.RangeError
import Derived.Shelf.Strconv.ToErrorRange
import Derived.Shelf.Strconv.ParseUintEmpty
import Derived.Shelf.Strconv.ParseUint10b64
import Derived.Shelf.Strconv.ParseUint10b32
import Derived.Shelf.Strconv.ParseUint10b16
import Derived.Shelf.Strconv.ParseUint10b8
import Derived.Shelf.Strconv.ParseUint10At
import Derived.Ground.MpProg
import Derived.Shelf.Pu.ParseUintPublic10
import Derived.Shelf.Pu.ErrVarParseUint
import Derived.Shelf.Strings.Search1
import Derived.Shelf.Strings.Search2
import Derived.Shelf.Strings.Search3
import Derived.Shelf.Strings.Shaped
import Derived.Shelf.Strings.Prefix
import Derived.Shelf.Unicode.Decode
import Derived.Shelf.Unicode.DecodeSlow
import Derived.Shelf.Unicode.DecodeAny
import Derived.Shelf.Slices.Turned
import Derived.Ground.Names2Prog
import Derived.Shelf.Slices.Clone
import Derived.Ground.SlgnProg
import Derived.Shelf.SlicesE.Clone
import Derived.Test.YtjfjanogfakclaaDoorProg
import Derived.Lib.ItoaMem
import Derived.Laws.IdiomStrings
import Derived.Test.YtjfjanogfakclaaDoorB3
/- Layer 4: what was written is read; lists of blocks that are alike. -/
namespace Go.Proofs.YtjfjanogfakclaaDoor
open Go CF

def cont (st : Wst) (file : ByteArray) : L8 := (st.seen file).getD []
theorem cont_step (st : Wst) (file : ByteArray) (o : Nat) (r : L8) : cont (stepW st file o r) file = wr (cont st file) o r := by
  simp [cont, stepW, applyWr, setF]
theorem layW_file {st : Wst} {file : ByteArray} {lba : Nat} {bs : List Bk} (hg : Good (cont st file)) : ∀ k, k ≤ bs.length → Good (cont (layW st file lba (rsOf bs) k) file) ∧
    ∀ j, blkAt (cont (layW st file lba (rsOf bs) k) file) j = if lba ≤ j ∧ j < lba + k then (bs[j - lba]?).getD emptyB else blkAt (cont st file) j
  | 0, _ => ⟨hg, fun j => by rw [if_neg (by omega)]; rfl⟩
  | k + 1, hk => by
    obtain ⟨h1, h2⟩ := layW_file (lba := lba) (bs := bs) hg k (by omega)
    have hr : rsOf bs k = recB (bs[k]'(by omega)) := by unfold rsOf; rw [List.getElem?_eq_getElem (by omega)]
    refine ⟨?_, fun j => ?_⟩
    · show Good (cont (stepW _ file _ _) file)
      rw [cont_step, hr]; exact good_rec h1 _ _
    · show blkAt (cont (stepW _ file _ _) file) j = _
      rw [cont_step, hr, blkAt_rec h1, h2]
      by_cases e : j = lba + k
      · subst e
        rw [if_pos rfl, if_pos (by omega), Nat.add_sub_cancel_left, List.getElem?_eq_getElem (by omega)]
        rfl
      · rw [if_neg e]
        by_cases q : lba ≤ j ∧ j < lba + k
        · rw [if_pos q, if_pos (by omega)]
        · rw [if_neg q, if_neg (by omega)]
theorem blkAt_nil (j : Nat) : blkAt [] j = emptyB := blkOf_not (by simp)
theorem flat_cut (bs : List Bk) (i m : Nat) : ((bs.flatMap bc).drop (i * 19)).take (m * 19) = ((bs.drop i).take m).flatMap bc := by
  have hd : ∀ (i : Nat) (l : List Bk), (l.flatMap bc).drop (i * 19) = (l.drop i).flatMap bc := by
    intro i
    induction i with
    | zero => intro l; simp
    | succ i ih =>
      intro l
      cases l with
      | nil => simp
      | cons b r =>
        rw [List.flatMap_cons, List.drop_succ_cons, ← ih r, List.drop_append, List.drop_of_length_le (by rw [bc_len]; omega), bc_len, List.nil_append]
        congr 1; omega
  have ht : ∀ (i : Nat) (l : List Bk), (l.flatMap bc).take (i * 19) = (l.take i).flatMap bc := by
    intro i
    induction i with
    | zero => intro l; simp
    | succ i ih =>
      intro l
      cases l with
      | nil => simp
      | cons b r =>
        rw [List.flatMap_cons, List.take_succ_cons, List.flatMap_cons, ← ih r, List.take_append, List.take_of_length_le (by rw [bc_len]; omega), bc_len]
        congr 2; omega
  rw [hd, ht]
theorem rd_bk_cut {w : World} {s : Sl} {bs : List Bk} (h : Rd w 19 s (bs.flatMap bc)) {l k : Nat} (hl : l ≤ k) (hk : k ≤ s.n) : Rd w 19 ⟨cutA s.A s.c l 19, k - l, s.c - l⟩ (((bs.drop l).take (k - l)).flatMap bc) := by
  have := h.cut hl hk
  rwa [flat_cut] at this
def bk7 : Bk := ⟨[0, 0, 0, 0, 0, 0, 0, 0, 0, 0, 0, 0, 0, 0, 0, 0], 0, 7, 0, rfl, by decide, by decide, by decide⟩
end Go.Proofs.YtjfjanogfakclaaDoor

/- Layer 4: blocks as arguments; the law of two pieces. -/
namespace Go.Proofs.YtjfjanogfakclaaDoor
open Go CF

section
variable {H : Type} {enc : TypeId × Value → H} {w : World} {base : Nat} {spare : Nat → Bool} {held : Bool}
theorem int_u8 {n : Int} (h : (Lit.int .u8 n).wf = true) : ∃ a : Nat, n = a ∧ a < 256 := by
  simp [Lit.wf, IntKind.min, IntKind.max, IntKind.signed, IntKind.bits] at h
  exact ⟨n.toNat, by omega, by omega⟩
theorem int_u16 {n : Int} (h : (Lit.int .u16 n).wf = true) : ∃ a : Nat, n = a ∧ a < 65536 := by
  simp [Lit.wf, IntKind.min, IntKind.max, IntKind.signed, IntKind.bits] at h
  exact ⟨n.toNat, by omega, by omega⟩
theorem int_u32 {n : Int} (h : (Lit.int .u32 n).wf = true) : ∃ a : Nat, n = a ∧ a < 4294967296 := by
  simp [Lit.wf, IntKind.min, IntKind.max, IntKind.signed, IntKind.bits] at h
  exact ⟨n.toNat, by omega, by omega⟩
theorem bytes_of : ∀ (n : Nat) (cs : List Value), FitL (List.replicate n (.i .u8)) cs → (∀ v ∈ cs, okV v) → ∃ l : L8, l.length = n ∧ cs = bv l
  | 0, [], _, _ => ⟨[], rfl, rfl⟩
  | n + 1, v :: cs, h, hv => by
    obtain ⟨h1, h2⟩ := h
    obtain ⟨l, hl, hc⟩ := bytes_of n cs h2 (fun u hu => hv u (by simp [hu]))
    have hv0 := hv v (by simp)
    obtain ⟨n0, rfl⟩ : ∃ n0 : Int, v = .int .u8 n0 := ⟨_, (Kd.mk_un h1).symm⟩
    obtain ⟨a, rfl, ha⟩ := int_u8 hv0
    refine ⟨UInt8.ofNat a :: l, by simp [hl], ?_⟩
    rw [hc]
    simp only [bv, List.map_cons, UInt8.toNat_ofNat']
    congr 2
    omega
  | n + 1, [], h, _ => h.elim
  | 0, _ :: _, h, _ => h.elim
end
theorem rdBl_of {st st' : Wst} {file : ByteArray} {a b n : Nat} (h : ∀ i, i < n → blkAt (cont st file) (a + i) = blkAt (cont st' file) (b + i)) : rdBl st file a n = rdBl st' file b n := by
  unfold rdBl
  apply List.map_congr_left
  intro i hi
  exact h i (List.mem_range.1 hi)
theorem rdBl_list {st : Wst} {file : ByteArray} {a n : Nat} {l : List Bk} (hn : l.length = n) (h : ∀ i (hi : i < l.length), blkAt (cont st file) (a + i) = l[i]) : rdBl st file a n = l := by
  unfold rdBl
  apply List.ext_getElem
  · simp [hn]
  · intro i h1 h2
    rw [List.getElem_map, List.getElem_range]
    exact h i h2
abbrev st0 : Wst := ⟨fun _ => none, fun _ => none, [], 0⟩
end Go.Proofs.YtjfjanogfakclaaDoor

/- Layer 3: what waits is done; how much waits. -/
namespace Go.Proofs.YtjfjanogfakclaaDoor
open Go CF

def apC (F : Files) (c : Cg) : Files := applyWr F c.name c.off c.p
def apAll (F : Files) (l : List Cg) : Files := l.foldl apC F
theorem apAll_snoc (F : Files) (l : List Cg) (c : Cg) : apAll F (l ++ [c]) = apC (apAll F l) c := by simp [apAll]
/-- all that waits is written within bounds -/
def Wok (st : Wst) : Prop := ∀ c ∈ st.waits, c.kind = 119 ∧ c.off + c.p.length ≤ 1048576
end Go.Proofs.YtjfjanogfakclaaDoor

/- Layer 4: writing with what is made durable; the law of caches. -/
namespace Go.Proofs.YtjfjanogfakclaaDoor
open Go CF

def synced (s : Wst) : Wst := ⟨s.seen, apAll s.dur s.waits, [], s.ops + 1⟩
def syncIf (y : Bool) (s : Wst) : Wst := if y then synced s else s
theorem syncIf_seen (y : Bool) (s : Wst) : (syncIf y s).seen = s.seen := by cases y <;> rfl
theorem syncIf_ops (y : Bool) (s : Wst) : (syncIf y s).ops ≤ s.ops + 1 := by
  cases y
  · exact Nat.le_succ _
  · exact Nat.le_refl _
theorem syncIf_waits (y : Bool) (s : Wst) : (syncIf y s).waits = if y then [] else s.waits := by cases y <;> rfl
theorem syncIf_ok {y : Bool} {s : Wst} (h : Wok s) : Wok (syncIf y s) := by
  cases y
  · exact h
  · exact fun c hc => by cases hc
theorem layW_ok {st : Wst} {file : ByteArray} {lba : Nat} {rs : Nat → L8} (h : Wok st) (hlen : ∀ i, (rs i).length ≤ 25) : ∀ k, lba + k ≤ 4096 → Wok (layW st file lba rs k)
  | 0, _ => h
  | k + 1, hb => by
    intro c hc
    have ih := layW_ok (lba := lba) (file := file) h hlen k (by omega)
    rcases List.mem_append.1 hc with q | q
    · exact ih c q
    · rw [List.mem_singleton.1 q]
      refine ⟨rfl, ?_⟩
      have := hlen k
      show 25 * (lba + k) + (rs k).length ≤ _
      omega
/-- does a write end with a sync? -/
def syncs (n : Nat) (fua cache : Bool) : Bool := decide (0 < n) && (fua || !cache)
theorem wok0 : Wok st0 := fun c hc => by cases hc
end Go.Proofs.YtjfjanogfakclaaDoor

/- Layer 4: unmapping; an array of blocks as a variable. -/
namespace Go.Proofs.YtjfjanogfakclaaDoor
open Go CF

theorem layW_zero {st : Wst} {file : ByteArray} {lba : Nat} (hg : Good (cont st file)) : ∀ k, Good (cont (layW st file lba (fun _ => [0]) k) file) ∧
    ∀ j, blkAt (cont (layW st file lba (fun _ => [0]) k) file) j = if lba ≤ j ∧ j < lba + k then emptyB else blkAt (cont st file) j
  | 0 => ⟨hg, fun j => by rw [if_neg (by omega)]; rfl⟩
  | k + 1 => by
    obtain ⟨h1, h2⟩ := layW_zero (lba := lba) hg k
    refine ⟨?_, fun j => ?_⟩
    · show Good (cont (stepW _ file _ _) file)
      rw [cont_step]; exact good_zero h1 _
    · show blkAt (cont (stepW _ file _ _) file) j = _
      rw [cont_step, blkAt_zero h1, h2]
      by_cases e : j = lba + k
      · subst e
        rw [if_pos rfl, if_pos (by omega)]
      · rw [if_neg e]
        by_cases q : lba ≤ j ∧ j < lba + k
        · rw [if_pos q, if_pos (by omega)]
        · rw [if_neg q, if_neg (by omega)]
end Go.Proofs.YtjfjanogfakclaaDoor

/- Layer 4: a script of writes and unmappings. -/
namespace Go.Proofs.YtjfjanogfakclaaDoor
open Go CF

/-- an entry of a script -/
structure Act4 where
  kind : Nat
  a : Int
  n : Int
  l : Sl
  bs : List Bk
  on : Bool
def ac (x : Act4) : List Value := [.int .u8 (x.kind : Int), .int .i64 x.a, .int .i64 x.n, .slice x.l.A x.l.n x.l.c, .bool x.on]
theorem ac_len (x : Act4) : (ac x).length = 5 := rfl
theorem eqAt (bs : List Bk) (F : Nat) (xs : List Bk) (j : Nat) : (xs.length + F ≤ bs.length) → True := fun _ => trivial
/-- the array behind a write of a list from a place on -/
def setAll (bs : List Bk) (F : Nat) (xs : List Bk) : Nat → List Bk
  | 0 => bs
  | k + 1 => (setAll bs F xs k).set (F + k) ((xs[k]?).getD emptyB)
theorem setAll_len (bs : List Bk) (F : Nat) (xs : List Bk) : ∀ k, (setAll bs F xs k).length = bs.length
  | 0 => rfl
  | k + 1 => by simp [setAll, setAll_len bs F xs k]
theorem setAll_get (bs : List Bk) (F : Nat) (xs : List Bk) : ∀ k, F + k ≤ bs.length → ∀ j, j < bs.length → (setAll bs F xs k)[j]? = if F ≤ j ∧ j < F + k then some ((xs[j - F]?).getD emptyB) else bs[j]?
  | 0, _, j, _ => by rw [if_neg (by omega)]; rfl
  | k + 1, hk, j, hj => by
    have ih := setAll_get bs F xs k (by omega) j hj
    simp only [setAll]
    rw [List.getElem?_set, setAll_len]
    by_cases e : F + k = j
    · subst e
      rw [if_pos rfl, if_pos (by omega), if_pos (by omega), Nat.add_sub_cancel_left]
    · rw [if_neg e, ih]
      by_cases q : F ≤ j ∧ j < F + k
      · rw [if_pos q, if_pos (by omega)]
      · rw [if_neg q, if_neg (by omega)]
/-- a file tells these blocks -/
def Tells (st : Wst) (file : ByteArray) (bs : List Bk) : Prop := Good (cont st file) ∧ ∀ j, j < bs.length → some (blkAt (cont st file) j) = bs[j]?
theorem cont_syncIf (y : Bool) (s : Wst) (file : ByteArray) : cont (syncIf y s) file = cont s file := by
  unfold cont; rw [syncIf_seen]
theorem tells_write {st : Wst} {file : ByteArray} {bs xs : List Bk} {F : Nat} {y : Bool} (h : Tells st file bs) (hF : F + xs.length ≤ bs.length) :
    Tells (syncIf y (layW st file F (rsOf xs) xs.length)) file (setAll bs F xs xs.length) := by
  obtain ⟨h1, h2⟩ := layW_file (lba := F) (bs := xs) h.1 xs.length (Nat.le_refl _)
  refine ⟨by rw [cont_syncIf]; exact h1, fun j hj => ?_⟩
  rw [setAll_len] at hj
  rw [cont_syncIf, h2, setAll_get _ _ _ _ hF _ hj]
  split
  · rfl
  · exact h.2 j hj
theorem tells_write_k {st : Wst} {file : ByteArray} {bs xs : List Bk} {F k o : Nat} (h : Tells st file bs) (hF : F + xs.length ≤ bs.length) (hk : k ≤ xs.length) :
    Tells { layW st file F (rsOf xs) k with ops := o } file (setAll bs F xs k) := by
  obtain ⟨h1, h2⟩ := layW_file (lba := F) (bs := xs) h.1 k hk
  refine ⟨h1, fun j hj => ?_⟩
  rw [setAll_len] at hj
  show some (blkAt (cont (layW st file F (rsOf xs) k) file) j) = _
  rw [h2, setAll_get _ _ _ _ (by omega) _ hj]
  split
  · rfl
  · exact h.2 j hj
theorem tells_unmap {st : Wst} {file : ByteArray} {bs : List Bk} {F n : Nat} {y : Bool} (h : Tells st file bs) (hF : F + n ≤ bs.length) :
    Tells (syncIf y (layW st file F (fun _ => [0]) n)) file (setAll bs F [] n) := by
  obtain ⟨h1, h2⟩ := layW_zero (lba := F) h.1 n
  refine ⟨by rw [cont_syncIf]; exact h1, fun j hj => ?_⟩
  rw [setAll_len] at hj
  rw [cont_syncIf, h2, setAll_get _ _ _ _ hF _ hj]
  split
  · simp
  · exact h.2 j hj
theorem tells_empty (n : Nat) (file : ByteArray) : Tells st0 file (List.replicate n emptyB) := by
  refine ⟨good_nil, fun j hj => ?_⟩
  rw [List.length_replicate] at hj
  rw [List.getElem?_replicate, if_pos hj]
  show some (blkAt [] j) = _
  rw [blkAt_nil]
theorem tells_read {st : Wst} {file : ByteArray} {bs : List Bk} (h : Tells st file bs) : rdBl st file 0 bs.length = bs :=
  rdBl_list rfl fun i hi => by
    have := h.2 i hi
    rw [List.getElem?_eq_getElem hi] at this
    rw [Nat.zero_add]
    exact Option.some.inj this
end Go.Proofs.YtjfjanogfakclaaDoor

/- Layers 2 and 13: the guard of bytes, blocks as they go over the wire. -/
namespace Go.Proofs.YtjfjanogfakclaaDoor
open Go CF

def gG (s : Nat) : Nat := if s / 32768 = 1 then (2 * s % 65536) ^^^ 0x8bb7 else 2 * s % 65536
def gGs : Nat → Nat → Nat
  | 0, s => s
  | k + 1, s => gG (gGs k s)
def gB (s : Nat) (b : UInt8) : Nat := gGs 8 (s ^^^ b.toNat * 256)
def c16 (l : L8) : Nat := l.foldl gB 0
theorem xor_lt16 {a b : Nat} (ha : a < 65536) (hb : b < 65536) : a ^^^ b < 65536 := Nat.xor_lt_two_pow (n := 16) ha hb
theorem gG_lt {s : Nat} (h : s < 65536) : gG s < 65536 := by
  unfold gG
  split
  · exact xor_lt16 (Nat.mod_lt _ (by decide)) (by decide)
  · exact Nat.mod_lt _ (by decide)
theorem gGs_lt {s : Nat} (h : s < 65536) : ∀ k, gGs k s < 65536
  | 0 => h
  | k + 1 => gG_lt (gGs_lt h k)
theorem gB_lt {s : Nat} (h : s < 65536) (b : UInt8) : gB s b < 65536 := gGs_lt (xor_lt16 h (by have := b.toNat_lt; omega)) 8
theorem c16f_lt {l : L8} : ∀ {s : Nat}, s < 65536 → l.foldl gB s < 65536 := by
  induction l with
  | nil => intro s h; exact h
  | cons b r ih => intro s h; exact ih (gB_lt h b)
theorem c16_lt (l : L8) : c16 l < 65536 := c16f_lt (by decide)
theorem xor_odd {a : Nat} (h : a % 2 = 0) : (a ^^^ 0x8bb7) % 2 = 1 := by rw [xor_mod2, h]; decide
theorem gG_inj {a b : Nat} (ha : a < 65536) (hb : b < 65536) (h : gG a = gG b) : a = b := by
  unfold gG at h
  split at h <;> split at h
  · have : 2 * a % 65536 = 2 * b % 65536 := by
      have := congrArg (· ^^^ 0x8bb7) h
      simpa [Nat.xor_assoc] using this
    omega
  · have := xor_odd (a := 2 * a % 65536) (by omega)
    rw [h] at this
    omega
  · have := xor_odd (a := 2 * b % 65536) (by omega)
    rw [← h] at this
    omega
  · omega
theorem gGs_inj {a b : Nat} (ha : a < 65536) (hb : b < 65536) : ∀ k, gGs k a = gGs k b → a = b
  | 0, h => h
  | k + 1, h => gGs_inj ha hb k (gG_inj (gGs_lt ha k) (gGs_lt hb k) h)
theorem gB_inj {a b : Nat} {x : UInt8} (ha : a < 65536) (hb : b < 65536) (h : gB a x = gB b x) : a = b := by
  have hx := x.toNat_lt
  have := gGs_inj (xor_lt16 ha (by omega)) (xor_lt16 hb (by omega)) 8 h
  have := congrArg (· ^^^ x.toNat * 256) this
  simpa [Nat.xor_assoc] using this
theorem gB_ne {a : Nat} {x y : UInt8} (ha : a < 65536) (h : x ≠ y) : gB a x ≠ gB a y := by
  intro q
  have hx := x.toNat_lt
  have hy := y.toNat_lt
  have := gGs_inj (xor_lt16 ha (by omega)) (xor_lt16 ha (by omega)) 8 q
  have := congrArg (a ^^^ ·) this
  simp only [← Nat.xor_assoc, Nat.xor_self, Nat.zero_xor] at this
  exact h (UInt8.toNat_inj.1 (by omega))
theorem c16f_inj {l : L8} : ∀ {a b : Nat}, a < 65536 → b < 65536 → l.foldl gB a = l.foldl gB b → a = b := by
  induction l with
  | nil => intro a b _ _ h; exact h
  | cons x r ih => intro a b ha hb h; exact gB_inj ha hb (ih (gB_lt ha x) (gB_lt hb x) h)
/-- one byte turned turns the guard -/
theorem c16_turn {p q : L8} {x y : UInt8} (h : x ≠ y) : c16 (p ++ x :: q) ≠ c16 (p ++ y :: q) := by
  intro e
  unfold c16 at e
  rw [List.foldl_append, List.foldl_append] at e
  have hs : p.foldl gB 0 < 65536 := c16f_lt (by decide)
  exact gB_ne hs h (c16f_inj (gB_lt hs x) (gB_lt hs y) e)
theorem c16_snoc (l : L8) (b : UInt8) : c16 (l ++ [b]) = gB (c16 l) b := by simp [c16, List.foldl_append]
/-! ### the model's words -/
theorem wu16' (n : Nat) : IntKind.wrap .u16 (n : Int) = ((n % 65536 : Nat) : Int) := by
  have e : IntKind.wrap .u16 (n : Int) = (n : Int) % 65536 := by simp [IntKind.wrap, IntKind.signed, IntKind.bits]
  rw [e]; omega
theorem xor16 {a b : Nat} (ha : a < 65536) (hb : b < 65536) : bXor .u16 (a : Int) (b : Int) = ((a ^^^ b : Nat) : Int) := by
  unfold bXor
  show IntKind.wrap .u16 (((BitVec.ofInt 16 (a : Int) ^^^ BitVec.ofInt 16 (b : Int)).toNat : Nat) : Int) = _
  rw [BitVec.ofInt_natCast, BitVec.ofInt_natCast, BitVec.toNat_xor, BitVec.toNat_ofNat, BitVec.toNat_ofNat, Nat.mod_eq_of_lt (by omega), Nat.mod_eq_of_lt (by omega)]
  have := xor_lt16 ha hb
  exact wu16 (by omega) (by omega)
theorem shl16_8 {b : Nat} (h : b < 256) : bShl .u16 (b : Int) 8 = ((b * 256 : Nat) : Int) := by
  unfold bShl
  have e : (min 8 (IntKind.bits .u16)) = 8 := by decide
  rw [e, show (b : Int) * 2 ^ 8 = ((b * 256 : Nat) : Int) by omega]
  exact wu16 (by omega) (by omega)
theorem shl16_1 {s : Nat} : bShl .u16 (s : Int) 1 = ((2 * s % 65536 : Nat) : Int) := by
  unfold bShl
  have e : (min 1 (IntKind.bits .u16)) = 1 := by decide
  rw [e, show (s : Int) * 2 ^ 1 = ((2 * s : Nat) : Int) by omega, wu16']
/-! ### tuples, looks -/
def mkR (kind lba : Nat) : Nat := if kind = 1 ∨ kind = 2 then lba % 4294967296 else 0
theorem mkR_lt (kind lba : Nat) : mkR kind lba < 4294967296 := by unfold mkR; split <;> omega
/-- a block of data, protected -/
def mkB (kind lba : Nat) (d : L8) (h : d.length = 16) : Bk := ⟨d, c16 d, 0, mkR kind lba, h, c16_lt d, by decide, mkR_lt kind lba⟩
def escB (kind : Nat) (b : Bk) : Bool := decide (b.a = 65535) && (decide (kind ≠ 3) || decide (b.r = 4294967295))
def chkB (kind prot lba : Nat) (b : Bk) : Nat :=
  if kind = 0 ∨ 3 < kind ∨ prot = 3 ∨ 4 < prot ∨ escB kind b = true then 0
  else if prot ≠ 2 ∧ b.g ≠ c16 b.d then 0x1001
  else if prot ≠ 4 ∧ kind ≠ 3 ∧ b.r ≠ lba % 4294967296 then 0x1003 else 0
def knownB (kind prot : Nat) : Bool := decide (kind ≤ 3) && (decide (prot = 0) || (decide (0 < kind) && decide (prot ≤ 4)))
/-! ### over the wire -/
def tupB (b : Bk) : L8 := be2 b.g ++ be2 b.a ++ be4 b.r
def wireB (wt : Bool) (b : Bk) : L8 := b.d ++ if wt then tupB b else []
def packB (wt : Bool) (l : List Bk) : L8 := l.flatMap (wireB wt)
def szB (wt : Bool) : Nat := if wt then 24 else 16
theorem wireB_len (wt : Bool) (b : Bk) : (wireB wt b).length = szB wt := by
  cases wt
  · simp [wireB, szB, b.hd]
  · simp [wireB, szB, tupB, be2, be4, b.hd]
theorem packB_len (wt : Bool) (l : List Bk) : (packB wt l).length = l.length * szB wt := by
  unfold packB
  induction l with
  | nil => simp
  | cons a r ih => rw [List.flatMap_cons, List.length_append, ih, wireB_len, List.length_cons, Nat.succ_mul, Nat.add_comm]
def pad16 (l : L8) : L8 := (l ++ List.replicate 16 0).take 16
theorem pad16_len (l : L8) : (pad16 l).length = 16 := by simp [pad16]
theorem pad16_eq {l : L8} (h : l.length = 16) : pad16 l = l := by
  unfold pad16; rw [List.take_append_of_le_length (by omega), List.take_of_length_le (by omega)]
theorem num_take (l : L8) (k : Nat) : num (l.take k) < 256 ^ k :=
  Nat.lt_of_lt_of_le (num_lt _) (Nat.pow_le_pow_right (by decide) (by rw [List.length_take]; omega))
/-- the block that some bytes are -/
def unB (wt : Bool) (l : L8) : Bk :=
  if wt then ⟨pad16 l, num ((l.drop 16).take 2), num ((l.drop 18).take 2), num ((l.drop 20).take 4), pad16_len l, num_take _ 2, num_take _ 2, num_take _ 4⟩
  else ⟨pad16 l, 0, 0, 0, pad16_len l, by decide, by decide, by decide⟩
def unpB (wt : Bool) (l : L8) : List Bk := (List.range (l.length / szB wt)).map fun i => unB wt ((l.drop (i * szB wt)).take (szB wt))
theorem unpB_len (wt : Bool) (l : L8) : (unpB wt l).length = l.length / szB wt := by simp [unpB]
theorem unpB_at {wt : Bool} {l : L8} {i : Nat} (h : i < (unpB wt l).length) : (unpB wt l)[i] = unB wt ((l.drop (i * szB wt)).take (szB wt)) := by simp [unpB]
theorem num_two {a b : UInt8} : num [a, b] = a.toNat * 256 + b.toNat := by simp [num]
theorem unB_wire (b : Bk) : unB true (wireB true b) = b := by
  have hd := b.hd
  have e : wireB true b = b.d ++ (be2 b.g ++ (be2 b.a ++ be4 b.r)) := by simp [wireB, tupB]
  have d16 : (wireB true b).drop 16 = be2 b.g ++ (be2 b.a ++ be4 b.r) := by rw [e, ← hd, List.drop_left]
  have d18 : (wireB true b).drop 18 = be2 b.a ++ be4 b.r := by
    have : (wireB true b).drop 18 = ((wireB true b).drop 16).drop 2 := by rw [List.drop_drop]
    rw [this, d16]; rfl
  have d20 : (wireB true b).drop 20 = be4 b.r := by
    have : (wireB true b).drop 20 = ((wireB true b).drop 18).drop 2 := by rw [List.drop_drop]
    rw [this, d18]; rfl
  unfold unB
  rw [if_pos rfl]
  apply bk_ext
  · show pad16 (wireB true b) = b.d
    unfold pad16
    rw [e, List.append_assoc, List.take_append_of_le_length (by omega), List.take_of_length_le (by omega)]
  · show num (((wireB true b).drop 16).take 2) = b.g
    rw [d16]; exact num_be2 b.hg
  · show num (((wireB true b).drop 18).take 2) = b.a
    rw [d18]; exact num_be2 b.ha
  · show num (((wireB true b).drop 20).take 4) = b.r
    rw [d20]; exact num_be4 b.hr
theorem unB_wire0 (b : Bk) : (unB false (wireB false b)).d = b.d := by
  unfold unB wireB
  show pad16 (b.d ++ []) = b.d
  rw [List.append_nil, pad16_eq b.hd]
end Go.Proofs.YtjfjanogfakclaaDoor

/- Layers 2 and 13: the walks of the guard, of tuples and of blocks over the wire. -/
namespace Go.Proofs.YtjfjanogfakclaaDoor
open Go CF

theorem c16_br {s : Nat} (hs : s < 65536) {X Y : Prop} (h1 : s / 32768 = 1 → X) (h0 : ¬ s / 32768 = 1 → Y) : Br ((bShr .u16 (s : Int) 15) == 1) X Y := by
  rw [shr .u16 s 15 (by decide)]
  exact br_eq (fun q => h1 (by have : (2 : Nat) ^ 15 = 32768 := rfl; omega)) (fun q => h0 (by have : (2 : Nat) ^ 15 = 32768 := rfl; omega))
def tc (g a r : Nat) : List Value := [.int .u16 (g : Int), .int .u16 (a : Int), .int .u32 (r : Int)]
theorem bc_tail (b : Bk) : (bc b).drop 16 = tc b.g b.a b.r := by
  unfold bc
  rw [List.drop_append, List.drop_of_length_le (by rw [bv_length, b.hd]; omega), bv_length, b.hd]; rfl
theorem bc_head (b : Bk) : (bc b).take 16 = bv b.d := by
  unfold bc
  rw [List.take_append_of_le_length (by rw [bv_length, b.hd]; omega), List.take_of_length_le (by rw [bv_length, b.hd]; omega)]
theorem cells_tail {w : World} {a : Addr} {b : Bk} (h : Cells w a (bc b)) : Cells w (a.add 16) (tc b.g b.a b.r) := fun j v hj => by
  rw [addr_add]
  refine h (16 + j) v ?_
  rw [← bc_tail, List.getElem?_drop] at hj
  exact hj
theorem cells_head {w : World} {a : Addr} {b : Bk} (h : Cells w a (bc b)) : Cells w (a.add 0) (bv b.d) := fun j v hj => by
  rw [addr_zero]
  refine h j v ?_
  rw [← bc_head, List.getElem?_take] at hj
  split at hj
  · exact hj
  · cases hj
theorem dLoad {w : World} {a : Addr} {d : L8} (hd : d.length = 16) (h : Cells w a (bv d)) : (loadVar t_16_uint8 a).run Tryd.prog w = .ok (.agg (bv d).toArray) w :=
  loadVar_rule g_16_uint8 i_16_uint8 (by rw [bv_length, hd]) h
end Go.Proofs.YtjfjanogfakclaaDoor

/- What a command brings: a sense, a result. -/
namespace Go.Proofs.YtjfjanogfakclaaDoor
open Go CF

/-- a sense -/
structure Sn where
  key : Nat
  code : Nat
  info : Nat
  hi : Bool
  field : Int
  bit : Int
  hf : Bool
  ic : Bool
def sn0 : Sn := ⟨0, 0, 0, false, 0, 0, false, false⟩
def snv (s : Sn) : List Value := [.int .u8 (s.key : Int), .int .u16 (s.code : Int), .int .u64 (s.info : Int), .bool s.hi, .int .i64 s.field, .int .i64 s.bit, .bool s.hf, .bool s.ic]
def badS (code : Nat) : Sn := ⟨5, code, 0, false, 0, 0, false, false⟩
def badF (field : Nat) : Sn := ⟨5, 0x2600, 0, false, (field : Int), -1, true, false⟩
def atS (key code info : Nat) : Sn := ⟨key, code, info, true, 0, 0, false, false⟩
/-- a result: status, sense, data -/
def rsv (st : Nat) (s : Sn) (d : Sl) : List Value := [.int .u8 (st : Int)] ++ snv s ++ [.slice d.A d.n d.c]
abbrev nilS : Sl := ⟨none, 0, 0⟩
theorem rsv_len (st : Nat) (s : Sn) (d : Sl) : (rsv st s d).length = 10 := rfl
theorem rsv_ones (st : Nat) (s : Sn) (d : Sl) : (rsv st s d).toArray.all (·.oneCell') = true := by simp [rsv, snv, Value.oneCell']
theorem grow_new {w u v : World} {a : Nat} (hg : Grow w u) (ha : w.heap.size ≤ a) (hk : Keep (fun k => k = a) u v) : Grow w v := hg.keep hk fun i hi q => by omega
end Go.Proofs.YtjfjanogfakclaaDoor

/- Layer 13: blocks packed and unpacked. -/
namespace Go.Proofs.YtjfjanogfakclaaDoor
open Go CF

def zeroBk : Bk := ⟨[0, 0, 0, 0, 0, 0, 0, 0, 0, 0, 0, 0, 0, 0, 0, 0], 0, 0, 0, rfl, by decide, by decide, by decide⟩
theorem own_n' {w : World} {base : Nat} {e : TypeId} {s : Sl} {l : L8} (h : Own w base e 1 s (bv l)) : s.n = l.length := by have := h.len; rw [bv_length] at this; omega
theorem rd_n' {w : World} {s : Sl} {l : L8} (h : Rd w 1 s (bv l)) : l.length = s.n := by have := h.len; rw [bv_length] at this; omega
theorem own_grow' {w u u' : World} {base : Nat} {e : TypeId} {z : Nat} {s : Sl} {vs : List Value} (hg : Grow w u) (ho : Own u base e z s vs) (hb : w.heap.size ≤ base) (hk : Keep (fun k => some k = s.blk) u u') : Grow w u' :=
  hg.keep hk fun i hi q => by have := (ho.ge i q.symm).1; omega
theorem wire_cells (b : Bk) : bv (wireB false b) = bv b.d := by simp [wireB]
theorem packB_succ (wt : Bool) {bs : List Bk} {j : Nat} (h : j < bs.length) : packB wt (bs.take (j + 1)) = packB wt (bs.take j) ++ wireB wt bs[j] := by
  unfold packB
  rw [List.take_succ_eq_append_getElem h, List.flatMap_append]
  simp
theorem or16 {a b : Nat} (ha : a < 256) (hb : b < 256) : bOr .u16 (bShl .u16 (IntKind.wrap .u16 (a : Int)) 8) (IntKind.wrap .u16 (b : Int)) = ((a * 256 + b : Nat) : Int) := by
  rw [wu16 (n := (a : Int)) (by omega) (by omega), wu16 (n := (b : Int)) (by omega) (by omega), shl16_8 ha]
  unfold bOr
  show IntKind.wrap .u16 (((BitVec.ofInt 16 ((a * 256 : Nat) : Int) ||| BitVec.ofInt 16 (b : Int)).toNat : Nat) : Int) = _
  rw [BitVec.ofInt_natCast, BitVec.ofInt_natCast, BitVec.toNat_or, BitVec.toNat_ofNat, BitVec.toNat_ofNat, Nat.mod_eq_of_lt (by omega), Nat.mod_eq_of_lt (by omega)]
  have e : a * 256 ||| b = a * 256 + b := by
    have := Nat.shiftLeft_add_eq_or_of_lt (i := 8) (b := b) (by omega) a
    rw [Nat.shiftLeft_eq] at this
    exact this.symm
  rw [e]
  exact wu16 (by omega) (by omega)
theorem or32 {x y m : Nat} (hm : ∃ k, m = 2 ^ k) (hx : ∃ a, x = a * m) (hy : y < m) (hs : x + y < 4294967296) : bOr .u32 (x : Int) (y : Int) = ((x + y : Nat) : Int) := by
  obtain ⟨k, rfl⟩ := hm
  obtain ⟨a, rfl⟩ := hx
  unfold bOr
  show IntKind.wrap .u32 (((BitVec.ofInt 32 ((a * 2 ^ k : Nat) : Int) ||| BitVec.ofInt 32 (y : Int)).toNat : Nat) : Int) = _
  rw [BitVec.ofInt_natCast, BitVec.ofInt_natCast, BitVec.toNat_or, BitVec.toNat_ofNat, BitVec.toNat_ofNat, Nat.mod_eq_of_lt (by omega), Nat.mod_eq_of_lt (by omega)]
  have e : a * 2 ^ k ||| y = a * 2 ^ k + y := by
    have := Nat.shiftLeft_add_eq_or_of_lt (i := k) (b := y) hy a
    rw [Nat.shiftLeft_eq] at this
    exact this.symm
  rw [e]
  exact wu32 (by omega) (by omega)
theorem shl32 {a k m : Nat} (hm : m = 2 ^ k) (hk : k ≤ 32) (h : a * m < 4294967296) : bShl .u32 (a : Int) k = ((a * m : Nat) : Int) := by
  subst hm
  unfold bShl
  have e : (min k (IntKind.bits .u32)) = k := Nat.min_eq_left hk
  have e2 : (a : Int) * 2 ^ k = ((a * 2 ^ k : Nat) : Int) := by norm_cast
  rw [e, e2]
  exact wu32 (by omega) (by omega)
theorem be32 {a b c d : Nat} (ha : a < 256) (hb : b < 256) (hc : c < 256) (hd : d < 256) :
    bOr .u32 (bOr .u32 (bOr .u32 (bShl .u32 (IntKind.wrap .u32 (a : Int)) 24) (bShl .u32 (IntKind.wrap .u32 (b : Int)) 16)) (bShl .u32 (IntKind.wrap .u32 (c : Int)) 8)) (IntKind.wrap .u32 (d : Int)) = ((a * 16777216 + b * 65536 + c * 256 + d : Nat) : Int) := by
  rw [wu32 (n := (a : Int)) (by omega) (by omega), wu32 (n := (b : Int)) (by omega) (by omega), wu32 (n := (c : Int)) (by omega) (by omega), wu32 (n := (d : Int)) (by omega) (by omega)]
  rw [shl32 (a := a) (k := 24) (m := 16777216) rfl (by decide) (by omega), shl32 (a := b) (k := 16) (m := 65536) rfl (by decide) (by omega), shl32 (a := c) (k := 8) (m := 256) rfl (by decide) (by omega)]
  rw [or32 (m := 16777216) ⟨24, rfl⟩ ⟨a, rfl⟩ (by omega) (by omega), or32 (m := 65536) ⟨16, rfl⟩ ⟨a * 256 + b, by omega⟩ (by omega) (by omega), or32 (m := 256) ⟨8, rfl⟩ ⟨a * 65536 + b * 256 + c, by omega⟩ (by omega) (by omega)]
theorem num_4 {a b c d : UInt8} : num [a, b, c, d] = a.toNat * 16777216 + b.toNat * 65536 + c.toNat * 256 + d.toNat := by simp [num]; omega
theorem unB_false (l : L8) (h : 16 ≤ l.length) : bc (unB false l) = bv (l.take 16) ++ tc 0 0 0 := by
  have e : pad16 l = l.take 16 := by unfold pad16; rw [List.take_append_of_le_length h]
  show bv (pad16 l) ++ tc 0 0 0 = _
  rw [e]
theorem unB_true (l : L8) (h : 16 ≤ l.length) : bc (unB true l) = bv (l.take 16) ++ tc (num ((l.drop 16).take 2)) (num ((l.drop 18).take 2)) (num ((l.drop 20).take 4)) := by
  have e : pad16 l = l.take 16 := by unfold pad16; rw [List.take_append_of_le_length h]
  show bv (pad16 l) ++ tc (num ((l.drop 16).take 2)) (num ((l.drop 18).take 2)) (num ((l.drop 20).take 4)) = _
  rw [e]
theorem unB_take {wt : Bool} {l : L8} : unB wt (l.take (szB wt)) = unB wt l := by
  cases wt with
  | false =>
    unfold unB szB
    have e : pad16 (l.take 16) = pad16 l := by
      unfold pad16
      rcases Nat.le_total 16 l.length with q | q
      · rw [List.take_append_of_le_length (by rw [List.length_take]; omega), List.take_take, List.take_append_of_le_length q]; rfl
      · rw [List.take_of_length_le q]
    simp only [Bool.false_eq_true, if_false, e]
  | true =>
    unfold unB szB
    have e : pad16 (l.take 24) = pad16 l := by
      unfold pad16
      rcases Nat.le_total 24 l.length with q | q
      · rw [List.take_append_of_le_length (by rw [List.length_take]; omega), List.take_take, List.take_append_of_le_length (by omega)]; rfl
      · rw [List.take_of_length_le q]
    have f : ∀ d n, d + n ≤ 24 → ((l.take 24).drop d).take n = (l.drop d).take n := fun d n h => by
      rw [List.drop_take, List.take_take, Nat.min_eq_left (by omega)]
    simp only [if_true, e, f 16 2 (by decide), f 18 2 (by decide), f 20 4 (by decide)]
theorem unpB_nil (wt : Bool) {l : L8} (h : l.length = 0) : unpB wt l = [] := by unfold unpB; rw [h]; simp
end Go.Proofs.YtjfjanogfakclaaDoor

/- Rows of bytes of one's own that grow; the bytes of a string. -/
namespace Go.Proofs.YtjfjanogfakclaaDoor
open Go CF

theorem conv_bytes_rule {P : Program} {w : World} {src dst e : TypeId} {l : L8} (hs : P.underlying src = some .string) (hd : P.underlying dst = some (.slice e)) (he : P.underlying e = some (.int .u8)) (hl : l.length ≤ 140737489403904)
    {K : Sl → World → Prop} (h : ∀ s w', Grow w w' → Rd w' 1 s (bv l) → s.n = l.length → K s w') : RunK P .sl (convert src dst (.string (str l))) w K := by
  have hsz : (str l).size = l.length := size_str l
  refine ⟨⟨some ⟨w.heap.size, 0, none⟩, (str l).size, grownCap w (str l).size 0 e⟩, _, Go.Lib.run_convert_string_bytes w src dst e (str l) hs hd he, ?_⟩
  refine h _ _ ⟨rfl, rfl, rfl, by rw [Go.Lib.bytesWorld_size]; omega, fun k hk _ => Go.Lib.bytesWorld_at_old w e (str l) k hk⟩ ⟨by rw [bv_length]; show l.length = (str l).size * 1; omega, ?_, by show (str l).size ≤ _; omega, fun _ => ⟨_, rfl, fun j v hj => ?_⟩⟩ hsz
  · show (str l).size ≤ grownCap w (str l).size 0 e
    exact grownCap_ge w (str l).size 0 e
  · have hjl : j < l.length := by rw [← bv_length]; exact (List.getElem?_eq_some_iff.1 hj).1
    rw [bv_get l j hjl] at hj
    rw [add0, Nat.zero_add, Go.Lib.bytesWorld_cell w e (str l) j (by omega), ← hj]
    congr 3
    simp [str, hjl]
/-- a row of bytes that began behind w0 -/
structure Row (w0 u : World) (p : Sl) (l : L8) : Prop where
  own : Own u w0.heap.size t_uint8 1 p (bv l)
  grow : Grow w0 u
section
variable {w0 u u' : World} {p : Sl} {os : L8}
theorem Row.n (h : Row w0 u p os) : p.n = os.length := own_n' h.own
theorem Row.nil (h : Grow w0 u) : Row w0 u nilS [] := ⟨own_nil _ _ _ _, h⟩
theorem Row.step {p' : Sl} {os' : L8} (h : Row w0 u p os) (hown : Own u' w0.heap.size t_uint8 1 p' (bv os')) (hk : Keep (fun k => some k = p.blk) u u') : Row w0 u' p' os' := ⟨hown, own_grow' h.grow h.own (Nat.le_refl _) hk⟩
theorem Row.go (h : Row w0 u p os) (g : Grow u u') : Row w0 u' p os := ⟨h.own.grow g, h.grow.trans g⟩
theorem Row.keep {S : Nat → Prop} (h : Row w0 u p os) (k : Keep S u u') (hs : ∀ b, p.blk = some b → ¬ S b) (hg : ∀ i, i < w0.heap.size → ¬ S i) : Row w0 u' p os := ⟨h.own.keep k hs, h.grow.keep k hg⟩
/-- a block of another type is none of the row's -/
theorem Row.ne (h : Row w0 u p os) {b : Nat} {cs : Array Value} {t : TypeId} (hb : Blk u b cs t) (ht : t ≠ t_uint8) : some b ≠ p.blk := fun q => by
  obtain ⟨cur, hc⟩ := own_heap h.own q.symm
  exact ht (blk_type hb hc)
theorem Row.blk (h : Row w0 u p os) (hk : Keep (fun k => some k = p.blk) u u') {b : Nat} {cs : Array Value} {t : TypeId} (hb : Blk u b cs t) (ht : t ≠ t_uint8) : Blk u' b cs t := hk.heap hb (h.ne hb ht)
theorem Row.rd (h : Row w0 u p os) (hl : os.length ≤ 140737488355328) : Rd u 1 p (bv os) := h.own.rd (by have := h.n; omega)
theorem Row.app (h : Row w0 u p os) {x : Sl} {l : L8} (hx : Rd u 1 x (bv l)) (hb : os.length + l.length ≤ 140737488355328) {ty : TypeId} {K : Sl → World → Prop} (hK : ∀ p' u', Row w0 u' p' (os ++ l) → Keep (fun k => some k = p.blk) u u' → K p' u') :
    RunK Tryd.prog .sl (Builtin.append_ #[t_sl_uint8, t_sl_uint8] ty #[.slice p.A p.n p.c, .slice x.A x.n x.c]) u K := by
  have hxn := rd_n' hx
  have hpn := h.n
  refine append_rule u_sl_uint8 i_uint8 rfl (by decide) (by decide) h.own hx (bv_one' _) (by omega) h.grow.size fun s' w' hn hown hk _ => hK s' w' (h.step ?_ hk) hk
  rw [bv_append]; exact hown
theorem Row.str (h : Row w0 u p os) {l : L8} (hb : os.length + l.length ≤ 140737488355328) {ty : TypeId} {K : Sl → World → Prop} (hK : ∀ p' u', Row w0 u' p' (os ++ l) → Keep (fun k => some k = p.blk) u u' → K p' u') :
    RunK Tryd.prog .sl (Builtin.append_ #[t_sl_uint8, t_string] ty #[.slice p.A p.n p.c, .string (CF.str l)]) u K := by
  have hpn := h.n
  exact append_str_rule u_sl_uint8 u_string i_uint8 h.own (by omega) h.grow.size fun o' w' _ hown hk _ => hK o' w' (h.step hown hk) hk
theorem Row.lit (h : Row w0 u p os) {n : Nat} {parts : Array (Nat × Value)} {l : L8} {t ty : TypeId} (hr : (Instr.buildSlice t n parts).run Tryd.prog u = .ok (.slice (some ⟨u.heap.size, 0, none⟩) n n) (u.alloc (.cells (bv l).toArray t_uint8))) (hn : n = l.length)
    (hb : os.length + l.length ≤ 140737488355328) {K : Sl → World → Prop} (hK : ∀ p' u', Row w0 u' p' (os ++ l) → Keep (fun k => some k = p.blk) u u' → K p' u') :
    RunK Tryd.prog .sl (Instr.buildSlice t n parts) u fun xs u1 => RunK Tryd.prog .sl (Builtin.append_ #[t_sl_uint8, t_sl_uint8] ty #[.slice p.A p.n p.c, .slice xs.A xs.n xs.c]) u1 K := by
  refine lit_rule (cells := (bv l).toArray) (e := t_uint8) (z := 1) (base := 0) hr (by simp [bv, hn]) (by omega) (Nat.zero_le _) fun u1 hown1 hg1 _ => ?_
  have hx : Rd u1 1 ⟨some ⟨u.heap.size, 0, none⟩, n, n⟩ (bv l) := hown1.rd (by show n ≤ _; omega)
  refine (h.go hg1).app hx hb fun p' u' hr' hk => hK p' u' hr' ⟨hk.os.trans hg1.os, hk.tape.trans hg1.tape, hk.output.trans hg1.output, Nat.le_trans hg1.size hk.size, fun k hlt hne => (hk.block k (by have := hg1.size; omega) hne).trans (hg1.block k hlt (fun q => q))⟩
theorem Row.start {n : Nat} {parts : Array (Nat × Value)} {l : L8} {t : TypeId} (hr : (Instr.buildSlice t n parts).run Tryd.prog u = .ok (.slice (some ⟨u.heap.size, 0, none⟩) n n) (u.alloc (.cells (bv l).toArray t_uint8))) (hn : n = l.length) (hb : l.length ≤ 140737488355328)
    {K : Sl → World → Prop} (hK : ∀ p' u', Row u u' p' l → K p' u') : RunK Tryd.prog .sl (Instr.buildSlice t n parts) u K :=
  lit_rule (cells := (bv l).toArray) (e := t_uint8) (z := 1) (base := u.heap.size) hr (by simp [bv, hn]) (by omega) (Nat.le_refl _) fun u1 hown1 hg1 _ => hK _ u1 ⟨hown1, hg1⟩
theorem keep_grow_first {S : Nat → Prop} {a b c : World} (g : Grow a b) (k : Keep S b c) : Keep S a c := Keep.trans (g.mono fun _ _ q => q.elim) k fun _ _ q => q
/-- elements of slices of one cell each -/
theorem rd_val {w : World} {s : Sl} {vs : List Value} (h : Rd w 1 s vs) {i : Nat} (hi : i < vs.length) : s.A.isSome = true ∧ w.cell? ((gA s.A).add (i * 1)) = some vs[i] := by
  have hne : vs ≠ [] := fun q => by rw [q] at hi; simp at hi
  obtain ⟨a, ha, hc⟩ := h.at_ hne
  rw [ha]
  exact ⟨rfl, by rw [Nat.mul_one]; exact hc i _ (List.getElem?_eq_getElem hi)⟩
/-- elements that are structs -/
theorem rd_str {α : Type} {f : α → List Value} {z : Nat} {w : World} {s : Sl} {xs : List α} (hf : ∀ a, (f a).length = z) (hz : 0 < z) (h : Rd w z s (xs.flatMap f)) {i : Nat} (hi : i < xs.length) : s.A.isSome = true ∧ Cells w ((gA s.A).add (i * z)) (f xs[i]) := by
  have hn : s.n = xs.length := by have := h.len; rw [flat_length hf] at this; exact (Nat.eq_of_mul_eq_mul_right hz this).symm
  obtain ⟨a, ha, hc⟩ := h.elem (i := i) (by omega) hz
  rw [flat_elem hf hi] at hc
  rw [ha]
  exact ⟨rfl, hc⟩
theorem rd_as {α : Type} {f : α → List Value} {z : Nat} {w : World} {s : Sl} {xs : List α} (hf : ∀ a, (f a).length = z) (hz : 0 < z) (h : Rd w z s (xs.flatMap f)) : xs.length = s.n := by
  have := h.len; rw [flat_length hf] at this; exact Nat.eq_of_mul_eq_mul_right hz this
end
end Go.Proofs.YtjfjanogfakclaaDoor

/-
  DERIVED: THE SHELF's CONTRACTS AT THIS DUMP, IN PLAIN WORDS (tools/lay-plain.mjs out of 'TrydShelf.lean', which tools/lay-shelf.mjs wrote): THE SAME DECLARATIONS UNDER THE SAME NAMES: 'import', 'namespace', 'open', 'def', 'theorem' AND NOTHING ELSE: no command of the shelf's: FOR A HAND-IN. Each laying: the table of numbers ('.._ren') and one theorem, a field a fact of the dump's own or the kernel's comparison; each contract: ONE APPLICATION.
-/
namespace Go.Proofs
open Go.Shelf
def Tryd.lays210_ren : Go.Shelf.Ren := ⟨fun | 210 => 65 | 206 => 78 | n => n, fun | 9 => 9 | 4 => 4 | 3 => 3 | n => n, fun | n => n⟩
theorem Tryd.lays210 : Go.Proofs.Lays.n210 Tryd.prog Tryd.lays210_ren := {
  mixed := by kernel_rfl
  f206 := Tryd.func78.trans (congrArg some (by kernel_rfl))
  f210 := Tryd.func65.trans (congrArg some (by kernel_rfl))
  t3 := Tryd.underlying3
  a3 := Tryd.isAgg3
  z3 := Tryd.sizeOf3
  v3 := Tryd.zeroValue3
  t4 := Tryd.underlying4
  a4 := Tryd.isAgg4
  z4 := Tryd.sizeOf4
  v4 := Tryd.zeroValue4
  t9 := Tryd.underlying9
  a9 := Tryd.isAgg9
  z9 := Tryd.sizeOf9
  v9 := Tryd.zeroValue9 }
open Go.RowKit in
/-- internal/stringslite.CutPrefix (what strings.CutPrefix calls). (LAID: no walk: one application.) -/
theorem Tryd.stringslite_CutPrefix (s p : ByteArray) (w : World) :
    Calls Tryd.prog 65 #[.string s, .string p] w fun e w' => e = .returned (.tuple #[.string ⟨(Lib.trimPrefix s.data.toList p.data.toList).toArray⟩, .bool (Lib.hasPrefix s.data.toList p.data.toList)]) ∧ w' = w := Any.stringslite_CutPrefix Tryd.lays210 s p w
def Tryd.lays103_ren : Go.Shelf.Ren := ⟨fun | 103 => 53 | 210 => 65 | 206 => 78 | n => n, fun | 9 => 9 | 4 => 4 | 24 => 49 | 3 => 3 | n => n, fun | n => n⟩
theorem Tryd.lays103 : Go.Proofs.Lays.n103 Tryd.prog Tryd.lays103_ren := {
  mixed := by kernel_rfl
  f103 := Tryd.func53.trans (congrArg some (by kernel_rfl))
  f206 := Tryd.func78.trans (congrArg some (by kernel_rfl))
  f210 := Tryd.func65.trans (congrArg some (by kernel_rfl))
  t3 := Tryd.underlying3
  a3 := Tryd.isAgg3
  z3 := Tryd.sizeOf3
  v3 := Tryd.zeroValue3
  t4 := Tryd.underlying4
  a4 := Tryd.isAgg4
  z4 := Tryd.sizeOf4
  v4 := Tryd.zeroValue4
  t9 := Tryd.underlying9
  a9 := Tryd.isAgg9
  z9 := Tryd.sizeOf9
  v9 := Tryd.zeroValue9
  t24 := Tryd.underlying49
  a24 := Tryd.isAgg49
  z24 := Tryd.sizeOf49
  v24 := Tryd.zeroValue49 }
open Go.RowKit in
/-- strings.CutPrefix: "CutPrefix returns s without the provided leading prefix string and reports whether it found the prefix. If s doesn't start with prefix, CutPrefix returns s, false. If prefix is the empty string, CutPrefix returns s, true.": IT RETURNS '(Lib.trimPrefix s p, Lib.hasPrefix s p)'; the world is as it was. (LAID: no walk: one application.) -/
theorem Tryd.strings_CutPrefix (s p : ByteArray) (w : World) :
    Calls Tryd.prog 53 #[.string s, .string p] w fun e w' => e = .returned (.tuple #[.string ⟨(Lib.trimPrefix s.data.toList p.data.toList).toArray⟩, .bool (Lib.hasPrefix s.data.toList p.data.toList)]) ∧ w' = w := Any.strings_CutPrefix Tryd.lays103 s p w
def Tryd.lays129_ren : Go.Shelf.Ren := ⟨fun | 129 => 71 | n => n, fun | 53 => 51 | 3 => 3 | 4 => 4 | 46 => 87 | 5 => 5 | 9 => 9 | n => n, fun | n => n⟩
theorem Tryd.lays129 : Go.Proofs.Lays.n129 Tryd.prog Tryd.lays129_ren := {
  mixed := by kernel_rfl
  f129 := Tryd.func71.trans (congrArg some (by kernel_rfl))
  t3 := Tryd.underlying3
  a3 := Tryd.isAgg3
  z3 := Tryd.sizeOf3
  v3 := Tryd.zeroValue3
  t4 := Tryd.underlying4
  a4 := Tryd.isAgg4
  z4 := Tryd.sizeOf4
  v4 := Tryd.zeroValue4
  t5 := Tryd.underlying5
  a5 := Tryd.isAgg5
  z5 := Tryd.sizeOf5
  v5 := Tryd.zeroValue5
  t9 := Tryd.underlying9
  a9 := Tryd.isAgg9
  z9 := Tryd.sizeOf9
  v9 := Tryd.zeroValue9
  t46 := Tryd.underlying87
  a46 := Tryd.isAgg87
  z46 := Tryd.sizeOf87
  v46 := Tryd.zeroValue87
  t53 := Tryd.underlying51
  a53 := Tryd.isAgg51
  z53 := Tryd.sizeOf51
  v53 := Tryd.zeroValue51 }
/-- bits.Len64: "Len64 returns the minimum number of bits required to represent x; the result is 0 for x == 0.": IT RETURNS 'Lib.bitLen x'; the world is as it was. ('h0', 'h1': x is a uint64.) (LAID: no walk: one application.) -/
theorem Tryd.bits_Len64 (x : Int) (w : World) (h0 : 0 ≤ x) (h1 : x ≤ 18446744073709551615) :
    Calls Tryd.prog 71 #[.int .u64 x] w fun e w' => e = .returned (.int .i64 (Lib.bitLen x.toNat)) ∧ w' = w := Any.bits_Len64 Tryd.lays129 x w h0 h1
def Tryd.lays317_ren : Go.Shelf.Ren := ⟨fun | 317 => 70 | n => n, fun | 3 => 3 | 46 => 87 | n => n, fun | n => n⟩
theorem Tryd.lays317 : Go.Proofs.Lays.n317 Tryd.prog Tryd.lays317_ren := {
  mixed := by kernel_rfl
  f317 := Tryd.func70.trans (congrArg some (by kernel_rfl))
  t3 := Tryd.underlying3
  a3 := Tryd.isAgg3
  z3 := Tryd.sizeOf3
  v3 := Tryd.zeroValue3
  t46 := Tryd.underlying87
  a46 := Tryd.isAgg87
  z46 := Tryd.sizeOf87
  v46 := Tryd.zeroValue87 }
open Go.Lib in
/-- internal/strconv.log10Pow2: "log10Pow2(x) returns ⌊log₁₀ 2**x⌋ = ⌊x * log₁₀ 2⌋.": '(x * 78913) >> 18', at an x up to 64 (a length in bits). The world is as it was. (LAID: no walk: one application.) -/
theorem Tryd.internal_strconv_log10Pow2 (x : Nat) (h : x ≤ 64) (w : World) :
    Calls Tryd.prog 70 #[.int .i64 x] w fun e w' => e = .returned (.int .i64 (Lib.l10 x)) ∧ w' = w := Any.internal_strconv_log10Pow2 Tryd.lays317 x h w
def Tryd.lays318_ren : Go.Shelf.Ren := ⟨fun | 318 => 72 | n => n, fun | 3 => 3 | 4 => 4 | n => n, fun | n => n⟩
theorem Tryd.lays318 : Go.Proofs.Lays.n318 Tryd.prog Tryd.lays318_ren := {
  mixed := by kernel_rfl
  f318 := Tryd.func72.trans (congrArg some (by kernel_rfl))
  t3 := Tryd.underlying3
  a3 := Tryd.isAgg3
  z3 := Tryd.sizeOf3
  v3 := Tryd.zeroValue3
  t4 := Tryd.underlying4
  a4 := Tryd.isAgg4
  z4 := Tryd.sizeOf4
  v4 := Tryd.zeroValue4 }
open Go.Lib in
/-- internal/strconv.bool2: "bool2 converts b to an integer: 1 for true, 0 for false." The world is as it was. (LAID: no walk: one application.) -/
theorem Tryd.internal_strconv_bool2_int (b : Bool) (w : World) :
    Calls Tryd.prog 72 #[.bool b] w fun e w' => e = .returned (.int .i64 (if b then 1 else 0)) ∧ w' = w := Any.internal_strconv_bool2_int Tryd.lays318 b w
def Tryd.lays283_ren : Go.Shelf.Ren := ⟨fun | 283 => 60 | n => n, fun | 3 => 3 | 9 => 9 | 4 => 4 | n => n, fun | n => n⟩
theorem Tryd.lays283 : Go.Proofs.Lays.n283 Tryd.prog Tryd.lays283_ren := {
  mixed := by kernel_rfl
  f283 := Tryd.func60.trans (congrArg some (by kernel_rfl))
  t3 := Tryd.underlying3
  a3 := Tryd.isAgg3
  z3 := Tryd.sizeOf3
  v3 := Tryd.zeroValue3
  t4 := Tryd.underlying4
  a4 := Tryd.isAgg4
  z4 := Tryd.sizeOf4
  v4 := Tryd.zeroValue4
  t9 := Tryd.underlying9
  a9 := Tryd.isAgg9
  z9 := Tryd.sizeOf9
  v9 := Tryd.zeroValue9 }
open Go.Lib in
/-- internal/strconv.small: "small returns the string for an i with 0 <= i < nSmalls.": i's decimal numeral. The world is as it was. (LAID: no walk: one application.) -/
theorem Tryd.internal_strconv_small (i : Nat) (h : i < 100) (w : World) :
    Calls Tryd.prog 60 #[.int .i64 i] w fun e w' => e = .returned (.string ⟨(Lib.decDigits i).toArray⟩) ∧ w' = w := Any.internal_strconv_small Tryd.lays283 i h w
def Tryd.laysM284_ren : Go.Shelf.Ren := ⟨fun | 284 => 61 | 129 => 71 | 317 => 70 | 318 => 72 | n => n, fun | 53 => 51 | 3 => 3 | 212 => 117 | 0 => 0 | 4 => 4 | 46 => 87 | 5 => 5 | 9 => 9 | n => n, fun | 17 => 0 | n => n⟩
theorem Tryd.laysM284 : Go.Proofs.LaysM.n284 Tryd.prog Tryd.laysM284_ren := {
  mixed := by kernel_rfl
  f129 := Tryd.func71.trans (congrArg some (by kernel_rfl))
  f284 := Tryd.func61.trans (congrArg some (by kernel_rfl))
  f317 := Tryd.func70.trans (congrArg some (by kernel_rfl))
  f318 := Tryd.func72.trans (congrArg some (by kernel_rfl))
  t0 := Tryd.underlying0
  a0 := Tryd.isAgg0
  z0 := Tryd.sizeOf0
  v0 := Tryd.zeroValue0
  t3 := Tryd.underlying3
  a3 := Tryd.isAgg3
  z3 := Tryd.sizeOf3
  v3 := Tryd.zeroValue3
  t4 := Tryd.underlying4
  a4 := Tryd.isAgg4
  z4 := Tryd.sizeOf4
  v4 := Tryd.zeroValue4
  t5 := Tryd.underlying5
  a5 := Tryd.isAgg5
  z5 := Tryd.sizeOf5
  v5 := Tryd.zeroValue5
  t9 := Tryd.underlying9
  a9 := Tryd.isAgg9
  z9 := Tryd.sizeOf9
  v9 := Tryd.zeroValue9
  t46 := Tryd.underlying87
  a46 := Tryd.isAgg87
  z46 := Tryd.sizeOf87
  v46 := Tryd.zeroValue87
  t53 := Tryd.underlying51
  a53 := Tryd.isAgg51
  z53 := Tryd.sizeOf51
  v53 := Tryd.zeroValue51
  t212 := Tryd.underlying117
  a212 := Tryd.isAgg117
  z212 := Tryd.sizeOf117
  v212 := Tryd.zeroValue117
  g17 := by kernel_rfl
  i0 := by kernel_rfl
  i3 := by kernel_rfl
  i4 := by kernel_rfl
  i5 := by kernel_rfl
  i9 := by kernel_rfl
  i46 := by kernel_rfl
  i53 := by kernel_rfl
  i212 := by kernel_rfl
  m17 := by kernel_rfl }
open Go.Lib in
/-- internal/strconv.numDigits, at a d that is not 0: THE NUMBER OF d's DECIMAL DIGITS. The world is as it was. (LAID: no walk: one application.) -/
theorem Tryd.internal_strconv_numDigits (u : Nat) (h1 : 1 ≤ u) (h2 : u < 18446744073709551616) (w : World) (htab : Lib.TabIs Tryd.prog w "internal/strconv.uint64pow10" .u64 Lib.pow10Tab) :
    Calls Tryd.prog 61 #[.int .u64 u] w fun e w' => e = .returned (.int .i64 (Lib.nDigits u)) ∧ w' = w := Any.internal_strconv_numDigits Tryd.laysM284 u h1 h2 w htab
def Tryd.lays285_ren : Go.Shelf.Ren := ⟨fun | 285 => 62 | n => n, fun | 37 => 23 | 53 => 51 | 3 => 3 | 4 => 4 | 51 => 72 | 9 => 9 | 5 => 5 | 0 => 0 | n => n, fun | n => n⟩
theorem Tryd.lays285 : Go.Proofs.Lays.n285 Tryd.prog Tryd.lays285_ren := {
  mixed := by kernel_rfl
  f285 := Tryd.func62.trans (congrArg some (by kernel_rfl))
  t0 := Tryd.underlying0
  a0 := Tryd.isAgg0
  z0 := Tryd.sizeOf0
  v0 := Tryd.zeroValue0
  t3 := Tryd.underlying3
  a3 := Tryd.isAgg3
  z3 := Tryd.sizeOf3
  v3 := Tryd.zeroValue3
  t4 := Tryd.underlying4
  a4 := Tryd.isAgg4
  z4 := Tryd.sizeOf4
  v4 := Tryd.zeroValue4
  t5 := Tryd.underlying5
  a5 := Tryd.isAgg5
  z5 := Tryd.sizeOf5
  v5 := Tryd.zeroValue5
  t9 := Tryd.underlying9
  a9 := Tryd.isAgg9
  z9 := Tryd.sizeOf9
  v9 := Tryd.zeroValue9
  t37 := Tryd.underlying23
  a37 := Tryd.isAgg23
  z37 := Tryd.sizeOf23
  v37 := Tryd.zeroValue23
  t51 := Tryd.underlying72
  a51 := Tryd.isAgg72
  z51 := Tryd.sizeOf72
  v51 := Tryd.zeroValue72
  t53 := Tryd.underlying51
  a53 := Tryd.isAgg51
  z53 := Tryd.sizeOf51
  v53 := Tryd.zeroValue51 }
open Go.RowKit Go.Sort Go.Lib in
/-- internal/strconv.formatBase10: "formatBase10 formats the decimal representation of u into a. The caller is responsible for ensuring that a is big enough to hold u. If a is too big, leading zeros will be filled in as needed.": THE ROW HOLDS u's DIGITS ('FmtInv .. 0 ..': every place t holds 'dg u (len - 1 - t)'); all else is as it was but for the count of draws. (LAID: no walk: one application.) -/
theorem Tryd.internal_strconv_formatBase10 (blk off cap : Nat) (u : Nat) (d : Array UInt8) (w : World) (hH : Holds (fun (b : UInt8) => Value.int .u8 (b.toNat : Int)) w blk off d) (hu : u < 10 ^ d.size) (hu64 : u < 18446744073709551616) (hsz : d.size < 4611686018427387904) :
    Calls Tryd.prog 62 #[.slice (some ⟨blk, off, none⟩) d.size cap, .int .u64 u] w fun e w' =>
      e = .returned (.tuple #[]) ∧ ∃ (n v' : Nat) (dk : Array UInt8), w' = (putRow (fun (b : UInt8) => Value.int .u8 (b.toNat : Int)) w blk off dk).drewN n ∧ FmtInv d.size u 0 v' dk := Any.internal_strconv_formatBase10 Tryd.lays285 blk off cap u d w hH hu hu64 hsz
def Tryd.laysM246_ren : Go.Shelf.Ren := ⟨fun | 246 => 50 | 283 => 60 | 284 => 61 | 285 => 62 | 286 => 63 | 129 => 71 | 317 => 70 | 318 => 72 | 319 => 73 | 320 => 74 | 337 => 85 | 338 => 86 | n => n, fun | 2 => 2 | 3 => 3 | 9 => 9 | 4 => 4 | 171 => 104 | 0 => 0 | 53 => 51 | 37 => 23 | 5 => 5 | 173 => 107 | 212 => 117 | 51 => 72 | 20 => 20 | 213 => 118 | 46 => 87 | 232 => 141 | 233 => 142 | n => n, fun | 17 => 0 | 18 => 4 | 19 => 5 | n => n⟩
theorem Tryd.laysM246 : Go.Proofs.LaysM.n246 Tryd.prog Tryd.laysM246_ren := {
  mixed := by kernel_rfl
  f129 := Tryd.func71.trans (congrArg some (by kernel_rfl))
  f246 := Tryd.func50.trans (congrArg some (by kernel_rfl))
  f283 := Tryd.func60.trans (congrArg some (by kernel_rfl))
  f284 := Tryd.func61.trans (congrArg some (by kernel_rfl))
  f285 := Tryd.func62.trans (congrArg some (by kernel_rfl))
  f286 := Tryd.func63.trans (congrArg some (by kernel_rfl))
  f317 := Tryd.func70.trans (congrArg some (by kernel_rfl))
  f318 := Tryd.func72.trans (congrArg some (by kernel_rfl))
  f319 := Tryd.func73.trans (congrArg some (by kernel_rfl))
  f320 := Tryd.func74.trans (congrArg some (by kernel_rfl))
  f337 := Tryd.func85.trans (congrArg some (by kernel_rfl))
  f338 := Tryd.func86.trans (congrArg some (by kernel_rfl))
  t0 := Tryd.underlying0
  a0 := Tryd.isAgg0
  z0 := Tryd.sizeOf0
  v0 := Tryd.zeroValue0
  t2 := Tryd.underlying2
  a2 := Tryd.isAgg2
  z2 := Tryd.sizeOf2
  v2 := Tryd.zeroValue2
  t3 := Tryd.underlying3
  a3 := Tryd.isAgg3
  z3 := Tryd.sizeOf3
  v3 := Tryd.zeroValue3
  t4 := Tryd.underlying4
  a4 := Tryd.isAgg4
  z4 := Tryd.sizeOf4
  v4 := Tryd.zeroValue4
  t5 := Tryd.underlying5
  a5 := Tryd.isAgg5
  z5 := Tryd.sizeOf5
  v5 := Tryd.zeroValue5
  t9 := Tryd.underlying9
  a9 := Tryd.isAgg9
  z9 := Tryd.sizeOf9
  v9 := Tryd.zeroValue9
  t20 := Tryd.underlying20
  a20 := Tryd.isAgg20
  z20 := Tryd.sizeOf20
  v20 := Tryd.zeroValue20
  t37 := Tryd.underlying23
  a37 := Tryd.isAgg23
  z37 := Tryd.sizeOf23
  v37 := Tryd.zeroValue23
  t46 := Tryd.underlying87
  a46 := Tryd.isAgg87
  z46 := Tryd.sizeOf87
  v46 := Tryd.zeroValue87
  t51 := Tryd.underlying72
  a51 := Tryd.isAgg72
  z51 := Tryd.sizeOf72
  v51 := Tryd.zeroValue72
  t53 := Tryd.underlying51
  a53 := Tryd.isAgg51
  z53 := Tryd.sizeOf51
  v53 := Tryd.zeroValue51
  t171 := Tryd.underlying104
  a171 := Tryd.isAgg104
  z171 := Tryd.sizeOf104
  v171 := Tryd.zeroValue104
  t173 := Tryd.underlying107
  a173 := Tryd.isAgg107
  z173 := Tryd.sizeOf107
  v173 := Tryd.zeroValue107
  t212 := Tryd.underlying117
  a212 := Tryd.isAgg117
  z212 := Tryd.sizeOf117
  v212 := Tryd.zeroValue117
  t213 := Tryd.underlying118
  a213 := Tryd.isAgg118
  z213 := Tryd.sizeOf118
  t232 := Tryd.underlying141
  a232 := Tryd.isAgg141
  z232 := Tryd.sizeOf141
  v232 := Tryd.zeroValue141
  t233 := Tryd.underlying142
  a233 := Tryd.isAgg142
  z233 := Tryd.sizeOf142
  v233 := Tryd.zeroValue142
  g17 := by kernel_rfl
  g18 := by kernel_rfl
  g19 := by kernel_rfl
  i0 := by kernel_rfl
  i2 := by kernel_rfl
  i3 := by kernel_rfl
  i4 := by kernel_rfl
  i5 := by kernel_rfl
  i9 := by kernel_rfl
  i20 := by kernel_rfl
  i37 := by kernel_rfl
  i46 := by kernel_rfl
  i51 := by kernel_rfl
  i53 := by kernel_rfl
  i171 := by kernel_rfl
  i173 := by kernel_rfl
  i212 := by kernel_rfl
  i232 := by kernel_rfl
  i233 := by kernel_rfl
  m17 := by kernel_rfl
  m18 := by kernel_rfl
  m19 := by kernel_rfl }
open Go.RowKit Go.Sort Go.Lib in
/-- internal/strconv.FormatInt: "FormatInt returns the string representation of i in the given base": AT BASE 10: i's decimal numeral, for every int64. The world behind the call: the world before it, new blocks behind the heap, draws. (LAID: no walk: one application.) -/
theorem Tryd.internal_strconv_FormatInt_10 (n : Int) (h0 : -9223372036854775808 ≤ n) (h1 : n ≤ 9223372036854775807) (w : World) (htab : Lib.TabIs Tryd.prog w "internal/strconv.uint64pow10" .u64 Lib.pow10Tab) :
    Calls Tryd.prog 50 #[.int .i64 n, .int .i64 10] w fun e w' => e = .returned (.string ⟨(Lib.itoa n).toArray⟩) ∧ ∃ k os, w' = grow (w.drewN k) os := Any.internal_strconv_FormatInt_10 Tryd.laysM246 n h0 h1 w htab
def Tryd.lays246_ren : Go.Shelf.Ren := ⟨fun | 246 => 50 | 283 => 60 | 284 => 61 | 285 => 62 | 286 => 63 | 129 => 71 | 317 => 70 | 318 => 72 | 319 => 73 | 320 => 74 | 337 => 85 | 338 => 86 | n => n, fun | 2 => 2 | 3 => 3 | 9 => 9 | 4 => 4 | 171 => 104 | 0 => 0 | 53 => 51 | 37 => 23 | 5 => 5 | 173 => 107 | 212 => 117 | 51 => 72 | 20 => 20 | 213 => 118 | 46 => 87 | 232 => 141 | 233 => 142 | n => n, fun | 17 => 0 | 18 => 4 | 19 => 5 | n => n⟩
theorem Tryd.lays246 : Go.Proofs.Lays.n246 Tryd.prog Tryd.lays246_ren := {
  mixed := by kernel_rfl
  f129 := Tryd.func71.trans (congrArg some (by kernel_rfl))
  f246 := Tryd.func50.trans (congrArg some (by kernel_rfl))
  f283 := Tryd.func60.trans (congrArg some (by kernel_rfl))
  f284 := Tryd.func61.trans (congrArg some (by kernel_rfl))
  f285 := Tryd.func62.trans (congrArg some (by kernel_rfl))
  f286 := Tryd.func63.trans (congrArg some (by kernel_rfl))
  f317 := Tryd.func70.trans (congrArg some (by kernel_rfl))
  f318 := Tryd.func72.trans (congrArg some (by kernel_rfl))
  f319 := Tryd.func73.trans (congrArg some (by kernel_rfl))
  f320 := Tryd.func74.trans (congrArg some (by kernel_rfl))
  f337 := Tryd.func85.trans (congrArg some (by kernel_rfl))
  f338 := Tryd.func86.trans (congrArg some (by kernel_rfl))
  t0 := Tryd.underlying0
  a0 := Tryd.isAgg0
  z0 := Tryd.sizeOf0
  v0 := Tryd.zeroValue0
  t2 := Tryd.underlying2
  a2 := Tryd.isAgg2
  z2 := Tryd.sizeOf2
  v2 := Tryd.zeroValue2
  t3 := Tryd.underlying3
  a3 := Tryd.isAgg3
  z3 := Tryd.sizeOf3
  v3 := Tryd.zeroValue3
  t4 := Tryd.underlying4
  a4 := Tryd.isAgg4
  z4 := Tryd.sizeOf4
  v4 := Tryd.zeroValue4
  t5 := Tryd.underlying5
  a5 := Tryd.isAgg5
  z5 := Tryd.sizeOf5
  v5 := Tryd.zeroValue5
  t9 := Tryd.underlying9
  a9 := Tryd.isAgg9
  z9 := Tryd.sizeOf9
  v9 := Tryd.zeroValue9
  t20 := Tryd.underlying20
  a20 := Tryd.isAgg20
  z20 := Tryd.sizeOf20
  v20 := Tryd.zeroValue20
  t37 := Tryd.underlying23
  a37 := Tryd.isAgg23
  z37 := Tryd.sizeOf23
  v37 := Tryd.zeroValue23
  t46 := Tryd.underlying87
  a46 := Tryd.isAgg87
  z46 := Tryd.sizeOf87
  v46 := Tryd.zeroValue87
  t51 := Tryd.underlying72
  a51 := Tryd.isAgg72
  z51 := Tryd.sizeOf72
  v51 := Tryd.zeroValue72
  t53 := Tryd.underlying51
  a53 := Tryd.isAgg51
  z53 := Tryd.sizeOf51
  v53 := Tryd.zeroValue51
  t171 := Tryd.underlying104
  a171 := Tryd.isAgg104
  z171 := Tryd.sizeOf104
  v171 := Tryd.zeroValue104
  t173 := Tryd.underlying107
  a173 := Tryd.isAgg107
  z173 := Tryd.sizeOf107
  v173 := Tryd.zeroValue107
  t212 := Tryd.underlying117
  a212 := Tryd.isAgg117
  z212 := Tryd.sizeOf117
  v212 := Tryd.zeroValue117
  t213 := Tryd.underlying118
  a213 := Tryd.isAgg118
  z213 := Tryd.sizeOf118
  t232 := Tryd.underlying141
  a232 := Tryd.isAgg141
  z232 := Tryd.sizeOf141
  v232 := Tryd.zeroValue141
  t233 := Tryd.underlying142
  a233 := Tryd.isAgg142
  z233 := Tryd.sizeOf142
  v233 := Tryd.zeroValue142
  g17 := by kernel_rfl
  g18 := by kernel_rfl
  g19 := by kernel_rfl }
open Go.RowKit Go.Sort Go.Lib in
/-- THE ROAD WITHOUT THE TABLE: 0 <= i < 100: two constants are read, nothing is laid: no premise on the world, and the world is as it was. (LAID: no walk: one application.) -/
theorem Tryd.internal_strconv_FormatInt_10_small (i : Nat) (hi : i < 100) (w : World) :
    Calls Tryd.prog 50 #[.int .i64 i, .int .i64 10] w fun e w' => e = .returned (.string ⟨(Lib.decDigits i).toArray⟩) ∧ w' = w := Any.internal_strconv_FormatInt_10_small Tryd.lays246 i hi w
def Tryd.laysM243_ren : Go.Shelf.Ren := ⟨fun | 243 => 41 | 246 => 50 | 283 => 60 | 284 => 61 | 285 => 62 | 286 => 63 | 129 => 71 | 317 => 70 | 318 => 72 | 319 => 73 | 320 => 74 | 337 => 85 | 338 => 86 | n => n, fun | 3 => 3 | 9 => 9 | 2 => 2 | 4 => 4 | 171 => 104 | 0 => 0 | 53 => 51 | 37 => 23 | 5 => 5 | 173 => 107 | 212 => 117 | 51 => 72 | 20 => 20 | 213 => 118 | 46 => 87 | 232 => 141 | 233 => 142 | n => n, fun | 17 => 0 | 18 => 4 | 19 => 5 | n => n⟩
theorem Tryd.laysM243 : Go.Proofs.LaysM.n243 Tryd.prog Tryd.laysM243_ren := {
  mixed := by kernel_rfl
  f129 := Tryd.func71.trans (congrArg some (by kernel_rfl))
  f243 := Tryd.func41.trans (congrArg some (by kernel_rfl))
  f246 := Tryd.func50.trans (congrArg some (by kernel_rfl))
  f283 := Tryd.func60.trans (congrArg some (by kernel_rfl))
  f284 := Tryd.func61.trans (congrArg some (by kernel_rfl))
  f285 := Tryd.func62.trans (congrArg some (by kernel_rfl))
  f286 := Tryd.func63.trans (congrArg some (by kernel_rfl))
  f317 := Tryd.func70.trans (congrArg some (by kernel_rfl))
  f318 := Tryd.func72.trans (congrArg some (by kernel_rfl))
  f319 := Tryd.func73.trans (congrArg some (by kernel_rfl))
  f320 := Tryd.func74.trans (congrArg some (by kernel_rfl))
  f337 := Tryd.func85.trans (congrArg some (by kernel_rfl))
  f338 := Tryd.func86.trans (congrArg some (by kernel_rfl))
  t0 := Tryd.underlying0
  a0 := Tryd.isAgg0
  z0 := Tryd.sizeOf0
  v0 := Tryd.zeroValue0
  t2 := Tryd.underlying2
  a2 := Tryd.isAgg2
  z2 := Tryd.sizeOf2
  v2 := Tryd.zeroValue2
  t3 := Tryd.underlying3
  a3 := Tryd.isAgg3
  z3 := Tryd.sizeOf3
  v3 := Tryd.zeroValue3
  t4 := Tryd.underlying4
  a4 := Tryd.isAgg4
  z4 := Tryd.sizeOf4
  v4 := Tryd.zeroValue4
  t5 := Tryd.underlying5
  a5 := Tryd.isAgg5
  z5 := Tryd.sizeOf5
  v5 := Tryd.zeroValue5
  t9 := Tryd.underlying9
  a9 := Tryd.isAgg9
  z9 := Tryd.sizeOf9
  v9 := Tryd.zeroValue9
  t20 := Tryd.underlying20
  a20 := Tryd.isAgg20
  z20 := Tryd.sizeOf20
  v20 := Tryd.zeroValue20
  t37 := Tryd.underlying23
  a37 := Tryd.isAgg23
  z37 := Tryd.sizeOf23
  v37 := Tryd.zeroValue23
  t46 := Tryd.underlying87
  a46 := Tryd.isAgg87
  z46 := Tryd.sizeOf87
  v46 := Tryd.zeroValue87
  t51 := Tryd.underlying72
  a51 := Tryd.isAgg72
  z51 := Tryd.sizeOf72
  v51 := Tryd.zeroValue72
  t53 := Tryd.underlying51
  a53 := Tryd.isAgg51
  z53 := Tryd.sizeOf51
  v53 := Tryd.zeroValue51
  t171 := Tryd.underlying104
  a171 := Tryd.isAgg104
  z171 := Tryd.sizeOf104
  v171 := Tryd.zeroValue104
  t173 := Tryd.underlying107
  a173 := Tryd.isAgg107
  z173 := Tryd.sizeOf107
  v173 := Tryd.zeroValue107
  t212 := Tryd.underlying117
  a212 := Tryd.isAgg117
  z212 := Tryd.sizeOf117
  v212 := Tryd.zeroValue117
  t213 := Tryd.underlying118
  a213 := Tryd.isAgg118
  z213 := Tryd.sizeOf118
  t232 := Tryd.underlying141
  a232 := Tryd.isAgg141
  z232 := Tryd.sizeOf141
  v232 := Tryd.zeroValue141
  t233 := Tryd.underlying142
  a233 := Tryd.isAgg142
  z233 := Tryd.sizeOf142
  v233 := Tryd.zeroValue142
  g17 := by kernel_rfl
  g18 := by kernel_rfl
  g19 := by kernel_rfl
  i0 := by kernel_rfl
  i2 := by kernel_rfl
  i3 := by kernel_rfl
  i4 := by kernel_rfl
  i5 := by kernel_rfl
  i9 := by kernel_rfl
  i20 := by kernel_rfl
  i37 := by kernel_rfl
  i46 := by kernel_rfl
  i51 := by kernel_rfl
  i53 := by kernel_rfl
  i171 := by kernel_rfl
  i173 := by kernel_rfl
  i212 := by kernel_rfl
  i232 := by kernel_rfl
  i233 := by kernel_rfl
  m17 := by kernel_rfl
  m18 := by kernel_rfl
  m19 := by kernel_rfl }
open Go.RowKit Go.Sort Go.Lib in
/-- internal/strconv.Itoa: "Itoa is equivalent to FormatInt(int64(i), 10).": i's decimal numeral, for every int. (LAID: no walk: one application.) -/
theorem Tryd.internal_strconv_Itoa (n : Int) (h0 : -9223372036854775808 ≤ n) (h1 : n ≤ 9223372036854775807) (w : World) (htab : Lib.TabIs Tryd.prog w "internal/strconv.uint64pow10" .u64 Lib.pow10Tab) :
    Calls Tryd.prog 41 #[.int .i64 n] w fun e w' => e = .returned (.string ⟨(Lib.itoa n).toArray⟩) ∧ ∃ k os, w' = grow (w.drewN k) os := Any.internal_strconv_Itoa Tryd.laysM243 n h0 h1 w htab
def Tryd.lays243_ren : Go.Shelf.Ren := ⟨fun | 243 => 41 | 246 => 50 | 283 => 60 | 284 => 61 | 285 => 62 | 286 => 63 | 129 => 71 | 317 => 70 | 318 => 72 | 319 => 73 | 320 => 74 | 337 => 85 | 338 => 86 | n => n, fun | 3 => 3 | 9 => 9 | 2 => 2 | 4 => 4 | 171 => 104 | 0 => 0 | 53 => 51 | 37 => 23 | 5 => 5 | 173 => 107 | 212 => 117 | 51 => 72 | 20 => 20 | 213 => 118 | 46 => 87 | 232 => 141 | 233 => 142 | n => n, fun | 17 => 0 | 18 => 4 | 19 => 5 | n => n⟩
theorem Tryd.lays243 : Go.Proofs.Lays.n243 Tryd.prog Tryd.lays243_ren := {
  mixed := by kernel_rfl
  f129 := Tryd.func71.trans (congrArg some (by kernel_rfl))
  f243 := Tryd.func41.trans (congrArg some (by kernel_rfl))
  f246 := Tryd.func50.trans (congrArg some (by kernel_rfl))
  f283 := Tryd.func60.trans (congrArg some (by kernel_rfl))
  f284 := Tryd.func61.trans (congrArg some (by kernel_rfl))
  f285 := Tryd.func62.trans (congrArg some (by kernel_rfl))
  f286 := Tryd.func63.trans (congrArg some (by kernel_rfl))
  f317 := Tryd.func70.trans (congrArg some (by kernel_rfl))
  f318 := Tryd.func72.trans (congrArg some (by kernel_rfl))
  f319 := Tryd.func73.trans (congrArg some (by kernel_rfl))
  f320 := Tryd.func74.trans (congrArg some (by kernel_rfl))
  f337 := Tryd.func85.trans (congrArg some (by kernel_rfl))
  f338 := Tryd.func86.trans (congrArg some (by kernel_rfl))
  t0 := Tryd.underlying0
  a0 := Tryd.isAgg0
  z0 := Tryd.sizeOf0
  v0 := Tryd.zeroValue0
  t2 := Tryd.underlying2
  a2 := Tryd.isAgg2
  z2 := Tryd.sizeOf2
  v2 := Tryd.zeroValue2
  t3 := Tryd.underlying3
  a3 := Tryd.isAgg3
  z3 := Tryd.sizeOf3
  v3 := Tryd.zeroValue3
  t4 := Tryd.underlying4
  a4 := Tryd.isAgg4
  z4 := Tryd.sizeOf4
  v4 := Tryd.zeroValue4
  t5 := Tryd.underlying5
  a5 := Tryd.isAgg5
  z5 := Tryd.sizeOf5
  v5 := Tryd.zeroValue5
  t9 := Tryd.underlying9
  a9 := Tryd.isAgg9
  z9 := Tryd.sizeOf9
  v9 := Tryd.zeroValue9
  t20 := Tryd.underlying20
  a20 := Tryd.isAgg20
  z20 := Tryd.sizeOf20
  v20 := Tryd.zeroValue20
  t37 := Tryd.underlying23
  a37 := Tryd.isAgg23
  z37 := Tryd.sizeOf23
  v37 := Tryd.zeroValue23
  t46 := Tryd.underlying87
  a46 := Tryd.isAgg87
  z46 := Tryd.sizeOf87
  v46 := Tryd.zeroValue87
  t51 := Tryd.underlying72
  a51 := Tryd.isAgg72
  z51 := Tryd.sizeOf72
  v51 := Tryd.zeroValue72
  t53 := Tryd.underlying51
  a53 := Tryd.isAgg51
  z53 := Tryd.sizeOf51
  v53 := Tryd.zeroValue51
  t171 := Tryd.underlying104
  a171 := Tryd.isAgg104
  z171 := Tryd.sizeOf104
  v171 := Tryd.zeroValue104
  t173 := Tryd.underlying107
  a173 := Tryd.isAgg107
  z173 := Tryd.sizeOf107
  v173 := Tryd.zeroValue107
  t212 := Tryd.underlying117
  a212 := Tryd.isAgg117
  z212 := Tryd.sizeOf117
  v212 := Tryd.zeroValue117
  t213 := Tryd.underlying118
  a213 := Tryd.isAgg118
  z213 := Tryd.sizeOf118
  t232 := Tryd.underlying141
  a232 := Tryd.isAgg141
  z232 := Tryd.sizeOf141
  v232 := Tryd.zeroValue141
  t233 := Tryd.underlying142
  a233 := Tryd.isAgg142
  z233 := Tryd.sizeOf142
  v233 := Tryd.zeroValue142
  g17 := by kernel_rfl
  g18 := by kernel_rfl
  g19 := by kernel_rfl }
open Go.RowKit Go.Sort Go.Lib in
/-- THE ROAD WITHOUT THE TABLE: 0 <= i < 100. (LAID: no walk: one application.) -/
theorem Tryd.internal_strconv_Itoa_small (i : Nat) (hi : i < 100) (w : World) :
    Calls Tryd.prog 41 #[.int .i64 i] w fun e w' => e = .returned (.string ⟨(Lib.decDigits i).toArray⟩) ∧ w' = w := Any.internal_strconv_Itoa_small Tryd.lays243 i hi w
def Tryd.laysM171_ren : Go.Shelf.Ren := ⟨fun | 171 => 34 | 243 => 41 | 246 => 50 | 283 => 60 | 284 => 61 | 285 => 62 | 286 => 63 | 129 => 71 | 317 => 70 | 318 => 72 | 319 => 73 | 320 => 74 | 337 => 85 | 338 => 86 | n => n, fun | 3 => 3 | 9 => 9 | 2 => 2 | 4 => 4 | 171 => 104 | 0 => 0 | 53 => 51 | 37 => 23 | 5 => 5 | 173 => 107 | 212 => 117 | 51 => 72 | 20 => 20 | 213 => 118 | 46 => 87 | 232 => 141 | 233 => 142 | n => n, fun | 17 => 0 | 18 => 4 | 19 => 5 | n => n⟩
theorem Tryd.laysM171 : Go.Proofs.LaysM.n171 Tryd.prog Tryd.laysM171_ren := {
  mixed := by kernel_rfl
  f129 := Tryd.func71.trans (congrArg some (by kernel_rfl))
  f171 := Tryd.func34.trans (congrArg some (by kernel_rfl))
  f243 := Tryd.func41.trans (congrArg some (by kernel_rfl))
  f246 := Tryd.func50.trans (congrArg some (by kernel_rfl))
  f283 := Tryd.func60.trans (congrArg some (by kernel_rfl))
  f284 := Tryd.func61.trans (congrArg some (by kernel_rfl))
  f285 := Tryd.func62.trans (congrArg some (by kernel_rfl))
  f286 := Tryd.func63.trans (congrArg some (by kernel_rfl))
  f317 := Tryd.func70.trans (congrArg some (by kernel_rfl))
  f318 := Tryd.func72.trans (congrArg some (by kernel_rfl))
  f319 := Tryd.func73.trans (congrArg some (by kernel_rfl))
  f320 := Tryd.func74.trans (congrArg some (by kernel_rfl))
  f337 := Tryd.func85.trans (congrArg some (by kernel_rfl))
  f338 := Tryd.func86.trans (congrArg some (by kernel_rfl))
  t0 := Tryd.underlying0
  a0 := Tryd.isAgg0
  z0 := Tryd.sizeOf0
  v0 := Tryd.zeroValue0
  t2 := Tryd.underlying2
  a2 := Tryd.isAgg2
  z2 := Tryd.sizeOf2
  v2 := Tryd.zeroValue2
  t3 := Tryd.underlying3
  a3 := Tryd.isAgg3
  z3 := Tryd.sizeOf3
  v3 := Tryd.zeroValue3
  t4 := Tryd.underlying4
  a4 := Tryd.isAgg4
  z4 := Tryd.sizeOf4
  v4 := Tryd.zeroValue4
  t5 := Tryd.underlying5
  a5 := Tryd.isAgg5
  z5 := Tryd.sizeOf5
  v5 := Tryd.zeroValue5
  t9 := Tryd.underlying9
  a9 := Tryd.isAgg9
  z9 := Tryd.sizeOf9
  v9 := Tryd.zeroValue9
  t20 := Tryd.underlying20
  a20 := Tryd.isAgg20
  z20 := Tryd.sizeOf20
  v20 := Tryd.zeroValue20
  t37 := Tryd.underlying23
  a37 := Tryd.isAgg23
  z37 := Tryd.sizeOf23
  v37 := Tryd.zeroValue23
  t46 := Tryd.underlying87
  a46 := Tryd.isAgg87
  z46 := Tryd.sizeOf87
  v46 := Tryd.zeroValue87
  t51 := Tryd.underlying72
  a51 := Tryd.isAgg72
  z51 := Tryd.sizeOf72
  v51 := Tryd.zeroValue72
  t53 := Tryd.underlying51
  a53 := Tryd.isAgg51
  z53 := Tryd.sizeOf51
  v53 := Tryd.zeroValue51
  t171 := Tryd.underlying104
  a171 := Tryd.isAgg104
  z171 := Tryd.sizeOf104
  v171 := Tryd.zeroValue104
  t173 := Tryd.underlying107
  a173 := Tryd.isAgg107
  z173 := Tryd.sizeOf107
  v173 := Tryd.zeroValue107
  t212 := Tryd.underlying117
  a212 := Tryd.isAgg117
  z212 := Tryd.sizeOf117
  v212 := Tryd.zeroValue117
  t213 := Tryd.underlying118
  a213 := Tryd.isAgg118
  z213 := Tryd.sizeOf118
  t232 := Tryd.underlying141
  a232 := Tryd.isAgg141
  z232 := Tryd.sizeOf141
  v232 := Tryd.zeroValue141
  t233 := Tryd.underlying142
  a233 := Tryd.isAgg142
  z233 := Tryd.sizeOf142
  v233 := Tryd.zeroValue142
  g17 := by kernel_rfl
  g18 := by kernel_rfl
  g19 := by kernel_rfl
  i0 := by kernel_rfl
  i2 := by kernel_rfl
  i3 := by kernel_rfl
  i4 := by kernel_rfl
  i5 := by kernel_rfl
  i9 := by kernel_rfl
  i20 := by kernel_rfl
  i37 := by kernel_rfl
  i46 := by kernel_rfl
  i51 := by kernel_rfl
  i53 := by kernel_rfl
  i171 := by kernel_rfl
  i173 := by kernel_rfl
  i212 := by kernel_rfl
  i232 := by kernel_rfl
  i233 := by kernel_rfl
  m17 := by kernel_rfl
  m18 := by kernel_rfl
  m19 := by kernel_rfl }
open Go.RowKit Go.Sort Go.Lib in
/-- strconv.Itoa: "Itoa is equivalent to FormatInt(int64(i), 10).": i's DECIMAL NUMERAL ('Lib.itoa': a '-' where i is negative, then the digits), FOR EVERY int. The world behind the call: the world before it, new blocks behind the heap (the library's 'var a [24]byte'), draws. (LAID: no walk: one application.) -/
theorem Tryd.strconv_Itoa (n : Int) (h0 : -9223372036854775808 ≤ n) (h1 : n ≤ 9223372036854775807) (w : World) (htab : Lib.TabIs Tryd.prog w "internal/strconv.uint64pow10" .u64 Lib.pow10Tab) :
    Calls Tryd.prog 34 #[.int .i64 n] w fun e w' => e = .returned (.string ⟨(Lib.itoa n).toArray⟩) ∧ ∃ k os, w' = grow (w.drewN k) os := Any.strconv_Itoa Tryd.laysM171 n h0 h1 w htab
def Tryd.lays171_ren : Go.Shelf.Ren := ⟨fun | 171 => 34 | 243 => 41 | 246 => 50 | 283 => 60 | 284 => 61 | 285 => 62 | 286 => 63 | 129 => 71 | 317 => 70 | 318 => 72 | 319 => 73 | 320 => 74 | 337 => 85 | 338 => 86 | n => n, fun | 3 => 3 | 9 => 9 | 2 => 2 | 4 => 4 | 171 => 104 | 0 => 0 | 53 => 51 | 37 => 23 | 5 => 5 | 173 => 107 | 212 => 117 | 51 => 72 | 20 => 20 | 213 => 118 | 46 => 87 | 232 => 141 | 233 => 142 | n => n, fun | 17 => 0 | 18 => 4 | 19 => 5 | n => n⟩
theorem Tryd.lays171 : Go.Proofs.Lays.n171 Tryd.prog Tryd.lays171_ren := {
  mixed := by kernel_rfl
  f129 := Tryd.func71.trans (congrArg some (by kernel_rfl))
  f171 := Tryd.func34.trans (congrArg some (by kernel_rfl))
  f243 := Tryd.func41.trans (congrArg some (by kernel_rfl))
  f246 := Tryd.func50.trans (congrArg some (by kernel_rfl))
  f283 := Tryd.func60.trans (congrArg some (by kernel_rfl))
  f284 := Tryd.func61.trans (congrArg some (by kernel_rfl))
  f285 := Tryd.func62.trans (congrArg some (by kernel_rfl))
  f286 := Tryd.func63.trans (congrArg some (by kernel_rfl))
  f317 := Tryd.func70.trans (congrArg some (by kernel_rfl))
  f318 := Tryd.func72.trans (congrArg some (by kernel_rfl))
  f319 := Tryd.func73.trans (congrArg some (by kernel_rfl))
  f320 := Tryd.func74.trans (congrArg some (by kernel_rfl))
  f337 := Tryd.func85.trans (congrArg some (by kernel_rfl))
  f338 := Tryd.func86.trans (congrArg some (by kernel_rfl))
  t0 := Tryd.underlying0
  a0 := Tryd.isAgg0
  z0 := Tryd.sizeOf0
  v0 := Tryd.zeroValue0
  t2 := Tryd.underlying2
  a2 := Tryd.isAgg2
  z2 := Tryd.sizeOf2
  v2 := Tryd.zeroValue2
  t3 := Tryd.underlying3
  a3 := Tryd.isAgg3
  z3 := Tryd.sizeOf3
  v3 := Tryd.zeroValue3
  t4 := Tryd.underlying4
  a4 := Tryd.isAgg4
  z4 := Tryd.sizeOf4
  v4 := Tryd.zeroValue4
  t5 := Tryd.underlying5
  a5 := Tryd.isAgg5
  z5 := Tryd.sizeOf5
  v5 := Tryd.zeroValue5
  t9 := Tryd.underlying9
  a9 := Tryd.isAgg9
  z9 := Tryd.sizeOf9
  v9 := Tryd.zeroValue9
  t20 := Tryd.underlying20
  a20 := Tryd.isAgg20
  z20 := Tryd.sizeOf20
  v20 := Tryd.zeroValue20
  t37 := Tryd.underlying23
  a37 := Tryd.isAgg23
  z37 := Tryd.sizeOf23
  v37 := Tryd.zeroValue23
  t46 := Tryd.underlying87
  a46 := Tryd.isAgg87
  z46 := Tryd.sizeOf87
  v46 := Tryd.zeroValue87
  t51 := Tryd.underlying72
  a51 := Tryd.isAgg72
  z51 := Tryd.sizeOf72
  v51 := Tryd.zeroValue72
  t53 := Tryd.underlying51
  a53 := Tryd.isAgg51
  z53 := Tryd.sizeOf51
  v53 := Tryd.zeroValue51
  t171 := Tryd.underlying104
  a171 := Tryd.isAgg104
  z171 := Tryd.sizeOf104
  v171 := Tryd.zeroValue104
  t173 := Tryd.underlying107
  a173 := Tryd.isAgg107
  z173 := Tryd.sizeOf107
  v173 := Tryd.zeroValue107
  t212 := Tryd.underlying117
  a212 := Tryd.isAgg117
  z212 := Tryd.sizeOf117
  v212 := Tryd.zeroValue117
  t213 := Tryd.underlying118
  a213 := Tryd.isAgg118
  z213 := Tryd.sizeOf118
  t232 := Tryd.underlying141
  a232 := Tryd.isAgg141
  z232 := Tryd.sizeOf141
  v232 := Tryd.zeroValue141
  t233 := Tryd.underlying142
  a233 := Tryd.isAgg142
  z233 := Tryd.sizeOf142
  v233 := Tryd.zeroValue142
  g17 := by kernel_rfl
  g18 := by kernel_rfl
  g19 := by kernel_rfl }
open Go.RowKit Go.Sort Go.Lib in
/-- THE ROAD WITHOUT THE TABLE: 0 <= i < 100: NO PREMISE ON THE WORLD, AND THE WORLD IS AS IT WAS: a row that keeps its argument in that range need list no table ('laid = []'). (LAID: no walk: one application.) -/
theorem Tryd.strconv_Itoa_small (i : Nat) (hi : i < 100) (w : World) :
    Calls Tryd.prog 34 #[.int .i64 i] w fun e w' => e = .returned (.string ⟨(Lib.decDigits i).toArray⟩) ∧ w' = w := Any.strconv_Itoa_small Tryd.lays171 i hi w
def Tryd.laysM316_ren : Go.Shelf.Ren := ⟨fun | 316 => 95 | n => n, fun | 9 => 9 | 3 => 3 | 4 => 4 | 37 => 23 | 0 => 0 | 127 => 147 | 5 => 5 | n => n, fun | n => n⟩
theorem Tryd.laysM316 : Go.Proofs.LaysM.n316 Tryd.prog Tryd.laysM316_ren := {
  mixed := by kernel_rfl
  f316 := Tryd.func95.trans (congrArg some (by kernel_rfl))
  t0 := Tryd.underlying0
  a0 := Tryd.isAgg0
  z0 := Tryd.sizeOf0
  v0 := Tryd.zeroValue0
  t3 := Tryd.underlying3
  a3 := Tryd.isAgg3
  z3 := Tryd.sizeOf3
  v3 := Tryd.zeroValue3
  t4 := Tryd.underlying4
  a4 := Tryd.isAgg4
  z4 := Tryd.sizeOf4
  v4 := Tryd.zeroValue4
  t9 := Tryd.underlying9
  a9 := Tryd.isAgg9
  z9 := Tryd.sizeOf9
  v9 := Tryd.zeroValue9
  t37 := Tryd.underlying23
  a37 := Tryd.isAgg23
  z37 := Tryd.sizeOf23
  v37 := Tryd.zeroValue23
  t127 := Tryd.underlying147
  a127 := Tryd.isAgg147
  z127 := Tryd.sizeOf147
  v127 := Tryd.zeroValue147
  t5 := Tryd.underlying5
  a5 := Tryd.isAgg5
  z5 := Tryd.sizeOf5
  v5 := Tryd.zeroValue5
  i0 := by kernel_rfl
  i3 := by kernel_rfl
  i4 := by kernel_rfl
  i5 := by kernel_rfl
  i9 := by kernel_rfl
  i37 := by kernel_rfl
  i127 := by kernel_rfl }
open Go.RowKit in
/-- internal/stringslite.Clone (what strings.Clone calls): "Clone returns a fresh copy of s.": THE SAME BYTES. Of what was there nothing has turned (a new row is laid, and frozen, where s is not empty). (LAID: no walk: one application.) -/
theorem Tryd.stringslite_Clone (s : ByteArray) (w : World) (hlim : s.size ≤ 281474976710656) :
    Calls Tryd.prog 95 #[.string s] w fun e w' => e = .returned (.string s) ∧ Below w.heap.size w w' := Any.stringslite_Clone Tryd.laysM316 s w hlim
def Tryd.laysM279_ren : Go.Shelf.Ren := ⟨fun | 279 => 89 | 316 => 95 | n => n, fun | 9 => 9 | 168 => 136 | 75 => 112 | 210 => 145 | 3 => 3 | 4 => 4 | 37 => 23 | 0 => 0 | 127 => 147 | 80 => 151 | 5 => 5 | n => n, fun | 15 => 6 | n => n⟩
theorem Tryd.laysM279 : Go.Proofs.LaysM.n279 Tryd.prog Tryd.laysM279_ren := {
  mixed := by kernel_rfl
  f279 := Tryd.func89.trans (congrArg some (by kernel_rfl))
  f316 := Tryd.func95.trans (congrArg some (by kernel_rfl))
  t0 := Tryd.underlying0
  a0 := Tryd.isAgg0
  z0 := Tryd.sizeOf0
  v0 := Tryd.zeroValue0
  t3 := Tryd.underlying3
  a3 := Tryd.isAgg3
  z3 := Tryd.sizeOf3
  v3 := Tryd.zeroValue3
  t4 := Tryd.underlying4
  a4 := Tryd.isAgg4
  z4 := Tryd.sizeOf4
  v4 := Tryd.zeroValue4
  t9 := Tryd.underlying9
  a9 := Tryd.isAgg9
  z9 := Tryd.sizeOf9
  v9 := Tryd.zeroValue9
  t37 := Tryd.underlying23
  a37 := Tryd.isAgg23
  z37 := Tryd.sizeOf23
  v37 := Tryd.zeroValue23
  t75 := Tryd.underlying112
  a75 := Tryd.isAgg112
  z75 := Tryd.sizeOf112
  v75 := Tryd.zeroValue112
  t127 := Tryd.underlying147
  a127 := Tryd.isAgg147
  z127 := Tryd.sizeOf147
  v127 := Tryd.zeroValue147
  t168 := Tryd.underlying136
  a168 := Tryd.isAgg136
  z168 := Tryd.sizeOf136
  v168 := Tryd.zeroValue136
  t210 := Tryd.underlying145
  a210 := Tryd.isAgg145
  z210 := Tryd.sizeOf145
  v210 := Tryd.zeroValue145
  g15 := by kernel_rfl
  t5 := Tryd.underlying5
  a5 := Tryd.isAgg5
  z5 := Tryd.sizeOf5
  v5 := Tryd.zeroValue5
  t80 := Tryd.underlying151
  a80 := Tryd.isAgg151
  z80 := Tryd.sizeOf151
  v80 := Tryd.zeroValue151
  i0 := by kernel_rfl
  i3 := by kernel_rfl
  i4 := by kernel_rfl
  i5 := by kernel_rfl
  i9 := by kernel_rfl
  i37 := by kernel_rfl
  i75 := by kernel_rfl
  i80 := by kernel_rfl
  i127 := by kernel_rfl
  i168 := by kernel_rfl
  i210 := by kernel_rfl
  m15 := by kernel_rfl }
open Go.RowKit in
/-- strconv.syntaxError: '&NumError{fn, stringslite.Clone(str), ErrSyntax}': A POINTER TO A NEW BLOCK that holds fn, str's bytes, and what the variable ErrSyntax holds. Of what was there nothing has turned. (LAID: no walk: one application.) -/
theorem Tryd.strconv_syntaxError (fn s : ByteArray) (ev : Value) (w : World) (hlim : s.size ≤ 281474976710656) (hv : w.cell? ⟨6, 0, none⟩ = some ev) (hev : ev = .nilIface ∨ ∃ te pe, ev = .iface te pe) :
    Calls Tryd.prog 89 #[.string fn, .string s] w fun e w' => ∃ N, e = .returned (.pointer (some ⟨N, 0, none⟩)) ∧ w.heap.size ≤ N ∧ w'.heap[N]? = some (.cells #[.string fn, .string s, ev] 145 (0, 0)) ∧ Below w.heap.size w w' := Any.strconv_syntaxError Tryd.laysM279 fn s ev w hlim hv hev
def Tryd.laysC245_ren : Go.Shelf.Ren := ⟨fun | 245 => 80 | 279 => 89 | 280 => 90 | 281 => 91 | 282 => 92 | 316 => 95 | 171 => 34 | 205 => 96 | 243 => 41 | 246 => 50 | 283 => 60 | 284 => 61 | 285 => 62 | 286 => 63 | 129 => 71 | 317 => 70 | 318 => 72 | 319 => 73 | 320 => 74 | 337 => 85 | 338 => 86 | n => n, fun | 9 => 9 | 3 => 3 | 75 => 112 | 167 => 134 | 4 => 4 | 168 => 136 | 210 => 145 | 37 => 23 | 0 => 0 | 127 => 147 | 145 => 150 | 143 => 148 | 2 => 2 | 171 => 104 | 53 => 51 | 5 => 5 | 173 => 107 | 212 => 117 | 51 => 72 | 20 => 20 | 213 => 118 | 46 => 87 | 232 => 141 | 233 => 142 | 80 => 151 | n => n, fun | 15 => 6 | 16 => 7 | 17 => 0 | 18 => 4 | 19 => 5 | n => n⟩
theorem Tryd.laysC245 : Go.Proofs.LaysC.n245 Tryd.prog Tryd.laysC245_ren := {
  mixed := by kernel_rfl
  f129 := Tryd.func71.trans (congrArg some (by kernel_rfl))
  f171 := Tryd.func34.trans (congrArg some (by kernel_rfl))
  f205 := Tryd.func96.trans (congrArg some (by kernel_rfl))
  f243 := Tryd.func41.trans (congrArg some (by kernel_rfl))
  f245 := Tryd.func80.trans (congrArg some (by kernel_rfl))
  f246 := Tryd.func50.trans (congrArg some (by kernel_rfl))
  f279 := Tryd.func89.trans (congrArg some (by kernel_rfl))
  f280 := Tryd.func90.trans (congrArg some (by kernel_rfl))
  f281 := Tryd.func91.trans (congrArg some (by kernel_rfl))
  f282 := Tryd.func92.trans (congrArg some (by kernel_rfl))
  f283 := Tryd.func60.trans (congrArg some (by kernel_rfl))
  f284 := Tryd.func61.trans (congrArg some (by kernel_rfl))
  f285 := Tryd.func62.trans (congrArg some (by kernel_rfl))
  f286 := Tryd.func63.trans (congrArg some (by kernel_rfl))
  f316 := Tryd.func95.trans (congrArg some (by kernel_rfl))
  f317 := Tryd.func70.trans (congrArg some (by kernel_rfl))
  f318 := Tryd.func72.trans (congrArg some (by kernel_rfl))
  f319 := Tryd.func73.trans (congrArg some (by kernel_rfl))
  f320 := Tryd.func74.trans (congrArg some (by kernel_rfl))
  f337 := Tryd.func85.trans (congrArg some (by kernel_rfl))
  f338 := Tryd.func86.trans (congrArg some (by kernel_rfl))
  t0 := Tryd.underlying0
  a0 := Tryd.isAgg0
  z0 := Tryd.sizeOf0
  v0 := Tryd.zeroValue0
  t2 := Tryd.underlying2
  a2 := Tryd.isAgg2
  z2 := Tryd.sizeOf2
  v2 := Tryd.zeroValue2
  t3 := Tryd.underlying3
  a3 := Tryd.isAgg3
  z3 := Tryd.sizeOf3
  v3 := Tryd.zeroValue3
  t4 := Tryd.underlying4
  a4 := Tryd.isAgg4
  z4 := Tryd.sizeOf4
  v4 := Tryd.zeroValue4
  t5 := Tryd.underlying5
  a5 := Tryd.isAgg5
  z5 := Tryd.sizeOf5
  v5 := Tryd.zeroValue5
  t9 := Tryd.underlying9
  a9 := Tryd.isAgg9
  z9 := Tryd.sizeOf9
  v9 := Tryd.zeroValue9
  t20 := Tryd.underlying20
  a20 := Tryd.isAgg20
  z20 := Tryd.sizeOf20
  v20 := Tryd.zeroValue20
  t37 := Tryd.underlying23
  a37 := Tryd.isAgg23
  z37 := Tryd.sizeOf23
  v37 := Tryd.zeroValue23
  t46 := Tryd.underlying87
  a46 := Tryd.isAgg87
  z46 := Tryd.sizeOf87
  v46 := Tryd.zeroValue87
  t51 := Tryd.underlying72
  a51 := Tryd.isAgg72
  z51 := Tryd.sizeOf72
  v51 := Tryd.zeroValue72
  t53 := Tryd.underlying51
  a53 := Tryd.isAgg51
  z53 := Tryd.sizeOf51
  v53 := Tryd.zeroValue51
  t75 := Tryd.underlying112
  a75 := Tryd.isAgg112
  z75 := Tryd.sizeOf112
  v75 := Tryd.zeroValue112
  t127 := Tryd.underlying147
  a127 := Tryd.isAgg147
  z127 := Tryd.sizeOf147
  v127 := Tryd.zeroValue147
  t143 := Tryd.underlying148
  a143 := Tryd.isAgg148
  z143 := Tryd.sizeOf148
  v143 := Tryd.zeroValue148
  t145 := Tryd.underlying150
  a145 := Tryd.isAgg150
  z145 := Tryd.sizeOf150
  v145 := Tryd.zeroValue150
  t167 := Tryd.underlying134
  a167 := Tryd.isAgg134
  z167 := Tryd.sizeOf134
  v167 := Tryd.zeroValue134
  t168 := Tryd.underlying136
  a168 := Tryd.isAgg136
  z168 := Tryd.sizeOf136
  v168 := Tryd.zeroValue136
  t171 := Tryd.underlying104
  a171 := Tryd.isAgg104
  z171 := Tryd.sizeOf104
  v171 := Tryd.zeroValue104
  t173 := Tryd.underlying107
  a173 := Tryd.isAgg107
  z173 := Tryd.sizeOf107
  v173 := Tryd.zeroValue107
  t210 := Tryd.underlying145
  a210 := Tryd.isAgg145
  z210 := Tryd.sizeOf145
  v210 := Tryd.zeroValue145
  t212 := Tryd.underlying117
  a212 := Tryd.isAgg117
  z212 := Tryd.sizeOf117
  v212 := Tryd.zeroValue117
  t213 := Tryd.underlying118
  a213 := Tryd.isAgg118
  z213 := Tryd.sizeOf118
  t232 := Tryd.underlying141
  a232 := Tryd.isAgg141
  z232 := Tryd.sizeOf141
  v232 := Tryd.zeroValue141
  t233 := Tryd.underlying142
  a233 := Tryd.isAgg142
  z233 := Tryd.sizeOf142
  v233 := Tryd.zeroValue142
  g15 := by kernel_rfl
  g16 := by kernel_rfl
  g17 := by kernel_rfl
  g18 := by kernel_rfl
  g19 := by kernel_rfl
  t80 := Tryd.underlying151
  a80 := Tryd.isAgg151
  z80 := Tryd.sizeOf151
  v80 := Tryd.zeroValue151
  i0 := by kernel_rfl
  i2 := by kernel_rfl
  i3 := by kernel_rfl
  i4 := by kernel_rfl
  i5 := by kernel_rfl
  i9 := by kernel_rfl
  i20 := by kernel_rfl
  i37 := by kernel_rfl
  i46 := by kernel_rfl
  i51 := by kernel_rfl
  i53 := by kernel_rfl
  i75 := by kernel_rfl
  i80 := by kernel_rfl
  i127 := by kernel_rfl
  i143 := by kernel_rfl
  i145 := by kernel_rfl
  i167 := by kernel_rfl
  i168 := by kernel_rfl
  i171 := by kernel_rfl
  i173 := by kernel_rfl
  i210 := by kernel_rfl
  i212 := by kernel_rfl
  i232 := by kernel_rfl
  i233 := by kernel_rfl
  m15 := by kernel_rfl
  m16 := by kernel_rfl
  m17 := by kernel_rfl
  m18 := by kernel_rfl
  m19 := by kernel_rfl
  c0 := by kernel_rfl
  c2 := by kernel_rfl
  c3 := by kernel_rfl
  c4 := by kernel_rfl
  c5 := by kernel_rfl
  c9 := by kernel_rfl
  c20 := by kernel_rfl
  c37 := by kernel_rfl
  c46 := by kernel_rfl
  c51 := by kernel_rfl
  c53 := by kernel_rfl
  c75 := by kernel_rfl
  c80 := by kernel_rfl
  c127 := by kernel_rfl
  c143 := by kernel_rfl
  c145 := by kernel_rfl
  c167 := by kernel_rfl
  c168 := by kernel_rfl
  c171 := by kernel_rfl
  c173 := by kernel_rfl
  c210 := by kernel_rfl
  c212 := by kernel_rfl
  c213 := by kernel_rfl
  c232 := by kernel_rfl
  c233 := by kernel_rfl }
open Go.RowKit in
/-- strconv.toError, at the inner package's ErrSyntax: 'syntaxError(fn, s)' as an error: A *NumError IN A NEW BLOCK. (LAID: no walk: one application.) -/
theorem Tryd.strconv_toError_syntax (fn s : ByteArray) (base bits : Int) (ev : Value) (w : World) (hlim : s.size ≤ 281474976710656) (hv : w.cell? ⟨6, 0, none⟩ = some ev) (hev : ev = .nilIface ∨ ∃ te pe, ev = .iface te pe) :
    Calls Tryd.prog 80 #[.string fn, .string s, .int .i64 base, .int .i64 bits, .iface 134 (.int .i64 2)] w fun e w' => ∃ N, e = .returned (.iface 136 (.pointer (some ⟨N, 0, none⟩))) ∧ w.heap.size ≤ N ∧ w'.heap[N]? = some (.cells #[.string fn, .string s, ev] 145 (0, 0)) ∧ Below w.heap.size w w' := Any.strconv_toError_syntax Tryd.laysC245 fn s base bits ev w hlim hv hev
def Tryd.lays321_ren : Go.Shelf.Ren := ⟨fun | 321 => 87 | n => n, fun | 5 => 5 | n => n, fun | n => n⟩
theorem Tryd.lays321 : Go.Proofs.Lays.n321 Tryd.prog Tryd.lays321_ren := {
  mixed := by kernel_rfl
  f321 := Tryd.func87.trans (congrArg some (by kernel_rfl))
  t5 := Tryd.underlying5
  a5 := Tryd.isAgg5
  z5 := Tryd.sizeOf5
  v5 := Tryd.zeroValue5 }
open Go.RowKit in
/-- internal/strconv.lower: 'c | ('x' - 'X')': the bit 32 set. The world is as it was. (LAID: no walk: one application.) -/
theorem Tryd.internal_strconv_lower (c : Int) (w : World) :
    Calls Tryd.prog 87 #[.int .u8 c] w fun e w' => e = .returned (.int .u8 (bits .or .u8 c 32)) ∧ w' = w := Any.internal_strconv_lower Tryd.lays321 c w
def Tryd.lays287_ren : Go.Shelf.Ren := ⟨fun | 287 => 79 | 321 => 87 | 322 => 88 | n => n, fun | 9 => 9 | 3 => 3 | 53 => 51 | 75 => 112 | 4 => 4 | 167 => 134 | 5 => 5 | 46 => 87 | 37 => 23 | 0 => 0 | 21 => 21 | 80 => 151 | n => n, fun | n => n⟩
theorem Tryd.lays287 : Go.Proofs.Lays.n287 Tryd.prog Tryd.lays287_ren := {
  mixed := by kernel_rfl
  f287 := Tryd.func79.trans (congrArg some (by kernel_rfl))
  f321 := Tryd.func87.trans (congrArg some (by kernel_rfl))
  f322 := Tryd.func88.trans (congrArg some (by kernel_rfl))
  t0 := Tryd.underlying0
  a0 := Tryd.isAgg0
  z0 := Tryd.sizeOf0
  v0 := Tryd.zeroValue0
  t3 := Tryd.underlying3
  a3 := Tryd.isAgg3
  z3 := Tryd.sizeOf3
  v3 := Tryd.zeroValue3
  t4 := Tryd.underlying4
  a4 := Tryd.isAgg4
  z4 := Tryd.sizeOf4
  v4 := Tryd.zeroValue4
  t5 := Tryd.underlying5
  a5 := Tryd.isAgg5
  z5 := Tryd.sizeOf5
  v5 := Tryd.zeroValue5
  t9 := Tryd.underlying9
  a9 := Tryd.isAgg9
  z9 := Tryd.sizeOf9
  v9 := Tryd.zeroValue9
  t21 := Tryd.underlying21
  a21 := Tryd.isAgg21
  z21 := Tryd.sizeOf21
  v21 := Tryd.zeroValue21
  t37 := Tryd.underlying23
  a37 := Tryd.isAgg23
  z37 := Tryd.sizeOf23
  v37 := Tryd.zeroValue23
  t46 := Tryd.underlying87
  a46 := Tryd.isAgg87
  z46 := Tryd.sizeOf87
  v46 := Tryd.zeroValue87
  t53 := Tryd.underlying51
  a53 := Tryd.isAgg51
  z53 := Tryd.sizeOf51
  v53 := Tryd.zeroValue51
  t75 := Tryd.underlying112
  a75 := Tryd.isAgg112
  z75 := Tryd.sizeOf112
  v75 := Tryd.zeroValue112
  t167 := Tryd.underlying134
  a167 := Tryd.isAgg134
  z167 := Tryd.sizeOf134
  v167 := Tryd.zeroValue134 }
open Go.RowKit in
/-- internal/strconv.ParseUint(s, 10, 0), s NOT EMPTY: 'Lib.parseUint10 0' OF ITS BYTES: the number; or (0, ErrSyntax); or (the greatest uint64, ErrRange). The world behind the call: the one new row that '[]byte(s)' lays. (LAID: no walk: one application.) -/
theorem Tryd.internal_strconv_ParseUint_10 (t : ByteArray) (hne : t.size ≠ 0) (hmax : t.size ≤ 9223372036854775806) (w : World) :
    Calls Tryd.prog 79 #[.string t, .int .i64 10, .int .i64 0] w fun e w' => e = .returned (Lib.uintTuple 134 (Lib.parseUint10 0 t.data.toList)) ∧ w' = Lib.bytesWorld w 5 t := Any.internal_strconv_ParseUint_10 Tryd.lays287 t hne hmax w
open Go.RowKit in
/-- internal/strconv.ParseUint("", 10, 0): (0, ErrSyntax). The world is as it was. (LAID: no walk: one application.) -/
theorem Tryd.internal_strconv_ParseUint_10_empty (w : World) :
    Calls Tryd.prog 79 #[.string ⟨#[]⟩, .int .i64 10, .int .i64 0] w fun e w' => e = .returned (Lib.uintTuple 134 .syntax) ∧ w' = w := Any.internal_strconv_ParseUint_10_empty Tryd.lays287 w
open Go.RowKit in
/-- internal/strconv.ParseUint(s, 10, 0): 'Lib.parseMag' OF ITS BYTES. The world: as it was (the empty string), or with the one new row that '[]byte(s)' lays. (LAID: no walk: one application.) -/
theorem Tryd.internal_strconv_ParseUint_10_any (t : ByteArray) (hmax : t.size ≤ 9223372036854775806) (w : World) :
    Calls Tryd.prog 79 #[.string t, .int .i64 10, .int .i64 0] w fun e w' => e = .returned (Lib.uintTuple 134 (Lib.parseMag t.data.toList)) ∧ (w' = w ∨ w' = Lib.bytesWorld w 5 t) := Any.internal_strconv_ParseUint_10_any Tryd.lays287 t hmax w
def Tryd.laysM280_ren : Go.Shelf.Ren := ⟨fun | 280 => 90 | 316 => 95 | n => n, fun | 9 => 9 | 168 => 136 | 75 => 112 | 210 => 145 | 3 => 3 | 4 => 4 | 37 => 23 | 0 => 0 | 127 => 147 | 80 => 151 | 5 => 5 | n => n, fun | 16 => 7 | n => n⟩
theorem Tryd.laysM280 : Go.Proofs.LaysM.n280 Tryd.prog Tryd.laysM280_ren := {
  mixed := by kernel_rfl
  f280 := Tryd.func90.trans (congrArg some (by kernel_rfl))
  f316 := Tryd.func95.trans (congrArg some (by kernel_rfl))
  t0 := Tryd.underlying0
  a0 := Tryd.isAgg0
  z0 := Tryd.sizeOf0
  v0 := Tryd.zeroValue0
  t3 := Tryd.underlying3
  a3 := Tryd.isAgg3
  z3 := Tryd.sizeOf3
  v3 := Tryd.zeroValue3
  t4 := Tryd.underlying4
  a4 := Tryd.isAgg4
  z4 := Tryd.sizeOf4
  v4 := Tryd.zeroValue4
  t9 := Tryd.underlying9
  a9 := Tryd.isAgg9
  z9 := Tryd.sizeOf9
  v9 := Tryd.zeroValue9
  t37 := Tryd.underlying23
  a37 := Tryd.isAgg23
  z37 := Tryd.sizeOf23
  v37 := Tryd.zeroValue23
  t75 := Tryd.underlying112
  a75 := Tryd.isAgg112
  z75 := Tryd.sizeOf112
  v75 := Tryd.zeroValue112
  t127 := Tryd.underlying147
  a127 := Tryd.isAgg147
  z127 := Tryd.sizeOf147
  v127 := Tryd.zeroValue147
  t168 := Tryd.underlying136
  a168 := Tryd.isAgg136
  z168 := Tryd.sizeOf136
  v168 := Tryd.zeroValue136
  t210 := Tryd.underlying145
  a210 := Tryd.isAgg145
  z210 := Tryd.sizeOf145
  v210 := Tryd.zeroValue145
  g16 := by kernel_rfl
  t5 := Tryd.underlying5
  a5 := Tryd.isAgg5
  z5 := Tryd.sizeOf5
  v5 := Tryd.zeroValue5
  t80 := Tryd.underlying151
  a80 := Tryd.isAgg151
  z80 := Tryd.sizeOf151
  v80 := Tryd.zeroValue151
  i0 := by kernel_rfl
  i3 := by kernel_rfl
  i4 := by kernel_rfl
  i5 := by kernel_rfl
  i9 := by kernel_rfl
  i37 := by kernel_rfl
  i75 := by kernel_rfl
  i80 := by kernel_rfl
  i127 := by kernel_rfl
  i168 := by kernel_rfl
  i210 := by kernel_rfl
  m16 := by kernel_rfl }
open Go.RowKit in
/-- strconv.rangeError: '&NumError{fn, stringslite.Clone(str), ErrRange}': A POINTER TO A NEW BLOCK that holds fn, str's bytes, and what the variable ErrRange holds. Of what was there nothing has turned. (LAID: no walk: one application.) -/
theorem Tryd.strconv_rangeError (fn s : ByteArray) (ev : Value) (w : World) (hlim : s.size ≤ 281474976710656) (hv : w.cell? ⟨7, 0, none⟩ = some ev) (hev : ev = .nilIface ∨ ∃ te pe, ev = .iface te pe) :
    Calls Tryd.prog 90 #[.string fn, .string s] w fun e w' => ∃ N, e = .returned (.pointer (some ⟨N, 0, none⟩)) ∧ w.heap.size ≤ N ∧ w'.heap[N]? = some (.cells #[.string fn, .string s, ev] 145 (0, 0)) ∧ Below w.heap.size w w' := Any.strconv_rangeError Tryd.laysM280 fn s ev w hlim hv hev
open Go.RowKit in
/-- strconv.toError, at the inner package's ErrRange: 'rangeError(fn, s)' as an error: A *NumError IN A NEW BLOCK. (LAID: no walk: one application.) -/
theorem Tryd.strconv_toError_range (fn s : ByteArray) (base bits : Int) (ev : Value) (w : World) (hlim : s.size ≤ 281474976710656) (hv : w.cell? ⟨7, 0, none⟩ = some ev) (hev : ev = .nilIface ∨ ∃ te pe, ev = .iface te pe) :
    Calls Tryd.prog 80 #[.string fn, .string s, .int .i64 base, .int .i64 bits, .iface 134 (.int .i64 1)] w fun e w' => ∃ N, e = .returned (.iface 136 (.pointer (some ⟨N, 0, none⟩))) ∧ w.heap.size ≤ N ∧ w'.heap[N]? = some (.cells #[.string fn, .string s, ev] 145 (0, 0)) ∧ Below w.heap.size w w' := Any.strconv_toError_range Tryd.laysC245 fn s base bits ev w hlim hv hev
open Go.RowKit in
/-- internal/strconv.ParseUint("", base, bitSize): (0, ErrSyntax): the first test of the text. The world is as it was. (LAID: no walk: one application.) -/
theorem Tryd.internal_strconv_ParseUint_empty (base bits : Int) (w : World) :
    Calls Tryd.prog 79 #[.string ⟨#[]⟩, .int .i64 base, .int .i64 bits] w fun e w' => e = .returned (.tuple #[.int .u64 0, .iface 134 (.int .i64 2)]) ∧ w' = w := Any.internal_strconv_ParseUint_empty Tryd.lays287 base bits w
open Go.RowKit in
/-- internal/strconv.ParseUint(s, 10, 64), s NOT EMPTY: 'Lib.parseUint10 0' OF ITS BYTES: the number; or (0, ErrSyntax); or (the greatest uint64, ErrRange). The world behind the call: the one new row that '[]byte(s)' lays. (LAID: no walk: one application.) -/
theorem Tryd.internal_strconv_ParseUint_10_b64 (t : ByteArray) (hne : t.size ≠ 0) (hmax : t.size ≤ 9223372036854775806) (w : World) :
    Calls Tryd.prog 79 #[.string t, .int .i64 10, .int .i64 64] w fun e w' => e = .returned (Lib.uintTuple 134 (Lib.parseUint10 0 t.data.toList)) ∧ w' = Lib.bytesWorld w 5 t := Any.internal_strconv_ParseUint_10_b64 Tryd.lays287 t hne hmax w
open Go.RowKit in
/-- internal/strconv.ParseUint(s, 10, 32), s NOT EMPTY: 'Lib.parseUintM 4294967295 0' OF ITS BYTES: the number; or (0, ErrSyntax); or (the greatest uint32, ErrRange). The world behind the call: the one new row that '[]byte(s)' lays. (LAID: no walk: one application.) -/
theorem Tryd.internal_strconv_ParseUint_10_b32 (t : ByteArray) (hne : t.size ≠ 0) (hmax : t.size ≤ 9223372036854775806) (w : World) :
    Calls Tryd.prog 79 #[.string t, .int .i64 10, .int .i64 32] w fun e w' => e = .returned (Lib.uintTupleM 134 4294967295 (Lib.parseUintM 4294967295 0 t.data.toList)) ∧ w' = Lib.bytesWorld w 5 t := Any.internal_strconv_ParseUint_10_b32 Tryd.lays287 t hne hmax w
open Go.RowKit in
/-- internal/strconv.ParseUint(s, 10, 16), s NOT EMPTY: 'Lib.parseUintM 65535 0' OF ITS BYTES: the number; or (0, ErrSyntax); or (the greatest uint16, ErrRange). The world behind the call: the one new row that '[]byte(s)' lays. (LAID: no walk: one application.) -/
theorem Tryd.internal_strconv_ParseUint_10_b16 (t : ByteArray) (hne : t.size ≠ 0) (hmax : t.size ≤ 9223372036854775806) (w : World) :
    Calls Tryd.prog 79 #[.string t, .int .i64 10, .int .i64 16] w fun e w' => e = .returned (Lib.uintTupleM 134 65535 (Lib.parseUintM 65535 0 t.data.toList)) ∧ w' = Lib.bytesWorld w 5 t := Any.internal_strconv_ParseUint_10_b16 Tryd.lays287 t hne hmax w
open Go.RowKit in
/-- internal/strconv.ParseUint(s, 10, 8), s NOT EMPTY: 'Lib.parseUintM 255 0' OF ITS BYTES: the number; or (0, ErrSyntax); or (the greatest uint8, ErrRange). The world behind the call: the one new row that '[]byte(s)' lays. (LAID: no walk: one application.) -/
theorem Tryd.internal_strconv_ParseUint_10_b8 (t : ByteArray) (hne : t.size ≠ 0) (hmax : t.size ≤ 9223372036854775806) (w : World) :
    Calls Tryd.prog 79 #[.string t, .int .i64 10, .int .i64 8] w fun e w' => e = .returned (Lib.uintTupleM 134 255 (Lib.parseUintM 255 0 t.data.toList)) ∧ w' = Lib.bytesWorld w 5 t := Any.internal_strconv_ParseUint_10_b8 Tryd.lays287 t hne hmax w
open Go.RowKit in
/-- internal/strconv.ParseUint(s, 10, 0): 'Lib.parseUintB 64' OF ITS BYTES. The world: as it was (the empty string), or with the one new row that '[]byte(s)' lays. (LAID: no walk: one application.) -/
theorem Tryd.internal_strconv_ParseUint_10_at0 (t : ByteArray) (hmax : t.size ≤ 9223372036854775806) (w : World) :
    Calls Tryd.prog 79 #[.string t, .int .i64 10, .int .i64 0] w fun e w' => e = .returned (Lib.uintTupleM 134 18446744073709551615 (Lib.parseUintB 64 t.data.toList)) ∧ (w' = w ∨ w' = Lib.bytesWorld w 5 t) := Any.internal_strconv_ParseUint_10_at0 Tryd.lays287 t hmax w
open Go.RowKit in
/-- internal/strconv.ParseUint(s, 10, 64): 'Lib.parseUintB 64' OF ITS BYTES. The world: as it was (the empty string), or with the one new row that '[]byte(s)' lays. (LAID: no walk: one application.) -/
theorem Tryd.internal_strconv_ParseUint_10_at64 (t : ByteArray) (hmax : t.size ≤ 9223372036854775806) (w : World) :
    Calls Tryd.prog 79 #[.string t, .int .i64 10, .int .i64 64] w fun e w' => e = .returned (Lib.uintTupleM 134 18446744073709551615 (Lib.parseUintB 64 t.data.toList)) ∧ (w' = w ∨ w' = Lib.bytesWorld w 5 t) := Any.internal_strconv_ParseUint_10_at64 Tryd.lays287 t hmax w
open Go.RowKit in
/-- internal/strconv.ParseUint(s, 10, 32): 'Lib.parseUintB 32' OF ITS BYTES. The world: as it was (the empty string), or with the one new row that '[]byte(s)' lays. (LAID: no walk: one application.) -/
theorem Tryd.internal_strconv_ParseUint_10_at32 (t : ByteArray) (hmax : t.size ≤ 9223372036854775806) (w : World) :
    Calls Tryd.prog 79 #[.string t, .int .i64 10, .int .i64 32] w fun e w' => e = .returned (Lib.uintTupleM 134 4294967295 (Lib.parseUintB 32 t.data.toList)) ∧ (w' = w ∨ w' = Lib.bytesWorld w 5 t) := Any.internal_strconv_ParseUint_10_at32 Tryd.lays287 t hmax w
open Go.RowKit in
/-- internal/strconv.ParseUint(s, 10, 16): 'Lib.parseUintB 16' OF ITS BYTES. The world: as it was (the empty string), or with the one new row that '[]byte(s)' lays. (LAID: no walk: one application.) -/
theorem Tryd.internal_strconv_ParseUint_10_at16 (t : ByteArray) (hmax : t.size ≤ 9223372036854775806) (w : World) :
    Calls Tryd.prog 79 #[.string t, .int .i64 10, .int .i64 16] w fun e w' => e = .returned (Lib.uintTupleM 134 65535 (Lib.parseUintB 16 t.data.toList)) ∧ (w' = w ∨ w' = Lib.bytesWorld w 5 t) := Any.internal_strconv_ParseUint_10_at16 Tryd.lays287 t hmax w
open Go.RowKit in
/-- internal/strconv.ParseUint(s, 10, 8): 'Lib.parseUintB 8' OF ITS BYTES. The world: as it was (the empty string), or with the one new row that '[]byte(s)' lays. (LAID: no walk: one application.) -/
theorem Tryd.internal_strconv_ParseUint_10_at8 (t : ByteArray) (hmax : t.size ≤ 9223372036854775806) (w : World) :
    Calls Tryd.prog 79 #[.string t, .int .i64 10, .int .i64 8] w fun e w' => e = .returned (Lib.uintTupleM 134 255 (Lib.parseUintB 8 t.data.toList)) ∧ (w' = w ∨ w' = Lib.bytesWorld w 5 t) := Any.internal_strconv_ParseUint_10_at8 Tryd.lays287 t hmax w
def Tryd.laysPu14_ren : Go.Shelf.Ren := ⟨fun | 14 => 66 | 16 => 79 | 17 => 80 | 19 => 87 | 20 => 88 | 21 => 89 | 22 => 90 | 23 => 91 | 24 => 92 | 25 => 95 | 27 => 34 | 26 => 96 | 28 => 41 | 29 => 50 | 30 => 60 | 31 => 61 | 32 => 62 | 33 => 63 | 35 => 71 | 34 => 70 | 36 => 72 | 37 => 73 | 38 => 74 | 39 => 85 | 40 => 86 | n => n, fun | 9 => 9 | 3 => 3 | 22 => 51 | 24 => 112 | 25 => 113 | 4 => 4 | 34 => 134 | 5 => 5 | 36 => 87 | 37 => 23 | 0 => 0 | 39 => 136 | 21 => 21 | 44 => 145 | 47 => 147 | 50 => 150 | 48 => 148 | 2 => 2 | 52 => 104 | 55 => 107 | 59 => 117 | 60 => 72 | 20 => 20 | 61 => 118 | 65 => 141 | 66 => 142 | 67 => 151 | n => n, fun | 0 => 6 | 1 => 7 | 2 => 0 | 3 => 4 | 4 => 5 | n => n⟩
theorem Tryd.laysPu14 : Go.Proofs.LaysPu.n14 Tryd.prog Tryd.laysPu14_ren := {
  mixed := by kernel_rfl
  f14 := Tryd.func66.trans (congrArg some (by kernel_rfl))
  f16 := Tryd.func79.trans (congrArg some (by kernel_rfl))
  f17 := Tryd.func80.trans (congrArg some (by kernel_rfl))
  f19 := Tryd.func87.trans (congrArg some (by kernel_rfl))
  f20 := Tryd.func88.trans (congrArg some (by kernel_rfl))
  f21 := Tryd.func89.trans (congrArg some (by kernel_rfl))
  f22 := Tryd.func90.trans (congrArg some (by kernel_rfl))
  f23 := Tryd.func91.trans (congrArg some (by kernel_rfl))
  f24 := Tryd.func92.trans (congrArg some (by kernel_rfl))
  f25 := Tryd.func95.trans (congrArg some (by kernel_rfl))
  f26 := Tryd.func96.trans (congrArg some (by kernel_rfl))
  f27 := Tryd.func34.trans (congrArg some (by kernel_rfl))
  f28 := Tryd.func41.trans (congrArg some (by kernel_rfl))
  f29 := Tryd.func50.trans (congrArg some (by kernel_rfl))
  f30 := Tryd.func60.trans (congrArg some (by kernel_rfl))
  f31 := Tryd.func61.trans (congrArg some (by kernel_rfl))
  f32 := Tryd.func62.trans (congrArg some (by kernel_rfl))
  f33 := Tryd.func63.trans (congrArg some (by kernel_rfl))
  f34 := Tryd.func70.trans (congrArg some (by kernel_rfl))
  f35 := Tryd.func71.trans (congrArg some (by kernel_rfl))
  f36 := Tryd.func72.trans (congrArg some (by kernel_rfl))
  f37 := Tryd.func73.trans (congrArg some (by kernel_rfl))
  f38 := Tryd.func74.trans (congrArg some (by kernel_rfl))
  f39 := Tryd.func85.trans (congrArg some (by kernel_rfl))
  f40 := Tryd.func86.trans (congrArg some (by kernel_rfl))
  t0 := Tryd.underlying0
  a0 := Tryd.isAgg0
  z0 := Tryd.sizeOf0
  v0 := Tryd.zeroValue0
  i0 := by kernel_rfl
  t2 := Tryd.underlying2
  a2 := Tryd.isAgg2
  z2 := Tryd.sizeOf2
  v2 := Tryd.zeroValue2
  i2 := by kernel_rfl
  t3 := Tryd.underlying3
  a3 := Tryd.isAgg3
  z3 := Tryd.sizeOf3
  v3 := Tryd.zeroValue3
  i3 := by kernel_rfl
  t4 := Tryd.underlying4
  a4 := Tryd.isAgg4
  z4 := Tryd.sizeOf4
  v4 := Tryd.zeroValue4
  i4 := by kernel_rfl
  t5 := Tryd.underlying5
  a5 := Tryd.isAgg5
  z5 := Tryd.sizeOf5
  v5 := Tryd.zeroValue5
  i5 := by kernel_rfl
  t9 := Tryd.underlying9
  a9 := Tryd.isAgg9
  z9 := Tryd.sizeOf9
  v9 := Tryd.zeroValue9
  i9 := by kernel_rfl
  t20 := Tryd.underlying20
  a20 := Tryd.isAgg20
  z20 := Tryd.sizeOf20
  v20 := Tryd.zeroValue20
  i20 := by kernel_rfl
  t21 := Tryd.underlying21
  a21 := Tryd.isAgg21
  z21 := Tryd.sizeOf21
  v21 := Tryd.zeroValue21
  i21 := by kernel_rfl
  t22 := Tryd.underlying51
  a22 := Tryd.isAgg51
  z22 := Tryd.sizeOf51
  v22 := Tryd.zeroValue51
  i22 := by kernel_rfl
  t24 := Tryd.underlying112
  a24 := Tryd.isAgg112
  z24 := Tryd.sizeOf112
  v24 := Tryd.zeroValue112
  i24 := by kernel_rfl
  t25 := Tryd.underlying113
  a25 := Tryd.isAgg113
  z25 := Tryd.sizeOf113
  v25 := Tryd.zeroValue113
  i25 := by kernel_rfl
  t34 := Tryd.underlying134
  a34 := Tryd.isAgg134
  z34 := Tryd.sizeOf134
  v34 := Tryd.zeroValue134
  i34 := by kernel_rfl
  c34 := by kernel_rfl
  t36 := Tryd.underlying87
  a36 := Tryd.isAgg87
  z36 := Tryd.sizeOf87
  v36 := Tryd.zeroValue87
  i36 := by kernel_rfl
  t37 := Tryd.underlying23
  a37 := Tryd.isAgg23
  z37 := Tryd.sizeOf23
  v37 := Tryd.zeroValue23
  i37 := by kernel_rfl
  t39 := Tryd.underlying136
  a39 := Tryd.isAgg136
  z39 := Tryd.sizeOf136
  v39 := Tryd.zeroValue136
  i39 := by kernel_rfl
  t44 := Tryd.underlying145
  a44 := Tryd.isAgg145
  z44 := Tryd.sizeOf145
  v44 := Tryd.zeroValue145
  i44 := by kernel_rfl
  t47 := Tryd.underlying147
  a47 := Tryd.isAgg147
  z47 := Tryd.sizeOf147
  v47 := Tryd.zeroValue147
  i47 := by kernel_rfl
  t48 := Tryd.underlying148
  a48 := Tryd.isAgg148
  z48 := Tryd.sizeOf148
  v48 := Tryd.zeroValue148
  i48 := by kernel_rfl
  t50 := Tryd.underlying150
  a50 := Tryd.isAgg150
  z50 := Tryd.sizeOf150
  v50 := Tryd.zeroValue150
  i50 := by kernel_rfl
  t52 := Tryd.underlying104
  a52 := Tryd.isAgg104
  z52 := Tryd.sizeOf104
  v52 := Tryd.zeroValue104
  i52 := by kernel_rfl
  t55 := Tryd.underlying107
  a55 := Tryd.isAgg107
  z55 := Tryd.sizeOf107
  v55 := Tryd.zeroValue107
  i55 := by kernel_rfl
  t59 := Tryd.underlying117
  a59 := Tryd.isAgg117
  z59 := Tryd.sizeOf117
  v59 := Tryd.zeroValue117
  i59 := by kernel_rfl
  t60 := Tryd.underlying72
  a60 := Tryd.isAgg72
  z60 := Tryd.sizeOf72
  v60 := Tryd.zeroValue72
  i60 := by kernel_rfl
  t61 := Tryd.underlying118
  a61 := Tryd.isAgg118
  z61 := Tryd.sizeOf118
  t65 := Tryd.underlying141
  a65 := Tryd.isAgg141
  z65 := Tryd.sizeOf141
  v65 := Tryd.zeroValue141
  i65 := by kernel_rfl
  t66 := Tryd.underlying142
  a66 := Tryd.isAgg142
  z66 := Tryd.sizeOf142
  v66 := Tryd.zeroValue142
  i66 := by kernel_rfl
  t67 := Tryd.underlying151
  a67 := Tryd.isAgg151
  z67 := Tryd.sizeOf151
  v67 := Tryd.zeroValue151
  i67 := by kernel_rfl
  g0 := by kernel_rfl
  m0 := by kernel_rfl
  g1 := by kernel_rfl
  m1 := by kernel_rfl
  g2 := by kernel_rfl
  m2 := by kernel_rfl
  g3 := by kernel_rfl
  m3 := by kernel_rfl
  g4 := by kernel_rfl
  m4 := by kernel_rfl }
open Go.RowKit in
/-- strconv.ParseUint(s, 10, 0), AT EVERY STRING THAT SPELLS A uint64 ('Lib.parseUintB 64 s.data.toList = .ok u'): u, AND NO ERROR. (LAID: no walk: one application.) -/
theorem Tryd.strconv_ParseUint_10_at0_ok (s : ByteArray) (hmax : s.size ≤ 9223372036854775806) (u : Nat) (h : Lib.parseUintB 64 s.data.toList = .ok u) (w : World) :
    Calls Tryd.prog 66 #[.string s, .int .i64 10, .int .i64 0] w fun e w' => e = .returned (.tuple #[.int .u64 u, .nilIface]) ∧ (w' = w ∨ w' = Lib.bytesWorld w 5 s) := Any.strconv_ParseUint_10_at0_ok Tryd.laysPu14 s hmax u h w
open Go.RowKit in
/-- strconv.ParseUint(s, 10, 0), AT EVERY STRING THAT IS NO ROW OF DECIMAL DIGITS (a sign is a fault): 0, AND AN ERROR THAT IS NOT nil: a *NumError in a new block N: {Func: "ParseUint", Num: s's bytes, Err: what the variable ErrSyntax holds}. Of what was there nothing has turned. (LAID: no walk: one application.) -/
theorem Tryd.strconv_ParseUint_10_at0_syntax (s : ByteArray) (hlim : s.size ≤ 281474976710656) (h : Lib.parseUintB 64 s.data.toList = .«syntax») (ev : Value) (w : World) (hv : w.cell? ⟨6, 0, none⟩ = some ev) (hev : ev = .nilIface ∨ ∃ te pe, ev = .iface te pe) :
    Calls Tryd.prog 66 #[.string s, .int .i64 10, .int .i64 0] w fun e w' => ∃ N, e = .returned (.tuple #[.int .u64 0, .iface 136 (.pointer (some ⟨N, 0, none⟩))]) ∧ w.heap.size ≤ N ∧ w'.heap[N]? = some (.cells #[.string ⟨#[80, 97, 114, 115, 101, 85, 105, 110, 116]⟩, .string s, ev] 145 (0, 0)) ∧ Below w.heap.size w w' := Any.strconv_ParseUint_10_at0_syntax Tryd.laysPu14 s hlim h ev w hv hev
open Go.RowKit in
/-- strconv.ParseUint(s, 10, 0), AT EVERY NUMERAL THAT NO uint64 HOLDS: THE GREATEST uint64, AND AN ERROR THAT IS NOT nil: a *NumError in a new block N: {Func: "ParseUint", Num: s's bytes, Err: what the variable ErrRange holds}. Of what was there nothing has turned. (LAID: no walk: one application.) -/
theorem Tryd.strconv_ParseUint_10_at0_range (s : ByteArray) (hlim : s.size ≤ 281474976710656) (h : Lib.parseUintB 64 s.data.toList = .range) (ev : Value) (w : World) (hv : w.cell? ⟨7, 0, none⟩ = some ev) (hev : ev = .nilIface ∨ ∃ te pe, ev = .iface te pe) :
    Calls Tryd.prog 66 #[.string s, .int .i64 10, .int .i64 0] w fun e w' => ∃ N, e = .returned (.tuple #[.int .u64 18446744073709551615, .iface 136 (.pointer (some ⟨N, 0, none⟩))]) ∧ w.heap.size ≤ N ∧ w'.heap[N]? = some (.cells #[.string ⟨#[80, 97, 114, 115, 101, 85, 105, 110, 116]⟩, .string s, ev] 145 (0, 0)) ∧ Below w.heap.size w w' := Any.strconv_ParseUint_10_at0_range Tryd.laysPu14 s hlim h ev w hv hev
open Go.RowKit in
/-- strconv.ParseUint(s, 10, 64), AT EVERY STRING THAT SPELLS A uint64 ('Lib.parseUintB 64 s.data.toList = .ok u'): u, AND NO ERROR. (LAID: no walk: one application.) -/
theorem Tryd.strconv_ParseUint_10_at64_ok (s : ByteArray) (hmax : s.size ≤ 9223372036854775806) (u : Nat) (h : Lib.parseUintB 64 s.data.toList = .ok u) (w : World) :
    Calls Tryd.prog 66 #[.string s, .int .i64 10, .int .i64 64] w fun e w' => e = .returned (.tuple #[.int .u64 u, .nilIface]) ∧ (w' = w ∨ w' = Lib.bytesWorld w 5 s) := Any.strconv_ParseUint_10_at64_ok Tryd.laysPu14 s hmax u h w
open Go.RowKit in
/-- strconv.ParseUint(s, 10, 64), AT EVERY STRING THAT IS NO ROW OF DECIMAL DIGITS (a sign is a fault): 0, AND AN ERROR THAT IS NOT nil: a *NumError in a new block N: {Func: "ParseUint", Num: s's bytes, Err: what the variable ErrSyntax holds}. Of what was there nothing has turned. (LAID: no walk: one application.) -/
theorem Tryd.strconv_ParseUint_10_at64_syntax (s : ByteArray) (hlim : s.size ≤ 281474976710656) (h : Lib.parseUintB 64 s.data.toList = .«syntax») (ev : Value) (w : World) (hv : w.cell? ⟨6, 0, none⟩ = some ev) (hev : ev = .nilIface ∨ ∃ te pe, ev = .iface te pe) :
    Calls Tryd.prog 66 #[.string s, .int .i64 10, .int .i64 64] w fun e w' => ∃ N, e = .returned (.tuple #[.int .u64 0, .iface 136 (.pointer (some ⟨N, 0, none⟩))]) ∧ w.heap.size ≤ N ∧ w'.heap[N]? = some (.cells #[.string ⟨#[80, 97, 114, 115, 101, 85, 105, 110, 116]⟩, .string s, ev] 145 (0, 0)) ∧ Below w.heap.size w w' := Any.strconv_ParseUint_10_at64_syntax Tryd.laysPu14 s hlim h ev w hv hev
open Go.RowKit in
/-- strconv.ParseUint(s, 10, 64), AT EVERY NUMERAL THAT NO uint64 HOLDS: THE GREATEST uint64, AND AN ERROR THAT IS NOT nil: a *NumError in a new block N: {Func: "ParseUint", Num: s's bytes, Err: what the variable ErrRange holds}. Of what was there nothing has turned. (LAID: no walk: one application.) -/
theorem Tryd.strconv_ParseUint_10_at64_range (s : ByteArray) (hlim : s.size ≤ 281474976710656) (h : Lib.parseUintB 64 s.data.toList = .range) (ev : Value) (w : World) (hv : w.cell? ⟨7, 0, none⟩ = some ev) (hev : ev = .nilIface ∨ ∃ te pe, ev = .iface te pe) :
    Calls Tryd.prog 66 #[.string s, .int .i64 10, .int .i64 64] w fun e w' => ∃ N, e = .returned (.tuple #[.int .u64 18446744073709551615, .iface 136 (.pointer (some ⟨N, 0, none⟩))]) ∧ w.heap.size ≤ N ∧ w'.heap[N]? = some (.cells #[.string ⟨#[80, 97, 114, 115, 101, 85, 105, 110, 116]⟩, .string s, ev] 145 (0, 0)) ∧ Below w.heap.size w w' := Any.strconv_ParseUint_10_at64_range Tryd.laysPu14 s hlim h ev w hv hev
open Go.RowKit in
/-- strconv.ParseUint(s, 10, 32), AT EVERY STRING THAT SPELLS A uint32 ('Lib.parseUintB 32 s.data.toList = .ok u'): u, AND NO ERROR. (LAID: no walk: one application.) -/
theorem Tryd.strconv_ParseUint_10_at32_ok (s : ByteArray) (hmax : s.size ≤ 9223372036854775806) (u : Nat) (h : Lib.parseUintB 32 s.data.toList = .ok u) (w : World) :
    Calls Tryd.prog 66 #[.string s, .int .i64 10, .int .i64 32] w fun e w' => e = .returned (.tuple #[.int .u64 u, .nilIface]) ∧ (w' = w ∨ w' = Lib.bytesWorld w 5 s) := Any.strconv_ParseUint_10_at32_ok Tryd.laysPu14 s hmax u h w
open Go.RowKit in
/-- strconv.ParseUint(s, 10, 32), AT EVERY STRING THAT IS NO ROW OF DECIMAL DIGITS (a sign is a fault): 0, AND AN ERROR THAT IS NOT nil: a *NumError in a new block N: {Func: "ParseUint", Num: s's bytes, Err: what the variable ErrSyntax holds}. Of what was there nothing has turned. (LAID: no walk: one application.) -/
theorem Tryd.strconv_ParseUint_10_at32_syntax (s : ByteArray) (hlim : s.size ≤ 281474976710656) (h : Lib.parseUintB 32 s.data.toList = .«syntax») (ev : Value) (w : World) (hv : w.cell? ⟨6, 0, none⟩ = some ev) (hev : ev = .nilIface ∨ ∃ te pe, ev = .iface te pe) :
    Calls Tryd.prog 66 #[.string s, .int .i64 10, .int .i64 32] w fun e w' => ∃ N, e = .returned (.tuple #[.int .u64 0, .iface 136 (.pointer (some ⟨N, 0, none⟩))]) ∧ w.heap.size ≤ N ∧ w'.heap[N]? = some (.cells #[.string ⟨#[80, 97, 114, 115, 101, 85, 105, 110, 116]⟩, .string s, ev] 145 (0, 0)) ∧ Below w.heap.size w w' := Any.strconv_ParseUint_10_at32_syntax Tryd.laysPu14 s hlim h ev w hv hev
open Go.RowKit in
/-- strconv.ParseUint(s, 10, 32), AT EVERY NUMERAL THAT NO uint32 HOLDS: THE GREATEST uint32, AND AN ERROR THAT IS NOT nil: a *NumError in a new block N: {Func: "ParseUint", Num: s's bytes, Err: what the variable ErrRange holds}. Of what was there nothing has turned. (LAID: no walk: one application.) -/
theorem Tryd.strconv_ParseUint_10_at32_range (s : ByteArray) (hlim : s.size ≤ 281474976710656) (h : Lib.parseUintB 32 s.data.toList = .range) (ev : Value) (w : World) (hv : w.cell? ⟨7, 0, none⟩ = some ev) (hev : ev = .nilIface ∨ ∃ te pe, ev = .iface te pe) :
    Calls Tryd.prog 66 #[.string s, .int .i64 10, .int .i64 32] w fun e w' => ∃ N, e = .returned (.tuple #[.int .u64 4294967295, .iface 136 (.pointer (some ⟨N, 0, none⟩))]) ∧ w.heap.size ≤ N ∧ w'.heap[N]? = some (.cells #[.string ⟨#[80, 97, 114, 115, 101, 85, 105, 110, 116]⟩, .string s, ev] 145 (0, 0)) ∧ Below w.heap.size w w' := Any.strconv_ParseUint_10_at32_range Tryd.laysPu14 s hlim h ev w hv hev
open Go.RowKit in
/-- strconv.ParseUint(s, 10, 16), AT EVERY STRING THAT SPELLS A uint16 ('Lib.parseUintB 16 s.data.toList = .ok u'): u, AND NO ERROR. (LAID: no walk: one application.) -/
theorem Tryd.strconv_ParseUint_10_at16_ok (s : ByteArray) (hmax : s.size ≤ 9223372036854775806) (u : Nat) (h : Lib.parseUintB 16 s.data.toList = .ok u) (w : World) :
    Calls Tryd.prog 66 #[.string s, .int .i64 10, .int .i64 16] w fun e w' => e = .returned (.tuple #[.int .u64 u, .nilIface]) ∧ (w' = w ∨ w' = Lib.bytesWorld w 5 s) := Any.strconv_ParseUint_10_at16_ok Tryd.laysPu14 s hmax u h w
open Go.RowKit in
/-- strconv.ParseUint(s, 10, 16), AT EVERY STRING THAT IS NO ROW OF DECIMAL DIGITS (a sign is a fault): 0, AND AN ERROR THAT IS NOT nil: a *NumError in a new block N: {Func: "ParseUint", Num: s's bytes, Err: what the variable ErrSyntax holds}. Of what was there nothing has turned. (LAID: no walk: one application.) -/
theorem Tryd.strconv_ParseUint_10_at16_syntax (s : ByteArray) (hlim : s.size ≤ 281474976710656) (h : Lib.parseUintB 16 s.data.toList = .«syntax») (ev : Value) (w : World) (hv : w.cell? ⟨6, 0, none⟩ = some ev) (hev : ev = .nilIface ∨ ∃ te pe, ev = .iface te pe) :
    Calls Tryd.prog 66 #[.string s, .int .i64 10, .int .i64 16] w fun e w' => ∃ N, e = .returned (.tuple #[.int .u64 0, .iface 136 (.pointer (some ⟨N, 0, none⟩))]) ∧ w.heap.size ≤ N ∧ w'.heap[N]? = some (.cells #[.string ⟨#[80, 97, 114, 115, 101, 85, 105, 110, 116]⟩, .string s, ev] 145 (0, 0)) ∧ Below w.heap.size w w' := Any.strconv_ParseUint_10_at16_syntax Tryd.laysPu14 s hlim h ev w hv hev
open Go.RowKit in
/-- strconv.ParseUint(s, 10, 16), AT EVERY NUMERAL THAT NO uint16 HOLDS: THE GREATEST uint16, AND AN ERROR THAT IS NOT nil: a *NumError in a new block N: {Func: "ParseUint", Num: s's bytes, Err: what the variable ErrRange holds}. Of what was there nothing has turned. (LAID: no walk: one application.) -/
theorem Tryd.strconv_ParseUint_10_at16_range (s : ByteArray) (hlim : s.size ≤ 281474976710656) (h : Lib.parseUintB 16 s.data.toList = .range) (ev : Value) (w : World) (hv : w.cell? ⟨7, 0, none⟩ = some ev) (hev : ev = .nilIface ∨ ∃ te pe, ev = .iface te pe) :
    Calls Tryd.prog 66 #[.string s, .int .i64 10, .int .i64 16] w fun e w' => ∃ N, e = .returned (.tuple #[.int .u64 65535, .iface 136 (.pointer (some ⟨N, 0, none⟩))]) ∧ w.heap.size ≤ N ∧ w'.heap[N]? = some (.cells #[.string ⟨#[80, 97, 114, 115, 101, 85, 105, 110, 116]⟩, .string s, ev] 145 (0, 0)) ∧ Below w.heap.size w w' := Any.strconv_ParseUint_10_at16_range Tryd.laysPu14 s hlim h ev w hv hev
open Go.RowKit in
/-- strconv.ParseUint(s, 10, 8), AT EVERY STRING THAT SPELLS A uint8 ('Lib.parseUintB 8 s.data.toList = .ok u'): u, AND NO ERROR. (LAID: no walk: one application.) -/
theorem Tryd.strconv_ParseUint_10_at8_ok (s : ByteArray) (hmax : s.size ≤ 9223372036854775806) (u : Nat) (h : Lib.parseUintB 8 s.data.toList = .ok u) (w : World) :
    Calls Tryd.prog 66 #[.string s, .int .i64 10, .int .i64 8] w fun e w' => e = .returned (.tuple #[.int .u64 u, .nilIface]) ∧ (w' = w ∨ w' = Lib.bytesWorld w 5 s) := Any.strconv_ParseUint_10_at8_ok Tryd.laysPu14 s hmax u h w
open Go.RowKit in
/-- strconv.ParseUint(s, 10, 8), AT EVERY STRING THAT IS NO ROW OF DECIMAL DIGITS (a sign is a fault): 0, AND AN ERROR THAT IS NOT nil: a *NumError in a new block N: {Func: "ParseUint", Num: s's bytes, Err: what the variable ErrSyntax holds}. Of what was there nothing has turned. (LAID: no walk: one application.) -/
theorem Tryd.strconv_ParseUint_10_at8_syntax (s : ByteArray) (hlim : s.size ≤ 281474976710656) (h : Lib.parseUintB 8 s.data.toList = .«syntax») (ev : Value) (w : World) (hv : w.cell? ⟨6, 0, none⟩ = some ev) (hev : ev = .nilIface ∨ ∃ te pe, ev = .iface te pe) :
    Calls Tryd.prog 66 #[.string s, .int .i64 10, .int .i64 8] w fun e w' => ∃ N, e = .returned (.tuple #[.int .u64 0, .iface 136 (.pointer (some ⟨N, 0, none⟩))]) ∧ w.heap.size ≤ N ∧ w'.heap[N]? = some (.cells #[.string ⟨#[80, 97, 114, 115, 101, 85, 105, 110, 116]⟩, .string s, ev] 145 (0, 0)) ∧ Below w.heap.size w w' := Any.strconv_ParseUint_10_at8_syntax Tryd.laysPu14 s hlim h ev w hv hev
open Go.RowKit in
/-- strconv.ParseUint(s, 10, 8), AT EVERY NUMERAL THAT NO uint8 HOLDS: THE GREATEST uint8, AND AN ERROR THAT IS NOT nil: a *NumError in a new block N: {Func: "ParseUint", Num: s's bytes, Err: what the variable ErrRange holds}. Of what was there nothing has turned. (LAID: no walk: one application.) -/
theorem Tryd.strconv_ParseUint_10_at8_range (s : ByteArray) (hlim : s.size ≤ 281474976710656) (h : Lib.parseUintB 8 s.data.toList = .range) (ev : Value) (w : World) (hv : w.cell? ⟨7, 0, none⟩ = some ev) (hev : ev = .nilIface ∨ ∃ te pe, ev = .iface te pe) :
    Calls Tryd.prog 66 #[.string s, .int .i64 10, .int .i64 8] w fun e w' => ∃ N, e = .returned (.tuple #[.int .u64 255, .iface 136 (.pointer (some ⟨N, 0, none⟩))]) ∧ w.heap.size ≤ N ∧ w'.heap[N]? = some (.cells #[.string ⟨#[80, 97, 114, 115, 101, 85, 105, 110, 116]⟩, .string s, ev] 145 (0, 0)) ∧ Below w.heap.size w w' := Any.strconv_ParseUint_10_at8_range Tryd.laysPu14 s hlim h ev w hv hev
open Go.RowKit in
theorem Tryd.strconv_ParseUint_10_at0_syntax_var (s : ByteArray) (hlim : s.size ≤ 281474976710656) (h : Lib.parseUintB 64 s.data.toList = .«syntax») (tp : TypeId) (p : Value) (w : World) (hvar : w.var? Tryd.prog "strconv.ErrSyntax" = some #[.iface tp p]) :
    Calls Tryd.prog 66 #[.string s, .int .i64 10, .int .i64 0] w fun e w' => ∃ N, e = .returned (.tuple #[.int .u64 0, .iface 136 (.pointer (some ⟨N, 0, none⟩))]) ∧ w.heap.size ≤ N ∧ w'.heap[N]? = some (.cells #[.string ⟨#[80, 97, 114, 115, 101, 85, 105, 110, 116]⟩, .string s, .iface tp p] 145 (0, 0)) ∧ Below w.heap.size w w' := Any.strconv_ParseUint_10_at0_syntax_var Tryd.laysPu14 s hlim h tp p w hvar
open Go.RowKit in
theorem Tryd.strconv_ParseUint_10_at0_range_var (s : ByteArray) (hlim : s.size ≤ 281474976710656) (h : Lib.parseUintB 64 s.data.toList = .range) (tp : TypeId) (p : Value) (w : World) (hvar : w.var? Tryd.prog "strconv.ErrRange" = some #[.iface tp p]) :
    Calls Tryd.prog 66 #[.string s, .int .i64 10, .int .i64 0] w fun e w' => ∃ N, e = .returned (.tuple #[.int .u64 18446744073709551615, .iface 136 (.pointer (some ⟨N, 0, none⟩))]) ∧ w.heap.size ≤ N ∧ w'.heap[N]? = some (.cells #[.string ⟨#[80, 97, 114, 115, 101, 85, 105, 110, 116]⟩, .string s, .iface tp p] 145 (0, 0)) ∧ Below w.heap.size w w' := Any.strconv_ParseUint_10_at0_range_var Tryd.laysPu14 s hlim h tp p w hvar
open Go.RowKit in
theorem Tryd.strconv_ParseUint_10_at64_syntax_var (s : ByteArray) (hlim : s.size ≤ 281474976710656) (h : Lib.parseUintB 64 s.data.toList = .«syntax») (tp : TypeId) (p : Value) (w : World) (hvar : w.var? Tryd.prog "strconv.ErrSyntax" = some #[.iface tp p]) :
    Calls Tryd.prog 66 #[.string s, .int .i64 10, .int .i64 64] w fun e w' => ∃ N, e = .returned (.tuple #[.int .u64 0, .iface 136 (.pointer (some ⟨N, 0, none⟩))]) ∧ w.heap.size ≤ N ∧ w'.heap[N]? = some (.cells #[.string ⟨#[80, 97, 114, 115, 101, 85, 105, 110, 116]⟩, .string s, .iface tp p] 145 (0, 0)) ∧ Below w.heap.size w w' := Any.strconv_ParseUint_10_at64_syntax_var Tryd.laysPu14 s hlim h tp p w hvar
open Go.RowKit in
theorem Tryd.strconv_ParseUint_10_at64_range_var (s : ByteArray) (hlim : s.size ≤ 281474976710656) (h : Lib.parseUintB 64 s.data.toList = .range) (tp : TypeId) (p : Value) (w : World) (hvar : w.var? Tryd.prog "strconv.ErrRange" = some #[.iface tp p]) :
    Calls Tryd.prog 66 #[.string s, .int .i64 10, .int .i64 64] w fun e w' => ∃ N, e = .returned (.tuple #[.int .u64 18446744073709551615, .iface 136 (.pointer (some ⟨N, 0, none⟩))]) ∧ w.heap.size ≤ N ∧ w'.heap[N]? = some (.cells #[.string ⟨#[80, 97, 114, 115, 101, 85, 105, 110, 116]⟩, .string s, .iface tp p] 145 (0, 0)) ∧ Below w.heap.size w w' := Any.strconv_ParseUint_10_at64_range_var Tryd.laysPu14 s hlim h tp p w hvar
open Go.RowKit in
theorem Tryd.strconv_ParseUint_10_at32_syntax_var (s : ByteArray) (hlim : s.size ≤ 281474976710656) (h : Lib.parseUintB 32 s.data.toList = .«syntax») (tp : TypeId) (p : Value) (w : World) (hvar : w.var? Tryd.prog "strconv.ErrSyntax" = some #[.iface tp p]) :
    Calls Tryd.prog 66 #[.string s, .int .i64 10, .int .i64 32] w fun e w' => ∃ N, e = .returned (.tuple #[.int .u64 0, .iface 136 (.pointer (some ⟨N, 0, none⟩))]) ∧ w.heap.size ≤ N ∧ w'.heap[N]? = some (.cells #[.string ⟨#[80, 97, 114, 115, 101, 85, 105, 110, 116]⟩, .string s, .iface tp p] 145 (0, 0)) ∧ Below w.heap.size w w' := Any.strconv_ParseUint_10_at32_syntax_var Tryd.laysPu14 s hlim h tp p w hvar
open Go.RowKit in
theorem Tryd.strconv_ParseUint_10_at32_range_var (s : ByteArray) (hlim : s.size ≤ 281474976710656) (h : Lib.parseUintB 32 s.data.toList = .range) (tp : TypeId) (p : Value) (w : World) (hvar : w.var? Tryd.prog "strconv.ErrRange" = some #[.iface tp p]) :
    Calls Tryd.prog 66 #[.string s, .int .i64 10, .int .i64 32] w fun e w' => ∃ N, e = .returned (.tuple #[.int .u64 4294967295, .iface 136 (.pointer (some ⟨N, 0, none⟩))]) ∧ w.heap.size ≤ N ∧ w'.heap[N]? = some (.cells #[.string ⟨#[80, 97, 114, 115, 101, 85, 105, 110, 116]⟩, .string s, .iface tp p] 145 (0, 0)) ∧ Below w.heap.size w w' := Any.strconv_ParseUint_10_at32_range_var Tryd.laysPu14 s hlim h tp p w hvar
open Go.RowKit in
theorem Tryd.strconv_ParseUint_10_at16_syntax_var (s : ByteArray) (hlim : s.size ≤ 281474976710656) (h : Lib.parseUintB 16 s.data.toList = .«syntax») (tp : TypeId) (p : Value) (w : World) (hvar : w.var? Tryd.prog "strconv.ErrSyntax" = some #[.iface tp p]) :
    Calls Tryd.prog 66 #[.string s, .int .i64 10, .int .i64 16] w fun e w' => ∃ N, e = .returned (.tuple #[.int .u64 0, .iface 136 (.pointer (some ⟨N, 0, none⟩))]) ∧ w.heap.size ≤ N ∧ w'.heap[N]? = some (.cells #[.string ⟨#[80, 97, 114, 115, 101, 85, 105, 110, 116]⟩, .string s, .iface tp p] 145 (0, 0)) ∧ Below w.heap.size w w' := Any.strconv_ParseUint_10_at16_syntax_var Tryd.laysPu14 s hlim h tp p w hvar
open Go.RowKit in
theorem Tryd.strconv_ParseUint_10_at16_range_var (s : ByteArray) (hlim : s.size ≤ 281474976710656) (h : Lib.parseUintB 16 s.data.toList = .range) (tp : TypeId) (p : Value) (w : World) (hvar : w.var? Tryd.prog "strconv.ErrRange" = some #[.iface tp p]) :
    Calls Tryd.prog 66 #[.string s, .int .i64 10, .int .i64 16] w fun e w' => ∃ N, e = .returned (.tuple #[.int .u64 65535, .iface 136 (.pointer (some ⟨N, 0, none⟩))]) ∧ w.heap.size ≤ N ∧ w'.heap[N]? = some (.cells #[.string ⟨#[80, 97, 114, 115, 101, 85, 105, 110, 116]⟩, .string s, .iface tp p] 145 (0, 0)) ∧ Below w.heap.size w w' := Any.strconv_ParseUint_10_at16_range_var Tryd.laysPu14 s hlim h tp p w hvar
open Go.RowKit in
theorem Tryd.strconv_ParseUint_10_at8_syntax_var (s : ByteArray) (hlim : s.size ≤ 281474976710656) (h : Lib.parseUintB 8 s.data.toList = .«syntax») (tp : TypeId) (p : Value) (w : World) (hvar : w.var? Tryd.prog "strconv.ErrSyntax" = some #[.iface tp p]) :
    Calls Tryd.prog 66 #[.string s, .int .i64 10, .int .i64 8] w fun e w' => ∃ N, e = .returned (.tuple #[.int .u64 0, .iface 136 (.pointer (some ⟨N, 0, none⟩))]) ∧ w.heap.size ≤ N ∧ w'.heap[N]? = some (.cells #[.string ⟨#[80, 97, 114, 115, 101, 85, 105, 110, 116]⟩, .string s, .iface tp p] 145 (0, 0)) ∧ Below w.heap.size w w' := Any.strconv_ParseUint_10_at8_syntax_var Tryd.laysPu14 s hlim h tp p w hvar
open Go.RowKit in
theorem Tryd.strconv_ParseUint_10_at8_range_var (s : ByteArray) (hlim : s.size ≤ 281474976710656) (h : Lib.parseUintB 8 s.data.toList = .range) (tp : TypeId) (p : Value) (w : World) (hvar : w.var? Tryd.prog "strconv.ErrRange" = some #[.iface tp p]) :
    Calls Tryd.prog 66 #[.string s, .int .i64 10, .int .i64 8] w fun e w' => ∃ N, e = .returned (.tuple #[.int .u64 255, .iface 136 (.pointer (some ⟨N, 0, none⟩))]) ∧ w.heap.size ≤ N ∧ w'.heap[N]? = some (.cells #[.string ⟨#[80, 97, 114, 115, 101, 85, 105, 110, 116]⟩, .string s, .iface tp p] 145 (0, 0)) ∧ Below w.heap.size w w' := Any.strconv_ParseUint_10_at8_range_var Tryd.laysPu14 s hlim h tp p w hvar
def Tryd.lays217_ren : Go.Shelf.Ren := ⟨fun | 217 => 81 | 266 => 93 | n => n, fun | 9 => 9 | 5 => 5 | 3 => 3 | n => n, fun | n => n⟩
theorem Tryd.lays217 : Go.Proofs.Lays.n217 Tryd.prog Tryd.lays217_ren := {
  mixed := by kernel_rfl
  f217 := Tryd.func81.trans (congrArg some (by kernel_rfl))
  f266 := Tryd.func93.trans (congrArg some (by kernel_rfl))
  t3 := Tryd.underlying3
  a3 := Tryd.isAgg3
  z3 := Tryd.sizeOf3
  v3 := Tryd.zeroValue3
  t5 := Tryd.underlying5
  a5 := Tryd.isAgg5
  z5 := Tryd.sizeOf5
  v5 := Tryd.zeroValue5
  t9 := Tryd.underlying9
  a9 := Tryd.isAgg9
  z9 := Tryd.sizeOf9
  v9 := Tryd.zeroValue9 }
open Go.RowKit Go.Lib in
/-- internal/stringslite.IndexByte (what strings.IndexByte calls): IT RETURNS 'Lib.indexByte s c'; the world is as it was. (LAID: no walk: one application.) -/
theorem Tryd.stringslite_IndexByte (s : ByteArray) (c : Int) (w : World) :
    Calls Tryd.prog 81 #[.string s, .int .u8 c] w fun e w' => e = .returned (.int .i64 (Lib.indexByte s.data.toList c.toNat.toUInt8)) ∧ w' = w := Any.stringslite_IndexByte Tryd.lays217 s c w
def Tryd.lays224_ren : Go.Shelf.Ren := ⟨fun | 224 => 83 | n => n, fun | 3 => 3 | n => n, fun | n => n⟩
theorem Tryd.lays224 : Go.Proofs.Lays.n224 Tryd.prog Tryd.lays224_ren := {
  mixed := by kernel_rfl
  f224 := Tryd.func83.trans (congrArg some (by kernel_rfl))
  t3 := Tryd.underlying3
  a3 := Tryd.isAgg3
  z3 := Tryd.sizeOf3
  v3 := Tryd.zeroValue3 }
open Go.RowKit Go.Lib in
/-- internal/bytealg.Cutover: "Cutover reports the number of failures of IndexByte we should tolerate before switching over to Index. n is the number of bytes processed so far.": on amd64: (n + 16) / 8. (LAID: no walk: one application.) -/
theorem Tryd.bytealg_Cutover (n : Int) (h0 : 0 ≤ n) (h1 : n < 4611686018427387904) (w : World) :
    Calls Tryd.prog 83 #[.int .i64 n] w fun e w' => e = .returned (.int .i64 ((n + 16) / 8)) ∧ w' = w := Any.bytealg_Cutover Tryd.lays224 n h0 h1 w
def Tryd.lays314_ren : Go.Shelf.Ren := ⟨fun | 314 => 94 | n => n, fun | 9 => 9 | 51 => 72 | 3 => 3 | 4 => 4 | 5 => 5 | 46 => 87 | n => n, fun | n => n⟩
theorem Tryd.lays314 : Go.Proofs.Lays.n314 Tryd.prog Tryd.lays314_ren := {
  mixed := by kernel_rfl
  f314 := Tryd.func94.trans (congrArg some (by kernel_rfl))
  t3 := Tryd.underlying3
  a3 := Tryd.isAgg3
  z3 := Tryd.sizeOf3
  v3 := Tryd.zeroValue3
  t4 := Tryd.underlying4
  a4 := Tryd.isAgg4
  z4 := Tryd.sizeOf4
  v4 := Tryd.zeroValue4
  t5 := Tryd.underlying5
  a5 := Tryd.isAgg5
  z5 := Tryd.sizeOf5
  v5 := Tryd.zeroValue5
  t9 := Tryd.underlying9
  a9 := Tryd.isAgg9
  z9 := Tryd.sizeOf9
  v9 := Tryd.zeroValue9
  t46 := Tryd.underlying87
  a46 := Tryd.isAgg87
  z46 := Tryd.sizeOf87
  v46 := Tryd.zeroValue87
  t51 := Tryd.underlying72
  a51 := Tryd.isAgg72
  z51 := Tryd.sizeOf72
  v51 := Tryd.zeroValue72 }
open Go.RowKit Go.Lib in
/-- hashStr: "returns the hash and the appropriate multiplicative factor for use in Rabin-Karp algorithm": THE HASH OF ALL OF sep, AND 16777619 ^ len(sep), both in uint32. (LAID: no walk: one application.) -/
theorem Tryd.bytealg_hashStr (sep : ByteArray) (hs : sep.size < 4294967281) (w : World) :
    Calls Tryd.prog 94 #[.string sep] w fun e w' => e = .returned (.tuple #[.int .u32 (RK.H sep.data.toList % 4294967296), .int .u32 (16777619 ^ sep.size % 4294967296)]) ∧ w' = w := Any.bytealg_hashStr Tryd.lays314 sep hs w
def Tryd.lays267_ren : Go.Shelf.Ren := ⟨fun | 267 => 84 | 314 => 94 | n => n, fun | 9 => 9 | 3 => 3 | 146 => 139 | 51 => 72 | 4 => 4 | 5 => 5 | 46 => 87 | n => n, fun | n => n⟩
theorem Tryd.lays267 : Go.Proofs.Lays.n267 Tryd.prog Tryd.lays267_ren := {
  mixed := by kernel_rfl
  f267 := Tryd.func84.trans (congrArg some (by kernel_rfl))
  f314 := Tryd.func94.trans (congrArg some (by kernel_rfl))
  t3 := Tryd.underlying3
  a3 := Tryd.isAgg3
  z3 := Tryd.sizeOf3
  v3 := Tryd.zeroValue3
  t4 := Tryd.underlying4
  a4 := Tryd.isAgg4
  z4 := Tryd.sizeOf4
  v4 := Tryd.zeroValue4
  t5 := Tryd.underlying5
  a5 := Tryd.isAgg5
  z5 := Tryd.sizeOf5
  v5 := Tryd.zeroValue5
  t9 := Tryd.underlying9
  a9 := Tryd.isAgg9
  z9 := Tryd.sizeOf9
  v9 := Tryd.zeroValue9
  t46 := Tryd.underlying87
  a46 := Tryd.isAgg87
  z46 := Tryd.sizeOf87
  v46 := Tryd.zeroValue87
  t51 := Tryd.underlying72
  a51 := Tryd.isAgg72
  z51 := Tryd.sizeOf72
  v51 := Tryd.zeroValue72
  t146 := Tryd.underlying139
  a146 := Tryd.isAgg139
  z146 := Tryd.sizeOf139
  v146 := Tryd.zeroValue139 }
open Go.RowKit Go.Lib in
theorem Tryd.bytealg_IndexRabinKarp (s sep : ByteArray) (h1 : 1 ≤ sep.size) (h2 : sep.size ≤ s.size) (hs : s.size < 4294967281) (w : World) :
    Calls Tryd.prog 84 #[.string s, .string sep] w fun e w' => e = .returned (.int .i64 (Lib.index s.data.toList sep.data.toList)) ∧ w' = w := Any.bytealg_IndexRabinKarp Tryd.lays267 s sep h1 h2 hs w
def Tryd.lays219_ren : Go.Shelf.Ren := ⟨fun | 219 => 69 | 217 => 81 | 225 => 82 | 224 => 83 | 267 => 84 | 266 => 93 | 314 => 94 | n => n, fun | 9 => 9 | 3 => 3 | 4 => 4 | 5 => 5 | 46 => 87 | 146 => 139 | 51 => 72 | n => n, fun | 1 => 3 | n => n⟩
theorem Tryd.lays219 : Go.Proofs.Lays.n219 Tryd.prog Tryd.lays219_ren := {
  mixed := by kernel_rfl
  f217 := Tryd.func81.trans (congrArg some (by kernel_rfl))
  f219 := Tryd.func69.trans (congrArg some (by kernel_rfl))
  f224 := Tryd.func83.trans (congrArg some (by kernel_rfl))
  f225 := Tryd.func82.trans (congrArg some (by kernel_rfl))
  f266 := Tryd.func93.trans (congrArg some (by kernel_rfl))
  f267 := Tryd.func84.trans (congrArg some (by kernel_rfl))
  f314 := Tryd.func94.trans (congrArg some (by kernel_rfl))
  t3 := Tryd.underlying3
  a3 := Tryd.isAgg3
  z3 := Tryd.sizeOf3
  v3 := Tryd.zeroValue3
  t4 := Tryd.underlying4
  a4 := Tryd.isAgg4
  z4 := Tryd.sizeOf4
  v4 := Tryd.zeroValue4
  t5 := Tryd.underlying5
  a5 := Tryd.isAgg5
  z5 := Tryd.sizeOf5
  v5 := Tryd.zeroValue5
  t9 := Tryd.underlying9
  a9 := Tryd.isAgg9
  z9 := Tryd.sizeOf9
  v9 := Tryd.zeroValue9
  t46 := Tryd.underlying87
  a46 := Tryd.isAgg87
  z46 := Tryd.sizeOf87
  v46 := Tryd.zeroValue87
  t51 := Tryd.underlying72
  a51 := Tryd.isAgg72
  z51 := Tryd.sizeOf72
  v51 := Tryd.zeroValue72
  t146 := Tryd.underlying139
  a146 := Tryd.isAgg139
  z146 := Tryd.sizeOf139
  v146 := Tryd.zeroValue139
  g1 := by kernel_rfl }
open Go.RowKit Go.Lib in
/-- internal/stringslite.Index (what strings.Index calls) AT A substr OF ONE BYTE c: IT RETURNS 'Lib.indexByte s c'; the world is as it was. (LAID: no walk: one application.) -/
theorem Tryd.stringslite_Index_one (s : ByteArray) (c : UInt8) (w : World) :
    Calls Tryd.prog 69 #[.string s, .string ⟨#[c]⟩] w fun e w' => e = .returned (.int .i64 (Lib.indexByte s.data.toList c)) ∧ w' = w := Any.stringslite_Index_one Tryd.lays219 s c w
open Go.RowKit Go.Lib in
/-- internal/stringslite.Index (what strings.Index calls) AT A substr OF WHATEVER LENGTH: IT RETURNS 'Lib.index s substr'; the world is as it was. 'm': what internal/bytealg.MaxLen holds: whatever. (LAID: no walk: one application.) -/
theorem Tryd.stringslite_Index (s sub : ByteArray) (m : Int) (w : World) (hs : s.size < 4294967281) (hm : w.cell? ⟨3, 0, none⟩ = some (.int .i64 m)) :
    Calls Tryd.prog 69 #[.string s, .string sub] w fun e w' => e = .returned (.int .i64 (Lib.index s.data.toList sub.data.toList)) ∧ w' = w := Any.stringslite_Index Tryd.lays219 s sub m w hs hm
def Tryd.lays143_ren : Go.Shelf.Ren := ⟨fun | 143 => 59 | 219 => 69 | 217 => 81 | 225 => 82 | 224 => 83 | 267 => 84 | 266 => 93 | 314 => 94 | n => n, fun | 9 => 9 | 3 => 3 | 4 => 4 | 5 => 5 | 46 => 87 | 146 => 139 | 51 => 72 | n => n, fun | 1 => 3 | n => n⟩
theorem Tryd.lays143 : Go.Proofs.Lays.n143 Tryd.prog Tryd.lays143_ren := {
  mixed := by kernel_rfl
  f143 := Tryd.func59.trans (congrArg some (by kernel_rfl))
  f217 := Tryd.func81.trans (congrArg some (by kernel_rfl))
  f219 := Tryd.func69.trans (congrArg some (by kernel_rfl))
  f224 := Tryd.func83.trans (congrArg some (by kernel_rfl))
  f225 := Tryd.func82.trans (congrArg some (by kernel_rfl))
  f266 := Tryd.func93.trans (congrArg some (by kernel_rfl))
  f267 := Tryd.func84.trans (congrArg some (by kernel_rfl))
  f314 := Tryd.func94.trans (congrArg some (by kernel_rfl))
  t3 := Tryd.underlying3
  a3 := Tryd.isAgg3
  z3 := Tryd.sizeOf3
  v3 := Tryd.zeroValue3
  t4 := Tryd.underlying4
  a4 := Tryd.isAgg4
  z4 := Tryd.sizeOf4
  v4 := Tryd.zeroValue4
  t5 := Tryd.underlying5
  a5 := Tryd.isAgg5
  z5 := Tryd.sizeOf5
  v5 := Tryd.zeroValue5
  t9 := Tryd.underlying9
  a9 := Tryd.isAgg9
  z9 := Tryd.sizeOf9
  v9 := Tryd.zeroValue9
  t46 := Tryd.underlying87
  a46 := Tryd.isAgg87
  z46 := Tryd.sizeOf87
  v46 := Tryd.zeroValue87
  t51 := Tryd.underlying72
  a51 := Tryd.isAgg72
  z51 := Tryd.sizeOf72
  v51 := Tryd.zeroValue72
  t146 := Tryd.underlying139
  a146 := Tryd.isAgg139
  z146 := Tryd.sizeOf139
  v146 := Tryd.zeroValue139
  g1 := by kernel_rfl }
open Go.RowKit Go.Lib in
/-- strings.Index: "Index returns the index of the first instance of substr in s, or -1 if substr is not present in s.": AT A substr OF ONE BYTE c: IT RETURNS 'Lib.indexByte s c'; the world is as it was. (LAID: no walk: one application.) -/
theorem Tryd.strings_Index_one (s : ByteArray) (c : UInt8) (w : World) :
    Calls Tryd.prog 59 #[.string s, .string ⟨#[c]⟩] w fun e w' => e = .returned (.int .i64 (Lib.indexByte s.data.toList c)) ∧ w' = w := Any.strings_Index_one Tryd.lays143 s c w
open Go.RowKit Go.Lib in
/-- strings.Index: "Index returns the index of the first instance of substr in s, or -1 if substr is not present in s.": IT RETURNS 'Lib.index s substr'; the world is as it was. (LAID: no walk: one application.) -/
theorem Tryd.strings_Index (s sub : ByteArray) (m : Int) (w : World) (hs : s.size < 4294967281) (hm : w.cell? ⟨3, 0, none⟩ = some (.int .i64 m)) :
    Calls Tryd.prog 59 #[.string s, .string sub] w fun e w' => e = .returned (.int .i64 (Lib.index s.data.toList sub.data.toList)) ∧ w' = w := Any.strings_Index Tryd.lays143 s sub m w hs hm
def Tryd.laysM219_ren : Go.Shelf.Ren := ⟨fun | 219 => 69 | 217 => 81 | 225 => 82 | 224 => 83 | 267 => 84 | 266 => 93 | 314 => 94 | n => n, fun | 9 => 9 | 3 => 3 | 4 => 4 | 5 => 5 | 46 => 87 | 146 => 139 | 51 => 72 | n => n, fun | 1 => 3 | n => n⟩
theorem Tryd.laysM219 : Go.Proofs.LaysM.n219 Tryd.prog Tryd.laysM219_ren := {
  mixed := by kernel_rfl
  f217 := Tryd.func81.trans (congrArg some (by kernel_rfl))
  f219 := Tryd.func69.trans (congrArg some (by kernel_rfl))
  f224 := Tryd.func83.trans (congrArg some (by kernel_rfl))
  f225 := Tryd.func82.trans (congrArg some (by kernel_rfl))
  f266 := Tryd.func93.trans (congrArg some (by kernel_rfl))
  f267 := Tryd.func84.trans (congrArg some (by kernel_rfl))
  f314 := Tryd.func94.trans (congrArg some (by kernel_rfl))
  t3 := Tryd.underlying3
  a3 := Tryd.isAgg3
  z3 := Tryd.sizeOf3
  v3 := Tryd.zeroValue3
  t4 := Tryd.underlying4
  a4 := Tryd.isAgg4
  z4 := Tryd.sizeOf4
  v4 := Tryd.zeroValue4
  t5 := Tryd.underlying5
  a5 := Tryd.isAgg5
  z5 := Tryd.sizeOf5
  v5 := Tryd.zeroValue5
  t9 := Tryd.underlying9
  a9 := Tryd.isAgg9
  z9 := Tryd.sizeOf9
  v9 := Tryd.zeroValue9
  t46 := Tryd.underlying87
  a46 := Tryd.isAgg87
  z46 := Tryd.sizeOf87
  v46 := Tryd.zeroValue87
  t51 := Tryd.underlying72
  a51 := Tryd.isAgg72
  z51 := Tryd.sizeOf72
  v51 := Tryd.zeroValue72
  t146 := Tryd.underlying139
  a146 := Tryd.isAgg139
  z146 := Tryd.sizeOf139
  v146 := Tryd.zeroValue139
  g1 := by kernel_rfl
  i3 := by kernel_rfl
  i4 := by kernel_rfl
  i5 := by kernel_rfl
  i9 := by kernel_rfl
  i46 := by kernel_rfl
  i51 := by kernel_rfl
  i146 := by kernel_rfl
  m1 := by kernel_rfl
  s1_3 := fun w h => Go.Proofs.cell_of_shapedOpen_int (zero := #[.int .i64 0]) (t := 3) h (of_decide_eq_true (by kernel_rfl)) (by kernel_rfl) rfl (by kernel_rfl) (by kernel_rfl) Tryd.underlying3 }
open Go.RowKit Go.Lib in
theorem Tryd.stringslite_Index_shaped (s sub : ByteArray) (w : World) (h : w.ShapedOpen Tryd.prog) (hs : s.size < 4294967281) :
    Calls Tryd.prog 69 #[.string s, .string sub] w fun e w' => e = .returned (.int .i64 (Lib.index s.data.toList sub.data.toList)) ∧ w' = w := Any.stringslite_Index_shaped Tryd.laysM219 s sub w h hs
def Tryd.laysM143_ren : Go.Shelf.Ren := ⟨fun | 143 => 59 | 219 => 69 | 217 => 81 | 225 => 82 | 224 => 83 | 267 => 84 | 266 => 93 | 314 => 94 | n => n, fun | 9 => 9 | 3 => 3 | 4 => 4 | 5 => 5 | 46 => 87 | 146 => 139 | 51 => 72 | n => n, fun | 1 => 3 | n => n⟩
theorem Tryd.laysM143 : Go.Proofs.LaysM.n143 Tryd.prog Tryd.laysM143_ren := {
  mixed := by kernel_rfl
  f143 := Tryd.func59.trans (congrArg some (by kernel_rfl))
  f217 := Tryd.func81.trans (congrArg some (by kernel_rfl))
  f219 := Tryd.func69.trans (congrArg some (by kernel_rfl))
  f224 := Tryd.func83.trans (congrArg some (by kernel_rfl))
  f225 := Tryd.func82.trans (congrArg some (by kernel_rfl))
  f266 := Tryd.func93.trans (congrArg some (by kernel_rfl))
  f267 := Tryd.func84.trans (congrArg some (by kernel_rfl))
  f314 := Tryd.func94.trans (congrArg some (by kernel_rfl))
  t3 := Tryd.underlying3
  a3 := Tryd.isAgg3
  z3 := Tryd.sizeOf3
  v3 := Tryd.zeroValue3
  t4 := Tryd.underlying4
  a4 := Tryd.isAgg4
  z4 := Tryd.sizeOf4
  v4 := Tryd.zeroValue4
  t5 := Tryd.underlying5
  a5 := Tryd.isAgg5
  z5 := Tryd.sizeOf5
  v5 := Tryd.zeroValue5
  t9 := Tryd.underlying9
  a9 := Tryd.isAgg9
  z9 := Tryd.sizeOf9
  v9 := Tryd.zeroValue9
  t46 := Tryd.underlying87
  a46 := Tryd.isAgg87
  z46 := Tryd.sizeOf87
  v46 := Tryd.zeroValue87
  t51 := Tryd.underlying72
  a51 := Tryd.isAgg72
  z51 := Tryd.sizeOf72
  v51 := Tryd.zeroValue72
  t146 := Tryd.underlying139
  a146 := Tryd.isAgg139
  z146 := Tryd.sizeOf139
  v146 := Tryd.zeroValue139
  g1 := by kernel_rfl
  i3 := by kernel_rfl
  i4 := by kernel_rfl
  i5 := by kernel_rfl
  i9 := by kernel_rfl
  i46 := by kernel_rfl
  i51 := by kernel_rfl
  i146 := by kernel_rfl
  m1 := by kernel_rfl
  s1_3 := fun w h => Go.Proofs.cell_of_shapedOpen_int (zero := #[.int .i64 0]) (t := 3) h (of_decide_eq_true (by kernel_rfl)) (by kernel_rfl) rfl (by kernel_rfl) (by kernel_rfl) Tryd.underlying3 }
open Go.RowKit Go.Lib in
theorem Tryd.strings_Index_shaped (s sub : ByteArray) (w : World) (h : w.ShapedOpen Tryd.prog) (hs : s.size < 4294967281) :
    Calls Tryd.prog 59 #[.string s, .string sub] w fun e w' => e = .returned (.int .i64 (Lib.index s.data.toList sub.data.toList)) ∧ w' = w := Any.strings_Index_shaped Tryd.laysM143 s sub w h hs
def Tryd.lays206_ren : Go.Shelf.Ren := ⟨fun | 206 => 78 | n => n, fun | 9 => 9 | 4 => 4 | 3 => 3 | n => n, fun | n => n⟩
theorem Tryd.lays206 : Go.Proofs.Lays.n206 Tryd.prog Tryd.lays206_ren := {
  mixed := by kernel_rfl
  f206 := Tryd.func78.trans (congrArg some (by kernel_rfl))
  t3 := Tryd.underlying3
  a3 := Tryd.isAgg3
  z3 := Tryd.sizeOf3
  v3 := Tryd.zeroValue3
  t4 := Tryd.underlying4
  a4 := Tryd.isAgg4
  z4 := Tryd.sizeOf4
  v4 := Tryd.zeroValue4
  t9 := Tryd.underlying9
  a9 := Tryd.isAgg9
  z9 := Tryd.sizeOf9
  v9 := Tryd.zeroValue9 }
open Go.RowKit Go.Lib in
/-- internal/stringslite.HasPrefix (what strings.HasPrefix calls). (LAID: no walk: one application.) -/
theorem Tryd.stringslite_HasPrefix (s p : ByteArray) (w : World) :
    Calls Tryd.prog 78 #[.string s, .string p] w fun e w' => e = .returned (.bool (Lib.hasPrefix s.data.toList p.data.toList)) ∧ w' = w := Any.stringslite_HasPrefix Tryd.lays206 s p w
def Tryd.lays197_ren : Go.Shelf.Ren := ⟨fun | 197 => 58 | 260 => 68 | n => n, fun | 9 => 9 | 21 => 21 | 3 => 3 | 4 => 4 | 5 => 5 | 105 => 101 | 119 => 125 | 0 => 0 | 46 => 87 | 139 => 128 | 138 => 127 | n => n, fun | 3 => 1 | 4 => 2 | n => n⟩
theorem Tryd.lays197 : Go.Proofs.Lays.n197 Tryd.prog Tryd.lays197_ren := {
  mixed := by kernel_rfl
  f197 := Tryd.func58.trans (congrArg some (by kernel_rfl))
  f260 := Tryd.func68.trans (congrArg some (by kernel_rfl))
  t0 := Tryd.underlying0
  a0 := Tryd.isAgg0
  z0 := Tryd.sizeOf0
  v0 := Tryd.zeroValue0
  t3 := Tryd.underlying3
  a3 := Tryd.isAgg3
  z3 := Tryd.sizeOf3
  v3 := Tryd.zeroValue3
  t4 := Tryd.underlying4
  a4 := Tryd.isAgg4
  z4 := Tryd.sizeOf4
  v4 := Tryd.zeroValue4
  t5 := Tryd.underlying5
  a5 := Tryd.isAgg5
  z5 := Tryd.sizeOf5
  v5 := Tryd.zeroValue5
  t9 := Tryd.underlying9
  a9 := Tryd.isAgg9
  z9 := Tryd.sizeOf9
  v9 := Tryd.zeroValue9
  t21 := Tryd.underlying21
  a21 := Tryd.isAgg21
  z21 := Tryd.sizeOf21
  v21 := Tryd.zeroValue21
  t46 := Tryd.underlying87
  a46 := Tryd.isAgg87
  z46 := Tryd.sizeOf87
  v46 := Tryd.zeroValue87
  t105 := Tryd.underlying101
  a105 := Tryd.isAgg101
  z105 := Tryd.sizeOf101
  v105 := Tryd.zeroValue101
  t119 := Tryd.underlying125
  a119 := Tryd.isAgg125
  z119 := Tryd.sizeOf125
  t138 := Tryd.underlying127
  a138 := Tryd.isAgg127
  z138 := Tryd.sizeOf127
  v138 := Tryd.zeroValue127
  t139 := Tryd.underlying128
  a139 := Tryd.isAgg128
  z139 := Tryd.sizeOf128
  v139 := Tryd.zeroValue128
  g3 := by kernel_rfl
  g4 := by kernel_rfl }
open Go.RowKit Go.Lib in
/-- unicode/utf8.DecodeRuneInString: "DecodeRuneInString is like DecodeRune but its input is a string.": ("DecodeRune unpacks the first UTF-8 encoding in p and returns the rune and its width in bytes."): WHERE s BEGINS WITH AN ASCII BYTE x: (x, 1). (LAID: no walk: one application.) -/
theorem Tryd.utf8_DecodeRuneInString_ascii (s : ByteArray) (x : UInt8) (w : World) (h0 : s.data.toList[0]? = some x) (hx : x.toNat < 128) :
    Calls Tryd.prog 58 #[.string s] w fun e w' => e = .returned (.tuple #[.int .i32 x.toNat, .int .i64 1]) ∧ w' = w := Any.utf8_DecodeRuneInString_ascii Tryd.lays197 s x w h0 hx
def Tryd.lays260_ren : Go.Shelf.Ren := ⟨fun | 260 => 68 | n => n, fun | 9 => 9 | 21 => 21 | 3 => 3 | 4 => 4 | 5 => 5 | 119 => 125 | 0 => 0 | 46 => 87 | 139 => 128 | 138 => 127 | n => n, fun | 3 => 1 | 4 => 2 | n => n⟩
theorem Tryd.lays260 : Go.Proofs.Lays.n260 Tryd.prog Tryd.lays260_ren := {
  mixed := by kernel_rfl
  f260 := Tryd.func68.trans (congrArg some (by kernel_rfl))
  t0 := Tryd.underlying0
  a0 := Tryd.isAgg0
  z0 := Tryd.sizeOf0
  v0 := Tryd.zeroValue0
  t3 := Tryd.underlying3
  a3 := Tryd.isAgg3
  z3 := Tryd.sizeOf3
  v3 := Tryd.zeroValue3
  t4 := Tryd.underlying4
  a4 := Tryd.isAgg4
  z4 := Tryd.sizeOf4
  v4 := Tryd.zeroValue4
  t5 := Tryd.underlying5
  a5 := Tryd.isAgg5
  z5 := Tryd.sizeOf5
  v5 := Tryd.zeroValue5
  t9 := Tryd.underlying9
  a9 := Tryd.isAgg9
  z9 := Tryd.sizeOf9
  v9 := Tryd.zeroValue9
  t21 := Tryd.underlying21
  a21 := Tryd.isAgg21
  z21 := Tryd.sizeOf21
  v21 := Tryd.zeroValue21
  t46 := Tryd.underlying87
  a46 := Tryd.isAgg87
  z46 := Tryd.sizeOf87
  v46 := Tryd.zeroValue87
  t119 := Tryd.underlying125
  a119 := Tryd.isAgg125
  z119 := Tryd.sizeOf125
  t138 := Tryd.underlying127
  a138 := Tryd.isAgg127
  z138 := Tryd.sizeOf127
  v138 := Tryd.zeroValue127
  t139 := Tryd.underlying128
  a139 := Tryd.isAgg128
  z139 := Tryd.sizeOf128
  v139 := Tryd.zeroValue128
  g3 := by kernel_rfl
  g4 := by kernel_rfl }
open Go.RowKit Go.Lib in
theorem Tryd.utf8_decodeRuneInStringSlow (s : ByteArray) (w : World) (hT : Lib.Utf8Tabs 1 2 w) :
    Calls Tryd.prog 68 #[.string s] w fun e w' => e = .returned (.tuple #[.int .i32 (Lib.decodeGo s).1, .int .i64 (Lib.decodeGo s).2]) ∧ Below w.heap.size w w' := Any.utf8_decodeRuneInStringSlow Tryd.lays260 s w hT
open Go.RowKit Go.Lib in
/-- **unicode/utf8.DecodeRuneInString AT EVERY STRING.** (LAID: no walk: one application.) -/
theorem Tryd.utf8_DecodeRuneInString (s : ByteArray) (w : World) (hT : Lib.Utf8Tabs 1 2 w) :
    Calls Tryd.prog 58 #[.string s] w fun e w' => e = .returned (.tuple #[.int .i32 (Lib.decodeGo s).1, .int .i64 (Lib.decodeGo s).2]) ∧ Below w.heap.size w w' := Any.utf8_DecodeRuneInString Tryd.lays197 s w hT
def Tryd.lays109_ren : Go.Shelf.Ren := ⟨fun | 109 => 39 | n => n, fun | 31 => 28 | 9 => 9 | 3 => 3 | 0 => 0 | 4 => 4 | n => n, fun | n => n⟩
theorem Tryd.lays109 : Go.Proofs.Lays.n109 Tryd.prog Tryd.lays109_ren := {
  mixed := by kernel_rfl
  f109 := Tryd.func39.trans (congrArg some (by kernel_rfl))
  t0 := Tryd.underlying0
  a0 := Tryd.isAgg0
  z0 := Tryd.sizeOf0
  v0 := Tryd.zeroValue0
  t3 := Tryd.underlying3
  a3 := Tryd.isAgg3
  z3 := Tryd.sizeOf3
  v3 := Tryd.zeroValue3
  t4 := Tryd.underlying4
  a4 := Tryd.isAgg4
  z4 := Tryd.sizeOf4
  v4 := Tryd.zeroValue4
  t9 := Tryd.underlying9
  a9 := Tryd.isAgg9
  z9 := Tryd.sizeOf9
  v9 := Tryd.zeroValue9
  t31 := Tryd.underlying28
  a31 := Tryd.isAgg28
  z31 := Tryd.sizeOf28
  v31 := Tryd.zeroValue28 }
open Go.Lib in
/-- slices.Index at []string: "Index returns the index of the first occurrence of v in s, or -1 if not present.": IT RETURNS 'Lib.idxOfS (the elements) v'; the world is as it was. 'zs': what the cells behind the slice's address hold (its spare capacity too, if you have it); 'zs.take n': its elements. (LAID: no walk: one application.) -/
theorem Tryd.slices_Index_string (b off n c : Nat) (zs : List ByteArray) (x : ByteArray) (w : World) (hz : n ≤ zs.length) (hbig : n ≤ 9223372036854775807) (hc : ∀ j, j < zs.length → w.cell? ⟨b, off + j, none⟩ = some (.string (zs.getD j ByteArray.empty))) :
    Calls Tryd.prog 39 #[.slice (some ⟨b, off, none⟩) n c, .string x] w fun e w' => e = .returned (.int .i64 (Lib.idxOfS (zs.take n) x)) ∧ w' = w := Any.slices_Index_string Tryd.lays109 b off n c zs x w hz hbig hc
open Go.Lib in
/-- The same at a slice of length 0, a nil one too: no cell is known, none is asked for. (LAID: no walk: one application.) -/
theorem Tryd.slices_Index_string_empty (a : Option Addr) (c : Nat) (x : ByteArray) (w : World) :
    Calls Tryd.prog 39 #[.slice a 0 c, .string x] w fun e w' => e = .returned (.int .i64 (Lib.idxOfS [] x)) ∧ w' = w := Any.slices_Index_string_empty Tryd.lays109 a c x w
def Tryd.lays110_ren : Go.Shelf.Ren := ⟨fun | 110 => 31 | 109 => 39 | n => n, fun | 31 => 28 | 9 => 9 | 4 => 4 | 3 => 3 | 0 => 0 | n => n, fun | n => n⟩
theorem Tryd.lays110 : Go.Proofs.Lays.n110 Tryd.prog Tryd.lays110_ren := {
  mixed := by kernel_rfl
  f109 := Tryd.func39.trans (congrArg some (by kernel_rfl))
  f110 := Tryd.func31.trans (congrArg some (by kernel_rfl))
  t0 := Tryd.underlying0
  a0 := Tryd.isAgg0
  z0 := Tryd.sizeOf0
  v0 := Tryd.zeroValue0
  t3 := Tryd.underlying3
  a3 := Tryd.isAgg3
  z3 := Tryd.sizeOf3
  v3 := Tryd.zeroValue3
  t4 := Tryd.underlying4
  a4 := Tryd.isAgg4
  z4 := Tryd.sizeOf4
  v4 := Tryd.zeroValue4
  t9 := Tryd.underlying9
  a9 := Tryd.isAgg9
  z9 := Tryd.sizeOf9
  v9 := Tryd.zeroValue9
  t31 := Tryd.underlying28
  a31 := Tryd.isAgg28
  z31 := Tryd.sizeOf28
  v31 := Tryd.zeroValue28 }
open Go.Lib in
/-- slices.Contains at []string: "Contains reports whether v is present in s.": IT RETURNS 'Lib.containsS (the elements) v', which is true just where v is among them ('Lib.containsS_iff'); the world is as it was. ITS CALLEE slices.Index IS MET BY ITS OWN CONTRACT OFF THE SHELF (lay that first): no loop is walked here. (LAID: no walk: one application.) -/
theorem Tryd.slices_Contains_string (b off n c : Nat) (zs : List ByteArray) (x : ByteArray) (w : World) (hz : n ≤ zs.length) (hbig : n ≤ 9223372036854775807) (hc : ∀ j, j < zs.length → w.cell? ⟨b, off + j, none⟩ = some (.string (zs.getD j ByteArray.empty))) :
    Calls Tryd.prog 31 #[.slice (some ⟨b, off, none⟩) n c, .string x] w fun e w' => e = .returned (.bool (Lib.containsS (zs.take n) x)) ∧ w' = w := Any.slices_Contains_string Tryd.lays110 b off n c zs x w hz hbig hc
open Go.Lib in
/-- The same at a slice of length 0, a nil one too. (LAID: no walk: one application.) -/
theorem Tryd.slices_Contains_string_empty (a : Option Addr) (c : Nat) (x : ByteArray) (w : World) :
    Calls Tryd.prog 31 #[.slice a 0 c, .string x] w fun e w' => e = .returned (.bool false) ∧ w' = w := Any.slices_Contains_string_empty Tryd.lays110 a c x w
def Tryd.laysNm216_ren : Go.Shelf.Ren := ⟨fun | 16 => 21 | n => n, fun | 24 => 28 | 9 => 9 | 4 => 4 | n => n, fun | n => n⟩
theorem Tryd.laysNm216 : Go.Proofs.Lays2.n16 Tryd.prog Tryd.laysNm216_ren := {
  mixed := by kernel_rfl
  f16 := Tryd.func21.trans (congrArg some (by kernel_rfl))
  t4 := Tryd.underlying4
  a4 := Tryd.isAgg4
  z4 := Tryd.sizeOf4
  v4 := Tryd.zeroValue4
  t9 := Tryd.underlying9
  a9 := Tryd.isAgg9
  z9 := Tryd.sizeOf9
  v9 := Tryd.zeroValue9
  t24 := Tryd.underlying28
  a24 := Tryd.isAgg28
  z24 := Tryd.sizeOf28
  v24 := Tryd.zeroValue28
  i9 := by kernel_rfl }
open Go.RowKit Go.Lib in
/-- slices.Clone at []string: "Clone returns a copy of the slice. The elements are copied using assignment, so this is a shallow clone. The result may have additional unused capacity. The result preserves the nilness of s.": OF A SLICE THAT IS NOT nil IT RETURNS A SLICE THAT IS NOT nil, OF THE SAME ELEMENTS, IN MEMORY OF THE CALL's OWN: in the how-to's words (6f): 'w'.ownsRow B e 1 v' n cells': v' begins at the head of a row among the blocks from B on (B: the heap's size at the call), not frozen, whose first cells are the elements · 'Below B w w'': below B all is as it was. The capacity is whatever the run-time gives. 'zs': what the cells behind the slice's address hold; 'zs.take n': its elements. (LAID: no walk: one application.) -/
theorem Tryd.slices_Clone_string (b off n c : Nat) (zs : List ByteArray) (w : World) (hz : n ≤ zs.length) (hbig : n * 16 ≤ 140737488355328) (hc : ∀ j, j < zs.length → w.cell? ⟨b, off + j, none⟩ = some (.string (zs.getD j ByteArray.empty))) :
    Calls Tryd.prog 21 #[.slice (some ⟨b, off, none⟩) n c] w fun e w' => ∃ v', e = .returned v' ∧ w'.ownsRow w.heap.size 9 1 v' n ((zs.take n).map (Value.string)) ∧ v' ≠ .slice none 0 0 ∧ Below w.heap.size w w' := Any.slices_Clone_string Tryd.laysNm216 b off n c zs w hz hbig hc
open Go.RowKit Go.Lib in
/-- The same at nil: nil comes back; the world is as it was. (LAID: no walk: one application.) -/
theorem Tryd.slices_Clone_string_nil (n c : Nat) (w : World) :
    Calls Tryd.prog 21 #[.slice none n c] w fun e w' => e = .returned (.slice none 0 0) ∧ w' = w := Any.slices_Clone_string_nil Tryd.laysNm216 n c w
open Go.RowKit Go.Lib in
/-- The same at a slice of length 0 that is not nil, WHATEVER ITS ADDRESS (no cell is asked for): a slice that is not nil and owns nothing comes back. (LAID: no walk: one application.) -/
theorem Tryd.slices_Clone_string_zero (a : Addr) (c : Nat) (w : World) :
    Calls Tryd.prog 21 #[.slice (some a) 0 c] w fun e w' => ∃ v', e = .returned v' ∧ w'.ownsRow w.heap.size 9 1 v' 0 [] ∧ v' ≠ .slice none 0 0 ∧ Below w.heap.size w w' := Any.slices_Clone_string_zero Tryd.laysNm216 a c w
def Tryd.laysSlE041_f21_ren : Go.Shelf.Ren := ⟨fun | 41 => 21 | n => n, fun | 22 => 28 | 23 => 9 | 4 => 4 | n => n, fun | n => n⟩
theorem Tryd.laysSlE041_f21 : Go.Proofs.SlLaysE0.n41 Tryd.prog Tryd.laysSlE041_f21_ren := {
  mixed := by kernel_rfl
  f41 := ⟨Tryd.f21.name, by decide, Tryd.func21.trans (congrArg some (by kernel_rfl))⟩
  t4 := Tryd.underlying4
  a4 := Tryd.isAgg4
  z4 := Tryd.sizeOf4
  v4 := Tryd.zeroValue4
  t22 := Tryd.underlying28
  a22 := Tryd.isAgg28
  z22 := Tryd.sizeOf28
  v22 := Tryd.zeroValue28 }
open Go.RowKit Go.Lib in
/-- slices.Clone: "Clone returns a copy of the slice. The elements are copied using assignment, so this is a shallow clone. The result may have additional unused capacity. The result preserves the nilness of s.": OF A SLICE THAT IS NOT nil IT RETURNS A SLICE THAT IS NOT nil, OF THE SAME CELLS, IN MEMORY OF THE CALL's OWN ('ownsRow': the how-to's 6f); below the heap's size at the call all is as it was. (LAID AT THE INSTANCE 'slices.Clone[[]string,string]': no walk: one application.) -/
theorem Tryd.slices_Clone (i0 : TypeInfo) (z : Value) (size bytes : Nat) (hi : Tryd.prog.info? 9 = some i0) (hz0 : i0.zero = some z) (hz1 : i0.size = size) (hz2 : i0.bytes = bytes) (hzs : z.cells.size = size) (hsz : 0 < size) (z23 : ∀ w, (Go.sizeOf 9).run Tryd.prog w = .ok size w) (b off n c : Nat) (news : List Value) (w : World) (hl : news.length = n * size) (hn : n ≤ maxLen) (hbig : n * bytes ≤ 140737488355328) (hc : ∀ j u, news[j]? = some u → w.cell? ⟨b, off + j, none⟩ = some u) (h1 : ∀ u ∈ news, u.oneCell' = true) :
    Calls Tryd.prog 21 #[.slice (some ⟨b, off, none⟩) n c] w fun e w' => ∃ v', e = .returned v' ∧ w'.ownsRow w.heap.size 9 size v' n news ∧ v' ≠ .slice none 0 0 ∧ Below w.heap.size w w' := AnyE.slices_Clone Tryd.laysSlE041_f21 i0 z size bytes hi hz0 hz1 hz2 hzs hsz z23 b off n c news w hl hn hbig hc h1
open Go.RowKit Go.Lib in
/-- The same at nil: nil comes back; the world is as it was; nothing is asked of the element's type. (LAID AT THE INSTANCE 'slices.Clone[[]string,string]': no walk: one application.) -/
theorem Tryd.slices_Clone_nil (n c : Nat) (w : World) :
    Calls Tryd.prog 21 #[.slice none n c] w fun e w' => e = .returned (.slice none 0 0) ∧ w' = w := AnyE.slices_Clone_nil Tryd.laysSlE041_f21 n c w
end Go.Proofs

/- Layer 18: keys, values, cuts. -/
namespace Go.Proofs.YtjfjanogfakclaaDoor
open Go CF

def kc (b : UInt8) : Bool := (65 ≤ b && b ≤ 90) || (97 ≤ b && b ≤ 122) || (48 ≤ b && b ≤ 57) || b == 46 || b == 45 || b == 43 || b == 95
def vcB (b : UInt8) : Bool := 32 ≤ b && b ≤ 126
def keyOk (s : L8) : Bool := s.all kc && decide (1 ≤ s.length) && decide (s.length ≤ 63)
def valOk (s : L8) : Bool := s.all vcB && decide (s.length ≤ 255)
theorem all_take_succ {p : UInt8 → Bool} {l : L8} {k : Nat} (h : k < l.length) : (l.take (k + 1)).all p = ((l.take k).all p && p l[k]) := by
  rw [List.take_succ_eq_append_getElem h]; simp only [List.all_append, List.all_cons, List.all_nil, Bool.and_true]
theorem not_all {p : UInt8 → Bool} {l : L8} {k : Nat} (h : k < l.length) (hp : p l[k] = false) : l.all p = false := by
  rw [List.all_eq_false]
  exact ⟨l[k], List.getElem_mem h, by simp [hp]⟩
theorem kc_iff (b : UInt8) : kc b = true ↔ (65 ≤ b.toNat ∧ b.toNat ≤ 90) ∨ (97 ≤ b.toNat ∧ b.toNat ≤ 122) ∨ (48 ≤ b.toNat ∧ b.toNat ≤ 57) ∨ b.toNat = 46 ∨ b.toNat = 45 ∨ b.toNat = 43 ∨ b.toNat = 95 := by
  unfold kc
  simp only [Bool.or_eq_true, Bool.and_eq_true, decide_eq_true_eq, beq_iff_eq, UInt8.le_iff_toNat_le, ← UInt8.toNat_inj]
  simp only [UInt8.reduceToNat, or_assoc]
theorem vc_iff (b : UInt8) : vcB b = true ↔ 32 ≤ b.toNat ∧ b.toNat ≤ 126 := by
  unfold vcB
  simp only [Bool.and_eq_true, decide_eq_true_eq, UInt8.le_iff_toNat_le, UInt8.reduceToNat]
/-- a text cut at a byte -/
def cutAt (c : UInt8) : L8 → Option (L8 × L8)
  | [] => none
  | b :: r => if b = c then some ([], r) else (cutAt c r).map fun p => (b :: p.1, p.2)
theorem cutAt_some {c : UInt8} : ∀ {l a b : L8}, cutAt c l = some (a, b) → l = a ++ c :: b ∧ c ∉ a ∧ Lib.indexByte l c = (a.length : Int)
  | x :: r, a, b, h => by
    simp only [cutAt] at h
    by_cases hx : x = c
    · rw [if_pos hx] at h
      obtain ⟨rfl, rfl⟩ := Prod.mk.inj (Option.some.inj h)
      subst hx
      exact ⟨rfl, by simp, by simp [Lib.indexByte]⟩
    · rw [if_neg hx] at h
      obtain ⟨⟨a', b'⟩, h1, h2⟩ := Option.map_eq_some_iff.1 h
      obtain ⟨rfl, rfl⟩ := Prod.mk.inj h2
      obtain ⟨h3, h4, h5⟩ := cutAt_some h1
      refine ⟨by rw [h3]; rfl, by simp [h4, Ne.symm hx], ?_⟩
      have hb : (x == c) = false := by simpa using hx
      simp only [Lib.indexByte, hb, h5]
      rw [if_neg (by simp), if_neg (by first | (simp; done) | (simp; omega))]
      simp only [List.length_cons]; omega
theorem cutAt_none {c : UInt8} : ∀ {l : L8}, cutAt c l = none → c ∉ l ∧ Lib.indexByte l c = -1
  | [], _ => ⟨by simp, rfl⟩
  | x :: r, h => by
    simp only [cutAt] at h
    by_cases hx : x = c
    · rw [if_pos hx] at h; cases h
    · rw [if_neg hx] at h
      obtain ⟨h1, h2⟩ := cutAt_none (Option.map_eq_none_iff.1 h)
      refine ⟨by simp [h1, Ne.symm hx], ?_⟩
      have hb : (x == c) = false := by simpa using hx
      simp only [Lib.indexByte, hb, h2]
      simp
theorem str_extract (l : L8) (i j : Nat) : (str l).extract i j = str ((l.take j).drop i) := by
  apply ls_inj
  rw [ls_str]
  show ((str l).extract i j).data.toList = _
  simp [str, ByteArray.data_extract, List.extract_eq_take_drop, List.drop_take]
end Go.Proofs.YtjfjanogfakclaaDoor

/- Numbers out of texts: strconv.ParseUint at base 10 and 16. -/
namespace Go.Proofs.YtjfjanogfakclaaDoor
open Go CF

/-- a digit's worth, as far as there are digits -/
def dig36 (c : UInt8) : Option Nat := if 48 ≤ c.toNat ∧ c.toNat ≤ 57 then some (c.toNat - 48) else if 97 ≤ (c ||| 32).toNat ∧ (c ||| 32).toNat ≤ 122 then some ((c ||| 32).toNat - 87) else none
/-- the number that the digits mean, behind one that is read -/
def numAcc (b : Nat) : Nat → L8 → Option Nat
  | n, [] => some n
  | n, c :: r => match dig36 c with
    | none => none
    | some d => if b ≤ d then none else if 18446744073709551616 ≤ n * b + d then none else numAcc b (n * b + d) r
theorem numAcc_lt {b : Nat} : ∀ {s : L8} {n m : Nat}, n < 18446744073709551616 → numAcc b n s = some m → m < 18446744073709551616
  | [], n, m, h, e => by cases e; exact h
  | c :: r, n, m, h, e => by
    simp only [numAcc] at e
    split at e
    · cases e
    · split at e
      · cases e
      · split at e
        · cases e
        · exact numAcc_lt (by omega) e
theorem low_or (c : UInt8) : bOr .u8 (c.toNat : Int) 32 = ((c ||| 32).toNat : Int) := by
  have h : ∀ i : Fin 256, bOr .u8 (((UInt8.ofNat i.val).toNat : Nat) : Int) 32 = (((UInt8.ofNat i.val) ||| 32).toNat : Int) := by decide +kernel
  have := h ⟨c.toNat, c.toNat_lt⟩
  simpa using this
theorem lower_spec {c : UInt8} {w : World} {R : Int → World → Prop} (h : R ((c ||| 32).toNat : Int) w) : Cinternal_strconv_lower (c.toNat : Int) w R := by
  refine Finternal_strconv_lower.calls _ _ _ ?_
  show R (bOr .u8 (c.toNat : Int) 32) w
  rw [low_or]; exact h
theorem mkErr (k : Int) (w : World) : (Instr.makeInterface t_strconv_Error (.int .i64 k)).run Tryd.prog w = .ok (.iface t_strconv_Error (.int .i64 k)) w := by kernel_rfl
theorem low_f {L : Nat} (h : ¬ (97 ≤ L ∧ L ≤ 122)) : (decide ((97 : Int) ≤ (L : Int)) && decide ((if 97 ≤ L then (L : Int) else 0) ≤ 122)) = false := by
  by_cases h97 : 97 ≤ L
  · rw [if_pos h97, Bool.and_eq_false_iff]; right; exact decide_eq_false (by omega)
  · rw [Bool.and_eq_false_iff]; left; exact decide_eq_false (by omega)
theorem low_t {L : Nat} (h : 97 ≤ L ∧ L ≤ 122) : (decide ((97 : Int) ≤ (L : Int)) && decide ((if 97 ≤ L then (L : Int) else 0) ≤ 122)) = true := by
  rw [if_pos h.1, Bool.and_eq_true]
  exact ⟨decide_eq_true (by omega), decide_eq_true (by omega)⟩
def cutoff (b : Nat) : Nat := if b = 10 then 1844674407370955162 else 1152921504606846976

set_option maxHeartbeats 1000000 in
theorem iparse_spec {s : L8} {b : Nat} {w : World} {R : Int → Value → World → Prop} (hb : b = 10 ∨ b = 16) (hl : s.length ≤ 140737489403904)
    (hok : ∀ (n : Nat) w', s ≠ [] → numAcc b 0 s = some n → Grow w w' → R (n : Int) .nilIface w')
    (herr : ∀ (n k : Int) w', (s = [] ∨ numAcc b 0 s = none) → (k = 2 ∨ k = 1) → Grow w w' → R n (.iface t_strconv_Error (.int .i64 k)) w') :
    Cinternal_strconv_ParseUint (str s) (b : Int) 64 w R := by
  refine Finternal_strconv_ParseUint.calls _ _ _ _ _ ?_
  have hse : sEq (str s) ⟨#[]⟩ = decide (s = []) := sEq_str (b := [])
  unfold Finternal_strconv_ParseUint
  rw [hse]
  refine br_dec (fun he => ⟨_, mkErr _ _, herr _ _ _ (.inl he) (.inl rfl) (Keep.refl _ _)⟩) (fun hne => ?_)
  refine letX2 (I := fun s1 base1 u => s1 = str s ∧ base1 = (b : Int) ∧ w = u) (fun s1 base1 u => ?_) (fun hj => ?_)
  · rintro ⟨rfl, rfl, rfl⟩
    refine letX1 (I := fun bs u' => bs = 64 ∧ w = u') (fun bs u' => ?_) (fun hj => ?_)
    · rintro ⟨rfl, rfl⟩
      refine letX1 (I := fun co u2 => co = (cutoff b : Int) ∧ w = u2) (fun co u2 => ?_) (fun hj => ?_)
      · rintro ⟨rfl, rfl⟩
        refine ⟨by decide, ?_⟩
        have hbw : IntKind.wrap .u8 (b : Int) = b := wu8 (by omega) (by omega)
        have hbw2 : IntKind.wrap .u64 (b : Int) = b := wu64 (by omega) (by omega)
        have hmx : IntKind.wrap .u64 (bShl .u64 1 (IntKind.wrap .u64 (64 : Int)).toNat - 1) = 18446744073709551615 := by decide
        rw [hbw, hbw2, hmx]
        refine conv_bytes_rule u_string u_sl_uint8 u_uint8 hl fun xs w1 hg1 hrd hxn => ?_
        refine ⟨fun us n x w' => us = false ∧ Grow w w' ∧ Grow w1 w' ∧ ∃ (i m : Nat), x = i ∧ n = m ∧ i ≤ s.length ∧ m < 18446744073709551616 ∧ numAcc b 0 s = numAcc b m (s.drop i), fun _ _ x _ => s.length - x.toNat,
          ⟨rfl, hg1, Keep.refl _ _, 0, 0, rfl, rfl, Nat.zero_le _, by decide, by simp⟩, ?_⟩
        rintro us n x w2 ⟨rfl, hgw, hg2, i, m, rfl, rfl, hi, hm, hacc⟩
        rw [hxn]
        refine br_nat (fun hlt => ?_) (fun hge => ?_)
        · have hcons : s.drop i = s[i] :: s.drop (i + 1) := List.drop_eq_getElem_cons hlt
          rw [hcons] at hacc
          simp only [numAcc] at hacc
          refine letX2 (I := fun us n u => us = false ∧ w2 = u ∧ ∃ m' : Nat, n = m' ∧ m' < 18446744073709551616 ∧ numAcc b 0 s = numAcc b m' (s.drop (i + 1))) (fun us n u => ?_) (fun hj => ?_)
          · rintro ⟨rfl, rfl, m', rfl, hm', ha'⟩
            rw [w64 (by omega) (by omega)]
            exact ⟨⟨rfl, hgw, hg2, i + 1, m', by omega, rfl, hlt, hm', ha'⟩, (by omega : s.length - ((i : Int) + 1).toNat < s.length - (i : Int).toNat)⟩
          · obtain ⟨ad, hA, hcl⟩ := (hrd.grow hg2).at_ (by intro q; have hq := congrArg List.length q; rw [bv_length] at hq; have h0 : s.length = 0 := hq; omega)
            refine ⟨⟨by omega, by omega, by rw [hA]; rfl⟩, (s[i].toNat : Int), ?_, ?_⟩
            · rw [hA]
              show w2.cell? (ad.add _) = _
              have := hcl i (.int .u8 (s[i].toNat : Int)) (by simp [bv, hlt])
              simpa using this
            refine letX2 (I := fun us d u => us = false ∧ w2 = u ∧ ∃ dn : Nat, d = dn ∧ dig36 s[i] = some dn ∧ dn < 36) (fun us d u => ?_) (fun hj2 => ?_)
            · rintro ⟨rfl, rfl, dn, rfl, hd, hd36⟩
              rw [hd] at hacc
              simp only [] at hacc
              refine br_dec (fun hge => ?_) (fun hlt2 => ?_)
              · exact ⟨_, mkErr _ _, herr _ _ _ (.inr (by rw [hacc, if_pos (by omega)])) (.inl rfl) hgw⟩
              rw [if_neg (by omega)] at hacc
              refine br_dec (fun hge => ?_) (fun hlt3 => ?_)
              · have hov : 18446744073709551616 ≤ m * b + dn := by
                  unfold cutoff at hge
                  rcases hb with rfl | rfl
                  · rw [if_pos rfl] at hge; omega
                  · rw [if_neg (by decide)] at hge; omega
                exact ⟨_, mkErr _ _, herr _ _ _ (.inr (by rw [hacc, if_pos hov])) (.inr rfl) hgw⟩
              have hmb : m * b < 18446744073709551616 := by
                unfold cutoff at hlt3
                rcases hb with rfl | rfl
                · rw [if_pos rfl] at hlt3; omega
                · rw [if_neg (by decide)] at hlt3; omega
              have e1 : IntKind.wrap .u64 ((m : Int) * (b : Int)) = ((m * b : Nat) : Int) := by
                rw [← Int.natCast_mul]; exact wu64 (by omega) (by omega)
              have e2 : IntKind.wrap .u64 (dn : Int) = dn := wu64 (by omega) (by omega)
              rw [e1, e2]
              by_cases hov : 18446744073709551616 ≤ m * b + dn
              · have e3 : IntKind.wrap .u64 (((m * b : Nat) : Int) + (dn : Int)) = ((m * b + dn - 18446744073709551616 : Nat) : Int) := by
                  rw [show (((m * b : Nat) : Int) + (dn : Int)) = ((m * b + dn : Nat) : Int) by omega]
                  have hz : m * b + dn < 2 * 18446744073709551616 := by omega
                  generalize m * b + dn = z at hov hz
                  show ((z : Int) % 18446744073709551616) = _
                  omega
                rw [e3]
                refine br_t (by simp; left; omega) ?_
                exact ⟨_, mkErr _ _, herr _ _ _ (.inr (by rw [hacc, if_pos hov])) (.inr rfl) hgw⟩
              · have e3 : IntKind.wrap .u64 (((m * b : Nat) : Int) + (dn : Int)) = ((m * b + dn : Nat) : Int) := by
                  rw [show (((m * b : Nat) : Int) + (dn : Int)) = ((m * b + dn : Nat) : Int) by omega]; exact wu64 (by omega) (by omega)
                rw [e3]
                refine br_f (by simp; omega) ?_
                rw [if_neg hov] at hacc
                exact hj _ _ _ ⟨rfl, rfl, _, rfl, by omega, hacc⟩
            · refine br_f (by rw [show ((b : Int) == 0) = false by rcases hb with rfl | rfl <;> rfl, Bool.and_false]) ?_
              have hc256 := s[i].toNat_lt
              by_cases hdg : 48 ≤ s[i].toNat ∧ s[i].toNat ≤ 57
              · refine br_t (by simp; omega) ?_
                rw [wu8 (by omega) (by omega)]
                exact hj2 _ _ _ ⟨rfl, rfl, s[i].toNat - 48, by omega, by unfold dig36; rw [if_pos hdg], by omega⟩
              · refine br_f (by simp; omega) ?_
                refine lower_spec ?_
                have hl256 := (s[i] ||| 32).toNat_lt
                refine letJ1 (I := fun n4 u => n4 = (if 97 ≤ (s[i] ||| 32).toNat then ((s[i] ||| 32).toNat : Int) else 0) ∧ w2 = u) (fun n4 u => ?_) (fun hj3 => ?_)
                · rintro ⟨rfl, rfl⟩
                  by_cases hlet : 97 ≤ (s[i] ||| 32).toNat ∧ (s[i] ||| 32).toNat ≤ 122
                  · refine br_t (low_t hlet) ?_
                    refine lower_spec ?_
                    rw [wu8 (n := ((s[i] ||| 32).toNat : Int) - 97) (by omega) (by omega), wu8 (by omega) (by omega)]
                    exact hj2 _ _ _ ⟨rfl, rfl, (s[i] ||| 32).toNat - 87, by omega, by unfold dig36; rw [if_neg hdg, if_pos hlet], by omega⟩
                  · refine br_f (low_f hlet) ?_
                    have hnone : dig36 s[i] = none := by unfold dig36; rw [if_neg hdg, if_neg hlet]
                    rw [hnone] at hacc
                    exact ⟨_, mkErr _ _, herr _ _ _ (.inr hacc) (.inl rfl) hgw⟩
                · refine ⟨fun h97 => lower_spec (hj3 _ _ ⟨?_, rfl⟩), fun h97 => hj3 _ _ ⟨?_, rfl⟩⟩
                  · have := of_decide_eq_true h97
                    rw [if_pos (by omega)]
                  · have := of_decide_eq_false h97
                    rw [if_neg (by omega)]; rfl
        · refine letJ1 (I := fun bb u => w2 = u) (fun bb u => ?_) (fun hj => ⟨fun q => (by cases q), fun _ => hj _ _ rfl⟩)
          rintro rfl
          refine br_f rfl ?_
          rw [List.drop_eq_nil_of_le (by omega)] at hacc
          exact hok m _ hne hacc hgw
      · rcases hb with rfl | rfl
        · exact br_t rfl (hj _ _ ⟨rfl, rfl⟩)
        · exact br_f rfl (br_t rfl (hj _ _ ⟨rfl, rfl⟩))
    · exact br_f rfl (br_f rfl (hj _ _ ⟨rfl, rfl⟩))
  · rcases hb with rfl | rfl
    · exact br_t rfl (hj _ _ _ ⟨rfl, rfl, rfl⟩)
    · exact br_t rfl (hj _ _ _ ⟨rfl, rfl, rfl⟩)

/-- an error's value is not nil -/
theorem errNe (x y : Operand) (t : TypeId) (v : Value) (w : World) : (do eqGuard .neq t_error x y (.iface t v) .nilIface; binOp .neq t_error (.iface t v) .nilIface : Sem Value).run Tryd.prog w = .ok (.bool true) w := by kernel_rfl
theorem nilNe (k : Nat) (w : World) : (do eqGuard .neq t_error (.tmp k) (.const .nilIface) .nilIface .nilIface; binOp .neq t_error .nilIface .nilIface : Sem Value).run Tryd.prog w = .ok (.bool false) w := by kernel_rfl
theorem errEq22 (i j : Nat) (w : World) : (do eqGuard .eql t_error (.tmp i) (.tmp j) (.iface t_strconv_Error (.int .i64 2)) (.iface t_strconv_Error (.int .i64 2)); binOp .eql t_error (.iface t_strconv_Error (.int .i64 2)) (.iface t_strconv_Error (.int .i64 2)) : Sem Value).run Tryd.prog w = .ok (.bool true) w := by kernel_rfl
theorem errEq12 (i j : Nat) (w : World) : (do eqGuard .eql t_error (.tmp i) (.tmp j) (.iface t_strconv_Error (.int .i64 1)) (.iface t_strconv_Error (.int .i64 2)); binOp .eql t_error (.iface t_strconv_Error (.int .i64 1)) (.iface t_strconv_Error (.int .i64 2)) : Sem Value).run Tryd.prog w = .ok (.bool false) w := by kernel_rfl
theorem errEq11 (i j : Nat) (w : World) : (do eqGuard .eql t_error (.tmp i) (.tmp j) (.iface t_strconv_Error (.int .i64 1)) (.iface t_strconv_Error (.int .i64 1)); binOp .eql t_error (.iface t_strconv_Error (.int .i64 1)) (.iface t_strconv_Error (.int .i64 1)) : Sem Value).run Tryd.prog w = .ok (.bool true) w := by kernel_rfl
theorem mkErrP (p : Option Addr) (w : World) : (Instr.makeInterface t_p_strconv_NumError (.pointer p)).run Tryd.prog w = .ok (.iface t_p_strconv_NumError (.pointer p)) w := by kernel_rfl
/-- the errors that the library keeps -/
structure ErrV (w : World) : Prop where
  syn : ∃ t v, w.cell? ⟨gl_strconv_ErrSyntax, 0, none⟩ = some (.iface t v)
  rng : ∃ t v, w.cell? ⟨gl_strconv_ErrRange, 0, none⟩ = some (.iface t v)
theorem ErrV.grow {w w' : World} (h : ErrV w) (g : Grow w w') : ErrV w' :=
  ⟨by obtain ⟨t, v, e⟩ := h.syn; exact ⟨t, v, g.cell e (fun q => q)⟩, by obtain ⟨t, v, e⟩ := h.rng; exact ⟨t, v, g.cell e (fun q => q)⟩⟩
theorem clone_rule {s : ByteArray} {w : World} {R : ByteArray → World → Prop} (hl : s.size ≤ 281474976710656) (h : ∀ w', Grow w w' → R s w') : Cinternal_stringslite_Clone s w R :=
  callK1 (k := .s) (x := s) (Q := fun w' => Grow w w') ((Tryd.stringslite_Clone s w hl).mono fun _ _ q => ⟨q.1, keep_of_below q.2⟩) h
theorem numErr_build (a b : ByteArray) (t : TypeId) (v : Value) (w : World) : (Instr.build t_strconv_NumError #[(0, .string a), (1, .string b), (2, .iface t v)]).run Tryd.prog w = .ok (.agg #[.string a, .string b, .iface t v]) w := by
  kernel_rfl
theorem syntax_spec {fn s : ByteArray} {w : World} {R : Option Addr → World → Prop} (hv : ErrV w) (hl : s.size ≤ 281474976710656) (h : ∀ p w', Grow w w' → R p w') : Cstrconv_syntaxError fn s w R := by
  refine Fstrconv_syntaxError.calls _ _ _ _ ?_
  rintro w0 hw0
  have g0 := keep_drew' hw0
  obtain ⟨t, v, hc⟩ := hv.syn
  refine ⟨Grow w, g0, .iface t v, fun u hu => hu.cell hc (fun q => q), clone_rule hl fun w1 g1 => ⟨g0.trans g1, Grow w, g0.trans g1, fun u hu => hu, #[.string fn, .string s, .iface t v], fun u hu => numErr_build _ _ _ _ _, ?_⟩⟩
  exact new_rule fun b w2 _ _ g2 _ => h _ _ ((g0.trans g1).trans g2)
theorem range_spec {fn s : ByteArray} {w : World} {R : Option Addr → World → Prop} (hv : ErrV w) (hl : s.size ≤ 281474976710656) (h : ∀ p w', Grow w w' → R p w') : Cstrconv_rangeError fn s w R := by
  refine Fstrconv_rangeError.calls _ _ _ _ ?_
  rintro w0 hw0
  have g0 := keep_drew' hw0
  obtain ⟨t, v, hc⟩ := hv.rng
  refine ⟨Grow w, g0, .iface t v, fun u hu => hu.cell hc (fun q => q), clone_rule hl fun w1 g1 => ⟨g0.trans g1, Grow w, g0.trans g1, fun u hu => hu, #[.string fn, .string s, .iface t v], fun u hu => numErr_build _ _ _ _ _, ?_⟩⟩
  exact new_rule fun b w2 _ _ g2 _ => h _ _ ((g0.trans g1).trans g2)
theorem toError_spec {fn s : ByteArray} {b bs k : Int} {w : World} {R : Value → World → Prop} (hv : ErrV w) (hl : s.size ≤ 281474976710656) (hk : k = 2 ∨ k = 1)
    (h : ∀ t v w', Grow w w' → R (.iface t v) w') : Cstrconv_toError fn s b bs (.iface t_strconv_Error (.int .i64 k)) w R := by
  refine Fstrconv_toError.calls _ _ _ _ _ _ _ ?_
  rcases hk with rfl | rfl
  · exact ⟨_, mkErr _ _, true, errEq22 _ _ _, br_t rfl (syntax_spec hv hl fun p w' g => ⟨_, mkErrP _ _, h _ _ _ g⟩)⟩
  · exact ⟨_, mkErr _ _, false, errEq12 _ _ _, br_f rfl ⟨_, mkErr _ _, true, errEq11 _ _ _, br_t rfl (range_spec hv hl fun p w' g => ⟨_, mkErrP _ _, h _ _ _ g⟩)⟩⟩
/-- text.parsed -/
theorem parsed_spec {s : L8} {b : Nat} {w : World} {R : Int → Bool → World → Prop} (hv : ErrV w) (hb : b = 10 ∨ b = 16) (hl : s.length ≤ 140737489403904)
    (hok : ∀ (n : Nat) w', s ≠ [] → numAcc b 0 s = some n → Grow w w' → R (n : Int) true w')
    (herr : ∀ w', (s = [] ∨ numAcc b 0 s = none) → Grow w w' → R 0 false w') : Ctext_parsed (str s) (b : Int) w R := by
  refine Ftext_parsed.calls _ _ _ _ ?_
  refine Fstrconv_ParseUint.calls _ _ _ _ _ ?_
  refine iparse_spec hb hl (fun n w' h1 h2 g => ?_) (fun n k w' h1 hk g => ?_)
  · exact ⟨false, nilNe _ _, br_f rfl ⟨false, nilNe _ _, br_f rfl (hok n w' h1 h2 g)⟩⟩
  · exact ⟨true, errNe _ _ _ _ _, br_t rfl (toError_spec (hv.grow g) (by rw [size_str]; omega) hk fun t v w2 g2 => ⟨true, errNe _ _ _ _ _, br_t rfl (herr w2 h1 (g.trans g2))⟩)⟩
end Go.Proofs.YtjfjanogfakclaaDoor

/- Numbers as texts: strconv.FormatUint at base 10; the reference's Dec. -/
namespace Go.Proofs.YtjfjanogfakclaaDoor
open Go CF
/-- the decimal digits -/
abbrev dec (n : Nat) : L8 := Lib.decDigits n
/-- the library's table of powers lies where it was laid -/
def TabV (w : World) : Prop := Lib.TabIs Tryd.prog w "internal/strconv.uint64pow10" .u64 Lib.pow10Tab
theorem TabV.grow {w w' : World} (h : TabV w) (g : Grow w w') : TabV w' := by
  unfold TabV Lib.TabIs World.var? at *
  rw [Option.bind_eq_some_iff] at *
  obtain ⟨gl, h1, h2⟩ := h
  refine ⟨gl, h1, ?_⟩
  have hlt : gl < w.heap.size := by
    rcases hq : w.heap[gl]? with _ | o
    · rw [hq] at h2; cases h2
    · exact (Array.getElem?_eq_some_iff.1 hq).1
  rw [show w'.heap[gl]? = w.heap[gl]? from g.block gl hlt (fun q => q)]
  exact h2
theorem small_rule {i : Nat} {w : World} {R : ByteArray → World → Prop} (hi : i < 100) (h : R (str (dec i)) w) : Cinternal_strconv_small (i : Int) w R :=
  callK1 (k := .s) (x := str (dec i)) (Q := fun w' => w' = w) (Tryd.internal_strconv_small i hi w) (fun _ e => e ▸ h)
theorem zeros_cells : (#[.int .u8 0, .int .u8 0, .int .u8 0, .int .u8 0, .int .u8 0, .int .u8 0, .int .u8 0, .int .u8 0, .int .u8 0, .int .u8 0, .int .u8 0, .int .u8 0, .int .u8 0, .int .u8 0, .int .u8 0, .int .u8 0, .int .u8 0, .int .u8 0, .int .u8 0, .int .u8 0, .int .u8 0, .int .u8 0, .int .u8 0, .int .u8 0] : Array Value) = Array.replicate 24 (.int .u8 0) := by rfl
theorem format_spec {u : Nat} {w : World} {R : ByteArray → World → Prop} (hv : TabV w) (hu : u < 18446744073709551616) (h : ∀ w', Grow w w' → R (str (dec u)) w') : Cstrconv_FormatUint (u : Int) 10 w R := by
  refine Fstrconv_FormatUint.calls _ _ _ _ ?_
  refine Finternal_strconv_FormatUint.calls _ _ _ _ ?_
  unfold Finternal_strconv_FormatUint
  refine br_t rfl ?_
  refine br_dec (fun hlt => ?_) (fun hge => ?_)
  · rw [w64 (by omega) (by omega)]
    exact small_rule (by omega) (h w (Keep.refl _ _))
  · refine new_rule fun b w1 hb hblk hg1 hsz => ?_
    have hu1 : 1 ≤ u := by omega
    refine callK1 (k := .i .i64) (x := (Lib.nDigits u : Int)) (Q := fun w' => w' = w1) (Tryd.internal_strconv_numDigits u hu1 hu w1 (hv.grow hg1)) ?_
    rintro w2 rfl
    have hnd20 : Lib.nDigits u ≤ 20 := by have := Lib.numDigits_eq u hu1 hu; split at this <;> omega
    refine ⟨⟨by omega, by omega, by omega⟩, ?_⟩
    have hA : (if 24 = 0 then (⟨b, 0, none⟩ : Addr) else (⟨b, 0, none⟩ : Addr).add (0 * 1)) = ⟨b, 0, none⟩ := by
      rw [if_neg (by decide)]; exact add0 _ _ _
    rw [hA, show ((Lib.nDigits u : Int)).toNat - 0 = Lib.nDigits u by omega]
    rw [zeros_cells] at hblk
    have hblk' : Blk w2 b (Array.replicate 24 (.int .u8 0)) t_24_uint8 := hblk
    have hH : Go.Sort.Holds (fun (x : UInt8) => Value.int .u8 (x.toNat : Int)) w2 b 0 (Array.replicate (Lib.nDigits u) (0 : UInt8)) := fun j hj => by
      have hj' : j < Lib.nDigits u := by simpa using hj
      refine ⟨?_, Blk.free hblk' _⟩
      rw [Blk.cell hblk', Nat.zero_add, getElem!_pos _ j hj, Array.getElem_replicate, Array.getElem?_replicate, if_pos (by omega)]
      rfl
    have hF := Tryd.internal_strconv_formatBase10 b 0 (24 - 0) u (Array.replicate (Lib.nDigits u) 0) w2 hH (by rw [Array.size_replicate]; exact Lib.lt_pow_nDigits u) hu (by rw [Array.size_replicate]; omega)
    rw [Array.size_replicate] at hF
    refine callK0 (Q := fun w' => ∃ (n v' : Nat) (dk : Array UInt8), w' = (Go.Sort.putRow (fun (b : UInt8) => Value.int .u8 (b.toNat : Int)) w2 b 0 dk).drewN n ∧ Lib.FmtInv (Lib.nDigits u) u 0 v' dk) hF ?_
    rintro w3 ⟨n, v', dk, rfl, hfi⟩
    refine ⟨⟨by omega, by omega, by omega⟩, str (dec u), ?_, ?_⟩
    · have hc := run_convert_bytes_back (P := Tryd.prog) ((Go.Sort.putRow (fun (b : UInt8) => Value.int .u8 (b.toNat : Int)) w2 b 0 dk).drewN n) t_sl_uint8 t_string t_uint8 ⟨b, 0, none⟩ (24 - 0) (dec u) u_sl_uint8 u_uint8 u_string (fun j hj => by
        rw [Lib.row_is_numeral hfi j hj, add0, World.cell?_drewN]
        exact Go.Sort.cell?_putRow (fun (b : UInt8) => Value.int .u8 (b.toNat : Int)) w2 b 0 _ dk hH (by rw [hfi.size, Array.size_replicate]) j (by rw [hfi.size]; rw [Lib.decDigits_length] at hj; exact hj))
      rw [Lib.decDigits_length] at hc
      exact hc
    · refine h _ (Grow.keep hg1 (S := fun k => k = b) ?_ (fun i hi q => by omega))
      refine ⟨rfl, rfl, rfl, ?_, fun k hk hn => ?_⟩
      · simp [Go.Sort.putRow, Go.Sort.mapBlock, World.drewN]
      · simp only [Go.Sort.putRow, Go.Sort.mapBlock, World.drewN, Array.getElem?_modify]
        rw [if_neg (fun q => hn q.symm)]
end Go.Proofs.YtjfjanogfakclaaDoor

/- The reference's Dec. -/
namespace Go.Proofs.YtjfjanogfakclaaDoor
open Go CF
theorem str_append (a b : L8) : str a ++ str b = str (a ++ b) := by
  apply ls_inj
  rw [ls_str]
  show ((str a) ++ (str b)).data.toList = _
  simp [str, ByteArray.data_append]
theorem nDigits_le {n : Nat} (h : n < 18446744073709551616) : Lib.nDigits n ≤ 20 := by
  by_cases h0 : n = 0
  · subst h0; rw [Lib.nDigits_small (by decide)]; decide
  · have := Lib.numDigits_eq n (by omega) h
    split at this <;> omega
theorem dec_small {n : Nat} (h : n < 10) : dec n = [UInt8.ofNat (48 + n)] := by unfold dec; rw [Lib.decDigits, dif_pos h]
theorem dec_big {n : Nat} (h : ¬ n < 10) : dec n = dec (n / 10) ++ [UInt8.ofNat (48 + n % 10)] := by unfold dec; rw [Lib.decDigits, dif_neg h]
theorem digit_val {d : Nat} (h : d < 10) : IntKind.wrap .u8 (IntKind.wrap .u64 (48 + (d : Int))) = ((UInt8.ofNat (48 + d)).toNat : Int) := by
  rw [wu64 (by omega) (by omega), wu8 (by omega) (by omega), UInt8.toNat_ofNat']
  omega
/-- one byte as a text -/
theorem byte_str {w : World} {c : UInt8} {K : Sl → World → Prop} (h : ∀ s w', Grow w w' → w'.heap.size = w.heap.size + 1 → Rd w' 1 s (bv [c]) → K s w') :
    RunK Tryd.prog .sl (Instr.buildSlice t_sl_uint8 1 #[(0, .int .u8 (c.toNat : Int))]) w K := by
  refine lit_rule (cells := #[.int .u8 (c.toNat : Int)]) (e := t_uint8) (z := 1) (base := w.heap.size) (by kernel_rfl) rfl (by decide) (Nat.le_refl _) fun w1 hlit hg hsz => ?_
  exact h _ _ hg hsz (hlit.rd (by show 1 ≤ _; decide))
end Go.Proofs.YtjfjanogfakclaaDoor
