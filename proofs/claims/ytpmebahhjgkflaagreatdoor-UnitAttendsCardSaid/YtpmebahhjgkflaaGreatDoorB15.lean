import Derived.Test.YtpmebahhjgkflaaGreatDoorB14
/- Layer 15: Parse, as the reference has it. -/
namespace Go.Proofs.YtpmebahhjgkflaaGreatDoor
open Go CF
set_option maxRecDepth 100000

end Go.Proofs.YtpmebahhjgkflaaGreatDoor

/- Layer 15: the parameters that tell a list, as the reference lays them. -/
namespace Go.Proofs.YtpmebahhjgkflaaGreatDoor
open Go CF
set_option maxRecDepth 100000

end Go.Proofs.YtpmebahhjgkflaaGreatDoor

/- Layer 15: the helpers of the laws of parameters. -/
namespace Go.Proofs.YtpmebahhjgkflaaGreatDoor
open Go CF
set_option maxRecDepth 100000

end Go.Proofs.YtpmebahhjgkflaaGreatDoor

/- Layer 15: two devices over one world; a unit is found. -/
namespace Go.Proofs.YtpmebahhjgkflaaGreatDoor
open Go CF
set_option maxRecDepth 100000

/-! ### a device reads and writes -/
section
variable {w u v : World} {dv ps pw : Nat} {file : ByteArray} {kind n : Nat} {cache : Bool} {D D' : Nat → Prop} {st st' : Wst} {bs bs' : List Bk} {m m' : Nat}
theorem Dvq.read (h : Dv u dv ps pw file kind n cache D st bs m) (hm : m ≤ 600000000) {c : Cm} {p : Sl} {l : L8} {K : Array Value → World → Prop} (hk : c.kind = 7) (hkn : knownB kind c.prot = true) (hc : c.lba + c.blocks ≤ n) (hp : Rd u 1 p (bv l)) (hpb : p.n ≤ 140737488351232) (hf : Fine kind bs)
    (hK : ∀ d v, Keep D u v → RdW u v pw D st c.blocks → Dv v dv ps pw file kind n cache D { st with ops := st.ops + c.blocks } bs (m + c.blocks) → d.n = c.blocks * szB (decide (c.prot ≠ 0)) → Own v u.heap.size t_uint8 1 d (bv (packB (decide (c.prot ≠ 0)) ((bs.drop c.lba).take c.blocks))) → K (rsv 0 sn0 d).toArray v) :
    Csbc_Dev_Do (some ⟨dv, 0, none⟩) (cmv c).toArray p u K := by
  have hsz := h.size
  have hlen := h.len
  refine do_spec h hm hp hpb (by omega) (by omega) (fun q => by rw [hkn] at q; cases q) (fun _ _ _ q => by omega) (fun _ _ _ _ d v hkp hw hown => ?_) (fun _ _ _ i hi q => absurd (fine_part hf i hi c.prot) q) (fun _ q => by omega) (fun _ q => by omega) (fun _ q => by omega) (fun _ q => by omega)
    (fun _ _ ab v _ _ _ => ⟨fun q => by omega, fun q => by omega, fun q => by omega, fun q => by omega, fun q => by omega⟩) (fun _ a _ _ _ _ _ _ _ _ => by omega)
  have hLl : ((bs.drop c.lba).take c.blocks).length = c.blocks := by rw [List.length_take, List.length_drop]; omega
  have hdn := own_n' hown
  rw [packB_len, hLl] at hdn
  exact hK d v hkp hw (h.ops hkp (hw.isW h.isW)) hdn hown
theorem Dvq.out (h : Dv u dv ps pw file kind n cache D st bs m) (hm : m ≤ 600000000) {c : Cm} {p : Sl} {l : L8} {K : Array Value → World → Prop} (hk : c.kind = 8) (hp0 : c.prot = 0) (hc : n < c.lba + c.blocks) (hlb : c.lba < 18446744073709551616) (hbl : c.blocks < 18446744073709551616) (hp : Rd u 1 p (bv l)) (hpb : p.n ≤ 140737488351232)
    (hK : ∀ v, Grow u v → K (rsv 2 (atS 5 0x2100 c.lba) nilS).toArray v) : Csbc_Dev_Do (some ⟨dv, 0, none⟩) (cmv c).toArray p u K := by
  have hkd := h.kd
  have hkn : knownB kind c.prot = true := by unfold knownB; rw [hp0]; simp [hkd]
  refine do_spec h hm hp hpb hlb hbl (fun q => by rw [hkn] at q; cases q) (fun _ _ _ _ v hg => hK v hg) (fun _ q => by omega) (fun _ q => by omega) (fun _ _ q => by omega) (fun _ _ q => by omega) (fun _ _ q => by omega) (fun _ q => by omega)
    (fun _ _ ab v _ _ _ => ⟨fun q => by omega, fun q => by omega, fun q => by omega, fun q => by omega, fun q => by omega⟩) (fun _ a b c _ _ _ _ _ _ => by omega)
/-! ### another file is as it was -/
end
/-! ### named devices -/
def nmv (x : ByteArray × Nat × Nat) : List Value := [.string x.1, .pointer (some ⟨x.2.1, 0, none⟩), .int .u8 (x.2.2 : Int)]
def nm (j : Nat) : ByteArray := if j = 0 then s_a else s_b
def e32 : List Bk := List.replicate 32 emptyB
end Go.Proofs.YtpmebahhjgkflaaGreatDoor

/- Layer 15: a unit is found; a command and the place of its result in either order. -/
namespace Go.Proofs.YtpmebahhjgkflaaGreatDoor
open Go CF
set_option maxRecDepth 100000

/-! ### a command, and a place for its result, in either order -/
/-- a result that is held -/
theorem res_new {v : World} {s : Nat} {sn : Sn} {d : Sl} {K : Addr → World → Prop} (h : ∀ rb v', rb = v.heap.size → Grow v v' → Blk v' rb (rsv s sn d).toArray t_api_Result → K ⟨rb, 0, none⟩ v') :
    New (.cells z10 t_api_Result) v fun a v1 => RunU Tryz.prog (storeVar t_api_Result a (.agg (rsv s sn d).toArray)) v1 fun x => K a x := by
  refine new_rule fun rb v1 hrb hb1 hg1 hsz1 => lay_rule hb1 rfl fun v2 hb2 hk2 hsz2 => ?_
  exact h rb v2 hrb (hg1.keep hk2 fun i hi q => by omega) hb2
end Go.Proofs.YtpmebahhjgkflaaGreatDoor

/- Layer 15: copies between two devices, as the program does them. -/
namespace Go.Proofs.YtpmebahhjgkflaaGreatDoor
open Go CF
set_option maxRecDepth 100000

def rdC (lba blocks : Nat) : Cm := ⟨7, false, lba, blocks, 0, false, 0, false, false, 0, 0, false, 0, 0, false⟩
def wrC (lba blocks : Nat) : Cm := ⟨8, false, lba, blocks, 0, false, 0, false, false, 0, 0, false, 0, 0, false⟩
end Go.Proofs.YtpmebahhjgkflaaGreatDoor

/- Layer 15: copies among any devices over one world, under any plan, as a function. -/
namespace Go.Proofs.YtpmebahhjgkflaaGreatDoor
open Go CF
set_option maxRecDepth 100000
/-- a device with a name -/
structure Dq where
  serial : ByteArray
  dv : Nat
  ps : Nat
  file : ByteArray
  kind : Nat
  n : Nat
  cache : Bool
  shut : Nat
def findG (L : List Dq) (us : List L8) (i : Int) : Option Dq := if 0 ≤ i then (us[i.toNat]?).bind fun s => L.find? fun d => decide (d.serial = str s) else none
/-- a segment: what went wrong, and the files -/
def segG (F : Int → Bool) (L : List Dq) (us : List L8) (st : Wst) (x : SegX) : Option Nat × Wst :=
  match findG L us x.from_, findG L us x.to_ with
  | some a, some b => if a.shut % 2 = 1 ∨ b.shut / 2 % 2 = 1 then (some 3330, st)
    else if (doX F a.kind a.n a.cache a.file st (rdC x.src x.blocks.toNat) []).1.st ≠ 0 then (some (doX F a.kind a.n a.cache a.file st (rdC x.src x.blocks.toNat) []).1.sn.code, (doX F a.kind a.n a.cache a.file st (rdC x.src x.blocks.toNat) []).2)
    else if (doX F b.kind b.n b.cache b.file (doX F a.kind a.n a.cache a.file st (rdC x.src x.blocks.toNat) []).2 (wrC x.dst ((doX F a.kind a.n a.cache a.file st (rdC x.src x.blocks.toNat) []).1.d.length / 16)) (doX F a.kind a.n a.cache a.file st (rdC x.src x.blocks.toNat) []).1.d).1.st ≠ 0
      then (some (doX F b.kind b.n b.cache b.file (doX F a.kind a.n a.cache a.file st (rdC x.src x.blocks.toNat) []).2 (wrC x.dst ((doX F a.kind a.n a.cache a.file st (rdC x.src x.blocks.toNat) []).1.d.length / 16)) (doX F a.kind a.n a.cache a.file st (rdC x.src x.blocks.toNat) []).1.d).1.sn.code, (doX F b.kind b.n b.cache b.file (doX F a.kind a.n a.cache a.file st (rdC x.src x.blocks.toNat) []).2 (wrC x.dst ((doX F a.kind a.n a.cache a.file st (rdC x.src x.blocks.toNat) []).1.d.length / 16)) (doX F a.kind a.n a.cache a.file st (rdC x.src x.blocks.toNat) []).1.d).2)
    else (none, (doX F b.kind b.n b.cache b.file (doX F a.kind a.n a.cache a.file st (rdC x.src x.blocks.toNat) []).2 (wrC x.dst ((doX F a.kind a.n a.cache a.file st (rdC x.src x.blocks.toNat) []).1.d.length / 16)) (doX F a.kind a.n a.cache a.file st (rdC x.src x.blocks.toNat) []).1.d).2)
  | _, _ => (some 3330, st)
/-- how many segments, the result, and the files -/
def copyG (F : Int → Bool) (L : List Dq) (us : List L8) : Nat → List SegX → Wst → Nat × RsX × Wst
  | n, [], st => (n, okX [], st)
  | n, x :: r, st => match segG F L us st x with
    | (some code, st') => (n, snX (atS 10 code n), st')
    | (none, st') => copyG F L us (n + 1) r st'
/-- what does not hang on where things lie -/
def Dq.bare (d : Dq) : Dq := { d with dv := 0, ps := 0 }
section
variable {w u v : World} {pw m : Nat} {D D' : Nat → Prop} {st st' : Wst} {F : Int → Bool} {L : List Dq}
end
end Go.Proofs.YtpmebahhjgkflaaGreatDoor

/- Layer 15: Run among any devices. -/
namespace Go.Proofs.YtpmebahhjgkflaaGreatDoor
open Go CF
set_option maxRecDepth 100000
end Go.Proofs.YtpmebahhjgkflaaGreatDoor

/- Layer 16: EXTENDED COPY, as a function: who may be reached; what a call holds. -/
namespace Go.Proofs.YtpmebahhjgkflaaGreatDoor
open Go CF
set_option maxRecDepth 100000
/-- units without their places -/
abbrev Pu := List (Nat × USt)
def pub (us : List (UA × USt)) : Pu := us.map fun x => (x.1.ub, x.2)
def idxP (P : Pu) (b : Nat) : Nat := P.findIdx fun x => decide (x.1 = b)
def shutU (s : USt) (n : Nat) : Nat := (if conflictT s.tab n 1 = true then 1 else 0) + (if (conflictT s.tab n 2 || s.now.swp) = true then 2 else 0)
/-- units start, one behind the other: which of them may be reached -/
def namesX (F : Int → Bool) (n : Nat) : List Nat → Pu → Wst → List (Nat × Nat) × Pu × Wst
  | [], P, st => ([], P, st)
  | b :: r, P, st => match P[idxP P b]? with
    | none => namesX F n r P st
    | some x => if (startU F x.2 st).1 ≠ 0 then namesX F n r (P.set (idxP P b) (x.1, (startU F x.2 st).2.1)) (startU F x.2 st).2.2
      else ((idxP P b, shutU (startU F x.2 st).2.1 n) :: (namesX F n r (P.set (idxP P b) (x.1, (startU F x.2 st).2.1)) (startU F x.2 st).2.2).1, (namesX F n r (P.set (idxP P b) (x.1, (startU F x.2 st).2.1)) (startU F x.2 st).2.2).2)
def dqOf (P : Pu) (x : Nat × Nat) : Dq := match P[x.1]? with
  | some y => ⟨y.2.inf.s, 0, 0, y.2.file, y.2.inf.prot, y.2.n, y.2.cache, x.2⟩
  | none => ⟨⟨#[]⟩, 0, 0, ⟨#[]⟩, 0, 0, false, 0⟩
def copyX (F : Int → Bool) (P : Pu) (st : Wst) (i n : Nat) (c : Cm) (l : L8) : RsX × Pu × Wst :=
  if (l.length : Int) ≠ c.alloc then (snX (badS 0x1a00), P, st)
  else if (parseC l).ok = false then (snX (parseC l).sn, P, st)
  else match P[i]? with
    | none => (snX sn0, P, st)
    | some x => ((copyG F ((namesX F n (x.1 :: x.2.peers) P st).1.map (dqOf (namesX F n (x.1 :: x.2.peers) P st).2.1)) (parseC l).us 0 (parseC l).ss (namesX F n (x.1 :: x.2.peers) P st).2.2).2.1,
        (namesX F n (x.1 :: x.2.peers) P st).2.1,
        (copyG F ((namesX F n (x.1 :: x.2.peers) P st).1.map (dqOf (namesX F n (x.1 :: x.2.peers) P st).2.1)) (parseC l).us 0 (parseC l).ss (namesX F n (x.1 :: x.2.peers) P st).2.2).2.2)
/-- units that lie where they lay, but for table and pages -/
structure Likes (us us' : List (UA × USt)) : Prop where
  len : us'.length = us.length
  all : ∀ k (h : k < us.length) (h' : k < us'.length), us[k].1.like us'[k].1 ∧ us[k].2.same us'[k].2
theorem UA.like.trans {a b c : UA} (h : a.like b) (g : b.like c) : a.like c := ⟨g.ub.trans h.ub, g.dv.trans h.dv, g.ps.trans h.ps, g.sl.trans h.sl, g.qb.trans h.qb⟩
theorem USt.same.refl (s : USt) : s.same s := ⟨rfl, rfl, rfl, rfl, rfl, rfl⟩
theorem USt.same.trans {a b c : USt} (h : a.same b) (g : b.same c) : a.same c := ⟨g.inf.trans h.inf, g.file.trans h.file, g.keepf.trans h.keepf, g.n.trans h.n, g.peers.trans h.peers, g.count.trans h.count⟩
theorem Likes.refl (us : List (UA × USt)) : Likes us us := ⟨rfl, fun _ _ _ => ⟨UA.like.refl _, USt.same.refl _⟩⟩
theorem Likes.trans {a b c : List (UA × USt)} (h : Likes a b) (g : Likes b c) : Likes a c := ⟨g.len.trans h.len, fun k h1 h3 => by
  have h2 : k < b.length := by rw [h.len]; exact h1
  exact ⟨(h.all k h1 h2).1.trans (g.all k h2 h3).1, (h.all k h1 h2).2.trans (g.all k h2 h3).2⟩⟩
theorem Likes.set {us : List (UA × USt)} {i : Nat} {a a' : UA} {s s' : USt} (hi : i < us.length) (he : us[i] = (a, s)) (h1 : a.like a') (h2 : s.same s') : Likes us (us.set i (a', s')) := ⟨List.length_set, fun k h h' => by
  rw [List.getElem_set]
  split
  · rename_i e
    subst e
    rw [he]; exact ⟨h1, h2⟩
  · exact ⟨UA.like.refl _, USt.same.refl _⟩⟩
theorem pub_set {us : List (UA × USt)} {i : Nat} {a : UA} {s : USt} : pub (us.set i (a, s)) = (pub us).set i (a.ub, s) := by unfold pub; rw [List.map_set]
theorem pub_get {us : List (UA × USt)} {i : Nat} (hi : i < us.length) : (pub us)[i]? = some (us[i].1.ub, us[i].2) := by unfold pub; rw [List.getElem?_map, List.getElem?_eq_getElem hi]; rfl
section
variable {w u v z w3 : World} {S D D' : Nat → Prop} {pw i m n ab cb : Nat} {a : UA} {s : USt} {st st' : Wst} {F F' : Int → Bool} {ℓ ℓ' ℓ1 ℓ2 : Nat → Option Nat} {us us' : List (UA × USt)} {R : Array Value → World → Prop} {out : Sl} {l : L8} {c : Cm}
/-- a block of the call's own -/
structure LB (v : World) (ℓ : Nat → Option Nat) (b : Nat) (cs : Array Value) (t : TypeId) : Prop where
  blk : Blk v b cs t
  no : ℓ b = none
theorem LB.go {b : Nat} {cs : Array Value} {t : TypeId} (h : LB v ℓ b cs t) (g : Grow v z) : LB z ℓ b cs t := ⟨g.heap h.blk (fun q => q), h.no⟩
theorem LB.mv {b : Nat} {cs : Array Value} {t : TypeId} (h : LB v ℓ b cs t) (m : Mv v z ℓ ℓ') : LB z ℓ' b cs t := ⟨m.heap h.blk h.no, by rw [m.lab _ (lt_of_heap h.blk)]; exact h.no⟩
theorem LB.keep {b d : Nat} {cs ds : Array Value} {t t' : TypeId} (h : LB v ℓ b cs t) (hb : Blk v d ds t') (ht : t ≠ t') (k : Keep (fun x => x = d) v z) : LB z ℓ b cs t := ⟨k.heap h.blk (blk_ne h.blk hb ht), h.no⟩
/-- a row of the call's own -/
structure LR (v : World) (ℓ : Nat → Option Nat) (base : Nat) (e : TypeId) (q : Nat) (x : Sl) (vs : List Value) : Prop where
  own : CF.Own v base e q x vs
  no : ∀ b, x.blk = some b → ℓ b = none
theorem LR.go {base q : Nat} {e : TypeId} {x : Sl} {vs : List Value} (h : LR v ℓ base e q x vs) (g : Grow v z) : LR z ℓ base e q x vs := ⟨h.own.grow g, h.no⟩
theorem LR.mv {base q : Nat} {e : TypeId} {x : Sl} {vs : List Value} (h : LR v ℓ base e q x vs) (m : Mv v z ℓ ℓ') : LR z ℓ' base e q x vs := ⟨h.own.keep m.keep fun b hb r => r (h.no b hb), fun b hb => by rw [m.lab _ (h.own.ge b hb).2]; exact h.no b hb⟩
/-- a row of the call's own is written over -/
theorem Sys.row {y : Sl} {ws : List Value} {base' q' : Nat} {e' : TypeId} (H : Sys v ℓ' pw st F us) (ho : LR v ℓ' base' e' q' y ws) (h1 : ¬ rowT e') (h2 : e' ≠ t_uint8) (k : Keep (fun k => some k = y.blk) v z) : Sys z ℓ' pw st F us :=
  H.loc k fun b _ r => by
    obtain ⟨cur, hc⟩ := own_heap ho.own r.symm
    exact ⟨ho.no b r.symm, cur, e', hc, h1, h2⟩
end
end Go.Proofs.YtpmebahhjgkflaaGreatDoor

/- Layer 16: EXTENDED COPY: one unit more may be reached. -/
namespace Go.Proofs.YtpmebahhjgkflaaGreatDoor
open Go CF
set_option maxRecDepth 100000
/-- what a device is named -/
def rowN (us : List (UA × USt)) (x : Nat × Nat) : List Value := match us[x.1]? with
  | some y => nmv (y.2.inf.s, y.1.dv, x.2)
  | none => nmv (⟨#[]⟩, 0, 0)
section
variable {w u v z w3 : World} {S D D' : Nat → Prop} {pw i m n ab cb : Nat} {a : UA} {s : USt} {st st' : Wst} {F F' : Int → Bool} {ℓ ℓ' ℓ1 ℓ2 : Nat → Option Nat} {us us' : List (UA × USt)} {R : Array Value → World → Prop} {out : Sl} {l : L8} {c : Cm}
end
end Go.Proofs.YtpmebahhjgkflaaGreatDoor

/- Layer 16: EXTENDED COPY, as a function. -/
namespace Go.Proofs.YtpmebahhjgkflaaGreatDoor
open Go CF
set_option maxRecDepth 100000
section
variable {w u v z w3 : World} {S D D' : Nat → Prop} {pw i m n ab cb : Nat} {a : UA} {s : USt} {st st' : Wst} {F F' : Int → Bool} {ℓ ℓ' ℓ1 ℓ2 : Nat → Option Nat} {us us' : List (UA × USt)} {R : Array Value → World → Prop} {out : Sl} {l : L8} {c : Cm}
/-- a command's end, units and all -/
def GOut (w : World) (ℓ : Nat → Option Nat) (pw : Nat) (F : Int → Bool) (us : List (UA × USt)) (m : Nat) (X : RsX × Pu × Wst) (R : Array Value → World → Prop) : Prop :=
  ∀ v ℓ' d us', Mv w v ℓ ℓ' → Sys v ℓ' pw X.2.2 F us' → SOk X.2.2 us' (m + 200000) → Likes us us' → pub us' = X.2.1 → Dat w v ℓ' d X.1.d → R (rsv X.1.st X.1.sn d).toArray v
theorem GOut.ret {X : RsX × Pu × Wst} {d : Sl} (h : GOut w ℓ pw F us m X R) (mv : Mv w v ℓ ℓ') (H : Sys v ℓ' pw X.2.2 F us') (K : SOk X.2.2 us' (m + 200000)) (lk : Likes us us') (hp : pub us' = X.2.1) (dt : Dat w v ℓ' d X.1.d) (hab : w.heap.size ≤ ab) (hn : ℓ' ab = none) (hb : Blk v ab z10 t_api_Result) : Hand ab R (rsv X.1.st X.1.sn d).toArray v :=
  ret_rule hb rfl fun v' hk => h v' ℓ' d us' (mv.loc hk fun b hb2 q => by omega) (H.local1 hb hn hk (rowT_not (by decide) (by decide) (by decide)) (by decide)) K lk hp ⟨dt.1.keep hk fun b hbb q => own_ne dt.1 hb (by decide) (by rw [hbb, q]), dt.2⟩
theorem GOut.hand {X : RsX × Pu × Wst} (h : GOut w ℓ pw F us m X R) (mv : Mv w w3 ℓ ℓ1) (g : w.heap.size ≤ w3.heap.size) (hab : w.heap.size ≤ ab) (hn : ℓ1 ab = none) (hb : Blk w3 ab z10 t_api_Result) : GOut w3 ℓ1 pw F us m X (Hand ab R) := fun v ℓ' d us' mv2 H K lk hp dt =>
  h.ret (mv.trans mv2) H K lk hp (dt.from g) hab (by rw [mv2.lab _ (lt_of_heap hb)]; exact hn) (mv2.heap hb hn)
/-- what a unit's own command comes to -/
theorem GOut.unit {X : RunX} (h : GOut w ℓ pw F us m (X.x, (pub us).set i (a.ub, X.s), X.w) R) (hi : i < us.length) (he : us[i] = (a, s)) (hs : s.same X.s) : UOut w ℓ pw F us i a m X R := fun v ℓ' d mv H K dt =>
  h v ℓ' d (us.set i (a, X.s)) mv H K (Likes.set hi he (UA.like.refl a) hs) pub_set dt
end
end Go.Proofs.YtpmebahhjgkflaaGreatDoor

/- Layer 16: Do, with any way to start. -/
namespace Go.Proofs.YtpmebahhjgkflaaGreatDoor
open Go CF
set_option maxRecDepth 100000
section
variable {w u v : World} {N N' S : Nat → Prop} {pw i n : Nat} {a : UA} {s s1 : USt} {st st1 : Wst} {F : Int → Bool} {ℓ ℓ' : Nat → Option Nat} {us : List (UA × USt)} {p out : Sl} {l : L8}
theorem do_all {e : Nat} {R : Array Value → World → Prop} (H : Sys w ℓ pw st F us) (hi : i < us.length) (he : us[i] = (a, s)) (hn : n < 8) (hct : s.count < 1000000000000) (hp : RdX w ℓ 1 p (bv l))
    (hstart : ∀ u, Mv w u ℓ ℓ → Sys u ℓ pw st F (us.set i (a, bumpU s)) → ∀ K : Int → World → Prop, (∀ u' ℓ' a2, a.like a2 → Mv u u' ℓ ℓ' → Sys u' ℓ' pw st1 F (us.set i (a2, s1)) → K (e : Int) u') → Cunit_Unit_Start (some ⟨a.ub, 0, none⟩) u K)
    (hbad : e ≠ 0 → ∀ ℓ1 a2, a.like a2 → ∀ u, Mv w u ℓ ℓ1 → Sys u ℓ1 pw st1 F (us.set i (a2, s1)) → R (rsv 2 ⟨2, 0, 0, false, 0, 0, false, false⟩ nilS).toArray u)
    (hR : e = 0 → ∀ ℓ1 a2, a.like a2 → match headX s1 n l with
      | .bad sn => ∀ u, Mv w u ℓ ℓ1 → Sys u ℓ1 pw st1 F (us.set i (a2, s1)) → R (rsv 2 sn nilS).toArray u
      | .told c => ∀ u, Mv w u ℓ ℓ1 → Sys u ℓ1 pw st1 F (us.set i (a2, toldU s1 n)) → R (rsv 2 ⟨6, c, 0, false, 0, 0, false, false⟩ nilS).toArray u
      | .conflict => ∀ u, Mv w u ℓ ℓ1 → Sys u ℓ1 pw st1 F (us.set i (a2, s1)) → R (rsv 24 sn0 nilS).toArray u
      | .prot => ∀ u, Mv w u ℓ ℓ1 → Sys u ℓ1 pw st1 F (us.set i (a2, s1)) → R (rsv 2 ⟨7, 9984, 0, false, 0, 0, false, false⟩ nilS).toArray u
      | .run c => ∀ u ab, Mv w u ℓ ℓ1 → Sys u ℓ1 pw st1 F (us.set i (a2, s1)) → Blk u ab z10 t_api_Result → w.heap.size ≤ ab → ℓ1 ab = none → Cunit_Unit_run (some ⟨a2.ub, 0, none⟩) (n : Int) (cmv c).toArray out u (FinR ab R)) : Cunit_Unit_Do (some ⟨a.ub, 0, none⟩) (n : Int) p out w R := by
  refine Funit_Unit_Do.calls _ _ _ _ _ _ (new_rule fun ab w0 hab hb0 hg0 hs0 => ?_)
  have hb0 : Blk w0 ab z10 t_api_Result := hb0
  have hab' : w.heap.size ≤ ab := by omega
  have hfab : ℓ ab = none := H.fresh hab'
  have H0 := H.grow hg0
  obtain ⟨hU, hown⟩ := H0.at hi he
  obtain ⟨z1, z2, z3, z4, z5, z6, z7⟩ := set7 a
  refine ⟨fun _ => rfl, some ⟨a.dv, 0, none⟩, fun _ => hU.cellU fun P => rfl, br_f (by simp; omega) ⟨rfl, ?_⟩⟩
  rw [show (gA (some (⟨a.ub, 0, none⟩ : Addr))).add 15 = ⟨a.ub, 15, none⟩ by rw [gA, add0]]
  obtain ⟨P, hP1, hP2⟩ := hU.unit
  refine add64_spec (o := 15) (n := (s.count : Int)) (s := ((s.count + 1 : Nat) : Int)) hP1 rfl (by rw [w64 (by omega) (by omega)]; omega) fun w1 hb1 hk1 hs1 => ?_
  have sf : Safe w0 (fun k => ℓ k ≠ none) fun b => b = a.ub := Safe.sub fun b _ q => by rw [q, hown _ z1]; exact Option.some_ne_none _
  have hU1 : IsU w1 (fun k => ℓ k ≠ none) pw a (bumpU s) := hU.unitC (on := s.on) (lk := s.lock) (fl := s.fault) (ct := s.count + 1) (ps := s.peers) hk1 sf (fun b _ hne q => hne q) (fun _ q => .inl q) ⟨P, hb1, hP2.step (.inr (.inr rfl)) hk1 sf fun _ q => .inl q⟩
  obtain ⟨m1, H1⟩ := H0.putA hi he hk1 (fun b _ q => by rw [q]; exact z1) hU1
  have hi1 : i < (us.set i (a, bumpU s)).length := by rw [List.length_set]; exact hi
  have m01 : Mv w w1 ℓ ℓ := (Mv.grow hg0).trans m1
  refine hstart w1 m01 H1 _ fun w2 ℓ2 a2 hl2 m12 H2 => ?_
  have m02 := m01.trans m12
  have hab2 : Blk w2 ab z10 t_api_Result := (m1.trans m12).heap hb0 hfab
  have hfab : ℓ2 ab = none := (m12.lab ab (lt_of_heap (m1.heap hb0 hfab))).trans hfab
  refine br_ne (fun hne => checkU_spec (s := ⟨2, 0, 0, false, 0, 0, false, false⟩) fun w3 hg3 => FinR.sys (H2.grow hg3) (m02.go hg3) hab' hfab (hg3.heap hab2 (fun q => q)) rfl fun v k hm hs => hbad (by omega) ℓ2 a2 hl2 v hm hs) (fun hz => ?_)
  have hR := hR (by omega) ℓ2 a2 hl2
  rw [← hl2.ub]
  obtain ⟨z1, z2, z3, z4, z5, z6, z7⟩ := set7 a2
  have hi1 : i < (us.set i (a2, s1)).length := by rw [List.length_set]; exact hi
  refine parse_cmd (m02.rdX hp).rd fun w3 hg3 => ?_
  have m03 := m02.go hg3
  have H3 := H2.grow hg3
  have hab3 : Blk w3 ab z10 t_api_Result := hg3.heap hab2 (fun q => q)
  generalize hX : parseX l = X
  obtain ⟨c, sn, ok⟩ := X
  unfold headX at hR
  rw [hX] at hR
  dsimp only
  refine new_rule fun cb w4 hcb hb4 hg4 hs4 => new_rule fun sb w5 hsb hb5 hg5 hs5 => ?_
  have hcn : ab ≠ cb ∧ ab ≠ sb := by
    have := lt_of_heap hab3
    have := hg4.size
    omega
  refine storeVar_rule (cells := (cmv c).toArray) (hg5.heap hb4 (fun q => q)) i_api_Cmd rfl rfl (by simp [cmv, Value.oneCell']) fun w6 hb6 hk6 hs6 => ?_
  have hb56 := hk6.heap hb5 (fun q => by omega)
  refine storeVar_rule (cells := (snv sn).toArray) hb56 i_api_Sense rfl rfl (by simp [snv, Value.oneCell']) fun w7 hb7 hk7 hs7 => ?_
  have hg37 : Grow w3 w7 := (((hg4.trans hg5).keep hk6 fun i hi q => by omega).keep hk7 fun i hi q => by have := hg4.size; omega)
  have hb67 : Blk w7 cb (cmv c).toArray t_api_Cmd := hk7.heap hb6 (fun q => by omega)
  have m07 := m03.go hg37
  have H7 := H3.grow hg37
  have hab7 : Blk w7 ab z10 t_api_Result := hg37.heap hab3 (fun q => q)
  have c0 : ∀ {v : World}, Blk v cb (cmv c).toArray t_api_Cmd → v.cell? ((⟨cb, 0, none⟩ : Addr).add 0) = some (.int .u8 (c.kind : Int)) := fun q => by rw [add0, q.cell]; rfl
  cases ok with
  | false =>
    refine br_t rfl ⟨(snv sn).toArray, loadVar_rule (cs := snv sn) g_api_Sense i_api_Sense rfl (blk_cells hb7), checkU_spec fun w8 hg8 => ?_⟩
    rw [if_pos rfl] at hR
    exact FinR.sys (H7.grow hg8) (m07.go hg8) hab' hfab (hg8.heap hab7 (fun q => q)) rfl fun v k hm hs => hR v hm hs
  | true =>
    rw [if_neg (fun q => Bool.noConfusion q)] at hR
    dsimp only at hR
    refine br_f rfl ⟨(c.kind : Int), c0 hb67, (c.kind : Int), fun _ => c0 hb67, (c.kind : Int), fun _ => c0 hb67, rfl, ?_⟩
    obtain ⟨hU7, hown7⟩ := H7.at hi1 (List.getElem_set_self _)
    refine ⟨some ⟨a2.qb, 0, none⟩, hU7.cellU fun P => rfl, ?_⟩
    have efree : (!((((c.kind : Int) == 3) || ((c.kind : Int) == 17)) || ((c.kind : Int) == 2))) = !freeK c.kind := by
      unfold freeK
      congr 1
      rw [Bool.eq_iff_iff]
      simp only [Bool.or_eq_true, beq_iff_eq]
      omega
    refine peek_spec hU7.q hn fun w8 hg8 => ?_
    have H8 := H7.grow hg8
    have m08 := m07.go hg8
    have hab8 : Blk w8 ab z10 t_api_Result := hg8.heap hab7 (fun q => q)
    have hb8 : Blk w8 cb (cmv c).toArray t_api_Cmd := hg8.heap hb67 (fun q => q)
    -- what comes behind the attentions
    have rest : ∀ {n5 : Int} {b1 : Bool}, (b1 && !freeK c.kind) = false →
        (match (if conflictT s1.tab n (classX c.kind) = true then HeadX.conflict else if (altersX c.kind && s1.now.swp) = true then .prot else .run c) with
          | .bad sn => ∀ u, Mv w u ℓ ℓ2 → Sys u ℓ2 pw st1 F (us.set i (a2, s1)) → R (rsv 2 sn nilS).toArray u
          | .told c => ∀ u, Mv w u ℓ ℓ2 → Sys u ℓ2 pw st1 F (us.set i (a2, toldU s1 n)) → R (rsv 2 ⟨6, c, 0, false, 0, 0, false, false⟩ nilS).toArray u
          | .conflict => ∀ u, Mv w u ℓ ℓ2 → Sys u ℓ2 pw st1 F (us.set i (a2, s1)) → R (rsv 24 sn0 nilS).toArray u
          | .prot => ∀ u, Mv w u ℓ ℓ2 → Sys u ℓ2 pw st1 F (us.set i (a2, s1)) → R (rsv 2 ⟨7, 9984, 0, false, 0, 0, false, false⟩ nilS).toArray u
          | .run c => ∀ u ab, Mv w u ℓ ℓ2 → Sys u ℓ2 pw st1 F (us.set i (a2, s1)) → Blk u ab z10 t_api_Result → w.heap.size ≤ ab → ℓ2 ab = none → Cunit_Unit_run (some ⟨a2.ub, 0, none⟩) (n : Int) (cmv c).toArray out u (FinR ab R)) →
        ∀ w018, w018 = w8.drew → ∃ S : World → Prop, S w018 ∧ (some (⟨a2.ub, 0, none⟩ : Addr)).isSome = true ∧ ∃ p3 : Option Addr, (∀ u1, S u1 → u1.cell? ((gA (some (⟨a2.ub, 0, none⟩ : Addr))).add 8) = some (.pointer p3)) ∧ ∃ n7 : Int, (∀ u2, S u2 → u2.cell? ((⟨cb, 0, none⟩ : Addr).add 0) = some (.int .u8 n7)) ∧ Cunit_Class n7 w018 fun n8 w019 => S w019 ∧ Cpr_Table_Conflict p3 (n : Int) n8 w019 fun b3 w020 =>
          Br b3 (RunU Tryz.prog (storeVar t_api_Result ⟨ab, 0, none⟩ (.agg #[.int .u8 24, .int .u8 0, .int .u16 0, .int .u64 0, .bool false, .int .i64 0, .int .i64 0, .bool false, .bool false, .slice none 0 0])) w020 fun w021 => ∃ res4 : Array Value, (loadVar t_api_Result ⟨ab, 0, none⟩).run Tryz.prog w021 = .ok (.agg res4) w021 ∧ R res4 w021)
          (∃ n9 : Int, w020.cell? ((⟨cb, 0, none⟩ : Addr).add 0) = some (.int .u8 n9) ∧ Cunit_Alters n9 w020 fun b4 w022 => (b4 = true → (some (⟨a2.ub, 0, none⟩ : Addr)).isSome = true) ∧ ∃ p4 : Option Addr, (b4 = true → w022.cell? ((gA (some (⟨a2.ub, 0, none⟩ : Addr))).add 7) = some (.pointer p4)) ∧ letJ (fun (g7 : Array Value) (w023 : World) => ∃ b5 : Bool, (b4 = true → g7[2]? = some (.bool b5)) ∧ Br (b4 && b5)
            (Cunit_check #[.int .u8 7, .int .u16 9984, .int .u64 0, .bool false, .int .i64 0, .int .i64 0, .bool false, .bool false] w023 fun g8 w024 => RunU Tryz.prog (storeVar t_api_Result ⟨ab, 0, none⟩ (.agg g8)) w024 fun w025 => ∃ res5 : Array Value, (loadVar t_api_Result ⟨ab, 0, none⟩).run Tryz.prog w025 = .ok (.agg res5) w025 ∧ R res5 w025)
            (∃ g9 : Array Value, (loadVar t_api_Cmd ⟨cb, 0, none⟩).run Tryz.prog w023 = .ok (.agg g9) w023 ∧ Cunit_Unit_run (some ⟨a2.ub, 0, none⟩) (n : Int) g9 out w023 fun g10 w026 => RunU Tryz.prog (storeVar t_api_Result ⟨ab, 0, none⟩ (.agg g10)) w026 fun w027 => ∃ res6 : Array Value, (loadVar t_api_Result ⟨ab, 0, none⟩).run Tryz.prog w027 = .ok (.agg res6) w027 ∧ R res6 w027)) fun J_ => (b4 = true → Cmode_Pages_Now p4 w022 J_) ∧ (b4 = false → J_ (Kd.dflt .ag) w022)) := by
      intro n5 b1 _ hR w9 e9
      subst e9
      have hg9 := keep_drew w8
      have H9 := H8.grow hg9
      have m09 := m08.go hg9
      have hab9 : Blk w8.drew ab z10 t_api_Result := hg9.heap hab8 (fun q => q)
      have hb9 : Blk w8.drew cb (cmv c).toArray t_api_Cmd := hg9.heap hb8 (fun q => q)
      generalize w8.drew = w9 at *
      obtain ⟨hU9, hown9⟩ := H9.at hi1 (List.getElem_set_self _)
      refine ⟨fun o => o = w9, rfl, rfl, some ⟨a2.tb, 0, none⟩, fun o e => by rw [e]; exact hU9.cellU fun P => rfl, (c.kind : Int), fun o e => by rw [e]; exact c0 hb9, class_spec ⟨rfl, conflict_spec hU9.tab fun w10 hg10 => ?_⟩⟩
      have H10 := H9.grow hg10
      have m10 := m09.go hg10
      have hab10 : Blk w10 ab z10 t_api_Result := hg10.heap hab9 (fun q => q)
      have hb10 : Blk w10 cb (cmv c).toArray t_api_Cmd := hg10.heap hb9 (fun q => q)
      have hU10 := hU9.grow hg10
      cases hc : conflictT s1.tab n (classX c.kind) with
      | true =>
        rw [hc, if_pos rfl] at hR
        exact br_t rfl (FinR.sys (sn := sn0) (d := nilS) H10 m10 hab' hfab hab10 rfl fun v k hm hs => hR v hm hs)
      | false =>
        rw [hc, if_neg (by decide)] at hR
        refine br_f rfl ⟨(c.kind : Int), c0 hb10, alters_spec ⟨fun _ => rfl, some ⟨a2.pg, 0, none⟩, fun _ => hU10.cellU fun P => rfl, ?_⟩⟩
        refine letJ1 (fun (g7 : Array Value) v => Grow w10 v ∧ (altersX c.kind = true → g7 = (vlv s1.now).toArray)) ?_ (fun J => ⟨fun _ => now_spec hU10.pages fun v hg => J _ _ ⟨hg, fun _ => rfl⟩, fun q => J _ _ ⟨Keep.refl _ _, fun r => by rw [q] at r; cases r⟩⟩)
        rintro g7 v ⟨hgv, hg7⟩
        have Hv := H10.grow hgv
        have mv := m10.go hgv
        have habv : Blk v ab z10 t_api_Result := hgv.heap hab10 (fun q => q)
        have hbv : Blk v cb (cmv c).toArray t_api_Cmd := hgv.heap hb10 (fun q => q)
        refine ⟨s1.now.swp, fun q => by rw [hg7 q]; rfl, ?_⟩
        cases hal : altersX c.kind && s1.now.swp with
        | true =>
          rw [hal, if_pos rfl] at hR
          exact br_t rfl (checkU_spec (s := ⟨7, 9984, 0, false, 0, 0, false, false⟩) fun v' hg' => FinR.sys (Hv.grow hg') (mv.go hg') hab' hfab (hg'.heap habv (fun q => q)) rfl fun v k hm hs => hR v hm hs)
        | false =>
          rw [hal, if_neg (by decide)] at hR
          exact br_f rfl ⟨_, cLoad (c := c) (blk_cells hbv), hR v ab mv Hv habv hab' hfab⟩
    cases hpk : peekX (s1.q n) with
    | none =>
      rw [hpk] at hR
      exact br_f rfl (rest (n5 := 0) (b1 := false) rfl hR)
    | some code =>
      rw [hpk] at hR
      dsimp only
      rw [efree]
      cases hfk : freeK c.kind with
      | true =>
        rw [hfk] at hR
        exact br_f rfl (rest (n5 := (code : Int)) (b1 := true) (by rw [hfk]; rfl) hR)
      | false =>
        rw [hfk] at hR
        dsimp only at hR
        refine br_t rfl ⟨rfl, ?_⟩
        obtain ⟨hU8, hown8⟩ := H8.at hi1 (List.getElem_set_self _)
        refine ⟨some ⟨a2.qb, 0, none⟩, hU8.cellU fun P => rfl, ?_⟩
        refine next_spec hU8.q hn (by rw [hown8 _ z7]; exact Option.some_ne_none _) H8.lt fun w9 hk9 hq9 => ?_
        rw [hpk]
        dsimp only
        have sfq : Safe w8 (fun k => ℓ2 k ≠ none) fun b => b = a2.qb := Safe.sub fun b _ q => by rw [q, hown8 _ z7]; exact Option.some_ne_none _
        have hU9 : IsU w9 (fun k => ℓ2 k ≠ none) pw a2 (toldU s1 n) := hU8.que hk9 sfq (fun b _ hne q => hne q) (fun _ q => .inl q) hq9
        obtain ⟨m9, H9⟩ := H8.putA hi1 (List.getElem_set_self _) hk9 (fun b _ q => by rw [q]; exact z7) hU9
        rw [List.set_set] at H9
        refine checkU_spec (s := ⟨6, code, 0, false, 0, 0, false, false⟩) fun w10 hg10 => ?_
        have hab10 : Blk w10 ab z10 t_api_Result := (m9.go hg10).heap hab8 hfab
        exact FinR.sys (H9.grow hg10) ((m08.trans m9).go hg10) hab' hfab hab10 rfl fun v k hm hs => hR v hm hs
end
end Go.Proofs.YtpmebahhjgkflaaGreatDoor

/- Layer 16: the unit as a function: run and Do whole. -/
namespace Go.Proofs.YtpmebahhjgkflaaGreatDoor
open Go CF
set_option maxRecDepth 100000
theorem and_lt {a b : Nat} {k : Nat} (h : a < k) : a &&& b < k := Nat.lt_of_le_of_lt Nat.and_le_left h
theorem c0C_ok (k : Nat) : CmOk { c0C with kind := k } := ⟨by show 0 < _; decide, by show 0 < _; decide, by show 0 < _; decide, by show 0 < _; decide, by show 0 < _; decide, fun _ => by show (0 : Int) ≤ _; decide⟩
theorem fill_ok {c : Cm} {p : L8} {sv : Nat} (h : CmOk c) (hs : sv < 256) (ha : c.alloc ≤ 1000000) : CmOk (fillX c p sv).1 := by
  obtain ⟨h1, h2, h3, h4, h5, h6⟩ := h
  have b := bN_lt p
  have n1 := nu1 p
  have n2 := nu2 p
  have n3 := nu3 p
  have n4 := nu4 p
  have n8 := nu8 p
  have sp : CmOk (spanX c p).1 ∧ (spanX c p).1.kind = c.kind := by
    unfold spanX
    split
    · refine ⟨⟨?_, ?_, h3, h4, h5, h6⟩, rfl⟩
      · show nuN p 1 3 &&& 2097151 < _
        exact and_lt (by have := n3 1; omega)
      · show (if nuN p 4 1 = 0 then 256 else nuN p 4 1) < _
        have := n1 4
        split <;> omega
    split
    · exact ⟨⟨by have := n4 2; show nuN p 2 4 < _; omega, by have := n2 7; show nuN p 7 2 < _; omega, h3, h4, h5, h6⟩, rfl⟩
    · exact ⟨⟨n8 2, by have := n4 10; show nuN p 10 4 < _; omega, h3, h4, h5, h6⟩, rfl⟩
  unfold fillX
  by_cases k2 : c.kind = 2
  · rw [if_pos k2]
    exact ⟨h1, h2, h3, h4, h5, fun q => by have q : c.kind = 4 := q; omega⟩
  rw [if_neg k2]
  by_cases k3 : c.kind = 3
  · rw [if_pos k3]
    exact ⟨h1, h2, b 2, h4, h5, fun q => by have q : c.kind = 4 := q; omega⟩
  rw [if_neg k3]
  by_cases k4 : c.kind = 4
  · rw [if_pos k4]
    refine ⟨h1, h2, h3, h4, h5, fun _ => ?_⟩
    show (if p.length = 10 then (nuN p 7 2 : Int) else (bN p 4 : Int)) ≤ _
    have := n2 7
    have := b 4
    split <;> omega
  rw [if_neg k4]
  by_cases k5 : c.kind = 5
  · rw [if_pos k5]
    exact ⟨h1, h2, and_lt (b 2), h4, h5, fun q => by have q : c.kind = 4 := q; omega⟩
  rw [if_neg k5]
  by_cases k6 : c.kind = 6
  · rw [if_pos k6]
    exact ⟨h1, h2, h3, h4, h5, fun q => by have q : c.kind = 4 := q; omega⟩
  rw [if_neg k6]
  by_cases k7 : 7 ≤ c.kind ∧ c.kind ≤ 12
  · rw [if_pos k7]
    show CmOk (partX c p)
    unfold partX
    by_cases q6 : 6 < p.length
    · rw [if_pos q6]
      obtain ⟨⟨g1, g2, g3, g4, g5, g6⟩, _⟩ := sp
      generalize (spanX c p).1 = d at *
      unfold wideX
      by_cases w1 : d.kind = 7 ∨ d.kind = 8
      · rw [if_pos w1]; exact ⟨g1, g2, g3, g4, g5, g6⟩
      rw [if_neg w1]
      by_cases w2 : d.kind = 10
      · rw [if_pos w2]; exact ⟨g1, g2, g3, g4, g5, g6⟩
      rw [if_neg w2]
      by_cases w3 : d.kind = 12
      · rw [if_pos w3]; exact ⟨g1, g2, g3, g4, g5, g6⟩
      rw [if_neg w3]
      by_cases w4 : d.kind = 11
      · rw [if_pos w4]; exact ⟨g1, g2, g3, g4, g5, g6⟩
      rw [if_neg w4]; exact ⟨g1, g2, g3, g4, g5, g6⟩
    · rw [if_neg q6]; exact sp.1
  rw [if_neg k7]
  by_cases k13 : c.kind = 13
  · rw [if_pos k13]
    exact ⟨h1, h2, h3, h4, h5, fun q => by have q : c.kind = 4 := q; omega⟩
  rw [if_neg k13]
  by_cases k14 : c.kind = 14
  · rw [if_pos k14]
    exact ⟨n8 2, by have := b 13; show bN p 13 < _; omega, h3, h4, h5, h6⟩
  rw [if_neg k14]
  by_cases k15 : c.kind = 15
  · rw [if_pos k15]
    exact ⟨h1, h2, h3, hs, h5, fun q => by have q : c.kind = 4 := q; omega⟩
  rw [if_neg k15]
  by_cases k16 : c.kind = 16
  · rw [if_pos k16]
    exact ⟨h1, h2, h3, hs, and_lt (b 2), fun q => by have q : c.kind = 4 := q; omega⟩
  rw [if_neg k16]
  by_cases k17 : c.kind = 17
  · rw [if_pos k17]
    exact ⟨h1, h2, b 2, h4, h5, fun q => by have q : c.kind = 4 := q; omega⟩
  rw [if_neg k17]
  by_cases k18 : c.kind = 18
  · rw [if_pos k18]
    exact ⟨h1, h2, h3, h4, h5, fun q => by have q : c.kind = 4 := q; omega⟩
  rw [if_neg k18]
  exact ⟨h1, h2, h3, h4, h5, h6⟩
theorem parse_cm (l : L8) : CmOk (parseX l).1 := by
  have z := c0C_ok 0
  have sv : svOf l < 256 := by
    unfold svOf
    split
    · exact and_lt (bN_lt l 1)
    · decide
  unfold parseX
  split
  · exact z
  split
  · exact z
  split
  · exact z
  split
  · exact z
  split
  · exact z
  split
  · exact z
  · unfold madeX
    split
    · exact z
    · exact fill_ok (c0C_ok _) sv (by show (0 : Int) ≤ _; decide)
/-- a command that may be done -/
def runX (F : Int → Bool) (P : Pu) (st : Wst) (i n : Nat) (c : Cm) (l : L8) : RsX × Pu × Wst :=
  if c.kind = 18 then copyX F P st i n c l
  else match P[i]? with
    | none => (snX sn0, P, st)
    | some x => if c.kind = 4 then ((selX F x.2 st n c l).x, P.set i (x.1, (selX F x.2 st n c l).s), (selX F x.2 st n c l).w)
      else if c.kind = 16 then ((outX F x.2 st n c l).x, P.set i (x.1, (outX F x.2 st n c l).s), (outX F x.2 st n c l).w)
      else ((runB F x.2 st n c l).x, P.set i (x.1, (runB F x.2 st n c l).s), (runB F x.2 st n c l).w)
abbrev nrS : Sn := ⟨2, 0, 0, false, 0, 0, false, false⟩
abbrev proS : Sn := ⟨7, 9984, 0, false, 0, 0, false, false⟩
/-- a command of a nexus -/
def do16X (F : Int → Bool) (P : Pu) (st : Wst) (i n : Nat) (l out : L8) : RsX × Pu × Wst :=
  match P[i]? with
  | none => (snX sn0, P, st)
  | some x =>
    if (startU F (bumpU x.2) st).1 ≠ 0 then (snX nrS, P.set i (x.1, (startU F (bumpU x.2) st).2.1), (startU F (bumpU x.2) st).2.2)
    else match headX (startU F (bumpU x.2) st).2.1 n l with
      | .bad sn => (snX sn, P.set i (x.1, (startU F (bumpU x.2) st).2.1), (startU F (bumpU x.2) st).2.2)
      | .told c => (snX (uaS c), P.set i (x.1, toldU (startU F (bumpU x.2) st).2.1 n), (startU F (bumpU x.2) st).2.2)
      | .conflict => (⟨24, sn0, []⟩, P.set i (x.1, (startU F (bumpU x.2) st).2.1), (startU F (bumpU x.2) st).2.2)
      | .prot => (snX proS, P.set i (x.1, (startU F (bumpU x.2) st).2.1), (startU F (bumpU x.2) st).2.2)
      | .run c => runX F (P.set i (x.1, (startU F (bumpU x.2) st).2.1)) (startU F (bumpU x.2) st).2.2 i n c out
theorem keepX_same {F : Int → Bool} {b : Bool} {s : USt} {st : Wst} : s.same (keepX F b s st).s := by
  unfold keepX
  split <;> exact ⟨rfl, rfl, rfl, rfl, rfl, rfl⟩
theorem selX_same {F : Int → Bool} {s : USt} {st : Wst} {n : Nat} {c : Cm} {l : L8} : s.same (selX F s st n c l).s := by
  unfold selX
  split
  · exact USt.same.refl s
  split
  · exact USt.same.refl s
  · refine USt.same.trans ?_ keepX_same
    split <;> exact ⟨rfl, rfl, rfl, rfl, rfl, rfl⟩
theorem outX_same {F : Int → Bool} {s : USt} {st : Wst} {n : Nat} {c : Cm} {l : L8} : s.same (outX F s st n c l).s := by
  unfold outX
  generalize prdoT s.tab n (outS c l) = d
  generalize evQ s.q d.ev = q
  split
  · exact USt.same.refl s
  split
  · exact USt.same.refl s
  split
  · exact ⟨rfl, rfl, rfl, rfl, rfl, rfl⟩
  · have h1 : s.same { s with tab := d.t, q := q } := ⟨rfl, rfl, rfl, rfl, rfl, rfl⟩
    exact h1.trans keepX_same
theorem runB_same {F : Int → Bool} {s : USt} {st : Wst} {n : Nat} {c : Cm} {l : L8} : s.same (runB F s st n c l).s := by
  unfold runB
  split
  · exact USt.same.refl s
  unfold baseX
  split
  · exact USt.same.refl s
  split
  · exact ⟨rfl, rfl, rfl, rfl, rfl, rfl⟩
  split
  · split <;> exact USt.same.refl s
  split
  · exact USt.same.refl s
  split
  · split <;> exact USt.same.refl s
  · exact USt.same.refl s
section
variable {w u v : World} {N N' S : Nat → Prop} {pw i n m : Nat} {a : UA} {s s1 : USt} {st st1 : Wst} {F : Int → Bool} {ℓ ℓ' : Nat → Option Nat} {us : List (UA × USt)} {p out : Sl} {l lo : L8} {c : Cm} {R : Array Value → World → Prop}
/-- what a command that may be done needs -/
structure RunN (k : Nat) : Prop where
  base : k ≠ 4 → k ≠ 16 → k ≠ 18 → BaseN k
  sel : k = 4 → ∀ {w : World} {pw i m n : Nat} {a : UA} {s : USt} {st : Wst} {F : Int → Bool} {ℓ : Nat → Option Nat} {us : List (UA × USt)} {R : Array Value → World → Prop} {out : Sl} {l : L8} {c : Cm}, Sys w ℓ pw st F us → SOk st us m → m ≤ 400000000 → i < us.length → us[i]? = some (a, s) → n < 8 → RdX w ℓ 1 out (bv l) → c.alloc ≤ 1000000 → UOut w ℓ pw F us i a m (selX F s st n c l) R → Cunit_Unit_sel (some ⟨a.ub, 0, none⟩) (n : Int) (cmv c).toArray out w R
  out : k = 16 → ∀ {w : World} {pw i m n : Nat} {a : UA} {s : USt} {st : Wst} {F : Int → Bool} {ℓ : Nat → Option Nat} {us : List (UA × USt)} {R : Array Value → World → Prop} {out : Sl} {l : L8} {c : Cm}, Sys w ℓ pw st F us → SOk st us m → m ≤ 400000000 → i < us.length → us[i]? = some (a, s) → n < 8 → RdX w ℓ 1 out (bv l) → CmOk c → UOut w ℓ pw F us i a m (outX F s st n c l) R → Cunit_Unit_out (some ⟨a.ub, 0, none⟩) (n : Int) (cmv c).toArray out w R
  copy : k = 18 → ∀ {w : World} {pw i m n : Nat} {a : UA} {s : USt} {st : Wst} {F : Int → Bool} {ℓ : Nat → Option Nat} {us : List (UA × USt)} {R : Array Value → World → Prop} {out : Sl} {l : L8} {c : Cm}, Sys w ℓ pw st F us → SOk st us m → m ≤ 200000000 → i < us.length → us[i]? = some (a, s) → n < 8 → RdX w ℓ 1 out (bv l) → (∀ b ∈ s.peers, ∃ j, ∃ h : j < us.length, us[j].1.ub = b) → s.peers.length ≤ 100 → GOut w ℓ pw F us m (copyX F (pub us) st i n c l) R → Cunit_Unit_copy (some ⟨a.ub, 0, none⟩) (n : Int) (cmv c).toArray out w R
theorem run_fun16 (hN : RunN c.kind) (H : Sys w ℓ pw st F us) (K : SOk st us m) (hm : m ≤ 200000000) (hi : i < us.length) (he : us[i] = (a, s)) (hn : n < 8) (hp : RdX w ℓ 1 out (bv l)) (hb : out.n ≤ 140737488351232) (hc : CmOk c) (hpe : ∀ b ∈ s.peers, ∃ j, ∃ h : j < us.length, us[j].1.ub = b) (hpl : s.peers.length ≤ 100) (hR : GOut w ℓ pw F us m (runX F (pub us) st i n c l) R) : Cunit_Unit_run (some ⟨a.ub, 0, none⟩) (n : Int) (cmv c).toArray out w R := by
  have hpg := pub_get hi
  rw [he] at hpg
  unfold runX at hR
  rw [hpg] at hR
  refine run_base hN.base H K (by omega) hi he hn hp hb hc (fun k4 k16 k18 => ?_) ⟨fun k4 w2 ab g hab hbk => ?_, fun k16 w2 ab g hab hbk => ?_, fun k18 w2 ab g hab hbk => ?_⟩
  · rw [if_neg k18] at hR
    dsimp only at hR
    rw [if_neg k4, if_neg k16] at hR
    exact GOut.unit hR hi he runB_same
  · rw [if_neg (by omega)] at hR
    dsimp only at hR
    rw [if_pos k4] at hR
    exact hN.sel k4 (H.grow g) K (by omega) hi (by rw [List.getElem?_eq_getElem hi, he]) hn ((Mv.grow g).rdX hp) (hc.alloc k4) ((GOut.unit hR hi he selX_same).hand (Mv.grow g) g.size hab (H.fresh hab) hbk)
  · rw [if_neg (by omega)] at hR
    dsimp only at hR
    rw [if_neg (by omega), if_pos k16] at hR
    exact hN.out k16 (H.grow g) K (by omega) hi (by rw [List.getElem?_eq_getElem hi, he]) hn ((Mv.grow g).rdX hp) hc ((GOut.unit hR hi he outX_same).hand (Mv.grow g) g.size hab (H.fresh hab) hbk)
  · rw [if_pos k18] at hR
    exact hN.copy k18 (H.grow g) K hm hi (by rw [List.getElem?_eq_getElem hi, he]) hn ((Mv.grow g).rdX hp) hpe hpl (hR.hand (Mv.grow g) g.size hab (H.fresh hab) hbk)
/-- Do -/
theorem do_fun16 (hL : s.on ≠ 1 → LoadP F { bumpU s with lock := 1 } st) (hN : ∀ c, (startU F (bumpU s) st).1 = 0 → headX (startU F (bumpU s) st).2.1 n l = .run c → RunN c.kind) (H : Sys w ℓ pw st F us) (K : SOk st us m) (hm : m ≤ 100000000) (hi : i < us.length) (he : us[i] = (a, s)) (hn : n < 8) (hct : s.count < 1000000000000) (hp : RdX w ℓ 1 p (bv l)) (ho : RdX w ℓ 1 out (bv lo)) (hb : out.n ≤ 140737488351232) (hpe : ∀ b ∈ s.peers, ∃ j, ∃ h : j < us.length, us[j].1.ub = b) (hpl : s.peers.length ≤ 100)
    (hR : ∀ v ℓ' d us', Mv w v ℓ ℓ' → Sys v ℓ' pw (do16X F (pub us) st i n l lo).2.2 F us' → SOk (do16X F (pub us) st i n l lo).2.2 us' (m + 200002) → us'.length = us.length → (∀ k (h : k < us.length) (h' : k < us'.length), us[k].1.like us'[k].1 ∧ us'[k].2.peers = us[k].2.peers ∧ us'[k].2.count = us[k].2.count + if k = i then 1 else 0) → pub us' = (do16X F (pub us) st i n l lo).2.1 → Dat w v ℓ' d (do16X F (pub us) st i n l lo).1.d → R (rsv (do16X F (pub us) st i n l lo).1.st (do16X F (pub us) st i n l lo).1.sn d).toArray v) : Cunit_Unit_Do (some ⟨a.ub, 0, none⟩) (n : Int) p out w R := by
  have hpg := pub_get hi
  rw [he] at hpg
  unfold do16X at hR
  rw [hpg] at hR
  dsimp only at hR
  have KU := K.at hi he
  have Kb : ∀ a', SOk st (us.set i (a', bumpU s)) m := fun a' => K.put (x := (a', bumpU s)) (KU.same KU.good rfl rfl rfl rfl rfl rfl)
  have hib : ∀ y, i < (us.set i y).length := fun y => by rw [List.length_set]; exact hi
  have K1 : ∀ a', SOk (startU F (bumpU s) st).2.2 (us.set i (a', (startU F (bumpU s) st).2.1)) (m + 2) := fun a' => by
    have K2 := (Kb a).near (near_start (F := F) (s := bumpU s) (st := st))
    have KU2 := K2.at (hib _) (List.getElem_set_self _)
    have sm := startU_same (F := F) (s := bumpU s) (st := st)
    have := K2.put (i := i) (x := (a', (startU F (bumpU s) st).2.1)) ⟨by rw [sm.n]; exact KU2.n, by rw [sm.inf]; exact KU2.form, by rw [sm.file, sm.keepf]; exact KU2.name, by rw [sm.file]; exact KU2.good, .inl (startU_once (by exact KU.once))⟩
    rwa [List.set_set] at this
  have lik : ∀ {a2 s'}, a.like a2 → s'.peers = s.peers → s'.count = s.count + 1 → ∀ k (h : k < us.length) (h' : k < (us.set i (a2, s')).length), us[k].1.like (us.set i (a2, s'))[k].1 ∧ (us.set i (a2, s'))[k].2.peers = us[k].2.peers ∧ (us.set i (a2, s'))[k].2.count = us[k].2.count + if k = i then 1 else 0 := fun {a2 s'} hl h1 h2 k h h' => by
    rw [List.getElem_set]
    split
    · rename_i e
      subst e
      rw [he, if_pos rfl]; exact ⟨hl, h1, h2⟩
    · rename_i e
      rw [if_neg (fun q => e q.symm)]
      exact ⟨UA.like.refl _, rfl, rfl⟩
  have sm0 := startU_same (F := F) (s := bumpU s) (st := st)
  have epub : ∀ {a2 s'}, a.like a2 → pub (us.set i (a2, s')) = (pub us).set i (a.ub, s') := fun {a2 s'} hl => by rw [pub_set, hl.ub]
  refine do_all (e := (startU F (bumpU s) st).1) (s1 := (startU F (bumpU s) st).2.1) (st1 := (startU F (bumpU s) st).2.2) H hi he hn hct hp (fun u mv Hu Kc hk => ?_) (fun hne ℓ1 a2 hl u mv Hu => ?_) (fun hz ℓ1 a2 hl => ?_)
  · refine start_fun hL Hu (Kb a) (by omega) (hib _) (List.getElem_set_self _) fun u' ℓ' a2 hl m2 H2 _ => hk u' ℓ' a2 hl m2 ?_
    rwa [List.set_set] at H2
  · rw [if_pos hne] at hR
    exact hR u ℓ1 nilS _ mv Hu ((K1 a2).mono (by omega)) (by rw [List.length_set]) (lik hl sm0.peers sm0.count) (epub hl) (Dat.nil _ _ _)
  · rw [if_neg (by omega)] at hR
    have hN := fun c => hN c hz
    have K1 := K1 a2
    have hpe1 : (startU F (bumpU s) st).2.1.peers = s.peers := sm0.peers
    have hct1 : (startU F (bumpU s) st).2.1.count = s.count + 1 := sm0.count
    clear sm0
    generalize startU F (bumpU s) st = S at *
    have hcm : ∀ c, headX S.2.1 n l = .run c → CmOk c := fun c h => by
      have : c = (parseX l).1 := by
        unfold headX at h
        split at h
        · cases h
        · split at h
          · cases h
          · split at h
            · cases h
            · split at h
              · cases h
              · injection h with h; exact h.symm
      rw [this]; exact parse_cm l
    cases hh : headX S.2.1 n l with
    | bad sn =>
      rw [hh] at hR
      exact fun u mv Hu => hR u ℓ1 nilS _ mv Hu (K1.mono (by omega)) (by rw [List.length_set]) (lik hl hpe1 hct1) (epub hl) (Dat.nil _ _ _)
    | told c =>
      rw [hh] at hR
      refine fun u mv Hu => hR u ℓ1 nilS _ mv Hu ?_ (by rw [List.length_set]) (lik hl hpe1 hct1) (epub hl) (Dat.nil _ _ _)
      have KU1 := K1.at (hib _) (List.getElem_set_self _)
      have := (K1.put (i := i) (x := (a2, toldU S.2.1 n)) (KU1.same KU1.good rfl rfl rfl rfl rfl rfl)).mono (m' := m + 200002) (by omega)
      rwa [List.set_set] at this
    | conflict =>
      rw [hh] at hR
      exact fun u mv Hu => hR u ℓ1 nilS _ mv Hu (K1.mono (by omega)) (by rw [List.length_set]) (lik hl hpe1 hct1) (epub hl) (Dat.nil _ _ _)
    | prot =>
      rw [hh] at hR
      exact fun u mv Hu => hR u ℓ1 nilS _ mv Hu (K1.mono (by omega)) (by rw [List.length_set]) (lik hl hpe1 hct1) (epub hl) (Dat.nil _ _ _)
    | run c =>
      rw [hh] at hR
      intro u ab mv Hu hbk hab hn1
      dsimp only at hR
      rw [← epub hl] at hR
      refine run_fun16 (hN c hh) Hu K1 (by omega) (hib _) (List.getElem_set_self _) hn (mv.rdX ho) hb (hcm c hh) (fun b hb2 => ?_) (by rw [hpe1]; exact hpl) ?_
      · rw [hpe1] at hb2
        obtain ⟨j, hj, ej⟩ := hpe b hb2
        have hj2 : j < (us.set i (a2, S.2.1)).length := by rw [List.length_set]; exact hj
        exact ⟨j, hj2, (lik hl hpe1 hct1 j hj hj2).1.ub.trans ej⟩
      · intro v ℓ' d us' mv2 Hv Kv lk hpub dt
        have mvv := mv.trans mv2
        have hbv := mv2.heap hbk hn1
        have hnv : ℓ' ab = none := by rw [mv2.lab ab (lt_of_heap hbk)]; exact hn1
        have dt2 := dt.from mv.keep.size
        refine FinR.sys Hv mvv hab hnv hbv rfl fun v' hk hm' hs => hR v' ℓ' d us' hm' hs (Kv.mono (by omega)) (lk.len.trans (by rw [List.length_set])) (fun k h h' => ?_) hpub ⟨dt2.1.keep hk fun b hbb q => own_ne dt2.1 hbv (by decide) (by rw [hbb, q]), dt2.2⟩
        have h2 : k < (us.set i (a2, S.2.1)).length := by rw [List.length_set]; exact h
        obtain ⟨r1, r2, r3⟩ := lik hl hpe1 hct1 k h h2
        obtain ⟨t1, t2⟩ := lk.all k h2 h'
        exact ⟨r1.trans t1, t2.peers.trans r2, t2.count.trans r3⟩
end
end Go.Proofs.YtpmebahhjgkflaaGreatDoor
