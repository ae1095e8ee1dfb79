import Derived.Test.YtaneeadpjelomaaDb12
import Derived.Test.YtaneeadpjelomaaDb8
/- Layer 14: a law takes blocks away, or writes the same block. -/
namespace Go.Proofs.Ytaneeadpjelomaa
open Go CF

section
variable {w u u' v v' : World} {dv ps pw : Nat} {file : ByteArray} {kind n : Nat} {cache : Bool} {D D' : Nat → Prop} {st st' : Wst} {bs bs' : List Bk} {m m' : Nat} {ls : List (Nat × List Value × TypeId)} {rows : List (Sl × L8)}
theorem Lw.unmap (L : Lw w u dv ps pw file kind n cache D st bs m ls rows) (hm : m ≤ 900000) {c : Cm} {p : Sl} {l : L8} {K : Array Value → World → Prop} (hk : c.kind = 13) (hkn : knownB kind c.prot = true) (hlb : c.lba < 18446744073709551616) (hbl : c.blocks < 18446744073709551616)
    (hp : Rd u 1 p (bv l)) (hpb : p.n ≤ 140737488351232) (hpD : ∀ b, p.blk = some b → ¬ D b) (h8 : 8 ≤ l.length) (e1 : num ((l.drop 0).take 2) = l.length - 2) (e2 : num ((l.drop 2).take 2) = l.length - 8) (e3 : (l.length - 8) % 16 = 0)
    (e4 : ∀ j, j < (l.length - 8) / 16 → rngL l j + rngK l j ≤ n) (e5 : sumK l ((l.length - 8) / 16) ≤ 256)
    (h : ∀ v D' st', Lw w v dv ps pw file kind n cache D' st' (unAll bs l ((l.length - 8) / 16)) (m + 5000) ls rows → K (rsv 0 sn0 nilS).toArray v) :
    Csbc_Dev_Do (some ⟨dv, 0, none⟩) (cmv c).toArray p u K := by
  refine do_spec L.dvs (by omega) hp hpb hlb hbl (fun q => by rw [hkn] at q; cases q) (fun _ q => absurd hk q) (fun _ q => by omega) (fun _ q => by omega) (fun _ q => by omega) (fun _ q => by omega) (fun _ q => by omega) (fun _ q => by omega)
    (fun _ _ ab y hy hab hby => ⟨fun q => by omega, fun q => by omega, fun _ => ?_, fun q => by omega, fun q => by omega⟩) (fun _ _ _ _ _ _ _ a => absurd hk a)
  refine dev_unmap_spec (L.dvs.grow hy) hm (hp.grow hy) hpb (fun x hx => (hp.grow hy).keep hx fun a ha _ => hpD a.block (by simp [Sl.blk, ha])) (fun q => by omega) (fun sn _ q => ?_) (fun z D2 st2 _ hz hd hD2 => ⟨hz, 0, sn0, nilS, rfl, fun v' hv' => ?_⟩)
  · exfalso
    rcases q with q | q | q | q | ⟨j, hj, q⟩ | q
    · omega
    · exact q e1
    · exact q e2
    · exact q e3
    · have := e4 j hj; omega
    · omega
  · exact h v' D2 st2 (L.fin hy hby hab hz hd hD2 hv')
/-- the same block, without tuples -/
theorem Lw.sameK (L : Lw w u dv ps pw file kind n cache D st bs m ls rows) (hm : m ≤ 900000) {c : Cm} {p : Sl} {l : L8} {K : Array Value → World → Prop} (hk : c.kind = 12) (hp0 : c.prot = 0) (hc : c.lba + c.blocks ≤ n)
    (hp : Rd u 1 p (bv l)) (hl : l.length = 16)
    (h : ∀ v D' st' b0, b0.d = l → Keep D u v → (∀ k, D' k → D k ∨ u.heap.size ≤ k) → Lw w v dv ps pw file kind n cache D' st' (if c.unmap = true ∧ l = z16 then setAll bs c.lba [] (sameN n c) else setAll bs c.lba (samesB kind c b0 (sameN n c)) (sameN n c)) (m + sameN n c + 1) ls rows → K (rsv 0 sn0 nilS).toArray v) :
    Csbc_Dev_Do (some ⟨dv, 0, none⟩) (cmv c).toArray p u K := by
  have hsz := L.dvs.size
  have hkd := L.dvs.kd
  have hln := rd_n' hp
  have hkn : knownB kind c.prot = true := by unfold knownB; rw [hp0]; simp [hkd]
  have e0 : decide (c.prot ≠ 0) = false := by simpa using hp0
  have e16 : szB false = 16 := rfl
  refine do_spec L.dvs (by omega) hp (by omega) (by omega) (by omega) (fun q => by rw [hkn] at q; cases q) (fun _ _ _ q => by omega) (fun _ q => by omega) (fun _ q => by omega) (fun _ q => by omega) (fun _ q => by omega) (fun _ q => by omega) (fun _ q => by omega)
    (fun _ _ ab y hy hab hby => ⟨fun q => by omega, fun _ => ?_, fun q => by omega, fun q => by omega, fun q => by omega⟩) (fun _ _ _ _ _ _ a => absurd hk a)
  have hd0 : ∀ b0, cameB kind c l 1 = [b0] → b0.d = l := fun b0 q => by
    unfold cameB at q
    rw [if_pos hp0] at q
    have e := mkAll_data (kind := kind) (lba := c.lba) (U := unpB false l) 1
    rw [q] at e
    have e2 := unpB_bytes (l := l) (by omega)
    rw [packB_data (b := [b0]) e.symm] at e2
    have : packB false [b0] = b0.d := by simp [packB, wireB]
    rw [← this]; exact e2
  refine dev_same_spec (L.dvs.grow hy) hm (hp.grow hy) (by omega) hc (fun q => ?_) (fun q => absurd hp0 q) (fun b0 hb0 hu hz16 z D2 st2 hz hd hD2 => ⟨hz, 0, sn0, nilS, rfl, fun v' hv' => ?_⟩) (fun b0 hb0 hno z D2 st2 hz hd hD2 => ⟨hz, 0, sn0, nilS, rfl, fun v' hv' => ?_⟩)
  · exfalso; rw [e0, e16, hl] at q; omega
  · refine h v' D2 st2 b0 (hd0 b0 hb0) (fin_keep hy hab hz hv') (fun k q => (hD2 k q).imp_right fun r => by have := hy.size; omega) ?_
    rw [if_pos ⟨hu, by rw [← hd0 b0 hb0]; exact hz16⟩]
    exact L.fin hy hby hab hz hd hD2 hv'
  · refine h v' D2 st2 b0 (hd0 b0 hb0) (fin_keep hy hab hz hv') (fun k q => (hD2 k q).imp_right fun r => by have := hy.size; omega) ?_
    rw [if_neg (by rw [← hd0 b0 hb0]; exact hno)]
    exact L.fin hy hby hab hz hd hD2 hv'
theorem Lw.same (L : Lw w u dv ps pw file kind n cache D st bs m ls rows) (hm : m ≤ 900000) {c : Cm} {p : Sl} {l : L8} {K : Array Value → World → Prop} (hk : c.kind = 12) (hp0 : c.prot = 0) (hc : c.lba + c.blocks ≤ n)
    (hp : Rd u 1 p (bv l)) (hl : l.length = 16)
    (h : ∀ v D' st' b0, b0.d = l → Lw w v dv ps pw file kind n cache D' st' (if c.unmap = true ∧ l = z16 then setAll bs c.lba [] (sameN n c) else setAll bs c.lba (samesB kind c b0 (sameN n c)) (sameN n c)) (m + sameN n c + 1) ls rows → K (rsv 0 sn0 nilS).toArray v) :
    Csbc_Dev_Do (some ⟨dv, 0, none⟩) (cmv c).toArray p u K := L.sameK hm hk hp0 hc hp hl fun v D' st' b0 e _ _ => h v D' st' b0 e
end
end Go.Proofs.Ytaneeadpjelomaa
