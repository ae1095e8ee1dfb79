import Derived.LaidEqlPtr
import Derived.Lib.AppendStr
import Derived.Test.YtpmebahhjgkflaaGreatDoorB5
set_option maxHeartbeats 20000000
namespace Go.Proofs.YtpmebahhjgkflaaGreatDoor
open Go CF
set_option maxRecDepth 100000
def hI_ (op sv:Nat):Option (L8×Bool):=
 if op=0 then some ([UInt8.ofNat op,0,0,0,0,0],true)
 else if op=3 then some ([UInt8.ofNat op,1,0,0,255,0],true)
 else if op=8∨op=10 then some ([UInt8.ofNat op,31,255,255,255,0],true)
 else if op=18 then some ([UInt8.ofNat op,1,255,255,255,0],true)
 else if op=21 then some ([UInt8.ofNat op,17,0,0,255,0],true)
 else if op=26 then some ([UInt8.ofNat op,8,255,0,255,0],true)
 else if op=37 then some ([UInt8.ofNat op,0,0,0,0,0,0,0,0,0],true)
 else if op=40∨op=42 then some ([UInt8.ofNat op,248,255,255,255,255,0,255,255,0],true)
 else if op=46 then some ([UInt8.ofNat op,240,255,255,255,255,0,255,255,0],true)
 else if op=47 then some ([UInt8.ofNat op,242,255,255,255,255,0,255,255,0],true)
 else if op=53 then some ([UInt8.ofNat op,0,255,255,255,255,0,255,255,0],true)
 else if op=65 then some ([UInt8.ofNat op,232,255,255,255,255,0,255,255,0],true)
 else if op=66 then some ([UInt8.ofNat op,0,0,0,0,0,0,255,255,0],true)
 else if op=85 then some ([UInt8.ofNat op,17,0,0,0,0,0,255,255,0],true)
 else if op=90 then some ([UInt8.ofNat op,8,255,0,0,0,0,255,255,0],true)
 else if op=94 then some ([UInt8.ofNat op,31,0,0,0,0,0,255,255,0],decide (sv≤3))
 else if op=95 then some ([UInt8.ofNat op,31,15,0,0,255,255,255,255,0],decide (sv≤6))
 else if op=131 then some ([UInt8.ofNat op,31,0,0,0,0,0,0,0,0,255,255,255,255,0,0],decide (sv=0))
 else if op=136∨op=138 then some ([UInt8.ofNat op,248,255,255,255,255,255,255,255,255,255,255,255,255,0,0],true)
 else if op=137 then some ([UInt8.ofNat op,248,255,255,255,255,255,255,255,255,0,0,0,255,0,0],true)
 else if op=145 then some ([UInt8.ofNat op,0,255,255,255,255,255,255,255,255,255,255,255,255,0,0],true)
 else if op=147 then some ([UInt8.ofNat op,232,255,255,255,255,255,255,255,255,255,255,255,255,0,0],true)
 else if op=158 then some ([UInt8.ofNat op,31,0,0,0,0,0,0,0,0,255,255,255,255,0,0],decide (sv=16))
 else if op=160 then some ([UInt8.ofNat op,0,3,0,0,0,255,255,255,255,0,0],true)
 else none
section
variable {w:World}
theorem sC_ {op sv:Nat} {R:Sl→Bool→W_} (h:∀xs b w',ab_ w w'→(match hI_ op sv with|none=>xs=au_∧b=false|some (m,c)=>Rd w' 1 xs (bv m)∧xs.A.isSome=true∧b=c)→R xs b w'):km_ (op:Int) (sv:Int) w R:=by
 refine im_.calls _ _ _ _ ?_
 refine aN_ (cells:=(bv (List.replicate 12 255)).toArray) (e:=ae_) (z:=1) (base:=0) k_ rfl d_ (Nat.zero_le _) fun w0 ho0 hg0 _=>?_
 have hwd:Rd w0 1 ⟨some ⟨w.heap.size,0,none⟩,12,12⟩ (bv (List.replicate 12 255)):=ho0.rd (by show 12≤_;decide)
 have fin:∀{xs:Sl} {b:Bool} {w':World} {m:L8} {c:Bool},hI_ op sv=some (m,c)→ab_ w0 w'→Rd w' 1 xs (bv m)→m≠[]→b=c→R xs b w':=fun e g r hne hb=>h _ _ _ (hg0.trans g) (by rw[e];exact⟨r,by obtain⟨a,ha,_⟩:=r.at_ (fun q=>hne (by simpa [bv] using q));rw[ha];rfl,hb⟩)
 refine as_ (fun e=>?_) (fun n0=>?_)
 ·obtain rfl:op=0:=o_
  refine aN_ (cells:=(bv [UInt8.ofNat 0,0,0,0,0,0]).toArray) (e:=ae_) (z:=1) (base:=0) k_ rfl d_ (Nat.zero_le _) fun w1 ho1 hg1 _=>?_
  exact fin (m:=[UInt8.ofNat 0,0,0,0,0,0]) (c:=true) (by rfl) hg1 (ho1.rd (by show 6≤_;decide)) (by simp) rfl
 refine as_ (fun e=>?_) (fun n1=>?_)
 ·obtain rfl:op=3:=o_
  refine aN_ (cells:=(bv [UInt8.ofNat 3,1,0,0,255,0]).toArray) (e:=ae_) (z:=1) (base:=0) k_ rfl d_ (Nat.zero_le _) fun w1 ho1 hg1 _=>?_
  exact fin (m:=[UInt8.ofNat 3,1,0,0,255,0]) (c:=true) (by rfl) hg1 (ho1.rd (by show 6≤_;decide)) (by simp) rfl
 refine bc_ (fun x v=>w0=v∧x=decide (op=8∨op=10)) ?_ (fun J=>?_)
 rotate_left
 ·by_cases e:op=8
  ·exact am_ (by rw[beq_iff_eq];omega) (J _ _ ⟨rfl,by rw[Bool.eq_iff_iff,beq_iff_eq,decide_eq_true_eq];omega⟩)
  ·exact aj_ (by rw[beq_eq_false_iff_ne];omega) (J _ _ ⟨rfl,by rw[Bool.eq_iff_iff,beq_iff_eq,decide_eq_true_eq];omega⟩)
 rintro x v ⟨rfl,rfl⟩
 refine a2_ (fun e=>?_) (fun n2=>?_)
 ·rcases e with rfl|rfl
  ·refine aN_ (cells:=(bv [UInt8.ofNat 8,31,255,255,255,0]).toArray) (e:=ae_) (z:=1) (base:=0) k_ rfl d_ (Nat.zero_le _) fun w1 ho1 hg1 _=>?_
   exact fin (m:=[UInt8.ofNat 8,31,255,255,255,0]) (c:=true) (by rfl) hg1 (ho1.rd (by show 6≤_;decide)) (by simp) rfl
  ·refine aN_ (cells:=(bv [UInt8.ofNat 10,31,255,255,255,0]).toArray) (e:=ae_) (z:=1) (base:=0) k_ rfl d_ (Nat.zero_le _) fun w1 ho1 hg1 _=>?_
   exact fin (m:=[UInt8.ofNat 10,31,255,255,255,0]) (c:=true) (by rfl) hg1 (ho1.rd (by show 6≤_;decide)) (by simp) rfl
 refine as_ (fun e=>?_) (fun n3=>?_)
 ·obtain rfl:op=18:=o_
  refine aN_ (cells:=(bv [UInt8.ofNat 18,1,255,255,255,0]).toArray) (e:=ae_) (z:=1) (base:=0) k_ rfl d_ (Nat.zero_le _) fun w1 ho1 hg1 _=>?_
  exact fin (m:=[UInt8.ofNat 18,1,255,255,255,0]) (c:=true) (by rfl) hg1 (ho1.rd (by show 6≤_;decide)) (by simp) rfl
 refine as_ (fun e=>?_) (fun n4=>?_)
 ·obtain rfl:op=21:=o_
  refine aN_ (cells:=(bv [UInt8.ofNat 21,17,0,0,255,0]).toArray) (e:=ae_) (z:=1) (base:=0) k_ rfl d_ (Nat.zero_le _) fun w1 ho1 hg1 _=>?_
  exact fin (m:=[UInt8.ofNat 21,17,0,0,255,0]) (c:=true) (by rfl) hg1 (ho1.rd (by show 6≤_;decide)) (by simp) rfl
 refine as_ (fun e=>?_) (fun n5=>?_)
 ·obtain rfl:op=26:=o_
  refine aN_ (cells:=(bv [UInt8.ofNat 26,8,255,0,255,0]).toArray) (e:=ae_) (z:=1) (base:=0) k_ rfl d_ (Nat.zero_le _) fun w1 ho1 hg1 _=>?_
  exact fin (m:=[UInt8.ofNat 26,8,255,0,255,0]) (c:=true) (by rfl) hg1 (ho1.rd (by show 6≤_;decide)) (by simp) rfl
 refine as_ (fun e=>?_) (fun n6=>?_)
 ·obtain rfl:op=37:=o_
  refine aN_ (cells:=(bv [UInt8.ofNat 37,0,0,0,0,0,0,0,0,0]).toArray) (e:=ae_) (z:=1) (base:=0) k_ rfl d_ (Nat.zero_le _) fun w1 ho1 hg1 _=>?_
  exact fin (m:=[UInt8.ofNat 37,0,0,0,0,0,0,0,0,0]) (c:=true) (by rfl) hg1 (ho1.rd (by show 10≤_;decide)) (by simp) rfl
 refine bc_ (fun x v=>w0=v∧x=decide (op=40∨op=42)) ?_ (fun J=>?_)
 rotate_left
 ·by_cases e:op=40
  ·exact am_ (by rw[beq_iff_eq];omega) (J _ _ ⟨rfl,by rw[Bool.eq_iff_iff,beq_iff_eq,decide_eq_true_eq];omega⟩)
  ·exact aj_ (by rw[beq_eq_false_iff_ne];omega) (J _ _ ⟨rfl,by rw[Bool.eq_iff_iff,beq_iff_eq,decide_eq_true_eq];omega⟩)
 rintro x v ⟨rfl,rfl⟩
 refine a2_ (fun e=>?_) (fun n7=>?_)
 ·rcases e with rfl|rfl
  ·refine aN_ (cells:=(bv [UInt8.ofNat 40,248,255,255,255,255,0,255,255,0]).toArray) (e:=ae_) (z:=1) (base:=0) k_ rfl d_ (Nat.zero_le _) fun w1 ho1 hg1 _=>?_
   exact fin (m:=[UInt8.ofNat 40,248,255,255,255,255,0,255,255,0]) (c:=true) (by rfl) hg1 (ho1.rd (by show 10≤_;decide)) (by simp) rfl
  ·refine aN_ (cells:=(bv [UInt8.ofNat 42,248,255,255,255,255,0,255,255,0]).toArray) (e:=ae_) (z:=1) (base:=0) k_ rfl d_ (Nat.zero_le _) fun w1 ho1 hg1 _=>?_
   exact fin (m:=[UInt8.ofNat 42,248,255,255,255,255,0,255,255,0]) (c:=true) (by rfl) hg1 (ho1.rd (by show 10≤_;decide)) (by simp) rfl
 refine as_ (fun e=>?_) (fun n8=>?_)
 ·obtain rfl:op=46:=o_
  refine aN_ (cells:=(bv [UInt8.ofNat 46,240,255,255,255,255,0,255,255,0]).toArray) (e:=ae_) (z:=1) (base:=0) k_ rfl d_ (Nat.zero_le _) fun w1 ho1 hg1 _=>?_
  exact fin (m:=[UInt8.ofNat 46,240,255,255,255,255,0,255,255,0]) (c:=true) (by rfl) hg1 (ho1.rd (by show 10≤_;decide)) (by simp) rfl
 refine as_ (fun e=>?_) (fun n9=>?_)
 ·obtain rfl:op=47:=o_
  refine aN_ (cells:=(bv [UInt8.ofNat 47,242,255,255,255,255,0,255,255,0]).toArray) (e:=ae_) (z:=1) (base:=0) k_ rfl d_ (Nat.zero_le _) fun w1 ho1 hg1 _=>?_
  exact fin (m:=[UInt8.ofNat 47,242,255,255,255,255,0,255,255,0]) (c:=true) (by rfl) hg1 (ho1.rd (by show 10≤_;decide)) (by simp) rfl
 refine as_ (fun e=>?_) (fun n10=>?_)
 ·obtain rfl:op=53:=o_
  refine aN_ (cells:=(bv [UInt8.ofNat 53,0,255,255,255,255,0,255,255,0]).toArray) (e:=ae_) (z:=1) (base:=0) k_ rfl d_ (Nat.zero_le _) fun w1 ho1 hg1 _=>?_
  exact fin (m:=[UInt8.ofNat 53,0,255,255,255,255,0,255,255,0]) (c:=true) (by rfl) hg1 (ho1.rd (by show 10≤_;decide)) (by simp) rfl
 refine as_ (fun e=>?_) (fun n11=>?_)
 ·obtain rfl:op=65:=o_
  refine aN_ (cells:=(bv [UInt8.ofNat 65,232,255,255,255,255,0,255,255,0]).toArray) (e:=ae_) (z:=1) (base:=0) k_ rfl d_ (Nat.zero_le _) fun w1 ho1 hg1 _=>?_
  exact fin (m:=[UInt8.ofNat 65,232,255,255,255,255,0,255,255,0]) (c:=true) (by rfl) hg1 (ho1.rd (by show 10≤_;decide)) (by simp) rfl
 refine as_ (fun e=>?_) (fun n12=>?_)
 ·obtain rfl:op=66:=o_
  refine aN_ (cells:=(bv [UInt8.ofNat 66,0,0,0,0,0,0,255,255,0]).toArray) (e:=ae_) (z:=1) (base:=0) k_ rfl d_ (Nat.zero_le _) fun w1 ho1 hg1 _=>?_
  exact fin (m:=[UInt8.ofNat 66,0,0,0,0,0,0,255,255,0]) (c:=true) (by rfl) hg1 (ho1.rd (by show 10≤_;decide)) (by simp) rfl
 refine as_ (fun e=>?_) (fun n13=>?_)
 ·obtain rfl:op=85:=o_
  refine aN_ (cells:=(bv [UInt8.ofNat 85,17,0,0,0,0,0,255,255,0]).toArray) (e:=ae_) (z:=1) (base:=0) k_ rfl d_ (Nat.zero_le _) fun w1 ho1 hg1 _=>?_
  exact fin (m:=[UInt8.ofNat 85,17,0,0,0,0,0,255,255,0]) (c:=true) (by rfl) hg1 (ho1.rd (by show 10≤_;decide)) (by simp) rfl
 refine as_ (fun e=>?_) (fun n14=>?_)
 ·obtain rfl:op=90:=o_
  refine aN_ (cells:=(bv [UInt8.ofNat 90,8,255,0,0,0,0,255,255,0]).toArray) (e:=ae_) (z:=1) (base:=0) k_ rfl d_ (Nat.zero_le _) fun w1 ho1 hg1 _=>?_
  exact fin (m:=[UInt8.ofNat 90,8,255,0,0,0,0,255,255,0]) (c:=true) (by rfl) hg1 (ho1.rd (by show 10≤_;decide)) (by simp) rfl
 refine as_ (fun e=>?_) (fun n15=>?_)
 ·obtain rfl:op=94:=o_
  refine aN_ (cells:=(bv [UInt8.ofNat 94,31,0,0,0,0,0,255,255,0]).toArray) (e:=ae_) (z:=1) (base:=0) k_ rfl d_ (Nat.zero_le _) fun w1 ho1 hg1 _=>?_
  exact fin (m:=[UInt8.ofNat 94,31,0,0,0,0,0,255,255,0]) (c:=decide (sv≤3)) (by rfl) hg1 (ho1.rd (by show 10≤_;decide)) (by simp) (by rw[decide_eq_decide];omega)
 refine as_ (fun e=>?_) (fun n16=>?_)
 ·obtain rfl:op=95:=o_
  refine aN_ (cells:=(bv [UInt8.ofNat 95,31,15,0,0,255,255,255,255,0]).toArray) (e:=ae_) (z:=1) (base:=0) k_ rfl d_ (Nat.zero_le _) fun w1 ho1 hg1 _=>?_
  exact fin (m:=[UInt8.ofNat 95,31,15,0,0,255,255,255,255,0]) (c:=decide (sv≤6)) (by rfl) hg1 (ho1.rd (by show 10≤_;decide)) (by simp) (by rw[decide_eq_decide];omega)
 refine as_ (fun e=>?_) (fun n17=>?_)
 ·obtain rfl:op=131:=o_
  refine Row.start (l:=[UInt8.ofNat 131,31,0,0,0,0,0,0,0,0]) k_ rfl (by show 10≤_;decide) fun p1 w1 h1=>?_
  refine⟨⟨d_,d_,by show(4:Int)≤12;decide,by show 12≤12;decide⟩,?_⟩
  have hw1:Rd w1 1 ⟨aM_ (some ⟨w.heap.size,0,none⟩) 12 0 1,4-0,12-0⟩ (bv (List.replicate 4 255)):=by have:=(hwd.grow h1.grow).cutB (l:=0) (k:=4) d_ (by show 4≤12;decide);simpa using this
  refine h1.app hw1 (by show 10+4≤_;decide) fun p2 w2 h2 _=>?_
  refine h2.lit (l:=[0,0]) k_ rfl (by show 14+2≤_;decide) fun p3 w3 h3 _=>?_
  exact fin (m:=[UInt8.ofNat 131,31,0,0,0,0,0,0,0,0,255,255,255,255,0,0]) (c:=decide (sv=0)) (by rfl) h3.grow (h3.rd (by show 16≤_;decide)) (by simp) (by rw[Bool.eq_iff_iff,beq_iff_eq,decide_eq_true_eq];omega)
 refine bc_ (fun x v=>w0=v∧x=decide (op=136∨op=138)) ?_ (fun J=>?_)
 rotate_left
 ·by_cases e:op=136
  ·exact am_ (by rw[beq_iff_eq];omega) (J _ _ ⟨rfl,by rw[Bool.eq_iff_iff,beq_iff_eq,decide_eq_true_eq];omega⟩)
  ·exact aj_ (by rw[beq_eq_false_iff_ne];omega) (J _ _ ⟨rfl,by rw[Bool.eq_iff_iff,beq_iff_eq,decide_eq_true_eq];omega⟩)
 rintro x v ⟨rfl,rfl⟩
 refine a2_ (fun e=>?_) (fun n18=>?_)
 ·rcases e with rfl|rfl
  ·refine Row.start (l:=[UInt8.ofNat 136,248]) k_ rfl (by show 2≤_;decide) fun p1 w1 h1=>?_
   have hw1:Rd w1 1 ⟨some ⟨w.heap.size,0,none⟩,12,12⟩ (bv (List.replicate 12 255)):=hwd.grow h1.grow
   refine h1.app hw1 (by show 2+12≤_;decide) fun p2 w2 h2 _=>?_
   refine h2.lit (l:=[0,0]) k_ rfl (by show 14+2≤_;decide) fun p3 w3 h3 _=>?_
   exact fin (m:=[UInt8.ofNat 136,248,255,255,255,255,255,255,255,255,255,255,255,255,0,0]) (c:=true) (by rfl) h3.grow (h3.rd (by show 16≤_;decide)) (by simp) rfl
  ·refine Row.start (l:=[UInt8.ofNat 138,248]) k_ rfl (by show 2≤_;decide) fun p1 w1 h1=>?_
   have hw1:Rd w1 1 ⟨some ⟨w.heap.size,0,none⟩,12,12⟩ (bv (List.replicate 12 255)):=hwd.grow h1.grow
   refine h1.app hw1 (by show 2+12≤_;decide) fun p2 w2 h2 _=>?_
   refine h2.lit (l:=[0,0]) k_ rfl (by show 14+2≤_;decide) fun p3 w3 h3 _=>?_
   exact fin (m:=[UInt8.ofNat 138,248,255,255,255,255,255,255,255,255,255,255,255,255,0,0]) (c:=true) (by rfl) h3.grow (h3.rd (by show 16≤_;decide)) (by simp) rfl
 refine as_ (fun e=>?_) (fun n19=>?_)
 ·obtain rfl:op=137:=o_
  refine Row.start (l:=[UInt8.ofNat 137,248]) k_ rfl (by show 2≤_;decide) fun p1 w1 h1=>?_
  refine⟨⟨d_,d_,by show(8:Int)≤12;decide,by show 12≤12;decide⟩,?_⟩
  have hw1:Rd w1 1 ⟨aM_ (some ⟨w.heap.size,0,none⟩) 12 0 1,8-0,12-0⟩ (bv (List.replicate 8 255)):=by have:=(hwd.grow h1.grow).cutB (l:=0) (k:=8) d_ (by show 8≤12;decide);simpa using this
  refine h1.app hw1 (by show 2+8≤_;decide) fun p2 w2 h2 _=>?_
  refine h2.lit (l:=[0,0,0,255,0,0]) k_ rfl (by show 10+6≤_;decide) fun p3 w3 h3 _=>?_
  exact fin (m:=[UInt8.ofNat 137,248,255,255,255,255,255,255,255,255,0,0,0,255,0,0]) (c:=true) (by rfl) h3.grow (h3.rd (by show 16≤_;decide)) (by simp) rfl
 refine as_ (fun e=>?_) (fun n20=>?_)
 ·obtain rfl:op=145:=o_
  refine Row.start (l:=[UInt8.ofNat 145,0]) k_ rfl (by show 2≤_;decide) fun p1 w1 h1=>?_
  have hw1:Rd w1 1 ⟨some ⟨w.heap.size,0,none⟩,12,12⟩ (bv (List.replicate 12 255)):=hwd.grow h1.grow
  refine h1.app hw1 (by show 2+12≤_;decide) fun p2 w2 h2 _=>?_
  refine h2.lit (l:=[0,0]) k_ rfl (by show 14+2≤_;decide) fun p3 w3 h3 _=>?_
  exact fin (m:=[UInt8.ofNat 145,0,255,255,255,255,255,255,255,255,255,255,255,255,0,0]) (c:=true) (by rfl) h3.grow (h3.rd (by show 16≤_;decide)) (by simp) rfl
 refine as_ (fun e=>?_) (fun n21=>?_)
 ·obtain rfl:op=147:=o_
  refine Row.start (l:=[UInt8.ofNat 147,232]) k_ rfl (by show 2≤_;decide) fun p1 w1 h1=>?_
  have hw1:Rd w1 1 ⟨some ⟨w.heap.size,0,none⟩,12,12⟩ (bv (List.replicate 12 255)):=hwd.grow h1.grow
  refine h1.app hw1 (by show 2+12≤_;decide) fun p2 w2 h2 _=>?_
  refine h2.lit (l:=[0,0]) k_ rfl (by show 14+2≤_;decide) fun p3 w3 h3 _=>?_
  exact fin (m:=[UInt8.ofNat 147,232,255,255,255,255,255,255,255,255,255,255,255,255,0,0]) (c:=true) (by rfl) h3.grow (h3.rd (by show 16≤_;decide)) (by simp) rfl
 refine as_ (fun e=>?_) (fun n22=>?_)
 ·obtain rfl:op=158:=o_
  refine Row.start (l:=[UInt8.ofNat 158,31,0,0,0,0,0,0,0,0]) k_ rfl (by show 10≤_;decide) fun p1 w1 h1=>?_
  refine⟨⟨d_,d_,by show(4:Int)≤12;decide,by show 12≤12;decide⟩,?_⟩
  have hw1:Rd w1 1 ⟨aM_ (some ⟨w.heap.size,0,none⟩) 12 0 1,4-0,12-0⟩ (bv (List.replicate 4 255)):=by have:=(hwd.grow h1.grow).cutB (l:=0) (k:=4) d_ (by show 4≤12;decide);simpa using this
  refine h1.app hw1 (by show 10+4≤_;decide) fun p2 w2 h2 _=>?_
  refine h2.lit (l:=[0,0]) k_ rfl (by show 14+2≤_;decide) fun p3 w3 h3 _=>?_
  exact fin (m:=[UInt8.ofNat 158,31,0,0,0,0,0,0,0,0,255,255,255,255,0,0]) (c:=decide (sv=16)) (by rfl) h3.grow (h3.rd (by show 16≤_;decide)) (by simp) (by rw[Bool.eq_iff_iff,beq_iff_eq,decide_eq_true_eq];omega)
 refine as_ (fun e=>?_) (fun n23=>?_)
 ·obtain rfl:op=160:=o_
  refine aN_ (cells:=(bv [UInt8.ofNat 160,0,3,0,0,0,255,255,255,255,0,0]).toArray) (e:=ae_) (z:=1) (base:=0) k_ rfl d_ (Nat.zero_le _) fun w1 ho1 hg1 _=>?_
  exact fin (m:=[UInt8.ofNat 160,0,3,0,0,0,255,255,255,255,0,0]) (c:=true) (by rfl) hg1 (ho1.rd (by show 12≤_;decide)) (by simp) rfl
 refine h _ _ _ hg0 ?_
 have e:hI_ op sv=none:=by unfold hI_;rw[if_neg o_,if_neg o_,if_neg o_,if_neg o_,if_neg o_,if_neg o_,if_neg o_,if_neg o_,if_neg o_,if_neg o_,if_neg o_,if_neg o_,if_neg o_,if_neg o_,if_neg o_,if_neg o_,if_neg o_,if_neg o_,if_neg o_,if_neg o_,if_neg o_,if_neg o_,if_neg o_,if_neg o_]
 rw[e];exact⟨rfl,rfl⟩
end
theorem nt_ {op sv:Nat} {m:L8} {b:Bool} {P:Nat→L8→Prop} (h:hI_ op sv=some (m,b))
  (h0:P 0 [UInt8.ofNat 0,0,0,0,0,0])
  (h3:P 3 [UInt8.ofNat 3,1,0,0,255,0])
  (h8:P 8 [UInt8.ofNat 8,31,255,255,255,0])
  (h10:P 10 [UInt8.ofNat 10,31,255,255,255,0])
  (h18:P 18 [UInt8.ofNat 18,1,255,255,255,0])
  (h21:P 21 [UInt8.ofNat 21,17,0,0,255,0])
  (h26:P 26 [UInt8.ofNat 26,8,255,0,255,0])
  (h37:P 37 [UInt8.ofNat 37,0,0,0,0,0,0,0,0,0])
  (h40:P 40 [UInt8.ofNat 40,248,255,255,255,255,0,255,255,0])
  (h42:P 42 [UInt8.ofNat 42,248,255,255,255,255,0,255,255,0])
  (h46:P 46 [UInt8.ofNat 46,240,255,255,255,255,0,255,255,0])
  (h47:P 47 [UInt8.ofNat 47,242,255,255,255,255,0,255,255,0])
  (h53:P 53 [UInt8.ofNat 53,0,255,255,255,255,0,255,255,0])
  (h65:P 65 [UInt8.ofNat 65,232,255,255,255,255,0,255,255,0])
  (h66:P 66 [UInt8.ofNat 66,0,0,0,0,0,0,255,255,0])
  (h85:P 85 [UInt8.ofNat 85,17,0,0,0,0,0,255,255,0])
  (h90:P 90 [UInt8.ofNat 90,8,255,0,0,0,0,255,255,0])
  (h94:P 94 [UInt8.ofNat 94,31,0,0,0,0,0,255,255,0])
  (h95:P 95 [UInt8.ofNat 95,31,15,0,0,255,255,255,255,0])
  (h131:P 131 [UInt8.ofNat 131,31,0,0,0,0,0,0,0,0,255,255,255,255,0,0])
  (h136:P 136 [UInt8.ofNat 136,248,255,255,255,255,255,255,255,255,255,255,255,255,0,0])
  (h138:P 138 [UInt8.ofNat 138,248,255,255,255,255,255,255,255,255,255,255,255,255,0,0])
  (h137:P 137 [UInt8.ofNat 137,248,255,255,255,255,255,255,255,255,0,0,0,255,0,0])
  (h145:P 145 [UInt8.ofNat 145,0,255,255,255,255,255,255,255,255,255,255,255,255,0,0])
  (h147:P 147 [UInt8.ofNat 147,232,255,255,255,255,255,255,255,255,255,255,255,255,0,0])
  (h158:P 158 [UInt8.ofNat 158,31,0,0,0,0,0,0,0,0,255,255,255,255,0,0])
  (h160:P 160 [UInt8.ofNat 160,0,3,0,0,0,255,255,255,255,0,0])
  : P op m:=by
 unfold hI_ at h
 by_cases q:op=0
 ·rw[if_pos q] at h
  injection h with h;injection h with h1 h2
  subst h1
  subst q;exact h0
 rw[if_neg q] at h
 clear q
 by_cases q:op=3
 ·rw[if_pos q] at h
  injection h with h;injection h with h1 h2
  subst h1
  subst q;exact h3
 rw[if_neg q] at h
 clear q
 by_cases q:op=8∨op=10
 ·rw[if_pos q] at h
  injection h with h;injection h with h1 h2
  subst h1
  rcases q with rfl|rfl
  ·exact h8
  ·exact h10
 rw[if_neg q] at h
 clear q
 by_cases q:op=18
 ·rw[if_pos q] at h
  injection h with h;injection h with h1 h2
  subst h1
  subst q;exact h18
 rw[if_neg q] at h
 clear q
 by_cases q:op=21
 ·rw[if_pos q] at h
  injection h with h;injection h with h1 h2
  subst h1
  subst q;exact h21
 rw[if_neg q] at h
 clear q
 by_cases q:op=26
 ·rw[if_pos q] at h
  injection h with h;injection h with h1 h2
  subst h1
  subst q;exact h26
 rw[if_neg q] at h
 clear q
 by_cases q:op=37
 ·rw[if_pos q] at h
  injection h with h;injection h with h1 h2
  subst h1
  subst q;exact h37
 rw[if_neg q] at h
 clear q
 by_cases q:op=40∨op=42
 ·rw[if_pos q] at h
  injection h with h;injection h with h1 h2
  subst h1
  rcases q with rfl|rfl
  ·exact h40
  ·exact h42
 rw[if_neg q] at h
 clear q
 by_cases q:op=46
 ·rw[if_pos q] at h
  injection h with h;injection h with h1 h2
  subst h1
  subst q;exact h46
 rw[if_neg q] at h
 clear q
 by_cases q:op=47
 ·rw[if_pos q] at h
  injection h with h;injection h with h1 h2
  subst h1
  subst q;exact h47
 rw[if_neg q] at h
 clear q
 by_cases q:op=53
 ·rw[if_pos q] at h
  injection h with h;injection h with h1 h2
  subst h1
  subst q;exact h53
 rw[if_neg q] at h
 clear q
 by_cases q:op=65
 ·rw[if_pos q] at h
  injection h with h;injection h with h1 h2
  subst h1
  subst q;exact h65
 rw[if_neg q] at h
 clear q
 by_cases q:op=66
 ·rw[if_pos q] at h
  injection h with h;injection h with h1 h2
  subst h1
  subst q;exact h66
 rw[if_neg q] at h
 clear q
 by_cases q:op=85
 ·rw[if_pos q] at h
  injection h with h;injection h with h1 h2
  subst h1
  subst q;exact h85
 rw[if_neg q] at h
 clear q
 by_cases q:op=90
 ·rw[if_pos q] at h
  injection h with h;injection h with h1 h2
  subst h1
  subst q;exact h90
 rw[if_neg q] at h
 clear q
 by_cases q:op=94
 ·rw[if_pos q] at h
  injection h with h;injection h with h1 h2
  subst h1
  subst q;exact h94
 rw[if_neg q] at h
 clear q
 by_cases q:op=95
 ·rw[if_pos q] at h
  injection h with h;injection h with h1 h2
  subst h1
  subst q;exact h95
 rw[if_neg q] at h
 clear q
 by_cases q:op=131
 ·rw[if_pos q] at h
  injection h with h;injection h with h1 h2
  subst h1
  subst q;exact h131
 rw[if_neg q] at h
 clear q
 by_cases q:op=136∨op=138
 ·rw[if_pos q] at h
  injection h with h;injection h with h1 h2
  subst h1
  rcases q with rfl|rfl
  ·exact h136
  ·exact h138
 rw[if_neg q] at h
 clear q
 by_cases q:op=137
 ·rw[if_pos q] at h
  injection h with h;injection h with h1 h2
  subst h1
  subst q;exact h137
 rw[if_neg q] at h
 clear q
 by_cases q:op=145
 ·rw[if_pos q] at h
  injection h with h;injection h with h1 h2
  subst h1
  subst q;exact h145
 rw[if_neg q] at h
 clear q
 by_cases q:op=147
 ·rw[if_pos q] at h
  injection h with h;injection h with h1 h2
  subst h1
  subst q;exact h147
 rw[if_neg q] at h
 clear q
 by_cases q:op=158
 ·rw[if_pos q] at h
  injection h with h;injection h with h1 h2
  subst h1
  subst q;exact h158
 rw[if_neg q] at h
 clear q
 by_cases q:op=160
 ·rw[if_pos q] at h
  injection h with h;injection h with h1 h2
  subst h1
  subst q;exact h160
 rw[if_neg q] at h
 clear q
 cases h
open Go CF
theorem js_ {n m:Nat} (hn:n<256) (hm:m<256):bz_ .u8 (n:Int) (m:Int)=((n &&& m:Nat):Int):=by
 unfold bz_
 show IntKind.wrap .u8 (((BitVec.ofInt 8 (n:Int) &&& BitVec.ofInt 8 (m:Int)).toNat:Nat):Int)=_
 rw[BitVec.ofInt_natCast,BitVec.ofInt_natCast,BitVec.toNat_and,BitVec.toNat_ofNat,BitVec.toNat_ofNat,Nat.mod_eq_of_lt o_,Nat.mod_eq_of_lt o_]
 have:n &&& m≤n:=Nat.and_le_left
 generalize n &&& m=k at *
 exact wu8 o_ o_
theorem xg_ {n m:Nat} (hn:n<18446744073709551616) (hm:m<18446744073709551616):bz_ .u64 (n:Int) (m:Int)=((n &&& m:Nat):Int):=by
 unfold bz_
 show IntKind.wrap .u64 (((BitVec.ofInt 64 (n:Int) &&& BitVec.ofInt 64 (m:Int)).toNat:Nat):Int)=_
 rw[BitVec.ofInt_natCast,BitVec.ofInt_natCast,BitVec.toNat_and,BitVec.toNat_ofNat,BitVec.toNat_ofNat,Nat.mod_eq_of_lt o_,Nat.mod_eq_of_lt o_]
 have:n &&& m≤n:=Nat.and_le_left
 generalize n &&& m=k at *
 exact h3_ o_ o_
theorem vV_ (a b:UInt8):px_ .u8 (a.toNat:Int) (b.toNat:Int)=((a &&& ~~~b).toNat:Int):=by
 unfold px_
 show IntKind.wrap .u8 (((BitVec.ofInt 8 (a.toNat:Int) &&& ~~~(BitVec.ofInt 8 (b.toNat:Int))).toNat:Nat):Int)=_
 have ea:BitVec.ofInt 8 (a.toNat:Int)=a.toBitVec:=by rw[BitVec.ofInt_natCast];exact BitVec.eq_of_toNat_eq (by rw[BitVec.toNat_ofNat];exact Nat.mod_eq_of_lt a.toNat_lt)
 have eb:BitVec.ofInt 8 (b.toNat:Int)=b.toBitVec:=by rw[BitVec.ofInt_natCast];exact BitVec.eq_of_toNat_eq (by rw[BitVec.toNat_ofNat];exact Nat.mod_eq_of_lt b.toNat_lt)
 rw[ea,eb]
 have:(a.toBitVec &&& ~~~b.toBitVec).toNat=(a &&& ~~~b).toNat:=rfl
 rw[this]
 have:=(a &&& ~~~b).toNat_lt
 exact wu8 o_ o_
def eH_ (b:Nat):Nat→Option Nat
 | 0=>none
 | k+1=>if b/2 ^ k%2=1 then some k else eH_ b k
def fR_:L8→L8→Nat→Option (Nat×Nat)
 | [],_,_=>none
 | b::r,m,i=>match eH_ (b &&& ~~~(m.getD 0 0)).toNat 8 with
  | some k=>some (i,k)
  | none=>fR_ r (m.drop 1) (i+1)
section
variable {w:World}
theorem vg_ {n:Nat} (h:n<256):bz_ .u8 (n:Int) 1=((n%2:Nat):Int):=by
 have:=js_ h (m:=1) d_
 rw[Nat.and_one_is_mod] at this
 exact this
theorem tV_ {p m:L8} {j:Nat} (hj:j<p.length):fR_ (p.drop j) (m.drop j) j=match eH_ (p[j] &&& ~~~(m.getD j 0)).toNat 8 with|some k=>some (j,k)|none=>fR_ (p.drop (j+1)) (m.drop (j+1)) (j+1):=by
 rw[List.drop_eq_getElem_cons hj]
 show(match eH_ (p[j] &&& ~~~((m.drop j).getD 0 0)).toNat 8 with|some k=>some (j,k)|none=>fR_ (p.drop (j+1)) ((m.drop j).drop 1) (j+1))=_
 rw[List.getD_eq_getElem?_getD,List.getElem?_drop,Nat.add_zero,List.drop_drop,←List.getD_eq_getElem?_getD]
theorem qc_ {p m:Sl} {l k:L8} {R:Int→Int→W_} (hp:Rd w 1 p (bv l)) (hm:Rd w 1 m (bv k)) (hR:match fR_ l k 0 with|none=>R (-1) (-1) w|some (i,b)=>R (i:Int) (b:Int) w):lQ_ p m w R:=by
 refine lT_.calls _ _ _ _ ?_
 have hpn:=cV_ hp
 have hmn:=cV_ hm
 have hpb:=hp.nb
 refine⟨fun x v=>∃j:Nat,x=j∧j≤l.length∧v=w∧fR_ l k 0=fR_ (l.drop j) (k.drop j) j,fun x _=>p.n-x.toNat,⟨0,rfl,Nat.zero_le _,rfl,rfl⟩,?_⟩
 rintro x v ⟨j,rfl,hj,rfl,he⟩
 refine bl_ (fun hlt=>?_) (fun hge=>?_)
 ·have hjl:j<l.length:=o_
  rw[tV_ hjl] at he
  refine cu_ (fun v'=>v'=v∧eH_ (l[j] &&& ~~~(k.getD j 0)).toNat 8=none) (fun v' hv=>?_) (fun J=>?_)
  ·obtain⟨rfl,ho⟩:=hv
   rw[ho] at he
   rw[w64 o_ o_]
   exact⟨⟨j+1,o_,o_,rfl,he⟩,by dsimp only;omega⟩
  ·obtain⟨ha,hc⟩:=dC_ hp hjl
   have ej:l.getD j 0=l[j]:=by rw[List.getD_eq_getElem?_getD,List.getElem?_eq_getElem hjl];rfl
   refine⟨⟨o_,o_,ha⟩,_,by rw[Int.toNat_natCast];exact hc,?_⟩
   rw[ej]
   refine bc_ (fun b v'=>v'=v∧b=((l[j] &&& ~~~(k.getD j 0)).toNat:Int)) (fun b v' hb=>?_) (fun J2=>?_)
   ·obtain⟨rfl,rfl⟩:=hb
    have hB:=(l[j] &&& ~~~(k.getD j 0)).toNat_lt
    generalize (l[j] &&& ~~~(k.getD j 0)).toNat=B at *
    refine⟨fun bit u=>∃t:Nat,bit=(t:Int)-1∧t≤8∧u=v'∧eH_ B 8=eH_ B t,fun bit _=>(bit+1).toNat,⟨8,d_,d_,rfl,rfl⟩,?_⟩
    rintro bit u ⟨t,rfl,ht,rfl,ho⟩
    cases t with
    | zero=>exact aj_ d_ (J u ⟨rfl,ho⟩)
    | succ t=>
     refine am_ (by rw[decide_eq_true_eq];omega) ⟨o_,?_⟩
     have e1:(((t+1:Nat):Int)-1).toNat=t:=o_
     have e2:((t+1:Nat):Int)-1=(t:Int):=o_
     rw[e1,shr .u8 B t (by show t≤8;omega),vg_ (Nat.lt_of_le_of_lt (Nat.div_le_self _ _) o_),e2]
     by_cases q:B/2 ^ t%2=1
     ·refine am_ (by rw[beq_iff_eq];omega) ?_
      have:eH_ B (t+1)=some t:=by unfold eH_;rw[if_pos q]
      rw[ho,this] at he
      rw[he] at hR
      exact hR
     ·refine aj_ (by rw[beq_eq_false_iff_ne];omega) ?_
      rw[w64 o_ o_]
      refine⟨⟨t,rfl,o_,rfl,ho.trans ?_⟩,by dsimp only;omega⟩
      show(if B/2 ^ t%2=1 then some t else eH_ B t)=_
      rw[if_neg q]
   ·by_cases q:j<k.length
    ·refine am_ (by rw[decide_eq_true_eq];omega) ?_
     obtain⟨hma,hmc⟩:=dC_ hm q
     refine⟨⟨o_,o_,hma⟩,_,by rw[Int.toNat_natCast];exact hmc,?_⟩
     exact J2 _ _ ⟨rfl,vV_ _ _⟩
    ·refine aj_ (by rw[decide_eq_false_iff_not];omega) (J2 _ _ ⟨rfl,?_⟩)
     have:k.getD j 0=0:=by rw[List.getD_eq_getElem?_getD,List.getElem?_eq_none o_];rfl
     rw[this]
     have:∀b:UInt8,b &&& ~~~(0:UInt8)=b:=fun b=>by
      apply UInt8.toBitVec_inj.1
      rw[UInt8.toBitVec_and,UInt8.toBitVec_not]
      exact BitVec.and_allOnes
     rw[this]
 ·have:j=l.length:=o_
  subst this
  rw[List.drop_length] at he
  rw[show fR_ l k 0=none from he] at hR
  exact hR
def gl_ (op:Nat):Nat:=
 if op=0 then 1 else if op=3 then 2 else if op=18 then 3 else if op=21∨op=85 then 4 else if op=26∨op=90 then 5 else if op=37∨op=158 then 6
 else if op=8∨op=40∨op=136 then 7 else if op=10∨op=42∨op=138 then 8 else if op=46 then 9 else if op=47 then 10 else if op=53∨op=145 then 11
 else if op=65∨op=147 then 12 else if op=66 then 13 else if op=137 then 14 else if op=94 then 15 else if op=95 then 16 else if op=160 then 17 else if op=131 then 18 else 0
theorem or2 {op a b:Nat} {j:Bool→W_} (J:∀x v,w=v∧x=decide (op=a∨op=b)→j x v):Br ((op:Int)==(a:Int)) (j ((op:Int)==(a:Int)) w) (j ((op:Int)==(b:Int)) w):=by
 by_cases e:op=a
 ·exact am_ (by rw[beq_iff_eq];omega) (J _ _ ⟨rfl,by rw[Bool.eq_iff_iff,beq_iff_eq,decide_eq_true_eq];omega⟩)
 ·exact aj_ (by rw[beq_eq_false_iff_ne];omega) (J _ _ ⟨rfl,by rw[Bool.eq_iff_iff,beq_iff_eq,decide_eq_true_eq];omega⟩)
theorem or3 {op a b c:Nat} {j:Bool→W_} (J:∀x v,w=v∧x=decide (op=a∨op=b∨op=c)→j x v):Br ((op:Int)==(a:Int)) (j ((op:Int)==(a:Int)) w) (Br ((op:Int)==(b:Int)) (j ((op:Int)==(b:Int)) w) (j ((op:Int)==(c:Int)) w)):=by
 by_cases e:op=a
 ·exact am_ (by rw[beq_iff_eq];omega) (J _ _ ⟨rfl,by rw[Bool.eq_iff_iff,beq_iff_eq,decide_eq_true_eq];omega⟩)
 ·refine aj_ (by rw[beq_eq_false_iff_ne];omega) (or2 (a:=b) (b:=c) fun x v hv=>J x v ⟨hv.1,hv.2.trans ?_⟩)
  rw[decide_eq_decide];omega
theorem q7_ {op:Nat} {R:Int→W_} (h:R (gl_ op:Int) w):li_ (op:Int) w R:=by
 refine jh_.calls _ _ _ ?_
 unfold gl_ at h
 refine as_ (fun e=>?_) (fun n1=>as_ (fun e=>?_) (fun n2=>as_ (fun e=>?_) (fun n3=>?_)))
 ·rw[if_pos o_] at h;exact h
 ·rw[if_neg o_,if_pos o_] at h;exact h
 ·rw[if_neg o_,if_neg o_,if_pos o_] at h;exact h
 rw[if_neg o_,if_neg o_,if_neg o_] at h
 refine bc_ (fun x v=>w=v∧x=decide (op=21∨op=85)) ?_ (fun J=>or2 (a:=21) (b:=85) J)
 rintro x v ⟨rfl,rfl⟩
 refine a2_ (fun e=>?_) (fun n4=>?_)
 ·rw[if_pos e] at h;exact h
 rw[if_neg n4] at h
 refine bc_ (fun x v=>w=v∧x=decide (op=26∨op=90)) ?_ (fun J=>or2 (a:=26) (b:=90) J)
 rintro x v ⟨rfl,rfl⟩
 refine a2_ (fun e=>?_) (fun n5=>?_)
 ·rw[if_pos e] at h;exact h
 rw[if_neg n5] at h
 refine bc_ (fun x v=>w=v∧x=decide (op=37∨op=158)) ?_ (fun J=>or2 (a:=37) (b:=158) J)
 rintro x v ⟨rfl,rfl⟩
 refine a2_ (fun e=>?_) (fun n6=>?_)
 ·rw[if_pos e] at h;exact h
 rw[if_neg n6] at h
 refine bc_ (fun x v=>w=v∧x=decide (op=8∨op=40∨op=136)) ?_ (fun J=>or3 (a:=8) (b:=40) (c:=136) J)
 rintro x v ⟨rfl,rfl⟩
 refine a2_ (fun e=>?_) (fun n7=>?_)
 ·rw[if_pos e] at h;exact h
 rw[if_neg n7] at h
 refine bc_ (fun x v=>w=v∧x=decide (op=10∨op=42∨op=138)) ?_ (fun J=>or3 (a:=10) (b:=42) (c:=138) J)
 rintro x v ⟨rfl,rfl⟩
 refine a2_ (fun e=>?_) (fun n8=>?_)
 ·rw[if_pos e] at h;exact h
 rw[if_neg n8] at h
 refine as_ (fun e=>?_) (fun n9=>as_ (fun e=>?_) (fun n10=>?_))
 ·rw[if_pos o_] at h;exact h
 ·rw[if_neg o_,if_pos o_] at h;exact h
 rw[if_neg o_,if_neg o_] at h
 refine bc_ (fun x v=>w=v∧x=decide (op=53∨op=145)) ?_ (fun J=>or2 (a:=53) (b:=145) J)
 rintro x v ⟨rfl,rfl⟩
 refine a2_ (fun e=>?_) (fun n11=>?_)
 ·rw[if_pos e] at h;exact h
 rw[if_neg n11] at h
 refine bc_ (fun x v=>w=v∧x=decide (op=65∨op=147)) ?_ (fun J=>or2 (a:=65) (b:=147) J)
 rintro x v ⟨rfl,rfl⟩
 refine a2_ (fun e=>?_) (fun n12=>?_)
 ·rw[if_pos e] at h;exact h
 rw[if_neg n12] at h
 refine as_ (fun e=>?_) (fun n13=>as_ (fun e=>?_) (fun n14=>as_ (fun e=>?_) (fun n15=>as_ (fun e=>?_) (fun n16=>as_ (fun e=>?_) (fun n17=>as_ (fun e=>?_) (fun n18=>?_))))))
 ·rw[if_pos o_] at h;exact h
 ·rw[if_neg o_,if_pos o_] at h;exact h
 ·rw[if_neg o_,if_neg o_,if_pos o_] at h;exact h
 ·rw[if_neg o_,if_neg o_,if_neg o_,if_pos o_] at h;exact h
 ·rw[if_neg o_,if_neg o_,if_neg o_,if_neg o_,if_pos o_] at h;exact h
 ·rw[if_neg o_,if_neg o_,if_neg o_,if_neg o_,if_neg o_,if_pos o_] at h;exact h
 ·rw[if_neg o_,if_neg o_,if_neg o_,if_neg o_,if_neg o_,if_neg o_] at h;exact h
end
open Go CF
def bN (p:L8) (i:Nat):Nat:=(p.getD i 0).toNat
def nuN (p:L8) (at_ n:Nat):Nat:=num ((p.drop at_).take n)
theorem lZ_ (p:L8) (i:Nat):bN p i<256:=(p.getD i 0).toNat_lt
theorem lA_ (p:L8) (at_ n:Nat):nuN p at_ n<256 ^ n:=by
 unfold nuN
 have h:=j3_ ((p.drop at_).take n)
 have:((p.drop at_).take n).length≤n:=by rw[List.length_take];omega
 exact Nat.lt_of_lt_of_le h (Nat.pow_le_pow_right d_ this)
theorem nu1 (p:L8) (a:Nat):nuN p a 1<256:=lA_ p a 1
theorem nu2 (p:L8) (a:Nat):nuN p a 2<65536:=lA_ p a 2
theorem nu3 (p:L8) (a:Nat):nuN p a 3<16777216:=lA_ p a 3
theorem nu4 (p:L8) (a:Nat):nuN p a 4<4294967296:=lA_ p a 4
theorem nu8 (p:L8) (a:Nat):nuN p a 8<18446744073709551616:=lA_ p a 8
def ff_ (c:Cm) (p:L8):Cm×Nat:=
 if p.length=6 then({c with lba:=nuN p 1 3 &&& 2097151,blocks:=if nuN p 4 1=0 then 256 else nuN p 4 1},4)
 else if p.length=10 then({c with lba:=nuN p 2 4,blocks:=nuN p 7 2},7)
 else({c with lba:=nuN p 2 8,blocks:=nuN p 10 4},10)
def l0_ (c:Cm) (p:L8):Cm:=
 if c.kind=7∨c.kind=8 then {c with prot:=bN p 1/32,fua:=decide (bN p 1 &&& 8≠0)}
 else if c.kind=10 then {c with prot:=bN p 1/32,bytes:=decide (bN p 1 &&& 2≠0)}
 else if c.kind=12 then {c with prot:=bN p 1/32,unmap:=decide (bN p 1 &&& 8≠0)}
 else if c.kind=11 then {c with prot:=0}
 else {c with prot:=bN p 1/32}
def gm_ (c:Cm) (p:L8):Cm:=if 6<p.length then l0_ (ff_ c p).1 p else(ff_ c p).1
def qd_ (c:Cm) (p:L8):Option (Nat×Nat):=if c.kind≠11∧c.kind≠12∧256<(gm_ c p).blocks then some ((ff_ c p).2,7) else none
section
variable {w:World} {p:Sl} {l:L8} {cb:Nat} {c:Cm} {R:Int→Int→W_}
theorem bO_ {at_ n:Nat} {R:Int→W_} (hp:Rd w 1 p (bv l)) (hn:1≤n) (hn8:n≤8) (hat:at_+n≤l.length) (h:R (nuN l at_ n:Int) w):bh_ p (at_:Int) (n:Int) w R:=by
 refine hy_.calls _ _ _ _ _ ?_
 exact gu_ hp hp.nb hn hn8 hat h
abbrev IsC (w:World) (cb:Nat) (c:Cm):Prop:=Blk w cb (cmv c).toArray aD_
theorem IsC.put (h:IsC w cb c) {o:Nat} {v:Value} (c':Cm) (e:(cmv c).set o v=cmv c') (ho:o<15) (hv:v.oneCell'=true) {K:W_}
  (hK:∀w',IsC w' cb c'→aa_ (fun k=>k=cb) w w'→w'.heap.size=w.heap.size→K w'):Put ((gA (some (⟨cb,0,none⟩:Addr))).add o) v w K:=by
 rw[gA,aq_]
 refine a0_ h (by show 0+o<15;omega) hv fun w1 hb1 hk1 hs1=>hK w1 ?_ hk1 hs1
 have:(cmv c).toArray.setIfInBounds (0+o) v=(cmv c').toArray:=by rw[List.setIfInBounds_toArray,Nat.zero_add,e]
 rw[this] at hb1;exact hb1
theorem IsC.cell (h:IsC w cb c) {o:Nat} {v:Value} (e:(cmv c)[o]?=some v):w.cell? ((gA (some (⟨cb,0,none⟩:Addr))).add o)=some v:=by
 rw[gA,aq_,Blk.cell h,Nat.zero_add,List.getElem?_toArray];exact e
theorem hJ_ {w':World} (hp:Rd w 1 p (bv l)) (hn:∀a,p.A=some a→a.block≠cb) (k:aa_ (fun k=>k=cb) w w'):Rd w' 1 p (bv l):=hp.keep k fun a ha _=>hn a ha
theorem tW_ {R:Int→W_} (h:IsC w cb c) (hp:Rd w 1 p (bv l)) (hn:∀a,p.A=some a→a.block≠cb) (hl:l.length=6∨l.length=10∨l.length=16)
  (hR:∀w',IsC w' cb (ff_ c l).1→aa_ (fun k=>k=cb) w w'→w'.heap.size=w.heap.size→R ((ff_ c l).2:Int) w'):ll_ (some ⟨cb,0,none⟩) p w R:=by
 refine hY_.calls _ _ _ _ ?_
 have hpn:=cV_ hp
 have e6:((p.n:Int)==6)=decide (l.length=6):=by rw[Bool.eq_iff_iff,beq_iff_eq,decide_eq_true_eq];omega
 have e10:((p.n:Int)==10)=decide (l.length=10):=by rw[Bool.eq_iff_iff,beq_iff_eq,decide_eq_true_eq];omega
 unfold hY_
 rw[e6,e10]
 unfold ff_ at hR
 refine a2_ (fun q=>?_) (fun q=>a2_ (fun q2=>?_) (fun q2=>?_))
 ·rw[if_pos q] at hR
  have n3:=nu3 l 1
  have n1:=nu1 l 4
  refine bO_ (at_:=1) (n:=3) hp d_ d_ o_ (bO_ (at_:=4) (n:=1) hp d_ d_ o_ ⟨rfl,?_⟩)
  have ea:bz_ .u64 (nuN l 1 3:Int) 2097151=((nuN l 1 3 &&& 2097151:Nat):Int):=xg_ (m:=2097151) o_ d_
  rw[ea]
  refine h.put {c with lba:=nuN l 1 3 &&& 2097151} rfl d_ rfl fun w1 h1 k1 s1=>⟨rfl,?_⟩
  refine h1.put {c with lba:=nuN l 1 3 &&& 2097151,blocks:=nuN l 4 1} rfl d_ rfl fun w2 h2 k2 s2=>⟨rfl,_,h2.cell rfl,?_⟩
  refine as_ (fun e=>⟨rfl,?_⟩) (fun e=>?_)
  ·have e:nuN l 4 1=0:=Int.ofNat.inj e
   rw[if_pos e] at hR
   exact h2.put {c with lba:=nuN l 1 3 &&& 2097151,blocks:=256} rfl d_ rfl fun w3 h3 k3 s3=>hR w3 h3 ((k1.trans k2 fun _ _ q=>q).trans k3 fun _ _ q=>q) o_
  ·have e:¬nuN l 4 1=0:=fun q=>e (by show((nuN l 4 1:Nat):Int)=0;omega)
   rw[if_neg e] at hR
   exact hR w2 h2 (k1.trans k2 fun _ _ q=>q) o_
 ·rw[if_neg q,if_pos q2] at hR
  refine bO_ (at_:=2) (n:=4) hp d_ d_ o_ (bO_ (at_:=7) (n:=2) hp d_ d_ o_ ⟨rfl,?_⟩)
  refine h.put {c with lba:=nuN l 2 4} rfl d_ rfl fun w1 h1 k1 s1=>⟨rfl,?_⟩
  exact h1.put {c with lba:=nuN l 2 4,blocks:=nuN l 7 2} rfl d_ rfl fun w2 h2 k2 s2=>hR w2 h2 (k1.trans k2 fun _ _ q=>q) o_
 ·rw[if_neg q,if_neg q2] at hR
  refine bO_ (at_:=2) (n:=8) hp d_ d_ o_ (bO_ (at_:=10) (n:=4) hp d_ d_ o_ ⟨rfl,?_⟩)
  refine h.put {c with lba:=nuN l 2 8} rfl d_ rfl fun w1 h1 k1 s1=>⟨rfl,?_⟩
  exact h1.put {c with lba:=nuN l 2 8,blocks:=nuN l 10 4} rfl d_ rfl fun w2 h2 k2 s2=>hR w2 h2 (k1.trans k2 fun _ _ q=>q) o_
theorem sD_ (c:Cm) (p:L8):(ff_ c p).1.kind=c.kind:=by
 unfold ff_
 split
 ·rfl
 ·split<;>rfl
theorem nu_ {w:World} {i:Nat} (hp:Rd w 1 p (bv l)) (hi:i<l.length):p.A.isSome=true∧w.cell? ((gA p.A).add (i*1))=some (.int .u8 (bN l i:Int)):=dC_ hp hi
theorem xh_ {n:Nat}:bK_ .u8 (n:Int) 5=((n/32:Nat):Int):=shr .u8 n 5 d_
theorem neI {a:Nat}:((a:Int) != 0)=decide (a≠0):=by rw[Bool.eq_iff_iff,bne_iff_ne,decide_eq_true_eq];omega
theorem sE_ (h:IsC w cb c) (hp:Rd w 1 p (bv l)) (hn:∀a,p.A=some a→a.block≠cb) (hl:l.length=6∨l.length=10∨l.length=16) (hk:c.kind<256)
  (hR:∀w',IsC w' cb (gm_ c l)→aa_ (fun k=>k=cb) w w'→match qd_ c l with|none=>R (-1) 0 w'|some (f,b)=>R (f:Int) (b:Int) w'):jC_ (some ⟨cb,0,none⟩) p w R:=by
 refine hz_.calls _ _ _ _ (tW_ h hp hn hl fun w1 h1 k1 s1=>?_)
 have hpn:=cV_ hp
 have hkd:=sD_ c l
 refine cu_ (fun u=>IsC u cb (gm_ c l)∧aa_ (fun k=>k=cb) w u) (fun u hu=>?_) (fun J=>?_)
 ·obtain⟨hc,hk2⟩:=hu
  have hR:=hR u hc hk2
  have hpk:(gm_ c l).kind=c.kind:=by
   unfold gm_
   split
   ·unfold l0_;repeat' (first|exact hkd|split)
   ·exact hkd
  refine⟨rfl,_,hc.cell rfl,fun _=>rfl,_,fun _=>hc.cell rfl,fun _=>rfl,_,fun _=>hc.cell rfl,?_⟩
  rw[hpk]
  unfold qd_ at hR
  by_cases q:c.kind≠11∧c.kind≠12∧256<(gm_ c l).blocks
  ·rw[if_pos q] at hR
   refine am_ ?_ hR
   simp only[Bool.and_eq_true,bne_iff_ne,ne_eq,decide_eq_true_eq]
   omega
  ·rw[if_neg q] at hR
   refine aj_ ?_ hR
   rw[Bool.eq_false_iff]
   simp only[Bool.and_eq_true,bne_iff_ne,ne_eq,decide_eq_true_eq]
   omega
 ·have hp1:=hJ_ hp hn k1
  have e6:(decide ((p.n:Int)>6))=decide (6<l.length):=by rw[decide_eq_decide];omega
  rw[e6]
  refine a2_ (fun q=>?_) (fun q=>J w1 ⟨by unfold gm_;rw[if_neg q];exact h1,k1⟩)
  have ep:gm_ c l=l0_ (ff_ c l).1 l:=by unfold gm_;rw[if_pos q]
  rw[ep] at J
  generalize (ff_ c l).1=d at *
  generalize hwx:l0_ d l=dx at J
  unfold l0_ at hwx
  obtain⟨ha,hc⟩:=nu_ hp1 (i:=1) o_
  have hb:=lZ_ l 1
  refine⟨⟨d_,o_,ha⟩,_,hc,rfl,?_⟩
  rw[xh_]
  refine h1.put {d with prot:=bN l 1/32} rfl d_ rfl fun w2 h2 k2 s2=>⟨rfl,(d.kind:Int),h2.cell rfl,?_⟩
  have hp2:=hJ_ hp1 hn k2
  have kw2:=k1.trans k2 fun _ _ q=>q
  obtain⟨_,hc2⟩:=nu_ hp2 (i:=1) o_
  refine bc_ (fun x v=>w2=v∧x=decide (d.kind=7∨d.kind=8)) ?_ (fun J2=>or2 (a:=7) (b:=8) J2)
  rintro x v ⟨rfl,rfl⟩
  have e8:((bz_ .u8 (bN l 1:Int) 8) != 0)=decide (bN l 1 &&& 8≠0):=(congrArg (·!= 0) (js_ hb (m:=8) d_)).trans neI
  have e2:((bz_ .u8 (bN l 1:Int) 2) != 0)=decide (bN l 1 &&& 2≠0):=(congrArg (·!= 0) (js_ hb (m:=2) d_)).trans neI
  refine a2_ (fun q7=>?_) (fun q7=>?_)
  ·rw[if_pos q7] at hwx
   refine⟨⟨d_,o_,ha⟩,_,hc2,rfl,?_⟩
   rw[e8]
   exact h2.put {d with prot:=bN l 1/32,fua:=decide (bN l 1 &&& 8≠0)} rfl d_ rfl fun w3 h3 k3 s3=>J w3 ⟨hwx▸h3,kw2.trans k3 fun _ _ q=>q⟩
  rw[if_neg q7] at hwx
  refine as_ (fun q10=>?_) (fun q10=>as_ (fun q12=>?_) (fun q12=>as_ (fun q11=>?_) (fun q11=>?_)))
  ·rw[if_pos o_] at hwx
   refine⟨⟨d_,o_,ha⟩,_,hc2,rfl,?_⟩
   rw[e2]
   exact h2.put {d with prot:=bN l 1/32,bytes:=decide (bN l 1 &&& 2≠0)} rfl d_ rfl fun w3 h3 k3 s3=>J w3 ⟨hwx▸h3,kw2.trans k3 fun _ _ q=>q⟩
  ·rw[if_neg o_,if_pos o_] at hwx
   refine⟨⟨d_,o_,ha⟩,_,hc2,rfl,?_⟩
   rw[e8]
   exact h2.put {d with prot:=bN l 1/32,unmap:=decide (bN l 1 &&& 8≠0)} rfl d_ rfl fun w3 h3 k3 s3=>J w3 ⟨hwx▸h3,kw2.trans k3 fun _ _ q=>q⟩
  ·rw[if_neg o_,if_neg o_,if_pos o_] at hwx
   exact⟨rfl,h2.put {d with prot:=0} rfl d_ rfl fun w3 h3 k3 s3=>J w3 ⟨hwx▸h3,kw2.trans k3 fun _ _ q=>q⟩⟩
  ·rw[if_neg o_,if_neg o_,if_neg o_] at hwx
   exact J w2 ⟨hwx▸h2,kw2⟩
end
open Go CF
def hK_ (c:Cm) (p:L8) (sv:Nat):Cm×Option (Nat×Nat):=
 if c.kind=2 then({c with alloc:=(bN p 4:Int),long:=decide (bN p 1%2=1)},none)
 else if c.kind=3 then({c with evpd:=decide (bN p 1%2=1),page:=bN p 2,alloc:=(nuN p 3 2:Int)},if ¬bN p 1%2=1∧bN p 2≠0 then some (2,7) else none)
 else if c.kind=4 then({c with long:=decide (p.length=10),alloc:=if p.length=10 then(nuN p 7 2:Int) else(bN p 4:Int),save:=decide (bN p 1%2=1)},if bN p 1 &&& 16=0 then some (1,4) else none)
 else if c.kind=5 then({c with long:=decide (p.length=10),alloc:=if p.length=10 then(nuN p 7 2:Int) else(bN p 4:Int),control:=bN p 2/64,page:=bN p 2 &&& 63},none)
 else if c.kind=6 then({c with long:=decide (p.length=16),alloc:=if p.length=16 then(nuN p 10 4:Int) else c.alloc},none)
 else if 7≤c.kind∧c.kind≤12 then(gm_ c p,qd_ c p)
 else if c.kind=13 then({c with alloc:=(nuN p 7 2:Int)},none)
 else if c.kind=14 then({c with lba:=nuN p 2 8,blocks:=bN p 13,prot:=bN p 1/32,fua:=decide (bN p 1 &&& 8≠0)},none)
 else if c.kind=15 then({c with service:=sv,alloc:=(nuN p 7 2:Int)},none)
 else if c.kind=16 then({c with service:=sv,type:=bN p 2 &&& 15,alloc:=(nuN p 5 4:Int)},none)
 else if c.kind=17 then({c with page:=bN p 2,alloc:=(nuN p 6 4:Int)},if bN p 2=3 then some (2,1) else none)
 else if c.kind=18 then({c with alloc:=(nuN p 10 4:Int)},none)
 else(c,none)
structure o9_ (k n:Nat):Prop where
 a:k=2∨k=3→n=6
 b:k=4∨k=5→n=6∨n=10
 c:k=6→n=10∨n=16
 d:7≤k→k≤12→n=6∨n=10∨n=16
 e:k=13∨k=15∨k=16→n=10
 f:k=14∨k=18→n=16
 g:k=17→n=12
section
variable {w:World} {p:Sl} {l:L8} {cb:Nat} {c:Cm} {sv:Nat}
theorem or6 {op a:Nat} {j:Bool→W_} (J:∀x v,w=v∧x=decide (a≤op∧op≤a+5)→j x v) :
  Br ((op:Int)==(a:Int)) (j ((op:Int)==(a:Int)) w) (Br ((op:Int)==((a+1:Nat):Int)) (j ((op:Int)==((a+1:Nat):Int)) w) (Br ((op:Int)==((a+2:Nat):Int)) (j ((op:Int)==((a+2:Nat):Int)) w) (Br ((op:Int)==((a+3:Nat):Int)) (j ((op:Int)==((a+3:Nat):Int)) w)
   (Br ((op:Int)==((a+4:Nat):Int)) (j ((op:Int)==((a+4:Nat):Int)) w) (j ((op:Int)==((a+5:Nat):Int)) w))))):=by
 by_cases h0:op=a
 ·exact am_ (by rw[beq_iff_eq];omega) (J _ _ ⟨rfl,by rw[Bool.eq_iff_iff,beq_iff_eq,decide_eq_true_eq];omega⟩)
 refine aj_ (by rw[beq_eq_false_iff_ne];omega) ?_
 by_cases h1:op=a+1
 ·exact am_ (by rw[beq_iff_eq];omega) (J _ _ ⟨rfl,by rw[Bool.eq_iff_iff,beq_iff_eq,decide_eq_true_eq];omega⟩)
 refine aj_ (by rw[beq_eq_false_iff_ne];omega) ?_
 by_cases h2:op=a+2
 ·exact am_ (by rw[beq_iff_eq];omega) (J _ _ ⟨rfl,by rw[Bool.eq_iff_iff,beq_iff_eq,decide_eq_true_eq];omega⟩)
 refine aj_ (by rw[beq_eq_false_iff_ne];omega) ?_
 by_cases h3:op=a+3
 ·exact am_ (by rw[beq_iff_eq];omega) (J _ _ ⟨rfl,by rw[Bool.eq_iff_iff,beq_iff_eq,decide_eq_true_eq];omega⟩)
 refine aj_ (by rw[beq_eq_false_iff_ne];omega) ?_
 by_cases h4:op=a+4
 ·exact am_ (by rw[beq_iff_eq];omega) (J _ _ ⟨rfl,by rw[Bool.eq_iff_iff,beq_iff_eq,decide_eq_true_eq];omega⟩)
 exact aj_ (by rw[beq_eq_false_iff_ne];omega) (J _ _ ⟨rfl,by rw[Bool.eq_iff_iff,beq_iff_eq,decide_eq_true_eq];omega⟩)
theorem sF_ {n:Nat} (h:n<256):(bz_ .u8 (n:Int) 1==1)=decide (n%2=1):=by rw[vg_ h,Bool.eq_iff_iff,beq_iff_eq,decide_eq_true_eq];omega
theorem tX_ {R:Int→Int→W_} (h:IsC w cb c) (hp:Rd w 1 p (bv l)) (hn:∀a,p.A=some a→a.block≠cb) (hl:o9_ c.kind l.length) (hk:c.kind<256)
  (hR:∀w',IsC w' cb (hK_ c l sv).1→aa_ (fun k=>k=cb) w w'→match (hK_ c l sv).2 with|none=>R (-1) 0 w'|some (f,b)=>R (f:Int) (b:Int) w'):lj_ (some ⟨cb,0,none⟩) p (sv:Int) w R:=by
 refine ji_.calls _ _ _ _ _ ⟨rfl,(c.kind:Int),h.cell rfl,?_⟩
 have hpn:=cV_ hp
 have B:=fun i=>lZ_ l i
 have by_:∀{u:World} {i:Nat},Rd u 1 p (bv l)→i<l.length→p.A.isSome=true∧u.cell? ((gA p.A).add (i*1))=some (.int .u8 (bN l i:Int)):=fun r hi=>nu_ r hi
 have n2:=fun a=>nu2 l a
 have n4:=fun a=>nu4 l a
 generalize hF:hK_ c l sv=F at hR
 unfold hK_ at hF
 refine as_ (fun q=>?_) (fun q2=>?_)
 ·have q:c.kind=2:=o_
  have hlen:=hl.a (.inl q)
  rw[if_pos q] at hF;subst hF
  obtain⟨ha,hc4⟩:=by_ hp (i:=4) o_
  have:=B 4
  refine⟨⟨d_,o_,ha⟩,_,hc4,rfl,?_⟩
  rw[w64 (n:=(bN l 4:Int)) o_ o_]
  refine h.put {c with alloc:=(bN l 4:Int)} rfl d_ rfl fun w1 h1 k1 s1=>?_
  obtain⟨_,hc1⟩:=by_ (hJ_ hp hn k1) (i:=1) o_
  refine⟨⟨d_,o_,ha⟩,_,hc1,rfl,?_⟩
  rw[sF_ (B 1)]
  exact h1.put {c with alloc:=(bN l 4:Int),long:=decide (bN l 1%2=1)} rfl d_ rfl fun w2 h2 k2 s2=>hR w2 h2 (k1.trans k2 fun _ _ q=>q)
 have q2:c.kind≠2:=o_
 rw[if_neg q2] at hF
 refine as_ (fun q=>?_) (fun q3=>?_)
 ·have q:c.kind=3:=o_
  have hlen:=hl.a (.inr q)
  rw[if_pos q] at hF;subst hF
  rintro u rfl
  have hgd:=ak_ w
  have hpd:=hp.grow hgd
  have hcd:IsC w.drew cb c:=hgd.heap h (fun q=>q)
  have kd:aa_ (fun k=>k=cb) w w.drew:=hgd.mono fun _ _ q=>q.elim
  generalize w.drew=u at *
  obtain⟨ha,hc1⟩:=by_ hpd (i:=1) o_
  obtain⟨_,hc2⟩:=by_ hpd (i:=2) o_
  have:=n2 3
  refine⟨fun o=>o=u,rfl,⟨d_,o_,ha⟩,_,fun o e=>by rw[e];exact hc1,⟨d_,o_,ha⟩,_,fun o e=>by rw[e];exact hc2,bO_ (at_:=3) (n:=2) hpd d_ d_ o_ ⟨rfl,rfl,?_⟩⟩
  rw[sF_ (B 1)]
  refine hcd.put {c with evpd:=decide (bN l 1%2=1)} rfl d_ rfl fun w1 h1 k1 s1=>⟨rfl,?_⟩
  refine h1.put {c with evpd:=decide (bN l 1%2=1),page:=bN l 2} rfl d_ rfl fun w2 h2 k2 s2=>⟨rfl,?_⟩
  rw[w64 (n:=(nuN l 3 2:Int)) o_ o_]
  refine h2.put {c with evpd:=decide (bN l 1%2=1),page:=bN l 2,alloc:=(nuN l 3 2:Int)} rfl d_ rfl fun w3 h3 k3 s3=>⟨rfl,decide (bN l 1%2=1),h3.cell rfl,fun _=>rfl,(bN l 2:Int),fun _=>h3.cell rfl,?_⟩
  have hR:=hR w3 h3 (((kd.trans k1 fun _ _ q=>q).trans k2 fun _ _ q=>q).trans k3 fun _ _ q=>q)
  dsimp only at hR
  by_cases z:¬bN l 1%2=1∧bN l 2≠0
  ·rw[if_pos z] at hR
   refine am_ ?_ hR
   simp only[Bool.and_eq_true,Bool.not_eq_true',decide_eq_false_iff_not,bne_iff_ne,ne_eq]
   omega
  ·rw[if_neg z] at hR
   refine aj_ ?_ hR
   rw[Bool.eq_false_iff]
   simp only[Bool.and_eq_true,Bool.not_eq_true',decide_eq_false_iff_not,bne_iff_ne,ne_eq]
   omega
 have q3:c.kind≠3:=o_
 rw[if_neg q3] at hF
 refine bc_ (fun x v=>w=v∧x=decide (c.kind=4∨c.kind=5)) ?_ (fun J=>or2 (a:=4) (b:=5) J)
 rintro x v ⟨rfl,rfl⟩
 refine a2_ (fun q=>?_) (fun q45=>?_)
 ·have hlen:=hl.b q
  have e10:((p.n:Int)==10)=decide (l.length=10):=by rw[Bool.eq_iff_iff,beq_iff_eq,decide_eq_true_eq];omega
  rw[e10]
  refine⟨rfl,h.put {c with long:=decide (l.length=10)} rfl d_ rfl fun w1 h1 k1 s1=>?_⟩
  have hp1:=hJ_ hp hn k1
  obtain⟨ha,hc4⟩:=by_ hp1 (i:=4) o_
  have:=B 4
  refine⟨⟨d_,o_,ha⟩,_,hc4,rfl,?_⟩
  rw[w64 (n:=(bN l 4:Int)) o_ o_]
  refine h1.put {c with long:=decide (l.length=10),alloc:=(bN l 4:Int)} rfl d_ rfl fun w2 h2 k2 s2=>⟨rfl,decide (l.length=10),h2.cell rfl,?_⟩
  have hp2:=hJ_ hp1 hn k2
  generalize hd:({c with long:=decide (l.length=10),alloc:=if l.length=10 then(nuN l 7 2:Int) else(bN l 4:Int)}:Cm)=d at *
  have dk:d.kind=c.kind:=by rw[←hd]
  refine cu_ (fun u=>IsC u cb d∧aa_ (fun k=>k=cb) w u) (fun u hu=>?_) (fun J=>?_)
  ·obtain⟨hcu,hku⟩:=hu
   have hpu:=hJ_ hp hn hku
   refine⟨rfl,(d.kind:Int),hcu.cell rfl,?_⟩
   rw[dk]
   refine as_ (fun q5=>?_) (fun q5=>?_)
   ·have q5:c.kind=5:=o_
    rw[if_neg o_,if_pos q5] at hF;subst hF
    rintro u' rfl
    have hgd:=ak_ u
    have hpd:=hpu.grow hgd
    have hcd:IsC u.drew cb d:=hgd.heap hcu (fun q=>q)
    have kd:aa_ (fun k=>k=cb) w u.drew:=hku.grow hgd
    generalize u.drew=u' at *
    obtain⟨_,hc2⟩:=by_ hpd (i:=2) o_
    refine⟨fun o=>o=u',rfl,⟨d_,o_,ha⟩,_,fun o e=>by rw[e];exact hc2,⟨d_,o_,ha⟩,_,fun o e=>by rw[e];exact hc2,rfl,?_⟩
    have e6:bK_ .u8 (bN l 2:Int) 6=((bN l 2/64:Nat):Int):=shr .u8 _ 6 d_
    have e63:bz_ .u8 (bN l 2:Int) 63=((bN l 2 &&& 63:Nat):Int):=js_ (B 2) (m:=63) d_
    rw[e6,e63]
    refine hcd.put {d with control:=bN l 2/64} rfl d_ rfl fun w3 h3 k3 s3=>⟨rfl,?_⟩
    exact h3.put {d with control:=bN l 2/64,page:=bN l 2 &&& 63} rfl d_ rfl fun w4 h4 k4 s4=>hR w4 (by rw[←hd] at h4;exact h4) ((kd.trans k3 fun _ _ q=>q).trans k4 fun _ _ q=>q)
   ·rw[if_pos o_] at hF;subst hF
    obtain⟨_,hc1⟩:=by_ hpu (i:=1) o_
    refine⟨⟨d_,o_,ha⟩,_,hc1,rfl,?_⟩
    rw[sF_ (B 1)]
    refine hcu.put {d with save:=decide (bN l 1%2=1)} rfl d_ rfl fun w3 h3 k3 s3=>?_
    obtain⟨_,hc1'⟩:=by_ (hJ_ hpu hn k3) (i:=1) o_
    refine⟨⟨d_,o_,ha⟩,_,hc1',?_⟩
    have e16:bz_ .u8 (bN l 1:Int) 16=((bN l 1 &&& 16:Nat):Int):=js_ (B 1) (m:=16) d_
    rw[e16]
    have hR:=hR w3 (by rw[←hd] at h3;exact h3) (hku.trans k3 fun _ _ q=>q)
    dsimp only at hR
    refine as_ (fun z=>?_) (fun z=>?_)
    ·rw[if_pos o_] at hR;exact hR
    ·rw[if_neg o_] at hR;exact hR
  ·refine a2_ (fun q10=>?_) (fun q10=>?_)
   ·have:=n2 7
    refine bO_ (at_:=7) (n:=2) hp2 d_ d_ o_ ⟨rfl,?_⟩
    rw[w64 (n:=(nuN l 7 2:Int)) o_ o_]
    refine h2.put {c with long:=decide (l.length=10),alloc:=(nuN l 7 2:Int)} rfl d_ rfl fun w3 h3 k3 s3=>J w3 ⟨?_,(k1.trans k2 fun _ _ q=>q).trans k3 fun _ _ q=>q⟩
    rw[←hd,if_pos q10];exact h3
   ·refine J w2 ⟨?_,k1.trans k2 fun _ _ q=>q⟩
    rw[←hd,if_neg q10];exact h2
 rw[if_neg (fun q=>q45 (.inl q)),if_neg (fun q=>q45 (.inr q))] at hF
 refine as_ (fun q=>?_) (fun q6=>?_)
 ·have q:c.kind=6:=o_
  have hlen:=hl.c q
  rw[if_pos q] at hF;subst hF
  have e16:((p.n:Int)==16)=decide (l.length=16):=by rw[Bool.eq_iff_iff,beq_iff_eq,decide_eq_true_eq];omega
  rw[e16]
  refine⟨rfl,h.put {c with long:=decide (l.length=16)} rfl d_ rfl fun w1 h1 k1 s1=>⟨rfl,decide (l.length=16),h1.cell rfl,?_⟩⟩
  refine a2_ (fun z=>?_) (fun z=>?_)
  ·have:=n4 10
   refine bO_ (at_:=10) (n:=4) (hJ_ hp hn k1) d_ d_ o_ ⟨rfl,?_⟩
   rw[w64 (n:=(nuN l 10 4:Int)) o_ o_]
   refine h1.put {c with long:=decide (l.length=16),alloc:=(nuN l 10 4:Int)} rfl d_ rfl fun w2 h2 k2 s2=>hR w2 ?_ (k1.trans k2 fun _ _ q=>q)
   rw[if_pos z];exact h2
  ·refine hR w1 ?_ k1
   rw[if_neg z];exact h1
 rw[if_neg o_] at hF
 refine bc_ (fun x v=>w=v∧x=decide (7≤c.kind∧c.kind≤7+5)) ?_ (fun J=>or6 (a:=7) J)
 rintro x v ⟨rfl,rfl⟩
 refine a2_ (fun q=>?_) (fun q7=>?_)
 ·rw[if_pos o_] at hF;subst hF
  exact sE_ h hp hn (hl.d q.1 q.2) hk hR
 rw[if_neg o_] at hF
 refine as_ (fun q=>?_) (fun q13=>?_)
 ·have hlen:=hl.e (.inl o_)
  rw[if_pos o_] at hF;subst hF
  have:=n2 7
  refine bO_ (at_:=7) (n:=2) hp d_ d_ o_ ⟨rfl,?_⟩
  rw[w64 (n:=(nuN l 7 2:Int)) o_ o_]
  exact h.put {c with alloc:=(nuN l 7 2:Int)} rfl d_ rfl fun w1 h1 k1 s1=>hR w1 h1 k1
 rw[if_neg o_] at hF
 have drw:∀{K:W_},(∀u,IsC u cb c→Rd u 1 p (bv l)→aa_ (fun k=>k=cb) w u→K u)→∀u,u=w.drew→K u:=fun hK u e=>by
  subst e
  exact hK _ ((ak_ w).heap h (fun q=>q)) (hp.grow (ak_ w)) ((ak_ w).mono fun _ _ q=>q.elim)
 refine as_ (fun q=>?_) (fun q14=>?_)
 ·have hlen:=hl.f (.inl o_)
  rw[if_pos o_] at hF;subst hF
  refine drw fun u hcu hpu ku=>?_
  obtain⟨ha,hc13⟩:=by_ hpu (i:=13) o_
  have:=B 13
  refine⟨fun o=>o=u,rfl,⟨d_,o_,ha⟩,_,fun o e=>by rw[e];exact hc13,bO_ (at_:=2) (n:=8) hpu d_ d_ o_ ⟨rfl,rfl,?_⟩⟩
  refine hcu.put {c with lba:=nuN l 2 8} rfl d_ rfl fun w1 h1 k1 s1=>⟨rfl,?_⟩
  rw[h3_ (n:=(bN l 13:Int)) o_ o_]
  refine h1.put {c with lba:=nuN l 2 8,blocks:=bN l 13} rfl d_ rfl fun w2 h2 k2 s2=>?_
  rintro u2 rfl
  have hgd:=ak_ w2
  have hpd:=(hJ_ (hJ_ hpu hn k1) hn k2).grow hgd
  have hcd:IsC w2.drew cb _:=hgd.heap h2 (fun q=>q)
  have kd:aa_ (fun k=>k=cb) w w2.drew:=((ku.trans k1 fun _ _ q=>q).trans k2 fun _ _ q=>q).grow hgd
  generalize w2.drew=u2 at *
  obtain⟨_,hc1⟩:=by_ hpd (i:=1) o_
  refine⟨fun o=>o=u2,rfl,⟨d_,o_,ha⟩,_,fun o e=>by rw[e];exact hc1,⟨d_,o_,ha⟩,_,fun o e=>by rw[e];exact hc1,rfl,?_⟩
  have e8:((bz_ .u8 (bN l 1:Int) 8) != 0)=decide (bN l 1 &&& 8≠0):=(congrArg (·!= 0) (js_ (B 1) (m:=8) d_)).trans neI
  rw[xh_,e8]
  refine hcd.put {c with lba:=nuN l 2 8,blocks:=bN l 13,prot:=bN l 1/32} rfl d_ rfl fun w3 h3 k3 s3=>⟨rfl,?_⟩
  exact h3.put {c with lba:=nuN l 2 8,blocks:=bN l 13,prot:=bN l 1/32,fua:=decide (bN l 1 &&& 8≠0)} rfl d_ rfl fun w4 h4 k4 s4=>hR w4 h4 ((kd.trans k3 fun _ _ q=>q).trans k4 fun _ _ q=>q)
 rw[if_neg o_] at hF
 refine as_ (fun q=>?_) (fun q15=>?_)
 ·have hlen:=hl.e (.inr (.inl o_))
  rw[if_pos o_] at hF;subst hF
  have:=n2 7
  refine bO_ (at_:=7) (n:=2) hp d_ d_ o_ ⟨rfl,?_⟩
  refine h.put {c with service:=sv} rfl d_ rfl fun w1 h1 k1 s1=>⟨rfl,?_⟩
  rw[w64 (n:=(nuN l 7 2:Int)) o_ o_]
  exact h1.put {c with service:=sv,alloc:=(nuN l 7 2:Int)} rfl d_ rfl fun w2 h2 k2 s2=>hR w2 h2 (k1.trans k2 fun _ _ q=>q)
 rw[if_neg o_] at hF
 refine as_ (fun q=>?_) (fun q16=>?_)
 ·have hlen:=hl.e (.inr (.inr o_))
  rw[if_pos o_] at hF;subst hF
  refine drw fun u hcu hpu ku=>?_
  obtain⟨ha,hc2⟩:=by_ hpu (i:=2) o_
  have:=n4 5
  refine⟨fun o=>o=u,rfl,⟨d_,o_,ha⟩,_,fun o e=>by rw[e];exact hc2,bO_ (at_:=5) (n:=4) hpu d_ d_ o_ ⟨rfl,rfl,?_⟩⟩
  have e15:bz_ .u8 (bN l 2:Int) 15=((bN l 2 &&& 15:Nat):Int):=js_ (B 2) (m:=15) d_
  rw[e15]
  refine hcu.put {c with service:=sv} rfl d_ rfl fun w1 h1 k1 s1=>⟨rfl,?_⟩
  refine h1.put {c with service:=sv,type:=bN l 2 &&& 15} rfl d_ rfl fun w2 h2 k2 s2=>⟨rfl,?_⟩
  rw[w64 (n:=(nuN l 5 4:Int)) o_ o_]
  exact h2.put {c with service:=sv,type:=bN l 2 &&& 15,alloc:=(nuN l 5 4:Int)} rfl d_ rfl fun w3 h3 k3 s3=>hR w3 h3 (((ku.trans k1 fun _ _ q=>q).trans k2 fun _ _ q=>q).trans k3 fun _ _ q=>q)
 rw[if_neg o_] at hF
 refine as_ (fun q=>?_) (fun q17=>?_)
 ·have hlen:=hl.g o_
  rw[if_pos o_] at hF;subst hF
  refine drw fun u hcu hpu ku=>?_
  obtain⟨ha,hc2⟩:=by_ hpu (i:=2) o_
  have:=n4 6
  refine⟨fun o=>o=u,rfl,⟨d_,o_,ha⟩,_,fun o e=>by rw[e];exact hc2,bO_ (at_:=6) (n:=4) hpu d_ d_ o_ ⟨rfl,rfl,?_⟩⟩
  refine hcu.put {c with page:=bN l 2} rfl d_ rfl fun w1 h1 k1 s1=>⟨rfl,?_⟩
  rw[w64 (n:=(nuN l 6 4:Int)) o_ o_]
  refine h1.put {c with page:=bN l 2,alloc:=(nuN l 6 4:Int)} rfl d_ rfl fun w2 h2 k2 s2=>⟨rfl,(bN l 2:Int),h2.cell rfl,?_⟩
  have hR:=hR w2 h2 ((ku.trans k1 fun _ _ q=>q).trans k2 fun _ _ q=>q)
  dsimp only at hR
  refine as_ (fun z=>?_) (fun z=>?_)
  ·rw[if_pos o_] at hR;exact hR
  ·rw[if_neg o_] at hR;exact hR
 rw[if_neg o_] at hF
 refine as_ (fun q=>?_) (fun q18=>?_)
 ·have hlen:=hl.f (.inr o_)
  rw[if_pos o_] at hF;subst hF
  have:=n4 10
  refine bO_ (at_:=10) (n:=4) hp d_ d_ o_ ⟨rfl,?_⟩
  rw[w64 (n:=(nuN l 10 4:Int)) o_ o_]
  exact h.put {c with alloc:=(nuN l 10 4:Int)} rfl d_ rfl fun w1 h1 k1 s1=>hR w1 h1 k1
 rw[if_neg o_] at hF
 subst hF
 exact hR w h (aa_.refl _ _)
end
open Go CF
def sG_ (k n:Nat):Bool:=(!(k==2||k==3)||n==6)&&(!(k==4||k==5)||(n==6||n==10))&&(!(k==6)||(n==10||n==16))&&(!(Nat.ble 7 k&&Nat.ble k 12)||(n==6||n==10||n==16))&&(!(k==13||k==15||k==16)||n==10)&&(!(k==14||k==18)||n==16)&&(!(k==17)||n==12)
theorem o9_.of {k n:Nat} (h:sG_ k n=true):o9_ k n:=by
 unfold sG_ at h
 simp only[Bool.and_eq_true,Bool.or_eq_true,Bool.not_eq_true',Bool.or_eq_false_iff,beq_eq_false_iff_ne,beq_iff_eq,Nat.ble_eq,Bool.and_eq_false_iff,ne_eq] at h
 obtain⟨⟨⟨⟨⟨⟨a,b⟩,c⟩,d⟩,e⟩,f⟩,g⟩:=h
 have bl:∀x y:Nat,Nat.ble x y=false→¬x≤y:=fun x y q r=>by rw[Nat.ble_eq_true_of_le r] at q;cases q
 have d:(¬7≤k∨¬k≤12)∨n=6∨n=10∨n=16:=by
  rcases d with(d|d)|d
  ·exact .inl (.inl (bl _ _ d))
  ·exact .inl (.inr (bl _ _ d))
  ·omega
 exact⟨o_,o_,o_,o_,o_,o_,o_⟩
theorem vh_ {op sv:Nat} {m:L8} {b:Bool} (h:hI_ op sv=some (m,b)):sG_ (gl_ op) m.length=true:=
 nt_ (P:=fun op m=>sG_ (gl_ op) m.length=true) h rfl rfl rfl rfl rfl rfl rfl rfl rfl rfl rfl rfl rfl rfl rfl rfl rfl rfl rfl rfl rfl rfl rfl rfl rfl rfl rfl
theorem tY_ {op sv:Nat} {m:L8} {b:Bool} (h:hI_ op sv=some (m,b)):6≤m.length∧m.length≤16:=
 nt_ (P:=fun _ m=>6≤m.length∧m.length≤16) h ⟨d_,d_⟩ ⟨d_,d_⟩ ⟨d_,d_⟩ ⟨d_,d_⟩ ⟨d_,d_⟩ ⟨d_,d_⟩ ⟨d_,d_⟩ ⟨d_,d_⟩ ⟨d_,d_⟩ ⟨d_,d_⟩ ⟨d_,d_⟩ ⟨d_,d_⟩ ⟨d_,d_⟩ ⟨d_,d_⟩ ⟨d_,d_⟩ ⟨d_,d_⟩ ⟨d_,d_⟩ ⟨d_,d_⟩ ⟨d_,d_⟩ ⟨d_,d_⟩ ⟨d_,d_⟩ ⟨d_,d_⟩ ⟨d_,d_⟩ ⟨d_,d_⟩ ⟨d_,d_⟩ ⟨d_,d_⟩ ⟨d_,d_⟩
theorem vW_ {p:Prop} [Decidable p] {a b n:Nat} (ha:a<n) (hb:b<n):(if p then a else b)<n:=by split<;>assumption
theorem vi_ (op:Nat):gl_ op<256:=by
 unfold gl_
 repeat' (first|exact vW_ d_ d_|refine vW_ d_ ?_)
def c0C:Cm:=⟨0,false,0,0,0,false,0,false,false,0,0,false,0,0,false⟩
def kQ_ (f b:Int):Sn:=⟨5,9216,0,false,f,b,true,true⟩
def opS:Sn:=⟨5,8192,0,false,0,7,true,true⟩
def svd (op:Nat):Bool:=op==94||op==95||op==131||op==158
def iT_ (p:L8):Nat:=if svd (bN p 0) then bN p 1 &&& 31 else 0
def pa_ (op:Nat) (q:L8) (sv:Nat):Cm×Sn×Bool:=match (hK_ {c0C with kind:=gl_ op} q sv).2 with
 | some (f,b)=>(c0C,kQ_ f b,false)
 | none=>((hK_ {c0C with kind:=gl_ op} q sv).1,sn0,true)
def aP_ (p:L8):Cm×Sn×Bool:=
 if p = [] then(c0C,kQ_ 0 (-1),false)
 else if svd (bN p 0)=true∧p.length<2 then(c0C,kQ_ 1 (-1),false)
 else match hI_ (bN p 0) (iT_ p) with
  | none=>(c0C,opS,false)
  | some (m,ok)=>
   if p.length<m.length then(c0C,kQ_ p.length (-1),false)
   else match fR_ (p.take m.length) m 0 with
    | some (i,b)=>(c0C,kQ_ i b,false)
    | none=>if ok=false then(c0C,kQ_ 1 4,false) else pa_ (bN p 0) (p.take m.length) (iT_ p)
section
variable {w:World} {p:Sl} {l:L8}
theorem eI_ {f b:Int} {R:A_→W_} (h:∀w',ab_ w w'→R (snv (kQ_ f b)).toArray w'):cT_ f b w R:=by
 refine il_.calls _ _ _ _ (ag_ fun ab w1 hab hb1 hg1 hsz1=>?_)
 refine ap_ (cells:=(snv (kQ_ f b)).toArray) hb1 aV_ rfl rfl (by simp[snv,Value.oneCell']) fun w2 hb2 hk2 hs2=>⟨_,aE_ eU_ aV_ rfl (ar_ hb2),h w2 (hg1.keep hk2 fun i hi q=>o_)⟩
theorem yh_ {R:A_→A_→Bool→W_} {u:World} {ab sb:Nat} {x y:A_} {c:Cm} {s:Sn} {b:Bool} (hg:ab_ w u) (ha:Blk u ab x aD_) (hs:Blk u sb y av_) (xs:x.size=15) (ys:y.size=8) (la:w.heap.size≤ab) (ls:w.heap.size≤sb)
  (hR:∀w',ab_ w w'→R (cmv c).toArray (snv s).toArray b w'):ah_ Tryz.prog (storeVar aD_ ⟨ab,0,none⟩ (.agg (cmv c).toArray)) u fun w1=>ah_ Tryz.prog (storeVar av_ ⟨sb,0,none⟩ (.agg (snv s).toArray)) w1 fun w2=>
   ∃res:A_,(loadVar aD_ ⟨ab,0,none⟩).run Tryz.prog w2=.ok (.agg res) w2∧∃res1:A_,(loadVar av_ ⟨sb,0,none⟩).run Tryz.prog w2=.ok (.agg res1) w2∧R res res1 b w2:=by
 have ne:ab≠sb:=fun q=>by subst q;exact absurd (bq_ ha hs) d_
 refine ap_ (cells:=(cmv c).toArray) ha gI_ rfl xs (by simp[cmv,Value.oneCell']) fun w1 h1 k1 s1=>?_
 have hs1:=k1.heap hs (fun q=>ne q.symm)
 refine ap_ (cells:=(snv s).toArray) hs1 aV_ rfl ys (by simp[snv,Value.oneCell']) fun w2 h2 k2 s2=>?_
 have h12:=k2.heap h1 (fun q=>ne q)
 exact⟨_,aE_ om_ gI_ rfl (ar_ h12),_,aE_ eU_ aV_ rfl (ar_ h2),hR w2 ((hg.keep k1 fun i hi q=>o_).keep k2 fun i hi q=>o_)⟩
theorem oC_ {R:A_→A_→Bool→W_} (hp:Rd w 1 p (bv l)) (hR:∀w',ab_ w w'→R (cmv (aP_ l).1).toArray (snv (aP_ l).2.1).toArray (aP_ l).2.2 w'):kl_ p w R:=by
 refine ik_.calls _ _ _ ?_
 have hpn:=cV_ hp
 have hcap:=hp.cap
 have hnb:=hp.nb
 refine ag_ fun ab w1 hab ha1 hg1 hsz1=>ag_ fun sb w2 hsb hs2 hg2 hsz2=>?_
 have ha2:=hg2.heap ha1 (fun q=>q)
 have hg12:=hg1.trans hg2
 generalize hX:aP_ l=X at hR
 obtain⟨xc,xs,xb⟩:=X
 unfold aP_ at hX
 have ext:∀{c:Cm} {s:Sn} {b:Bool} {u:World},(c,s,b)=(xc,xs,xb)→ab_ w2 u→ah_ Tryz.prog (storeVar aD_ ⟨ab,0,none⟩ (.agg (cmv c).toArray)) u fun w1=>ah_ Tryz.prog (storeVar av_ ⟨sb,0,none⟩ (.agg (snv s).toArray)) w1 fun w2=>
   ∃res:A_,(loadVar aD_ ⟨ab,0,none⟩).run Tryz.prog w2=.ok (.agg res) w2∧∃res1:A_,(loadVar av_ ⟨sb,0,none⟩).run Tryz.prog w2=.ok (.agg res1) w2∧R res res1 b w2:=fun {c s b u} e g=>by
  injection e with e1 e;injection e with e2 e3
  subst e1;subst e2;subst e3
  exact yh_ (hg12.trans g) (g.heap ha2 (fun q=>q)) (g.heap hs2 (fun q=>q)) rfl rfl o_ (by have:=hg1.size;omega) hR
 have e0:((p.n:Int)==0)=decide (l = []):=by rw[Bool.eq_iff_iff,beq_iff_eq,decide_eq_true_eq,←List.length_eq_zero_iff];omega
 rw[e0]
 refine a2_ (fun q=>?_) (fun q=>?_)
 ·rw[if_pos q] at hX
  exact eI_ fun u g=>ext (c:=c0C) hX g
 rw[if_neg q] at hX
 have hl1:1≤l.length:=by have:=List.length_pos_iff.2 q;omega
 have hp2:=hp.grow hg12
 obtain⟨ha,hc0⟩:=nu_ hp2 (i:=0) o_
 refine⟨⟨d_,o_,ha⟩,_,hc0,?_⟩
 have hop:=lZ_ l 0
 have esv:((((((bN l 0:Nat):Int)==94)||(((bN l 0:Nat):Int)==95))||(((bN l 0:Nat):Int)==131))||(((bN l 0:Nat):Int)==158))=svd (bN l 0):=by
  unfold svd
  have e:∀k:Nat,(((bN l 0:Nat):Int)==(k:Int))=(bN l 0==k):=fun k=>by rw[Bool.eq_iff_iff,beq_iff_eq,beq_iff_eq];omega
  rw[←e 94,←e 95,←e 131,←e 158]
  rfl
 rw[esv]
 refine bc_ (fun sv u=>u=w2∧sv=(iT_ l:Int)∧¬(svd (bN l 0)=true∧l.length<2)) ?_ (fun J=>?_)
 ·rintro sv u ⟨rfl,rfl,hns⟩
  rw[if_neg hns] at hX
  refine sC_ fun ms ok v hgv hm=>?_
  cases hmx:hI_ (bN l 0) (iT_ l) with
  | none=>
   rw[hmx] at hX hm
   obtain⟨rfl,rfl⟩:=hm
   exact am_ rfl (ext (c:=c0C) (s:=opS) hX hgv)
  | some mo=>
   obtain⟨m,okm⟩:=mo
   rw[hmx] at hX hm
   obtain⟨hmr,hmA,rfl⟩:=hm
   dsimp only at hX
   have hmn:=cV_ hmr
   have hms:=tY_ hmx
   refine aj_ (by cases hA:ms.A with|none=>rw[hA] at hmA;cases hmA|some a=>rfl) ?_
   have elt:(decide ((p.n:Int)<(ms.n:Int)))=decide (l.length<m.length):=by rw[decide_eq_decide];omega
   rw[elt]
   refine a2_ (fun q=>?_) (fun q=>?_)
   ·rw[if_pos q] at hX
    rw[←hpn]
    exact eI_ fun u g=>ext (c:=c0C) hX (hgv.trans g)
   rw[if_neg q] at hX
   have hpv:=hp2.grow hgv
   have hcut:Rd v 1 ⟨aM_ p.A p.c 0 1,((ms.n:Int).toNat-0),p.c-0⟩ (bv (l.take m.length)):=by
    have:=hpv.cutB (l:=0) (k:=m.length) (Nat.zero_le _) o_
    rw[List.drop_zero,Nat.sub_zero] at this
    have e:((ms.n:Int).toNat-0)=m.length:=o_
    rw[e];exact this
   refine⟨⟨o_,o_,o_,hcap⟩,qc_ hcut hmr ?_⟩
   cases hox:fR_ (l.take m.length) m 0 with
   | some ib=>
    obtain⟨i,b⟩:=ib
    rw[hox] at hX
    dsimp only at hX ⊢
    refine am_ (by rw[decide_eq_true_eq];omega) ?_
    exact eI_ fun u g=>ext (c:=c0C) hX (hgv.trans g)
   | none=>
    rw[hox] at hX
    dsimp only at hX ⊢
    refine aj_ rfl ?_
    cases ok with
    | false=>
     rw[if_pos rfl] at hX
     exact am_ rfl (eI_ fun u g=>ext (c:=c0C) hX (hgv.trans g))
    | true=>
     rw[if_neg d_] at hX
     refine aj_ rfl (q7_ (ag_ fun cb w3 hcb hc3 hg3 hsz3=>?_))
     refine ap_ (cells:=(cmv {c0C with kind:=gl_ (bN l 0)}).toArray) hc3 gI_ rfl rfl (by simp[cmv,Value.oneCell']) fun w4 hc4 hk4 hs4=>?_
     have hg4:ab_ v w4:=hg3.keep hk4 fun i hi q=>o_
     have hcutb:∀a,aM_ p.A p.c 0 1=some a→a.block≠cb:=fun a hac q=>by
      have hne:bv (l.take m.length)≠[]:=fun e=>by
       have:=congrArg List.length e
       rw[az_,List.length_take,List.length_nil] at this;omega
      obtain⟨a',ha',hcl⟩:=hcut.at_ hne
      have:aM_ p.A p.c 0 1=some a':=ha'
      rw[this] at hac;injection hac with hac
      subst hac
      have:=lO_ (hcl 0 _ (List.getElem?_eq_getElem (by rw[az_,List.length_take];omega)))
      rw[hT_] at this
      omega
     have hlen:(l.take m.length).length=m.length:=by rw[List.length_take];omega
     refine tX_ (c:={c0C with kind:=gl_ (bN l 0)}) hc4 (hcut.grow hg4) hcutb (o9_.of (by rw[hlen];exact vh_ hmx)) (vi_ _) fun w5 hc5 hk5=>?_
     have hg5:ab_ v w5:=hg4.keep hk5 fun i hi q=>o_
     have hX:pa_ (bN l 0) (l.take m.length) (iT_ l)=(xc,xs,xb):=hX
     unfold pa_ at hX
     cases hf:(hK_ {c0C with kind:=gl_ (bN l 0)} (l.take m.length) (iT_ l)).2 with
     | some fb=>
      obtain⟨f,b⟩:=fb
      rw[hf] at hX
      refine am_ (by rw[decide_eq_true_eq];omega) ?_
      exact eI_ fun u g=>ext (c:=c0C) hX ((hgv.trans hg5).trans g)
     | none=>
      rw[hf] at hX
      dsimp only at hX
      generalize (hK_ {c0C with kind:=gl_ (bN l 0)} (l.take m.length) (iT_ l)).1=d at hc5 hX
      refine aj_ rfl ⟨_,lW_ (c:=d) (ar_ hc5),?_⟩
      exact ext (c:=d) (s:=sn0) hX (hgv.trans hg5)
 ·cases hsv:svd (bN l 0) with
  | true=>
   refine am_ rfl ?_
   have e2:(decide ((p.n:Int)<2))=decide (l.length<2):=by rw[decide_eq_decide];omega
   rw[e2]
   refine a2_ (fun q=>?_) (fun q=>?_)
   ·rw[if_pos ⟨hsv,q⟩] at hX
    exact eI_ fun u g=>ext (c:=c0C) hX g
   ·obtain⟨_,hc1⟩:=nu_ hp2 (i:=1) o_
    refine⟨⟨d_,o_,ha⟩,_,hc1,J _ _ ⟨rfl,?_,fun r=>q r.2⟩⟩
    unfold iT_
    rw[hsv,if_pos rfl]
    exact js_ (lZ_ l 1) (m:=31) d_
  | false=>
   refine aj_ rfl (J _ _ ⟨rfl,?_,fun r=>by rw[hsv] at r;exact absurd r.1 d_⟩)
   unfold iT_
   rw[hsv];rfl
end
open Go CF
inductive pb_ where
 | bad (s:Sn)
 | told (c:Nat)
 | conflict
 | prot
 | run (c:Cm)
def fM_ (k:Nat):Bool:=k==3||k==17||k==2
def cc_ (s:USt) (n:Nat) (l:L8):pb_:=
 if (aP_ l).2.2=false then .bad (aP_ l).2.1
 else match cD_ (s.q n),fM_ (aP_ l).1.kind with
  | some c,false=>.told c
  | _,_=>if bN_ s.tab n (fs_ (aP_ l).1.kind)=true then .conflict else if (eY_ (aP_ l).1.kind&&s.now.swp)=true then .prot else .run (aP_ l).1
def ao_ (s:USt):USt:={s with count:=s.count+1}
def bA_ (s:USt) (n:Nat):USt:={s with q:=fun t=>if t=n then fL_ (s.q n) else s.q t}
def cW_ (ab:Nat) (R:A_→W_) (g:A_) (v:World):Prop:=ah_ Tryz.prog (storeVar ad_ ⟨ab,0,none⟩ (.agg g)) v fun w'=>∃res:A_,(loadVar ad_ ⟨ab,0,none⟩).run Tryz.prog w'=.ok (.agg res) w'∧R res w'
section
variable {w u v:World} {N N' S:Nat→Prop} {pw i n:Nat} {a:UA} {s s1:USt} {st st1:Wst} {F:Int→Bool} {ℓ ℓ':Nat→Option Nat} {us:List (UA×USt)} {p out:Sl} {l:L8}
theorem eJ_ {t:TypeId} (h1:t≠cq_) (h2:t≠ax_) (h3:t≠aL_):¬kN_ t:=fun q=>by
 rcases q with q|q|q
 ·exact h1 q
 ·exact h2 q
 ·exact h3 q
theorem Sys.fresh (H:Sys w ℓ pw st F us) {b:Nat} (hb:w.heap.size≤b):ℓ b=none:=by
 cases hq:ℓ b with
 | none=>rfl
 | some x=>have:=H.lt b (by rw[hq];exact Option.some_ne_none _);omega
theorem Sys.local1 (H:Sys u ℓ pw st F us) {b:Nat} {cs:A_} {t:TypeId} (hb:Blk u b cs t) (hn:ℓ b=none) (k:aa_ (fun k=>k=b) u v) (ht:¬kN_ t) (ht2:t≠ae_):Sys v ℓ pw st F us:=H.loc k (o8_.one hb hn ht ht2)
theorem cW_.of {ab x:Nat} {sn:Sn} {d:Sl} {cs:A_} {R:A_→W_} (hb:Blk v ab cs ad_) (hs:cs.size=10) (h:∀v',aa_ (fun k=>k=ab) v v'→R (rsv x sn d).toArray v'):cW_ ab R (rsv x sn d).toArray v:=bL_ hb hs h
theorem cW_.sys {ab x:Nat} {sn:Sn} {d:Sl} {cs:A_} {R:A_→W_} (H:Sys v ℓ pw st F us) (hm:Mv w v ℓ' ℓ) (hw:w.heap.size≤ab) (hn:ℓ ab=none) (hb:Blk v ab cs ad_) (hs:cs.size=10)
  (h:∀v',aa_ (fun k=>k=ab) v v'→Mv w v' ℓ' ℓ→Sys v' ℓ pw st F us→R (rsv x sn d).toArray v'):cW_ ab R (rsv x sn d).toArray v:=
 cW_.of hb hs fun v' k=>h v' k (hm.loc k fun b hb q=>o_) (H.local1 hb hn k (eJ_ d_ d_ d_) d_)
theorem tZ_ {R:A_→W_} (H:Sys w ℓ pw st F us) (hi:i<us.length) (he:us[i]=(a,s)) (hn:n<8) (hct:s.count<1000000000000) (hp:RdX w ℓ 1 p (bv l))
  (hstart:∀u,Mv w u ℓ ℓ→Sys u ℓ pw st F (us.set i (a,ao_ s))→∀K:Int→W_,(∀u' ℓ',Mv u u' ℓ ℓ'→Sys u' ℓ' pw st1 F (us.set i (a,s1))→K 0 u')→bZ_ (some ⟨a.ub,0,none⟩) u K)
  (hR:∀ℓ1,match cc_ s1 n l with
   | .bad sn=>∀u,Mv w u ℓ ℓ1→Sys u ℓ1 pw st1 F (us.set i (a,s1))→R (rsv 2 sn au_).toArray u
   | .told c=>∀u,Mv w u ℓ ℓ1→Sys u ℓ1 pw st1 F (us.set i (a,bA_ s1 n))→R (rsv 2 ⟨6,c,0,false,0,0,false,false⟩ au_).toArray u
   | .conflict=>∀u,Mv w u ℓ ℓ1→Sys u ℓ1 pw st1 F (us.set i (a,s1))→R (rsv 24 sn0 au_).toArray u
   | .prot=>∀u,Mv w u ℓ ℓ1→Sys u ℓ1 pw st1 F (us.set i (a,s1))→R (rsv 2 ⟨7,9984,0,false,0,0,false,false⟩ au_).toArray u
   | .run c=>∀u ab,Mv w u ℓ ℓ1→Sys u ℓ1 pw st1 F (us.set i (a,s1))→Blk u ab z10 ad_→w.heap.size≤ab→ℓ1 ab=none→bj_ (some ⟨a.ub,0,none⟩) (n:Int) (cmv c).toArray out u (cW_ ab R)):aF_ (some ⟨a.ub,0,none⟩) (n:Int) p out w R:=by
 refine eO_.calls _ _ _ _ _ _ (ag_ fun ab w0 hab hb0 hg0 hs0=>?_)
 have hb0:Blk w0 ab z10 ad_:=hb0
 have hab':w.heap.size≤ab:=o_
 have hfab:ℓ ab=none:=H.fresh hab'
 have H0:=H.grow hg0
 obtain⟨hU,hown⟩:=H0.at hi he
 obtain⟨z1,z2,z3,z4,z5,z6,z7⟩:=da_ a
 refine⟨fun _=>rfl,some ⟨a.dv,0,none⟩,fun _=>hU.cellU fun P=>rfl,aj_ (by simp;omega) ⟨rfl,?_⟩⟩
 rw[show(gA (some (⟨a.ub,0,none⟩:Addr))).add 15=⟨a.ub,15,none⟩ by rw[gA,aq_]]
 obtain⟨P,hP1,hP2⟩:=hU.unit
 refine np_ (o:=15) (n:=(s.count:Int)) (s:=((s.count+1:Nat):Int)) hP1 rfl (by rw[w64 o_ o_];omega) fun w1 hb1 hk1 hs1=>?_
 have sf:a6_ w0 (fun k=>ℓ k≠none) fun b=>b=a.ub:=a6_.sub fun b _ q=>by rw[q,hown _ z1];exact Option.some_ne_none _
 have hU1:IsU w1 (fun k=>ℓ k≠none) pw a (ao_ s):=hU.unitC (on:=s.on) (lk:=s.lock) (fl:=s.fault) (ct:=s.count+1) (ps:=s.peers) hk1 sf (fun b _ hne q=>hne q) (fun _ q=>.inl q) ⟨P,hb1,hP2.step (.inr (.inr rfl)) hk1 sf fun _ q=>.inl q⟩
 obtain⟨m1,H1⟩:=H0.putA hi he hk1 (fun b _ q=>by rw[q];exact z1) hU1
 have hi1:i<(us.set i (a,ao_ s)).length:=by rw[List.length_set];exact hi
 have m01:Mv w w1 ℓ ℓ:=(Mv.grow hg0).trans m1
 refine hstart w1 m01 H1 _ fun w2 ℓ2 m12 H2=>aj_ rfl ?_
 have hR:=hR ℓ2
 have m02:=m01.trans m12
 have hab2:Blk w2 ab z10 ad_:=(m1.trans m12).heap hb0 hfab
 have hfab:ℓ2 ab=none:=(m12.lab ab (aw_ (m1.heap hb0 hfab))).trans hfab
 have hi1:i<(us.set i (a,s1)).length:=by rw[List.length_set];exact hi
 refine oC_ (m02.rdX hp).rd fun w3 hg3=>?_
 have m03:=m02.go hg3
 have H3:=H2.grow hg3
 have hab3:Blk w3 ab z10 ad_:=hg3.heap hab2 (fun q=>q)
 generalize hX:aP_ l=X
 obtain⟨c,sn,ok⟩:=X
 unfold cc_ at hR
 rw[hX] at hR
 dsimp only
 refine ag_ fun cb w4 hcb hb4 hg4 hs4=>ag_ fun sb w5 hsb hb5 hg5 hs5=>?_
 have hcn:ab≠cb∧ab≠sb:=by
  have:=aw_ hab3
  have:=hg4.size
  omega
 refine ap_ (cells:=(cmv c).toArray) (hg5.heap hb4 (fun q=>q)) gI_ rfl rfl (by simp[cmv,Value.oneCell']) fun w6 hb6 hk6 hs6=>?_
 have hb56:=hk6.heap hb5 (fun q=>o_)
 refine ap_ (cells:=(snv sn).toArray) hb56 aV_ rfl rfl (by simp[snv,Value.oneCell']) fun w7 hb7 hk7 hs7=>?_
 have hg37:ab_ w3 w7:=(((hg4.trans hg5).keep hk6 fun i hi q=>o_).keep hk7 fun i hi q=>by have:=hg4.size;omega)
 have hb67:Blk w7 cb (cmv c).toArray aD_:=hk7.heap hb6 (fun q=>o_)
 have m07:=m03.go hg37
 have H7:=H3.grow hg37
 have hab7:Blk w7 ab z10 ad_:=hg37.heap hab3 (fun q=>q)
 have c0:∀{v:World},Blk v cb (cmv c).toArray aD_→v.cell? ((⟨cb,0,none⟩:Addr).add 0)=some (.int .u8 (c.kind:Int)):=fun q=>by rw[aq_,q.cell];rfl
 cases ok with
 | false=>
  refine am_ rfl ⟨(snv sn).toArray,aE_ (cs:=snv sn) eU_ aV_ rfl (ar_ hb7),bv_ fun w8 hg8=>?_⟩
  rw[if_pos rfl] at hR
  exact cW_.sys (H7.grow hg8) (m07.go hg8) hab' hfab (hg8.heap hab7 (fun q=>q)) rfl fun v k hm hs=>hR v hm hs
 | true=>
  rw[if_neg (fun q=>Bool.noConfusion q)] at hR
  dsimp only at hR
  refine aj_ rfl ⟨(c.kind:Int),c0 hb67,(c.kind:Int),fun _=>c0 hb67,(c.kind:Int),fun _=>c0 hb67,rfl,?_⟩
  obtain⟨hU7,hown7⟩:=H7.at hi1 (List.getElem_set_self _)
  refine⟨some ⟨a.qb,0,none⟩,hU7.cellU fun P=>rfl,?_⟩
  have efree:(!((((c.kind:Int)==3)||((c.kind:Int)==17))||((c.kind:Int)==2))) = !fM_ c.kind:=by
   unfold fM_
   congr 1
   rw[Bool.eq_iff_iff]
   simp only[Bool.or_eq_true,beq_iff_eq]
   omega
  refine ow_ hU7.q hn fun w8 hg8=>?_
  have H8:=H7.grow hg8
  have m08:=m07.go hg8
  have hab8:Blk w8 ab z10 ad_:=hg8.heap hab7 (fun q=>q)
  have hb8:Blk w8 cb (cmv c).toArray aD_:=hg8.heap hb67 (fun q=>q)
  have rest:∀{n5:Int} {b1:Bool},(b1 && !fM_ c.kind)=false→
    (match (if bN_ s1.tab n (fs_ c.kind)=true then pb_.conflict else if (eY_ c.kind&&s1.now.swp)=true then .prot else .run c) with
     | .bad sn=>∀u,Mv w u ℓ ℓ2→Sys u ℓ2 pw st1 F (us.set i (a,s1))→R (rsv 2 sn au_).toArray u
     | .told c=>∀u,Mv w u ℓ ℓ2→Sys u ℓ2 pw st1 F (us.set i (a,bA_ s1 n))→R (rsv 2 ⟨6,c,0,false,0,0,false,false⟩ au_).toArray u
     | .conflict=>∀u,Mv w u ℓ ℓ2→Sys u ℓ2 pw st1 F (us.set i (a,s1))→R (rsv 24 sn0 au_).toArray u
     | .prot=>∀u,Mv w u ℓ ℓ2→Sys u ℓ2 pw st1 F (us.set i (a,s1))→R (rsv 2 ⟨7,9984,0,false,0,0,false,false⟩ au_).toArray u
     | .run c=>∀u ab,Mv w u ℓ ℓ2→Sys u ℓ2 pw st1 F (us.set i (a,s1))→Blk u ab z10 ad_→w.heap.size≤ab→ℓ2 ab=none→bj_ (some ⟨a.ub,0,none⟩) (n:Int) (cmv c).toArray out u (cW_ ab R))→
    ∀w018,w018=w8.drew→∃S:W_,S w018∧(some (⟨a.ub,0,none⟩:Addr)).isSome=true∧∃p3:O_,(∀u1,S u1→u1.cell? ((gA (some (⟨a.ub,0,none⟩:Addr))).add 8)=some (.pointer p3))∧∃n7:Int,(∀u2,S u2→u2.cell? ((⟨cb,0,none⟩:Addr).add 0)=some (.int .u8 n7))∧fU_ n7 w018 fun n8 w019=>S w019∧cw_ p3 (n:Int) n8 w019 fun b3 w020=>
     Br b3 (ah_ Tryz.prog (storeVar ad_ ⟨ab,0,none⟩ (.agg #[.int .u8 24,.int .u8 0,.int .u16 0,.int .u64 0,.bool false,.int .i64 0,.int .i64 0,.bool false,.bool false,.slice none 0 0])) w020 fun w021=>∃res4:A_,(loadVar ad_ ⟨ab,0,none⟩).run Tryz.prog w021=.ok (.agg res4) w021∧R res4 w021)
     (∃n9:Int,w020.cell? ((⟨cb,0,none⟩:Addr).add 0)=some (.int .u8 n9)∧fm_ n9 w020 fun b4 w022=>(b4=true→(some (⟨a.ub,0,none⟩:Addr)).isSome=true)∧∃p4:O_,(b4=true→w022.cell? ((gA (some (⟨a.ub,0,none⟩:Addr))).add 7)=some (.pointer p4))∧bB_ (fun(g7:A_) (w023:World)=>∃b5:Bool,(b4=true→g7[2]?=some (.bool b5))∧Br (b4&&b5)
      (aS_ #[.int .u8 7,.int .u16 9984,.int .u64 0,.bool false,.int .i64 0,.int .i64 0,.bool false,.bool false] w023 fun g8 w024=>ah_ Tryz.prog (storeVar ad_ ⟨ab,0,none⟩ (.agg g8)) w024 fun w025=>∃res5:A_,(loadVar ad_ ⟨ab,0,none⟩).run Tryz.prog w025=.ok (.agg res5) w025∧R res5 w025)
      (∃g9:A_,(loadVar aD_ ⟨cb,0,none⟩).run Tryz.prog w023=.ok (.agg g9) w023∧bj_ (some ⟨a.ub,0,none⟩) (n:Int) g9 out w023 fun g10 w026=>ah_ Tryz.prog (storeVar ad_ ⟨ab,0,none⟩ (.agg g10)) w026 fun w027=>∃res6:A_,(loadVar ad_ ⟨ab,0,none⟩).run Tryz.prog w027=.ok (.agg res6) w027∧R res6 w027)) fun J_=>(b4=true→bm_ p4 w022 J_)∧(b4=false→J_ (Kd.dflt .ag) w022)):=by
   intro n5 b1 _ hR w9 e9
   subst e9
   have hg9:=ak_ w8
   have H9:=H8.grow hg9
   have m09:=m08.go hg9
   have hab9:Blk w8.drew ab z10 ad_:=hg9.heap hab8 (fun q=>q)
   have hb9:Blk w8.drew cb (cmv c).toArray aD_:=hg9.heap hb8 (fun q=>q)
   generalize w8.drew=w9 at *
   obtain⟨hU9,hown9⟩:=H9.at hi1 (List.getElem_set_self _)
   refine⟨fun o=>o=w9,rfl,rfl,some ⟨a.tb,0,none⟩,fun o e=>by rw[e];exact hU9.cellU fun P=>rfl,(c.kind:Int),fun o e=>by rw[e];exact c0 hb9,nr_ ⟨rfl,k6_ hU9.tab fun w10 hg10=>?_⟩⟩
   have H10:=H9.grow hg10
   have m10:=m09.go hg10
   have hab10:Blk w10 ab z10 ad_:=hg10.heap hab9 (fun q=>q)
   have hb10:Blk w10 cb (cmv c).toArray aD_:=hg10.heap hb9 (fun q=>q)
   have hU10:=hU9.grow hg10
   cases hc:bN_ s1.tab n (fs_ c.kind) with
   | true=>
    rw[hc,if_pos rfl] at hR
    exact am_ rfl (cW_.sys (sn:=sn0) (d:=au_) H10 m10 hab' hfab hab10 rfl fun v k hm hs=>hR v hm hs)
   | false=>
    rw[hc,if_neg d_] at hR
    refine aj_ rfl ⟨(c.kind:Int),c0 hb10,ml_ ⟨fun _=>rfl,some ⟨a.pg,0,none⟩,fun _=>hU10.cellU fun P=>rfl,?_⟩⟩
    refine cm_ (fun(g7:A_) v=>ab_ w10 v∧(eY_ c.kind=true→g7=(vlv s1.now).toArray)) ?_ (fun J=>⟨fun _=>hi_ hU10.pages fun v hg=>J _ _ ⟨hg,fun _=>rfl⟩,fun q=>J _ _ ⟨aa_.refl _ _,fun r=>by rw[q] at r;cases r⟩⟩)
    rintro g7 v ⟨hgv,hg7⟩
    have Hv:=H10.grow hgv
    have mv:=m10.go hgv
    have habv:Blk v ab z10 ad_:=hgv.heap hab10 (fun q=>q)
    have hbv:Blk v cb (cmv c).toArray aD_:=hgv.heap hb10 (fun q=>q)
    refine⟨s1.now.swp,fun q=>by rw[hg7 q];rfl,?_⟩
    cases hal:eY_ c.kind&&s1.now.swp with
    | true=>
     rw[hal,if_pos rfl] at hR
     exact am_ rfl (bv_ (s:=⟨7,9984,0,false,0,0,false,false⟩) fun v' hg'=>cW_.sys (Hv.grow hg') (mv.go hg') hab' hfab (hg'.heap habv (fun q=>q)) rfl fun v k hm hs=>hR v hm hs)
    | false=>
     rw[hal,if_neg d_] at hR
     exact aj_ rfl ⟨_,lW_ (c:=c) (ar_ hbv),hR v ab mv Hv habv hab' hfab⟩
  cases hpk:cD_ (s1.q n) with
  | none=>
   rw[hpk] at hR
   exact aj_ rfl (rest (n5:=0) (b1:=false) rfl hR)
  | some code=>
   rw[hpk] at hR
   dsimp only
   rw[efree]
   cases hfk:fM_ c.kind with
   | true=>
    rw[hfk] at hR
    exact aj_ rfl (rest (n5:=(code:Int)) (b1:=true) (by rw[hfk];rfl) hR)
   | false=>
    rw[hfk] at hR
    dsimp only at hR
    refine am_ rfl ⟨rfl,?_⟩
    obtain⟨hU8,hown8⟩:=H8.at hi1 (List.getElem_set_self _)
    refine⟨some ⟨a.qb,0,none⟩,hU8.cellU fun P=>rfl,?_⟩
    refine lx_ hU8.q hn (by rw[hown8 _ z7];exact Option.some_ne_none _) H8.lt fun w9 hk9 hq9=>?_
    rw[hpk]
    dsimp only
    have sfq:a6_ w8 (fun k=>ℓ2 k≠none) fun b=>b=a.qb:=a6_.sub fun b _ q=>by rw[q,hown8 _ z7];exact Option.some_ne_none _
    have hU9:IsU w9 (fun k=>ℓ2 k≠none) pw a (bA_ s1 n):=hU8.que hk9 sfq (fun b _ hne q=>hne q) (fun _ q=>.inl q) hq9
    obtain⟨m9,H9⟩:=H8.putA hi1 (List.getElem_set_self _) hk9 (fun b _ q=>by rw[q];exact z7) hU9
    rw[List.set_set] at H9
    refine bv_ (s:=⟨6,code,0,false,0,0,false,false⟩) fun w10 hg10=>?_
    have hab10:Blk w10 ab z10 ad_:=(m9.go hg10).heap hab8 hfab
    exact cW_.sys (H9.grow hg10) ((m08.trans m9).go hg10) hab' hfab hab10 rfl fun v k hm hs=>hR v hm hs
theorem sH_ {R:A_→W_} (H:Sys w ℓ pw st F us) (hi:i<us.length) (he:us[i]=(a,s)) (hon:s.on=1) (hfl:s.fault=0) (hn:n<8) (hct:s.count<1000000000000) (hp:RdX w ℓ 1 p (bv l))
  (hR:∀ℓ1,match cc_ (ao_ s) n l with
   | .bad sn=>∀u,Mv w u ℓ ℓ1→Sys u ℓ1 pw st F (us.set i (a,ao_ s))→R (rsv 2 sn au_).toArray u
   | .told c=>∀u,Mv w u ℓ ℓ1→Sys u ℓ1 pw st F (us.set i (a,bA_ (ao_ s) n))→R (rsv 2 ⟨6,c,0,false,0,0,false,false⟩ au_).toArray u
   | .conflict=>∀u,Mv w u ℓ ℓ1→Sys u ℓ1 pw st F (us.set i (a,ao_ s))→R (rsv 24 sn0 au_).toArray u
   | .prot=>∀u,Mv w u ℓ ℓ1→Sys u ℓ1 pw st F (us.set i (a,ao_ s))→R (rsv 2 ⟨7,9984,0,false,0,0,false,false⟩ au_).toArray u
   | .run c=>∀u ab,Mv w u ℓ ℓ1→Sys u ℓ1 pw st F (us.set i (a,ao_ s))→Blk u ab z10 ad_→w.heap.size≤ab→ℓ1 ab=none→bj_ (some ⟨a.ub,0,none⟩) (n:Int) (cmv c).toArray out u (cW_ ab R)):aF_ (some ⟨a.ub,0,none⟩) (n:Int) p out w R:=
 tZ_ H hi he hn hct hp (fun u m Hu K hK=>mm_ Hu (by rw[List.length_set];exact hi) (List.getElem_set_self _) hon fun u' g=>by
  rw[show((ao_ s).fault:Int)=0 by show((s.fault:Nat):Int)=0;omega]
  exact hK u' ℓ (Mv.grow g) (Hu.grow g)) hR
theorem vj_ {R:A_→W_} (H:Sys w ℓ pw st aQ_ us) (hi:i<us.length) (he:us[i]=(a,s)) (hon:s.on=0) (hlk:s.lock=0) (hk:1≤s.keepf.size∧s.keepf.size≤30) (ho:st.ops<10000000000) (hl:ldN st.seen s.keepf 2=(-1,0,[])) (hn:n<8) (hct:s.count<1000000000000) (hp:RdX w ℓ 1 p (bv l))
  (hR:∀ℓ1,match cc_ (b1_ (ao_ s)) n l with
   | .bad sn=>∀u,Mv w u ℓ ℓ1→Sys u ℓ1 pw {st with ops:=st.ops+2} aQ_ (us.set i (a,b1_ (ao_ s)))→R (rsv 2 sn au_).toArray u
   | .told c=>∀u,Mv w u ℓ ℓ1→Sys u ℓ1 pw {st with ops:=st.ops+2} aQ_ (us.set i (a,bA_ (b1_ (ao_ s)) n))→R (rsv 2 ⟨6,c,0,false,0,0,false,false⟩ au_).toArray u
   | .conflict=>∀u,Mv w u ℓ ℓ1→Sys u ℓ1 pw {st with ops:=st.ops+2} aQ_ (us.set i (a,b1_ (ao_ s)))→R (rsv 24 sn0 au_).toArray u
   | .prot=>∀u,Mv w u ℓ ℓ1→Sys u ℓ1 pw {st with ops:=st.ops+2} aQ_ (us.set i (a,b1_ (ao_ s)))→R (rsv 2 ⟨7,9984,0,false,0,0,false,false⟩ au_).toArray u
   | .run c=>∀u ab,Mv w u ℓ ℓ1→Sys u ℓ1 pw {st with ops:=st.ops+2} aQ_ (us.set i (a,b1_ (ao_ s)))→Blk u ab z10 ad_→w.heap.size≤ab→ℓ1 ab=none→bj_ (some ⟨a.ub,0,none⟩) (n:Int) (cmv c).toArray out u (cW_ ab R)):aF_ (some ⟨a.ub,0,none⟩) (n:Int) p out w R:=
 tZ_ H hi he hn hct hp (fun u m Hu K hK=>q6_ (s:=ao_ s) Hu (by rw[List.length_set];exact hi) (List.getElem_set_self _) hon hlk hk ho hl fun u' ℓ' m' H'=>hK u' ℓ' m' (by rw[List.set_set] at H';exact H')) hR
end
open Go CF
def iU_ (s:ByteArray) (k:Nat):Bool:=(List.range k).all fun j=>decide (32≤(bt s (j:Int)).toNat)&&decide ((bt s (j:Int)).toNat≤126)
def gn_ (s:ByteArray) (lo hi:Nat):Bool:=iU_ s s.size&&decide (lo≤s.size)&&decide (s.size≤hi)
def dE_ (i:eF_):Bool:=gn_ i.v 0 8&&gn_ i.p 0 16&&gn_ i.r 0 4&&gn_ i.s 1 20&&decide (i.prot≤3)
theorem mn_ (s:ByteArray) (k:Nat):iU_ s (k+1)=(iU_ s k&&(decide (32≤(bt s (k:Int)).toNat)&&decide ((bt s (k:Int)).toNat≤126))):=by
 unfold iU_
 rw[List.range_succ,List.all_append,List.all_cons,List.all_nil,Bool.and_true]
theorem mo_ {s:ByteArray} {j:Nat} (h:iU_ s j=false):∀k,j≤k→iU_ s k=false
 | 0,hk=>by have:j=0:=o_
            subst this;exact h
 | k+1,hk=>by
  by_cases q:j=k+1
  ·subst q;exact h
  ·rw[mn_,mo_ h k o_];rfl
theorem xT_ (s:ByteArray) (x:Int):0≤bt s x:=by unfold bt;split<;>omega
section
variable {w u v:World} {N N' S:Nat→Prop} {pw i n:Nat} {a:UA} {s:USt} {st:Wst} {F:Int→Bool} {ℓ ℓ':Nat→Option Nat} {us:List (UA×USt)}
theorem t0_ {s:ByteArray} {lo hi:Nat} {R:Bool→W_} (hsz:s.size≤9223372036854775806) (h:R (gn_ s lo hi) w) :
  ∃(I:Int→W_) (μ:Int→World→Nat),I 0 w∧∀(x:Int) (w0:World),I x w0→Br (decide (x<(s.size:Int))) ((0≤x∧x<(s.size:Int))∧((!(decide ((bt s x)<32)))=true→(0≤x∧x<(s.size:Int)))∧Br ((decide ((bt s x)<32))||(decide ((bt s x)>126))) (R false w0) (I (IntKind.wrap .i64 (x+1)) w0∧μ (IntKind.wrap .i64 (x+1)) w0<μ x w0)) (R ((decide ((s.size:Int)≥(lo:Int)))&&(decide ((s.size:Int)≤(hi:Int)))) w0):=by
 refine⟨fun x v=>∃j:Nat,x=j∧j≤s.size∧v=w∧iU_ s j=true,fun x _=>s.size-x.toNat,⟨0,rfl,Nat.zero_le _,rfl,rfl⟩,?_⟩
 rintro x v ⟨j,rfl,hj,rfl,hp⟩
 unfold gn_ at h
 refine bl_ (fun hlt=>?_) (fun hge=>?_)
 ·have hnn:=xT_ s (j:Int)
  refine⟨⟨o_,o_⟩,fun _=>⟨o_,o_⟩,?_⟩
  have hs:=mn_ s j
  rw[hp,Bool.true_and] at hs
  cases hq:decide (32≤(bt s (j:Int)).toNat)&&decide ((bt s (j:Int)).toNat≤126) with
  | true=>
   rw[hq] at hs
   simp only[Bool.and_eq_true,decide_eq_true_eq] at hq
   refine aj_ (by rw[Bool.or_eq_false_iff,decide_eq_false_iff_not,decide_eq_false_iff_not];omega) ?_
   rw[w64 o_ o_]
   exact⟨⟨j+1,o_,o_,rfl,hs⟩,by dsimp only;omega⟩
  | false=>
   rw[hq] at hs
   rw[mo_ hs s.size hlt] at h
   rw[Bool.and_eq_false_iff,decide_eq_false_iff_not,decide_eq_false_iff_not] at hq
   exact am_ (by rw[Bool.or_eq_true,decide_eq_true_eq,decide_eq_true_eq];omega) h
 ·have:j=s.size:=o_
  subst this
  rw[hp,Bool.true_and] at h
  have e:((decide ((s.size:Int)≥(lo:Int)))&&(decide ((s.size:Int)≤(hi:Int))))=(decide (lo≤s.size)&&decide (s.size≤hi)):=by
   congr 1
   ·rw[decide_eq_decide];omega
   ·rw[decide_eq_decide];omega
  rw[e];exact h
theorem hL_ {s:ByteArray} {lo hi:Nat} {R:Bool→W_} (hsz:s.size≤9223372036854775806) (h:R (gn_ s lo hi) w):gE_ s (lo:Int) (hi:Int) w R:=jj_.calls _ _ _ _ _ (t0_ hsz h)
structure sI_ (i:eF_):Prop where
 v:i.v.size≤9223372036854775806
 p:i.p.size≤9223372036854775806
 r:i.r.size≤9223372036854775806
 s:i.s.size≤9223372036854775806
theorem q8_ {i:eF_} {R:Bool→W_} (hi:sI_ i) (h:∀w',ab_ w w'→R (dE_ i) w'):lh_ (eG_ i).toArray w R:=by
 refine je_.calls _ _ _ (ag_ fun ib w1 hib hb1 hg1 hs1=>?_)
 have c:∀{o:Nat} {x:Value},(eG_ i)[o]?=some x→w1.cell? ((⟨ib,0,none⟩:Addr).add o)=some x:=fun e=>by rw[aq_,Blk.cell hb1,Nat.zero_add,List.getElem?_toArray];exact e
 have h:=h w1 hg1
 unfold dE_ at h
 refine⟨i.v,c rfl,hL_ (lo:=0) (hi:=8) hi.v ⟨i.p,fun _=>c rfl,?_⟩⟩
 generalize gn_ i.v 0 8=b at *
 refine cm_ (fun b1 o=>o=w1∧(b&&b1)=(b&&gn_ i.p 0 16)) ?_ (fun J=>⟨fun _=>hL_ (lo:=0) (hi:=16) hi.p (J _ _ ⟨rfl,rfl⟩),fun q=>J _ _ ⟨rfl,by rw[q];rfl⟩⟩)
 rintro b1 o ⟨rfl,e1⟩
 rw[←e1] at h
 refine⟨i.r,fun _=>c rfl,?_⟩
 generalize (b&&b1)=bb at *
 refine cm_ (fun b2 o'=>o'=o∧(bb&&b2)=(bb&&gn_ i.r 0 4)) ?_ (fun J=>⟨fun _=>hL_ (lo:=0) (hi:=4) hi.r (J _ _ ⟨rfl,rfl⟩),fun q=>J _ _ ⟨rfl,by rw[q];rfl⟩⟩)
 rintro b2 o' ⟨rfl,e2⟩
 rw[←e2] at h
 refine⟨i.s,fun _=>c rfl,?_⟩
 generalize (bb&&b2)=bc at *
 refine cm_ (fun b3 o2=>o2=o'∧(bc&&b3)=(bc&&gn_ i.s 1 20)) ?_ (fun J=>⟨fun _=>hL_ (lo:=1) (hi:=20) hi.s (J _ _ ⟨rfl,rfl⟩),fun q=>J _ _ ⟨rfl,by rw[q];rfl⟩⟩)
 rintro b3 o2 ⟨rfl,e3⟩
 rw[←e3] at h
 refine⟨(i.prot:Int),fun _=>c rfl,?_⟩
 have e:(decide ((i.prot:Int)≤3))=decide (i.prot≤3):=by rw[decide_eq_decide];omega
 rw[e];exact h
open Classical in
theorem Sys.add {a':UA} {s':USt} (h:Sys w ℓ pw st F us) (g:ab_ w u) (ha:∀b,a'.set b→w.heap.size≤b) (hU:∀N:Nat→Prop,IsU u N pw a' s'):∃ℓ',Mv w u ℓ ℓ'∧Sys u ℓ' pw st F (us++[(a',s')]):=by
 have hsz:=g.size
 have h':=h.grow g
 let L:Nat→Option Nat:=fun b=>if a'.set b then some (us.length+1) else ℓ b
 have hold:∀b,b<w.heap.size→L b=ℓ b:=fun b hb=>if_neg fun q=>by have:=ha b q;omega
 obtain⟨D,h1,h2⟩:=h'.W
 obtain⟨D0,g1,g2⟩:=h.W
 refine⟨L,⟨g.mono fun _ _ q=>q.elim,hold⟩,⟨D0,g1.grow g,fun b hb=>?_⟩,fun j hj=>?_,fun b hb=>?_⟩
 ·rw[hold b (g1.lt hb)];exact g2 b hb
 ·by_cases e:j<us.length
  ·rw[List.getElem_append_left e]
   refine⟨(h.U j e).1.step (S:=fun _=>False) g (a6_.none _ _) (fun _ _ q=>q) (fun b hb=>?_),fun b hb=>?_⟩
   ·by_cases q:b<w.heap.size
    ·exact .inl (by rw[←hold b q];exact hb)
    ·exact .inr o_
   ·rw[hold b ((h.U j e).1.lt hb)];exact(h.U j e).2 b hb
  ·have:j=us.length:=by rw[List.length_append,List.length_singleton] at hj;omega
   subst this
   have ee:(us++[(a',s')])[us.length]'hj=(a',s'):=by rw[List.getElem_append_right (Nat.le_refl _)];simp
   rw[ee]
   exact⟨hU _,fun b hb=>if_pos hb⟩
 ·by_cases q:a'.set b
  ·exact(hU fun _=>False).lt q
  ·have:L b=ℓ b:=if_neg q
   rw[this] at hb
   have:=h.lt b hb;omega
end
open Go CF
section
variable {w u v:World} {N N' S:Nat→Prop} {pw i n:Nat} {a:UA} {s:USt} {st:Wst} {F:Int→Bool} {ℓ ℓ':Nat→Option Nat} {us:List (UA×USt)}
theorem ft_ {R:O_→W_} (h:∀qb w',w.heap.size≤qb→ab_ w w'→(∀N,IsQ w' N qb (fun _=>[]))→R (some ⟨qb,0,none⟩) w'):fn_ w R:=by
 refine jg_.calls _ _ (ag_ fun b w1 hb hb1 hg1 hsz1=>?_)
 refine h b w1 o_ hg1 fun N=>⟨⟨List.replicate 8 au_,rfl,hb1,fun i hi=>?_⟩,fun _ _=>⟨d_,fun c hc=>by cases hc⟩⟩
 rw[List.getElem_replicate]
 exact RdN.nil _ _ _ _
theorem iv_ {R:O_→W_} (h:∀tb w',w.heap.size≤tb→ab_ w w'→(∀N,IsT w' N tb t0)→R (some ⟨tb,0,none⟩) w'):hb_ w R:=by
 refine jY_.calls _ _ (ag_ fun b w1 hb hb1 hg1 hsz1=>?_)
 exact h b w1 o_ hg1 fun N=>⟨⟨au_,hb1,RdN.nil _ _ _ _⟩,tS_⟩
def fS_ (i:eF_) (b:Int):List Value:=eG_ i++[Value.int .i64 b]
def xi_ (i:eF_) (name:ByteArray) (n:Nat):USt:=⟨i,name++c1_,name++fj_,n,true,false,-1,0,v0,v0,t0,fun _=>[],[],0,0,0,0⟩
theorem sJ_ (u:World) (v p r s:ByteArray) (prot:Int) (dv sl pg tb qb:Nat):(Instr.build bi_ #[(0,.agg #[.string v,.string p,.string r,.string s,.int .u8 prot]),(1,.pointer (some ⟨dv,0,none⟩)),(2,.pointer (some ⟨sl,0,none⟩)),(3,.pointer (some ⟨pg,0,none⟩)),(4,.pointer (some ⟨tb,0,none⟩)),(5,.pointer (some ⟨qb,0,none⟩))]).run Tryz.prog u =
  .ok (.agg #[.string v,.string p,.string r,.string s,.int .u8 prot,.pointer (some ⟨dv,0,none⟩),.pointer (some ⟨sl,0,none⟩),.pointer (some ⟨pg,0,none⟩),.pointer (some ⟨tb,0,none⟩),.pointer (some ⟨qb,0,none⟩),.slice none 0 0,.int .u32 0,.int .i32 0,.int .u32 0,.int .i64 0,.int .i64 0]) u:=k_
theorem iV_ (a b:ByteArray):(a++b).size=a.size+b.size:=ByteArray.size_append
def g5_ (name:ByteArray) (blocks:Int):Bool:=decide (name.size<1)||decide (28<name.size)||decide (blocks<1)||decide (4096<blocks)
theorem vk_ {inf:eF_} {name:ByteArray} {blocks:Int} {R:O_→Int→W_} (hi:sI_ inf)
  (hbad:g5_ name blocks=true→∀w',ab_ w w'→R none 1 w') (hform:g5_ name blocks=false→dE_ inf=false→∀w',ab_ w w'→R none 3 w')
  (hok:g5_ name blocks=false→dE_ inf=true→∀a u,ab_ w u→(∀b,a.set b→w.heap.size≤b)→(∀N:Nat→Prop,IsU u N pw a (xi_ inf name blocks.toNat))→R (some ⟨a.ub,0,none⟩) 0 u) :
  fl_ (some ⟨pw,0,none⟩) name (fS_ inf blocks).toArray w R:=by
 refine jd_.calls _ _ _ _ _ (ag_ fun cb w1 hcb hb1 hg1 hs1=>?_)
 have c5:∀{v:World},Blk v cb (fS_ inf blocks).toArray a5_→v.cell? ((⟨cb,0,none⟩:Addr).add 5)=some (.int .i64 blocks):=fun q=>by rw[aq_,Blk.cell q];rfl
 have c4:∀{v:World},Blk v cb (fS_ inf blocks).toArray a5_→v.cell? (((⟨cb,0,none⟩:Addr).add 0).add 4)=some (.int .u8 (inf.prot:Int)):=fun q=>by rw[aq_,aq_,Blk.cell q];rfl
 have cl:∀{v:World},Blk v cb (fS_ inf blocks).toArray a5_→(loadVar kt_ ((⟨cb,0,none⟩:Addr).add 0)).run Tryz.prog v=.ok (.agg (eG_ inf).toArray) v:=fun q=>aE_ (cs:=eG_ inf) ku_ ii_ rfl (fun j x hj=>by
  rw[aq_,aq_,Blk.cell q,Nat.zero_add,List.getElem?_toArray]
  show(eG_ inf++[Value.int .i64 blocks])[j]?=some x
  exact(List.getElem?_append_left (List.getElem?_eq_some_iff.1 hj).1).trans hj)
 have hb1:Blk w1 cb (fS_ inf blocks).toArray a5_:=hb1
 refine⟨blocks,fun _=>c5 hb1,blocks,fun _=>c5 hb1,?_⟩
 have eb:((((decide ((name.size:Int)<1))||(decide ((name.size:Int)>28)))||(decide (blocks<1)))||(decide (blocks>4096)))=g5_ name blocks:=by
  unfold g5_
  congr 1
  congr 1
  congr 1
  ·rw[decide_eq_decide];omega
  ·rw[decide_eq_decide];omega
 rw[eb]
 cases hA:g5_ name blocks with
 | true=>exact am_ rfl (hbad hA w1 hg1)
 | false=>
  refine aj_ rfl ⟨_,cl hb1,q8_ hi fun w2 hg2=>?_⟩
  have hg02:=hg1.trans hg2
  cases hF:dE_ inf with
  | false=>exact am_ rfl (hform hA hF w2 hg02)
  | true=>
   have hA':=hA
   unfold g5_ at hA'
   rw[Bool.or_eq_false_iff,Bool.or_eq_false_iff,Bool.or_eq_false_iff,decide_eq_false_iff_not,decide_eq_false_iff_not,decide_eq_false_iff_not,decide_eq_false_iff_not] at hA'
   obtain⟨⟨⟨hA1,hA2⟩,hA3⟩,hA4⟩:=hA'
   refine aj_ rfl (aj_ rfl ?_)
   rintro w3 rfl
   have hg3:=hg02.trans (ak_ w2)
   have hb3:Blk w2.drew cb (fS_ inf blocks).toArray a5_:=((hg2.trans (ak_ w2))).heap hb1 (fun q=>q)
   generalize w2.drew=w3 at *
   have zd:c1_.size=2:=d_
   have zp:fj_.size=2:=d_
   refine⟨fun o=>Blk o cb (fS_ inf blocks).toArray a5_,hb3,o_,blocks,fun o q=>c5 q,g4_ fun w4 hg4=>?_⟩
   have hb4:Blk w4 cb (fS_ inf blocks).toArray a5_:=hg4.heap hb3 (fun q=>q)
   refine⟨hb4,fun o=>Blk o cb (fS_ inf blocks).toArray a5_,hb4,fun _ q=>q,true,fun _ _=>rfl,?_⟩
   have ebk:blocks=((blocks.toNat:Nat):Int):=o_
   rw[ebk]
   rw[ebk] at hb4
   have c4:∀{v:World},Blk v cb (fS_ inf ((blocks.toNat:Nat):Int)).toArray a5_→v.cell? (((⟨cb,0,none⟩:Addr).add 0).add 4)=some (.int .u8 (inf.prot:Int)):=fun q=>by rw[←ebk] at q;exact c4 q
   have cl:∀{v:World},Blk v cb (fS_ inf ((blocks.toNat:Nat):Int)).toArray a5_→(loadVar kt_ ((⟨cb,0,none⟩:Addr).add 0)).run Tryz.prog v=.ok (.agg (eG_ inf).toArray) v:=fun q=>by rw[←ebk] at q;exact cl q
   have hn:1≤blocks.toNat∧blocks.toNat≤4096:=o_
   generalize blocks.toNat=bn at *
   refine tA_ (by rw[iV_];omega) hn fun ps w5 hps hg5 hS5=>⟨o_,nj_ (by rw[iV_];omega) fun sl w6 hsl hg6 hS6=>?_⟩
   rintro w7 rfl
   have hg47:ab_ w4 w6.drew:=(hg5.trans hg6).trans (ak_ w6)
   have g6d:=ak_ w6
   have hb7:Blk w6.drew cb _ a5_:=hg47.heap hb4 (fun q=>q)
   have hS7:IsS w6.drew ps pw (name++c1_) bn true:=(hg6.trans g6d).heap hS5 (fun q=>q)
   have hL7:bS_ w6.drew sl pw (name++fj_) false (-1) 0:=g6d.heap hS6 (fun q=>q)
   have hg7:=(hg3.trans hg4).trans hg47
   have sz3:=hg3.size
   have sz4:=hg4.size
   have sz5:=hg5.size
   have sz7:=hg7.size
   generalize w6.drew=w7 at *
   have fin:∀{z:World} {dv pg tb qb:Nat},ab_ w7 z→Blk z dv (eo_ ps inf.prot) ck_→IsP z pg v0 v0→(∀N,IsT z N tb t0)→(∀N,IsQ z N qb fun _=>[])→w.heap.size≤dv→w.heap.size≤pg→w.heap.size≤tb→w.heap.size≤qb→
     (∃S3:W_,S3 z∧(∀u5,S3 u5→Blk u5 cb (fS_ inf (bn:Int)).toArray a5_)∧∃g4:A_,(∀u6,S3 u6→(Instr.build bi_ #[(0,.agg (eG_ inf).toArray),(1,.pointer (some ⟨dv,0,none⟩)),(2,.pointer (some ⟨sl,0,none⟩)),(3,.pointer (some ⟨pg,0,none⟩)),(4,.pointer (some ⟨tb,0,none⟩)),(5,.pointer (some ⟨qb,0,none⟩))]).run Tryz.prog u6=.ok (.agg g4) u6)∧
      New (.cells g4 bi_) z fun a1 w012=>R (some a1) 0 w012):=fun {z dv pg tb qb} g hd hp ht hq l1 l2 l3 l4=>by
    refine⟨fun o=>Blk o cb (fS_ inf (bn:Int)).toArray a5_,g.heap hb7 (fun q=>q),fun _ q=>q,_,fun o _=>sJ_ o inf.v inf.p inf.r inf.s (inf.prot:Int) dv sl pg tb qb,ag_ fun ub w8 hub hb8 hg8 hs8=>?_⟩
    have gz:=g.size
    refine hok hA hF ⟨ub,dv,ps,sl,pg,tb,qb⟩ w8 ((hg7.trans g).trans hg8) (fun b hb=>?_) fun N=>⟨⟨au_,hb8,RdN.nil _ _ _ _⟩,hg8.heap hd (fun q=>q),(g.trans hg8).heap hS7 (fun q=>q),(g.trans hg8).heap hL7 (fun q=>q),hg8.heap hp (fun q=>q),(ht N).grow hg8,(hq N).grow hg8⟩
    rcases hb with q|q|q|q|q|q|q
    ·rw[q];show w.heap.size≤ub;omega
    ·rw[q];exact l1
    ·rw[q];show w.heap.size≤ps;omega
    ·rw[q];show w.heap.size≤sl;omega
    ·rw[q];exact l2
    ·rw[q];exact l3
    ·rw[q];exact l4
   refine⟨fun o=>Blk o cb (fS_ inf (bn:Int)).toArray a5_,hb7,(eG_ inf).toArray,fun o q=>cl q,(inf.prot:Int),fun o q=>c4 q,?_,?_⟩
   ·refine ag_ fun dv z1 hdv hd1 h1 s1=>⟨h1.heap hb7 (fun q=>q),g4_ fun z2 h2=>⟨(h1.trans h2).heap hb7 (fun q=>q),gk_ fun pg z3 h3 lp hp=>⟨((h1.trans h2).trans h3).heap hb7 (fun q=>q),iv_ fun tb z4 lt h4 ht=>⟨(((h1.trans h2).trans h3).trans h4).heap hb7 (fun q=>q),ft_ fun qb z5 lq h5 hq=>?_⟩⟩⟩⟩
    have e1:=h1.size
    have e2:=h2.size
    have e3:=h3.size
    have e4:=h4.size
    exact⟨((((h1.trans h2).trans h3).trans h4).trans h5).heap hb7 (fun q=>q),fin ((((h1.trans h2).trans h3).trans h4).trans h5) ((((h2.trans h3).trans h4).trans h5).heap hd1 (fun q=>q)) ((h4.trans h5).heap hp (fun q=>q)) (fun N=>(ht N).grow h5) hq o_ o_ o_ o_⟩
   ·refine g4_ fun z1 h1=>⟨h1.heap hb7 (fun q=>q),?_,gk_ fun pg z2 h2 lp hp=>⟨(h1.trans h2).heap hb7 (fun q=>q),?_,iv_ fun tb z3 lt h3 ht=>⟨((h1.trans h2).trans h3).heap hb7 (fun q=>q),?_,ft_ fun qb z4 lq h4 hq=>⟨(((h1.trans h2).trans h3).trans h4).heap hb7 (fun q=>q),?_⟩⟩⟩⟩
    ·refine ag_ fun dv z2 hdv hd1 h2 s1=>⟨(h1.trans h2).heap hb7 (fun q=>q),gk_ fun pg z3 h3 lp hp=>⟨((h1.trans h2).trans h3).heap hb7 (fun q=>q),iv_ fun tb z4 lt h4 ht=>⟨(((h1.trans h2).trans h3).trans h4).heap hb7 (fun q=>q),ft_ fun qb z5 lq h5 hq=>?_⟩⟩⟩
     have e1:=h1.size
     have e2:=h2.size
     have e3:=h3.size
     have e4:=h4.size
     exact⟨((((h1.trans h2).trans h3).trans h4).trans h5).heap hb7 (fun q=>q),fin ((((h1.trans h2).trans h3).trans h4).trans h5) (((h3.trans h4).trans h5).heap hd1 (fun q=>q)) ((h4.trans h5).heap hp (fun q=>q)) (fun N=>(ht N).grow h5) hq o_ o_ o_ o_⟩
    ·refine ag_ fun dv z3 hdv hd1 h3 s1=>⟨((h1.trans h2).trans h3).heap hb7 (fun q=>q),iv_ fun tb z4 lt h4 ht=>⟨(((h1.trans h2).trans h3).trans h4).heap hb7 (fun q=>q),ft_ fun qb z5 lq h5 hq=>?_⟩⟩
     have e1:=h1.size
     have e2:=h2.size
     have e3:=h3.size
     have e4:=h4.size
     exact⟨((((h1.trans h2).trans h3).trans h4).trans h5).heap hb7 (fun q=>q),fin ((((h1.trans h2).trans h3).trans h4).trans h5) ((h4.trans h5).heap hd1 (fun q=>q)) (((h3.trans h4).trans h5).heap hp (fun q=>q)) (fun N=>(ht N).grow h5) hq o_ o_ o_ o_⟩
    ·refine ag_ fun dv z4 hdv hd1 h4 s1=>⟨(((h1.trans h2).trans h3).trans h4).heap hb7 (fun q=>q),ft_ fun qb z5 lq h5 hq=>?_⟩
     have e1:=h1.size
     have e2:=h2.size
     have e3:=h3.size
     have e4:=h4.size
     exact⟨((((h1.trans h2).trans h3).trans h4).trans h5).heap hb7 (fun q=>q),fin ((((h1.trans h2).trans h3).trans h4).trans h5) (h5.heap hd1 (fun q=>q)) (((h3.trans h4).trans h5).heap hp (fun q=>q)) (fun N=>((ht N).grow h4).grow h5) hq o_ o_ o_ o_⟩
    ·refine ag_ fun dv z5 hdv hd1 h5 s1=>?_
     have e1:=h1.size
     have e2:=h2.size
     have e3:=h3.size
     have e4:=h4.size
     exact⟨((((h1.trans h2).trans h3).trans h4).trans h5).heap hb7 (fun q=>q),fin ((((h1.trans h2).trans h3).trans h4).trans h5) hd1 (((h3.trans h4).trans h5).heap hp (fun q=>q)) (fun N=>((ht N).grow h4).grow h5) (fun N=>(hq N).grow h5) o_ o_ o_ o_⟩
end
open Go CF
section
variable {w u v:World} {N N' S:Nat→Prop} {pw i n:Nat} {a:UA} {s:USt} {st:Wst} {F:Int→Bool} {ℓ ℓ':Nat→Option Nat} {us:List (UA×USt)}
theorem qe_ {P:Program} {tp te:TypeId} {j:TypeInfo} {x y:Operand} (w:World) (a:Addr) (hp:P.underlying tp=some (.pointer te)) (hte:P.info? te=some j) :
  (do eqGuard .neq tp x y (.pointer (some a)) (.pointer (some a));binOp .neq tp (.pointer (some a)) (.pointer (some a)):Sem Value).run P w=.ok (.bool false) w:=by
 have h:∀d:Nat,(Op.equalIn (d+1) tp (.pointer (some a)) (.pointer (some a))).run P w=.ok true w:=fun d=>by
  simp[Op.equalIn,run_underlying hp,sizeOf,typeInfo,hte,run_sameAddr_same]
 simp only[binOp,eqGuard]
 simp[Op.equal,Op.maxDepth,h 9999]
theorem oX_ {P:Program} {tp te:TypeId} {j:TypeInfo} {x y:Operand} {a b:Addr} {ca cb:A_} {ta tb:TypeId} (w:World) (hp:P.underlying tp=some (.pointer te)) (hte:P.info? te=some j) (hsz:j.size≠0)
  (hne:a≠b) (ha:w.heap[a.block]?=some (.cells ca ta (0,0))) (hb:w.heap[b.block]?=some (.cells cb tb (0,0))) :
  (do eqGuard .neq tp x y (.pointer (some a)) (.pointer (some b));binOp .neq tp (.pointer (some a)) (.pointer (some b)):Sem Value).run P w=.ok (.bool true) w:=by
 have h:∀d:Nat,(Op.equalIn (d+1) tp (.pointer (some a)) (.pointer (some b))).run P w=.ok false w:=fun d=>by
  simp[Op.equalIn,run_underlying hp,sizeOf,typeInfo,hte,hsz,run_sameAddr_other w hne ha hb]
 simp only[binOp,eqGuard]
 simp[Op.equal,Op.maxDepth,h 9999]
theorem k7_:Tryz.prog.underlying aL_=some (.pointer bi_):=k_
theorem t1_:∃j,Tryz.prog.info? bi_=some j∧j.size≠0:=by
 obtain⟨j,hj,e⟩:=Option.map_eq_some_iff.1 qP_
 refine⟨j,hj,?_⟩
 simp only[Prod.mk.injEq] at e
 rw[e.2.1];decide
def qf_ (x:Option Nat):Value:=.pointer (x.map fun b=>⟨b,0,none⟩)
def bH_ (b:Nat) (xs:List (Option Nat)):List Nat:=xs.filterMap fun x=>match x with|some c=>if c=b then none else some c|none=>none
theorem qg_ (b:Nat) (l:List (Option Nat)) (x:Option Nat):bH_ b (l++[x])=bH_ b l++(match x with|some c=>if c=b then [] else [c]|none=>[]):=by
 unfold bH_
 rw[List.filterMap_append]
 congr 1
 cases x with
 | none=>rfl
 | some c=>
  by_cases q:c=b
  ·simp[q]
  ·simp[q]
theorem q9_ (b:Nat) (l:List (Option Nat)):(bH_ b l).length≤l.length:=List.length_filterMap_le _ _
theorem t2_ (w:World) (b:Nat):(Instr.buildSlice iM_ 1 #[(0,.pointer (some ⟨b,0,none⟩))]).run Tryz.prog w=.ok (.slice (some ⟨w.heap.size,0,none⟩) 1 1) (w.alloc (.cells #[.pointer (some ⟨b,0,none⟩)] aL_)):=k_
theorem nv_ {p:Sl} {xs:List (Option Nat)} {R:W_} (H:Sys w ℓ pw st F us) (hi:i<us.length) (he:us[i]=(a,s)) (hp:RdX w ℓ 1 p (xs.map qf_)) (hx:∀c,some c∈xs→∃(j:Nat) (hj:j<us.length),us[j].1.ub=c) (hxs:xs.length≤1000)
  (hR:∀u,Mv w u ℓ ℓ→Sys u ℓ pw st F (us.set i (a,{s with peers:=bH_ a.ub xs}))→R u):ey_ (some ⟨a.ub,0,none⟩) p w R:=by
 refine eA_.calls _ _ _ _ (aj_ rfl ⟨rfl,?_⟩)
 obtain⟨hU,hown⟩:=H.at hi he
 obtain⟨z1,z2,z3,z4,z5,z6,z7⟩:=da_ a
 have hpn:xs.length=p.n:=by have:=hp.rd.len;rw[List.length_map] at this;omega
 have sf:∀{x:World},a6_ x (fun k=>ℓ k≠none) fun b=>b=a.ub:=a6_.sub fun b _ q=>by rw[q,hown _ z1];exact Option.some_ne_none _
 obtain⟨P,hP1,hP2⟩:=hU.unit
 have mk:∀{v:World} {P:Sl} {l:List Nat},l.length≤1000→aa_ (fun b=>b=a.ub) w v→Blk v a.ub (cQ_ a P {s with peers:=l}) bi_→CF.Own v w.heap.size aL_ 1 P (l.map ptr)→Mv w v ℓ ℓ∧Sys v ℓ pw st F (us.set i (a,{s with peers:=l})):=fun {v P l} hl k hb ho=>by
  have hn:P.n=l.length:=by have:=ho.len;rw[List.length_map] at this;omega
  have hUv:IsU v (fun k=>ℓ k≠none) pw a {s with peers:=l}:=hU.unitC (on:=s.on) (lk:=s.lock) (fl:=s.fault) (ct:=s.count) (ps:=l) k sf (fun b _ hne q=>hne q) (fun _ q=>.inl q) ⟨P,hb,ho.rdN o_ H.lt⟩
  exact H.putA hi he k (fun b _ q=>by rw[q];exact z1) hUv
 rw[show(gA (some (⟨a.ub,0,none⟩:Addr))).add 10=⟨a.ub,10,none⟩ by rw[gA,aq_]]
 refine a0_ hP1 (by show 10<16;decide) rfl fun w1 hb1 hk1 hs1=>?_
 refine⟨fun x v=>∃(j:Nat) (P:Sl),x=j∧j≤xs.length∧aa_ (fun b=>b=a.ub) w v∧Blk v a.ub (cQ_ a P {s with peers:=bH_ a.ub (xs.take j)}) bi_∧CF.Own v w.heap.size aL_ 1 P ((bH_ a.ub (xs.take j)).map ptr),fun x _=>p.n-x.toNat,⟨0,au_,rfl,Nat.zero_le _,hk1,hb1,aH_ _ _ _ _⟩,?_⟩
 rintro x v ⟨j,P1,rfl,hj,hkv,hbv,hov⟩
 have hlen:=q9_ a.ub (xs.take j)
 have htl:(xs.take j).length≤j:=by rw[List.length_take];omega
 have hP1n:(bH_ a.ub (xs.take j)).length=P1.n:=by have:=hov.len;rw[List.length_map] at this;omega
 obtain⟨hm,Hv⟩:=mk o_ hkv hbv hov
 refine bl_ (fun hltj=>?_) (fun hge=>?_)
 ·have hjl:j<xs.length:=o_
  have htk:xs.take (j+1)=xs.take j++[xs[j]]:=List.take_succ_eq_append_getElem hjl
  refine cu_ (fun v'=>∃P:Sl,aa_ (fun b=>b=a.ub) w v'∧Blk v' a.ub (cQ_ a P {s with peers:=bH_ a.ub (xs.take (j+1))}) bi_∧CF.Own v' w.heap.size aL_ 1 P ((bH_ a.ub (xs.take (j+1))).map ptr)) (fun v' hv=>?_) (fun J=>?_)
  ·obtain⟨P,h1,h2,h3⟩:=hv
   rw[w64 o_ o_]
   exact⟨⟨j+1,P,o_,o_,h1,h2,h3⟩,by dsimp only;omega⟩
  rw[htk,qg_] at J
  obtain⟨ha,hc⟩:=h0_ (hm.rdX hp).rd (i:=j) (by rw[List.length_map];exact hjl)
  rw[List.getElem_map] at hc
  refine⟨⟨o_,o_,ha⟩,_,by rw[Int.toNat_natCast];exact hc,?_⟩
  have hmem:xs[j]∈xs:=List.getElem_mem hjl
  generalize xs[j]=xj at *
  cases xj with
  | none=>exact⟨fun q=>by simp at q,none,fun q=>by simp at q,false,fun q=>by simp at q,aj_ rfl (J v ⟨P1,hkv,by rw[List.append_nil];exact hbv,by rw[List.append_nil];exact hov⟩)⟩
  | some c=>
   obtain⟨jj,hjj,hub⟩:=hx c hmem
   have hjj':jj<(us.set i (a,{s with peers:=bH_ a.ub (xs.take j)})).length:=by rw[List.length_set];exact hjj
   have hUj:=(Hv.U jj hjj').1
   have hubj:((us.set i (a,{s with peers:=bH_ a.ub (xs.take j)}))[jj]'hjj').1.ub=c:=by
    by_cases e:jj=i
    ·subst e
     rw[List.getElem_set_self]
     rw[he] at hub;exact hub
    ·rw[List.getElem_set_ne (fun q=>e q.symm)];exact hub
   generalize (us.set i (a,{s with peers:=bH_ a.ub (xs.take j)}))[jj]'hjj'=uj at hUj hubj
   obtain⟨aj,sj⟩:=uj
   dsimp only at hUj hubj
   subst hubj
   obtain⟨P2,hP21,_⟩:=hUj.unit
   obtain⟨ji,hji,hjs⟩:=t1_
   refine⟨fun _=>rfl,some ⟨aj.dv,0,none⟩,fun _=>hUj.cellU fun P=>rfl,?_⟩
   by_cases e:aj.ub=a.ub
   ·refine⟨false,fun _=>by rw[e];exact qe_ v _ k7_ hji,aj_ rfl (J v ⟨P1,hkv,?_,?_⟩)⟩
    ·dsimp only;rw[if_pos e,List.append_nil];exact hbv
    ·dsimp only;rw[if_pos e,List.append_nil];exact hov
   ·refine⟨true,fun _=>oX_ v k7_ hji hjs (fun q=>e (congrArg Addr.block q)) hP21 hbv,am_ rfl ⟨rfl,P1,?_,?_⟩⟩
    ·rw[hbv.cell];rfl
    dsimp only at J
    rw[if_neg e] at J
    refine aN_ (cells:=#[.pointer (some ⟨aj.ub,0,none⟩)]) (e:=aL_) (z:=1) (base:=0) (t2_ _ _) rfl d_ (Nat.zero_le _) fun v1 ho1 hg1 _=>?_
    have sz0:=hkv.size
    have sz1:=hg1.size
    refine aZ_ mJ_ oT_ rfl d_ d_ (hov.grow hg1) (ho1.rd (by show 1≤_;decide)) (by simp[Value.oneCell']) (by show(P1.n+1)*8≤_;omega) o_ fun P3 v2 hn3 ho3 hk3 hat3=>?_
    have hb1v:Blk v1 a.ub (cQ_ a P1 {s with peers:=bH_ a.ub (xs.take j)}) bi_:=hg1.heap hbv (fun q=>q)
    have hne3:∀b,some b=P1.blk→b≠a.ub∧w.heap.size≤b:=fun b hb=>by
     obtain⟨cur,hc⟩:=a4_ (hov.grow hg1) hb.symm
     refine⟨fun q=>?_,(hov.ge b hb.symm).1⟩
     subst q
     exact absurd (bq_ hb1v hc) d_
    have hb2:Blk v2 a.ub (cQ_ a P1 {s with peers:=bH_ a.ub (xs.take j)}) bi_:=hk3.heap hb1v fun q=>(hne3 _ q).1 rfl
    refine⟨rfl,?_⟩
    refine a0_ hb2 (by show 10<16;decide) rfl fun v3 hb3 hk33 hs3=>J v3 ⟨P3,?_,hb3,?_⟩
    ·exact((hkv.grow hg1).trans hk3 fun b hb q=>by have:=(hne3 b q).2;omega).trans hk33 fun _ _ q=>q
    ·have ho3':CF.Own v2 w.heap.size aL_ 1 P3 ((bH_ a.ub (xs.take j)++[aj.ub]).map ptr):=by rw[List.map_append];exact ho3
     refine ho3'.keep hk33 fun b hb q=>?_
     obtain⟨cur,hc⟩:=a4_ ho3' hb
     subst q
     exact absurd (bq_ hb2 hc) d_
 ·have:j=xs.length:=o_
  subst this
  rw[List.take_length] at Hv
  exact hR v hm Hv
end
open Go CF
section
variable {w u v:World} {N N' S D:Nat→Prop} {pw i n:Nat} {a:UA} {s:USt} {st:Wst} {F:Int→Bool} {ℓ ℓ':Nat→Option Nat} {us:List (UA×USt)}
open Classical in
theorem Sys.world0 (h:ba_ w pw D st F):∃ℓ:Nat→Option Nat,Sys w ℓ pw st F []∧∀b,¬D b→ℓ b=none:=
 ⟨fun b=>if D b then some 0 else none,⟨⟨D,h,fun k hk=>if_pos hk⟩,fun i hi=>absurd hi (Nat.not_lt_zero i),fun k hk=>by
  by_cases q:D k
  ·exact h.lt q
  ·exact absurd (if_neg q) hk⟩,fun b hb=>if_neg hb⟩
def jK_ (i prot:Nat):eF_:=⟨s_V,s_P,s_1,if i=0 then uG_ else uH_,prot⟩
def nmL (i:Nat):ByteArray:=if i=0 then s_a else s_b
theorem ws_ (i prot:Nat):sI_ (jK_ i prot):=by
 refine⟨by show s_V.size≤_;decide,by show s_P.size≤_;decide,by show s_1.size≤_;decide,?_⟩
 show(if i=0 then uG_ else uH_).size≤_
 split<;>decide
theorem oD_ {i prot:Nat} (hi:i<2) (h:prot≤3):dE_ (jK_ i prot)=true:=by
 have:∀(i:Fin 2) (p:Fin 4),dE_ (jK_ i.val p.val)=true:=by decide +kernel
 exact this ⟨i,hi⟩ ⟨prot,o_⟩
theorem wt_ {i:Nat} (hi:i<2):g5_ (nmL i) 24=false:=by
 have:∀i:Fin 2,g5_ (nmL i.val) 24=false:=by decide +kernel
 exact this ⟨i,hi⟩
theorem vl_ (w:World) (x y:ByteArray):(Instr.buildSlice ht_ 2 #[(0,.string x),(1,.string y)]).run Tryz.prog w=.ok (.slice (some ⟨w.heap.size,0,none⟩) 2 2) (w.alloc (.cells #[.string x,.string y] gt_)):=k_
theorem qh_ {x y:ByteArray} (hb:Blk w n #[.string x,.string y] gt_) (hi:i<2):w.cell? ((gA (some (⟨n,0,none⟩:Addr))).add ((i:Int).toNat*1))=some (.string (if i=0 then x else y)):=by
 rw[gA,aq_,hb.cell,Int.toNat_natCast]
 match i,hi with
 | 0,_=>rfl
 | 1,_=>rfl
theorem lB_ {x y:ByteArray} {K:Sl→W_} (h:∀b w',ab_ w w'→Blk w' b #[.string x,.string y] gt_→K ⟨some ⟨b,0,none⟩,2,2⟩ w'):an_ Tryz.prog .sl (Instr.buildSlice ht_ 2 #[(0,.string x),(1,.string y)]) w K:=by
 refine⟨⟨some ⟨w.heap.size,0,none⟩,2,2⟩,_,vl_ w x y,h _ _ (dh_ w _) ?_⟩
 exact heap_alloc_new w _
theorem mp_ {prot:Nat} {R:A_→W_} (hi:i<2) (h:∀w',ab_ w w'→R (eG_ (jK_ i prot)).toArray w'):cf_ (i:Int) (prot:Int) w R:=by
 refine d2_.calls _ _ _ _ (ag_ fun ab w1 hab hb1 hg1 hs1=>lB_ fun b w2 hg2 hb2=>?_)
 refine⟨⟨o_,by show(i:Int)<2;omega,rfl⟩,_,qh_ hb2 hi,?_⟩
 refine ap_ (cells:=(eG_ (jK_ i prot)).toArray) (hg2.heap hb1 (fun q=>q)) ii_ rfl rfl (by simp[eG_,Value.oneCell']) fun w3 hb3 hk3 hs3=>⟨_,aE_ (cs:=eG_ (jK_ i prot)) ku_ ii_ rfl (ar_ hb3),h w3 ((hg1.trans hg2).keep hk3 fun i hi q=>o_)⟩
theorem t3_ (u:World) (v p r s:ByteArray) (prot n:Int):(Instr.build a5_ #[(0,.agg #[.string v,.string p,.string r,.string s,.int .u8 prot]),(1,.int .i64 n)]).run Tryz.prog u=.ok (.agg #[.string v,.string p,.string r,.string s,.int .u8 prot,.int .i64 n]) u:=k_
def aO_ (i prot:Nat) (ps:List Nat):USt:={xi_ (jK_ i prot) (nmL i) 24 with peers:=ps}
theorem Sys.ub_ne (H:Sys w ℓ pw st F us) {i j:Nat} (hi:i<us.length) (hj:j<us.length) (h:i≠j):us[i].1.ub≠us[j].1.ub:=fun q=>by
 have h1:=(H.U i hi).2 _ (da_ _).1
 have h2:=(H.U j hj).2 _ (da_ _).1
 rw[q,h2] at h1
 injection h1 with h1
 omega
theorem wu_ (w:World) (x y:O_):(Instr.buildSlice iM_ 3 #[(0,.pointer x),(1,.pointer none),(2,.pointer y)]).run Tryz.prog w=.ok (.slice (some ⟨w.heap.size,0,none⟩) 3 3) (w.alloc (.cells #[.pointer x,.pointer none,.pointer y] aL_)):=k_
theorem nw_ {prot:Nat} {R:A_→W_} (H:Sys w ℓ pw st F []) (hpr:prot≤3)
  (hR:∀u ℓ' a0 a1,Mv w u ℓ ℓ'→Sys u ℓ' pw st F [(a0,aO_ 0 prot [a1.ub]),(a1,aO_ 1 prot [a0.ub])]→R #[.pointer (some ⟨a0.ub,0,none⟩),.pointer (some ⟨a1.ub,0,none⟩)] u):b4_ (some ⟨pw,0,none⟩) (prot:Int) w R:=by
 refine dq_.calls _ _ _ _ (ag_ fun rb w1 hrb hr1 hg1 hs1=>ag_ fun qb w2 hqb hq2 hg2 hs2=>?_)
 have hg02:=hg1.trans hg2
 have H2:=H.grow hg02
 have hrn:ℓ rb=none:=H.fresh o_
 have hqn:ℓ qb=none:=H.fresh o_
 have hr2:Blk w2 rb #[.pointer none,.pointer none] b9_:=hg2.heap hr1 (fun q=>q)
 have lq:w.heap.size≤qb:=o_
 have neq:rb≠qb:=o_
 let St:World→(Nat→Option Nat)→List (UA×USt)→A_→Prop:=fun v ℓ' us cs=>Mv w v ℓ ℓ'∧Sys v ℓ' pw st F us∧ℓ' qb=none∧ℓ' rb=none∧Blk v rb #[.pointer none,.pointer none] b9_∧Blk v qb cs b9_
 have St_go:∀{v v':World} {ℓ' ℓ'':Nat→Option Nat} {us us':List (UA×USt)} {cs:A_},St v ℓ' us cs→Mv v v' ℓ' ℓ''→Sys v' ℓ'' pw st F us'→St v' ℓ'' us' cs:=fun {v v' ℓ' ℓ'' us us' cs} h m H'=>by
  obtain⟨m0,H0,n1,n2,b1,b2⟩:=h
  exact⟨m0.trans m,H',(m.lab _ (aw_ b2)).trans n1,(m.lab _ (aw_ b1)).trans n2,m.heap b1 n2,m.heap b2 n1⟩
 have S2:St w2 ℓ [] #[.pointer none,.pointer none]:=⟨Mv.grow hg02,H2,hqn,hrn,hr2,hq2⟩
 have body:∀{v v4:World} {k:Nat} {ℓ':Nat→Option Nat} {us:List (UA×USt)} {cs:A_} {C:W_},k<2→cs.size=2→St v ℓ' us cs→ab_ v v4→
   (∀a' ℓ5 u',St u' ℓ5 (us++[(a',aO_ k prot [])]) (cs.setIfInBounds k (.pointer (some ⟨a'.ub,0,none⟩)))→C u')→
   fl_ (some ⟨pw,0,none⟩) (nmL k) (fS_ (jK_ k prot) 24).toArray v4 fun p1 n1 w010=>(0≤(k:Int)∧(k:Int)<(2:Int))∧Put ((⟨qb,0,none⟩:Addr).add ((k:Int).toNat*1)) (.pointer p1) w010 C:=by
  intro v v4 k ℓ' us cs C hk2 hcs hS hg4 hC
  refine vk_ (ws_ k prot) (fun q=>by rw[wt_ hk2] at q;cases q) (fun _ q=>by rw[oD_ hk2 hpr] at q;cases q) fun _ _ a' u' hgu ha hU=>⟨⟨o_,o_⟩,?_⟩
  obtain⟨ℓ5,m5,H5⟩:=(hS.2.1.grow hg4).add hgu ha hU
  obtain⟨m0,_,n1,n2,b1,b2⟩:=St_go hS ((Mv.grow hg4).trans m5) H5
  rw[aq_,Int.toNat_natCast,Nat.mul_one,Nat.zero_add]
  refine a0_ b2 o_ rfl fun u3 hb3 hk3 hs3=>hC a' ℓ5 u3 ⟨m0.loc hk3 fun b hb q=>o_,H5.local1 b2 n1 hk3 (eJ_ d_ d_ d_) d_,n1,n2,hk3.heap b1 neq,hb3⟩
 have round:∀{v:World} {k:Nat} {ℓ':Nat→Option Nat} {us:List (UA×USt)} {cs:A_} {C:W_},k<2→cs.size=2→St v ℓ' us cs→
   (∀a' ℓ5 u',St u' ℓ5 (us++[(a',aO_ k prot [])]) (cs.setIfInBounds k (.pointer (some ⟨a'.ub,0,none⟩)))→C u')→
   ∀w03,w03=v.drew→∃S:W_,S w03∧(an_ Tryz.prog .sl (Instr.buildSlice ht_ 2 #[(0,.string s_a),(1,.string s_b)]) w03 fun xs w04=>S w04∧(0≤(k:Int)∧(k:Int)<(xs.n:Int)∧xs.A.isSome=true)∧∃S1:W_,S1 w04∧(∀u1,S1 u1→S u1)∧∃s:ByteArray,(∀u2,S1 u2→u2.cell? ((gA xs.A).add ((k:Int).toNat*1))=some (.string s))∧cf_ (k:Int) (prot:Int) w04 fun g w05=>S1 w05∧∃S2:W_,S2 w05∧(∀u3,S2 u3→S1 u3)∧∃g1:A_,(∀u4,S2 u4→(Instr.build a5_ #[(0,.agg g),(1,.int .i64 24)]).run Tryz.prog u4=.ok (.agg g1) u4)∧fl_ (some ⟨pw,0,none⟩) s g1 w05 fun p n w06=>(0≤(k:Int)∧(k:Int)<(2:Int))∧Put ((⟨qb,0,none⟩:Addr).add ((k:Int).toNat*1)) (.pointer p) w06 C)∧
    cf_ (k:Int) (prot:Int) w03 fun g2 w08=>S w08∧∃S3:W_,S3 w08∧(∀u5,S3 u5→S u5)∧∃g3:A_,(∀u6,S3 u6→(Instr.build a5_ #[(0,.agg g2),(1,.int .i64 24)]).run Tryz.prog u6=.ok (.agg g3) u6)∧an_ Tryz.prog .sl (Instr.buildSlice ht_ 2 #[(0,.string s_a),(1,.string s_b)]) w08 fun xs1 w09=>S3 w09∧(0≤(k:Int)∧(k:Int)<(xs1.n:Int)∧xs1.A.isSome=true)∧∃S4:W_,S4 w09∧(∀u7,S4 u7→S3 u7)∧∃s1:ByteArray,(∀u8,S4 u8→u8.cell? ((gA xs1.A).add ((k:Int).toNat*1))=some (.string s1))∧fl_ (some ⟨pw,0,none⟩) s1 g3 w09 fun p1 n1 w010=>(0≤(k:Int)∧(k:Int)<(2:Int))∧Put ((⟨qb,0,none⟩:Addr).add ((k:Int).toNat*1)) (.pointer p1) w010 C:=by
  intro v k ℓ' us cs C hk2 hcs hS hC w03 e3
  subst e3
  have hgd:=ak_ v
  have hbld:∀u:World,(Instr.build a5_ #[(0,.agg (eG_ (jK_ k prot)).toArray),(1,.int .i64 24)]).run Tryz.prog u=.ok (.agg (fS_ (jK_ k prot) 24).toArray) u:=fun u=>t3_ u _ _ _ _ _ _
  refine⟨fun _=>True,trivial,?_,?_⟩
  ·refine lB_ fun b v4 hg4 hb4=>⟨trivial,⟨o_,by show(k:Int)<2;omega,rfl⟩,fun o=>Blk o b #[.string s_a,.string s_b] gt_,hb4,fun _ _=>trivial,_,fun o q=>qh_ q hk2,mp_ hk2 fun v5 hg5=>?_⟩
   have hb5:Blk v5 b #[.string s_a,.string s_b] gt_:=hg5.heap hb4 (fun q=>q)
   exact⟨hb5,fun o=>Blk o b #[.string s_a,.string s_b] gt_,hb5,fun _ q=>q,_,fun o _=>hbld o,body hk2 hcs hS ((hgd.trans hg4).trans hg5) hC⟩
  ·refine mp_ hk2 fun v4 hg4=>⟨trivial,fun _=>True,trivial,fun _ _=>trivial,_,fun o _=>hbld o,lB_ fun b v5 hg5 hb5=>?_⟩
   exact⟨trivial,⟨o_,by show(k:Int)<2;omega,rfl⟩,fun o=>Blk o b #[.string s_a,.string s_b] gt_,hb5,fun _ _=>trivial,_,fun o q=>qh_ q hk2,body hk2 hcs hS ((hgd.trans hg4).trans hg5) hC⟩
 refine⟨fun x v=>(x=0∧St v ℓ [] #[.pointer none,.pointer none])∨(x=1∧∃ℓ' a0,St v ℓ' [(a0,aO_ 0 prot [])] #[.pointer (some ⟨a0.ub,0,none⟩),.pointer none])∨(x=2∧∃ℓ' a0 a1,St v ℓ' [(a0,aO_ 0 prot []),(a1,aO_ 1 prot [])] #[.pointer (some ⟨a0.ub,0,none⟩),.pointer (some ⟨a1.ub,0,none⟩)]),
  fun x _=>2-x.toNat,.inl ⟨rfl,S2⟩,?_⟩
 rintro x v (⟨rfl,hS⟩|⟨rfl,ℓ',a0,hS⟩|⟨rfl,ℓ',a0,a1,hS⟩)
 ·exact am_ rfl (round (k:=0) d_ rfl hS fun a' ℓ5 u' h=>⟨.inr (.inl ⟨rfl,ℓ5,a',h⟩),by show(2-(IntKind.wrap .i64 (0+1)).toNat<2-(0:Int).toNat);decide⟩)
 ·exact am_ rfl (round (k:=1) d_ rfl hS fun a' ℓ5 u' h=>⟨.inr (.inr ⟨rfl,ℓ5,a0,a',h⟩),by show(2-(IntKind.wrap .i64 (1+1)).toNat<2-(1:Int).toNat);decide⟩)
 refine aj_ rfl ?_
 obtain⟨m0,Hv,n1,n2,b1,b2⟩:=hS
 have c0:∀{v:World},Blk v qb #[.pointer (some ⟨a0.ub,0,none⟩),.pointer (some ⟨a1.ub,0,none⟩)] b9_→v.cell? ((⟨qb,0,none⟩:Addr).add ((0:Int).toNat*1))=some (.pointer (some ⟨a0.ub,0,none⟩)):=fun q=>by rw[aq_,Blk.cell q];rfl
 have c1:∀{v:World},Blk v qb #[.pointer (some ⟨a0.ub,0,none⟩),.pointer (some ⟨a1.ub,0,none⟩)] b9_→v.cell? ((⟨qb,0,none⟩:Addr).add ((1:Int).toNat*1))=some (.pointer (some ⟨a1.ub,0,none⟩)):=fun q=>by rw[aq_,Blk.cell q];rfl
 have hne:a0.ub≠a1.ub:=Hv.ub_ne (i:=0) (j:=1) (by show 0<2;decide) (by show 1<2;decide) d_
 refine⟨⟨d_,d_⟩,_,c0 b2,⟨d_,d_⟩,_,c0 b2,⟨d_,d_⟩,_,c1 b2,?_⟩
 have S3:St v ℓ' [(a0,aO_ 0 prot []),(a1,aO_ 1 prot [])] #[.pointer (some ⟨a0.ub,0,none⟩),.pointer (some ⟨a1.ub,0,none⟩)]:=⟨m0,Hv,n1,n2,b1,b2⟩
 refine aN_ (cells:=#[.pointer (some ⟨a0.ub,0,none⟩),.pointer none,.pointer (some ⟨a1.ub,0,none⟩)]) (e:=aL_) (z:=1) (base:=v.heap.size) (wu_ _ _ _) rfl d_ (Nat.le_refl _) fun v1 ho1 hg1 _=>?_
 have S4:=St_go S3 (Mv.grow hg1) (Hv.grow hg1)
 have hx1:RdX v1 ℓ' 1 ⟨some ⟨v.heap.size,0,none⟩,3,3⟩ ([some a0.ub,none,some a1.ub].map qf_):=⟨ho1.rd (by show 3≤_;decide),fun _ a ha=>by
  injection ha with ha;subst ha
  exact⟨(ho1.ge v.heap.size (by simp[Sl.blk])).2,Hv.fresh (Nat.le_refl _)⟩⟩
 refine nv_ (i:=0) (xs:=[some a0.ub,none,some a1.ub]) S4.2.1 (by show 0<2;decide) rfl hx1 (fun c hc=>?_) (by show 3≤1000;decide) fun v2 m2 H2'=>?_
 ·simp only[List.mem_cons,Option.some.injEq,List.not_mem_nil,or_false,reduceCtorEq,false_or] at hc
  rcases hc with rfl|rfl
  ·exact⟨0,by show 0<2;decide,rfl⟩
  ·exact⟨1,by show 1<2;decide,rfl⟩
 have e0:bH_ a0.ub [some a0.ub,none,some a1.ub] = [a1.ub]:=by simp[bH_,hne.symm]
 rw[e0] at H2'
 have S5:=St_go S4 m2 H2'
 refine⟨⟨d_,d_⟩,_,c1 S5.2.2.2.2.2,⟨d_,d_⟩,_,c0 S5.2.2.2.2.2,?_⟩
 refine aN_ (cells:=#[.pointer (some ⟨a0.ub,0,none⟩)]) (e:=aL_) (z:=1) (base:=v2.heap.size) (t2_ _ _) rfl d_ (Nat.le_refl _) fun v3 ho3 hg3 _=>?_
 have S6:=St_go S5 (Mv.grow hg3) (H2'.grow hg3)
 have hx3:RdX v3 ℓ' 1 ⟨some ⟨v2.heap.size,0,none⟩,1,1⟩ ([some a0.ub].map qf_):=⟨ho3.rd (by show 1≤_;decide),fun _ a ha=>by
  injection ha with ha;subst ha
  exact⟨(ho3.ge v2.heap.size (by simp[Sl.blk])).2,H2'.fresh (Nat.le_refl _)⟩⟩
 refine nv_ (i:=1) (xs:=[some a0.ub]) S6.2.1 (by show 1<2;decide) rfl hx3 (fun c hc=>⟨0,by show 0<2;decide,by simp at hc;exact hc.symm⟩) (by show 1≤1000;decide) fun v4 m4 H4'=>?_
 have e1:bH_ a1.ub [some a0.ub] = [a0.ub]:=by simp[bH_,hne]
 rw[e1] at H4'
 have S7:=St_go S6 m4 H4'
 obtain⟨m7,H7,_,n7,b71,b72⟩:=S7
 refine⟨_,aE_ (cs:=[.pointer (some ⟨a0.ub,0,none⟩),.pointer (some ⟨a1.ub,0,none⟩)]) jc_ e6_ rfl (ar_ b72),?_⟩
 refine ap_ (cells:=#[.pointer (some ⟨a0.ub,0,none⟩),.pointer (some ⟨a1.ub,0,none⟩)]) b71 e6_ rfl rfl (by simp[Value.oneCell']) fun v5 hb5 hk5 hs5=>?_
 refine⟨_,aE_ (cs:=[.pointer (some ⟨a0.ub,0,none⟩),.pointer (some ⟨a1.ub,0,none⟩)]) jc_ e6_ rfl (ar_ hb5),?_⟩
 exact hR v5 ℓ' a0 a1 (m7.loc hk5 fun b hb q=>o_) (H7.local1 b71 n7 hk5 (eJ_ d_ d_ d_) d_)
end
open Go CF
section
variable {w0 u u':World} {p s:Sl} {os l:L8} {xs:List (Sl×L8)}
end
open Go CF
section
variable {w u:World} {base:Nat} {s:Sl} {l:L8}
end
open Go CF
section
variable {w u:World} {base:Nat} {s:Sl} {l:L8}
end
open Go CF
def l1_ (l:L8) (n:Nat):L8:=l++List.replicate (n-l.length) 32
def n7_ (i:eF_):L8:=if dE_ i=false then [] else [0,0,6,2,31,if 0<i.prot then 1 else 0,0,2]++l1_ (ls i.v) 8++l1_ (ls i.p) 16++l1_ (ls i.r) 4
def idL (i:eF_):L8:=l1_ (ls i.v) 8++ls i.s
def vX_ (i:eF_) (page:Nat):Option L8:=
 if page=0 then some [0,128,131,176,178] else if page=128 then some (ls i.s) else if page=131 then some ([2,1,0,UInt8.ofNat (idL i).length]++idL i)
 else if page=176 then some (lay (lay (lay ([0,255]++List.replicate 58 0) 4 4 256) 16 4 256) 20 4 8) else if page=178 then some [0,224,2,0] else none
def jt_ (i:eF_) (page:Nat):Option L8:=if dE_ i=false then none else(vX_ i page).map fun b=>[0,UInt8.ofNat page,0,UInt8.ofNat b.length]++b
def mY_ (l:L8) (alloc:Int):L8:=l.take (min (max alloc 0) l.length).toNat
def vY_ (l:List Nat):L8:=lay (List.replicate 8 0) 0 4 (8*l.length)++l.flatMap fun n=>[0,UInt8.ofNat n,0,0,0,0,0,0]
section
variable {w u:World}
theorem oE_ (l:L8) (n:Nat):(l1_ l n).length=max l.length n:=by unfold l1_;rw[List.length_append,List.length_replicate];omega
theorem iw_ {i:eF_} (h:dE_ i=true):i.v.size≤8∧i.p.size≤16∧i.r.size≤4∧1≤i.s.size∧i.s.size≤20∧i.prot≤3:=by
 unfold dE_ gn_ at h
 simp only[Bool.and_eq_true,decide_eq_true_eq] at h
 omega
theorem iW_ {p:Sl} {l:L8} {alloc:Int} {R:Sl→W_} (hp:Rd w 1 p (bv l)) (hn:p.n≤1000000) (h:∀xs w',ab_ w w'→Own w' w.heap.size ae_ 1 xs (bv (mY_ l alloc))→R xs w'):cG_ p alloc w R:=by
 refine kw_.calls _ _ _ _ ?_
 have hl:=cV_ hp
 have hcap:=hp.cap
 have e:(mn (mx alloc 0) (p.n:Int)).toNat=(min (max alloc 0) l.length).toNat:=by unfold mn mx;split<;>split<;>omega
 have e2:(min (max alloc 0) l.length).toNat≤p.n:=o_
 refine⟨⟨d_,by unfold mn mx;split<;>split<;>omega,by unfold mn mx;split<;>split<;>omega,hcap⟩,?_⟩
 rw[e]
 have hc:=hp.cutB (l:=0) (k:=(min (max alloc 0) l.length).toNat) (Nat.zero_le _) e2
 rw[List.drop_zero,Nat.sub_zero] at hc
 refine aZ_ aX_ bE_ rfl d_ d_ (aH_ w w.heap.size _ _) hc (dg_ _) (by show(0+((min (max alloc 0) l.length).toNat-0))*1≤_;omega) (Nat.le_refl _) fun s' w' hn' ho hk _=>h s' w' (hk.mono fun _ _ q=>by cases q) ho
end
open Go CF
section
variable {w u:World}
theorem wv_ {i:eF_} (hf:dE_ i=true):(idL i).length≤28:=by
 obtain⟨z1,z2,z3,z4,z5,z6⟩:=iw_ hf
 have l1:=gB_ i.v
 have l2:=gB_ i.s
 unfold idL
 rw[List.length_append,oE_];omega
def yi_ (l:List Nat):List Value:=l.map fun n:Nat=>.int .i64 (n:Int)
end
open Go CF
structure SnB (s:Sn):Prop where
 key:s.key<256
 code:s.code<65536
 info:s.info<18446744073709551616
def vZ_ (s:Sn):Bool:=
 decide (s.key≤15)&&(s.hi||decide (s.info=0)) &&
 (if s.hf=true then decide (0≤s.field)&&decide (s.field≤65535)&&decide (-1≤s.bit)&&decide (s.bit≤7) else decide (s.field=0)&&decide (s.bit=0) && !s.ic)
def yj_ (s:Sn):Nat:=(if s.ic then 192 else 128)+(if 0≤s.bit then 8+s.bit.toNat else 0)
def sK_ (s:Sn):L8:=[UInt8.ofNat (yj_ s),UInt8.ofNat (s.field.toNat/256),UInt8.ofNat s.field.toNat]
def qi_ (s:Sn):L8:=[if s.hi then 240 else 112,0,UInt8.ofNat s.key]++(if s.hi then beN 4 s.info else [0,0,0,0])++[10,0,0,0,0,UInt8.ofNat (s.code/256),UInt8.ofNat s.code,0]++(if s.hf then sK_ s else [0,0,0])
def iX_ (s:Sn):L8×Nat:=if vZ_ s=false then([],3) else if s.hi=true∧4294967295<s.info then([],4) else(qi_ s,0)
def sL_ (s:Sn):L8:=(if s.hi then [0,10,128,0]++beN 8 s.info else [])++(if s.hf then [2,6,0,0]++sK_ s++[0] else [])
def sM_ (s:Sn):L8:=[114,UInt8.ofNat s.key,UInt8.ofNat (s.code/256),UInt8.ofNat s.code,0,0,0,UInt8.ofNat (sL_ s).length]++sL_ s
def kR_ (s:Sn):L8×Nat:=if vZ_ s=false then([],3) else(sM_ s,0)
section
variable {w u:World} {s:Sn}
end
open Go CF
section
variable {w u:World} {s:Sn}
end
open Go CF
section
variable {w u:World} {s:Sn}
end
open Go CF
def fg_ (v:aU_):L8:=[8,18,if v.wce then 4 else 0]++List.replicate 17 0
def g6_ (v:aU_):L8:=[10,10,if v.ds then 4 else 0,0,if v.swp then 8 else 0]++List.replicate 7 0
def eR_ (now saved:aU_) (k:Nat):aU_:=if k=1 then⟨true,true,true⟩ else if k=2 then v0 else if k=3 then saved else now
def bU_ (now saved:aU_) (c:Cm):L8:=(if c.page=8∨c.page=63 then fg_ (eR_ now saved c.control) else [])++(if c.page=10∨c.page=63 then g6_ (eR_ now saved c.control) else [])
def j7_ (now:aU_) (c:Cm) (n:Nat):L8:=if c.long then [0,UInt8.ofNat (6+n),0,if now.swp then 144 else 16,0,0,0,0] else [UInt8.ofNat (3+n),0,if now.swp then 144 else 16,0]
def ch_ (now saved:aU_) (c:Cm):Option L8:=if bU_ now saved c = [] then none else some (j7_ now c (bU_ now saved c).length++bU_ now saved c)
def eg_ (field:Nat) (bit:Int) (cmd:Bool):Sn:=⟨5,if cmd then 0x2400 else 0x2600,0,false,(field:Int),bit,true,cmd⟩
section
variable {w u:World}
theorem dF_ {b o:Nat} {v:aU_} (h:bY_ w ⟨b,o,none⟩ (vlv v)):(loadVar aA_ ⟨b,o,none⟩).run Tryz.prog w=.ok (.agg (vlv v).toArray) w:=aE_ (cs:=vlv v) eM_ a8_ rfl h
theorem j8_ {b o:Nat} {v:aU_} {x:Value} (h:Blk w b (vlv v).toArray aA_) (e:(vlv v)[o]?=some x):w.cell? ((⟨b,0,none⟩:Addr).add o)=some x:=by
 rw[aq_,h.cell,Nat.zero_add,List.getElem?_toArray];exact e
theorem oF_ {v:aU_} {R:Sl→W_} (h:∀xs w',ab_ w w'→Own w' w.heap.size ae_ 1 xs (bv (fg_ v))→R xs w'):f7_ (vlv v).toArray w R:=by
 refine gd_.calls _ _ _ (ag_ fun vb w1 hvb hb1 hg1 hs1=>?_)
 have hb1:Blk w1 vb (vlv v).toArray aA_:=hb1
 refine hZ_ (n:=20) aX_ bE_ rfl d_ d_ (base:=w1.heap.size) (Nat.le_refl _) fun w2 ho2 hg2 hs2=>?_
 refine⟨⟨d_,by dsimp only;decide,rfl⟩,en_ (i:=0) ho2 (by dsimp only;decide) rfl fun w3 ho3 hk3 _=>⟨⟨d_,by dsimp only;decide,rfl⟩,en_ (i:=1) ho3 (by dsimp only;decide) rfl fun w4 ho4 hk4 _=>?_⟩⟩
 have gk:∀{x y:World},ab_ w1 x→aa_ (fun k=>some k=(⟨some ⟨w1.heap.size,0,none⟩,20,20⟩:Sl).blk) x y→ab_ w1 y:=fun g k=>g.keep k fun i hi q=>absurd hi (by have q:i=w1.heap.size:=(by injection q);omega)
 have g4:=gk (gk hg2 hk3) hk4
 have hb4:Blk w4 vb (vlv v).toArray aA_:=g4.heap hb1 (fun q=>q)
 refine⟨v.wce,j8_ hb4 rfl,?_⟩
 cases hv:v.wce with
 | false=>
  refine aj_ rfl (h _ w4 (hg1.trans g4) ?_)
  have:fg_ v = [8,18,0]++List.replicate 17 0:=by unfold fg_;rw[hv];rfl
  rw[this];exact ho4.mono hg1.size
 | true=>
  refine am_ rfl ⟨⟨d_,by dsimp only;decide,rfl⟩,en_ (i:=2) ho4 (by dsimp only;decide) rfl fun w5 ho5 hk5 _=>h _ w5 (hg1.trans (gk g4 hk5)) ?_⟩
  have:fg_ v = [8,18,4]++List.replicate 17 0:=by unfold fg_;rw[hv];rfl
  rw[this];exact ho5.mono hg1.size
theorem oG_ {v:aU_} {R:Sl→W_} (h:∀xs w',ab_ w w'→Own w' w.heap.size ae_ 1 xs (bv (g6_ v))→R xs w'):f8_ (vlv v).toArray w R:=by
 refine ge_.calls _ _ _ (ag_ fun vb w1 hvb hb1 hg1 hs1=>?_)
 have hb1:Blk w1 vb (vlv v).toArray aA_:=hb1
 refine hZ_ (n:=12) aX_ bE_ rfl d_ d_ (base:=w1.heap.size) (Nat.le_refl _) fun w2 ho2 hg2 hs2=>?_
 refine⟨⟨d_,by dsimp only;decide,rfl⟩,en_ (i:=0) ho2 (by dsimp only;decide) rfl fun w3 ho3 hk3 _=>⟨⟨d_,by dsimp only;decide,rfl⟩,en_ (i:=1) ho3 (by dsimp only;decide) rfl fun w4 ho4 hk4 _=>?_⟩⟩
 have gk:∀{x y:World},ab_ w1 x→aa_ (fun k=>some k=(⟨some ⟨w1.heap.size,0,none⟩,12,12⟩:Sl).blk) x y→ab_ w1 y:=fun g k=>g.keep k fun i hi q=>absurd hi (by have q:i=w1.heap.size:=(by injection q);omega)
 have g4:=gk (gk hg2 hk3) hk4
 have hb4:Blk w4 vb (vlv v).toArray aA_:=g4.heap hb1 (fun q=>q)
 refine⟨v.ds,j8_ hb4 rfl,?_⟩
 refine cu_ (fun o=>ab_ w1 o∧Own o w1.heap.size ae_ 1 ⟨some ⟨w1.heap.size,0,none⟩,12,12⟩ (bv ([10,10,if v.ds then 4 else 0,0,0]++List.replicate 7 0))) ?_ (fun J=>?_)
 ·rintro o ⟨go,oo⟩
  have bo:=go.heap hb1 (fun q=>q)
  refine⟨v.swp,j8_ bo rfl,?_⟩
  cases hv:v.swp with
  | false=>
   refine aj_ rfl (h _ o (hg1.trans go) ?_)
   have:g6_ v = [10,10,if v.ds then 4 else 0,0,0]++List.replicate 7 0:=by unfold g6_;rw[hv];rfl
   rw[this];exact oo.mono hg1.size
  | true=>
   refine am_ rfl ⟨⟨d_,by dsimp only;decide,rfl⟩,en_ (i:=4) oo (by dsimp only;decide) rfl fun w5 ho5 hk5 _=>h _ w5 (hg1.trans (gk go hk5)) ?_⟩
   have:g6_ v = [10,10,if v.ds then 4 else 0,0,8]++List.replicate 7 0:=by unfold g6_;rw[hv];rfl
   rw[this];exact ho5.mono hg1.size
 ·cases hv:v.ds with
  | false=>exact aj_ rfl (J w4 ⟨g4,by rw[hv];exact ho4⟩)
  | true=>exact am_ rfl ⟨⟨d_,by dsimp only;decide,rfl⟩,en_ (i:=2) ho4 (by dsimp only;decide) rfl fun w5 ho5 hk5 _=>J w5 ⟨gk g4 hk5,by rw[hv];exact ho5⟩⟩
theorem lC_ {field:Nat} {bit:Int} {cmd:Bool} {R:A_→W_} (h:∀w',ab_ w w'→R (snv (eg_ field bit cmd)).toArray w'):et_ (field:Int) bit cmd w R:=by
 refine jk_.calls _ _ _ _ _ (ag_ fun ab w1 hab hb1 hg1 hs1=>?_)
 refine bc_ (fun(x:Int) o=>o=w1∧x=((if cmd then 0x2400 else 0x2600:Nat):Int)) ?_ (fun J=>?_)
 ·rintro x o ⟨rfl,rfl⟩
  refine ap_ (cells:=(snv (eg_ field bit cmd)).toArray) hb1 aV_ rfl rfl (by simp[snv,Value.oneCell']) fun w2 hb2 hk2 _=>⟨_,fK_ (ar_ hb2),h w2 (hg1.keep hk2 fun i hi q=>o_)⟩
 ·cases cmd with
  | true=>exact am_ rfl (J _ _ ⟨rfl,rfl⟩)
  | false=>exact aj_ rfl (J _ _ ⟨rfl,rfl⟩)
theorem nx_ {pb:Nat} {now saved:aU_} {R:A_→W_} (h:IsP w pb now saved) (hR:∀w',ab_ w w'→R (vlv saved).toArray w'):dT_ (some ⟨pb,0,none⟩) w R:=by
 refine d6_.calls _ _ _ (ag_ fun ab w1 hab hb1 hg1 hs1=>aj_ rfl ⟨rfl,(vlv saved).toArray,?_,?_⟩)
 ·have h1:IsP w1 pb now saved:=hg1.heap h (fun q=>q)
  rw[gA,aq_]
  refine dF_ fun j v hj=>?_
  rw[aq_,Blk.cell h1]
  have:((vlv now++vlv saved).toArray)[0+3+j]?=(vlv saved)[j]?:=by
   rw[List.getElem?_toArray,List.getElem?_append_right (by simp[vlv])]
   congr 1
   simp[vlv]
  rw[this];exact hj
 ·refine ap_ (cells:=(vlv saved).toArray) hb1 a8_ rfl rfl (by simp[vlv,Value.oneCell']) fun w2 hb2 hk2 _=>⟨_,dF_ (ar_ hb2),hR w2 (hg1.keep hk2 fun i hi q=>o_)⟩
end
open Go CF
section
variable {w u:World}
theorem h1_ (v:aU_):(fg_ v).length=20:=rfl
theorem h2_ (v:aU_):(g6_ v).length=12:=rfl
theorem oH_ (now saved:aU_) (c:Cm):(bU_ now saved c).length≤32:=by
 unfold bU_
 rw[List.length_append]
 have h1:(if c.page=8∨c.page=63 then fg_ (eR_ now saved c.control) else []).length≤20:=by split<;>simp[h1_]
 have h2:(if c.page=10∨c.page=63 then g6_ (eR_ now saved c.control) else []).length≤12:=by split<;>simp[h2_]
 omega
theorem ny_ {b o:Nat} {c:Cm} {x:Value} (h:Blk w b (cmv c).toArray aD_) (e:(cmv c)[o]?=some x):w.cell? ((⟨b,0,none⟩:Addr).add o)=some x:=by
 rw[aq_,h.cell,Nat.zero_add,List.getElem?_toArray];exact e
theorem sN_ {w0:World} {p:Sl} {l:L8} (h:Row w0 w p l) (hl:l.length≤1000):p.A.isNone=decide (l = [])∨l = []:=by
 by_cases e:l = []
 ·exact .inr e
 ·left
  have hp:0<l.length:=List.length_pos_iff.2 e
  obtain⟨hA,_⟩:=dC_ (h.rd o_) hp
  rw[decide_eq_false e]
  cases hq:p.A with
  | none=>rw[hq] at hA;cases hA
  | some a=>rfl
theorem ra_ {pb:Nat} {now saved:aU_} {c:Cm} {R:Sl→A_→Bool→W_} (h:IsP w pb now saved)
  (hR:match ch_ now saved c with
   | none=>∀w',ab_ w w'→R au_ (snv (eg_ 2 5 true)).toArray false w'
   | some l=>∀xs w',ab_ w w'→Own w' w.heap.size ae_ 1 xs (bv l)→R xs (snv sn0).toArray true w'):cJ_ (some ⟨pb,0,none⟩) (cmv c).toArray w R:=by
 refine d5_.calls _ _ _ _ (ag_ fun cb w1 hcb hb1 hg1 hs1=>ag_ fun ab w2 hab hb2 hg2 hs2=>?_)
 have hc2:Blk w2 cb (cmv c).toArray aD_:=hg2.heap hb1 (fun q=>q)
 have hgw2:=hg1.trans hg2
 have hp2:IsP w2 pb now saved:=hgw2.heap h (fun q=>q)
 refine hi_ hp2 fun w3 hg3=>ag_ fun vb w4 hvb hb4 hg4 hs4=>?_
 refine ap_ (cells:=(vlv now).toArray) hb4 a8_ rfl rfl (by simp[vlv,Value.oneCell']) fun w5 hb5 hk5 hs5=>?_
 have g35:ab_ w3 w5:=hg4.keep hk5 fun i hi q=>o_
 have g25:=hg3.trans g35
 have s25:=g25.size
 have s3:=hg3.size
 have l2:=aw_ hc2
 have lab:ab<w2.heap.size:=aw_ (show Blk w2 ab _ av_ from hb2)
 refine⟨(c.control:Int),ny_ (g25.heap hc2 (fun q=>q)) rfl,?_⟩
 unfold ch_ at hR
 have bl:=oH_ now saved c
 let St (V:aU_) (o:World):Prop:=aa_ (fun k=>k=vb) w2 o∧Blk o vb (vlv V).toArray aA_
 have hvs:w2.heap.size≤vb:=o_
 have toG:∀{V:aU_} {o:World},St V o→ab_ w2 o:=fun q=>⟨q.1.os,q.1.tape,q.1.output,q.1.size,fun k hk _=>q.1.block k hk o_⟩
 have stG:∀{V:aU_} {o o':World},St V o→ab_ o o'→St V o':=fun q g=>⟨q.1.grow g,g.heap q.2 (fun q=>q)⟩
 have stN:∀{V:aU_} {o:World},St V o→ab_ w o:=fun q=>hgw2.trans (toG q)
 have cC:∀{V:aU_} {o:World} {i:Nat} {x:Value},St V o→(cmv c)[i]?=some x→o.cell? ((⟨cb,0,none⟩:Addr).add i)=some x:=fun q e=>ny_ ((toG q).heap hc2 (fun q=>q)) e
 have pP:∀{V:aU_} {o:World},St V o→IsP o pb now saved:=fun q=>(toG q).heap hp2 (fun q=>q)
 refine cu_ (fun o=>St (eR_ now saved c.control) o) ?_ (fun J=>?_)
 ·intro o ho
  have eB:bU_ now saved c=(if c.page=8∨c.page=63 then fg_ (eR_ now saved c.control) else [])++(if c.page=10∨c.page=63 then g6_ (eR_ now saved c.control) else []):=rfl
  generalize hV:eR_ now saved c.control=V at *
  refine⟨(c.page:Int),cC ho rfl,(c.page:Int),fun _=>cC ho rfl,?_⟩
  have e8:(((c.page:Int)==8)||((c.page:Int)==63))=decide (c.page=8∨c.page=63):=by
   rw[Bool.eq_iff_iff,Bool.or_eq_true,beq_iff_eq,beq_iff_eq,decide_eq_true_eq];omega
  have e10:(((c.page:Int)==10)||((c.page:Int)==63))=decide (c.page=10∨c.page=63):=by
   rw[Bool.eq_iff_iff,Bool.or_eq_true,beq_iff_eq,beq_iff_eq,decide_eq_true_eq];omega
  rw[e8]
  refine bc_ (fun(b:Sl) v=>St V v∧Row o v b (if c.page=8∨c.page=63 then fg_ V else [])∧((if c.page=8∨c.page=63 then fg_ V else []) = []→b=au_)) ?_ (fun J=>?_)
  ·rintro b v ⟨hv,rb,nb⟩
   refine⟨(c.page:Int),cC hv rfl,(c.page:Int),fun _=>cC hv rfl,?_⟩
   rw[e10]
   refine bc_ (fun(b:Sl) v=>St V v∧Row o v b (bU_ now saved c)∧(bU_ now saved c = []→b=au_)) ?_ (fun J=>?_)
   ·rintro b v ⟨hv,rb,nb⟩
    by_cases hnil:bU_ now saved c = []
    ·rw[if_pos hnil] at hR
     rw[nb hnil]
     refine am_ rfl (lC_ (field:=2) (bit:=5) (cmd:=true) fun v1 g1=>?_)
     refine ap_ (cells:=(snv (eg_ 2 5 true)).toArray) (((toG hv).trans g1).heap hb2 (fun q=>q)) aV_ rfl rfl (by simp[snv,Value.oneCell']) fun v2 hb2' hk2 _=>⟨_,fK_ (ar_ hb2'),hR v2 ?_⟩
     exact((stN hv).trans g1).keep hk2 fun i hi q=>by have:=hg1.size;omega
    ·rw[if_neg hnil] at hR
     have hA:b.A.isNone=false:=by
      rcases sN_ rb o_ with q|q
      ·rw[q,decide_eq_false hnil]
      ·exact absurd q hnil
     refine aj_ hA (hi_ (pP hv) fun v1 g1=>⟨now.swp,rfl,?_⟩)
     have hv1:=stG hv g1
     have rb1:=rb.go g1
     have bn:=rb.n
     refine bc_ (fun(d:Int) o=>o=v1∧d=(((if now.swp then(144:UInt8) else 16).toNat:Nat):Int)) ?_ (fun J=>?_)
     ·rintro d o2 ⟨rfl,rfl⟩
      have e3:IntKind.wrap .u8 (IntKind.wrap .i64 (3+(b.n:Int)))=(((UInt8.ofNat (3+(bU_ now saved c).length)).toNat:Nat):Int):=by rw[w64 o_ o_,show(3+(b.n:Int))=((3+(bU_ now saved c).length:Nat):Int) by omega,bt_]
      have e6:IntKind.wrap .u8 (IntKind.wrap .i64 (6+(b.n:Int)))=(((UInt8.ofNat (6+(bU_ now saved c).length)).toNat:Nat):Int):=by rw[w64 o_ o_,show(6+(b.n:Int))=((6+(bU_ now saved c).length:Nat):Int) by omega,bt_]
      rw[e3,e6]
      generalize hdv:(if now.swp=true then(144:UInt8) else 16)=dv at *
      have hl:(Instr.buildSlice bn_ 4 #[(0,.int .u8 (((UInt8.ofNat (3+(bU_ now saved c).length)).toNat:Nat):Int)),(1,.int .u8 0),(2,.int .u8 ((dv.toNat:Nat):Int)),(3,.int .u8 0)]).run Tryz.prog o2=.ok (.slice (some ⟨o2.heap.size,0,none⟩) 4 4) (o2.alloc (.cells (bv [UInt8.ofNat (3+(bU_ now saved c).length),0,dv,0]).toArray ae_)):=k_
      refine Row.start hl rfl (by show 4≤_;decide) fun p3 v3 r3=>?_
      have hv3:=stG hv1 r3.grow
      refine⟨c.long,cC hv3 rfl,?_⟩
      have hmh:j7_ now c (bU_ now saved c).length=if c.long then [0,UInt8.ofNat (6+(bU_ now saved c).length),0,dv,0,0,0,0] else [UInt8.ofNat (3+(bU_ now saved c).length),0,dv,0]:=by unfold j7_;rw[hdv]
      refine bc_ (fun(hd:Sl) v=>∃b0,ab_ o2 b0∧Row b0 v hd (j7_ now c (bU_ now saved c).length)) ?_ (fun J=>?_)
      ·rintro hd v ⟨b0,gb,rh⟩
       have hml:(j7_ now c (bU_ now saved c).length).length≤8:=by rw[hmh];split<;>simp
       have rb2:=(rb1.go gb).go rh.grow
       refine rh.app (rb2.rd o_) o_ fun p5 v5 r5 k5=>?_
       have hv5:=stG (stG hv1 gb) r5.grow
       refine ap_ (cells:=(snv sn0).toArray) ((toG hv5).heap hb2 (fun q=>q)) aV_ rfl rfl (by simp[snv,sn0,Value.oneCell']) fun v6 hb6 hk6 _=>⟨_,fK_ (ar_ hb6),hR p5 v6 ((stN hv5).keep hk6 fun i hi q=>by have:=hg1.size;omega) ?_⟩
       exact(r5.own.mono (stN (stG hv1 gb)).size).keep hk6 fun b hb q=>r5.ne ((toG hv5).heap hb2 (fun q=>q)) d_ (by rw[←q,hb])
      ·cases hlg:c.long with
       | true=>
        have hl8:(Instr.buildSlice bn_ 8 #[(0,.int .u8 0),(1,.int .u8 (((UInt8.ofNat (6+(bU_ now saved c).length)).toNat:Nat):Int)),(2,.int .u8 0),(3,.int .u8 ((dv.toNat:Nat):Int)),(4,.int .u8 0),(5,.int .u8 0),(6,.int .u8 0),(7,.int .u8 0)]).run Tryz.prog v3=.ok (.slice (some ⟨v3.heap.size,0,none⟩) 8 8) (v3.alloc (.cells (bv [0,UInt8.ofNat (6+(bU_ now saved c).length),0,dv,0,0,0,0]).toArray ae_)):=k_
        refine am_ rfl (Row.start hl8 rfl (by show 8≤_;decide) fun p4 v4 r4=>J p4 v4 ⟨v3,r3.grow,?_⟩)
        rw[hmh,hlg];exact r4
       | false=>
        refine aj_ rfl (J p3 v3 ⟨o2,aa_.refl _ _,?_⟩)
        rw[hmh,hlg];exact r3
     ·cases hs:now.swp with
      | true=>exact am_ rfl (J _ _ ⟨rfl,by rw[hs];decide⟩)
      | false=>exact aj_ rfl (J _ _ ⟨rfl,by rw[hs];rfl⟩)
   ·by_cases q:c.page=10∨c.page=63
    ·refine am_ (by rw[decide_eq_true_eq];exact q) ⟨_,dF_ (ar_ hv.2),oG_ fun x v1 g1 o1=>?_⟩
     have x12:=j4_ o1
     rw[h2_] at x12
     refine(rb.go g1).app (o1.rd o_) (by have:(if c.page=8∨c.page=63 then fg_ V else []).length≤20:=(by split<;>simp[h1_])
                                         rw[h2_];omega) fun p2 v2 r2 k2=>J p2 v2 ⟨?_,?_,fun e=>?_⟩
     ·have h1:=stG hv g1
      refine⟨h1.1.trans k2 fun i hi q=>?_,(rb.go g1).blk k2 h1.2 d_⟩
      have:=(rb.own.ge i q.symm).1
      have:=(toG ho).size
      omega
     ·rw[eB,if_pos q];exact r2
     ·rw[eB,if_pos q] at e
      have:=congrArg List.length e
      rw[List.length_append,h2_,List.length_nil] at this
      omega
    ·refine aj_ (by rw[decide_eq_false_iff_not];exact q) (J b v ⟨hv,?_,?_⟩)
     ·rw[eB,if_neg q,List.append_nil];exact rb
     ·rw[eB,if_neg q,List.append_nil];exact nb
  ·by_cases q:c.page=8∨c.page=63
   ·refine am_ (by rw[decide_eq_true_eq];exact q) ⟨_,dF_ (ar_ ho.2),oF_ fun x v1 g1 o1=>?_⟩
    have x20:=j4_ o1
    rw[h1_] at x20
    refine(Row.nil g1).app (o1.rd o_) (by rw[h1_];decide) fun p2 v2 r2 k2=>J p2 v2 ⟨?_,?_,fun e=>?_⟩
    ·exact stG (stG ho g1) (k2.mono fun _ _ q=>by cases q)
    ·rw[if_pos q];exact r2
    ·rw[if_pos q] at e;cases e
   ·refine aj_ (by rw[decide_eq_false_iff_not];exact q) (J au_ o ⟨ho,?_,fun _=>rfl⟩)
    rw[if_neg q];exact Row.nil (aa_.refl _ _)
 ·have h5:St now w5:=⟨⟨g25.os,g25.tape,g25.output,g25.size,fun k hk _=>g25.block k hk (fun q=>q)⟩,hb5⟩
  have put:∀{V V':aU_} {o:World} {K:W_},St V o→(∀o',St V' o'→K o')→ah_ Tryz.prog (storeVar aA_ ⟨vb,0,none⟩ (.agg (vlv V').toArray)) o K:=fun {V V' o K} q hK=>
   ap_ (cells:=(vlv V').toArray) q.2 a8_ rfl rfl (by simp[vlv,Value.oneCell']) fun o' hb' hk' _=>hK o' ⟨q.1.trans hk' fun _ _ q=>q,hb'⟩
  refine as_ (fun e=>?_) (fun n1=>as_ (fun e=>?_) (fun n2=>as_ (fun e=>?_) (fun n3=>?_)))
  ·exact put (V':=⟨true,true,true⟩) h5 fun o' h'=>J o' (by unfold eR_;rw[if_pos o_];exact h')
  ·refine g4_ fun o1 g1=>put (stG h5 g1) fun o' h'=>J o' (by unfold eR_;rw[if_neg o_,if_pos o_];exact h')
  ·refine nx_ (pP h5) fun o1 g1=>put (stG h5 g1) fun o' h'=>J o' (by unfold eR_;rw[if_neg o_,if_neg o_,if_pos o_];exact h')
  ·exact J w5 (by unfold eR_;rw[if_neg o_,if_neg o_,if_neg o_];exact h5)
end
end Go.Proofs.YtpmebahhjgkflaaGreatDoor
