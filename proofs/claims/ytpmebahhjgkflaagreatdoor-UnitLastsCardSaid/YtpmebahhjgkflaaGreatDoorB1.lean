import Derived.OrdersHeld
import Derived.Tactics
import Derived.KernelRfl
import Derived.WalkKit
import Derived.Below
import Derived.Maps.AppendAt
import Derived.Laws.OwnMore
import Derived.Lib.SlBytesConst
import Derived.Lib.AppendStr
set_option maxHeartbeats 20000000
namespace Go.Proofs.YtpmebahhjgkflaaGreatDoor
open Go
theorem o_ {p:Prop} (h:p:=by omega):p:=h
theorem d_ {p:Prop} (h:p:=by decide):p:=h
theorem k_ {p:Prop} (h:p:=by kernel_rfl):p:=h
abbrev W_:=World→Prop
abbrev A_:=Array Value
abbrev O_:=Option Addr
end Go.Proofs.YtpmebahhjgkflaaGreatDoor
namespace Go.Proofs.YtpmebahhjgkflaaGreatDoor.CF
open Go
set_option maxRecDepth 100000
inductive Kd|i (k:IntKind)|b|s|p|sl|m|v|ag|a|ok (k:Kd)
structure Sl where
 A:O_
 n:Nat
 c:Nat
abbrev Kd.T:Kd→Type
 | .i _=>Int | .b=>Bool | .s=>ByteArray | .p=>O_ | .sl=>Sl | .m=>Option Nat | .v=>Value | .ag=>A_ | .a=>Addr | .ok k=>k.T×Bool
def Kd.mk:(k:Kd)→k.T→Value
 | .i k,x=>.int k x | .b,x=>.bool x | .s,x=>.string x | .p,x=>.pointer x | .sl,x=>.slice x.A x.n x.c
 | .m,x=>.map x | .v,x=>x | .ag,x=>.agg x | .a,x=>.pointer (some x) | .ok k,x=>.tuple #[k.mk x.1,.bool x.2]
def Kd.dflt:(k:Kd)→k.T
 | .i _=>(0:Int) | .b=>false | .s=>⟨#[]⟩ | .p=>none | .sl=>⟨none,0,0⟩ | .m=>none | .v=>.tuple #[] | .ag=>#[] | .a=>⟨0,0,none⟩ | .ok k=>(k.dflt,false)
def Kd.un:(k:Kd)→Value→k.T
 | .i _,.int _ x=>x | .i _,_=>(0:Int)
 | .b,.bool x=>x | .b,_=>false
 | .s,.string x=>x | .s,_=>⟨#[]⟩
 | .p,.pointer x=>x | .p,_=>none
 | .sl,.slice A n c=>⟨A,n,c⟩ | .sl,_=>⟨none,0,0⟩
 | .m,.map x=>x | .m,_=>none
 | .v,x=>x
 | .ag,.agg x=>x | .ag,_=>#[]
 | .a,.pointer (some x)=>x | .a,_=>⟨0,0,none⟩
 | .ok k,.tuple vs=>match vs.toList with | [q,.bool t]=>(k.un q,t)|_=>(k.dflt,false)
 | .ok k,_=>(k.dflt,false)
def eqK:IntKind→IntKind→Bool
 | .i8,.i8 | .i16,.i16 | .i32,.i32 | .i64,.i64 | .u8,.u8 | .u16,.u16 | .u32,.u32 | .u64,.u64=>true
 | _,_=>false
theorem jO_ {a b:IntKind} (h:eqK a b=true):a=b:=by cases a<;>cases b<;>first|rfl|cases h
def Kd.fit:Kd→Value→Bool
 | .i k,.int k' _=>eqK k k'
 | .b,.bool _ | .s,.string _ | .p,.pointer _ | .sl,.slice _ _ _ | .m,.map _ | .v,_ | .ag,.agg _ | .a,.pointer (some _)=>true
 | .ok k,.tuple vs=>match vs.toList with | [q,.bool _]=>k.fit q|_=>false
 | _,_=>false
theorem mk_un:∀{k:Kd} {v:Value},k.fit v=true→k.mk (k.un v)=v
 | .i k,v,h=>by cases v<;>first|(cases h;done)|(have:=jO_ h;subst this;rfl)
 | .v,v,h=>rfl
 | .b,v,h=>by cases v<;>first|rfl|(cases h;done)
 | .s,v,h=>by cases v<;>first|rfl|(cases h;done)
 | .p,v,h=>by cases v<;>first|rfl|(cases h;done)
 | .sl,v,h=>by cases v<;>first|rfl|(cases h;done)
 | .m,v,h=>by cases v<;>first|rfl|(cases h;done)
 | .ag,v,h=>by cases v<;>first|rfl|(cases h;done)
 | .a,v,h=>by
  cases v with
  | pointer p=>cases p<;>first|rfl|(cases h;done)
  | _=>cases h
 | .ok k,v,h=>by
  cases v with
  | tuple vs=>
   obtain⟨l⟩:=vs
   match l,h with
   | [u,.bool b],h=>
    have:=mk_un (k:=k) (v:=u) h
    show Value.tuple #[k.mk (k.un u),.bool b]=_
    rw[this]
  | _=>cases h
theorem Kd.mk_un {k:Kd} {w:Value} (h:k.fit w=true):k.mk (k.un w)=w:=CF.mk_un h
def bC_:TypeDesc→Kd
 | .int k=>.i k | .bool=>.b | .string=>.s | .pointer _=>.p | .slice _=>.sl | .map _ _=>.m
 | .struct _ | .array _ _=>.ag|_=>.v
def kd (P:Program) (t:TypeId):Kd:=match P.underlying t with|some d=>bC_ d|none=>.v
inductive E|val (v:Value)|cnd (tag:Nat) (c:List (Nat×Bool)) (v:Value)
abbrev Fr:=List (Nat×E)
def ev_:Fr→Nat→Option E
 | [],_=>none
 | (s,e)::r,t=>bif Nat.beq s t then some e else ev_ r t
abbrev Gd:=List (Nat×Bool)
def eqB:Bool→Bool→Bool|true,true|false,false=>true|_,_=>false
theorem wM_ {a b:Bool} (h:eqB a b=true):a=b:=by cases a<;>cases b<;>first|rfl|cases h
def rW_ (x:Nat×Bool):Gd→Bool
 | []=>false
 | y::r=>(Nat.beq x.1 y.1&&eqB x.2 y.2)||rW_ x r
def ms_:Gd→Gd→Bool
 | [],_=>true
 | x::r,C=>rW_ x C&&ms_ r C
theorem pi_ {x:Nat×Bool}:∀{C:Gd},rW_ x C=true→x∈C
 | [],h=>by cases h
 | y::r,h=>by
  simp only[rW_,Bool.or_eq_true,Bool.and_eq_true] at h
  rcases h with⟨h1,h2⟩|h
  ·have h1':x.1=y.1:=Nat.eq_of_beq_eq_true h1
   have h2':=wM_ h2
   have:x=y:=Prod.ext h1' h2'
   rw[this];exact List.mem_cons_self
  ·exact List.mem_cons_of_mem _ (pi_ h)
theorem mt_:∀{c C:Gd},ms_ c C=true→∀x∈c,x∈C
 | [],_,_,x,hx=>by cases hx
 | y::r,C,h,x,hx=>by
  simp only[ms_,Bool.and_eq_true] at h
  rcases List.mem_cons.1 hx with rfl|hx
  ·exact pi_ h.1
  ·exact mt_ h.2 x hx
def opv (F:Fr) (tg:Nat) (C:Gd):Operand→Option Value
 | .tmp t=>match ev_ F t with
  | some (.val v)=>some v
  | some (.cnd tg' c v)=>bif Nat.beq tg tg'&&ms_ c C then some v else none
  | none=>none
 | .const v=>some v
 | .global g=>some (.pointer (some ⟨g,0,none⟩))
 | .func f=>some (.func (.func f) #[] #[])
def rX_ (w b:Bool):Bool:=match w with|true=>b|false=> !b
def rY_ (F:Fr) (tg:Nat) (s:Nat) (w:Bool) (r:Gd):Option Bool:=
 match ev_ F s with
 | some (.val (.bool b))=>some (rX_ w b)
 | some (.cnd tg' c (.bool b))=>bif Nat.beq tg tg'&&ms_ c r then some (rX_ w b) else none
 | _=>none
def gB (F:Fr) (tg:Nat):Gd→Option Bool
 | []=>some true
 | (s,w)::r=>match r with
  | []=>rY_ F tg s w []
  | y::r'=>match rY_ F tg s w (y::r'),gB F tg (y::r') with
   | some a,some b=>some (a&&b)
   | _,_=>none
def la_ (ops:Array Oper) (F:Fr) (tg:Nat) (o:Oper):Option Gd:=
 match o.guard with
 | none=>some []
 | some (j,w)=>match (ops[j]?).bind (·.dst) with
  | none=>none
  | some s=>match ev_ F s with
   | some (.val _)=>some [(s,w)]
   | some (.cnd tg' c _)=>bif Nat.beq tg tg' then some ((s,w)::c) else none
   | none=>none
def bP_ (a:Act) (C:Gd):Prop:=∀x∈C,a.tmps.getD x.1 undef=.bool x.2
def EOk (tg:Nat) (a:Act) (t:Nat):E→Prop
 | .val v=>a.tmps[t]?=some v
 | .cnd tg' c v=>tg'≤tg∧(tg'=tg→t<a.tmps.size∧(bP_ a c→a.tmps.getD t undef=v)∧(¬bP_ a c→a.tmps.getD t undef=undef))
def ew_ (F:Fr) (tg:Nat) (a:Act):Prop:=∀t e,ev_ F t=some e→EOk tg a t e
theorem ew_.next {F:Fr} {tg:Nat} {a:Act} (h:ew_ F tg a):ew_ F (tg+1) a:=by
 intro t e he
 have h1:=h t e he
 cases e with
 | val v=>exact h1
 | cnd tg' c v=>exact⟨Nat.le_succ_of_le h1.1,fun hh=>by have:=h1.1;omega⟩
theorem hP_ {s:Nat} {e:E} {F:Fr} {t:Nat}:ev_ ((s,e)::F) t=if s=t then some e else ev_ F t:=by
 show(bif Nat.beq s t then some e else ev_ F t)=_
 by_cases h:s=t
 ·subst h;rw[if_pos rfl,Nat.beq_refl];rfl
 ·rw[if_neg h]
  have:Nat.beq s t=false:=by
   cases hb:Nat.beq s t with
   | false=>rfl
   | true=>exact absurd (Nat.eq_of_beq_eq_true hb) h
  rw[this];rfl
theorem jP_ {F:Fr} {tg:Nat} {a:Act} {C:Gd} {x:Operand} {v:Value} (h:ew_ F tg a) (hC:bP_ a C) (hv:opv F tg C x=some v):a.eval x=v:=by
 cases x with
 | tmp t=>
  simp only[opv] at hv
  split at hv
  ·rename_i v' hl
   obtain rfl:=Option.some.inj hv
   have:=h t _ hl
   simp only[EOk] at this
   show a.tmps.getD t undef=_
   simp[Array.getD_eq_getD_getElem?,this]
  ·rename_i tg' c v' hl
   cases hb:Nat.beq tg tg'&&ms_ c C with
   | false=>rw[hb] at hv;cases hv
   | true=>
    rw[hb] at hv
    obtain rfl:=Option.some.inj hv
    simp only[Bool.and_eq_true] at hb
    have htg:tg=tg':=Nat.eq_of_beq_eq_true hb.1
    have:=(h t _ hl).2 htg.symm
    exact this.2.1 (fun y hy=>hC y (mt_ hb.2 y hy))
  ·cases hv
 | const w=>exact Option.some.inj hv
 | global g=>exact Option.some.inj hv
 | func f=>exact Option.some.inj hv
theorem nO_ {F:Fr} {tg s:Nat} {w g:Bool} {r:Gd} {a:Act} (h:ew_ F tg a) (hg:rY_ F tg s w r=some g) (hr:bP_ a r) :
  a.tmps.getD s undef=.bool w↔g=true:=by
 have key:∀b:Bool,a.tmps.getD s undef=.bool b→(a.tmps.getD s undef=.bool w↔rX_ w b=true):=by
  intro b hb
  rw[hb]
  cases b<;>cases w<;>simp[rX_]
 unfold rY_ at hg
 split at hg
 ·rename_i b hl
  obtain rfl:=Option.some.inj hg
  refine key b ?_
  have:=h s _ hl
  simp only[EOk] at this
  simp[Array.getD_eq_getD_getElem?,this]
 ·rename_i tg' c b hl
  cases hb:Nat.beq tg tg'&&ms_ c r with
  | false=>rw[hb] at hg;cases hg
  | true=>
   rw[hb] at hg
   obtain rfl:=Option.some.inj hg
   simp only[Bool.and_eq_true] at hb
   have htg:tg=tg':=Nat.eq_of_beq_eq_true hb.1
   exact key b (((h s _ hl).2 htg.symm).2.1 (fun y hy=>hr y (mt_ hb.2 y hy)))
 ·cases hg
theorem o0_ {F:Fr} {tg:Nat} {a:Act} (h:ew_ F tg a):∀{C:Gd} {g:Bool},gB F tg C=some g→(bP_ a C↔g=true)
 | [],g,hg=>by
  obtain rfl:=Option.some.inj hg
  exact⟨fun _=>rfl,fun _ x hx=>by cases hx⟩
 | [(s,w)],g,hg=>by
  have:=nO_ (r:=[]) h hg (fun x hx=>by cases hx)
  rw[←this]
  exact⟨fun hh=>hh (s,w) List.mem_cons_self,fun hh x hx=>by rw[List.mem_singleton.1 hx];exact hh⟩
 | (s,w)::y::r,g,hg=>by
  simp only[gB] at hg
  split at hg
  ·rename_i a' b' h1 h2
   obtain rfl:=Option.some.inj hg
   have ih:=o0_ h h2
   rw[Bool.and_eq_true]
   constructor
   ·intro hh
    have ht:bP_ a (y::r):=fun x hx=>hh x (List.mem_cons_of_mem _ hx)
    exact⟨(nO_ h h1 ht).1 (hh (s,w) List.mem_cons_self),ih.1 ht⟩
   ·intro ⟨h3,h4⟩
    have ht:=ih.2 h4
    intro x hx
    rcases List.mem_cons.1 hx with rfl|hx
    ·exact(nO_ h h1 ht).2 h3
    ·exact ht x hx
  ·cases hg
theorem rZ_ {ops:Array Oper} {a:Act} {j s:Nat} (hs:(ops[j]?).bind (·.dst)=some s) (w:Bool) :
  (yielded ops a.tmps j==some w)=true↔a.tmps.getD s undef=.bool w:=by
 unfold yielded
 rw[hs]
 simp only[Option.bind_some]
 cases ht:a.tmps[s]? with
 | none=>simp[Array.getD_eq_getD_getElem?,ht,undef]
 | some v=>cases v<;>simp[Array.getD_eq_getD_getElem?,ht]
theorem lb_ {ops:Array Oper} {F:Fr} {tg:Nat} {o:Oper} {C:Gd} {a:Act} (h:ew_ F tg a) (hc:la_ ops F tg o=some C) :
  Region.wanted o (yielded ops a.tmps)=true↔bP_ a C:=by
 unfold la_ at hc
 unfold Region.wanted
 cases hg:o.guard with
 | none=>
  rw[hg] at hc
  obtain rfl:=Option.some.inj hc
  exact⟨fun _ x hx=>(by cases hx),fun _=>rfl⟩
 | some jw=>
  obtain⟨j,w⟩:=jw
  rw[hg] at hc
  simp only at hc ⊢
  split at hc
  ·cases hc
  ·rename_i s hs
   rw[rZ_ hs w]
   split at hc
   ·obtain rfl:=Option.some.inj hc
    exact⟨fun hh x hx=>(by rw[List.mem_singleton.1 hx];exact hh),fun hh=>hh (s,w) List.mem_cons_self⟩
   ·rename_i tg' c v hl
    cases hb:Nat.beq tg tg' with
    | false=>rw[hb] at hc;cases hc
    | true=>
     rw[hb] at hc
     obtain rfl:=Option.some.inj hc
     have htg:tg=tg':=Nat.eq_of_beq_eq_true hb
     have he:=(h s _ hl).2 htg.symm
     constructor
     ·intro hh x hx
      rcases List.mem_cons.1 hx with rfl|hx
      ·exact hh
      ·by_cases hcc:bP_ a c
       ·exact hcc x hx
       ·rw[he.2.2 hcc] at hh;cases hh
     ·intro hh;exact hh (s,w) List.mem_cons_self
   ·cases hc
open Go
set_option maxRecDepth 100000
inductive An where
 | pv (v:Value)
 | po (ob:Prop) (v:Value)
 | rd (k:Kd) (rel:World→Value→Prop)
 | at (k:Kd) (f:World→(k.T→W_)→Prop)
 | ac (f:World→(Value→W_)→Prop)
 | no
abbrev Ana:=Fr→Nat→Gd→Oper→An
def An.Ok (P:Program) (o:Oper) (a:Act):An→Prop
 | .pv v=>∀w,(execOp a.eval o).run P w=.ok (.value v) w
 | .po ob v=>ob→∀w,(execOp a.eval o).run P w=.ok (.value v) w
 | .rd k rel=>∀w x,rel w (k.mk x)→(execOp a.eval o).run P w=.ok (.value (k.mk x)) w
 | .at k f=>∀w K Q,f w K→o.wp P a w (fun a' w'=>∃x,a'=a.put o.dst (k.mk x)∧K x w') Q
 | .ac f=>∀w K Q,f w K→o.wp P a w (fun a' w'=>∃v,a'=a.put o.dst v∧K v w') Q
 | .no=>True
def Ana.Ok (P:Program) (an:Ana):Prop:=∀F tg C o a,ew_ F tg a→bP_ a C→(an F tg C o).Ok P o a
def cE_ (d:Nat):List Nat→Bool
 | []=>false
 | x::r=>Nat.beq x d||cE_ d r
theorem pj_ {d:Nat}:∀{l:List Nat},cE_ d l=false→d ∉ l
 | [],_,h=>by cases h
 | x::r,hm,h=>by
  simp only[cE_,Bool.or_eq_false_iff] at hm
  rcases List.mem_cons.1 h with rfl|h
  ·rw[Nat.beq_refl] at hm;cases hm.1
  ·exact pj_ hm.2 h
def m2_ (n:Nat) (M:List Nat):Option Tmp→Bool
 | none=>true
 | some d=>Nat.blt d n && !cE_ d M
def br_:Gd→List Nat→List Nat
 | [],M=>M
 | x::r,M=>x.1::br_ r M
theorem kb_:∀{C:Gd} {M:List Nat} {x},x∈C→x.1∈br_ C M
 | y::r,M,x,h=>by
  rcases List.mem_cons.1 h with rfl|h
  ·exact List.mem_cons_self
  ·exact List.mem_cons_of_mem _ (kb_ h)
theorem m3_:∀{C:Gd} {M:List Nat} {d:Nat},d∈M→d∈br_ C M
 | [],_,_,h=>h
 | _::_,_,_,h=>List.mem_cons_of_mem _ (m3_ h)
def ent (tg:Nat) (C:Gd) (v:Value):E:=match C with | []=>.val v|x::r=>.cnd tg (x::r) v
def dI_ (F:Fr) (dst:Option Tmp) (e:E):Fr:=match dst with|some d=>(d,e)::F|none=>F
def gI (C:Gd) (g:Bool) (X:Prop):Prop:=match C with | []=>X|_::_=>(g=true→X)
abbrev dflt (k:Kd):k.T:=k.dflt
def bB_ {α:Type} (j:α→W_) (body:(α→W_)→Prop):Prop:=body j
structure St where
 F:Fr
 tg:Nat
def pk_ (an:Ana) (n:Nat) (ops:Array Oper) (F:Fr) (tg:Nat) (M:List Nat) (o:Oper) (w:World) (next:Fr→List Nat→W_):Prop:=
 match la_ ops F tg o with
 | none=>False
 | some C=>match gB F tg C with
  | none=>False
  | some g=>match m2_ n (br_ C M) o.dst with
   | false=>False
   | true=>match an F tg C o with
    | .pv v=>next (dI_ F o.dst (ent tg C v)) (br_ C M) w
    | .po ob v=>gI C g ob∧next (dI_ F o.dst (ent tg C v)) (br_ C M) w
    | .rd k rel=>∃x:k.T,gI C g (rel w (k.mk x))∧next (dI_ F o.dst (ent tg C (k.mk x))) (br_ C M) w
    | .at k f=>match C with
     | []=>f w (fun x w'=>next (dI_ F o.dst (.val (k.mk x))) (br_ [] M) w')
     | y::r=>bB_ (fun(x:k.T) w'=>next (dI_ F o.dst (.cnd tg (y::r) (k.mk x))) (br_ (y::r) M) w')
       (fun J=>(g=true→f w J)∧(g=false→J (dflt k) w))
    | .ac f=>match C with
     | []=>f w (fun v w'=>next (dI_ F o.dst (.val v)) (br_ [] M) w')
     | _::_=>False
    | .no=>False
def pl_ (an:Ana) (n:Nat) (ops:Array Oper) (Kn:St→W_):List Oper→Fr→Nat→List Nat→W_
 | [],F,tg,_,w=>Kn ⟨F,tg+1⟩ w
 | o::rest,F,tg,M,w=>pk_ an n ops F tg M o w (fun F' M' w'=>pl_ an n ops Kn rest F' tg M' w')
structure Good (n:Nat) (F:Fr) (tg:Nat) (M:List Nat) (a:Act):Prop where
 size:a.tmps.size=n
 defers:a.defers = []
 fits:ew_ F tg a
 minv:∀t c v,ev_ F t=some (.cnd tg c v)→∀x∈c,x.1∈M
structure OkS (n:Nat) (st:St) (a:Act):Prop where
 size:a.tmps.size=n
 defers:a.defers = []
 fits:ew_ st.F st.tg a
 fresh:∀t c v,ev_ st.F t≠some (.cnd st.tg c v)
theorem OkS.good {n:Nat} {st:St} {a:Act} (h:OkS n st a):Good n st.F st.tg [] a:=
 ⟨h.size,h.defers,h.fits,fun t c v hl=>absurd hl (h.fresh t c v)⟩
theorem Good.next {n:Nat} {F:Fr} {tg:Nat} {M:List Nat} {a:Act} (h:Good n F tg M a):OkS n ⟨F,tg+1⟩ a:=
 ⟨h.size,h.defers,h.fits.next,fun t c v hl=>by have:=(h.fits t _ hl).1;simp only at this;omega⟩
theorem Good.more {n:Nat} {F:Fr} {tg:Nat} {M:List Nat} {a:Act} (h:Good n F tg M a) (C:Gd):Good n F tg (br_ C M) a:=
 ⟨h.size,h.defers,h.fits,fun t c v hl x hx=>m3_ (h.minv t c v hl x hx)⟩
theorem mu_ (a:Act) (dst:Option Tmp) (v:Value):(a.put dst v).tmps.size=a.tmps.size:=by cases dst<;>simp[Act.put]
theorem r0_ (a:Act) (dst:Option Tmp) (v:Value):(a.put dst v).defers=a.defers:=by cases dst<;>rfl
theorem pm_ (a:Act) (d:Nat) (v:Value) {t:Nat} (h:d≠t):(a.put (some d) v).tmps[t]?=a.tmps[t]?:=by
 simp[Act.put,Array.getElem?_setIfInBounds_ne h]
theorem lL_ (a:Act) (d:Nat) (v:Value) {t:Nat} (h:d≠t):(a.put (some d) v).tmps.getD t undef=a.tmps.getD t undef:=by
 rw[Array.getD_eq_getD_getElem?,Array.getD_eq_getD_getElem?,pm_ a d v h]
theorem pn_ (a:Act) (d:Nat) (v:Value) (h:d<a.tmps.size):(a.put (some d) v).tmps[d]?=some v:=by
 simp[Act.put,h]
theorem oe_ {a:Act} {d:Nat} {v:Value} {c:Gd} (h:∀x∈c,d≠x.1):bP_ (a.put (some d) v) c↔bP_ a c:=by
 unfold bP_
 constructor
 ·intro hh x hx;rw[←lL_ a d v (h x hx)];exact hh x hx
 ·intro hh x hx;rw[lL_ a d v (h x hx)];exact hh x hx
theorem Good.put {n:Nat} {F:Fr} {tg:Nat} {M:List Nat} {a:Act} {dst:Option Tmp} {C:Gd} {v u:Value} (h:Good n F tg (br_ C M) a)
  (hd:m2_ n (br_ C M) dst=true) (hy:bP_ a C→u=v) (hn:¬bP_ a C→u=undef) :
  Good n (dI_ F dst (ent tg C v)) tg (br_ C M) (a.put dst u):=by
 cases dst with
 | none=>exact h
 | some d=>
  simp only[m2_,Bool.and_eq_true,Bool.not_eq_true'] at hd
  have hlt:d<a.tmps.size:=by rw[h.size];exact Nat.blt_eq▸hd.1
  have hnm:=pj_ hd.2
  refine⟨by rw[mu_];exact h.size,by rw[r0_];exact h.defers,?_,?_⟩
  ·intro t e hl
   simp only[dI_] at hl
   rw[hP_] at hl
   by_cases hdt:d=t
   ·subst hdt
    rw[if_pos rfl] at hl
    obtain rfl:=Option.some.inj hl
    cases C with
    | nil=>
     have:u=v:=hy (fun x hx=>by cases hx)
     rw[←this]
     exact pn_ a d u hlt
    | cons y r=>
     have hh:bP_ (a.put (some d) u) (y::r)↔bP_ a (y::r):=oe_ fun x hx he=>hnm (he▸kb_ hx)
     refine⟨Nat.le_refl _,fun _=>⟨by rw[mu_];exact hlt,fun hH=>?_,fun hH=>?_⟩⟩
     ·rw[Array.getD_eq_getD_getElem?,pn_ a d u hlt,hy (hh.1 hH)];rfl
     ·rw[Array.getD_eq_getD_getElem?,pn_ a d u hlt,hn (fun q=>hH (hh.2 q))];rfl
   ·rw[if_neg hdt] at hl
    have h1:=h.fits t e hl
    cases e with
    | val v'=>simp only[EOk] at h1 ⊢;rw[pm_ a d u hdt];exact h1
    | cnd tg' c v'=>
     refine⟨h1.1,fun htg=>?_⟩
     have h2:=h1.2 htg
     subst htg
     have hh:bP_ (a.put (some d) u) c↔bP_ a c:=oe_ fun x hx he=>hnm (he▸h.minv t c v' hl x hx)
     refine⟨by rw[mu_];exact h2.1,fun hH=>?_,fun hH=>?_⟩
     ·rw[lL_ a d u hdt];exact h2.2.1 (hh.1 hH)
     ·rw[lL_ a d u hdt];exact h2.2.2 (fun q=>hH (hh.2 q))
  ·intro t c v' hl x hx
   simp only[dI_] at hl
   rw[hP_] at hl
   by_cases hdt:d=t
   ·rw[if_pos hdt] at hl
    cases C with
    | nil=>cases Option.some.inj hl
    | cons y r=>
     simp only[ent] at hl
     obtain⟨rfl,rfl⟩:y::r=c∧v=v':=by
      have:=Option.some.inj hl
      injection this with _ h1 h2
      exact⟨h1,h2⟩
     exact kb_ hx
   ·rw[if_neg hdt] at hl
    exact h.minv t c v' hl x hx
def cz_:List Oper→Nat→Bool
 | [],_=>false
 | o::r,d=>(match o.dst with|some e=>Nat.beq e d|none=>false)||cz_ r d
def ex_ (wr:Nat→Bool) (a a':Act):Prop:=∀d,wr d=false→a'.tmps[d]?=a.tmps[d]?
theorem po_ {a:Act} {o:Oper} {u:Value} {r:List Oper} {d:Nat} (h:cz_ (o::r) d=false):(a.put o.dst u).tmps[d]?=a.tmps[d]?:=by
 simp only[cz_,Bool.or_eq_false_iff] at h
 cases hd:o.dst with
 | none=>rfl
 | some e=>
  rw[hd] at h
  refine pm_ a e u fun he=>?_
  subst he
  simp only[Nat.beq_refl] at h
  cases h.1
def QN (n:Nat) (Kn:St→W_) (wr:Nat→Bool) (a0:Act):Exit→Act→W_
 | .normal,a,w=>(∃st,OkS n st a∧Kn st w)∧ex_ wr a0 a
 | _,_,_=>False
theorem s6_ {P:Program} {an:Ana} (hA:an.Ok P) {n:Nat} {ops:Array Oper} {F:Fr} {tg:Nat} {M:List Nat} {o:Oper} {w:World} {next:Fr→List Nat→W_}
  {a:Act} {K:Act→W_} {Q:Exit→Act→W_} (h:pk_ an n ops F tg M o w next) (hg:Good n F tg M a)
  (hK:∀F' M' w' u,Good n F' tg M' (a.put o.dst u)→next F' M' w'→K (a.put o.dst u) w') :
  if Region.wanted o (yielded ops a.tmps) then o.wp P a w K Q else K (a.put o.dst undef) w:=by
 unfold pk_ at h
 split at h
 ·exact h.elim
 rename_i C hC
 split at h
 ·exact h.elim
 rename_i g hgB
 split at h
 ·exact h.elim
 rename_i hd
 have hw:=lb_ hg.fits hC
 have hgb:=o0_ hg.fits hgB
 have hg':=hg.more C
 have hI:∀X,gI C g X→bP_ a C→X:=by
  intro X hX hH
  cases C with
  | nil=>exact hX
  | cons y r=>exact hX (hgb.1 hH)
 by_cases hH:bP_ a C
 ·rw[if_pos (hw.2 hH)]
  have hOk:=hA F tg C o a hg.fits hH
  have fin:∀v,Good n (dI_ F o.dst (ent tg C v)) tg (br_ C M) (a.put o.dst v):=fun v=>hg'.put hd (fun _=>rfl) (fun q=>absurd hH q)
  split at h
  ·rename_i v hv
   rw[hv] at hOk
   simp only[An.Ok] at hOk
   unfold Oper.wp
   rw[hOk w]
   exact hK _ _ _ _ (fin v) h
  ·rename_i ob v hv
   rw[hv] at hOk
   unfold Oper.wp
   rw[hOk (hI _ h.1 hH) w]
   exact hK _ _ _ _ (fin v) h.2
  ·rename_i k rel hv
   rw[hv] at hOk
   obtain⟨x,h1,h2⟩:=h
   unfold Oper.wp
   rw[hOk w x (hI _ h1 hH)]
   exact hK _ _ _ _ (fin _) h2
  ·rename_i k f hv
   rw[hv] at hOk
   split at h
   ·refine Oper.wp_mono (fun a' w' ⟨x,e,hk⟩=>?_) (hOk w _ Q h)
    subst e
    exact hK _ _ _ _ (fin _) hk
   ·rename_i y r hC'
    have h1:=h.1 (hgb.1 hH)
    refine Oper.wp_mono (fun a' w' ⟨x,e,hk⟩=>?_) (hOk w _ Q h1)
    subst e
    exact hK _ _ _ _ (fin _) hk
  ·rename_i f hv
   rw[hv] at hOk
   split at h
   ·refine Oper.wp_mono (fun a' w' ⟨v,e,hk⟩=>?_) (hOk w _ Q h)
    subst e
    exact hK _ _ _ _ (fin _) hk
   ·exact h.elim
  ·exact h.elim
 ·rw[if_neg (fun q=>hH (hw.1 q))]
  have hgf:g=false:=by
   cases g with
   | false=>rfl
   | true=>exact absurd (hgb.2 rfl) hH
  have fin:∀v,Good n (dI_ F o.dst (ent tg C v)) tg (br_ C M) (a.put o.dst undef):=fun v=>hg'.put hd (fun q=>absurd q hH) (fun _=>rfl)
  split at h
  ·exact hK _ _ _ _ (fin _) h
  ·exact hK _ _ _ _ (fin _) h.2
  ·obtain⟨x,h1,h2⟩:=h
   exact hK _ _ _ _ (fin _) h2
  ·split at h
   ·exact absurd (fun x hx=>by cases hx) hH
   ·exact hK _ _ _ _ (fin _) (h.2 hgf)
  ·split at h
   ·exact absurd (fun x hx=>by cases hx) hH
   ·exact h.elim
  ·exact h.elim
theorem of_ {P:Program} {an:Ana} (hA:an.Ok P) {n:Nat} {ops:Array Oper} {Kn:St→W_}:∀(l:List Oper) (F:Fr) (tg:Nat) (M:List Nat) (w:World) (a:Act),
  pl_ an n ops Kn l F tg M w→Good n F tg M a→wpList P ops (QN n Kn (cz_ l) a) l a w
 | [],F,tg,M,w,a,h,hg=>⟨⟨_,hg.next,h⟩,fun _ _=>rfl⟩
 | o::rest,F,tg,M,w,a,h,hg=>by
  have key:=s6_ (P:=P) (Q:=QN n Kn (cz_ (o::rest)) a) (K:=wpList P ops (QN n Kn (cz_ (o::rest)) a) rest) hA h hg (fun F' M' w' u hg' hn=>by
   have ih:=of_ hA rest F' tg M' w' _ hn hg'
   have mono:∀(l:List Oper) (Q Q':Exit→Act→W_) (a:Act) (w:World),(∀e a w,Q e a w→Q' e a w)→wpList P ops Q l a w→wpList P ops Q' l a w:=by
    intro l
    induction l with
    | nil=>intro Q Q' a w hq h;exact hq _ _ _ h
    | cons o l ih=>
     intro Q Q' a w hq h
     unfold wpList at h ⊢
     split
     ·rename_i hw
      rw[if_pos hw] at h
      have lo:LetsOut Q→LetsOut Q':=fun⟨a,w,hh⟩=>⟨a,w,hq _ _ _ hh⟩
      refine h.imp (fun h=>?_) (fun h=>⟨h.1,lo h.2⟩)
      unfold Oper.wp at h ⊢
      cases hr:(execOp a.eval o).run P w with
      | ok x w'=>
       rw[hr] at h
       cases x<;>simp only[Oper.upon] at h ⊢<;>first
        | exact ih _ _ _ _ hq h
        | exact Calls.mono h (fun e w'' he=>by cases e<;>first|exact ih _ _ _ _ hq he|exact hq _ _ _ he|exact lo he)
        | exact Rows.mono h (fun _ _ he=>ih _ _ _ _ hq he)
      | halt x w'=>
       rw[hr] at h
       cases x<;>simp only[Oper.upon] at h ⊢<;>exact hq _ _ _ h
     ·rename_i hw
      rw[if_neg hw] at h
      exact ih _ _ _ _ hq h
   refine mono rest _ _ _ _ (fun e a' w' hq=>?_) ih
   cases e<;>simp only[QN] at hq ⊢
   refine⟨hq.1,fun d hd=>?_⟩
   rw[hq.2 d (by simp only[cz_,Bool.or_eq_false_iff] at hd;exact hd.2),po_ hd])
  unfold wpList
  split
  ·rename_i hw;rw[if_pos hw] at key;exact .inl key
  ·rename_i hw;rw[if_neg hw] at key;exact key
open Go
set_option maxRecDepth 100000
def anc (ops:Array Oper):Nat→Nat→Nat→Bool
 | 0,_,_=>false
 | f+1,j,r=>match ops[j]? with
  | none=>false
  | some o=>o.after.toList.any fun e=>Region.binds .any e&&(Nat.beq e.on r||anc ops f e.on r)
def i6_ (ops:Array Oper) (j:Nat):List Nat→Bool
 | []=>false
 | r::t=>(!(Nat.beq r j||anc ops ops.size j r))||i6_ ops j t
def hQ_ (ops:Array Oper) (listed:Array Bool):Prop:=
 ∀j oj,ops[j]?=some oj→listed.getD j false=true→∀e∈oj.after,Region.binds .any e=true→listed.getD e.on false=true
theorem ri_ {listed:Array Bool} {i:Nat} (h:listed.getD i true=false):listed.getD i false=false:=by
 rcases Nat.lt_or_ge i listed.size with h'|h'
 ·simp[h'] at h ⊢;exact h
 ·simp[Array.getElem?_eq_none h'] at h
theorem m4_ {ops:Array Oper} {listed:Array Bool} (hc:hQ_ ops listed):∀(f:Nat) {j r:Nat} {o:Oper},ops[j]?=some o→
  (∀e∈o.after,Region.binds .any e=true→listed.getD e.on false=true)→anc ops f j r=true→listed.getD r false=true
 | 0,_,_,_,_,_,h=>by cases h
 | f+1,j,r,o,ho,hall,h=>by
  simp only[anc,ho,List.any_eq_true,Array.mem_toList_iff,Bool.and_eq_true,Bool.or_eq_true] at h
  obtain⟨e,he,hb,h⟩:=h
  have hl:=hall e he hb
  rcases h with h|h
  ·rw[←Nat.eq_of_beq_eq_true h];exact hl
  ·cases hoe:ops[e.on]? with
   | none=>cases f<;>simp[anc,hoe] at h
   | some oe=>exact m4_ hc f hoe (fun e' he' hb'=>hc _ _ hoe hl e' he' hb') h
theorem mv_ {ops:Array Oper} {listed:Array Bool} (hc:hQ_ ops listed) {j i:Nat} (hj:j∈Region.ready .any ops listed) (hji:j≠i) (hun:listed.getD i true=false) :
  ∀{rs:List Nat},cE_ i rs=true→i6_ ops j rs=true
 | [],h=>by cases h
 | r::t,h=>by
  simp only[cE_,Bool.or_eq_true] at h
  simp only[i6_,Bool.or_eq_true]
  rcases h with h|h
  ·have:r=i:=Nat.eq_of_beq_eq_true h
   subst this
   left
   obtain⟨_,oj,hoj,hall⟩:=mem_ready.1 hj
   cases hx:anc ops ops.size j r with
   | true=>
    have:=m4_ hc _ hoj hall hx
    rw[ri_ hun] at this
    cases this
   | false=>
    cases hy:Nat.beq r j with
    | true=>exact absurd (Nat.eq_of_beq_eq_true hy).symm hji
    | false=>rfl
  ·right;exact mv_ hc hj hji hun h
theorem hQ_.set {ops:Array Oper} {listed:Array Bool} (hc:hQ_ ops listed) {i:Nat} (hi:i∈Region.ready .any ops listed):hQ_ ops (listed.setIfInBounds i true):=by
 obtain⟨_,oi,hoi,hall⟩:=mem_ready.1 hi
 intro j oj hj hl e he hb
 by_cases hij:i=j
 ·subst hij
  have:oj=oi:=Option.some.inj (hj.symm.trans hoi)
  subst this
  exact getD_set_true (hall e he hb)
 ·rw[getD_set_ne false hij] at hl
  exact getD_set_true (hc j oj hj hl e he hb)
section
variable {P:Program} {ops:Array Oper} {Q:Exit→Act→W_} {S:W_} {rs ac:List Nat}
def hR_ (P:Program) (ops:Array Oper) (Q:Exit→Act→W_) (S:W_) (rs ac:List Nat):Nat→Array Bool→Act→W_
 | 0,listed,a,w=>Region.ready .any ops listed = []∧Q .normal a w
 | f+1,listed,a,w=>(Region.ready .any ops listed = []→Q .normal a w)∧
  ∀i∈Region.ready .any ops listed,wpOp P ops Q i (fun a' w'=>(cE_ i ac=false→w'=w)∧(cE_ i ac=true→i6_ ops i rs=true→S w')∧hR_ P ops Q S rs ac f (listed.setIfInBounds i true) a' w') a w
theorem kc_:∀(f:Nat) (listed:Array Bool) (a:Act) (w:World),hR_ P ops Q S rs ac f listed a w→wpAny P .any ops Q f listed a w
 | 0,_,_,_,h=>h
 | f+1,_,_,_,h=>⟨h.1,fun i hi=>wpOp_mono (fun a' w' h'=>kc_ f _ a' w' h'.2.2) (h.2 i hi)⟩
theorem pp_ {T:W_} {i:Nat} {oi:Oper} {v:Value} (hi:ops[i]?=some oi) (hsel:∀(j:Nat) (o:Oper) cs b,ops[j]?=some o→o.op≠.select cs b)
  (hQ:∀c a w,Q (.panic c) (a.put oi.dst v) w→Q (.panic c) a w) (hT:(∀w,T w)∨(T=S∧cE_ i rs=true)) (hac:cE_ i ac=false) :
  ∀(f:Nat) (listed:Array Bool) (a:Act) (w:World),
   (∀j oj,ops[j]?=some oj→j≠i→listed.getD j true=false→(∀e∈oj.after,Region.binds .any e=true→e.on≠i)→oi.apart ops oj=true)→
   hQ_ ops listed→i∈Region.ready .any ops listed→YieldsIf P ops T oi v a→T w→
   hR_ P ops Q S rs ac f (listed.setIfInBounds i true) (a.put oi.dst v) w→hR_ P ops Q S rs ac (f+1) listed a w:=by
 intro f
 induction f with
 | zero=>
  intro listed a w _ hc hr hy hTw H
  refine⟨fun h=>(by rw[h] at hr;cases hr),fun j hj=>?_⟩
  by_cases hji:j=i
  ·subst hji;exact hy.wpOp hi hTw ⟨fun _=>rfl,fun q=>(by rw[hac] at q;cases q),H⟩
  ·have:=ready_mono hj hji
   rw[H.1] at this
   cases this
 | succ f ih=>
  intro listed a w hfree hc hr hy hTw H
  have hun:=(mem_ready.1 hr).1
  refine⟨fun h=>(by rw[h] at hr;cases hr),fun j hj=>?_⟩
  by_cases hji:j=i
  ·subst hji;exact hy.wpOp hi hTw ⟨fun _=>rfl,fun q=>(by rw[hac] at q;cases q),H⟩
  ·have h1:=H.2 j (ready_mono hj hji)
   obtain⟨hjun,oj,hoj,hall⟩:=mem_ready.1 hj
   have hnot:∀e∈oj.after,Region.binds .any e=true→e.on≠i:=fun e he hb heq=>by
    have h1:=hall e he hb
    rw[heq] at h1
    rw[ri_ hun] at h1
    cases h1
   have h2:=wpOp_putIf hoj (hfree j oj hoj hji hjun hnot) (fun cs b=>hsel i oi cs b hi) (fun cs b=>hsel j oj cs b hoj) hQ hy h1
   have hfree':∀k ok,ops[k]?=some ok→k≠i→(listed.setIfInBounds j true).getD k true=false→
     (∀e∈ok.after,Region.binds .any e=true→e.on≠i)→oi.apart ops ok=true:=fun k ok hk hki hun hno=>by
    refine hfree k ok hk hki ?_ hno
    by_cases hjk:j=k
    ·subst hjk;exact hjun
    ·rw[getD_set_ne true hjk] at hun;exact hun
   have hun':(listed.setIfInBounds j true).getD i true=false:=by rw[getD_set_ne true hji];exact hun
   refine wpOp_mono (fun a' w' h3=>?_) h2
   obtain⟨hy',hw',hS',H'⟩:=h3
   have hT':T w':=by
    rcases hT with hT|⟨rfl,hm⟩
    ·exact hT w'
    ·cases hj':cE_ j ac with
     | true=>exact hS' hj' (mv_ hc hj hji hun hm)
     | false=>rw[hw' hj'];exact hTw
   refine⟨hw',hS',ih (listed.setIfInBounds j true) a' w' hfree' (hc.set hj) (ready_mono hr (Ne.symm hji)) hy' hT' ?_⟩
   rw[Array.setIfInBounds_comm _ _ hji]
   exact H'
end
open Go
set_option maxRecDepth 100000
def pq_ (p:Oper→Bool):List Oper→Nat→List Nat
 | [],_=>[]
 | o::r,i=>match p o with|true=>i::pq_ p r (i+1)|false=>pq_ p r (i+1)
def o1_ (ops:Array Oper) (listed:Array Bool) (ac:List Nat):List Nat→Option Nat
 | []=>none
 | i::r=>match !cE_ i ac&&Region.free .any ops listed i with|true=>some i|false=>o1_ ops listed ac r
def r1_ (b:Bool) (A B:Prop):Prop:=match b with|true=>A∧B|false=>B
def r2_:List Prop→Prop
 | []=>True
 | [p]=>p
 | p::q::r=>p∧r2_ (q::r)
theorem og_ {α:Type} {f:α→Prop}:∀{l:List α},r2_ (l.map f)→∀x∈l,f x
 | [],_,x,h=>by cases h
 | [y],h,x,hx=>by rw[List.mem_singleton.1 hx];exact h
 | y::z::r,h,x,hx=>by
  rcases List.mem_cons.1 hx with rfl|hx
  ·exact h.1
  ·exact og_ (l:=z::r) h.2 x hx
def lc_ (an:Ana) (n:Nat) (ops:Array Oper) (S:W_) (rs:List Nat) (F:Fr) (tg:Nat) (M:List Nat) (w:World) (i:Nat)
  (next:Fr→List Nat→W_):Prop:=
 match ops[i]? with
 | none=>False
 | some o=>match la_ ops F tg o with
  | none=>False
  | some C=>match gB F tg C with
   | none=>False
   | some g=>match m2_ n (br_ C M) o.dst with
    | false=>False
    | true=>match an F tg C o with
     | .pv v=>next (dI_ F o.dst (ent tg C v)) (br_ C M) w
     | .po ob v=>gI C g ob∧next (dI_ F o.dst (ent tg C v)) (br_ C M) w
     | .rd k rel=>match cE_ i rs with
      | true=>∃x:k.T,gI C g (∀w',S w'→rel w' (k.mk x))∧next (dI_ F o.dst (ent tg C (k.mk x))) (br_ C M) w
      | false=>False
     | _=>False
def r3_ (an:Ana) (n:Nat) (ops:Array Oper) (S:W_) (rs ac:List Nat) (F:Fr) (tg:Nat) (M:List Nat) (w:World) (i:Nat)
  (next:Fr→List Nat→W_):Prop:=
 match cE_ i ac with
 | false=>False
 | true=>match ops[i]? with
  | none=>False
  | some o=>match la_ ops F tg o with
   | none=>False
   | some C=>match gB F tg C with
    | none=>False
    | some g=>match m2_ n (br_ C M) o.dst with
     | false=>False
     | true=>match an F tg C o with
      | .at k f=>match C with
       | []=>f w (fun x w'=>r1_ (i6_ ops i rs) (S w') (next (dI_ F o.dst (.val (k.mk x))) (br_ [] M) w'))
       | y::r=>bB_ (fun(x:k.T) w'=>r1_ (i6_ ops i rs) (S w') (next (dI_ F o.dst (.cnd tg (y::r) (k.mk x))) (br_ (y::r) M) w'))
         (fun J=>(g=true→f w J)∧(g=false→J (dflt k) w))
      | .ac f=>match C with
       | []=>f w (fun v w'=>r1_ (i6_ ops i rs) (S w') (next (dI_ F o.dst (.val v)) (br_ [] M) w'))
       | _::_=>False
      | _=>False
def xC_ (ops:Array Oper) (rs ac:List Nat) (j:Nat):Bool:=cE_ j rs&&ac.any fun a=>anc ops ops.size j a
def fz_ (an:Ana) (n:Nat) (ops:Array Oper) (rs ac:List Nat) (Kn:St→W_):Nat→(W_)→Array Bool→Fr→Nat→List Nat→W_
 | 0,_,listed,F,tg,_,w=>match Region.ready .any ops listed with | []=>Kn ⟨F,tg+1⟩ w|_::_=>False
 | f+1,S,listed,F,tg,M,w=>match Region.ready .any ops listed with
  | []=>Kn ⟨F,tg+1⟩ w
  | i::r=>match o1_ ops listed ac (i::r) with
   | some j=>match xC_ ops rs ac j with
    | false=>lc_ an n ops S rs F tg M w j (fun F' M' w'=>fz_ an n ops rs ac Kn f S (listed.setIfInBounds j true) F' tg M' w')
    | true=>∃S2:W_,S2 w∧(∀u,S2 u→S u)∧lc_ an n ops S2 rs F tg M w j (fun F' M' w'=>fz_ an n ops rs ac Kn f S2 (listed.setIfInBounds j true) F' tg M' w')
   | none=>r2_ ((i::r).map fun j=>r3_ an n ops S rs ac F tg M w j (fun F' M' w'=>fz_ an n ops rs ac Kn f S (listed.setIfInBounds j true) F' tg M' w'))
theorem pr_ {ops:Array Oper} {listed:Array Bool} {ac:List Nat}:∀{l:List Nat} {j:Nat},o1_ ops listed ac l=some j→j∈l∧cE_ j ac=false∧Region.free .any ops listed j=true
 | i::r,j,h=>by
  simp only[o1_] at h
  split at h
  ·rename_i hb
   obtain rfl:=Option.some.inj h
   simp only[Bool.and_eq_true,Bool.not_eq_true'] at hb
   exact⟨List.mem_cons_self,hb.1,hb.2⟩
  ·obtain⟨h1,h2⟩:=pr_ h
   exact⟨List.mem_cons_of_mem _ h1,h2⟩
theorem s7_ {P:Program} {an:Ana} (hA:an.Ok P) {n:Nat} {ops:Array Oper} {S:W_} {rs:List Nat} {F:Fr} {tg:Nat} {M:List Nat} {w:World} {i:Nat}
  {next:Fr→List Nat→W_} {a:Act} (h:lc_ an n ops S rs F tg M w i next) (hg:Good n F tg M a) :
  ∃oi u T,ops[i]?=some oi∧YieldsIf P ops T oi u a∧((∀w,T w)∨(T=S∧cE_ i rs=true))∧∃F' M',Good n F' tg M' (a.put oi.dst u)∧next F' M' w:=by
 unfold lc_ at h
 split at h
 ·exact h.elim
 rename_i o ho
 split at h
 ·exact h.elim
 rename_i C hC
 split at h
 ·exact h.elim
 rename_i g hgB
 split at h
 ·exact h.elim
 rename_i hd
 have hw:=lb_ hg.fits hC
 have hgb:=o0_ hg.fits hgB
 have hg':=hg.more C
 have hI:∀X,gI C g X→bP_ a C→X:=by
  intro X hX hH
  cases C with
  | nil=>exact hX
  | cons y r=>exact hX (hgb.1 hH)
 by_cases hH:bP_ a C
 ·have hOk:=hA F tg C o a hg.fits hH
  have fin:∀v,Good n (dI_ F o.dst (ent tg C v)) tg (br_ C M) (a.put o.dst v):=fun v=>hg'.put hd (fun _=>rfl) (fun q=>absurd hH q)
  split at h
  ·rename_i v hv
   rw[hv] at hOk
   exact⟨o,v,fun _=>True,ho,.inl ⟨hw.2 hH,fun w' _=>hOk w'⟩,.inl fun _=>trivial,_,_,fin v,h⟩
  ·rename_i ob v hv
   rw[hv] at hOk
   exact⟨o,v,fun _=>True,ho,.inl ⟨hw.2 hH,fun w' _=>hOk (hI _ h.1 hH) w'⟩,.inl fun _=>trivial,_,_,fin v,h.2⟩
  ·rename_i k rel hv
   rw[hv] at hOk
   split at h
   ·rename_i hm
    obtain⟨x,h1,h2⟩:=h
    exact⟨o,_,S,ho,.inl ⟨hw.2 hH,fun w' hs=>hOk w' x (hI _ h1 hH w' hs)⟩,.inr ⟨rfl,hm⟩,_,_,fin _,h2⟩
   ·exact h.elim
  ·exact h.elim
 ·have hwf:Region.wanted o (yielded ops a.tmps)=false:=by
   cases hx:Region.wanted o (yielded ops a.tmps) with
   | false=>rfl
   | true=>exact absurd (hw.1 hx) hH
  have fin:∀v,Good n (dI_ F o.dst (ent tg C v)) tg (br_ C M) (a.put o.dst undef):=fun v=>hg'.put hd (fun q=>absurd q hH) (fun _=>rfl)
  have hy:YieldsIf P ops (fun _=>True) o undef a:=.inr ⟨hwf,rfl⟩
  split at h
  ·exact⟨o,undef,_,ho,hy,.inl fun _=>trivial,_,_,fin _,h⟩
  ·exact⟨o,undef,_,ho,hy,.inl fun _=>trivial,_,_,fin _,h.2⟩
  ·split at h
   ·obtain⟨x,h1,h2⟩:=h
    exact⟨o,undef,_,ho,hy,.inl fun _=>trivial,_,_,fin _,h2⟩
   ·exact h.elim
  ·exact h.elim
theorem gA_ {b:Bool} {A B:Prop} (h:r1_ b A B):(b=true→A)∧B:=by
 cases b with
 | true=>exact⟨fun _=>h.1,h.2⟩
 | false=>exact⟨fun q=>(by cases q),h⟩
theorem uv_ {P:Program} {an:Ana} (hA:an.Ok P) {n:Nat} {ops:Array Oper} {S:W_} {rs ac:List Nat} {F:Fr} {tg:Nat} {M:List Nat} {w:World} {i:Nat}
  {next:Fr→List Nat→W_} {a:Act} {Q:Exit→Act→W_} {K:Act→W_} (h:r3_ an n ops S rs ac F tg M w i next) (hg:Good n F tg M a)
  (hK:∀o F' M' w' u,ops[i]?=some o→Good n F' tg M' (a.put o.dst u)→next F' M' w'→cE_ i ac=true→(i6_ ops i rs=true→S w')→K (a.put o.dst u) w') :
  wpOp P ops Q i K a w:=by
 unfold r3_ at h
 split at h
 ·exact h.elim
 rename_i hac
 split at h
 ·exact h.elim
 rename_i o ho
 split at h
 ·exact h.elim
 rename_i C hC
 split at h
 ·exact h.elim
 rename_i g hgB
 split at h
 ·exact h.elim
 rename_i hd
 have hw:=lb_ hg.fits hC
 have hgb:=o0_ hg.fits hgB
 have hg':=hg.more C
 unfold wpOp
 simp only[ho]
 by_cases hH:bP_ a C
 ·rw[if_pos (hw.2 hH)]
  left
  have hOk:=hA F tg C o a hg.fits hH
  have fin:∀v,Good n (dI_ F o.dst (ent tg C v)) tg (br_ C M) (a.put o.dst v):=fun v=>hg'.put hd (fun _=>rfl) (fun q=>absurd hH q)
  split at h
  ·rename_i k f hv
   rw[hv] at hOk
   split at h
   ·refine Oper.wp_mono (fun a' w' ⟨x,e,hk⟩=>?_) (hOk w _ Q h)
    subst e
    exact hK _ _ _ _ _ ho (fin _) (gA_ hk).2 hac (gA_ hk).1
   ·rename_i y r
    have h1:=h.1 (hgb.1 hH)
    refine Oper.wp_mono (fun a' w' ⟨x,e,hk⟩=>?_) (hOk w _ Q h1)
    subst e
    exact hK _ _ _ _ _ ho (fin _) (gA_ hk).2 hac (gA_ hk).1
  ·rename_i f hv
   rw[hv] at hOk
   split at h
   ·refine Oper.wp_mono (fun a' w' ⟨v,e,hk⟩=>?_) (hOk w _ Q h)
    subst e
    exact hK _ _ _ _ _ ho (fin _) (gA_ hk).2 hac (gA_ hk).1
   ·exact h.elim
  ·exact h.elim
 ·rw[if_neg (fun q=>hH (hw.1 q))]
  have hgf:g=false:=by
   cases g with
   | false=>rfl
   | true=>exact absurd (hgb.2 rfl) hH
  have fin:∀v,Good n (dI_ F o.dst (ent tg C v)) tg (br_ C M) (a.put o.dst undef):=fun v=>hg'.put hd (fun q=>absurd q hH) (fun _=>rfl)
  split at h
  ·split at h
   ·exact absurd (fun x hx=>by cases hx) hH
   ·have hk:=h.2 hgf
    exact hK _ _ _ _ _ ho (fin _) (gA_ hk).2 hac (gA_ hk).1
  ·split at h
   ·exact absurd (fun x hx=>by cases hx) hH
   ·exact h.elim
  ·exact h.elim
theorem ld_ {a:Act} {o:Oper} {u:Value} {l:List Oper} {i d:Nat} (hi:l[i]?=some o) (h:cz_ l d=false):(a.put o.dst u).tmps[d]?=a.tmps[d]?:=by
 induction l generalizing i with
 | nil=>simp at hi
 | cons y r ih=>
  cases i with
  | zero=>
   have hyo:y=o:=by simpa using hi
   subst hyo
   exact po_ h
  | succ i=>
   simp only[cz_,Bool.or_eq_false_iff] at h
   exact ih (by simpa using hi) h.2
theorem mc_ {P:Program} {ops:Array Oper} {Q:Exit→Act→W_} {S S':W_} {rs ac:List Nat} (hS:∀w,S' w→S w):∀(f:Nat) (listed:Array Bool) (a:Act) (w:World),
  hR_ P ops Q S' rs ac f listed a w→hR_ P ops Q S rs ac f listed a w
 | 0,_,_,_,h=>h
 | f+1,_,_,_,h=>⟨h.1,fun i hi=>wpOp_mono (fun a' w' h'=>⟨h'.1,fun q q'=>hS _ (h'.2.1 q q'),mc_ hS f _ a' w' h'.2.2⟩) (h.2 i hi)⟩
theorem id_ {P:Program} {an:Ana} (hA:an.Ok P) {n:Nat} {ops:Array Oper} {rs ac:List Nat} {Kn:St→W_} (hsel:Region.noSelect ops=true) (a0:Act) :
  ∀(f:Nat) (S:W_) (listed:Array Bool) (F:Fr) (tg:Nat) (M:List Nat) (w:World) (a:Act),
  fz_ an n ops rs ac Kn f S listed F tg M w→Good n F tg M a→hQ_ ops listed→(∀i,cE_ i rs=true→listed.getD i true=false→S w)→ex_ (cz_ ops.toList) a0 a→
  hR_ P ops (QN n Kn (cz_ ops.toList) a0) S rs ac f listed a w
 | 0,S,listed,F,tg,M,w,a,h,hg,hc,hS,hs=>by
  simp only[fz_] at h
  split at h
  ·rename_i hr
   exact⟨hr,⟨_,hg.next,h⟩,hs⟩
  ·exact h.elim
 | f+1,S,listed,F,tg,M,w,a,h,hg,hc,hS,hs=>by
  simp only[fz_] at h
  split at h
  ·rename_i hr
   refine⟨fun _=>⟨⟨_,hg.next,h⟩,hs⟩,fun i hi=>?_⟩
   rw[hr] at hi;cases hi
  ·rename_i i r hr
   split at h
   ·rename_i j hj
    obtain⟨hmem,hac,hfree⟩:=pr_ hj
    rw[←hr] at hmem
    have hun:=(mem_ready.1 hmem).1
    have key:∀S2:W_,(∀i,cE_ i rs=true→listed.getD i true=false→S2 w)→
      lc_ an n ops S2 rs F tg M w j (fun F' M' w'=>fz_ an n ops rs ac Kn f S2 (listed.setIfInBounds j true) F' tg M' w')→
      hR_ P ops (QN n Kn (cz_ ops.toList) a0) S2 rs ac (f+1) listed a w:=by
     intro S2 hS2 h
     obtain⟨oi,u,T,hoi,hy,hT,F',M',hg',hn⟩:=s7_ hA h hg
     have hTw:T w:=by
      rcases hT with hT|⟨rfl,hm⟩
      ·exact hT w
      ·exact hS2 j hm hun
     refine pp_ hoi (Region.noSelect_spec hsel) (fun c a w q=>q.elim) hT hac f listed a w (Region.free_spec hoi hfree) hc hmem hy hTw ?_
     refine id_ hA hsel a0 f S2 _ F' tg M' w _ hn hg' (hc.set hmem) (fun k hk hl=>hS2 k hk ?_) (fun d hd=>?_)
     ·by_cases hjk:j=k
      ·subst hjk;exact hun
      ·rw[getD_set_ne true hjk] at hl;exact hl
     ·rw[ld_ (l:=ops.toList) (i:=j) (by simpa using hoi) hd];exact hs d hd
    split at h
    ·exact key S hS h
    ·obtain⟨S2,h1,h2,h3⟩:=h
     exact mc_ h2 _ _ _ _ (key S2 (fun _ _ _=>h1) h3)
   ·refine⟨fun h0=>(by rw[h0] at hr;cases hr),fun j hj=>?_⟩
    have h1:=og_ h j (by rw[←hr];exact hj)
    refine uv_ hA h1 hg (fun o F' M' w' u ho hg' hn hac hS'=>⟨fun q=>(by rw[hac] at q;cases q),fun _=>hS',?_⟩)
    refine id_ hA hsel a0 f S _ F' tg M' w' _ hn hg' (hc.set hj) (fun k hk hl=>hS' ?_) (fun d hd=>?_)
    ·have hjk:j≠k:=by
      intro e
      subst e
      obtain⟨hun,_⟩:=mem_ready.1 hj
      rcases Nat.lt_or_ge j listed.size with h'|h'
      ·simp[h'] at hl
      ·simp[Array.getElem?_eq_none h'] at hun
     rw[getD_set_ne true hjk] at hl
     exact mv_ hc hj hjk hl hk
    ·rw[ld_ (l:=ops.toList) (i:=j) (by simpa using ho) hd];exact hs d hd
def ps_ (an:Ana) (isR isA:Oper→Bool) (n:Nat) (ops:Array Oper) (draw:Bool) (Kn:St→W_) (F:Fr) (tg:Nat) (w:World):Prop:=
 match draw with
 | false=>pl_ an n ops Kn ops.toList F tg [] w
 | true=>match Region.noSelect ops with
  | false=>False
  | true=>match pq_ isR ops.toList 0 with
   | []=>∀w1,w1={w with drawn:=w.drawn+1}→fz_ an n ops [] (pq_ isA ops.toList 0) Kn ops.size (fun _=>True) (Array.replicate ops.size false) F tg [] w1
   | r::rs=>∀w1,w1={w with drawn:=w.drawn+1}→∃S:W_,S w1∧fz_ an n ops (r::rs) (pq_ isA ops.toList 0) Kn ops.size S (Array.replicate ops.size false) F tg [] w1
theorem s8_ {P:Program} {an:Ana} (hA:an.Ok P) (hm:P.follows .mixedOrders=true) {isR isA:Oper→Bool} {n id:Nat} {ops:Array Oper} {draw:Bool} {Kn:St→W_} {st:St} {w:World} {a:Act}
  (h:ps_ an isR isA n ops draw Kn st.F st.tg w) (hs:OkS n st a):(Code.region id ops draw).wp P (QN n Kn (cz_ ops.toList) a) a w:=by
 unfold ps_ at h
 split at h
 ·exact wp_region_list (of_ hA _ _ _ _ _ _ h hs.good)
 ·split at h
  ·exact h.elim
  ·rename_i hsel
   have c0:hQ_ ops (Array.replicate ops.size false):=by
    intro j oj _ hl
    rcases Nat.lt_or_ge j ops.size with h'|h'
    ·simp[h'] at hl
    ·simp[h'] at hl
   split at h
   ·exact wp_region_any hm (kc_ _ _ _ _ (id_ hA hsel a _ _ _ _ _ _ _ _ (h _ rfl) hs.good c0 (fun _ _ _=>trivial) (fun _ _=>rfl)))
   ·obtain⟨S,hS,h⟩:=h _ rfl
    exact wp_region_any hm (kc_ _ _ _ _ (id_ hA hsel a _ _ _ _ _ _ _ _ h hs.good c0 (fun _ _ _=>hS) (fun _ _=>rfl)))
open Go
set_option maxRecDepth 100000
abbrev Fn':List Kd→Type→Type
 | [],τ=>τ
 | k::ks,τ=>k.T→Fn' ks τ
def cur {τ:Type}:(ks:List Kd)→(List Value→τ)→Fn' ks τ
 | [],f=>f []
 | k::ks,f=>fun x=>cur ks (fun vs=>f (k.mk x::vs))
def app {τ:Type}:(ks:List Kd)→Fn' ks τ→List Value→τ
 | [],g,_=>g
 | k::ks,g,v::vs=>app ks (g (k.un v)) vs
 | k::ks,g,[]=>app ks (g (dflt k)) []
def allK:(ks:List Kd)→(List Value→Prop)→Prop
 | [],f=>f []
 | k::ks,f=>∀x:k.T,allK ks (fun vs=>f (k.mk x::vs))
def exK:(ks:List Kd)→(List Value→Prop)→Prop
 | [],f=>f []
 | k::ks,f=>∃x:k.T,exK ks (fun vs=>f (k.mk x::vs))
def a1_:List Kd→List Value→Prop
 | [],[]=>True
 | k::ks,v::vs=>k.fit v=true∧a1_ ks vs
 | _,_=>False
theorem vP_:∀(k:Kd) (x:k.T),k.un (k.mk x)=x
 | .ok k,x=>by show(k.un (k.mk x.1),x.2)=x;rw[vP_ k]
 | .i _,_ | .b,_ | .s,_ | .p,_ | .sl,_ | .m,_ | .v,_ | .ag,_ | .a,_=>rfl
theorem pt_:∀(k:Kd) (x:k.T),k.fit (k.mk x)=true
 | .ok k,x=>pt_ k x.1
 | .i k,_=>by cases k<;>rfl
 | .b,_ | .s,_ | .p,_ | .sl,_ | .m,_ | .v,_ | .ag,_ | .a,_=>rfl
theorem pu_:∀{ks:List Kd} {f:List Value→Prop} {vs:List Value},allK ks f→a1_ ks vs→f vs
 | [],f,[],h,_=>h
 | k::ks,f,v::vs,h,hf=>by
  have:=pu_ (h (k.un v)) hf.2
  rwa [Kd.mk_un hf.1] at this
 | [],_,_::_,_,hf=>hf.elim
 | _::_,_,[],_,hf=>hf.elim
theorem lM_ {τ:Type}:∀{ks:List Kd} {f:List Value→τ} {vs:List Value},a1_ ks vs→app ks (cur ks f) vs=f vs
 | [],f,[],_=>rfl
 | k::ks,f,v::vs,hf=>by
  show app ks (cur ks _) vs=_
  rw[lM_ hf.2,Kd.mk_un hf.1]
 | [],_,_::_,hf=>hf.elim
 | _::_,_,[],hf=>hf.elim
def aR_ {α:Type} (j:α) (body:α→Prop):Prop:=body j
structure nP_ where
 set:List (Nat×Kd)
 keep:List Nat
def e1_:List (Nat×Kd)→List Kd
 | []=>[]
 | x::r=>x.2::e1_ r
def dJ_ (F:Fr):List (Nat×Kd)→Option (List Value)
 | []=>some []
 | x::r=>match ev_ F x.1 with
  | some (.val v)=>match x.2.fit v with
   | true=>match dJ_ F r with
    | some vs=>some (v::vs)
    | none=>none
   | false=>none
  | _=>none
def nQ_:List (Nat×Kd)→List Value→Fr→Fr
 | x::r,v::vs,F=>(x.1,.val v)::nQ_ r vs F
 | _,_,F=>F
def i7_ (F:Fr):List Nat→Fr
 | []=>[]
 | s::r=>match ev_ F s with
  | some (.val v)=>(s,.val v)::i7_ F r
  | _=>i7_ F r
def cn_:Code→Nat→Bool
 | .region _ ops _,d=>cz_ ops.toList d
 | .seq a b,d=>cn_ a d||cn_ b d
 | .cond _ a b,d=>cn_ a d||cn_ b d
 | .block _ c,d=>cn_ c d
 | .loop c,d=>cn_ c d
 | _,_=>false
def jQ_ (c:Code):List Nat→Bool
 | []=>true
 | s::r=> !cn_ c s&&jQ_ c r
def gq_:Code→Option Nat
 | .region id _ _=>some id
 | .seq a b=>match gq_ a with|some r=>some r|none=>gq_ b
 | .cond _ a b=>match gq_ a with|some r=>some r|none=>gq_ b
 | .block _ c=>gq_ c
 | .loop c=>gq_ c
 | _=>none
abbrev lN_:=List (Nat×nP_)
def pv_ (k:Nat):lN_→Option nP_
 | []=>none
 | (i,h)::r=>bif Nat.beq i k then some h else pv_ k r
def rj_ (H:lN_) (c:Code) (j:Nat):Option nP_:=match gq_ c with|some r=>pv_ (3*r+j) H|none=>none
def Br (b:Bool) (A B:Prop):Prop:=(b=true→A)∧(b=false→B)
def kd_ (h:Option nP_) (c:Code) (F:Fr) (Kn:St→W_) (body:(St→W_)→Prop):Prop:=
 match h with
 | none=>body Kn
 | some h=>match jQ_ c h.keep with
  | false=>False
  | true=>aR_ (cur (e1_ h.set) fun vs w'=>Kn ⟨nQ_ h.set vs (i7_ F h.keep),0⟩ w') fun J=>
    body fun st' w'=>match dJ_ st'.F h.set with
     | some vs=>app (e1_ h.set) J vs w'
     | none=>False
structure Gen where
 an:Ana
 isR:Oper→Bool
 isA:Oper→Bool
def vcC (G:Gen) (n:Nat) (H:lN_):Code→St→World→(St→W_)→(Nat→St→W_)→(St→W_)→Prop
 | .skip,st,w,Kn,_,_=>Kn st w
 | .label _,st,w,Kn,_,_=>Kn st w
 | .region _ ops draw,st,w,Kn,_,_=>ps_ G.an G.isR G.isA n ops draw Kn st.F st.tg w
 | .seq a b,st,w,Kn,Kx,Kr=>vcC G n H a st w (fun st' w'=>vcC G n H b st' w' Kn Kx Kr) Kx Kr
 | .cond c a b,st,w,Kn,Kx,Kr=>match opv st.F st.tg [] c with
  | some (.bool t)=>kd_ (rj_ H (.cond c a b) 1) (.cond c a b) st.F Kn fun Kn'=>Br t (vcC G n H a st w Kn' Kx Kr) (vcC G n H b st w Kn' Kx Kr)
  | _=>False
 | .block id c,st,w,Kn,Kx,Kr=>kd_ (pv_ (3*id+2) H) c st.F Kn fun Kn'=>
   vcC G n H c st w Kn' (fun id' st' w'=>match Nat.beq id' id with|true=>Kn' st' w'|false=>Kx id' st' w') Kr
 | .loop c,st,w,_,Kx,Kr=>match rj_ H c 0 with
  | none=>False
  | some h=>match jQ_ c h.keep with
   | false=>False
   | true=>match dJ_ st.F h.set with
    | none=>False
    | some vs0=>∃(I:Fn' (e1_ h.set) (W_)) (μ:Fn' (e1_ h.set) (World→Nat)),app (e1_ h.set) I vs0 w∧
      allK (e1_ h.set) fun vs=>∀w1,app (e1_ h.set) I vs w1→
       vcC G n H c ⟨nQ_ h.set vs (i7_ st.F h.keep),0⟩ w1 (fun st' w'=>match dJ_ st'.F h.set with
        | some vs'=>app (e1_ h.set) I vs' w'∧app (e1_ h.set) μ vs' w'<app (e1_ h.set) μ vs w1
        | none=>False) Kx Kr
 | .exit id,st,w,_,Kx,_=>Kx id st w
 | .ret,st,w,_,_,Kr=>Kr st w
 | _,_,_,_,_,_=>False
def QC (n:Nat) (Kn:St→W_) (Kx:Nat→St→W_) (Kr:St→W_) (wr:Nat→Bool) (a0:Act):Exit→Act→W_
 | .normal,a,w=>(∃st,OkS n st a∧Kn st w)∧ex_ wr a0 a
 | .exit id,a,w=>(∃st,OkS n st a∧Kx id st w)∧ex_ wr a0 a
 | .ret,a,w=>∃st,OkS n st a∧Kr st w
 | _,_,_=>False
theorem dK_ {F:Fr} {tg:Nat} {a:Act} (h:ew_ F tg a):∀{sl:List (Nat×Kd)} {vs:List Value},dJ_ F sl=some vs→
  a1_ (e1_ sl) vs∧vs=sl.map fun x=>a.tmps.getD x.1 undef
 | [],vs,hg=>by obtain rfl:=Option.some.inj hg;exact⟨trivial,rfl⟩
 | x::r,vs,hg=>by
  simp only[dJ_] at hg
  split at hg
  ·rename_i v hl
   split at hg
   ·rename_i hf
    split at hg
    ·rename_i vs' hr
     obtain rfl:=Option.some.inj hg
     have ih:=dK_ h hr
     have h1:=h _ _ hl
     simp only[EOk] at h1
     refine⟨⟨hf,ih.1⟩,?_⟩
     rw[List.map_cons,←ih.2]
     simp[Array.getD_eq_getD_getElem?,h1]
    ·cases hg
   ·cases hg
  ·cases hg
theorem md_ {F:Fr} {tg:Nat} {a:Act} (h:ew_ F tg a):∀{sl:List (Nat×Kd)} {vs:List Value},dJ_ F sl=some vs→∀x∈sl,a.tmps[x.1]?=some (a.tmps.getD x.1 undef)
 | [],vs,hg,x,hx=>by cases hx
 | y::r,vs,hg,x,hx=>by
  simp only[dJ_] at hg
  split at hg
  ·rename_i v hl
   split at hg
   ·split at hg
    ·rename_i vs' hr
     rcases List.mem_cons.1 hx with rfl|hx
     ·have h1:=h _ _ hl
      simp only[EOk] at h1
      simp[Array.getD_eq_getD_getElem?,h1]
     ·exact md_ h hr x hx
    ·cases hg
   ·cases hg
  ·cases hg
theorem oh_ {c:Code}:∀{l:List Nat},jQ_ c l=true→∀s∈l,cn_ c s=false
 | [],_,s,hs=>by cases hs
 | x::r,h,s,hs=>by
  simp only[jQ_,Bool.and_eq_true,Bool.not_eq_true'] at h
  rcases List.mem_cons.1 hs with rfl|hs
  ·exact h.1
  ·exact oh_ h.2 s hs
theorem ke_ {F:Fr}:∀{l:List Nat} {t:Nat} {e:E},ev_ (i7_ F l) t=some e→t∈l∧ev_ F t=some e∧∃v,e=.val v
 | [],t,e,h=>by cases h
 | s::r,t,e,h=>by
  simp only[i7_] at h
  split at h
  ·rename_i v hl
   rw[hP_] at h
   by_cases hst:s=t
   ·subst hst
    rw[if_pos rfl] at h
    obtain rfl:=Option.some.inj h
    exact⟨List.mem_cons_self,hl,v,rfl⟩
   ·rw[if_neg hst] at h
    obtain⟨h1,h2⟩:=ke_ h
    exact⟨List.mem_cons_of_mem _ h1,h2⟩
  ·obtain⟨h1,h2⟩:=ke_ h
   exact⟨List.mem_cons_of_mem _ h1,h2⟩
theorem rk_ {n:Nat} {F:Fr} {tg:Nat} {c:Code} {h:nP_} {a a':Act} {st':St} {vs:List Value} (hs:ew_ F tg a) (hk:jQ_ c h.keep=true) (hsame:ex_ (cn_ c) a a')
  (ho:OkS n st' a') (hg:dJ_ st'.F h.set=some vs):OkS n ⟨nQ_ h.set vs (i7_ F h.keep),0⟩ a':=by
 have h1:=dK_ ho.fits hg
 have h2:=md_ ho.fits hg
 have look':∀(sl:List (Nat×Kd)) (vs:List Value),(vs=sl.map fun x=>a'.tmps.getD x.1 undef)→(∀x∈sl,a'.tmps[x.1]?=some (a'.tmps.getD x.1 undef))→
   ∀t e,ev_ (nQ_ sl vs (i7_ F h.keep)) t=some e→∃v,e=.val v∧a'.tmps[t]?=some v:=by
  intro sl
  induction sl with
  | nil=>
   intro vs hvs _ t e hl
   subst hvs
   obtain⟨hm,hl,v,rfl⟩:=ke_ hl
   have:=hs t _ hl
   simp only[EOk] at this
   exact⟨v,rfl,by rw[hsame t (oh_ hk t hm)];exact this⟩
  | cons x r ih=>
   intro vs hvs hat t e hl
   subst hvs
   simp only[List.map_cons,nQ_] at hl
   rw[hP_] at hl
   by_cases hxt:x.1=t
   ·rw[if_pos hxt] at hl
    obtain rfl:=Option.some.inj hl
    subst hxt
    exact⟨_,rfl,hat x List.mem_cons_self⟩
   ·rw[if_neg hxt] at hl
    exact ih _ rfl (fun y hy=>hat y (List.mem_cons_of_mem _ hy)) t e hl
 have L:=look' h.set vs h1.2 h2
 refine⟨ho.size,ho.defers,fun t e hl=>?_,fun t c' v hl=>?_⟩
 ·obtain⟨v,rfl,hv⟩:=L t e hl
  exact hv
 ·obtain⟨v',he,_⟩:=L t _ hl
  cases he
theorem nR_ {n:Nat} {Kn Kn':St→W_} {Kx Kx':Nat→St→W_} {Kr:St→W_} {wr wr':Nat→Bool} {a0 a1:Act} {e:Exit} {a:Act} {w:World}
  (h:QC n Kn Kx Kr wr a1 e a w) (hs:∀a',ex_ wr a1 a'→ex_ wr' a0 a') (hn:∀st a w,OkS n st a→ex_ wr' a0 a→Kn st w→∃st',OkS n st' a∧Kn' st' w)
  (hx:∀id st a w,OkS n st a→ex_ wr' a0 a→Kx id st w→∃st',OkS n st' a∧Kx' id st' w):QC n Kn' Kx' Kr wr' a0 e a w:=by
 cases e with
 | normal=>obtain⟨⟨st,h1,h2⟩,h3⟩:=h;exact⟨hn st a w h1 (hs a h3) h2,hs a h3⟩
 | exit id=>obtain⟨⟨st,h1,h2⟩,h3⟩:=h;exact⟨hx id st a w h1 (hs a h3) h2,hs a h3⟩
 | ret=>exact h
 | goto l=>exact h
 | panic c=>exact h
 | outgrown=>exact h
theorem ex_.refl (wr:Nat→Bool) (a:Act):ex_ wr a a:=fun _ _=>rfl
theorem me_ {n:Nat} {h:Option nP_} {c:Code} {F:Fr} {tg:Nat} {Kn:St→W_} {body:(St→W_)→Prop} {a:Act} (hs:ew_ F tg a)
  (H:kd_ h c F Kn body):∃Kn',body Kn'∧∀st' a' w',OkS n st' a'→ex_ (cn_ c) a a'→Kn' st' w'→∃st,OkS n st a'∧Kn st w':=by
 unfold kd_ at H
 split at H
 ·exact⟨Kn,H,fun st' a' w' h1 _ h2=>⟨st',h1,h2⟩⟩
 ·rename_i h
  split at H
  ·exact H.elim
  ·rename_i hk
   refine⟨_,H,fun st' a' w' h1 hsame h2=>?_⟩
   split at h2
   ·rename_i vs hg
    rw[lM_ (dK_ h1.fits hg).1] at h2
    exact⟨_,rk_ hs hk hsame h1 hg,h2⟩
   ·exact h2.elim
theorem wN_ {P:Program} {G:Gen} (hA:G.an.Ok P) (hm:P.follows .mixedOrders=true) {n:Nat} {H:lN_}:∀(c:Code) (st:St) (w:World) (Kn:St→W_) (Kx:Nat→St→W_) (Kr:St→W_) (a:Act),
  vcC G n H c st w Kn Kx Kr→OkS n st a→c.wp P (QC n Kn Kx Kr (cn_ c) a) a w:=by
 intro c
 induction c with
 | skip=>intro st w Kn Kx Kr a h hs;exact wp_skip ⟨⟨st,hs,h⟩,ex_.refl _ _⟩
 | label l=>intro st w Kn Kx Kr a h hs;exact wp_label ⟨⟨st,hs,h⟩,ex_.refl _ _⟩
 | exit id=>intro st w Kn Kx Kr a h hs;exact wp_exit ⟨⟨st,hs,h⟩,ex_.refl _ _⟩
 | ret=>intro st w Kn Kx Kr a h hs;exact wp_ret ⟨st,hs,h⟩
 | goto l=>intro st w Kn Kx Kr a h hs;exact h.elim
 | refuse y=>intro st w Kn Kx Kr a h hs;exact h.elim
 | scope c _=>intro st w Kn Kx Kr a h hs;exact h.elim
 | rangeFunc f ps x y _ _=>intro st w Kn Kx Kr a h hs;exact h.elim
 | region id ops draw=>
  intro st w Kn Kx Kr a h hs
  refine Go.wp_mono (s8_ hA hm (id:=id) h hs) fun e a' w' q=>?_
  cases e<;>first|exact q|exact q.elim
 | seq x y ihx ihy=>
  intro st w Kn Kx Kr a h hs
  refine wp_seq (Go.wp_mono (ihx st w _ Kx Kr a h hs) fun e a1 w1 q=>?_)
  have sx:∀a',ex_ (cn_ x) a a'→ex_ (cn_ (.seq x y)) a a':=fun a' hh d hd=>hh d (by simp only[cn_,Bool.or_eq_false_iff] at hd;exact hd.1)
  cases e with
  | normal=>
   obtain⟨⟨st1,h1,h2⟩,h3⟩:=q
   refine Go.wp_mono (ihy st1 w1 Kn Kx Kr a1 h2 h1) fun e a2 w2 q2=>?_
   refine nR_ q2 (fun a' hh d hd=>?_) (fun st a w h _ hk=>⟨st,h,hk⟩) (fun id st a w h _ hk=>⟨st,h,hk⟩)
   simp only[cn_,Bool.or_eq_false_iff] at hd
   rw[hh d hd.2,h3 d hd.1]
  | exit id=>exact⟨q.1,sx _ q.2⟩
  | ret=>exact q
  | goto l=>exact q.elim
  | panic c=>exact q.elim
  | outgrown=>exact q.elim
 | cond c x y ihx ihy=>
  intro st w Kn Kx Kr a h hs
  simp only[vcC] at h
  split at h
  ·rename_i t hc
   have hev:=jP_ hs.fits (C:=[]) (fun x hx=>(by cases hx)) hc
   obtain⟨Kn',hb,hj⟩:=me_ (n:=n) (a:=a) (F:=st.F) (tg:=st.tg) hs.fits h
   refine wp_cond_split hev (fun ht=>?_) (fun ht=>?_)
   ·refine Go.wp_mono (ihx st w Kn' Kx Kr a (hb.1 ht) hs) fun e a' w' q=>?_
    exact nR_ q (fun a' hh d hd=>hh d (by simp only[cn_,Bool.or_eq_false_iff] at hd;exact hd.1)) (fun st' a' w' h1 h2 h3=>hj st' a' w' h1 h2 h3) (fun id st a w h _ hk=>⟨st,h,hk⟩)
   ·refine Go.wp_mono (ihy st w Kn' Kx Kr a (hb.2 ht) hs) fun e a' w' q=>?_
    exact nR_ q (fun a' hh d hd=>hh d (by simp only[cn_,Bool.or_eq_false_iff] at hd;exact hd.2)) (fun st' a' w' h1 h2 h3=>hj st' a' w' h1 h2 h3) (fun id st a w h _ hk=>⟨st,h,hk⟩)
  ·exact h.elim
 | block id c ih=>
  intro st w Kn Kx Kr a h hs
  simp only[vcC] at h
  obtain⟨Kn',hb,hj⟩:=me_ (n:=n) (a:=a) (F:=st.F) (tg:=st.tg) hs.fits h
  refine wp_block (Go.wp_mono (ih st w Kn' _ Kr a hb hs) fun e a' w' q=>?_)
  cases e with
  | normal=>obtain⟨⟨st1,h1,h2⟩,h3⟩:=q;exact⟨hj st1 a' w' h1 h3 h2,h3⟩
  | exit id'=>
   obtain⟨⟨st1,h1,h2⟩,h3⟩:=q
   simp only[Exit.inBlock]
   split at h2
   ·rename_i he
    rw[if_pos (Nat.eq_of_beq_eq_true he)]
    exact⟨hj st1 a' w' h1 h3 h2,h3⟩
   ·rename_i he
    rw[if_neg (fun e=>by subst e;rw[Nat.beq_refl] at he;cases he)]
    exact⟨⟨st1,h1,h2⟩,h3⟩
  | ret=>exact q
  | goto l=>exact q.elim
  | panic c=>exact q.elim
  | outgrown=>exact q.elim
 | loop c ih=>
  intro st w Kn Kx Kr a h hs
  simp only[vcC] at h
  split at h
  ·exact h.elim
  rename_i hh _
  split at h
  ·exact h.elim
  rename_i hk
  split at h
  ·exact h.elim
  rename_i vs0 hg0
  obtain⟨I,μ,hI,hr⟩:=h
  refine wp_loop (fun a' w'=>ex_ (cn_ c) a a'∧(∃st',OkS n st' a'∧dJ_ st'.F hh.set=some (hh.set.map fun x=>a'.tmps.getD x.1 undef))∧app (e1_ hh.set) I (hh.set.map fun x=>a'.tmps.getD x.1 undef) w')
   (fun a' w'=>app (e1_ hh.set) μ (hh.set.map fun x=>a'.tmps.getD x.1 undef) w') ?_ ?_
  ·refine⟨ex_.refl _ _,⟨st,hs,?_⟩,?_⟩
   ·rw[hg0,←(dK_ hs.fits hg0).2]
   ·rw[←(dK_ hs.fits hg0).2];exact hI
  ·intro a1 w1 ⟨hs1,⟨st1,h1,hg1⟩,hI1⟩
   have hf:=(dK_ h1.fits hg1).1
   have hbody:=pu_ hr hf w1 hI1
   have hok:=rk_ (h:=hh) hs.fits hk hs1 h1 hg1
   refine Go.wp_mono (ih _ w1 _ Kx Kr a1 hbody hok) fun e a2 w2 q=>?_
   cases e with
   | normal=>
    obtain⟨⟨st2,h2,h3⟩,h4⟩:=q
    split at h3
    ·rename_i vs' hg2
     have e2:=(dK_ h2.fits hg2).2
     rw[e2] at h3
     exact⟨⟨fun d hd=>by rw[h4 d hd,hs1 d hd],⟨st2,h2,by rw[hg2,e2]⟩,h3.1⟩,h3.2⟩
    ·exact h3.elim
   | exit id=>exact⟨q.1,fun d hd=>by rw[q.2 d hd,hs1 d hd]⟩
   | ret=>exact q
   | goto l=>exact q.elim
   | panic c=>exact q.elim
   | outgrown=>exact q.elim
def mw_:List Value→Value
 | []=>.tuple #[]
 | [v]=>v
 | v::u::r=>.tuple (v::u::r).toArray
def mx_ (P:Program):List ResultVar→List Kd→St→World→(List Value→Prop)→Prop
 | [],[],_,_,k=>k []
 | .tmp t::r,q::ks,st,w,k=>match ev_ st.F t with
  | some (.val v)=>match q.fit v with
   | true=>mx_ P r ks st w (fun vs=>k (v::vs))
   | false=>False
  | _=>False
 | .cell s t::r,q::ks,st,w,k=>match ev_ st.F s with
  | some (.val (.pointer (some a)))=>∃x:q.T,(loadVar t a).run P w=.ok (q.mk x) w∧mx_ P r ks st w (fun vs=>k (q.mk x::vs))
  | _=>False
 | _,_,_,_,_=>False
def uw_ (P:Program) (rv:List ResultVar) (ks:List Kd) (R:Fn' ks (W_)) (st:St) (w:World):Prop:=
 mx_ P rv ks st w fun vs => app ks R vs w
def m5_:List Value→Nat→Fr
 | [],_=>[]
 | v::r,i=>(i,.val v)::m5_ r (i+1)
def vcF (P:Program) (G:Gen) (fn:Func) (H:lN_) (ks:List Kd) (args:List Value) (w:World) (R:Fn' ks (W_)):Prop:=
 match fn.body with
 | none=>False
 | some c=>match Nat.ble args.length fn.ntmps with
  | false=>False
  | true=>vcC G fn.ntmps H c ⟨m5_ args 0,0⟩ w (uw_ P fn.results.toList ks R) (fun _ _ _=>False) (uw_ P fn.results.toList ks R)
def al_ (P:Program) (f:FuncId) (args:A_) (w:World) (ks:List Kd) (R:Fn' ks (W_)):Prop:=
 Calls P f args w fun e w'=>exK ks fun vs=>e=.returned (mw_ vs)∧app ks R vs w'
theorem s9_:∀{ks:List Kd} {f:List Value→Prop} {vs:List Value},a1_ ks vs→f vs→exK ks f
 | [],f,[],_,h=>h
 | k::ks,f,v::vs,hf,h=>⟨k.un v,s9_ hf.2 (by rw[Kd.mk_un hf.1];exact h)⟩
 | [],_,_::_,hf,_=>hf.elim
 | _::_,_,[],hf,_=>hf.elim
theorem pw_ {F:Fr} {tg:Nat} {a:Act} (h:ew_ F tg a) {t:Nat} {v:Value} (hl:ev_ F t=some (.val v)):a.tmps.getD t undef=v:=by
 have:=h _ _ hl
 simp only[EOk] at this
 simp[Array.getD_eq_getD_getElem?,this]
theorem nS_ {P:Program} {n:Nat} {st:St} {a:Act} {w:World} (ho:OkS n st a) (g:ResultVar→Sem Value) (hg:∀t,g (.tmp t)=pure (a.tmps.getD t undef))
  (hc:∀s t,g (.cell s t)=(do loadVar t (←asAddr (a.tmps.getD s undef)))):∀{rv:List ResultVar} {ks:List Kd} {k:List Value→Prop},mx_ P rv ks st w k→
  ∃vs,(rv.mapM g).run P w=.ok vs w∧a1_ ks vs∧k vs
 | [],[],k,h=>⟨[],rfl,trivial,h⟩
 | .tmp t::r,q::ks,k,h=>by
  simp only[mx_] at h
  split at h
  ·rename_i v hl
   split at h
   ·rename_i hf
    obtain⟨vs,h1,h2,h3⟩:=nS_ ho g hg hc h
    refine⟨v::vs,?_,⟨hf,h2⟩,h3⟩
    rw[List.mapM_cons,hg,pw_ ho.fits hl]
    simp[h1]
   ·exact h.elim
  ·exact h.elim
 | .cell s t::r,q::ks,k,h=>by
  simp only[mx_] at h
  split at h
  ·rename_i ad hl
   obtain⟨x,hx,h⟩:=h
   obtain⟨vs,h1,h2,h3⟩:=nS_ ho g hg hc h
   refine⟨q.mk x::vs,?_,⟨pt_ q x,h2⟩,h3⟩
   rw[List.mapM_cons,hc,pw_ ho.fits hl]
   simp[asAddr,hx,h1]
  ·exact h.elim
 | [],_::_,_,h=>h.elim
 | .tmp _::_,[],_,h=>h.elim
 | .cell _ _::_,[],_,h=>h.elim
theorem qM_ {P:Program} {fn:Func} {n:Nat} {st:St} {a:Act} {w:World} {ks:List Kd} {k:List Value→Prop} (ho:OkS n st a) (h:mx_ P fn.results.toList ks st w k) :
  ∃vs,(results fn a.tmps).run P w=.ok (mw_ vs) w∧a1_ ks vs∧k vs:=by
 have key:∀g:ResultVar→Sem Value,(∀t,g (.tmp t)=pure (a.tmps.getD t undef))→(∀s t,g (.cell s t)=(do loadVar t (←asAddr (a.tmps.getD s undef))))→
   ∃vs,(do let vs ←fn.results.mapM g;pure (if h:vs.size=1 then vs[0] else .tuple vs):Sem Value).run P w=.ok (mw_ vs) w∧a1_ ks vs∧k vs:=by
  intro g hg hc
  obtain⟨vs,h1,h2,h3⟩:=nS_ (P:=P) ho g hg hc h
  refine⟨vs,?_,h2,h3⟩
  rw[Sem.run_bind,Array.mapM_eq_mapM_toList,Sem.run_map,h1]
  simp only[Result.andThen_ok,Sem.run_pure]
  congr 1
  match vs with
  | []=>rfl
  | [x]=>rfl
  | x::y::r=>
   rw[dif_neg (by simp)]
   rfl
 exact key _ (fun _=>rfl) (fun _ _=>rfl)
theorem kf_:∀{l:List Value} {i t:Nat} {e:E},ev_ (m5_ l i) t=some e→∃j v,t=i+j∧l[j]?=some v∧e=.val v
 | [],i,t,e,h=>by cases h
 | v::r,i,t,e,h=>by
  simp only[m5_] at h
  rw[hP_] at h
  by_cases hit:i=t
  ·rw[if_pos hit] at h
   obtain rfl:=Option.some.inj h
   exact⟨0,v,o_,rfl,rfl⟩
  ·rw[if_neg hit] at h
   obtain⟨j,u,h1,h2,h3⟩:=kf_ h
   exact⟨j+1,u,o_,by simpa using h2,h3⟩
theorem ac_ {P:Program} {G:Gen} (hA:G.an.Ok P) (hm:P.follows .mixedOrders=true) {f:FuncId} {fn:Func} (hf:P.funcs[f]?=some fn) (H:lN_) (ks:List Kd) (args:List Value) (w:World) (R:Fn' ks (W_))
  (h:vcF P G fn H ks args w R):al_ P f args.toArray w ks R:=by
 unfold vcF at h
 split at h
 ·exact h.elim
 rename_i c hb
 split at h
 ·exact h.elim
 rename_i hle
 have hle':args.length≤fn.ntmps:=Nat.le_of_ble_eq_true hle
 refine calls_of_wp hf hb ?_
 have hs:OkS fn.ntmps ⟨m5_ args 0,0⟩ {tmps:=args.toArray++Array.replicate (fn.ntmps-args.toArray.size) undef,defers:=[]}:=by
  refine⟨by simp;omega,rfl,fun t e hl=>?_,fun t c' v hl=>?_⟩
  ·obtain⟨j,v,rfl,h2,rfl⟩:=kf_ hl
   have hj:j<args.length:=(List.getElem?_eq_some_iff.1 h2).1
   show(args.toArray++Array.replicate (fn.ntmps-args.toArray.size) undef)[0+j]?=some v
   rw[Array.getElem?_append_left (by simpa using hj)]
   simpa using h2
  ·obtain⟨_,_,_,_,he⟩:=kf_ hl
   cases he
 have fin:∀st a w',OkS fn.ntmps st a→uw_ P fn.results.toList ks R st w'→
   a.defers = []∧∃v,(results fn a.tmps).run P w'=.ok v w'∧exK ks fun vs=>Ending.returned v=.returned (mw_ vs)∧app ks R vs w':=by
  intro st a w' ho he
  obtain⟨vs,h1,h2,h3⟩:=qM_ ho he
  exact⟨ho.defers,_,h1,s9_ h2 ⟨rfl,h3⟩⟩
 refine Go.wp_mono (wN_ hA hm c _ w _ _ _ _ h hs) fun e a w' q=>?_
 cases e with
 | normal=>obtain⟨⟨st,h1,h2⟩,_⟩:=q;exact fin st a w' h1 h2
 | ret=>obtain⟨st,h1,h2⟩:=q;exact fin st a w' h1 h2
 | exit id=>obtain⟨⟨st,h1,h2⟩,_⟩:=q;exact h2.elim
 | goto l=>exact q.elim
 | panic c=>exact q.elim
 | outgrown=>exact q.elim
open Go
set_option maxRecDepth 100000
def an_ (P:Program) (k:Kd) (s:Sem Value) (w:World) (K:k.T→W_):Prop:=∃x w1,s.run P w=.ok (k.mk x) w1∧K x w1
def ah_ (P:Program) (s:Sem Unit) (w:World) (K:W_):Prop:=∃w1,s.run P w=.ok () w1∧K w1
def New (o:Obj) (w:World) (K:Addr→W_):Prop:=∀b w1,b=w.heap.size→w1=w.alloc o→K ⟨b,0,none⟩ w1
def Put (a:Addr) (v:Value) (w:World) (K:W_):Prop:=(∃u,w.cell? a=some u)∧w.frozen? a=false∧v.oneCell'=true∧∀w1,w1=w.setCell a v→K w1
def gA (p:O_):Addr:=match p with|some a=>a|none=>⟨0,0,none⟩
def bt (s:ByteArray) (i:Int):Int:=match s[i.toNat]? with|some b=>(b.toNat:Int)|none=>0
def bz_ (k:IntKind) (x y:Int):Int:=k.wrap (BitVec.ofInt k.bits x &&& BitVec.ofInt k.bits y).toNat
def bOr (k:IntKind) (x y:Int):Int:=k.wrap (BitVec.ofInt k.bits x ||| BitVec.ofInt k.bits y).toNat
def g9_ (k:IntKind) (x y:Int):Int:=k.wrap (BitVec.ofInt k.bits x ^^^ BitVec.ofInt k.bits y).toNat
def px_ (k:IntKind) (x y:Int):Int:=k.wrap (BitVec.ofInt k.bits x &&& ~~~(BitVec.ofInt k.bits y)).toNat
def nT_ (k:IntKind) (x:Int):Int:=g9_ k (if k.signed then -1 else k.max) x
def cl_ (k:IntKind) (x:Int) (n:Nat):Int:=k.wrap (x*2 ^ (min n k.bits))
def bK_ (k:IntKind) (x:Int) (n:Nat):Int:=x.fdiv (2 ^ (min n k.bits))
def sEq (x y:ByteArray):Bool:=x.toList==y.toList
def mn (x y:Int):Int:=if y<x then y else x
def mx (x y:Int):Int:=if y>x then y else x
def ta_ (P:Program) (t:TypeId):List Kd:=match P.underlying t with|some (.tuple ts)=>ts.toList.map (kd P)|some d=>[bC_ d]|none=>[]
def o2_ (P:Program) (cs:List Nat) (f:Value) (args:A_) (w:World) (ks:List Kd) (R:Fn' ks (W_)):Prop:=
 match f with
 | .func (.func n) first cap=>cE_ n cs=true∧al_ P n (first++args++cap) w ks R
 | _=>False
def b8_ (P:Program) (t:TypeId):Nat:=match P.info? t with|some i=>i.size|none=>0
def ux_ (op:BinOp) (k:IntKind) (x y:Int):An:=
 match op with
 | .add=>.pv (.int k (k.wrap (x+y))) | .sub=>.pv (.int k (k.wrap (x-y))) | .mul=>.pv (.int k (k.wrap (x*y)))
 | .quo=>.po (y≠0) (.int k (k.wrap (x.tdiv y))) | .rem=>.po (y≠0) (.int k (x.tmod y))
 | .and=>.pv (.int k (bz_ k x y)) | .or=>.pv (.int k (bOr k x y)) | .xor=>.pv (.int k (g9_ k x y)) | .andNot=>.pv (.int k (px_ k x y))
 | .eql=>.pv (.bool (x==y)) | .neq=>.pv (.bool (x != y)) | .lss=>.pv (.bool (x<y)) | .leq=>.pv (.bool (x≤y)) | .gtr=>.pv (.bool (x>y)) | .geq=>.pv (.bool (x≥y))
 | _=>.no
def py_:Operand→Bool
 | .const (.pointer none)=>true
 | _=>false
def pz_:Operand→Bool
 | .const (.slice none 0 0)=>true
 | _=>false
def tb_:Operand→Bool
 | .const (.map none)=>true
 | _=>false
def v5_ (P:Program) (op:BinOp) (t:TypeId):Bool:=match op,P.underlying t with
 | .eql,some (.interface _)=>true | .neq,some (.interface _)=>true|_,_=>false
def i8_ (P:Program) (op:BinOp) (t:TypeId) (x y:Operand) (vx vy:Value):An:=
 match vx,vy with
 | .int k a,.int k' b=>match op with
  | .shl=>match y with
   | .const (.int _ (.ofNat m))=>.pv (.int k (cl_ k a m))
   | _=>.po (0≤b) (.int k (cl_ k a b.toNat))
  | .shr=>match y with
   | .const (.int _ (.ofNat m))=>.pv (.int k (bK_ k a m))
   | _=>.po (0≤b) (.int k (bK_ k a b.toNat))
  | _=>match eqK k k' with|true=>ux_ op k a b|false=>.no
 | .string a,.string b=>match op with
  | .eql=>.pv (.bool (sEq a b)) | .neq=>.pv (.bool (!sEq a b))
  | .add=>.po (a.size+b.size≤9223372036854775807) (.string (a++b))|_=>.no
 | .bool a,.bool b=>match op,P.underlying t with
  | .eql,some .bool=>.pv (.bool (a==b)) | .neq,some .bool=>.pv (.bool (!(a==b)))|_,_=>.no
 | .pointer p,_=>match py_ y with
  | true=>match op,P.underlying t with
   | .eql,some (.pointer _)=>.pv (.bool p.isNone) | .neq,some (.pointer _)=>.pv (.bool (!p.isNone))|_,_=>.no
  | false=>.rd .b (fun w v=>(do eqGuard op t x y vx vy;binOp op t vx vy:Sem Value).run P w=.ok v w)
 | .slice a _ _,_=>match pz_ y with
  | true=>match op,P.underlying t with
   | .eql,some (.slice _)=>.pv (.bool a.isNone) | .neq,some (.slice _)=>.pv (.bool (!a.isNone))|_,_=>.no
  | false=>.no
 | .map m,_=>match tb_ y with
  | true=>match op,P.underlying t with
   | .eql,some (.map _ _)=>.pv (.bool m.isNone) | .neq,some (.map _ _)=>.pv (.bool (!m.isNone))|_,_=>.no
  | false=>.no
 | .agg _,_=>.rd .b (fun w v=>(do eqGuard op t x y vx vy;binOp op t vx vy:Sem Value).run P w=.ok v w)
 | _,_=>.no
def uy_ (P:Program) (op:BinOp) (t:TypeId) (x y:Operand) (vx vy:Value):An:=match v5_ P op t with
 | true=>.rd .b (fun w v=>(do eqGuard op t x y vx vy;binOp op t vx vy:Sem Value).run P w=.ok v w)
 | false=>i8_ P op t x y vx vy
def r4_ (P:Program) (t:TypeId) (v:Value):An:=
 match v with
 | .pointer (some a)=>match P.underlying t with
  | some d=>match bC_ d with
   | .ag=>.rd .ag (fun w v=>(loadVar t a).run P w=.ok v w)
   | k=>.rd k (fun w v=>w.cell? a=some v)
  | none=>.no
 | _=>.no
def pA_ (P:Program) (t:TypeId) (p v:Value):An:=
 match p with
 | .pointer (some a)=>match P.underlying t with
  | some d=>match bC_ d with
   | .ag=>.ac (fun w K=>ah_ P (storeVar t a v) w (K (.tuple #[])))
   | _=>match Nat.beq (b8_ P t) 1 with
    | true=>.ac (fun w K=>Put a v w (K (.tuple #[])))
    | false=>.no
  | none=>.no
 | _=>.no
def r5_ (P:Program) (s d:TypeId) (v:Value):An:=
 match P.underlying s,P.underlying d with
 | some (.int _),some (.int k)=>match v with | .int _ n=>.pv (.int k (k.wrap n))|_=>.no
 | some .string,some .string=>match v with | .string _=>.pv v|_=>.no
 | some (.slice _),some .string=>.rd .s (fun w x=>(convert s d v).run P w=.ok x w)
 | some .string,some (.slice _)=>.at .sl (fun w K=>an_ P .sl (convert s d v) w K)
 | some (.slice _),some (.slice _)=>.at .sl (fun w K=>an_ P .sl (convert s d v) w K)
 | _,_=>.no
def kg_ (P:Program) (t:TypeId) (v:Value) (i:Nat):An:=
 match v with
 | .pointer (some a)=>match P.underlying t with
  | some (.struct fs)=>match fs[i]? with
   | some f=>match Nat.beq (b8_ P f.type) 0 with
    | false=>.pv (.pointer (some (a.add f.offset)))
    | true=>.no
   | none=>.no
  | _=>.no
 | _=>.no
def pB_ (P:Program) (t:TypeId) (v:Value) (i:Nat):An:=
 match v with
 | .agg cs=>match P.underlying t with
  | some (.struct fs)=>match fs[i]? with
   | some f=>match P.underlying f.type with
    | some d=>match bC_ d with
     | .ag=>.pv (.agg (cs.extract f.offset (f.offset+b8_ P f.type)))
     | k=>.rd k (fun _ v=>cs[f.offset]?=some v)
    | none=>.no
   | none=>.no
  | _=>.no
 | _=>.no
def kh_ (P:Program) (t:TypeId) (v:Value) (i:Value):An:=
 match i with
 | .int _ n=>match P.underlying t,v with
  | some (.slice e),.slice a len _=>match P.info? e with
   | some q=>.po (0≤n∧n<(len:Int)∧a.isSome=true) (.pointer (some ((gA a).add (n.toNat*q.size))))
   | none=>.no
  | some (.array len e),.pointer (some a)=>match P.info? e with
   | some q=>.po (0≤n∧n<(len:Int)) (.pointer (some (a.add (n.toNat*q.size))))
   | none=>.no
  | _,_=>.no
 | _=>.no
def pC_ (P:Program) (t:TypeId) (v:Value) (i:Value):An:=
 match i with
 | .int _ n=>match P.underlying t,v with
  | some .string,.string s=>.po (0≤n∧n<(s.size:Int)) (.int .u8 (bt s n))
  | some (.array len e),.agg cs=>match P.underlying e with
   | some d=>match bC_ d with
    | .ag=>.po (0≤n∧n<(len:Int)) (.agg (cs.extract (n.toNat*b8_ P e) (n.toNat*b8_ P e+b8_ P e)))
    | k=>.rd k (fun _ v=>(0≤n∧n<(len:Int))∧cs[n.toNat*b8_ P e]?=some v)
   | none=>.no
  | _,_=>.no
 | _=>.no
def bnd (F:Fr) (tg:Nat) (C:Gd) (d:Int):Option Operand→Option Int
 | none=>some d
 | some x=>match opv F tg C x with
  | some (.int _ n)=>some n
  | _=>none
def aM_ (a:O_) (m l size:Nat):O_:=if m=l then a else a.map (·.add (l*size))
def pD_ (P:Program) (F:Fr) (tg:Nat) (C:Gd) (t:TypeId) (v:Value) (lo hi:Option Operand):An:=
 match P.underlying t,v with
 | some .string,.string s=>match bnd F tg C 0 lo,bnd F tg C s.size hi with
  | some l,some h=>.po (0≤l∧l≤h∧h≤(s.size:Int)) (.string (s.extract l.toNat h.toNat))
  | _,_=>.no
 | some (.slice e),.slice a n c=>match bnd F tg C 0 lo,bnd F tg C n hi,P.info? e with
  | some l,some h,some q=>.po (0≤l∧l≤h∧h≤(c:Int)∧n≤c) (.slice (aM_ a c l.toNat q.size) (h.toNat-l.toNat) (c-l.toNat))
  | _,_,_=>.no
 | some (.array n e),.pointer (some a)=>match bnd F tg C 0 lo,bnd F tg C n hi,P.info? e with
  | some l,some h,some q=>.po (0≤l∧l≤h∧h≤(n:Int)) (.slice (some (if n=l.toNat then a else a.add (l.toNat*q.size))) (h.toNat-l.toNat) (n-l.toNat))
  | _,_,_=>.no
 | _,_=>.no
def pE_ (P:Program) (f:Nat) (args:A_) (ks:List Kd):An:=
 match ks with
 | [k]=>.at k (fun w K=>al_ P f args w [k] K)
 | ks=>.ac (fun w K=>al_ P f args w ks (cur ks fun vs=>K (mw_ vs)))
def pF_ (P:Program) (cs:List Nat) (f:Value) (args:A_) (ks:List Kd):An:=
 match ks with
 | [k]=>.at k (fun w K=>o2_ P cs f args w [k] K)
 | ks=>.ac (fun w K=>o2_ P cs f args w ks (cur ks fun vs=>K (mw_ vs)))
def evs (F:Fr) (tg:Nat) (C:Gd):List Operand→Option (List Value)
 | []=>some []
 | x::r=>match opv F tg C x,evs F tg C r with
  | some v,some vs=>some (v::vs)
  | _,_=>none
def my_ (P:Program) (b:Builtin) (ts:Array TypeId) (ty:TypeId) (vs:List Value):An:=
 match b with
 | .len=>match vs,ts.toList with
  | [.string s],[t]=>match P.underlying t with|some .string=>.pv (.int .i64 s.size)|_=>.no
  | [.slice _ n _],[t]=>match P.underlying t with|some (.slice _)=>.pv (.int .i64 n)|_=>.no
  | [.map m],[t]=>match P.underlying t with|some (.map _ _)=>.rd (.i .i64) (fun w v=>(Builtin.len_ ts ty #[.map m]).run P w=.ok v w)|_=>.no
  | _,_=>.no
 | .min=>match vs with
  | [.int k x,.int k' y]=>(match eqK k k' with|true=>.pv (.int k (mn x y))|false=>.no)
  | _=>.no
 | .max=>match vs with
  | [.int k x,.int k' y]=>(match eqK k k' with|true=>.pv (.int k (mx x y))|false=>.no)
  | _=>.no
 | .append=>.at .sl (fun w K=>an_ P .sl (Builtin.append_ ts ty vs.toArray) w K)
 | .copy=>.at (.i .i64) (fun w K=>an_ P (.i .i64) (Builtin.copy_ ts ty vs.toArray) w K)
 | .delete=>.ac (fun w K=>an_ P .v (Builtin.delete_ ts ty vs.toArray) w K)
 | .clear=>.ac (fun w K=>an_ P .v (Builtin.clear_ ts ty vs.toArray) w K)
 | _=>.no
def v6_:Value→Bool | .int _ _ | .bool _ | .string _ | .pointer _ | .slice _ _ _ | .map _ | .func _ _ _ | .nilFunc=>true|_=>false
def wO_ (p:Value→Bool):List Value→Bool
 | []=>true
 | v::r=>p v&&wO_ p r
def le_:List Nat→List Value→List (Nat×Value)
 | i::r,v::s=>(i,v)::le_ r s
 | _,_=>[]
def rl_ (P:Program) (t:TypeId):Bool:=match P.underlying t with|some (.interface _)=>true|_=>false
def v7_ (P:Program) (t:TypeId) (i:Nat):Bool:=match P.underlying t with
 | some (.struct fs)=>match fs[i]? with|some f=>rl_ P f.type|none=>false
 | some (.array _ e)=>rl_ P e
 | _=>false
def wP_ (p:Nat→Bool):List Nat→Bool
 | []=>false
 | i::r=>match p i with|true=>true|false=>wP_ p r
def pG_ (P:Program) (t:TypeId) (is:List Nat) (vs:List Value):An:=
 match wP_ (v7_ P t) is with
 | false=>match wO_ v6_ vs with
  | true=>match P.built t (le_ is vs) with
   | some cells=>.pv (.agg cells)
   | none=>.no
  | false=>.rd .ag (fun w v=>(Instr.build t (le_ is vs).toArray).run P w=.ok v w)
 | true=>.rd .ag (fun w v=>(Instr.build t (le_ is vs).toArray).run P w=.ok v w)
def uz_ (P:Program) (cs:List Nat):Ana:=fun F tg C o=>
 match o.op with
 | .move x=>match opv F tg C x with|some v=>.pv v|none=>.no
 | .assign x=>match opv F tg C x with|some v=>.pv v|none=>.no
 | .pick c x y=>match c with
  | .tmp s=>match opv F tg C c,opv F tg ((s,true)::C) x,opv F tg ((s,false)::C) y with
   | some (.bool b),some (.bool p),some (.bool q)=>match x,y with
    | .const _,_=>match p with|true=>.pv (.bool (b||q))|false=>.no
    | _,.const _=>match q with|false=>.pv (.bool (b&&p))|true=>.no
    | _,_=>.no
   | _,_,_=>.no
  | _=>.no
 | .alloc e=>match P.info? e with
  | some i=>match i.zero with
   | some z=>.at .a (fun w K=>New (.cells z.cells e) w K)
   | none=>.no
  | none=>.no
 | .box e x=>match opv F tg C x with|some v=>.at .a (fun w K=>New (.cells v.cells e) w K)|none=>.no
 | .build t parts=>match evs F tg C (parts.toList.map (·.2)) with|some vs=>pG_ P t (parts.toList.map (·.1)) vs|none=>.no
 | .buildSlice t n parts=>match evs F tg C (parts.toList.map (·.2)) with
  | some vs=>.at .sl (fun w K=>an_ P .sl (Instr.buildSlice t n (le_ (parts.toList.map (·.1)) vs).toArray) w K)
  | none=>.no
 | .load t x=>match opv F tg C x with|some v=>r4_ P t v|none=>.no
 | .store t x y=>match opv F tg C x,opv F tg C y with|some p,some v=>pA_ P t p v|_,_=>.no
 | .nilCheck x=>match opv F tg C x with
  | some (.pointer p)=>.po (p.isSome=true) (.pointer (some (gA p)))
  | _=>.no
 | .binOp op t x y _=>match opv F tg C x,opv F tg C y with|some u,some v=>uy_ P op t x y u v|_,_=>.no
 | .unOp op _ x=>match op,opv F tg C x with
  | .not,some (.bool b)=>.pv (.bool (!b))
  | .neg,some (.int k n)=>.pv (.int k (k.wrap (0-n)))
  | .xor,some (.int k n)=>.pv (.int k (nT_ k n))
  | _,_=>.no
 | .convert s d x=>match opv F tg C x with|some v=>r5_ P s d v|none=>.no
 | .makeFunc fn x y=>match evs F tg C x.toList,evs F tg C y.toList with|some a,some b=>.pv (.func fn a.toArray b.toArray)|_,_=>.no
 | .makeMap t r=>match r with|none=>.at .m (fun w K=>New (.map #[] 0) w (fun a w1=>K (some a.block) w1))|some _=>.no
 | .makeSlice t x y=>match opv F tg C x,opv F tg C y with|some u,some v=>.at .sl (fun w K=>an_ P .sl (Instr.makeSlice t u v) w K)|_,_=>.no
 | .makeInterface t x=>match opv F tg C x with|some v=>.rd .v (fun w y=>(Instr.makeInterface t v).run P w=.ok y w)|none=>.no
 | .slice t x lo hi m=>match m,opv F tg C x with|none,some v=>pD_ P F tg C t v lo hi|_,_=>.no
 | .fieldAddr t x i=>match opv F tg C x with|some v=>kg_ P t v i|none=>.no
 | .field t x i=>match opv F tg C x with|some v=>pB_ P t v i|none=>.no
 | .indexAddr t x y=>match opv F tg C x,opv F tg C y with|some u,some v=>kh_ P t u v|_,_=>.no
 | .index t x y=>match opv F tg C x,opv F tg C y with|some u,some v=>pC_ P t u v|_,_=>.no
 | .lookup t x y ok=>match opv F tg C x,opv F tg C y,P.underlying t with
  | some u,some v,some (.map _ e)=>match ok with
   | true=>.rd (.ok (kd P e)) (fun w z=>(Instr.lookup t u v true).run P w=.ok z w)
   | false=>.rd (kd P e) (fun w z=>(Instr.lookup t u v false).run P w=.ok z w)
  | _,_,_=>.no
 | .mapUpdate t x y z=>match opv F tg C x,opv F tg C y,opv F tg C z with
  | some m,some u,some v=>.ac (fun w K=>ah_ P (Instr.mapUpdate t m u v) w (K (.tuple #[])))
  | _,_,_=>.no
 | .insert t x y z=>match opv F tg C x,opv F tg C y,opv F tg C z with
  | some m,some u,some v=>.ac (fun w K=>ah_ P (Instr.mapUpdate t m u v) w (K (.tuple #[])))
  | _,_,_=>.no
 | .extract x i=>match opv F tg C x with
  | some (.tuple vs)=>match vs.toList[i]? with|some v=>.pv v|none=>.no
  | _=>.no
 | .call c=>match c.callee with
  | .value (.func f)=>match evs F tg C c.args.toList with
   | some vs=>match cE_ f cs with|true=>pE_ P f vs.toArray (ta_ P o.type)|false=>.no
   | none=>.no
  | .value x=>match opv F tg C x,evs F tg C c.args.toList with
   | some v,some vs=>pF_ P cs v vs.toArray (ta_ P o.type)
   | _,_=>.no
  | .builtin b=>match evs F tg C c.args.toList with|some vs=>my_ P b c.argTypes o.type vs|none=>.no
  | .invoke _ _=>.no
 | .panic _=>.ac (fun _ _=>False)
 | _=>.no
def xD_ (P:Program) (o:Oper):Bool:=match o.op with
 | .load .. | .field .. | .index .. | .lookup .. | .makeInterface .. | .build ..=>true
 | .binOp _ t _ _ _=>match P.underlying t with|some (.int _)|some .string|some .bool=>false|_=>true
 | .convert s d _=>match P.underlying s,P.underlying d with|some (.slice _),some .string=>true|_,_=>false
 | .call c=>match c.callee with | .builtin .len=>true|_=>false
 | _=>false
def xE_ (P:Program) (o:Oper):Bool:=match o.op with
 | .alloc _ | .box .. | .buildSlice .. | .store .. | .makeMap .. | .makeSlice .. | .mapUpdate .. | .insert .. | .panic _=>true
 | .convert s d _=>match P.underlying s,P.underlying d with|some .string,some (.slice _)=>true|some (.slice _),some (.slice _)=>true|_,_=>false
 | .call c=>match c.callee with | .builtin .len | .builtin .min | .builtin .max=>false|_=>true
 | _=>false
def gen (P:Program) (cs:List Nat):Gen:=⟨uz_ P cs,xD_ P,xE_ P⟩
open Go
set_option maxRecDepth 100000
section
variable {P:Program} {o:Oper} {a:Act}
theorem bT_ {s:Sem Value} (h:execOp a.eval o=(do let x ←s;pure (.value x))) {v:Value} (hs:∀w,s.run P w=.ok v w):An.Ok P o a (.pv v):=by
 intro w;rw[h];simp[hs w]
theorem gL_ {s:Sem Value} (h:execOp a.eval o=(do let x ←s;pure (.value x))) {v:Value} {ob:Prop} (hs:ob→∀w,s.run P w=.ok v w):An.Ok P o a (.po ob v):=by
 intro hob w;rw[h];simp[hs hob w]
theorem e2_ {s:Sem Value} (h:execOp a.eval o=(do let x ←s;pure (.value x))) {k:Kd} {rel:World→Value→Prop} (hs:∀w v,rel w v→s.run P w=.ok v w):An.Ok P o a (.rd k rel):=by
 intro w x hr;rw[h];simp[hs w _ hr]
theorem iB_ {s:Sem Value} (h:execOp a.eval o=(do let x ←s;pure (.value x))) {k:Kd}:An.Ok P o a (.at k fun w K=>an_ P k s w K):=by
 intro w K Q hf
 obtain⟨x,w1,hr,hK⟩:=hf
 unfold Oper.wp;rw[h];simp only[Sem.run_bind,hr,Result.andThen_ok,Sem.run_pure,Oper.upon]
 exact⟨x,rfl,hK⟩
theorem rm_ {s:Sem Value} (h:execOp a.eval o=(do let x ←s;pure (.value x))):An.Ok P o a (.ac fun w K=>an_ P .v s w K):=by
 intro w K Q hf
 obtain⟨x,w1,hr,hK⟩:=hf
 unfold Oper.wp;rw[h];simp only[Sem.run_bind,hr,Result.andThen_ok,Sem.run_pure,Oper.upon]
 exact⟨_,rfl,hK⟩
theorem rn_ {s:Sem Unit} (h:execOp a.eval o=(do s;pure .skip)):An.Ok P o a (.ac fun w K=>ah_ P s w (K (.tuple #[]))):=by
 intro w K Q hf
 obtain⟨w1,hr,hK⟩:=hf
 unfold Oper.wp;rw[h];simp only[Sem.run_bind,hr,Result.andThen_ok,Sem.run_pure,Oper.upon]
 exact⟨_,rfl,hK⟩
theorem tc_ {s:Sem Value} (h:execOp a.eval o=(do let x ←s;pure (.value x))) {ob:Obj} (hs:∀w,s.run P w=.ok (.pointer (some ⟨w.heap.size,0,none⟩)) (w.alloc ob)):An.Ok P o a (.at .a fun w K=>New ob w K):=by
 intro w K Q hf
 unfold Oper.wp;rw[h];simp only[Sem.run_bind,hs w,Result.andThen_ok,Sem.run_pure,Oper.upon]
 exact⟨_,rfl,hf _ _ rfl rfl⟩
theorem cA_ (op:BinOp) (t:TypeId) (x y:Operand) (u v:Value) (h:(match u with | .nilIface=>False | .agg _=>False|_=>True)) (w:World) :
  (eqGuard op t x y u v).run P w=.ok () w:=by
 have:eqGuard op t x y u v=pure ():=by
  cases op<;>first|rfl|(cases u<;>first|rfl|exact h.elim)
 rw[this];rfl
theorem td_ {op:BinOp} {t:TypeId} {k:IntKind} {x y:Int} (h1:op≠.shl) (h2:op≠.shr):binOp op t (.int k x) (.int k y)=(match op with
  | .add | .sub | .mul=>Op.intArith op k x y
  | .quo | .rem=>Op.intDiv op k x y
  | .and | .or | .xor | .andNot=>Op.intBits op k x y
  | _=>Op.intCmp op x y):=by
 cases op<;>first|(exact absurd rfl h1)|(exact absurd rfl h2)|simp[binOp]
theorem v8_ {op:BinOp} {t:TypeId} {k:IntKind} {x y:Int} {s:Sem Value} (h1:op≠.shl) (h2:op≠.shr) (h:execOp a.eval o=(do let x ←s;pure (.value x)))
  (hs:∀w,s.run P w=(binOp op t (.int k x) (.int k y)).run P w):An.Ok P o a (ux_ op k x y):=by
 have hb:=td_ (t:=t) (k:=k) (x:=x) (y:=y) h1 h2
 cases op<;>simp only[ux_]<;>first
  | (exact absurd rfl h1)|(exact absurd rfl h2)
  | (refine bT_ h fun w=>?_;rw[hs w,hb];rfl)
  | (refine gL_ h fun hob w=>?_;rw[hs w,hb];simp[Op.intDiv,hob])
  | trivial
theorem uA_ {op:BinOp} {t:TypeId} {x y:Operand} {ty:TypeId} (ho:o.op=.binOp op t x y ty):An.Ok P o a (i8_ P op t x y (a.eval x) (a.eval y)):=by
 have h:execOp a.eval o=(do let z ←(do eqGuard op t x y (a.eval x) (a.eval y);binOp op t (a.eval x) (a.eval y):Sem Value);pure (.value z)):=by
  unfold execOp;rw[ho]
 generalize hx:a.eval x=u at h
 generalize hy:a.eval y=v at h
 have nilP:py_ y=true→v=.pointer none:=by
  intro hn
  unfold py_ at hn
  split at hn
  ·rw[←hy];rfl
  ·cases hn
 have au_:pz_ y=true→v=.slice none 0 0:=by
  intro hn
  unfold pz_ at hn
  split at hn
  ·rw[←hy];rfl
  ·cases hn
 cases u with
 | int k p=>
  cases v with
  | int k' q=>
   simp only[i8_]
   have hs:∀w,(do eqGuard op t x y (.int k p) (.int k' q);binOp op t (.int k p) (.int k' q):Sem Value).run P w=(binOp op t (.int k p) (.int k' q)).run P w:=by
    intro w;rw[Sem.run_bind,cA_ _ _ _ _ _ _ trivial];rfl
   split
   ·split
    ·rename_i yk m
     have hq:q=(m:Int):=by
      have:a.eval (.const (.int yk (.ofNat m)))=.int k' q:=hy
      injection this with _ this;exact this.symm
     refine bT_ h fun w=>?_
     rw[hs w,hq]
     simp[binOp,Op.shift,cl_,Int.not_lt.2 (Int.natCast_nonneg m)]
    ·refine gL_ h fun hob w=>?_
     rw[hs w]
     simp[binOp,Op.shift,cl_,Int.not_lt.2 hob]
   ·split
    ·rename_i yk m
     have hq:q=(m:Int):=by
      have:a.eval (.const (.int yk (.ofNat m)))=.int k' q:=hy
      injection this with _ this;exact this.symm
     refine bT_ h fun w=>?_
     rw[hs w,hq]
     simp[binOp,Op.shift,bK_,Int.not_lt.2 (Int.natCast_nonneg m)]
    ·refine gL_ h fun hob w=>?_
     rw[hs w]
     simp[binOp,Op.shift,bK_,Int.not_lt.2 hob]
   ·rename_i h1 h2
    split
    ·rename_i hk
     obtain rfl:=jO_ hk
     exact v8_ (t:=t) (fun e=>h1 e) (fun e=>h2 e) h hs
    ·trivial
  | _=>trivial
 | string p=>
  cases v with
  | string q=>
   simp only[i8_]
   have hs:∀w,(do eqGuard op t x y (.string p) (.string q);binOp op t (.string p) (.string q):Sem Value).run P w=(binOp op t (.string p) (.string q)).run P w:=by
    intro w;rw[Sem.run_bind,cA_ _ _ _ _ _ _ trivial];rfl
   split
   ·refine bT_ h fun w=>?_;rw[hs w];simp[binOp,Op.stringOp,sEq]
   ·refine bT_ h fun w=>?_;rw[hs w];simp[binOp,Op.stringOp,sEq]
   ·refine gL_ h fun hob w=>?_
    rw[hs w]
    simp only[binOp,Op.stringOp]
    rw[if_neg (by simp[IntKind.max,IntKind.signed,IntKind.bits];omega)]
    rfl
   ·trivial
  | _=>trivial
 | bool p=>
  cases v with
  | bool q=>
   simp only[i8_]
   have hs:∀w,(do eqGuard op t x y (.bool p) (.bool q);binOp op t (.bool p) (.bool q):Sem Value).run P w=(binOp op t (.bool p) (.bool q)).run P w:=by
    intro w;rw[Sem.run_bind,cA_ _ _ _ _ _ _ trivial];rfl
   split
   ·rename_i hu
    refine bT_ h fun w=>?_;rw[hs w];simp[binOp,run_equal_bool w t p q hu]
   ·rename_i hu
    refine bT_ h fun w=>?_;rw[hs w];simp[binOp,run_equal_bool w t p q hu]
   ·trivial
  | _=>trivial
 | pointer p=>
  simp only[i8_]
  split
  ·rename_i hn
   obtain rfl:=nilP hn
   have hs:∀w,(do eqGuard op t x y (.pointer p) (.pointer none);binOp op t (.pointer p) (.pointer none):Sem Value).run P w=(binOp op t (.pointer p) (.pointer none)).run P w:=by
    intro w;rw[Sem.run_bind,cA_ _ _ _ _ _ _ trivial];rfl
   split
   ·rename_i e hu
    have hu':P.underlying t=some (.pointer (P.pointee t)):=by simp[Program.pointee,hu]
    refine bT_ h fun w=>?_;rw[hs w,run_eql_pointer_nil w t p hu']
   ·rename_i e hu
    have hu':P.underlying t=some (.pointer (P.pointee t)):=by simp[Program.pointee,hu]
    refine bT_ h fun w=>?_;rw[hs w,run_neq_pointer_nil w t p hu']
   ·trivial
  ·exact e2_ h fun w v hr=>hr
 | slice p n c=>
  simp only[i8_]
  split
  ·rename_i hn
   obtain rfl:=au_ hn
   have hs:∀w,(do eqGuard op t x y (.slice p n c) (.slice none 0 0);binOp op t (.slice p n c) (.slice none 0 0):Sem Value).run P w=(binOp op t (.slice p n c) (.slice none 0 0)).run P w:=by
    intro w;rw[Sem.run_bind,cA_ _ _ _ _ _ _ trivial];rfl
   have he:∀e,P.underlying t=some (.slice e)→∀w,(Op.equal t (.slice p n c) (.slice none 0 0)).run P w=.ok p.isNone w:=by
    intro e hu w
    have key:∀d,(Op.equalIn (d+1) t (.slice p n c) (.slice none 0 0)).run P w=.ok p.isNone w:=by
     intro d;cases p<;>simp[Op.equalIn,run_underlying hu]
    exact key 9999
   split
   ·rename_i e hu
    refine bT_ h fun w=>?_;rw[hs w];simp only[binOp];simp[he e hu w]
   ·rename_i e hu
    refine bT_ h fun w=>?_;rw[hs w];simp only[binOp];simp[he e hu w]
   ·trivial
  ·trivial
 | map m=>
  simp only[i8_]
  split
  ·rename_i hn
   have hv:v=.map none:=by
    unfold tb_ at hn
    split at hn
    ·rw[←hy];rfl
    ·cases hn
   subst hv
   have hs:∀w,(do eqGuard op t x y (.map m) (.map none);binOp op t (.map m) (.map none):Sem Value).run P w=(binOp op t (.map m) (.map none)).run P w:=by
    intro w;rw[Sem.run_bind,cA_ _ _ _ _ _ _ trivial];rfl
   have he:∀k e,P.underlying t=some (.map k e)→∀w,(Op.equal t (.map m) (.map none)).run P w=.ok m.isNone w:=by
    intro k e hu w
    have key:∀d,(Op.equalIn (d+1) t (.map m) (.map none)).run P w=.ok m.isNone w:=by
     intro d;cases m<;>simp[Op.equalIn,run_underlying hu]
    exact key 9999
   split
   ·rename_i k e hu
    refine bT_ h fun w=>?_;rw[hs w];simp only[binOp];simp[he k e hu w]
   ·rename_i k e hu
    refine bT_ h fun w=>?_;rw[hs w];simp only[binOp];simp[he k e hu w]
   ·trivial
  ·trivial
 | agg cs=>exact e2_ h fun w v hr=>hr
 | _=>trivial
theorem v9_ {op:BinOp} {t:TypeId} {x y:Operand} {ty:TypeId} (ho:o.op=.binOp op t x y ty):An.Ok P o a (uy_ P op t x y (a.eval x) (a.eval y)):=by
 have h:execOp a.eval o=(do let z ←(do eqGuard op t x y (a.eval x) (a.eval y);binOp op t (a.eval x) (a.eval y):Sem Value);pure (.value z)):=by
  unfold execOp;rw[ho]
 unfold uy_
 split
 ·exact e2_ h fun w v hr=>hr
 ·exact uA_ ho
theorem uB_ {t:TypeId} {x:Operand} (ho:o.op=.load t x):An.Ok P o a (r4_ P t (a.eval x)):=by
 have h:execOp a.eval o=(do let z ←Instr.loadAt t (a.eval x);pure (.value z)):=by unfold execOp;rw[ho]
 generalize a.eval x=u at h
 unfold r4_
 split
 ·rename_i ad
  split
  ·rename_i d hd
   have hl:∀w,(Instr.loadAt t (.pointer (some ad))).run P w=(loadVar t ad).run P w:=fun w=>by simp[Instr.loadAt,Instr.sureAddr]
   split
   ·exact e2_ h fun w v hr=>by rw[hl w];exact hr
   ·rename_i k hk
    have hagg:∀w,(isAgg t).run P w=.ok false w:=by
     intro w
     unfold isAgg
     rw[Sem.run_bind,run_underlying hd]
     cases d<;>first|rfl|(exact absurd rfl hk)
    refine e2_ h fun w v hr=>?_
    rw[hl w]
    unfold loadVar
    rw[Sem.run_bind,hagg w]
    simp[hr]
  ·trivial
 ·trivial
theorem te_ {t:TypeId} {x y:Operand} (ho:o.op=.store t x y):An.Ok P o a (pA_ P t (a.eval x) (a.eval y)):=by
 have h:execOp a.eval o=(do Instr.storeAt t (a.eval x) (a.eval y);pure .skip):=by unfold execOp;rw[ho]
 generalize a.eval x=u at h
 generalize a.eval y=v at h
 unfold pA_
 split
 ·rename_i ad
  have hl:∀w,(Instr.storeAt t (.pointer (some ad)) v).run P w=(storeVar t ad v).run P w:=fun w=>by simp[Instr.storeAt,Instr.sureAddr]
  split
  ·rename_i d hd
   split
   ·intro w K Q ⟨w1,hr,hK⟩
    unfold Oper.wp
    rw[h]
    simp only[Sem.run_bind,hl w,hr,Result.andThen_ok,Sem.run_pure,Oper.upon]
    exact⟨_,rfl,hK⟩
   ·split
    ·rename_i hsz
     intro w K Q ⟨⟨old,hc⟩,hf,h1,hK⟩
     have hsz':∀w,(sizeOf t).run P w=.ok 1 w:=by
      intro w
      unfold b8_ at hsz
      cases hi:P.info? t with
      | none=>rw[hi] at hsz;cases hsz
      | some i=>
       rw[hi] at hsz
       have:i.size=1:=Nat.eq_of_beq_eq_true hsz
       simp[sizeOf,typeInfo,hi,this]
     have hcs:v.cells=#[v]:=by cases v<;>first|rfl|cases h1
     have hst:(storeVar t ad v).run P w=.ok () (w.setCell ad v):=by
      unfold storeVar
      rw[Sem.run_bind,hsz' w]
      simp only[Result.andThen_ok,hcs]
      rw[if_neg (by simp)]
      simp only[storeCells,Sem.run_bind,Sem.run_pure,Addr.add,if_true]
      rw[run_store P w ad v .plain h1,hc]
      simp[hf]
     unfold Oper.wp
     rw[h]
     simp only[Sem.run_bind,hl w,hst,Result.andThen_ok,Sem.run_pure,Oper.upon]
     exact⟨_,rfl,hK _ rfl⟩
    ·trivial
  ·trivial
 ·trivial
theorem mz_ {t:TypeId} {i:TypeInfo} (hi:P.info? t=some i) (w:World):(sizeOf t).run P w=.ok (b8_ P t) w:=by
 simp[sizeOf,typeInfo,hi,b8_]
theorem ro_ {t:TypeId} {d:TypeDesc} (h:P.underlying t=some d):∃i,P.info? t=some i:=by
 unfold Program.underlying at h
 cases hi:P.info? t with
 | none=>rw[hi] at h;cases h
 | some i=>exact⟨i,rfl⟩
theorem oi_ {t:TypeId} {d:TypeDesc} (h:P.underlying t=some d) (w:World):(isAgg t).run P w=.ok (match bC_ d with | .ag=>true|_=>false) w:=by
 unfold isAgg
 rw[Sem.run_bind,run_underlying h]
 cases d<;>rfl
theorem uC_ {s d:TypeId} {x:Operand} (ho:o.op=.convert s d x):An.Ok P o a (r5_ P s d (a.eval x)):=by
 have h:execOp a.eval o=(do let z ←convert s d (a.eval x);pure (.value z)):=by unfold execOp;rw[ho]
 generalize a.eval x=u at h
 unfold r5_
 split
 ·rename_i k0 k hs hd
  split
  ·rename_i k1 n
   refine bT_ h fun w=>?_
   unfold convert
   simp[run_underlying hs,run_underlying hd,Conv.intToInt]
  ·trivial
 ·rename_i hs hd
  split
  ·refine bT_ h fun w=>?_
   unfold convert
   simp[run_underlying hs,run_underlying hd]
  ·trivial
 ·exact e2_ h fun w v hr=>hr
 ·exact iB_ h
 ·exact iB_ h
 ·trivial
theorem oR_ {t:TypeId} {x:Operand} {i:Nat} (ho:o.op=.fieldAddr t x i):An.Ok P o a (kg_ P t (a.eval x) i):=by
 have h:execOp a.eval o=(do let z ←Instr.fieldAt t (a.eval x) i;pure (.value z)):=by unfold execOp;rw[ho]
 generalize a.eval x=u at h
 unfold kg_
 split
 ·rename_i ad
  split
  ·rename_i fs hu
   split
   ·rename_i f hf
    split
    ·rename_i hz
     refine bT_ h fun w=>?_
     have hsz:∃i,P.info? f.type=some i∧i.size≠0∨P.info? f.type=none:=by
      cases hi:P.info? f.type with
      | none=>exact⟨default,.inr rfl⟩
      | some i=>exact⟨i,.inl ⟨rfl,fun e=>by simp[b8_,hi,e] at hz⟩⟩
     rcases hsz with⟨i,⟨hi,hne⟩|hi⟩
     ·simp[Instr.fieldAt,run_underlying hu,hf,Instr.sureAddr,fieldPlace,sizeOf,typeInfo,hi,hne]
     ·simp[b8_,hi] at hz
    ·trivial
   ·trivial
  ·trivial
 ·trivial
theorem gr_ {t:TypeId} {d:TypeDesc} (hd:P.underlying t=some d) (cs:A_) (off:Nat) (w:World) :
  (part t cs off).run P w=(match bC_ d with | .ag=>.ok (.agg (cs.extract off (off+b8_ P t))) w|_=>match cs[off]? with|some v=>.ok v w|none=>.halt (.stuck "part: no such cell") w):=by
 unfold part
 obtain⟨i,hi⟩:=ro_ hd
 rw[Sem.run_bind,oi_ hd]
 simp only[Result.andThen_ok]
 cases hk:bC_ d<;>simp only[Bool.false_eq_true,if_false,if_true]<;>first
  | (simp[mz_ hi];done)
  | (cases cs[off]?<;>simp)
theorem tf_ {t:TypeId} {x:Operand} {i:Nat} (ho:o.op=.field t x i):An.Ok P o a (pB_ P t (a.eval x) i):=by
 have h:execOp a.eval o=(do let z ←Instr.field t (a.eval x) i;pure (.value z)):=by unfold execOp;rw[ho]
 generalize a.eval x=u at h
 unfold pB_
 split
 ·rename_i cs
  split
  ·rename_i fs hu
   split
   ·rename_i f hf
    split
    ·rename_i d hd
     have hp:∀w,(Instr.field t (.agg cs) i).run P w=(part f.type cs f.offset).run P w:=fun w=>by
      simp[Instr.field,run_underlying hu,hf,asAgg]
     split
     ·rename_i hk
      refine bT_ h fun w=>?_
      rw[hp w,gr_ hd,hk]
     ·rename_i k hk
      refine e2_ h fun w v hr=>?_
      rw[hp w,gr_ hd]
      cases hk2:bC_ d<;>first|(exact absurd hk2 hk)|simp only[hr]
    ·trivial
   ·trivial
  ·trivial
 ·trivial
end
open Go
set_option maxRecDepth 100000
section
variable {P:Program} {o:Oper} {a:Act}
theorem oS_ {t:TypeId} {x y:Operand} (ho:o.op=.indexAddr t x y):An.Ok P o a (kh_ P t (a.eval x) (a.eval y)):=by
 have h:execOp a.eval o=(do let z ←Instr.indexAt t (a.eval x) (a.eval y);pure (.value z)):=by unfold execOp;rw[ho]
 generalize a.eval x=u at h
 generalize a.eval y=v at h
 unfold kh_
 split
 ·rename_i k n
  split
  ·rename_i e p len c hu
   split
   ·rename_i q hq
    refine gL_ h fun⟨h0,h1,hp⟩ w=>?_
    cases p with
    | none=>cases hp
    | some ad=>
     have hs:(sizeOf e).run P w=.ok q.size w:=by simp[sizeOf,typeInfo,hq]
     unfold Instr.indexAt
     simp only[Sem.run_bind,asIntOf,Sem.run_pure,Result.andThen_ok,run_underlying hu]
     rw[if_pos ⟨h0,h1⟩]
     simp[hs,gA]
   ·trivial
  ·rename_i len e ad hu
   split
   ·rename_i q hq
    refine gL_ h fun⟨h0,h1⟩ w=>?_
    have hs:(sizeOf e).run P w=.ok q.size w:=by simp[sizeOf,typeInfo,hq]
    unfold Instr.indexAt
    simp only[Sem.run_bind,asIntOf,Sem.run_pure,Result.andThen_ok,run_underlying hu,Instr.sureAddr]
    rw[if_pos ⟨h0,h1⟩]
    simp[hs]
   ·trivial
  ·trivial
 ·trivial
theorem tg_ {t:TypeId} {x y:Operand} (ho:o.op=.index t x y):An.Ok P o a (pC_ P t (a.eval x) (a.eval y)):=by
 have h:execOp a.eval o=(do let z ←Instr.index t (a.eval x) (a.eval y);pure (.value z)):=by unfold execOp;rw[ho]
 generalize a.eval x=u at h
 generalize a.eval y=v at h
 unfold pC_
 split
 ·rename_i k n
  split
  ·rename_i s hu
   refine gL_ h fun⟨h0,h1⟩ w=>?_
   have hlt:n.toNat<s.size:=o_
   have hb:s[n.toNat]?=some s[n.toNat]:=by simp[hlt]
   unfold Instr.index
   simp only[Sem.run_bind,asIntOf,Sem.run_pure,Result.andThen_ok,run_underlying hu,if_pos h0,hb,bt]
  ·rename_i len e cs hu
   split
   ·rename_i d hd
    obtain⟨i,hi⟩:=ro_ hd
    have hp:∀w,(0≤n∧n<(len:Int))→(Instr.index t (.agg cs) (.int k n)).run P w=(part e cs (n.toNat*b8_ P e)).run P w:=fun w hr=>by
     unfold Instr.index
     simp only[Sem.run_bind,asIntOf,Sem.run_pure,Result.andThen_ok,run_underlying hu,if_pos hr,mz_ hi]
    split
    ·rename_i hk
     refine gL_ h fun hr w=>?_
     rw[hp w hr,gr_ hd,hk]
    ·rename_i k' hk
     refine e2_ h fun w v hr=>?_
     rw[hp w hr.1,gr_ hd]
     cases hk2:bC_ d<;>first|(exact absurd hk2 hk)|simp only[hr.2]
   ·trivial
  ·trivial
 ·trivial
theorem th_ {F:Fr} {tg:Nat} {C:Gd} (hF:ew_ F tg a) (hC:bP_ a C) {d l:Int}:∀{x:Option Operand},bnd F tg C d x=some l→
  (x=none∧l=d)∨∃k,x.map a.eval=some (.int k l)
 | none,h=>.inl ⟨rfl,(Option.some.inj h).symm⟩
 | some x,h=>by
  simp only[bnd] at h
  split at h
  ·rename_i k n hv
   obtain rfl:=Option.some.inj h
   exact .inr ⟨k,by rw[Option.map_some,jP_ hF hC hv]⟩
  ·cases h
theorem ki_ {isS:Bool} {len cap:Nat} {F:Fr} {tg:Nat} {C:Gd} (hF:ew_ F tg a) (hC:bP_ a C) {lo hi:Option Operand} {l h:Int}
  (hl:bnd F tg C 0 lo=some l) (hh:bnd F tg C len hi=some h) (h0:0≤l) (h1:l≤h) (h2:h≤(cap:Int)) (h3:len≤cap) (w:World) :
  (Instr.sliceBounds isS len cap (lo.map a.eval) (hi.map a.eval) none).run P w=.ok (l.toNat,h.toNat,cap) w:=by
 have sb:∀(k:IntKind) (i:Int) (y:Nat) (c:BoundsCode),0≤i→i≤(y:Int)→(Instr.sliceBound (.int k i) y c).run P w=.ok i.toNat w:=by
  intro k i y c q1 q2
  unfold Instr.sliceBound
  simp only[asIntOf,Sem.run_bind,Sem.run_pure,Result.andThen_ok]
  rw[if_pos ⟨q1,q2⟩];rfl
 have eh:(h.toNat:Int)=h:=o_
 rcases th_ hF hC hl with⟨rfl,rfl⟩|⟨kl,hl'⟩<;>rcases th_ hF hC hh with⟨rfl,rfl⟩|⟨kh,hh'⟩
 ·simp[Instr.sliceBounds]
 ·unfold Instr.sliceBounds
  rw[hh']
  simp[sb kh h cap _ o_ h2]
 ·unfold Instr.sliceBounds
  rw[hl']
  simp[sb kl l len _ h0 o_]
 ·unfold Instr.sliceBounds
  rw[hl',hh']
  simp only[Option.isSome_none,Sem.run_bind,Sem.run_pure,Result.andThen_ok]
  rw[sb kh h cap _ o_ h2]
  simp only[Result.andThen_ok]
  rw[sb kl l h.toNat _ h0 o_]
  rfl
theorem ti_ {F:Fr} {tg:Nat} {C:Gd} (hF:ew_ F tg a) (hC:bP_ a C) {t:TypeId} {x:Operand} {lo hi:Option Operand} (ho:o.op=.slice t x lo hi none) :
  An.Ok P o a (pD_ P F tg C t (a.eval x) lo hi):=by
 have h:execOp a.eval o=(do let z ←Instr.sliceAt t (a.eval x) (lo.map a.eval) (hi.map a.eval) none;pure (.value z)):=by unfold execOp;rw[ho];rfl
 generalize a.eval x=u at h
 unfold pD_
 split
 ·rename_i s hu
  split
  ·rename_i l hh hl hh'
   refine gL_ h fun⟨h0,h1,h2⟩ w=>?_
   simp only[Instr.sliceAt,Instr.slice,Sem.run_bind,run_underlying hu,Result.andThen_ok]
   simp[ki_ (P:=P) hF hC hl hh' h0 h1 h2 (Nat.le_refl _)]
  ·trivial
 ·rename_i e p n c hu
  split
  ·rename_i l hh q hl hh' hq
   refine gL_ h fun⟨h0,h1,h2,h3⟩ w=>?_
   have hs:(sizeOf e).run P w=.ok q.size w:=by simp[sizeOf,typeInfo,hq]
   simp only[Instr.sliceAt,Instr.slice,Sem.run_bind,run_underlying hu,Result.andThen_ok]
   rw[ki_ (P:=P) hF hC hl hh' h0 h1 h2 h3]
   simp[hs,aM_]
  ·trivial
 ·rename_i n e ad hu
  split
  ·rename_i l hh q hl hh' hq
   refine gL_ h fun⟨h0,h1,h2⟩ w=>?_
   have hs:(sizeOf e).run P w=.ok q.size w:=by simp[sizeOf,typeInfo,hq]
   simp only[Instr.sliceAt,Sem.run_bind,run_underlying hu,Result.andThen_ok,Instr.sureAddr,Sem.run_pure]
   rw[ki_ (P:=P) hF hC hl hh' h0 h1 h2 (Nat.le_refl _)]
   simp[hs]
  ·trivial
 ·trivial
theorem hS_ {F:Fr} {tg:Nat} {C:Gd} (hF:ew_ F tg a) (hC:bP_ a C):∀{l:List Operand} {vs:List Value},evs F tg C l=some vs→l.map a.eval=vs
 | [],vs,h=>Option.some.inj h
 | x::r,vs,h=>by
  simp only[evs] at h
  split at h
  ·rename_i v vs' h1 h2
   obtain rfl:=Option.some.inj h
   rw[List.map_cons,jP_ hF hC h1,hS_ hF hC h2]
  ·cases h
theorem mA_ {ρ:Operand→Value}:∀(l:List (Nat×Operand)),le_ (l.map (·.1)) ((l.map (·.2)).map ρ)=l.map fun x=>(x.1,ρ x.2)
 | []=>rfl
 | x::r=>by simp only[List.map_cons,le_,mA_ r]
def iE_ (P:Program) (cs:List Nat):Prop:=∀f,cE_ f cs=true→∃fn,P.funcs[f]?=some fn∧(fn.name=="runtime.NumGoroutine")=false∧fn.body.isNone=false
theorem iF_ {cs:List Nat} (hc:iE_ P cs) {f:Nat} (hf:cE_ f cs=true) (args:A_) (w:World):(callFunc f args).run P w=.ok (.enter f args) w:=by
 obtain⟨fn,h1,h2,h3⟩:=hc f hf
 unfold callFunc
 simp only[Sem.run_bind,run_program,Result.andThen_ok,h1,h2,h3,Bool.false_eq_true,if_false]
 rfl
theorem kj_ {f:Nat} {args:A_} {w:World} {ks:List Kd} {R:Fn' ks (W_)} {K:Act→W_} {Q:Exit→Act→W_}
  (hr:(execOp a.eval o).run P w=.ok (.enter f args) w) (h:al_ P f args w ks R) (hK:∀vs w',a1_ ks vs→app ks R vs w'→K (a.put o.dst (mw_ vs)) w'):o.wp P a w K Q:=by
 unfold Oper.wp
 rw[hr]
 refine Calls.mono h fun e w' he=>?_
 have ex:∀{ks:List Kd} {f:List Value→Prop},exK ks f→∃vs,a1_ ks vs∧f vs:=by
  intro ks
  induction ks with
  | nil=>intro f h;exact⟨[],trivial,h⟩
  | cons k ks ih=>
   intro f ⟨x,hx⟩
   obtain⟨vs,h1,h2⟩:=ih hx
   exact⟨k.mk x::vs,⟨pt_ k x,h1⟩,h2⟩
 obtain⟨vs,h1,rfl,h2⟩:=ex he
 exact hK vs w' h1 h2
theorem tj_ {f:Nat} {args:A_} {ks:List Kd} (hr:∀w,(execOp a.eval o).run P w=.ok (.enter f args) w):An.Ok P o a (pE_ P f args ks):=by
 unfold pE_
 split
 ·rename_i k
  intro w K Q h
  refine kj_ (hr w) h fun vs w' hf hk=>?_
  match vs,hf with
  | [v],hf=>exact⟨k.un v,by rw[Kd.mk_un hf.1];rfl,hk⟩
 ·intro w K Q h
  refine kj_ (hr w) h fun vs w' hf hk=>?_
  rw[lM_ hf] at hk
  exact⟨_,rfl,hk⟩
theorem tk_ {cs:List Nat} (hc:iE_ P cs) {f:Value} {args:A_} {ks:List Kd}
  (hr:∀w fn first cap,f=.func (.func fn) first cap→(execOp a.eval o).run P w=(callFunc fn (first++args++cap)).run P w):An.Ok P o a (pF_ P cs f args ks):=by
 unfold pF_
 split
 ·rename_i k
  intro w K Q h
  unfold o2_ at h
  split at h
  ·rename_i n first cap
   refine kj_ (by rw[hr w _ _ _ rfl,iF_ hc h.1]) h.2 fun vs w' hf hk=>?_
   match vs,hf with
   | [v],hf=>exact⟨k.un v,by rw[Kd.mk_un hf.1];rfl,hk⟩
  ·exact h.elim
 ·intro w K Q h
  unfold o2_ at h
  split at h
  ·rename_i n first cap
   refine kj_ (by rw[hr w _ _ _ rfl,iF_ hc h.1]) h.2 fun vs w' hf hk=>?_
   rw[lM_ hf] at hk
   exact⟨_,rfl,hk⟩
  ·exact h.elim
theorem qN_ {b:Builtin} {ts:Array TypeId} {ty:TypeId} {vs:List Value} {cs:Array Bool} (h:execOp a.eval o=builtin b ts ty cs vs.toArray):An.Ok P o a (my_ P b ts ty vs):=by
 unfold my_
 split
 ·have h':execOp a.eval o=(do let z ←Builtin.len_ ts ty vs.toArray;pure (.value z)):=h
  split
  ·rename_i s t hts
   have hts':ts=#[t]:=by rw[←Array.toList_inj];exact hts
   subst hts'
   split
   ·rename_i hu
    refine bT_ h' fun w=>?_
    simp[Builtin.len_,run_underlying hu,goInt]
   ·trivial
  ·rename_i p n c t hts
   have hts':ts=#[t]:=by rw[←Array.toList_inj];exact hts
   subst hts'
   split
   ·rename_i e hu
    refine bT_ h' fun w=>?_
    simp[Builtin.len_,run_underlying hu,goInt]
   ·trivial
  ·split
   ·exact e2_ h' fun w v hr=>hr
   ·trivial
  ·trivial
 ·have h':execOp a.eval o=(do let z ←Builtin.min_ ts ty vs.toArray;pure (.value z)):=h
  split
  ·rename_i k x k' y
   split
   ·rename_i hk
    obtain rfl:=jO_ hk
    refine bT_ h' fun w=>?_
    simp[Builtin.min_,Builtin.min2,mn]
   ·trivial
  ·trivial
 ·have h':execOp a.eval o=(do let z ←Builtin.max_ ts ty vs.toArray;pure (.value z)):=h
  split
  ·rename_i k x k' y
   split
   ·rename_i hk
    obtain rfl:=jO_ hk
    refine bT_ h' fun w=>?_
    simp[Builtin.max_,Builtin.max2,mx]
   ·trivial
  ·trivial
 ·exact iB_ h
 ·exact iB_ h
 ·exact rm_ h
 ·exact rm_ h
 ·trivial
theorem tl_ {t:TypeId} {parts:Array (Nat×Operand)} {vs:List Value} (ho:o.op=.build t parts) (hv:(parts.toList.map (·.2)).map a.eval=vs) :
  An.Ok P o a (pG_ P t (parts.toList.map (·.1)) vs):=by
 have h:execOp a.eval o=(do let z ←Instr.build t (le_ (parts.toList.map (·.1)) vs).toArray;pure (.value z)):=by
  unfold execOp;rw[ho,←hv,mA_]
  simp only[]
  congr 2
  rw[←Array.toList_inj];simp
 unfold pG_
 split
 ·split
  ·split
   ·rename_i cells hc
    exact bT_ h fun w=>run_build w t _ cells (by simpa using hc)
   ·trivial
  ·exact e2_ h fun w v hr=>hr
 ·exact e2_ h fun w v hr=>hr
theorem ai_ {cs:List Nat} (hc:iE_ P cs):(uz_ P cs).Ok P:=by
 intro F tg C o a hF hC
 have ev:∀{x:Operand} {v:Value},opv F tg C x=some v→a.eval x=v:=fun h=>jP_ hF hC h
 unfold uz_
 split
 ·rename_i x ho
  split
  ·rename_i v hv;intro w;unfold execOp;rw[ho];simp[ev hv]
  ·trivial
 ·rename_i x ho
  split
  ·rename_i v hv;intro w;unfold execOp;rw[ho];simp[ev hv]
  ·trivial
 ·rename_i c x y ho
  split
  ·rename_i s
   split
   ·rename_i b p q h1 h2 h3
    have e1:=ev h1
    have ht:b=true→a.eval x=.bool p:=fun hb=>jP_ hF (C:=(s,true)::C) (fun z hz=>by
     rcases List.mem_cons.1 hz with rfl|hz
     ·rw[←hb];exact e1
     ·exact hC z hz) h2
    have hf:b=false→a.eval y=.bool q:=fun hb=>jP_ hF (C:=(s,false)::C) (fun z hz=>by
     rcases List.mem_cons.1 hz with rfl|hz
     ·rw[←hb];exact e1
     ·exact hC z hz) h3
    have run:∀w,(execOp a.eval o).run P w=.ok (.value (if b then a.eval x else a.eval y)) w:=by
     intro w;unfold execOp;rw[ho];simp[e1,asBool]
    split
    ·split
     ·intro w;rw[run w]
      cases b with
      | true=>rw[if_pos rfl,ht rfl];rfl
      | false=>rw[if_neg (by simp),hf rfl];rfl
     ·trivial
    ·split
     ·intro w;rw[run w]
      cases b with
      | true=>rw[if_pos rfl,ht rfl];rfl
      | false=>rw[if_neg (by simp),hf rfl];rfl
     ·trivial
    ·trivial
   ·trivial
  ·trivial
 ·rename_i e ho
  split
  ·rename_i i hi
   split
   ·rename_i z hz
    refine tc_ (s:=Instr.alloc e true (.tuple #[])) (by unfold execOp;rw[ho]) fun w=>?_
    simp[Instr.alloc,zeroValue,typeInfo,hi,hz,newVar,newRow]
   ·trivial
  ·trivial
 ·rename_i e x ho
  split
  ·rename_i v hv
   refine tc_ (s:=Instr.box e v) (by unfold execOp;rw[ho];simp only[ev hv]) fun w=>?_
   simp[Instr.box,newVar,newRow]
  ·trivial
 ·rename_i t parts ho
  split
  ·rename_i vs hv
   exact tl_ ho (hS_ hF hC hv)
  ·trivial
 ·rename_i t n parts ho
  split
  ·rename_i vs hv
   refine iB_ ?_
   unfold execOp;rw[ho,←hS_ hF hC hv,mA_]
   simp only[]
   congr 2
   rw[←Array.toList_inj];simp
  ·trivial
 ·rename_i t x ho
  split
  ·rename_i v hv;rw[←ev hv];exact uB_ ho
  ·trivial
 ·rename_i t x y ho
  split
  ·rename_i p v hp hv;rw[←ev hp,←ev hv];exact te_ ho
  ·trivial
 ·rename_i x ho
  split
  ·rename_i p hp
   intro hob w
   cases p with
   | none=>cases hob
   | some ad=>unfold execOp;rw[ho];simp[ev hp,gA]
  ·trivial
 ·rename_i op t x y ty ho
  split
  ·rename_i u v hu hv;rw[←ev hu,←ev hv];exact v9_ ho
  ·trivial
 ·rename_i op ty x ho
  split
  ·rename_i b hb
   intro w;unfold execOp;rw[ho];simp[ev hb,Op.unary]
  ·rename_i k n hb
   intro w;unfold execOp;rw[ho];simp[ev hb,Op.unary,Op.intArith]
  ·rename_i k n hb
   intro w;unfold execOp;rw[ho];simp[ev hb,Op.unary,Op.intBits,nT_,g9_]
  ·trivial
 ·rename_i s d x ho
  split
  ·rename_i v hv;rw[←ev hv];exact uC_ ho
  ·trivial
 ·rename_i fn x y ho
  split
  ·rename_i p q hp hq
   intro w;unfold execOp;rw[ho]
   have e1:x.map a.eval=p.toArray:=by rw[←Array.toList_inj,Array.toList_map,hS_ hF hC hp]
   have e2:y.map a.eval=q.toArray:=by rw[←Array.toList_inj,Array.toList_map,hS_ hF hC hq]
   simp[e1,e2,Instr.makeFunc]
  ·trivial
 ·rename_i t r ho
  split
  ·intro w K Q hf
   unfold Oper.wp
   have hr:(execOp a.eval o).run P w=.ok (.value (.map (some w.heap.size))) (w.alloc (.map #[] 0)):=by
    unfold execOp;rw[ho];simp[Instr.makeMap]
   rw[hr]
   exact⟨some w.heap.size,rfl,hf _ _ rfl rfl⟩
  ·trivial
 ·rename_i t x y ho
  split
  ·rename_i u v hu hv
   refine iB_ ?_
   unfold execOp;rw[ho];simp only[ev hu,ev hv]
  ·trivial
 ·rename_i t x ho
  split
  ·rename_i v hv
   refine e2_ (s:=Instr.makeInterface t v) ?_ fun w y hr=>hr
   unfold execOp;rw[ho];simp only[ev hv]
  ·trivial
 ·rename_i t x lo hi m ho
  split
  ·rename_i v hv
   rw[←ev hv]
   exact ti_ hF hC ho
  ·trivial
 ·rename_i t x i ho
  split
  ·rename_i v hv;rw[←ev hv];exact oR_ ho
  ·trivial
 ·rename_i t x i ho
  split
  ·rename_i v hv;rw[←ev hv];exact tf_ ho
  ·trivial
 ·rename_i t x y ho
  split
  ·rename_i u v hu hv;rw[←ev hu,←ev hv];exact oS_ ho
  ·trivial
 ·rename_i t x y ho
  split
  ·rename_i u v hu hv;rw[←ev hu,←ev hv];exact tg_ ho
  ·trivial
 ·rename_i t x y ok ho
  split
  ·rename_i u v k e hu hv he
   have h:execOp a.eval o=(do let z ←Instr.lookup t u v ok;pure (.value z)):=by unfold execOp;rw[ho];simp only[ev hu,ev hv]
   cases ok with
   | true=>exact e2_ h fun w z hr=>hr
   | false=>exact e2_ h fun w z hr=>hr
  ·trivial
 ·rename_i t x y z ho
  split
  ·rename_i m u v hm hu hv
   refine rn_ ?_
   unfold execOp;rw[ho];simp only[ev hm,ev hu,ev hv]
  ·trivial
 ·rename_i t x y z ho
  split
  ·rename_i m u v hm hu hv
   refine rn_ ?_
   unfold execOp;rw[ho];simp only[ev hm,ev hu,ev hv]
  ·trivial
 ·rename_i x i ho
  split
  ·rename_i vs hv
   split
   ·rename_i v hi
    intro w;unfold execOp;rw[ho]
    have hi':vs[i]?=some v:=by simpa using hi
    simp[ev hv,Instr.extract,hi']
   ·trivial
  ·trivial
 ·rename_i c ho
  obtain⟨callee,args,argTypes⟩:=c
  split
  ·rename_i f hcal
   simp only at hcal
   subst hcal
   split
   ·rename_i vs hv
    split
    ·rename_i hm
     refine tj_ fun w=>?_
     have e1:args.map a.eval=vs.toArray:=by rw[←Array.toList_inj,Array.toList_map,hS_ hF hC hv]
     unfold execOp;rw[ho]
     have hcf:=iF_ hc hm
     simp[resolve,Act.eval,Deferred.ofValue,e1,invoke,hcf]
    ·trivial
   ·trivial
  ·rename_i x hx hcal
   simp only at hcal
   subst hcal
   split
   ·rename_i v vs hv hvs
    refine tk_ hc fun w fn first cap he=>?_
    have e1:args.map a.eval=vs.toArray:=by rw[←Array.toList_inj,Array.toList_map,hS_ hF hC hvs]
    unfold execOp;rw[ho]
    simp[resolve,ev hv,he,Deferred.ofValue,e1,invoke]
   ·trivial
  ·rename_i b hcal
   simp only at hcal
   subst hcal
   split
   ·rename_i vs hv
    have e1:args.map a.eval=vs.toArray:=by rw[←Array.toList_inj,Array.toList_map,hS_ hF hC hv]
    refine qN_ (cs:=args.map fun | .const _=>true|_=>false) ?_
    unfold execOp;rw[ho]
    simp only[resolve,e1]
    rfl
   ·trivial
  ·trivial
 ·intro w K Q hf
  exact hf.elim
 ·trivial
end
open Go Go.RowKit
set_option maxRecDepth 100000
abbrev L8:=List UInt8
def bv (l:L8):List Value:=l.map fun b=>.int .u8 (b.toNat:Int)
def str (l:L8):ByteArray:=⟨l.toArray⟩
def ls (s:ByteArray):L8:=s.data.toList
theorem pH_ (l:L8):ls (str l)=l:=rfl
theorem pI_ (s:ByteArray):str (ls s)=s:=rfl
theorem mB_ (l:L8):(str l).size=l.length:=by show l.toArray.size=_;simp
theorem gB_ (s:ByteArray):(ls s).length=s.size:=by show s.data.toList.length=s.data.size;simp
theorem wa_ {a b:L8} (h:str a=str b):a=b:=by rw[←pH_ a,h,pH_]
theorem wQ_ {a b:ByteArray} (h:ls a=ls b):a=b:=by rw[←pI_ a,h,pI_]
theorem rp_ {s t:ByteArray}:sEq s t=true↔s=t:=by
 unfold sEq
 rw[beq_iff_eq,ByteArray.toList_eq,ByteArray.toList_eq]
 exact⟨fun h=>wQ_ h,fun h=>by rw[h]⟩
theorem rq_ {a b:L8}:sEq (str a) (str b)=decide (a=b):=by
 rw[Bool.eq_iff_iff,rp_,decide_eq_true_iff]
 exact⟨wa_,fun h=>by rw[h]⟩
theorem wb_ {s t:ByteArray}:sEq s t=decide (s=t):=by
 rw[Bool.eq_iff_iff,rp_,decide_eq_true_iff]
theorem az_ (l:L8):(bv l).length=l.length:=by simp[bv]
theorem b3_ (a b:L8):bv (a++b)=bv a++bv b:=by simp[bv]
theorem nU_ (l:L8) (k:Nat):(bv l).take k=bv (l.take k):=by simp[bv,List.map_take]
theorem rr_ (l:L8) (k:Nat):(bv l).drop k=bv (l.drop k):=by simp[bv,List.map_drop]
theorem wR_ (l:L8) (j:Nat) (h:j<l.length):(bv l)[j]?=some (.int .u8 (l[j].toNat:Int)):=by simp[bv,h]
theorem w64 {n:Int} (h0 : -9223372036854775808≤n) (h1:n≤9223372036854775807):IntKind.wrap .i64 n=n:=by
 have e:IntKind.wrap .i64 n=if n%18446744073709551616≥9223372036854775808 then n%18446744073709551616-18446744073709551616 else n%18446744073709551616:=by
  simp[IntKind.wrap,IntKind.signed,IntKind.bits]
 rw[e]
 split<;>omega
theorem wu8 {n:Int} (h0:0≤n) (h1:n<256):IntKind.wrap .u8 n=n:=by
 have e:IntKind.wrap .u8 n=n%256:=by simp[IntKind.wrap,IntKind.signed,IntKind.bits]
 rw[e];omega
theorem nV_ {n:Int} (h0:0≤n) (h1:n<65536):IntKind.wrap .u16 n=n:=by
 have e:IntKind.wrap .u16 n=n%65536:=by simp[IntKind.wrap,IntKind.signed,IntKind.bits]
 rw[e];omega
theorem jz_ {n:Int} (h0:0≤n) (h1:n<4294967296):IntKind.wrap .u32 n=n:=by
 have e:IntKind.wrap .u32 n=n%4294967296:=by simp[IntKind.wrap,IntKind.signed,IntKind.bits]
 rw[e];omega
theorem h3_ {n:Int} (h0:0≤n) (h1:n<18446744073709551616):IntKind.wrap .u64 n=n:=by
 have e:IntKind.wrap .u64 n=n%18446744073709551616:=by simp[IntKind.wrap,IntKind.signed,IntKind.bits]
 rw[e];omega
theorem am_ {b:Bool} {A B:Prop} (hb:b=true) (h:A):Br b A B:=⟨fun _=>h,fun q=>by rw[hb] at q;cases q⟩
theorem aj_ {b:Bool} {A B:Prop} (hb:b=false) (h:B):Br b A B:=⟨fun q=>(by rw[hb] at q;cases q),fun _=>h⟩
theorem a2_ {p:Prop} [Decidable p] {A B:Prop} (ht:p→A) (hf:¬p→B):Br (decide p) A B:=
 ⟨fun h=>ht (of_decide_eq_true h),fun h=>hf (of_decide_eq_false h)⟩
theorem as_ {x y:Int} {A B:Prop} (ht:x=y→A) (hf:x≠y→B):Br (x==y) A B:=
 ⟨fun h=>ht (eq_of_beq h),fun h=>hf (fun e=>by rw[e,beq_self_eq_true] at h;cases h)⟩
theorem hp_ {x y:Int} {A B:Prop} (ht:x≠y→A) (hf:x=y→B):Br (x != y) A B:=
 ⟨fun h=>ht (fun e=>by simp[e] at h),fun h=>hf (by simpa using h)⟩
theorem bl_ {x y:Nat} {A B:Prop} (ht:x<y→A) (hf:¬x<y→B):Br (decide ((x:Int)<(y:Int))) A B:=
 a2_ (fun h=>ht o_) (fun h=>hf o_)
theorem wS_ {P:Program} {f:FuncId} {args:A_} {w:World} {k:Kd} {x:k.T} {Q:W_} {R:k.T→W_}
  (h:Calls P f args w fun e w'=>e=.returned (k.mk x)∧Q w') (hR:∀w',Q w'→R x w'):al_ P f args w [k] R:=
 h.mono fun _ w' he=>⟨x,he.1,by show R (k.un (k.mk x)) w';rw[vP_];exact hR w' he.2⟩
structure aa_ (S:Nat→Prop) (w w':World):Prop where
 os:w'.os=w.os
 tape:w'.tape=w.tape
 output:w'.output=w.output
 size:w.heap.size≤w'.heap.size
 block:∀k,k<w.heap.size→¬S k→w'.heap[k]?=w.heap[k]?
abbrev ab_ (w w':World):Prop:=aa_ (fun _=>False) w w'
theorem aa_.refl (S:Nat→Prop) (w:World):aa_ S w w:=⟨rfl,rfl,rfl,Nat.le_refl _,fun _ _ _=>rfl⟩
theorem aa_.trans {S S':Nat→Prop} {a b c:World} (h:aa_ S a b) (k:aa_ S' b c) (hs:∀i,i<a.heap.size→S' i→S i):aa_ S a c:=
 ⟨k.os.trans h.os,k.tape.trans h.tape,k.output.trans h.output,Nat.le_trans h.size k.size,
 fun i hi hn=>(k.block i (Nat.lt_of_lt_of_le hi h.size) (fun q=>hn (hs i hi q))).trans (h.block i hi hn)⟩
theorem aa_.mono {S S':Nat→Prop} {a b:World} (h:aa_ S a b) (hs:∀i,i<a.heap.size→S i→S' i):aa_ S' a b:=
 ⟨h.os,h.tape,h.output,h.size,fun i hi hn=>h.block i hi (fun q=>hn (hs i hi q))⟩
theorem ab_.trans {a b c:World} (h:ab_ a b) (k:ab_ b c):ab_ a c:=aa_.trans h k (fun _ _ q=>q)
theorem aa_.grow {S:Nat→Prop} {a b c:World} (h:aa_ S a b) (k:ab_ b c):aa_ S a c:=aa_.trans h k (fun _ _ q=>q.elim)
theorem ab_.keep {S:Nat→Prop} {a b c:World} (h:ab_ a b) (k:aa_ S b c) (hs:∀i,i<a.heap.size→¬S i):ab_ a c:=aa_.trans h k (fun i hi q=>hs i hi q)
theorem aa_.below {w w':World} (h:ab_ w w'):Below w.heap.size w w':=⟨h.os,h.tape,h.output,h.size,fun k hk=>h.block k hk (fun q=>q)⟩
theorem lf_ {w w':World} {row:Option Nat} (h:w.grownBy w' row):aa_ (fun k=>some k=row) w w':=⟨h.os,h.tape,h.output,h.size,fun k hk hn=>h.block k hk hn⟩
theorem ak_ (w:World):ab_ w w.drew:=⟨rfl,rfl,rfl,Nat.le_refl _,fun _ _ _=>rfl⟩
theorem k0_ (w:World) (o:Obj) (k:Nat) (h:k<w.heap.size):(w.alloc o).heap[k]?=w.heap[k]?:=by
 show(w.heap.push o)[k]?=_
 rw[Array.getElem?_push,if_neg o_]
theorem dh_ (w:World) (o:Obj):ab_ w (w.alloc o):=⟨rfl,rfl,rfl,by simp,fun k hk _=>k0_ w o k hk⟩
theorem m6_ (w:World) (a:Addr) (u:Value) (k:Nat) (h:k≠a.block):(w.setCell a u).heap[k]?=w.heap[k]?:=by
 simp only[World.setCell,Array.getElem?_modify]
 rw[if_neg o_]
theorem fh_ (w:World) (a:Addr) (u:Value):aa_ (fun k=>k=a.block) w (w.setCell a u):=
 ⟨rfl,rfl,rfl,by simp[World.setCell],fun k _ hn=>m6_ w a u k hn⟩
theorem lO_ {w:World} {a:Addr} {v:Value} (h:w.cell? a=some v):a.block<w.heap.size:=World.block_lt_of_cell? w a h
theorem aa_.cell {S:Nat→Prop} {w w':World} (h:aa_ S w w') {a:Addr} {v:Value} (hc:w.cell? a=some v) (hn:¬S a.block):w'.cell? a=some v:=by
 have hb:=h.block a.block (lO_ hc) hn
 simp only[World.cell?,hb]
 exact hc
theorem aa_.heap {S:Nat→Prop} {w w':World} (h:aa_ S w w') {b:Nat} {o:Obj} (hb:w.heap[b]?=some o) (hn:¬S b):w'.heap[b]?=some o:=by
 rw[h.block b (Array.getElem?_eq_some_iff.1 hb).1 hn];exact hb
theorem aw_ {w:World} {b:Nat} {o:Obj} (hb:w.heap[b]?=some o):b<w.heap.size:=(Array.getElem?_eq_some_iff.1 hb).1
abbrev Blk (w:World) (b:Nat) (cs:A_) (t:TypeId):Prop:=w.heap[b]?=some (.cells cs t (0,0))
theorem aq_ (b o k:Nat):(⟨b,o,none⟩:Addr).add k=⟨b,o+k,none⟩:=by
 unfold Addr.add;split<;>simp_all
theorem iG_ (a:Addr) (i j:Nat):(a.add i).add j=a.add (i+j):=by
 unfold Addr.add
 by_cases h1:i=0<;>by_cases h2:j=0<;>simp[h1,h2,Nat.add_assoc]
theorem tm_ (a:Addr):a.add 0=a:=by simp[Addr.add]
theorem hT_ (a:Addr) (k:Nat):(a.add k).block=a.block:=by unfold Addr.add;split<;>rfl
theorem Blk.cell {w:World} {b:Nat} {cs:A_} {t:TypeId} (h:Blk w b cs t) (o:Nat):w.cell? ⟨b,o,none⟩=cs[o]?:=by
 simp[World.cell?,h]
theorem Blk.free {w:World} {b:Nat} {cs:A_} {t:TypeId} (h:Blk w b cs t) (o:Nat):w.frozen? ⟨b,o,none⟩=false:=by
 simp[World.frozen?,h]
theorem Blk.set {w:World} {b:Nat} {cs:A_} {t:TypeId} (h:Blk w b cs t) (o:Nat) (v:Value):Blk (w.setCell ⟨b,o,none⟩ v) b (cs.setIfInBounds o v) t:=by
 have hlt:=aw_ h
 simp only[Blk,World.setCell,Array.getElem?_modify,if_true,h,Option.map_some]
 rfl
theorem ag_ {o:Obj} {w:World} {K:Addr→W_} (h:∀b w1,b=w.heap.size→w1.heap[b]?=some o→ab_ w w1→w1.heap.size=w.heap.size+1→K ⟨b,0,none⟩ w1):New o w K:=by
 intro b w1 hb hw
 subst hb;subst hw
 refine h _ _ rfl ?_ (dh_ w o) (by simp)
 show(w.heap.push o)[w.heap.size]?=_
 simp
theorem a0_ {b o:Nat} {v:Value} {w:World} {cs:A_} {t:TypeId} {K:W_} (hb:Blk w b cs t) (ho:o<cs.size) (hv:v.oneCell'=true)
  (h:∀w1,Blk w1 b (cs.setIfInBounds o v) t→aa_ (fun k=>k=b) w w1→w1.heap.size=w.heap.size→K w1):Put ⟨b,o,none⟩ v w K:=by
 refine⟨⟨cs[o],by rw[hb.cell];simp[ho]⟩,hb.free o,hv,fun w1 hw=>?_⟩
 subst hw
 exact h _ (hb.set o v) (fh_ w ⟨b,o,none⟩ v) (by simp)
theorem cY_ {α:Type} {f:α→List Value} {z:Nat} (hf:∀a,(f a).length=z):∀(l:List α),(l.flatMap f).length=l.length*z
 | []=>by simp
 | a::r=>by rw[List.flatMap_cons,List.length_append,hf,cY_ hf r,List.length_cons,Nat.succ_mul,Nat.add_comm]
theorem gC_ {α:Type} {f:α→List Value} {z:Nat} (hf:∀a,(f a).length=z):∀{l:List α} {i:Nat} (h:i<l.length),((l.flatMap f).drop (i*z)).take z=f l[i]
 | a::r,0,_=>by
  rw[List.flatMap_cons,Nat.zero_mul,List.drop_zero,List.take_append_of_le_length (by rw[hf];exact Nat.le_refl _),List.take_of_length_le (by rw[hf];exact Nat.le_refl _)];rfl
 | a::r,i+1,h=>by
  have e:(i+1)*z=(f a).length+i*z:=by rw[hf,Nat.succ_mul,Nat.add_comm]
  rw[List.flatMap_cons,e,List.drop_append,List.drop_of_length_le o_,List.nil_append,Nat.add_sub_cancel_left]
  exact gC_ hf (l:=r) (i:=i) (by simpa using h)
def bY_ (w:World) (a:Addr) (vs:List Value):Prop:=∀j v,vs[j]?=some v→w.cell? (a.add j)=some v
structure Rd (w:World) (z:Nat) (s:Sl) (vs:List Value):Prop where
 len:vs.length=s.n*z
 cap:s.n≤s.c
 nb:s.n≤140737489403904
 at_:vs≠[]→∃a,s.A=some a∧bY_ w a vs
theorem wT_ (w:World) (z:Nat):Rd w z ⟨none,0,0⟩ []:=⟨by simp,Nat.le_refl _,d_,fun h=>absurd rfl h⟩
theorem bY_.keep {S:Nat→Prop} {w w':World} {a:Addr} {vs:List Value} (h:bY_ w a vs) (k:aa_ S w w') (hn:¬S a.block):bY_ w' a vs:=
 fun j v hj=>k.cell (h j v hj) (by rw[hT_];exact hn)
theorem Rd.keep {S:Nat→Prop} {w w':World} {z:Nat} {s:Sl} {vs:List Value} (h:Rd w z s vs) (k:aa_ S w w') (hn:∀a,s.A=some a→a.block<w.heap.size→¬S a.block):Rd w' z s vs:=by
 refine⟨h.len,h.cap,h.nb,fun hne=>?_⟩
 obtain⟨a,ha,hc⟩:=h.at_ hne
 refine⟨a,ha,hc.keep k (hn a ha ?_)⟩
 cases vs with
 | nil=>exact absurd rfl hne
 | cons v r=>have:=lO_ (hc 0 v rfl);rwa [hT_] at this
theorem Rd.grow {w w':World} {z:Nat} {s:Sl} {vs:List Value} (h:Rd w z s vs) (k:ab_ w w'):Rd w' z s vs:=h.keep k (fun _ _ _ q=>q)
theorem Rd.elem {w:World} {z:Nat} {s:Sl} {vs:List Value} (h:Rd w z s vs) {i:Nat} (hi:i<s.n) (hz:0<z) :
  ∃a,s.A=some a∧bY_ w (a.add (i*z)) ((vs.drop (i*z)).take z):=by
 have hle:i*z+z≤vs.length:=by rw[h.len,←Nat.succ_mul];exact Nat.mul_le_mul_right _ hi
 have hne:vs≠[]:=fun e=>by rw[e] at hle;simp at hle;omega
 obtain⟨a,ha,hc⟩:=h.at_ hne
 refine⟨a,ha,fun j v hj=>?_⟩
 rw[iG_]
 refine hc (i*z+j) v ?_
 rw[List.getElem?_take] at hj
 split at hj
 ·rwa [List.getElem?_drop] at hj
 ·cases hj
theorem Rd.byte {w:World} {s:Sl} {l:L8} (h:Rd w 1 s (bv l)) {i:Nat} (hi:i<s.n):∃a,s.A=some a∧w.cell? (a.add (i*1))=some (.int .u8 ((l[i]'(by have:=h.len;rw[az_] at this;omega)).toNat:Int)):=by
 have hl:i<l.length:=by have:=h.len;rw[az_] at this;omega
 have hne:bv l≠[]:=fun e=>by have:=congrArg List.length e;rw[az_] at this;simp at this;rw[this] at hl;simp at hl
 obtain⟨a,ha,hc⟩:=h.at_ hne
 refine⟨a,ha,?_⟩
 rw[Nat.mul_one]
 exact hc i _ (wR_ l i hl)
theorem Rd.cut {w:World} {z:Nat} {s:Sl} {vs:List Value} (h:Rd w z s vs) {l k:Nat} (hl:l≤k) (hk:k≤s.n) :
  Rd w z ⟨aM_ s.A s.c l z,k-l,s.c-l⟩ ((vs.drop (l*z)).take ((k-l)*z)):=by
 have hlen:=h.len
 have h1:k*z≤vs.length:=by rw[hlen];exact Nat.mul_le_mul_right _ hk
 have h2:l*z+(k-l)*z=k*z:=by rw[←Nat.add_mul];congr 1;omega
 refine⟨?_,by have:=h.cap;show k-l≤s.c-l;omega,by have:=h.nb;show k-l≤_;omega,fun hne=>?_⟩
 ·rw[List.length_take,List.length_drop]
  show min ((k-l)*z) _=(k-l)*z
  omega
 ·have hne':vs≠[]:=fun e=>hne (by simp[e])
  obtain⟨a,ha,hc⟩:=h.at_ hne'
  have hpos:0<(k-l)*z:=by
   rcases Nat.eq_zero_or_pos ((k-l)*z) with e|e
   ·exfalso;apply hne;rw[e];simp
   ·exact e
  have hkl:0<k-l:=Nat.pos_of_mul_pos_right hpos
  have hcl:s.c≠l:=by have:=h.cap;omega
  refine⟨a.add (l*z),?_,fun j v hj=>?_⟩
  ·show aM_ s.A s.c l z=_
   unfold aM_
   rw[if_neg hcl,ha];rfl
  ·rw[iG_]
   refine hc (l*z+j) v ?_
   rw[List.getElem?_take] at hj
   split at hj
   ·rwa [List.getElem?_drop] at hj
   ·cases hj
theorem Rd.cutB {w:World} {s:Sl} {b:L8} (h:Rd w 1 s (bv b)) {l k:Nat} (hl:l≤k) (hk:k≤s.n) :
  Rd w 1 ⟨aM_ s.A s.c l 1,k-l,s.c-l⟩ (bv ((b.drop l).take (k-l))):=by
 have:=h.cut hl hk
 rwa [Nat.mul_one,Nat.mul_one,rr_,nU_] at this
def Own (w:World) (base:Nat) (e:TypeId) (z:Nat) (s:Sl) (vs:List Value):Prop:=
 w.ownsRow base e z (.slice s.A s.n s.c) s.n vs
theorem aH_ (w:World) (base:Nat) (e:TypeId) (z:Nat):Own w base e z ⟨none,0,0⟩ []:=World.ownsRow_nil w base e z
def Sl.blk (s:Sl):Option Nat:=s.A.map (·.block)
theorem Own.keep {S:Nat→Prop} {w w':World} {base:Nat} {e:TypeId} {z:Nat} {s:Sl} {vs:List Value} (h:Own w base e z s vs) (k:aa_ S w w') (hn:∀b,s.blk=some b→¬S b):Own w' base e z s vs:=by
 obtain⟨h1,h2⟩:=h
 refine⟨h1,?_⟩
 rcases h2 with h2|⟨g,cap,cur,hv,hb,hg,r⟩
 ·exact .inl h2
 ·refine .inr ⟨g,cap,cur,hv,hb,?_,r⟩
  injection hv with hA
  exact k.heap hg (hn g (by simp[Sl.blk,hA]))
theorem Own.grow {w w':World} {base:Nat} {e:TypeId} {z:Nat} {s:Sl} {vs:List Value} (h:Own w base e z s vs) (k:ab_ w w'):Own w' base e z s vs:=h.keep k (fun _ _ q=>q)
theorem Own.mono {w:World} {base base':Nat} {e:TypeId} {z:Nat} {s:Sl} {vs:List Value} (h:Own w base e z s vs) (hb:base'≤base):Own w base' e z s vs:=by
 obtain⟨h1,h2⟩:=h
 refine⟨h1,?_⟩
 rcases h2 with h2|⟨g,cap,cur,hv,hg,r⟩
 ·exact .inl h2
 ·exact .inr ⟨g,cap,cur,hv,Nat.le_trans hb hg,r⟩
theorem Own.len {w:World} {base:Nat} {e:TypeId} {z:Nat} {s:Sl} {vs:List Value} (h:Own w base e z s vs):vs.length=s.n*z:=h.1
theorem Own.ge {w:World} {base:Nat} {e:TypeId} {z:Nat} {s:Sl} {vs:List Value} (h:Own w base e z s vs):∀b,s.blk=some b→base≤b∧b<w.heap.size:=by
 intro b hb
 rcases h.2 with⟨h2,_⟩|⟨g,cap,cur,hv,hg,hh,r⟩
 ·injection h2 with hA;simp[Sl.blk,hA] at hb
 ·injection hv with hA
  simp[Sl.blk,hA] at hb
  subst hb
  exact⟨hg,aw_ hh⟩
theorem Own.rd {w:World} {base:Nat} {e:TypeId} {z:Nat} {s:Sl} {vs:List Value} (h:Own w base e z s vs) (hn:s.n≤140737489403904):Rd w z s vs:=by
 refine⟨h.1,?_,hn,fun hne=>?_⟩
 ·rcases h.2 with⟨h2,h3⟩|⟨g,cap,cur,hv,hg,hh,h4,_⟩
  ·injection h2 with _ e1 e2;omega
  ·injection hv with _ _ e2;omega
 ·rcases h.2 with⟨h2,h3⟩|⟨g,cap,cur,hv,hg,hh,h4,_⟩
  ·exfalso;apply hne;have:=h.1;rw[h3] at this;simpa using this
  ·injection hv with hA
   exact⟨_,hA,fun j u hj=>World.ownsRow.cells h (g:=g) (by show(Value.slice s.A s.n s.c).ownBlock=_;rw[hA];rfl) j u hj⟩
theorem aZ_ {P:Program} {w:World} {base:Nat} {t ty e:TypeId} {zv:Value} {z bytes:Nat} (ht:P.underlying t=some (.slice e)) (hinfo:(P.info? e).map (fun i=>(i.zero,i.size,i.bytes))=some (some zv,z,bytes))
  (hzc:zv.cells.size=z) (hz0:0<z) (hb0:0<bytes)
  {s x:Sl} {vs xs:List Value} (hs:Own w base e z s vs) (hx:Rd w z x xs) (h1:∀u∈xs,u.oneCell'=true)
  (hbd:(s.n+x.n)*bytes≤140737488355328) (hbase:base≤w.heap.size) {K:Sl→W_}
  (h:∀s' w',s'.n=s.n+x.n→Own w' base e z s' (vs++xs)→aa_ (fun k=>some k=s.blk) w w'→(s'.blk=s.blk∨s'.blk=some w.heap.size)→K s' w') :
  an_ P .sl (Builtin.append_ #[t,t] ty #[.slice s.A s.n s.c,.slice x.A x.n x.c]) w K:=by
 obtain⟨i,hi,hzz⟩:=Option.map_eq_some_iff.1 hinfo
 simp only[Prod.mk.injEq] at hzz
 obtain⟨hz,hsz,hby⟩:=hzz
 have hm:s.n+x.n≤140737488355328:=Nat.le_trans (Nat.le_mul_of_pos_right _ hb0) hbd
 have blk:(Value.slice s.A s.n s.c).ownBlock=s.blk:=by unfold Sl.blk;cases s.A<;>rfl
 cases hA:x.A with
 | none=>
  have hxs:xs = []:=by
   by_cases e:xs = []
   ·exact e
   ·obtain⟨a,ha,_⟩:=hx.at_ e;rw[hA] at ha;cases ha
  subst hxs
  have hn0:x.n=0:=by
   have:=hx.len
   rw[List.length_nil] at this
   rcases Nat.mul_eq_zero.1 this.symm with h|h<;>omega
  refine⟨s,w,?_,h s w o_ (by simpa using hs) (aa_.refl _ _) (.inl rfl)⟩
  have hc:=(hs.rd o_).cap
  rw[hn0]
  show _=Result.ok (Value.slice s.A s.n s.c) w
  obtain⟨A,n,c⟩:=s
  simp only at hc ⊢
  cases A<;>simp[Builtin.append_,run_underlying ht,sizeOf,typeInfo,hi,Builtin.lenOf,Builtin.firstCells,hc,storeCells]
 | some a=>
  have hcells:∀j u,xs[j]?=some u→w.cell? (a.add j)=some u:=by
   intro j u hj
   have hne:xs≠[]:=fun e=>by simp[e] at hj
   obtain⟨a',ha',hc⟩:=hx.at_ hne
   rw[hA] at ha'
   obtain rfl:=Option.some.inj ha'
   exact hc j u hj
  obtain⟨v',w',hr,hown,hg,_,hat⟩:=run_append_own_at (P:=P) w base t ty e i zv z bytes ht hi hz hsz hby hzc hz0 _ s.n vs hs a x.n x.c xs hx.len hcells h1 (by unfold maxLen;omega) hbd hbase
  have hv':∃s':Sl,v'=.slice s'.A s'.n s'.c∧s'.n=s.n+x.n:=by
   rcases hown.2 with⟨rfl,hn⟩|⟨g,cap,cur,rfl,_⟩
   ·exact⟨⟨none,0,0⟩,rfl,hn.symm⟩
   ·exact⟨⟨some ⟨g,0,none⟩,_,cap⟩,rfl,rfl⟩
  obtain⟨s',rfl,hn'⟩:=hv'
  refine⟨s',w',hr,h s' w' hn' (by have q:=hown;rw[←hn'] at q;exact q) (blk▸lf_ hg) ?_⟩
  have blk':(Value.slice s'.A s'.n s'.c).ownBlock=s'.blk:=by unfold Sl.blk;cases s'.A<;>rfl
  rw[blk,blk'] at hat
  exact hat
theorem aN_ {P:Program} {w:World} {t e:TypeId} {n:Nat} {parts:Array (Nat×Value)} {cells:A_} {z:Nat} {base:Nat}
  (hr:(Instr.buildSlice t n parts).run P w=.ok (.slice (some ⟨w.heap.size,0,none⟩) n n) (w.alloc (.cells cells e))) (hs:cells.size=n*z) (hn:n≤140737488355328) (hbase:base≤w.heap.size)
  {K:Sl→W_} (h:∀w1,Own w1 base e z ⟨some ⟨w.heap.size,0,none⟩,n,n⟩ cells.toList→ab_ w w1→w1.heap.size=w.heap.size+1→K ⟨some ⟨w.heap.size,0,none⟩,n,n⟩ w1) :
  an_ P .sl (Instr.buildSlice t n parts) w K:=
 ⟨⟨some ⟨w.heap.size,0,none⟩,n,n⟩,_,hr,h _ (World.ownsRow_lit w cells n hbase (by unfold maxLen;omega) hs) (dh_ w _) (by simp)⟩
theorem aE_ {P:Program} {w:World} {t:TypeId} {zv:Option Value} {z bytes:Nat} {a:Addr} {cs:List Value} (hg:(P.underlying t).map bC_=some .ag)
  (hinfo:(P.info? t).map (fun i=>(i.zero,i.size,i.bytes))=some (zv,z,bytes)) (hn:z=cs.length) (hc:bY_ w a cs) :
  (loadVar t a).run P w=.ok (.agg cs.toArray) w:=by
 obtain⟨i,hi,hzz⟩:=Option.map_eq_some_iff.1 hinfo
 simp only[Prod.mk.injEq] at hzz
 have hn:i.size=cs.length:=by rw[hzz.2.1,hn]
 obtain⟨d,hd,hk⟩:=Option.map_eq_some_iff.1 hg
 unfold loadVar
 rw[Sem.run_bind,oi_ hd,hk]
 simp only[Result.andThen_ok,if_true,Sem.run_bind]
 have hs:(sizeOf t).run P w=.ok cs.length w:=by simp[sizeOf,typeInfo,hi,hn]
 rw[hs]
 simp only[Result.andThen_ok]
 rw[run_loadCells_list (P:=P) (w:=w) a cs hc]
 rfl
theorem ap_ {P:Program} {w:World} {b:Nat} {t ty:TypeId} {zv:Option Value} {z bytes:Nat} {old cells:A_} (hb:Blk w b old t) (hinfo:(P.info? ty).map (fun i=>(i.zero,i.size,i.bytes))=some (zv,z,bytes)) (hz:z=cells.size) (ho:old.size=cells.size)
  (h1:cells.all (·.oneCell')=true) {K:W_} (h:∀w1,Blk w1 b cells t→aa_ (fun k=>k=b) w w1→w1.heap.size=w.heap.size→K w1):ah_ P (storeVar ty ⟨b,0,none⟩ (.agg cells)) w K:=by
 have hi:(P.info? ty).map (·.size)=some cells.size:=by
  obtain⟨i,hi,hzz⟩:=Option.map_eq_some_iff.1 hinfo
  simp only[Prod.mk.injEq] at hzz
  rw[hi,Option.map_some,hzz.2.1,hz]
 refine⟨_,run_storeVar_row w b t ty old cells hb hi ho h1,h _ (setRow_heap w b old cells t (0,0) hb) ⟨rfl,rfl,rfl,by simp,fun k _ hn=>setRow_other w b k _ hn⟩ (by simp)⟩
theorem gM_ {P:Program} {w:World} {src dst e:TypeId} {s:Sl} {l:L8} (hs:P.underlying src=some (.slice e)) (he:P.underlying e=some (.int .u8)) (hd:P.underlying dst=some .string)
  (h:Rd w 1 s (bv l)):(convert src dst (.slice s.A s.n s.c)).run P w=.ok (.string (str l)) w:=by
 rw[run_convert_bytes_string w src dst e s.A s.n s.c hs he hd]
 have hl:l.length=s.n:=by have:=h.len;rw[az_] at this;omega
 cases hA:s.A with
 | none=>
  have:bv l = []:=by
   by_cases e:bv l = []
   ·exact e
   ·obtain⟨a,ha,_⟩:=h.at_ e;rw[hA] at ha;cases ha
  have:l = []:=by simpa [bv] using this
  subst this
  rfl
 | some a=>
  have hc:∀j v,(bv l)[j]?=some v→w.cell? (a.add j)=some v:=by
   intro j v hj
   have hne:bv l≠[]:=fun e=>by simp[e] at hj
   obtain⟨a',ha',hc⟩:=h.at_ hne
   rw[hA] at ha'
   obtain rfl:=Option.some.inj ha'
   exact hc j v hj
  have hr:=run_loadCells_list (P:=P) (w:=w) a (bv l) hc
  rw[az_,hl] at hr
  have e:bv l=(l.map fun b=>(b.toNat:Int)).map (Value.int .u8):=by simp[bv]
  rw[e] at hr
  rw[run_bytesToString w a s.n s.c _ hr]
  congr 2
  have fold:∀(l:L8) (acc:ByteArray),(l.map fun b=>(b.toNat:Int)).foldl (fun r n=>r.push (UInt8.ofNat n.toNat)) acc=⟨(acc.data.toList++l).toArray⟩:=by
   intro l
   induction l with
   | nil=>intro acc;simp
   | cons b r ih=>
    intro acc
    rw[List.map_cons,List.foldl_cons,ih]
    simp[ByteArray.push]
  rw[fold]
  simp[str]
open Go
set_option maxRecDepth 100000
def iH_ (rec:TypeId→Option (List Kd)) (P:Program):List Field→Nat→Option (List Kd)
 | [],_=>some []
 | f::r,off=>match f.name=="_",Nat.beq f.offset off,rec f.type with
  | false,true,some ks=>match Nat.beq (b8_ P f.type) ks.length,iH_ rec P r (off+ks.length) with
   | true,some l=>some (ks++l)
   | _,_=>none
  | _,_,_=>none
def mC_:Nat→List Kd→List Kd
 | 0,_=>[]
 | n+1,ks=>ks++mC_ n ks
def dQ_ (P:Program):Nat→TypeId→Option (List Kd)
 | 0,_=>none
 | d+1,t=>match P.underlying t with
  | some .bool=>some [.b]
  | some (.int k)=>some [.i k]
  | some .string=>some [.s]
  | some (.struct fs)=>match P.stoodInHeld t with
   | false=>iH_ (dQ_ P d) P fs.toList 0
   | true=>none
  | some (.array n e)=>match dQ_ P d e with
   | some ks=>match Nat.beq (b8_ P e) ks.length with
    | true=>some (mC_ n ks)
    | false=>none
   | none=>none
  | _=>none
def dR_ (P:Program) (t:TypeId) (xs:List Value):Value:=match kd P t with | .ag=>.agg xs.toArray|_=>xs.headD (.tuple #[])
theorem a1_.length:∀{ks:List Kd} {vs:List Value},a1_ ks vs→ks.length=vs.length
 | [],[],_=>rfl
 | _::_,_::_,h=>by simp[a1_.length h.2]
 | [],_::_,h=>h.elim
 | _::_,[],h=>h.elim
theorem a1_.append:∀{ks ls:List Kd} {vs:List Value},a1_ (ks++ls) vs→a1_ ks (vs.take ks.length)∧a1_ ls (vs.drop ks.length)
 | [],_,_,h=>⟨trivial,h⟩
 | _::ks,ls,v::vs,h=>by
  have:=a1_.append (ks:=ks) h.2
  exact⟨⟨h.1,this.1⟩,this.2⟩
 | _::_,_,[],h=>h.elim
attribute [local instance] Classical.propDecidable
section
variable {P:Program}
theorem lg_ (w:World) (D:Nat) (rec:TypeId→Option (List Kd)) (X Y:List Value)
  (hrec:∀t ks,rec t=some ks→∀a b,a1_ ks a→a1_ ks b→(Op.equalIn D t (dR_ P t a) (dR_ P t b)).run P w=.ok (decide (a=b)) w)
  (hpart:∀t ks,rec t=some ks→b8_ P t=ks.length→∀(Z:List Value) off,a1_ ks ((Z.drop off).take ks.length)→(part t Z.toArray off).run P w=.ok (dR_ P t ((Z.drop off).take ks.length)) w) :
  ∀(fs:List Field) (off:Nat) (l:List Kd),iH_ rec P fs off=some l→a1_ l (X.drop off)→a1_ l (Y.drop off)→
   (Op.eqFields D X.toArray Y.toArray fs).run P w=.ok (decide (X.drop off=Y.drop off)) w
 | [],off,l,h,hx,hy=>by
  obtain rfl:=Option.some.inj h
  have e1:X.drop off = []:=by cases hX:X.drop off with|nil=>rfl|cons a b=>rw[hX] at hx;exact hx.elim
  have e2:Y.drop off = []:=by cases hY:Y.drop off with|nil=>rfl|cons a b=>rw[hY] at hy;exact hy.elim
  rw[e1,e2];rfl
 | f::r,off,l,h,hx,hy=>by
  simp only[iH_] at h
  split at h
  ·rename_i ks hn ho hr
   split at h
   ·rename_i l' hsz hl'
    obtain rfl:=Option.some.inj h
    have ho':f.offset=off:=Nat.eq_of_beq_eq_true ho
    have hsz':b8_ P f.type=ks.length:=Nat.eq_of_beq_eq_true hsz
    have hx2:=a1_.append hx
    have hy2:=a1_.append hy
    have hne:f.name≠"_":=by simpa using hn
    simp only[Op.eqFields]
    rw[if_pos hne]
    simp only[Sem.run_bind]
    rw[ho',hpart _ _ hr hsz' X off hx2.1]
    simp only[Result.andThen_ok]
    rw[hpart _ _ hr hsz' Y off hy2.1]
    simp only[Result.andThen_ok]
    rw[hrec _ _ hr _ _ hx2.1 hy2.1]
    simp only[Result.andThen_ok]
    have ex:X.drop off=(X.drop off).take ks.length++X.drop (off+ks.length):=by rw[←List.drop_drop,List.take_append_drop]
    have ey:Y.drop off=(Y.drop off).take ks.length++Y.drop (off+ks.length):=by rw[←List.drop_drop,List.take_append_drop]
    have lx:((X.drop off).take ks.length).length=ks.length:=(a1_.length hx2.1).symm
    have ly:((Y.drop off).take ks.length).length=ks.length:=(a1_.length hy2.1).symm
    by_cases hd:(X.drop off).take ks.length=(Y.drop off).take ks.length
    ·rw[decide_eq_true hd]
     simp only[Bool.not_true,Bool.false_eq_true,if_false]
     rw[lg_ w D rec X Y hrec hpart r _ _ hl' (by rw[←List.drop_drop];exact hx2.2) (by rw[←List.drop_drop];exact hy2.2)]
     congr 1
     rw[decide_eq_decide]
     constructor
     ·intro q;rw[ex,ey,hd,q]
     ·intro q;rw[←List.drop_drop,←List.drop_drop,q]
    ·rw[decide_eq_false hd]
     simp only[Bool.not_false,if_true,Sem.run_pure]
     congr 1
     symm
     rw[decide_eq_false_iff_not]
     intro q;exact hd (by rw[q])
   ·cases h
  ·cases h
theorem a1_.rep:∀{n:Nat} {ks:List Kd} {vs:List Value},a1_ (mC_ n ks) vs→∀i,i<n→a1_ ks ((vs.drop (i*ks.length)).take ks.length)
 | n+1,ks,vs,h,0,_=>by simpa using (a1_.append h).1
 | n+1,ks,vs,h,i+1,hi=>by
  have:=a1_.rep (a1_.append h).2 i o_
  rw[List.drop_drop] at this
  rw[show(i+1)*ks.length=ks.length+i*ks.length by rw[Nat.succ_mul,Nat.add_comm]]
  exact this
theorem hq_:∀(n:Nat) (ks:List Kd),(mC_ n ks).length=n*ks.length
 | 0,ks=>by simp[mC_]
 | n+1,ks=>by simp only[mC_,List.length_append,hq_ n ks,Nat.succ_mul];omega
theorem oj_ {t:TypeId} {fs:Array Field} (h:P.underlying t=some (.struct fs)):kd P t=.ag:=by simp[kd,h,bC_]
theorem pJ_ {t e:TypeId} {n:Nat} (h:P.underlying t=some (.array n e)):kd P t=.ag:=by simp[kd,h,bC_]
theorem mD_ {d:Nat} {t:TypeId} {ks:List Kd} (h:dQ_ P d t=some ks) (hsz:b8_ P t=ks.length) (Z:List Value) (off:Nat) (w:World) (hf:a1_ ks ((Z.drop off).take ks.length)) :
  (part t Z.toArray off).run P w=.ok (dR_ P t ((Z.drop off).take ks.length)) w:=by
 have hlen:=a1_.length hf
 cases d with
 | zero=>cases h
 | succ d=>
  simp only[dQ_] at h
  have scal:∀(de:TypeDesc) (k:Kd),P.underlying t=some de→bC_ de=k→k≠.ag→ks = [k]→(part t Z.toArray off).run P w=.ok (dR_ P t ((Z.drop off).take ks.length)) w:=by
   intro de k hu hk hne hks
   subst hks
   rw[gr_ hu,hk]
   have hkd:kd P t=k:=by simp[kd,hu,hk]
   have hlt:off<Z.length:=by
    rw[List.length_take,List.length_drop] at hlen
    simp at hlen;omega
   have e:(Z.drop off).take 1 = [Z[off]]:=by
    rw[List.drop_eq_getElem_cons hlt];rfl
   simp only[List.length_singleton,e,dR_,hkd]
   cases k<;>first|(exact absurd rfl hne)|simp[hlt]
  split at h
  ·rename_i hu;exact scal _ _ hu rfl (by simp[bC_]) (Option.some.inj h).symm
  ·rename_i k hu;exact scal _ _ hu rfl (by simp[bC_]) (Option.some.inj h).symm
  ·rename_i hu;exact scal _ _ hu rfl (by simp[bC_]) (Option.some.inj h).symm
  ·rename_i fs hu
   rw[gr_ hu]
   simp only[bC_,dR_,oj_ hu,hsz]
   congr 2
   rw[←Array.toList_inj]
   simp[List.extract_eq_take_drop]
  ·rename_i n e hu
   rw[gr_ hu]
   simp only[bC_,dR_,pJ_ hu,hsz]
   congr 2
   rw[←Array.toList_inj]
   simp[List.extract_eq_take_drop]
  ·cases h
theorem mE_ (w:World):∀(d:Nat) (t:TypeId) (ks:List Kd),dQ_ P d t=some ks→∀(D:Nat),d≤D→∀a b,a1_ ks a→a1_ ks b→
  (Op.equalIn D t (dR_ P t a) (dR_ P t b)).run P w=.ok (decide (a=b)) w
 | d+1,t,ks,h,D,hD,a,b,ha,hb=>by
  obtain⟨D,rfl⟩:∃m,D=m+1:=⟨D-1,o_⟩
  simp only[dQ_] at h
  split at h
  ·rename_i hu
   obtain rfl:=Option.some.inj h
   match a,b,ha,hb with
   | [x],[y],ha,hb=>
    cases x<;>first|(cases ha.1;done)|skip
    cases y<;>first|(cases hb.1;done)|skip
    rename_i p q
    have hk:kd P t=.b:=by simp[kd,hu,bC_]
    simp only[dR_,hk,List.headD_cons]
    rw[run_equalIn_bool' w D t p q hu]
    congr 1
    cases p<;>cases q<;>simp<;>(first|rfl|(intro q;cases q))
  ·rename_i k hu
   obtain rfl:=Option.some.inj h
   match a,b,ha,hb with
   | [x],[y],ha,hb=>
    cases x<;>first|(cases ha.1;done)|skip
    cases y<;>first|(cases hb.1;done)|skip
    rename_i k1 p k2 q
    have e1:=jO_ ha.1
    have e2:=jO_ hb.1
    subst e1;subst e2
    have hk:kd P t=.i k:=by simp[kd,hu,bC_]
    simp only[dR_,hk,List.headD_cons]
    rw[run_equalIn_int w D t k k p q hu]
    congr 1
    by_cases h:p=q<;>simp[h]
  ·rename_i hu
   obtain rfl:=Option.some.inj h
   match a,b,ha,hb with
   | [x],[y],ha,hb=>
    cases x<;>first|(cases ha.1;done)|skip
    cases y<;>first|(cases hb.1;done)|skip
    rename_i p q
    have hk:kd P t=.s:=by simp[kd,hu,bC_]
    simp only[dR_,hk,List.headD_cons]
    rw[run_equalIn_string w D t p q hu]
    congr 1
    have:=wb_ (s:=p) (t:=q)
    unfold sEq at this
    rw[this]
    by_cases h:p=q<;>simp[h]
  ·rename_i fs hu
   split at h
   ·rename_i hst
    have hfo:P.fieldsOf t=fs:=by simp[Program.fieldsOf,hu]
    simp only[dR_,oj_ hu]
    rw[run_equalIn_struct w D t _ _ (by rw[hfo];exact hu) hst,hfo]
    have:=lg_ (P:=P) w D (dQ_ P d) a b (fun t ks hr a b h1 h2=>mE_ w d t ks hr D o_ a b h1 h2)
     (fun t ks hr hsz Z off hf=>mD_ hr hsz Z off w hf) fs.toList 0 ks h (by simpa using ha) (by simpa using hb)
    simpa using this
   ·cases h
  ·rename_i n e hu
   split at h
   ·rename_i ks' hr
    split at h
    ·rename_i hsz
     obtain rfl:=Option.some.inj h
     have hsz':b8_ P e=ks'.length:=Nat.eq_of_beq_eq_true hsz
     simp only[dR_,pJ_ hu]
     have hla:a.length=n*ks'.length:=by rw[←a1_.length ha,hq_]
     have hlb:b.length=n*ks'.length:=by rw[←a1_.length hb,hq_]
     have hs:∀w,(sizeOf e).run P w=.ok ks'.length w:=by
      intro w
      cases hi:P.info? e with
      | some i=>rw[mz_ hi,hsz']
      | none=>
       exfalso
       cases d with
       | zero=>cases hr
       | succ d=>
        have:P.underlying e=none:=by simp[Program.underlying,hi]
        simp only[dQ_,this] at hr
        cases hr
     simp only[Op.equalIn,Sem.run_bind,run_underlying hu,Result.andThen_ok]
     rw[hs]
     simp only[Result.andThen_ok]
     rw[Std.Legacy.Range.forIn_eq_forIn_range']
     have hrec:=fun x y h1 h2=>mE_ w d e ks' hr D o_ x y h1 h2
     have loop:∀m k,k+m=n→((forIn (List.range' k m 1) ((none,()):Option Bool×Unit) fun i __s=>do
       let __do_lift ←part e a.toArray (i*ks'.length)
       let __do_lift_1 ←part e b.toArray (i*ks'.length)
       let __do_lift ←Op.equalIn D e __do_lift __do_lift_1
       if (!__do_lift)=true then pure (ForInStep.done (some false,())) else pure (ForInStep.yield (none,())):Sem (Option Bool×Unit)).run P w) =
       .ok (if a.drop (k*ks'.length)=b.drop (k*ks'.length) then(none,()) else(some false,())) w:=by
      intro m
      induction m with
      | zero=>
       intro k hk
       have e1:a.drop (k*ks'.length) = []:=List.drop_of_length_le (by rw[hla];exact Nat.mul_le_mul_right _ o_)
       have e2:b.drop (k*ks'.length) = []:=List.drop_of_length_le (by rw[hlb];exact Nat.mul_le_mul_right _ o_)
       rw[e1,e2,if_pos rfl]
       rfl
      | succ m ih=>
       intro k hk
       have fa:=a1_.rep ha k o_
       have fb:=a1_.rep hb k o_
       simp only[List.range'_succ,List.forIn_cons,Sem.run_bind]
       rw[mD_ hr hsz' a _ w fa]
       simp only[Result.andThen_ok]
       rw[mD_ hr hsz' b _ w fb]
       simp only[Result.andThen_ok]
       rw[hrec _ _ fa fb]
       simp only[Result.andThen_ok]
       have sp:∀z:List Value,z.drop (k*ks'.length)=(z.drop (k*ks'.length)).take ks'.length++z.drop ((k+1)*ks'.length):=fun z=>by
        rw[Nat.succ_mul,←List.drop_drop,List.take_append_drop]
       by_cases hd:(a.drop (k*ks'.length)).take ks'.length=(b.drop (k*ks'.length)).take ks'.length
       ·rw[decide_eq_true hd]
        simp only[Bool.not_true,Bool.false_eq_true,if_false,Sem.run_pure,Result.andThen_ok]
        rw[ih (k+1) o_]
        congr 1
        by_cases h2:a.drop ((k+1)*ks'.length)=b.drop ((k+1)*ks'.length)
        ·rw[if_pos h2,if_pos (by rw[sp a,sp b,hd,h2])]
        ·rw[if_neg h2,if_neg (fun q=>h2 (by rw[Nat.succ_mul,←List.drop_drop,←List.drop_drop,q]))]
       ·rw[decide_eq_false hd]
        simp only[Bool.not_false,if_true,Sem.run_pure,Result.andThen_ok]
        rw[if_neg (fun q=>hd (by rw[q]))]
     have l0:=loop n 0 o_
     have hsize:[:n].size=n:=by simp[Std.Legacy.Range.size]
     rw[hsize]
     show((Sem.run P (forIn (List.range' 0 n 1) _ _) w).andThen _)=_
     rw[l0]
     simp only[Nat.zero_mul,List.drop_zero,Result.andThen_ok]
     by_cases hab:a=b
     ·rw[if_pos hab,decide_eq_true hab];rfl
     ·rw[if_neg hab,decide_eq_false hab];rfl
    ·cases h
   ·cases h
  ·cases h
theorem tn_ {t:TypeId} {ks:List Kd} {op:BinOp} {x y:Operand} {w:World} {a b:List Value} (h:dQ_ P 8 t=some ks) (hk:kd P t=.ag) (hm:P.eqGuardType P.depth t=false) (ha:a1_ ks a) (hb:a1_ ks b) :
  (op=.eql→(do eqGuard op t x y (.agg a.toArray) (.agg b.toArray);binOp op t (.agg a.toArray) (.agg b.toArray):Sem Value).run P w=.ok (.bool (decide (a=b))) w)∧
  (op=.neq→(do eqGuard op t x y (.agg a.toArray) (.agg b.toArray);binOp op t (.agg a.toArray) (.agg b.toArray):Sem Value).run P w=.ok (.bool (!decide (a=b))) w):=by
 have e:=mE_ (P:=P) w 8 t ks h 10000 o_ a b ha hb
 simp only[dR_,hk] at e
 constructor
 ·rintro rfl
  rw[Sem.run_bind,run_eqGuard_agg w _ _ _ _ _ _ hm]
  simp only[Result.andThen_ok]
  rw[run_eql_struct,e];rfl
 ·rintro rfl
  rw[Sem.run_bind,run_eqGuard_agg w _ _ _ _ _ _ hm]
  simp only[Result.andThen_ok]
  rw[run_neq_struct,e];rfl
end
theorem uD_ {P:Program} {t:TypeId} {ks:List Kd} {x y:Operand} {a b:List Value} (h:dQ_ P 8 t=some ks) (hk:kd P t=.ag) (hm:P.eqGuardType P.depth t=false) (ha:a1_ ks a) (hb:a1_ ks b) :
  ∃r:Bool,(r=true↔a=b)∧∀w,(do eqGuard .eql t x y (.agg a.toArray) (.agg b.toArray);binOp .eql t (.agg a.toArray) (.agg b.toArray):Sem Value).run P w=.ok (.bool r) w:=
 ⟨decide (a=b),by simp,fun _=>(tn_ (op:=.eql) h hk hm ha hb).1 rfl⟩
theorem pK_ {P:Program} {t:TypeId} {ks:List Kd} {x y:Operand} {a b:List Value} (h:dQ_ P 8 t=some ks) (hk:kd P t=.ag) (hm:P.eqGuardType P.depth t=false) (ha:a1_ ks a) (hb:a1_ ks b) :
  ∃r:Bool,(r=true↔a≠b)∧∀w,(do eqGuard .neq t x y (.agg a.toArray) (.agg b.toArray);binOp .neq t (.agg a.toArray) (.agg b.toArray):Sem Value).run P w=.ok (.bool r) w:=
 ⟨!decide (a=b),by simp,fun _=>(tn_ (op:=.neq) h hk hm ha hb).2 rfl⟩
open Go Go.RowKit
set_option maxRecDepth 100000
section
variable {P:Program} {w:World} {t e:TypeId} {pb:Nat} {pcs:A_} {pt:TypeId} {u:World} {o:Sl} {os:L8} {lits:List (Sl×UInt8)}
end
end Go.Proofs.YtpmebahhjgkflaaGreatDoor.CF
