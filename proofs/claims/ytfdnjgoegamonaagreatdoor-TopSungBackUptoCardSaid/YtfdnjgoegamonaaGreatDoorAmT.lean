/- The logic AM, T: typed values and states; what an operation gives, and what it asks to know. -/
import Derived.Test.YtfdnjgoegamonaaGreatDoorAmW
set_option linter.all false
namespace Go.Am
open Go.RowKit
inductive TV (S:Nat->Type) where
 |a (x:AV)
 |i (k:IntKind) (n:Int)
 |b (x:Bool)
 |z (x:ByteArray)
 |v (c:Nat) (x:S c)
 |l (full:Bool) (c:Nat) (x:List (S c))
 |s (full:Bool) (cs:List (TV S))
 |agg (cs:List (TV S))
 |eC (cs:List (TV S))
 |ip (cs:List (TV S))
 |fn (f:FuncId) (cs:List (TV S))
 |pt (id b9 len:Nat)
section
variable {S:Nat->Type} (E:(c:Nat)->S c->AV)
mutual
def TV.er:TV S->AV
 |.a x=>x
 |.i k n=>.int k n
 |.b x=>.bool x
 |.z x=>.str x
 |.v c x=>E c x
 |.l f c x=>.sl f (x.map (E c))
 |.s f cs=>.sl f (eB cs)
 |.agg cs=>.agg (eB cs)
 |.eC cs=>.eC (eB cs)
 |.ip cs=>.ip (eB cs)
 |.fn f cs=>.fn f (eB cs)
 |.pt id st n=>.ms id st n
def eB:List (TV S)->List AV
 | []=>[]
 |x::r=>x.er::eB r
end
theorem eV: ∀l:List (TV S),eB E l=l.map (TV.er E)
 | []=>rfl
 |x::r=>by simp[eB,eV r]
def TV.P6:TV S->Bool
 |.v _ _=>true
 |_=>false
end
abbrev TV.n{S:Nat->Type}(n:Int):TV S:=.i .i64 n
structure yT where
 n:Nat
 ps:List Tmp
 as:Code
 body:Code
inductive TB (S:Nat->Type) where
 |cW (cN:Nat) (l:List (TV S))
 |ls (cN c:Nat) (x:List (S c)) (n:Nat) (h:n=x.length)
 |raw (b:gU)
 |rows (cN c:Nat) (x:List (S c)) (v:List (TV S)) (n:Nat)
 |lp (c:Nat) (bX:List (Nat×TV S)) (st:Nat) (pd:Option (Option Nat))
 |fm (cN c w:Nat) (cl:Bool) (pre:List (S c)) (lh:List (TV S)) (post:List (S c))
 |fr (c:Nat) (cl:Bool) (pre:List (S c)) (n:Nat) (post:List (S c))
inductive ZB (S:Nat->Type) where
 |o (cN:Nat) (l:List (TV S))
 |l (cN c:Nat) (x:List (S c))
def Gk{S:Nat->Type}(E:(c:Nat)->S c->AV):ZB S->Nat×List AV
 |.o n l=>(n,eB E l)
 |.l n c x=>(n,x.map (E c))
def MC(p:Nat×List AV):gU:=.cells p.1 p.2
def G9(r:Nat):Nat->List (Nat×gU)->List (Nat×gU)
 |0,h=>h
 |k+1,h=>G9 r k (eN h (r+k))
structure BD {S:Nat->Type} (E:(c:Nat)->S c->AV) (W K:Nat->Nat) (Y:(c:Nat)->Nat->S c->TV S) (Z:(c:Nat)->Nat->S c->List (ZB S)) (c:Nat):Prop where
 hk:K c<=4
 hz: ∀(r:Nat)(y:S c),(Z c r y).length=K c
 hw: ∀(r:Nat)(y:S c),((Y c r y).er E).cells.length=W c
 hs:0<K c-> ∀(y:S c)x,x∈(E c y).cells->x.dn=true
 hf: ∀(r:Nat)(y:S c)(s:St)(G:cx)(w:World),eQ G s w->(∀(j:Nat)(z:ZB S),(Z c r y)[j]? =some z->bJ s.heap (r+j)=some (MC (Gk E z)))->
  ∃G',eQ G' ⟨G9 r (K c) s.heap,s.cr⟩ w/\Ext G s w G' ⟨G9 r (K c) s.heap,s.cr⟩ w/\ ∀(j:Nat)x x' v,((Y c r y).er E).cells[j]? =some x->(E c y).cells[j]? =some x'->V G x v->V G' x' v
 hi:0<K c-> ∀x y:S c,E c x=E c y->x=y
 hr: ∀(ok:Nat->Bool)(π:Nat->Nat)(r r':Nat)(y:S c),(∀j,j<K c->ok (r+j)=true/\π (r+j)=r'+j)->Co ok π ((Y c r y).er E) ((Y c r' y).er E)/\
  ∀(j:Nat)(b b':ZB S),(Z c r y)[j]? =some b->(Z c r' y)[j]? =some b'->A0 ok π (MC (Gk E b)) (MC (Gk E b'))
structure jg where
 S:Nat->Type
 E:(c:Nat)->S c->AV
 X:(c:Nat)->S c->TV S
 D:(c:Nat)->TV S->Option (S c)
 T:TypeId->Option Nat
 hX: ∀c x,(X c x).er E=E c x
 hv: ∀c x,(X c x).P6=false
 hc: ∀c x,(E c x).dI=true
 W:Nat->Nat
 hw: ∀c x,(E c x).cells.length=W c
 C:Nat->yT
 K:Nat->Nat
 Y:(c:Nat)->Nat->S c->TV S
 Z:(c:Nat)->Nat->S c->List (ZB S)
 hF: ∀c,BD E W K Y Z c
abbrev TB.lz{S:Nat->Type}(cN c:Nat)(x:List (S c)):TB S:=.ls cN c x x.length rfl
structure dZ (S:Nat->Type) where
 heap:List (Nat×TB S)
 cr:Nat
abbrev dU(S:Nat->Type):=List (Nat×TV S)
inductive TR (S:Nat->Type) where
 |no
 |ok (v:TV S) (s:dZ S)
 |eq (x y:AV) (k:TR S)
 |el (c:Nat) (l:List (S c)) (i:Nat) (k:S c->TR S)
 |ix (c:Nat) (l:List (S c)) (i:Int) (k:S c->TR S)
 |cB (p:Prop) (k:TR S)
 |sp (b:Bool) (k:Bool->TR S)
def TR.wp{S:Nat->Type}:TR S->(TV S->dZ S->Prop)->Prop
 |.no,_=>False
 |.ok v s,K=>K v s
 |.eq x y k,K=>x=y/\k.wp K
 |.el _ l i k,K=> ∃y,l[i]? =some y/\(k y).wp K
 |.ix _ l i k,K=> ∃y,Go.Am.ix l i=some y/\(k y).wp K
 |.cB p k,K=>p/\k.wp K
 |.sp b k,K=>(k b).wp K
section
variable (B:jg)
def eY:dU B.S->Env
 | []=>[]
 |(t,x)::r=>(t,x.er B.E)::eY r
def CL:Nat->LoopState
 |0=>.ready
 |1=>.busy
 |_=>.done
def Ha:Option (Option Nat)->Option Code
 |none=>none
 |some none=>some .ret
 |some (some i)=>some (.exit i)
def cU:Nat:=4096
def sH:Nat:=20000
def iE(c w:Nat):Nat->List (B.S c)->List AV
 |_,[]=>[]
 |i,y::r=>bif Nat.blt i cU then(B.Y c (w+1+B.K c*i) y).er B.E::iE c w (i+1) r else []
def fS:TB B.S->gU
 |.cW n l=>.cells n (eB B.E l)
 |.ls n c x _ _=>.cells n (x.map (B.E c))
 |.raw b=>b
 |.rows n c x v m=>.cells n (x.map (B.E c)++(eB B.E v++List.replicate m (.sl true [])))
 |.lp c bX st pd=>.loop ⟨eY B bX,(B.C c).n,(B.C c).ps,(B.C c).as,(B.C c).body,CL st,Ha pd⟩
 |.fm n c w cl pre lh post=>.cells n ((bif cl then pre.map (B.E c)else iE B c w 0 pre)++(eB B.E lh++iE B c w (pre.length+lh.length) post))
 |.fr _ _ _ _ _=>.cells 1 []
def kP:List (Nat×TB B.S)->List (Nat×gU)
 | []=>[]
 |(i,b)::r=>(i,fS B b)::kP r
def j0:Nat->List (ZB B.S)->List (Nat×gU)
 |_,[]=>[]
 |i,b::r=>(i,MC (Gk B.E b))::j0 (i+1) r
def gy(c w:Nat):Nat->List (B.S c)->List (Nat×gU)
 |_,[]=>[]
 |i,y::r=>bif Nat.blt i cU then j0 B (w+1+B.K c*i) (B.Z c (w+1+B.K c*i) y)++gy c w (i+1) r else []
def eX(w:Nat):TB B.S->List (Nat×gU)
 |.fr c cl pre n post=>(bif cl then []else gy B c w 0 pre)++gy B c w (pre.length+n) post
 |_=>[]
def mN:List (Nat×TB B.S)->List (Nat×gU)
 | []=>[]
 |(i,b)::r=>eX B i b++mN r
def dA(s:dZ B.S):St:=⟨kP B s.heap++mN B s.heap,s.cr⟩
def gm{S:Nat->Type}:TB S->Bool
 |.fr _ _ _ _ _=>true
 |_=>false
def gb(w id:Nat):Bool:=Nat.ble id w||Nat.ble (w+sH) id
def iJ{S:Nat->Type}:List (Nat×TB S)->Nat->Bool
 | [],_=>true
 |(w,.fr _ _ _ _ _)::r,id=>gb w id&&!(Nat.beq w id)&&iJ r id
 |_::r,id=>iJ r id
def TV.norm:TV B.S->TV B.S
 |.v c x=>B.X c x
 |x=>x
def CM{S:Nat->Type}:TV S->List (TV S)
 |.agg cs=>cs
 |.a x=>x.cells.map .a
 |x=>[x]
def eh(x:TV B.S):List (TV B.S):=CM (x.norm B)
def od(P:Program)(t:TypeId)(cs:List (TV B.S)):Option (TV B.S):=match LF P t with
 |some true=>match dF P t with
  |some n=>bif Nat.ble n cs.length then some (.agg (cs.take n))else none
  |none=>none
 |some false=>match cs with
  |x::_=>some x
  | []=>none
 |none=>none
def sO{S:Nat->Type}(o:Option (TV S))(s:dZ S):TR S:=match o with
 |some v=>.ok v s
 |none=>.no
def qg{S:Nat->Type}:TV S->Bool
 |.a x=>x.dn
 |.agg _=>false
 |.eC _=>false
 |.v _ _=>false
 |_=>true
def CN{S:Nat->Type}:TV S->Bool
 |.agg _=>true
 |.a x=>x.isAgg
 |_=>false
def rM(e:TV B.S)(cs:List (TV B.S)):TV B.S:=bif CN (e.norm B)then .agg cs else match cs with
 |x::_=>x
 | []=>.a .any
def pO{S:Nat->Type}(cs:List (TV S))(off:Nat)(new:List (TV S)):List (TV S):=cs.take off++(new++cs.drop (off+new.length))
def IH(P:Program)(t:TypeId)(p:TV B.S)(s:dZ B.S):TR B.S:=match p.norm B with
 |.ip cs=>sO (od B P t cs) s
 |.a p=>match p with
  |.ip cs=>sO (od B P t (cs.map .a)) s
  |.mp id el off=>match bJ s.heap id with
   |some (.cW _ l)=>match l[el]? with
    |some e=>sO (od B P t ((eh B e).drop off)) s
    |none=>.no
   |some (.ls _ c x _ _)=>.el c x el λy=>sO (od B P t ((eh B (.v c y)).drop off)) s
   |some (.rows _ c x v _)=>(match v with
    | [w]=>.cB (el=x.length)<|sO (od B P t ((eh B w).drop off)) s
    |_=>.no)
   |some (.fm _ c _ _ pre lh _)=>(match lh with
    | [w]=>.cB (el=pre.length/\el<=cU)<|sO (od B P t ((eh B w).drop off)) s
    |_=>.no)
   |_=>.no
  |_=>.no
 |_=>.no
def Hb(c:Nat)(x:TV B.S)(k:B.S c->TR B.S):TR B.S:=match B.D c x with
 |some y=>.eq (B.E c y) (x.er B.E) (k y)
 |none=>.no
def Hc(P:Program)(t:TypeId)(p v:TV B.S)(s:dZ B.S):TR B.S:=match p.norm B with
 |.a (.mp id el off)=>match bJ s.heap id with
  |some (.cW cN l)=>match l[el]? with
   |some e=>bif jA (dF P t) (eh B v).length&&Nat.ble (off+(eh B v).length) (eh B e).length&&(eh B v).all qg then
    .ok (.a .any) ⟨eF s.heap id (.cW cN (l.set el (rM B e (pO (eh B e) off (eh B v))))),s.cr⟩else .no
   |none=>.no
  |some (.ls cN c x m hm)=>.el c x el λy=>bif jA (dF P t) (eh B v).length&&Nat.ble (off+(eh B v).length) (eh B (.v c y)).length&&(eh B v).all qg then
    Hb B c (rM B (.v c y) (pO (eh B (.v c y)) off (eh B v))) λy'=>.ok (.a .any) ⟨eF s.heap id (.ls cN c (x.set el y') m (hm.trans List.length_set.symm)),s.cr⟩else .no
  |some (.rows cN c x w m)=>(match w with
   | [e]=>.cB (el=x.length)<|bif jA (dF P t) (eh B v).length&&Nat.ble (off+(eh B v).length) (eh B e).length&&(eh B v).all qg then
    .ok (.a .any) ⟨eF s.heap id (.rows cN c x [rM B e (pO (eh B e) off (eh B v))] m),s.cr⟩else .no
   |_=>.no)
  |some (.fm cN c w cl pre lh post)=>(match lh with
   | [e]=>.cB (el=pre.length/\el<=cU)<|bif jA (dF P t) (eh B v).length&&Nat.ble (off+(eh B v).length) (eh B e).length&&(eh B v).all qg then
    .ok (.a .any) ⟨eF s.heap id (.fm cN c w cl pre [rM B e (pO (eh B e) off (eh B v))] post),s.cr⟩else .no
   |_=>.no)
  |_=>.no
 |_=>.no
def P7(v:TV B.S)(s:dZ B.S):TR B.S:=
 bif Nat.blt 0 (eh B v).length&&(eh B v).all qg then .ok (.a (.mp s.cr 0 0)) ⟨(s.cr,.cW (eh B v).length [v])::s.heap,s.cr+1⟩else .no
def CO(P:Program)(t:TypeId)(p:TV B.S)(i:Nat):Option (TV B.S):=match nV P t i with
 |some (off,n)=>bif Nat.beq n 0 then none else match p.norm B with
  |.a (.mp id el o)=>some (.a (.mp id el (o+off)))
  |.a (.ip cs)=>some (.a (.ip (cs.drop off)))
  |.ip cs=>some (.ip (cs.drop off))
  |_=>none
 |none=>none
def xL(P:Program)(t:TypeId)(x:TV B.S)(i:Nat):Option (TV B.S):=match nV P t i with
 |some (off,_)=>match Ck P t i with
  |some ft=>bif CN (x.norm B)then od B P ft ((eh B x).drop off)else none
  |none=>none
 |none=>none
def II(x:TV B.S):Option (Bool×IntKind×Int):=match x.norm B with
 |.i k n=>some (false,k,n)
 |.a (.int k n)=>some (true,k,n)
 |_=>none
def Lq(x:TV B.S):Option (Bool×Bool):=match x.norm B with
 |.b t=>some (false,t)
 |.a (.bool t)=>some (true,t)
 |_=>none
def MD{S:Nat->Type}(st:Bool)(k:IntKind)(n:Int):TV S:=bif st then .a (.int k n)else .i k n
def P8{S:Nat->Type}(st:Bool)(t:Bool):TV S:=bif st then .a (.bool t)else .b t
def W1:Int->Bool
 |.ofNat _=>false
 |.negSucc _=>true
def lC{S:Nat->Type}(st:Bool)(n:Int)(k:TR S):TR S:=bif st then(bif W1 n then .no else k)else .cB (0<=n) k
def nn(c:Nat):List (TV B.S)->(List (B.S c)->TR B.S)->TR B.S
 | [],k=>k []
 |x::r,k=>Hb B c x λy=>nn c r λys=>k (y::ys)
def DU{S:Nat->Type}(m n:Nat)(k:TR S):TR S:=.eq (.mp m 0 0) (.mp n 0 0) k
def IJ(P:Program)(e c:Nat)(x:List (B.S c))(n:Int)(s:dZ B.S):TR B.S:=
 bif jA (dF P e) (B.W c)then .ix c x n λy=>.ok (.ip (eh B (.v c y))) s else .no
def ME(P:Program)(t:TypeId)(z:AV)(s:dZ B.S):TR B.S:=match vv P t with
 |some (m,e)=>match dF P e with
  |some n=>match B.T e with
   |some c=>bif Nat.blt 0 m&&(Nat.blt 0 n&&(Nat.beq z.cells.length (m*n)&&z.cells.all AV.dn))then nn B c ((chunk n m z.cells).map .a) λys=>.ok (.a (.mp s.cr 0 0)) ⟨(s.cr,.lz n c ys)::s.heap,s.cr+1⟩else .no
   |none=>.no
  |none=>.no
 |none=>.no
def MF(P:Program)(t:TypeId)(x i:TV B.S)(s:dZ B.S):TR B.S:=match II B i with
 |some (st,_,n)=>match eH P t with
  |some e=>match x.norm B with
   |.l _ c xs=>IJ B P e c xs n s
   |.s _ cs=>bif st then(match n with
     |.ofNat m=>match cs[m]? with
      |some y=>bif jA (dF P e) (eh B y).length then .ok (.ip (eh B y)) s else .no
      |none=>.no
     |_=>.no)
    else match B.T e with
     |some c=>nn B c cs λxs=>IJ B P e c xs n s
     |none=>.no
   |.a (.ms id b9 len)=>match bJ s.heap id with
    |some (.ls cN c xs m _)=>bif Nat.beq b9 0&&jA (dF P e) cN then DU len m (.ix c xs n λ_=>.ok (.a (.mp id n.toNat 0)) s)else .no
    |some (.cW cN _)=>bif st&&jA (dF P e) cN then(match n with
      |.ofNat m=>bif Nat.blt m len then .ok (.a (.mp id (b9+m) 0)) s else .no
      |_=>.no)
     else .no
    |some (.rows cN _ _ _ _)=>bif Nat.beq b9 0&&jA (dF P e) cN then .cB (0<=n/\n<(len:Int))<|.ok (.a (.mp id n.toNat 0)) s else .no
    |some (.fm cN _ _ _ _ _ _)=>bif Nat.beq b9 0&&jA (dF P e) cN then .cB (0<=n/\n<(len:Int))<|.ok (.a (.mp id n.toNat 0)) s else .no
    |_=>.no
   |_=>.no
  |none=>match vv P t with
   |some (m,e)=>match dF P e with
    |some sz=>bif Nat.blt 8 (m*sz)then(match x.norm B with
     |.a (.mp id el off)=>(match bJ s.heap id with
      |some (.ls cN c xs _ _)=>bif Nat.beq el 0&&(Nat.beq off 0&&Nat.beq cN sz)then .cB (n<(m:Int))<|.ix c xs n λ_=>.ok (.a (.mp id n.toNat 0)) s else .no
      |_=>.no)
     |_=>.no)else bif st then(match n with
      |.ofNat j=>bif Nat.blt j m then(match x.norm B with
       |.a (.mp id el off)=>.ok (.a (.mp id el (off+j*sz))) s
       |.a (.ip cs)=>.ok (.a (.ip (cs.drop (j*sz)))) s
       |.ip cs=>.ok (.ip (cs.drop (j*sz))) s
       |_=>.no)else .no
      |_=>.no)else .no
    |none=>.no
   |none=>.no
 |none=>.no
def tU(b:ByteArray)(n:Int):Int:=((b[n.toNat]?).map λc=>(c.toNat:Int)).getD 0
def Hd(P:Program)(t:TypeId)(x i:TV B.S)(s:dZ B.S):TR B.S:=match II B i with
 |some (st,_,n)=>match x.norm B with
  |.z b=>bif xc P t then .cB (0<=n/\n<(b.size:Int))<|.ok (.i .u8 (tU b n)) s else .no
  |.a (.str b)=>bif xc P t then .cB (0<=n/\n<(b.size:Int))<|.ok (.i .u8 (tU b n)) s else .no
  |_=>bif st&&CN (x.norm B)then(match vv P t with
   |some (m,e)=>match dF P e with
    |some sz=>match n with
     |.ofNat j=>bif Nat.blt j m then sO (od B P e ((eh B x).drop (j*sz))) s else .no
     |_=>.no
    |none=>.no
   |none=>.no)else .no
 |none=>.no
def Tn(P:Program)(t:TypeId)(x:TV B.S)(s:dZ B.S):TR B.S:=match x.norm B with
 |.l _ _ xs=>bif (eH P t).isSome then .ok (.i .i64 xs.length) s else .no
 |.s _ cs=>bif (eH P t).isSome then .ok (.a (.int .i64 cs.length)) s else .no
 |.pt _ _ n=>bif (eH P t).isSome then .ok (.i .i64 n) s else .no
 |.a (.ms _ _ n)=>bif (eH P t).isSome then .ok (.i .i64 n) s else .no
 |.z b=>bif xc P t then .ok (.i .i64 b.size) s else .no
 |.a x=>match AP P t x with
  |some v=>.ok (.a v) s
  |none=>.no
 |_=>.no
def fG{S:Nat->Type}(bX:dU S):Operand->Option (TV S)
 |.tmp t=>bJ bX t
 |.const v=>match ofValue v with
  |some x=>some (.a x)
  |none=>none
 |.func f=>some (.fn f [])
 |.global _=>none
def pP{S:Nat->Type}(bX:dU S):List Operand->Option (List (TV S))
 | []=>some []
 |x::r=>match fG bX x with
  |some v=>match pP bX r with
   |some l=>some (v::l)
   |none=>none
  |none=>none
def qO(bX:dU B.S)(x:Option Operand)(d:Nat)(k:Nat->TR B.S):TR B.S:=match x with
 |none=>k d
 |some o=>match fG bX o with
  |some v=>match II B v with
   |some (st,_,n)=>lC st n (k n.toNat)
   |none=>.no
  |none=>.no
def kY{S:Nat->Type}(b:Bool)(p:Prop)(k:TR S):TR S:=bif b then k else .cB p k
def He(bX:dU B.S)(x:Option Operand):Bool:=match x with
 |none=>true
 |some o=>match fG bX o with
  |some (.a (.int _ (.ofNat 0)))=>true
  |_=>false
def xM(P:Program)(e:TypeId)(w:Bool)(id b9 len:Nat)(bX:dU B.S)(lo hi:Option Operand)(s:dZ B.S):TR B.S:=
 bif (match bJ s.heap id with
  |some (.ls cN _ _ _ _)=>jA (dF P e) cN
  |some (.cW cN _)=>jA (dF P e) cN
  |_=>false)then
  qO B bX lo 0 λl=>qO B bX hi len λh=>kY (He B bX lo) (l<=h)<|kY hi.isNone (h<=len)<|.ok (.pt id (bif w then l else b9+l) (bif He B bX lo then h else h-l)) s
 else .no
def Hf(P:Program)(t:TypeId)(x:TV B.S)(bX:dU B.S)(lo hi mx:Option Operand)(s:dZ B.S):TR B.S:=match mx with
 |some _=>.no
 |none=>match eH P t with
  |some e=>match x.norm B with
   |.l f c xs=>bif jA (dF P e) (B.W c)then qO B bX lo 0 λl=>qO B bX hi xs.length λh=>
    kY (He B bX lo) (l<=h)<|kY hi.isNone (h<=xs.length)<|.ok (.l (bif f then Nat.beq h xs.length else false) c ((xs.take h).drop l)) s else .no
   |.a (.ms id b9 len)=>xM B P e (Nat.beq b9 0) id b9 len bX lo hi s
   |.pt id b9 len=>xM B P e false id b9 len bX lo hi s
   |_=>.no
  |none=>match x.norm B with
   |.z b=>bif xc P t then qO B bX lo 0 λl=>qO B bX hi b.size λh=>.cB (l<=h/\h<=b.size)<|.ok (.z (b.extract l h)) s else .no
   |_=>.no
def yU(P:Program)(e:TypeId):Option Nat:=match dF P e,pD P e with
 |some sz,some Gx=>bif Nat.blt 0 sz&&Nat.ble Gx 4096&&vw P e sz then some sz else none
 |_,_=>none
def oT{S:Nat->Type}(n:Nat)(b:TB S)(h:List (Nat×TB S))(c:Nat):TR S:=.ok (.a (.ms c 0 n)) ⟨(c,b)::h,c+1⟩
def MG(P:Program)(e sz:Nat)(x:TV B.S)(cs:List (TV B.S))(s:dZ B.S):TR B.S:=match x.norm B with
 |.a (.sl true [])=>bif Nat.ble cs.length bQ then(match B.T e with
   |some c=>nn B c cs λys=>oT cs.length (.lz sz c ys) s.heap s.cr
   |none=>oT cs.length (.cW sz cs) s.heap s.cr)else .no
 |.l true c xs=>bif jA (dF P e) (B.W c)then nn B c cs λys=>.cB (xs.length+cs.length<=bQ)<|oT (xs++ys).length (.lz sz c (xs++ys)) s.heap s.cr else .no
 |.a (.ms id b9 n)=>match bJ s.heap id with
  |some (.ls cN c xs m _)=>bif Nat.beq cN sz&&Nat.beq b9 0&&iJ s.heap id then nn B c cs λys=>DU n m<|.cB (xs.length+cs.length<=bQ)<|oT (xs++ys).length (.lz sz c (xs++ys)) (eN s.heap id) s.cr else .no
  |some (.cW cN l)=>bif Nat.beq cN sz&&Nat.beq b9 0&&Nat.ble (l.length+cs.length) bQ&&iJ s.heap id then DU n l.length<|oT (l.length+cs.length) (.cW sz (l++cs)) (eN s.heap id) s.cr else .no
  |some (.fm cN c w cl pre lh post)=>(match lh with
   | []=>(match post with
    | []=>bif Nat.beq cN sz&&Nat.beq b9 0&&iJ s.heap id&&Nat.ble cs.length cU then DU n pre.length<|.cB (pre.length<cU)<|oT (pre.length+cs.length) (.fm sz c w cl pre cs []) (eN s.heap id) s.cr else .no
    |_=>.no)
   |_=>.no)
  |_=>.no
 |.pt id b9 n=>match bJ s.heap id with
  |some (.ls cN c xs _ _)=>bif Nat.beq cN sz&&iJ s.heap id then nn B c cs λys=>.cB (b9+n<=xs.length)<|.cB (n+cs.length<=bQ)<|oT (((xs.drop b9).take n)++ys).length (.lz sz c (((xs.drop b9).take n)++ys)) (eN s.heap id) s.cr else .no
  |_=>.no
 |_=>.no
def BE{S:Nat->Type}(c d:Nat)(x:List (S c)):Option (List (S d)):=if h:c=d then some (h ▸ x)else none
def IK(x:TV B.S)(s:dZ B.S):TR B.S:=match x.norm B with
 |.a (.sl _ _)=>.ok x s
 |.a (.ms _ _ _)=>.ok x s
 |.l _ _ _=>.ok x s
 |.s _ _=>.ok x s
 |.pt _ _ _=>.ok x s
 |_=>.no
def MH(P:Program)(e sz:Nat)(x:TV B.S)(c:Nat)(ys:List (B.S c))(s:dZ B.S):TR B.S:=.sp ys.isEmpty λem=>bif em then IK B x s else match x.norm B with
 |.a (.sl true [])=>.cB (ys.length<=bQ)<|oT ys.length (.lz sz c ys) s.heap s.cr
 |.l true d xs=>bif jA (dF P e) (B.W d)then(match BE c d ys with
   |some ys=>.cB (xs.length+ys.length<=bQ)<|oT (xs++ys).length (.lz sz d (xs++ys)) s.heap s.cr
   |none=>.no)else .no
 |.a (.ms id b9 n)=>match bJ s.heap id with
  |some (.ls cN d xs m _)=>bif Nat.beq cN sz&&Nat.beq b9 0&&iJ s.heap id then(match BE c d ys with
    |some ys=>DU n m<|.cB (xs.length+ys.length<=bQ)<|oT (xs++ys).length (.lz sz d (xs++ys)) (eN s.heap id) s.cr
    |none=>.no)else .no
  |_=>.no
 |.pt id b9 n=>match bJ s.heap id with
  |some (.ls cN d xs _ _)=>bif Nat.beq cN sz&&iJ s.heap id then(match BE c d ys with
    |some ys=>.cB (b9+n<=xs.length)<|.cB (n+ys.length<=bQ)<|oT (((xs.drop b9).take n)++ys).length (.lz sz d (((xs.drop b9).take n)++ys)) (eN s.heap id) s.cr
    |none=>.no)else .no
  |_=>.no
 |_=>.no
def CP(P:Program)(e:TypeId)(y:TV B.S)(s:dZ B.S)(k1:List (TV B.S)->TR B.S)(k2:(c:Nat)->List (B.S c)->TR B.S):TR B.S:=match y.norm B with
 |.s _ cs=>bif (match cs with| []=>true|x::_=>jA (dF P e) (eh B x).length)then k1 cs else .no
 |.a (.sl _ [])=>k1 []
 |.l _ c ys=>bif jA (dF P e) (B.W c)then k2 c ys else .no
 |.a (.ms id b9 n)=>match bJ s.heap id with
  |some (.ls cN c xs m _)=>bif jA (dF P e) cN&&Nat.beq b9 0 then DU n m (k2 c xs)else .no
  |some (.cW cN l)=>bif jA (dF P e) cN&&Nat.beq b9 0 then DU n l.length (k1 l)else .no
  |_=>.no
 |.pt id b9 n=>match bJ s.heap id with
  |some (.ls cN c xs _ _)=>bif jA (dF P e) cN then .cB (b9+n<=xs.length) (k2 c ((xs.drop b9).take n))else .no
  |_=>.no
 |_=>.no
def CQ(P:Program)(t u:TypeId)(x y:TV B.S)(s:dZ B.S):TR B.S:=match eH P t with
 |some e=>match yU P e with
  |some sz=>bif (eH P u).isSome then CP B P e y s (λcs=>match cs with
   | []=>IK B x s
   |cs=>MG B P e sz x cs s) (λc ys=>MH B P e sz x c ys s)else .no
  |none=>.no
 |none=>.no
def cpL{α:Type}(xs:List α)(a n:Nat)(ys:List α):List α:=xs.take a++(ys.take (min ys.length n)++xs.drop (a+min ys.length n))
def MI(P:Program)(t:TypeId)(x y:TV B.S)(s:dZ B.S):TR B.S:=match eH P t with
 |some e=>CP B P e y s (λ_=>.no) λc ys=>match x.norm B with
  |.pt id b9 n=>match bJ s.heap id with
   |some (.ls cN d xs _ _)=>bif jA (dF P e) cN then(match BE c d ys with
    |some ys=>.cB (b9+n<=xs.length)<|.ok (.i .i64 (min ys.length n:Nat)) ⟨eF s.heap id (.lz cN d (cpL xs b9 n ys)),s.cr⟩
    |none=>.no)else .no
   |_=>.no
  |_=>.no
 |none=>.no
def MJ:Operand->Operand->Bool
 |.tmp a,.tmp b=>Nat.beq a b
 |_,_=>false
def P9:AV->Bool
 |.sl true []=>true
 |_=>false
def MK(P:Program)(t:TypeId)(lo co:Operand)(bX:dU B.S)(s:dZ B.S):TR B.S:=match fG bX lo,fG bX co,eH P t with
 |some l,some c,some e=>match II B l,II B c with
  |some (sn,_,n),some (sm,_,m)=>match yU P e,jK P e with
   |some sz,some z=>bif Nat.beq z.cells.length sz&&z.cells.all AV.dn then
     lC sn n<|(bif sn&&sm then(λk=>bif decide (n<=m)&&decide (m<=(bQ:Int))then k else .no)elseλk=>kY (MJ lo co) (n<=m) (.cB (m<=(bQ:Int)) k))<|match B.T e with
      |some c=>bif P9 z then oT n.toNat (.rows sz c [] [] n.toNat) s.heap s.cr else Hb B c (.a z) λy=>oT (List.replicate n.toNat y).length (.lz sz c (List.replicate n.toNat y)) s.heap s.cr
      |none=>bif sn then oT n.toNat (.cW sz (List.replicate n.toNat (.a z))) s.heap s.cr else .no
    else .no
   |_,_=>.no
  |_,_=>.no
 |_,_,_=>.no
def EA(cp:Nat->Option (Nat×Nat))(cells:List (TV B.S)):List (Nat×TV B.S)->Option (List (TV B.S))
 | []=>some cells
 |(i,v)::r=>match cp i with
  |some (off,n)=>bif Nat.beq (eh B v).length n&&(eh B v).all qg&&Nat.ble (off+n) cells.length then EA cp (pO cells off (eh B v)) r else none
  |none=>none
def th{S:Nat->Type}(bX:dU S):List (Nat×Operand)->Option (List (Nat×TV S))
 | []=>some []
 |(i,x)::r=>match fG bX x with
  |some v=>match th bX r with
   |some l=>some ((i,v)::l)
   |none=>none
  |none=>none
def CR(P:Program)(t:TypeId)(cR:List (Nat×TV B.S)):Option (TV B.S):=match jK P t with
 |some (.agg cs)=>bif xE P t then(match EA B (nV P t) (cs.map .a) cR with
   |some l=>some (.agg l)
   |none=>none)
  else match vv P t with
  |some (_,e)=>match dF P e with
   |some sz=>match EA B (λi=>some (i*sz,sz)) (cs.map .a) cR with
    |some l=>some (.agg l)
    |none=>none
   |none=>none
  |none=>none
 |_=>none
def rN{S:Nat->Type}(l:List (Nat×TV S))(i:Nat):Bool:=match l with
 | []=>true
 |(j,_)::r=>Nat.beq j i&&rN r (i+1)
def qP(P:Program)(t:TypeId)(len:Nat)(own:Bool)(cR:List (Nat×TV B.S))(s:dZ B.S):TR B.S:=match eH P t with
 |some e=>match dF P e,jK P e with
  |some sz,some z=>bif Nat.beq cR.length len&&rN cR 0&&(cR.all λp=>Nat.beq (eh B p.2).length sz&&(eh B p.2).all qg)&&Nat.ble (len*sz) 16777216&&Nat.blt 0 sz&&Nat.beq z.cells.length sz then
   (bif own then(match B.T e with
    |some c=>nn B c (cR.map (·.2)) λys=>oT len (.lz sz c ys) s.heap s.cr
    |none=>oT len (.cW sz (cR.map (·.2))) s.heap s.cr)else .ok (bif Nat.beq len 0 then .a (.sl true [])else .s true (cR.map (·.2))) s)else .no
  |_,_=>.no
 |none=>.no
def To(op:BinOp)(k:IntKind)(sa sb:Bool)(x y:Int)(s:dZ B.S):TR B.S:=match op with
 |.add=>.ok (MD (sa&&sb) k (k.wrap (x+y))) s
 |.sub=>.ok (MD (sa&&sb) k (k.wrap (x-y))) s
 |.mul=>.ok (MD (sa&&sb) k (k.wrap (x*y))) s
 |.quo=>kY (sb&&!(decide (y=0))) (y≠0)<|.ok (MD (sa&&sb) k (k.wrap (x.tdiv y))) s
 |.rem=>kY (sb&&!(decide (y=0))) (y≠0)<|.ok (MD (sa&&sb) k (x.tmod y)) s
 |.eql=>.ok (P8 (sa&&sb) (decide (x=y))) s
 |.neq=>.ok (P8 (sa&&sb) (decide (x≠y))) s
 |.lss=>.ok (P8 (sa&&sb) (decide (x<y))) s
 |.leq=>.ok (P8 (sa&&sb) (decide (x<=y))) s
 |.gtr=>.ok (P8 (sa&&sb) (decide (y<x))) s
 |.geq=>.ok (P8 (sa&&sb) (decide (y<=x))) s
 |.shl=>lC sb y<|.ok (MD (sa&&sb) k (k.wrap (x*2^(min y.toNat k.bits)))) s
 |.shr=>lC sb y<|.ok (MD (sa&&sb) k (x.fdiv (2^(min y.toNat k.bits)))) s
 |_=>.no
def RF{S:Nat->Type}:TV S->Bool
 |.a _=>true
 |.fn _ _=>true
 |_=>false
def Qa:BinOp->Bool
 |.shl=>true
 |.shr=>true
 |_=>false
def Tp(P:Program)(op:BinOp)(t:TypeId)(x y:TV B.S)(s:dZ B.S):TR B.S:=match II B x,II B y with
 |some (sa,k,a),some (sb,k',b)=>bif Qa op||decide (k=k')then To B op k sa sb a b s else .no
 |_,_=>match Gz P op t (x.er B.E) (y.er B.E)with
  |some (.bool r)=>.ok (P8 (RF x&&RF y) r) s
  |_=>.no
def tUn(op:UnOp)(x:TV B.S)(s:dZ B.S):TR B.S:=match op with
 |.not=>(match Lq B x with
  |some (st,b)=>.ok (P8 st (!b)) s
  |none=>.no)
 |.neg=>(match II B x with
  |some (st,k,n)=>.ok (MD st k (k.wrap (0-n))) s
  |none=>.no)
 |_=>.no
def yV(P:Program)(src dst:TypeId)(x:TV B.S)(s:dZ B.S):TR B.S:=match II B x with
 |some (st,_,n)=>bif (P.underlying src).isSome then(match Gw P dst with
   |some k=>.ok (MD st k (k.wrap n)) s
   |none=>.no)else .no
 |none=>match x.norm B with
  |.z b=>bif (P.underlying src).isSome&&xc P dst then .ok (.z b) s else .no
  |.a (.str b)=>bif (P.underlying src).isSome&&xc P dst then .ok (.a (.str b)) s else .no
  |_=>.no
def IL(f:Int->Int->Int):(Bool×IntKind×Int)->List (TV B.S)->Option (Bool×IntKind×Int)
 |x,[]=>some x
 |(st,k,a),y::r=>match II B y with
  |some (AK,k',b)=>bif decide (k=k')then IL f (st&&AK,k,f a b) r else none
  |none=>none
def xN(f:Int->Int->Int)(l:List (TV B.S))(s:dZ B.S):TR B.S:=match l with
 |x::r=>match II B x with
  |some q=>match IL B f q r with
   |some (st,k,n)=>.ok (MD st k n) s
   |none=>.no
  |none=>.no
 | []=>.no
def Tq(P:Program)(b:Builtin)(c:Call)(bX:dU B.S)(s:dZ B.S):TR B.S:=match pP bX c.args.toList with
 |some l=>match b with
  |.len=>(match l,c.argTypes[0]? with
   | [x],some t=>Tn B P t x s
   |_,_=>.no)
  |.append=>(match l,c.argTypes[0]?,c.argTypes[1]? with
   | [x,y],some t,some u=>CQ B P t u x y s
   |_,_,_=>.no)
  |.copy=>(match l,c.argTypes[0]? with
   | [x,y],some t=>MI B P t x y s
   |_,_=>.no)
  |.min=>xN B yR l s
  |.max=>xN B kX l s
  |_=>.no
 |none=>.no
def top(P:Program)(own:Bool)(op:Op)(bX:dU B.S)(s:dZ B.S):TR B.S:=match op with
 |.move x=>sO (fG bX x) s
 |.assign x=>sO (fG bX x) s
 |.pick c a b=>match fG bX c with
  |some v=>match Lq B v with
   |some (st,t)=>bif st then sO (bif t then fG bX a else fG bX b) s else .sp t λt=>sO (bif t then fG bX a else fG bX b) s
   |none=>.no
  |none=>.no
 |.alloc t=>match wB P t with
  |some z=>P7 B (.a z) s
  |none=>match jK P t with
   |some z=>ME B P t z s
   |none=>.no
 |.box _ x=>match fG bX x with
  |some v=>P7 B v s
  |none=>.no
 |.build t cR=>match th bX cR.toList with
  |some l=>sO (CR B P t l) s
  |none=>.no
 |.buildSlice t len cR=>match th bX cR.toList with
  |some l=>qP B P t len own l s
  |none=>.no
 |.load t p=>match fG bX p with
  |some p=>IH B P t p s
  |none=>.no
 |.store t p x=>match fG bX p with
  |some p=>match fG bX x with
   |some x=>Hc B P t p x s
   |none=>.no
  |none=>.no
 |.nilCheck x=>match fG bX x with
  |some v=>(match v.norm B with
   |.a (.mp id el off)=>.ok (.a (.mp id el off)) s
   |.a (.ip cs)=>.ok (.a (.ip cs)) s
   |.ip cs=>.ok (.ip cs) s
   |.fn f cs=>.ok (.fn f cs) s
   |_=>.no)
  |none=>.no
 |.binOp op t x y _=>match fG bX x with
  |some x=>match fG bX y with
   |some y=>Tp B P op t x y s
   |none=>.no
  |none=>.no
 |.unOp op _ x=>match fG bX x with
  |some x=>tUn B op x s
  |none=>.no
 |.convert src dst x=>match fG bX x with
  |some x=>yV B P src dst x s
  |none=>.no
 |.makeFunc (.func f) first gk=>bif Nat.beq first.size 0 then(match pP bX gk.toList with
   |some l=>.ok (.fn f l) s
   |none=>.no)else .no
 |.slice t x lo hi mx=>match fG bX x with
  |some x=>Hf B P t x bX lo hi mx s
  |none=>.no
 |.fieldAddr t x i=>match fG bX x with
  |some x=>sO (CO B P t x i) s
  |none=>.no
 |.field t x i=>match fG bX x with
  |some x=>sO (xL B P t x i) s
  |none=>.no
 |.indexAddr t x i=>match fG bX x with
  |some x=>match fG bX i with
   |some i=>MF B P t x i s
   |none=>.no
  |none=>.no
 |.index t x i=>match fG bX x with
  |some x=>match fG bX i with
   |some i=>Hd B P t x i s
   |none=>.no
  |none=>.no
 |.extract x i=>match fG bX x with
  |some v=>(match v.norm B with
   |.eC vs=>sO vs[i]? s
   |_=>.no)
  |none=>.no
 |.makeSlice t l c=>MK B P t l c bX s
 |.call c=>match c.callee with
  |.builtin b=>Tq B P b c bX s
  |_=>.no
 |_=>.no
end
end Go.Am
