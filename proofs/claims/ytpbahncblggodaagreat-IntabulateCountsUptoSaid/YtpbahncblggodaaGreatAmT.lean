/- The logic AM, T: typed values and states; what an operation gives, and what it asks to know. -/
import Derived.Test.YtpbahncblggodaaGreatAmW
set_option linter.all false
namespace Go.Am
open Go.RowKit
inductive TV (S:Nat->Type) where
 |a (x:AV)
 |i (k:IntKind) (n:Int)
 |b (x:Bool)
 |z (x:ByteArray)
 |v (c:Nat) (x:S c)
 |l (full:Bool) (c:Nat) (x:List (S c))
 |s (full:Bool) (cs:List (TV S))
 |agg (cs:List (TV S))
 |ec (cs:List (TV S))
 |ip (cs:List (TV S))
 |fn (f:FuncId) (cs:List (TV S))
 |pt (id bL len:Nat)
section
variable {S:Nat->Type} (E:(c:Nat)->S c->AV)
mutual
def TV.er:TV S->AV
 |.a x=>x
 |.i k n=>.int k n
 |.b x=>.bool x
 |.z x=>.str x
 |.v c x=>E c x
 |.l f c x=>.sl f (x.map (E c))
 |.s f cs=>.sl f (dY cs)
 |.agg cs=>.agg (dY cs)
 |.ec cs=>.ec (dY cs)
 |.ip cs=>.ip (dY cs)
 |.fn f cs=>.fn f (dY cs)
 |.pt id st n=>.ms id st n
def dY:List (TV S)->List AV
 | []=>[]
 |x::r=>x.er::dY r
end
theorem eG: ∀l:List (TV S),dY E l=l.map (TV.er E)
 | []=>rfl
 |x::r=>by simp[dY,eG r]
def TV.Pt:TV S->Bool
 |.v _ _=>true
 |_=>false
end
abbrev TV.n{S:Nat->Type}(n:Int):TV S:=.i .i64 n
structure yM where
 n:Nat
 ps:List Tmp
 as:Code
 body:Code
inductive TB (S:Nat->Type) where
 |cH (cB:Nat) (l:List (TV S))
 |ls (cB c:Nat) (x:List (S c)) (n:Nat) (h:n=x.length)
 |raw (b:gD)
 |rows (cB c:Nat) (x:List (S c)) (v:List (TV S)) (n:Nat)
 |lp (c:Nat) (bI:List (Nat×TV S)) (st:Nat) (pd:Option (Option Nat))
 |fm (cB c w:Nat) (cl:Bool) (pre:List (S c)) (kO:List (TV S)) (post:List (S c))
 |fr (c:Nat) (cl:Bool) (pre:List (S c)) (n:Nat) (post:List (S c))
inductive ZB (S:Nat->Type) where
 |o (cB:Nat) (l:List (TV S))
 |l (cB c:Nat) (x:List (S c))
def FI{S:Nat->Type}(E:(c:Nat)->S c->AV):ZB S->Nat×List AV
 |.o n l=>(n,dY E l)
 |.l n c x=>(n,x.map (E c))
def L2(p:Nat×List AV):gD:=.cells p.1 p.2
def Gq(r:Nat):Nat->List (Nat×gD)->List (Nat×gD)
 |0,h=>h
 |k+1,h=>Gq r k (eB h (r+k))
structure Bn {S:Nat->Type} (E:(c:Nat)->S c->AV) (W K:Nat->Nat) (Y:(c:Nat)->Nat->S c->TV S) (Z:(c:Nat)->Nat->S c->List (ZB S)) (c:Nat):Prop where
 hk:K c<=4
 hz: ∀(r:Nat)(y:S c),(Z c r y).length=K c
 hw: ∀(r:Nat)(y:S c),((Y c r y).er E).cells.length=W c
 hs:0<K c-> ∀(y:S c)x,x∈(E c y).cells->x.cX=true
 hf: ∀(r:Nat)(y:S c)(s:St)(G:cg)(w:World),eL G s w->(∀(j:Nat)(z:ZB S),(Z c r y)[j]? =some z->bH s.heap (r+j)=some (L2 (FI E z)))->
  ∃G',eL G' ⟨Gq r (K c) s.heap,s.bT⟩ w/\Ext G s w G' ⟨Gq r (K c) s.heap,s.bT⟩ w/\ ∀(j:Nat)x x' v,((Y c r y).er E).cells[j]? =some x->(E c y).cells[j]? =some x'->V G x v->V G' x' v
 hi:0<K c-> ∀x y:S c,E c x=E c y->x=y
 hr: ∀(ok:Nat->Bool)(π:Nat->Nat)(r r':Nat)(y:S c),(∀j,j<K c->ok (r+j)=true/\π (r+j)=r'+j)->Co ok π ((Y c r y).er E) ((Y c r' y).er E)/\
  ∀(j:Nat)(b b':ZB S),(Z c r y)[j]? =some b->(Z c r' y)[j]? =some b'->Bd ok π (L2 (FI E b)) (L2 (FI E b'))
structure jc where
 S:Nat->Type
 E:(c:Nat)->S c->AV
 X:(c:Nat)->S c->TV S
 D:(c:Nat)->TV S->Option (S c)
 T:TypeId->Option Nat
 hX: ∀c x,(X c x).er E=E c x
 hv: ∀c x,(X c x).Pt=false
 hc: ∀c x,(E c x).dy=true
 W:Nat->Nat
 hw: ∀c x,(E c x).cells.length=W c
 C:Nat->yM
 K:Nat->Nat
 Y:(c:Nat)->Nat->S c->TV S
 Z:(c:Nat)->Nat->S c->List (ZB S)
 hF: ∀c,Bn E W K Y Z c
abbrev TB.lz{S:Nat->Type}(cB c:Nat)(x:List (S c)):TB S:=.ls cB c x x.length rfl
structure dP (S:Nat->Type) where
 heap:List (Nat×TB S)
 bT:Nat
abbrev dK(S:Nat->Type):=List (Nat×TV S)
inductive TR (S:Nat->Type) where
 |no
 |ok (v:TV S) (s:dP S)
 |eq (x y:AV) (k:TR S)
 |el (c:Nat) (l:List (S c)) (i:Nat) (k:S c->TR S)
 |ix (c:Nat) (l:List (S c)) (i:Int) (k:S c->TR S)
 |cu (p:Prop) (k:TR S)
 |sp (b:Bool) (k:Bool->TR S)
def TR.wp{S:Nat->Type}:TR S->(TV S->dP S->Prop)->Prop
 |.no,_=>False
 |.ok v s,K=>K v s
 |.eq x y k,K=>x=y/\k.wp K
 |.el _ l i k,K=> ∃y,l[i]? =some y/\(k y).wp K
 |.ix _ l i k,K=> ∃y,Go.Am.ix l i=some y/\(k y).wp K
 |.cu p k,K=>p/\k.wp K
 |.sp b k,K=>(k b).wp K
section
variable (B:jc)
def eJ:dK B.S->Env
 | []=>[]
 |(t,x)::r=>(t,x.er B.E)::eJ r
def Cr:Nat->LoopState
 |0=>.ready
 |1=>.busy
 |_=>.done
def Gt:Option (Option Nat)->Option Code
 |none=>none
 |some none=>some .ret
 |some (some i)=>some (.exit i)
def cT:Nat:=4096
def vr:Nat:=20000
def iK(c w:Nat):Nat->List (B.S c)->List AV
 |_,[]=>[]
 |i,y::r=>bif Nat.blt i cT then(B.Y c (w+1+B.K c*i) y).er B.E::iK c w (i+1) r else []
def fx:TB B.S->gD
 |.cH n l=>.cells n (dY B.E l)
 |.ls n c x _ _=>.cells n (x.map (B.E c))
 |.raw b=>b
 |.rows n c x v m=>.cells n (x.map (B.E c)++(dY B.E v++List.replicate m (.sl true [])))
 |.lp c bI st pd=>.loop ⟨eJ B bI,(B.C c).n,(B.C c).ps,(B.C c).as,(B.C c).body,Cr st,Gt pd⟩
 |.fm n c w cl pre kO post=>.cells n ((bif cl then pre.map (B.E c)else iK B c w 0 pre)++(dY B.E kO++iK B c w (pre.length+kO.length) post))
 |.fr _ _ _ _ _=>.cells 1 []
def kC:List (Nat×TB B.S)->List (Nat×gD)
 | []=>[]
 |(i,b)::r=>(i,fx B b)::kC r
def jO:Nat->List (ZB B.S)->List (Nat×gD)
 |_,[]=>[]
 |i,b::r=>(i,L2 (FI B.E b))::jO (i+1) r
def gx(c w:Nat):Nat->List (B.S c)->List (Nat×gD)
 |_,[]=>[]
 |i,y::r=>bif Nat.blt i cT then jO B (w+1+B.K c*i) (B.Z c (w+1+B.K c*i) y)++gx c w (i+1) r else []
def eR(w:Nat):TB B.S->List (Nat×gD)
 |.fr c cl pre n post=>(bif cl then []else gx B c w 0 pre)++gx B c w (pre.length+n) post
 |_=>[]
def mi:List (Nat×TB B.S)->List (Nat×gD)
 | []=>[]
 |(i,b)::r=>eR B i b++mi r
def dl(s:dP B.S):St:=⟨kC B s.heap++mi B s.heap,s.bT⟩
def fR{S:Nat->Type}:TB S->Bool
 |.fr _ _ _ _ _=>true
 |_=>false
def fL(w id:Nat):Bool:=Nat.ble id w||Nat.ble (w+vr) id
def iu{S:Nat->Type}:List (Nat×TB S)->Nat->Bool
 | [],_=>true
 |(w,.fr _ _ _ _ _)::r,id=>fL w id&&!(Nat.beq w id)&&iu r id
 |_::r,id=>iu r id
def TV.norm:TV B.S->TV B.S
 |.v c x=>B.X c x
 |x=>x
def Ct{S:Nat->Type}:TV S->List (TV S)
 |.agg cs=>cs
 |.a x=>x.cells.map .a
 |x=>[x]
def dR(x:TV B.S):List (TV B.S):=Ct (x.norm B)
def nC(P:Program)(t:TypeId)(cs:List (TV B.S)):Option (TV B.S):=match KZ P t with
 |some true=>match dr P t with
  |some n=>bif Nat.ble n cs.length then some (.agg (cs.take n))else none
  |none=>none
 |some false=>match cs with
  |x::_=>some x
  | []=>none
 |none=>none
def sy{S:Nat->Type}(o:Option (TV S))(s:dP S):TR S:=match o with
 |some v=>.ok v s
 |none=>.no
def pO{S:Nat->Type}:TV S->Bool
 |.a x=>x.cX
 |.agg _=>false
 |.ec _=>false
 |.v _ _=>false
 |_=>true
def Cu{S:Nat->Type}:TV S->Bool
 |.agg _=>true
 |.a x=>x.isAgg
 |_=>false
def rn(e:TV B.S)(cs:List (TV B.S)):TV B.S:=bif Cu (e.norm B)then .agg cs else match cs with
 |x::_=>x
 | []=>.a .any
def pe{S:Nat->Type}(cs:List (TV S))(off:Nat)(new:List (TV S)):List (TV S):=cs.take off++(new++cs.drop (off+new.length))
def Ia(P:Program)(t:TypeId)(p:TV B.S)(s:dP B.S):TR B.S:=match p.norm B with
 |.ip cs=>sy (nC B P t cs) s
 |.a p=>match p with
  |.ip cs=>sy (nC B P t (cs.map .a)) s
  |.mp id el off=>match bH s.heap id with
   |some (.cH _ l)=>match l[el]? with
    |some e=>sy (nC B P t ((dR B e).drop off)) s
    |none=>.no
   |some (.ls _ c x _ _)=>.el c x el λy=>sy (nC B P t ((dR B (.v c y)).drop off)) s
   |some (.rows _ c x v _)=>(match v with
    | [w]=>.cu (el=x.length)<|sy (nC B P t ((dR B w).drop off)) s
    |_=>.no)
   |some (.fm _ c _ _ pre kO _)=>(match kO with
    | [w]=>.cu (el=pre.length/\el<=cT)<|sy (nC B P t ((dR B w).drop off)) s
    |_=>.no)
   |_=>.no
  |_=>.no
 |_=>.no
def Gv(c:Nat)(x:TV B.S)(k:B.S c->TR B.S):TR B.S:=match B.D c x with
 |some y=>.eq (B.E c y) (x.er B.E) (k y)
 |none=>.no
def Gw(P:Program)(t:TypeId)(p v:TV B.S)(s:dP B.S):TR B.S:=match p.norm B with
 |.a (.mp id el off)=>match bH s.heap id with
  |some (.cH cB l)=>match l[el]? with
   |some e=>bif ju (dr P t) (dR B v).length&&Nat.ble (off+(dR B v).length) (dR B e).length&&(dR B v).all pO then
    .ok (.a .any) ⟨eg s.heap id (.cH cB (l.set el (rn B e (pe (dR B e) off (dR B v))))),s.bT⟩else .no
   |none=>.no
  |some (.ls cB c x m hm)=>.el c x el λy=>bif ju (dr P t) (dR B v).length&&Nat.ble (off+(dR B v).length) (dR B (.v c y)).length&&(dR B v).all pO then
    Gv B c (rn B (.v c y) (pe (dR B (.v c y)) off (dR B v))) λy'=>.ok (.a .any) ⟨eg s.heap id (.ls cB c (x.set el y') m (hm.trans List.length_set.symm)),s.bT⟩else .no
  |some (.rows cB c x w m)=>(match w with
   | [e]=>.cu (el=x.length)<|bif ju (dr P t) (dR B v).length&&Nat.ble (off+(dR B v).length) (dR B e).length&&(dR B v).all pO then
    .ok (.a .any) ⟨eg s.heap id (.rows cB c x [rn B e (pe (dR B e) off (dR B v))] m),s.bT⟩else .no
   |_=>.no)
  |some (.fm cB c w cl pre kO post)=>(match kO with
   | [e]=>.cu (el=pre.length/\el<=cT)<|bif ju (dr P t) (dR B v).length&&Nat.ble (off+(dR B v).length) (dR B e).length&&(dR B v).all pO then
    .ok (.a .any) ⟨eg s.heap id (.fm cB c w cl pre [rn B e (pe (dR B e) off (dR B v))] post),s.bT⟩else .no
   |_=>.no)
  |_=>.no
 |_=>.no
def Pu(v:TV B.S)(s:dP B.S):TR B.S:=
 bif Nat.blt 0 (dR B v).length&&(dR B v).all pO then .ok (.a (.mp s.bT 0 0)) ⟨(s.bT,.cH (dR B v).length [v])::s.heap,s.bT+1⟩else .no
def Cv(P:Program)(t:TypeId)(p:TV B.S)(i:Nat):Option (TV B.S):=match nr P t i with
 |some (off,n)=>bif Nat.beq n 0 then none else match p.norm B with
  |.a (.mp id el o)=>some (.a (.mp id el (o+off)))
  |.a (.ip cs)=>some (.a (.ip (cs.drop off)))
  |.ip cs=>some (.ip (cs.drop off))
  |_=>none
 |none=>none
def xp(P:Program)(t:TypeId)(x:TV B.S)(i:Nat):Option (TV B.S):=match nr P t i with
 |some (off,_)=>match BW P t i with
  |some ft=>bif Cu (x.norm B)then nC B P ft ((dR B x).drop off)else none
  |none=>none
 |none=>none
def Ib(x:TV B.S):Option (Bool×IntKind×Int):=match x.norm B with
 |.i k n=>some (false,k,n)
 |.a (.int k n)=>some (true,k,n)
 |_=>none
def KJ(x:TV B.S):Option (Bool×Bool):=match x.norm B with
 |.b t=>some (false,t)
 |.a (.bool t)=>some (true,t)
 |_=>none
def Mh{S:Nat->Type}(st:Bool)(k:IntKind)(n:Int):TV S:=bif st then .a (.int k n)else .i k n
def Pv{S:Nat->Type}(st:Bool)(t:Bool):TV S:=bif st then .a (.bool t)else .b t
def Wl:Int->Bool
 |.ofNat _=>false
 |.negSucc _=>true
def lf{S:Nat->Type}(st:Bool)(n:Int)(k:TR S):TR S:=bif st then(bif Wl n then .no else k)else .cu (0<=n) k
def mM(c:Nat):List (TV B.S)->(List (B.S c)->TR B.S)->TR B.S
 | [],k=>k []
 |x::r,k=>Gv B c x λy=>mM c r λys=>k (y::ys)
def Dv{S:Nat->Type}(m n:Nat)(k:TR S):TR S:=.eq (.mp m 0 0) (.mp n 0 0) k
def Ic(P:Program)(e c:Nat)(x:List (B.S c))(n:Int)(s:dP B.S):TR B.S:=
 bif ju (dr P e) (B.W c)then .ix c x n λy=>.ok (.ip (dR B (.v c y))) s else .no
def Mi(P:Program)(t:TypeId)(z:AV)(s:dP B.S):TR B.S:=match wJ P t with
 |some (_,e)=>match B.T e with
  |some c=>bif Nat.blt 0 z.cells.length&&z.cells.all AV.cX then mM B c (z.cells.map .a) λys=>.ok (.a (.mp s.bT 0 0)) ⟨(s.bT,.lz 1 c ys)::s.heap,s.bT+1⟩else .no
  |none=>.no
 |none=>.no
def Mj(P:Program)(t:TypeId)(x i:TV B.S)(s:dP B.S):TR B.S:=match Ib B i with
 |some (st,_,n)=>match eh P t with
  |some e=>match x.norm B with
   |.l _ c xs=>Ic B P e c xs n s
   |.s _ cs=>bif st then(match n with
     |.ofNat m=>match cs[m]? with
      |some y=>bif ju (dr P e) (dR B y).length then .ok (.ip (dR B y)) s else .no
      |none=>.no
     |_=>.no)
    else match B.T e with
     |some c=>mM B c cs λxs=>Ic B P e c xs n s
     |none=>.no
   |.a (.ms id bL len)=>match bH s.heap id with
    |some (.ls cB c xs m _)=>bif Nat.beq bL 0&&ju (dr P e) cB then Dv len m (.ix c xs n λ_=>.ok (.a (.mp id n.toNat 0)) s)else .no
    |some (.cH cB _)=>bif st&&ju (dr P e) cB then(match n with
      |.ofNat m=>bif Nat.blt m len then .ok (.a (.mp id (bL+m) 0)) s else .no
      |_=>.no)
     else .no
    |some (.rows cB _ _ _ _)=>bif Nat.beq bL 0&&ju (dr P e) cB then .cu (0<=n/\n<(len:Int))<|.ok (.a (.mp id n.toNat 0)) s else .no
    |some (.fm cB _ _ _ _ _ _)=>bif Nat.beq bL 0&&ju (dr P e) cB then .cu (0<=n/\n<(len:Int))<|.ok (.a (.mp id n.toNat 0)) s else .no
    |_=>.no
   |_=>.no
  |none=>match wJ P t with
   |some (m,e)=>match dr P e with
    |some sz=>bif Nat.blt 8 m then(match x.norm B with
     |.a (.mp id el off)=>(match bH s.heap id with
      |some (.ls cB c xs _ _)=>bif Nat.beq el 0&&(Nat.beq off 0&&Nat.beq cB sz)then .cu (n<(m:Int))<|.ix c xs n λ_=>.ok (.a (.mp id n.toNat 0)) s else .no
      |_=>.no)
     |_=>.no)else bif st then(match n with
      |.ofNat j=>bif Nat.blt j m then(match x.norm B with
       |.a (.mp id el off)=>.ok (.a (.mp id el (off+j*sz))) s
       |.a (.ip cs)=>.ok (.a (.ip (cs.drop (j*sz)))) s
       |.ip cs=>.ok (.ip (cs.drop (j*sz))) s
       |_=>.no)else .no
      |_=>.no)else .no
    |none=>.no
   |none=>.no
 |none=>.no
def Av(b:ByteArray)(n:Int):Int:=((b[n.toNat]?).map λc=>(c.toNat:Int)).getD 0
def Gx(P:Program)(t:TypeId)(x i:TV B.S)(s:dP B.S):TR B.S:=match Ib B i with
 |some (st,_,n)=>match x.norm B with
  |.z b=>bif wK P t then .cu (0<=n/\n<(b.size:Int))<|.ok (.i .u8 (Av b n)) s else .no
  |.a (.str b)=>bif wK P t then .cu (0<=n/\n<(b.size:Int))<|.ok (.i .u8 (Av b n)) s else .no
  |_=>bif st&&Cu (x.norm B)then(match wJ P t with
   |some (m,e)=>match dr P e with
    |some sz=>match n with
     |.ofNat j=>bif Nat.blt j m then sy (nC B P e ((dR B x).drop (j*sz))) s else .no
     |_=>.no
    |none=>.no
   |none=>.no)else .no
 |none=>.no
def SK(P:Program)(t:TypeId)(x:TV B.S)(s:dP B.S):TR B.S:=match x.norm B with
 |.l _ _ xs=>bif (eh P t).isSome then .ok (.i .i64 xs.length) s else .no
 |.s _ cs=>bif (eh P t).isSome then .ok (.a (.int .i64 cs.length)) s else .no
 |.pt _ _ n=>bif (eh P t).isSome then .ok (.i .i64 n) s else .no
 |.a (.ms _ _ n)=>bif (eh P t).isSome then .ok (.i .i64 n) s else .no
 |.z b=>bif wK P t then .ok (.i .i64 b.size) s else .no
 |.a x=>match Ad P t x with
  |some v=>.ok (.a v) s
  |none=>.no
 |_=>.no
def fk{S:Nat->Type}(bI:dK S):Operand->Option (TV S)
 |.tmp t=>bH bI t
 |.const v=>match ofValue v with
  |some x=>some (.a x)
  |none=>none
 |.func f=>some (.fn f [])
 |.global _=>none
def pc{S:Nat->Type}(bI:dK S):List Operand->Option (List (TV S))
 | []=>some []
 |x::r=>match fk bI x with
  |some v=>match pc bI r with
   |some l=>some (v::l)
   |none=>none
  |none=>none
def qx(bI:dK B.S)(x:Option Operand)(d:Nat)(k:Nat->TR B.S):TR B.S:=match x with
 |none=>k d
 |some o=>match fk bI o with
  |some v=>match Ib B v with
   |some (st,_,n)=>lf st n (k n.toNat)
   |none=>.no
  |none=>.no
def kF{S:Nat->Type}(b:Bool)(p:Prop)(k:TR S):TR S:=bif b then k else .cu p k
def Gy(bI:dK B.S)(x:Option Operand):Bool:=match x with
 |none=>true
 |some o=>match fk bI o with
  |some (.a (.int _ (.ofNat 0)))=>true
  |_=>false
def xq(P:Program)(e:TypeId)(w:Bool)(id bL len:Nat)(bI:dK B.S)(lo hi:Option Operand)(s:dP B.S):TR B.S:=
 bif (match bH s.heap id with
  |some (.ls cB _ _ _ _)=>ju (dr P e) cB
  |some (.cH cB _)=>ju (dr P e) cB
  |_=>false)then
  qx B bI lo 0 λl=>qx B bI hi len λh=>kF (Gy B bI lo) (l<=h)<|kF hi.isNone (h<=len)<|.ok (.pt id (bif w then l else bL+l) (bif Gy B bI lo then h else h-l)) s
 else .no
def Gz(P:Program)(t:TypeId)(x:TV B.S)(bI:dK B.S)(lo hi mx:Option Operand)(s:dP B.S):TR B.S:=match mx with
 |some _=>.no
 |none=>match eh P t with
  |some e=>match x.norm B with
   |.l f c xs=>bif ju (dr P e) (B.W c)then qx B bI lo 0 λl=>qx B bI hi xs.length λh=>
    kF (Gy B bI lo) (l<=h)<|kF hi.isNone (h<=xs.length)<|.ok (.l (bif f then Nat.beq h xs.length else false) c ((xs.take h).drop l)) s else .no
   |.a (.ms id bL len)=>xq B P e (Nat.beq bL 0) id bL len bI lo hi s
   |.pt id bL len=>xq B P e false id bL len bI lo hi s
   |_=>.no
  |none=>match x.norm B with
   |.z b=>bif wK P t then qx B bI lo 0 λl=>qx B bI hi b.size λh=>.cu (l<=h/\h<=b.size)<|.ok (.z (b.extract l h)) s else .no
   |_=>.no
def yN(P:Program)(e:TypeId):Option Nat:=match dr P e,oK P e with
 |some sz,some FW=>bif Nat.blt 0 sz&&Nat.ble FW 4096&&vc P e sz then some sz else none
 |_,_=>none
def oe{S:Nat->Type}(n:Nat)(b:TB S)(h:List (Nat×TB S))(c:Nat):TR S:=.ok (.a (.ms c 0 n)) ⟨(c,b)::h,c+1⟩
def Mk(P:Program)(e sz:Nat)(x:TV B.S)(cs:List (TV B.S))(s:dP B.S):TR B.S:=match x.norm B with
 |.a (.sl true [])=>bif Nat.ble cs.length bJ then(match B.T e with
   |some c=>mM B c cs λys=>oe cs.length (.lz sz c ys) s.heap s.bT
   |none=>oe cs.length (.cH sz cs) s.heap s.bT)else .no
 |.l true c xs=>bif ju (dr P e) (B.W c)then mM B c cs λys=>.cu (xs.length+cs.length<=bJ)<|oe (xs++ys).length (.lz sz c (xs++ys)) s.heap s.bT else .no
 |.a (.ms id bL n)=>match bH s.heap id with
  |some (.ls cB c xs m _)=>bif Nat.beq cB sz&&Nat.beq bL 0&&iu s.heap id then mM B c cs λys=>Dv n m<|.cu (xs.length+cs.length<=bJ)<|oe (xs++ys).length (.lz sz c (xs++ys)) (eB s.heap id) s.bT else .no
  |some (.cH cB l)=>bif Nat.beq cB sz&&Nat.beq bL 0&&Nat.ble (l.length+cs.length) bJ&&iu s.heap id then Dv n l.length<|oe (l.length+cs.length) (.cH sz (l++cs)) (eB s.heap id) s.bT else .no
  |some (.fm cB c w cl pre kO post)=>(match kO with
   | []=>(match post with
    | []=>bif Nat.beq cB sz&&Nat.beq bL 0&&iu s.heap id&&Nat.ble cs.length cT then Dv n pre.length<|.cu (pre.length<cT)<|oe (pre.length+cs.length) (.fm sz c w cl pre cs []) (eB s.heap id) s.bT else .no
    |_=>.no)
   |_=>.no)
  |_=>.no
 |.pt id bL n=>match bH s.heap id with
  |some (.ls cB c xs _ _)=>bif Nat.beq cB sz&&iu s.heap id then mM B c cs λys=>.cu (bL+n<=xs.length)<|.cu (n+cs.length<=bJ)<|oe (((xs.drop bL).take n)++ys).length (.lz sz c (((xs.drop bL).take n)++ys)) (eB s.heap id) s.bT else .no
  |_=>.no
 |_=>.no
def Bp{S:Nat->Type}(c d:Nat)(x:List (S c)):Option (List (S d)):=if h:c=d then some (h ▸ x)else none
def Ie(x:TV B.S)(s:dP B.S):TR B.S:=match x.norm B with
 |.a (.sl _ _)=>.ok x s
 |.a (.ms _ _ _)=>.ok x s
 |.l _ _ _=>.ok x s
 |.s _ _=>.ok x s
 |.pt _ _ _=>.ok x s
 |_=>.no
def Ml(P:Program)(e sz:Nat)(x:TV B.S)(c:Nat)(ys:List (B.S c))(s:dP B.S):TR B.S:=.sp ys.isEmpty λem=>bif em then Ie B x s else match x.norm B with
 |.a (.sl true [])=>.cu (ys.length<=bJ)<|oe ys.length (.lz sz c ys) s.heap s.bT
 |.l true d xs=>bif ju (dr P e) (B.W d)then(match Bp c d ys with
   |some ys=>.cu (xs.length+ys.length<=bJ)<|oe (xs++ys).length (.lz sz d (xs++ys)) s.heap s.bT
   |none=>.no)else .no
 |.a (.ms id bL n)=>match bH s.heap id with
  |some (.ls cB d xs m _)=>bif Nat.beq cB sz&&Nat.beq bL 0&&iu s.heap id then(match Bp c d ys with
    |some ys=>Dv n m<|.cu (xs.length+ys.length<=bJ)<|oe (xs++ys).length (.lz sz d (xs++ys)) (eB s.heap id) s.bT
    |none=>.no)else .no
  |_=>.no
 |.pt id bL n=>match bH s.heap id with
  |some (.ls cB d xs _ _)=>bif Nat.beq cB sz&&iu s.heap id then(match Bp c d ys with
    |some ys=>.cu (bL+n<=xs.length)<|.cu (n+ys.length<=bJ)<|oe (((xs.drop bL).take n)++ys).length (.lz sz d (((xs.drop bL).take n)++ys)) (eB s.heap id) s.bT
    |none=>.no)else .no
  |_=>.no
 |_=>.no
def Cw(P:Program)(e:TypeId)(y:TV B.S)(s:dP B.S)(k1:List (TV B.S)->TR B.S)(k2:(c:Nat)->List (B.S c)->TR B.S):TR B.S:=match y.norm B with
 |.s _ cs=>bif (match cs with| []=>true|x::_=>ju (dr P e) (dR B x).length)then k1 cs else .no
 |.a (.sl _ [])=>k1 []
 |.l _ c ys=>bif ju (dr P e) (B.W c)then k2 c ys else .no
 |.a (.ms id bL n)=>match bH s.heap id with
  |some (.ls cB c xs m _)=>bif ju (dr P e) cB&&Nat.beq bL 0 then Dv n m (k2 c xs)else .no
  |some (.cH cB l)=>bif ju (dr P e) cB&&Nat.beq bL 0 then Dv n l.length (k1 l)else .no
  |_=>.no
 |.pt id bL n=>match bH s.heap id with
  |some (.ls cB c xs _ _)=>bif ju (dr P e) cB then .cu (bL+n<=xs.length) (k2 c ((xs.drop bL).take n))else .no
  |_=>.no
 |_=>.no
def Cx(P:Program)(t u:TypeId)(x y:TV B.S)(s:dP B.S):TR B.S:=match eh P t with
 |some e=>match yN P e with
  |some sz=>bif (eh P u).isSome then Cw B P e y s (λcs=>match cs with
   | []=>Ie B x s
   |cs=>Mk B P e sz x cs s) (λc ys=>Ml B P e sz x c ys s)else .no
  |none=>.no
 |none=>.no
def Oy{α:Type}(xs:List α)(a n:Nat)(ys:List α):List α:=xs.take a++(ys.take (min ys.length n)++xs.drop (a+min ys.length n))
def Mm(P:Program)(t:TypeId)(x y:TV B.S)(s:dP B.S):TR B.S:=match eh P t with
 |some e=>Cw B P e y s (λ_=>.no) λc ys=>match x.norm B with
  |.pt id bL n=>match bH s.heap id with
   |some (.ls cB d xs _ _)=>bif ju (dr P e) cB then(match Bp c d ys with
    |some ys=>.cu (bL+n<=xs.length)<|.ok (.i .i64 (min ys.length n:Nat)) ⟨eg s.heap id (.lz cB d (Oy xs bL n ys)),s.bT⟩
    |none=>.no)else .no
   |_=>.no
  |_=>.no
 |none=>.no
def Mn:Operand->Operand->Bool
 |.tmp a,.tmp b=>Nat.beq a b
 |_,_=>false
def Pw:AV->Bool
 |.sl true []=>true
 |_=>false
def Mo(P:Program)(t:TypeId)(lo co:Operand)(bI:dK B.S)(s:dP B.S):TR B.S:=match fk bI lo,fk bI co,eh P t with
 |some l,some c,some e=>match Ib B l,Ib B c with
  |some (sn,_,n),some (sm,_,m)=>match yN P e,jB P e with
   |some sz,some z=>bif Nat.beq z.cells.length sz&&z.cells.all AV.cX then
     lf sn n<|(bif sn&&sm then(λk=>bif decide (n<=m)&&decide (m<=(bJ:Int))then k else .no)elseλk=>kF (Mn lo co) (n<=m) (.cu (m<=(bJ:Int)) k))<|match B.T e with
      |some c=>bif Pw z then oe n.toNat (.rows sz c [] [] n.toNat) s.heap s.bT else Gv B c (.a z) λy=>oe (List.replicate n.toNat y).length (.lz sz c (List.replicate n.toNat y)) s.heap s.bT
      |none=>bif sn then oe n.toNat (.cH sz (List.replicate n.toNat (.a z))) s.heap s.bT else .no
    else .no
   |_,_=>.no
  |_,_=>.no
 |_,_,_=>.no
def Ee(bQ:Nat->Option (Nat×Nat))(cells:List (TV B.S)):List (Nat×TV B.S)->Option (List (TV B.S))
 | []=>some cells
 |(i,v)::r=>match bQ i with
  |some (off,n)=>bif Nat.beq (dR B v).length n&&(dR B v).all pO&&Nat.ble (off+n) cells.length then Ee bQ (pe cells off (dR B v)) r else none
  |none=>none
def sT{S:Nat->Type}(bI:dK S):List (Nat×Operand)->Option (List (Nat×TV S))
 | []=>some []
 |(i,x)::r=>match fk bI x with
  |some v=>match sT bI r with
   |some l=>some ((i,v)::l)
   |none=>none
  |none=>none
def Cy(P:Program)(t:TypeId)(cA:List (Nat×TV B.S)):Option (TV B.S):=match jB P t with
 |some (.agg cs)=>bif xd P t then(match Ee B (nr P t) (cs.map .a) cA with
   |some l=>some (.agg l)
   |none=>none)
  else match wJ P t with
  |some (_,e)=>match dr P e with
   |some sz=>match Ee B (λi=>some (i*sz,sz)) (cs.map .a) cA with
    |some l=>some (.agg l)
    |none=>none
   |none=>none
  |none=>none
 |_=>none
def rp{S:Nat->Type}(l:List (Nat×TV S))(i:Nat):Bool:=match l with
 | []=>true
 |(j,_)::r=>Nat.beq j i&&rp r (i+1)
def qy(P:Program)(t:TypeId)(len:Nat)(own:Bool)(cA:List (Nat×TV B.S))(s:dP B.S):TR B.S:=match eh P t with
 |some e=>match dr P e,jB P e with
  |some sz,some z=>bif Nat.beq cA.length len&&rp cA 0&&(cA.all λp=>Nat.beq (dR B p.2).length sz&&(dR B p.2).all pO)&&Nat.ble (len*sz) 16777216&&Nat.blt 0 sz&&Nat.beq z.cells.length sz then
   (bif own then(match B.T e with
    |some c=>mM B c (cA.map (·.2)) λys=>oe len (.lz sz c ys) s.heap s.bT
    |none=>oe len (.cH sz (cA.map (·.2))) s.heap s.bT)else .ok (bif Nat.beq len 0 then .a (.sl true [])else .s true (cA.map (·.2))) s)else .no
  |_,_=>.no
 |none=>.no
def SM(op:BinOp)(k:IntKind)(sa sb:Bool)(x y:Int)(s:dP B.S):TR B.S:=match op with
 |.add=>.ok (Mh (sa&&sb) k (k.wrap (x+y))) s
 |.sub=>.ok (Mh (sa&&sb) k (k.wrap (x-y))) s
 |.mul=>.ok (Mh (sa&&sb) k (k.wrap (x*y))) s
 |.quo=>kF (sb&&!(decide (y=0))) (y≠0)<|.ok (Mh (sa&&sb) k (k.wrap (x.tdiv y))) s
 |.rem=>kF (sb&&!(decide (y=0))) (y≠0)<|.ok (Mh (sa&&sb) k (x.tmod y)) s
 |.eql=>.ok (Pv (sa&&sb) (decide (x=y))) s
 |.neq=>.ok (Pv (sa&&sb) (decide (x≠y))) s
 |.lss=>.ok (Pv (sa&&sb) (decide (x<y))) s
 |.leq=>.ok (Pv (sa&&sb) (decide (x<=y))) s
 |.gtr=>.ok (Pv (sa&&sb) (decide (y<x))) s
 |.geq=>.ok (Pv (sa&&sb) (decide (y<=x))) s
 |.shl=>lf sb y<|.ok (Mh (sa&&sb) k (k.wrap (x*2^(min y.toNat k.bits)))) s
 |.shr=>lf sb y<|.ok (Mh (sa&&sb) k (x.fdiv (2^(min y.toNat k.bits)))) s
 |_=>.no
def Q9{S:Nat->Type}:TV S->Bool
 |.a _=>true
 |.fn _ _=>true
 |_=>false
def Px:BinOp->Bool
 |.shl=>true
 |.shr=>true
 |_=>false
def SN(P:Program)(op:BinOp)(t:TypeId)(x y:TV B.S)(s:dP B.S):TR B.S:=match Ib B x,Ib B y with
 |some (sa,k,a),some (sb,k',b)=>bif Px op||decide (k=k')then SM B op k sa sb a b s else .no
 |_,_=>match FY P op t (x.er B.E) (y.er B.E)with
  |some (.bool r)=>.ok (Pv (Q9 x&&Q9 y) r) s
  |_=>.no
def Z9(op:UnOp)(x:TV B.S)(s:dP B.S):TR B.S:=match op with
 |.not=>(match KJ B x with
  |some (st,b)=>.ok (Pv st (!b)) s
  |none=>.no)
 |.neg=>(match Ib B x with
  |some (st,k,n)=>.ok (Mh st k (k.wrap (0-n))) s
  |none=>.no)
 |_=>.no
def yO(P:Program)(src dst:TypeId)(x:TV B.S)(s:dP B.S):TR B.S:=match Ib B x with
 |some (st,_,n)=>bif (P.underlying src).isSome then(match FV P dst with
   |some k=>.ok (Mh st k (k.wrap n)) s
   |none=>.no)else .no
 |none=>match x.norm B with
  |.z b=>bif (P.underlying src).isSome&&wK P dst then .ok (.z b) s else .no
  |.a (.str b)=>bif (P.underlying src).isSome&&wK P dst then .ok (.a (.str b)) s else .no
  |_=>.no
def Ig(f:Int->Int->Int):(Bool×IntKind×Int)->List (TV B.S)->Option (Bool×IntKind×Int)
 |x,[]=>some x
 |(st,k,a),y::r=>match Ib B y with
  |some (zZ,k',b)=>bif decide (k=k')then Ig f (st&&zZ,k,f a b) r else none
  |none=>none
def xr(f:Int->Int->Int)(l:List (TV B.S))(s:dP B.S):TR B.S:=match l with
 |x::r=>match Ib B x with
  |some q=>match Ig B f q r with
   |some (st,k,n)=>.ok (Mh st k n) s
   |none=>.no
  |none=>.no
 | []=>.no
def SO(P:Program)(b:Builtin)(c:Call)(bI:dK B.S)(s:dP B.S):TR B.S:=match pc bI c.args.toList with
 |some l=>match b with
  |.len=>(match l,c.argTypes[0]? with
   | [x],some t=>SK B P t x s
   |_,_=>.no)
  |.append=>(match l,c.argTypes[0]?,c.argTypes[1]? with
   | [x,y],some t,some u=>Cx B P t u x y s
   |_,_,_=>.no)
  |.copy=>(match l,c.argTypes[0]? with
   | [x,y],some t=>Mm B P t x y s
   |_,_=>.no)
  |.min=>xr B Sv l s
  |.max=>xr B kM l s
  |_=>.no
 |none=>.no
def top(P:Program)(own:Bool)(op:Op)(bI:dK B.S)(s:dP B.S):TR B.S:=match op with
 |.move x=>sy (fk bI x) s
 |.assign x=>sy (fk bI x) s
 |.pick c a b=>match fk bI c with
  |some v=>match KJ B v with
   |some (st,t)=>bif st then sy (bif t then fk bI a else fk bI b) s else .sp t λt=>sy (bif t then fk bI a else fk bI b) s
   |none=>.no
  |none=>.no
 |.alloc t=>match vX P t with
  |some z=>Pu B (.a z) s
  |none=>match jB P t with
   |some z=>Mi B P t z s
   |none=>.no
 |.box _ x=>match fk bI x with
  |some v=>Pu B v s
  |none=>.no
 |.build t cA=>match sT bI cA.toList with
  |some l=>sy (Cy B P t l) s
  |none=>.no
 |.buildSlice t len cA=>match sT bI cA.toList with
  |some l=>qy B P t len own l s
  |none=>.no
 |.load t p=>match fk bI p with
  |some p=>Ia B P t p s
  |none=>.no
 |.store t p x=>match fk bI p with
  |some p=>match fk bI x with
   |some x=>Gw B P t p x s
   |none=>.no
  |none=>.no
 |.nilCheck x=>match fk bI x with
  |some v=>(match v.norm B with
   |.a (.mp id el off)=>.ok (.a (.mp id el off)) s
   |.a (.ip cs)=>.ok (.a (.ip cs)) s
   |.ip cs=>.ok (.ip cs) s
   |.fn f cs=>.ok (.fn f cs) s
   |_=>.no)
  |none=>.no
 |.binOp op t x y _=>match fk bI x with
  |some x=>match fk bI y with
   |some y=>SN B P op t x y s
   |none=>.no
  |none=>.no
 |.unOp op _ x=>match fk bI x with
  |some x=>Z9 B op x s
  |none=>.no
 |.convert src dst x=>match fk bI x with
  |some x=>yO B P src dst x s
  |none=>.no
 |.makeFunc (.func f) first fQ=>bif Nat.beq first.size 0 then(match pc bI fQ.toList with
   |some l=>.ok (.fn f l) s
   |none=>.no)else .no
 |.slice t x lo hi mx=>match fk bI x with
  |some x=>Gz B P t x bI lo hi mx s
  |none=>.no
 |.fieldAddr t x i=>match fk bI x with
  |some x=>sy (Cv B P t x i) s
  |none=>.no
 |.field t x i=>match fk bI x with
  |some x=>sy (xp B P t x i) s
  |none=>.no
 |.indexAddr t x i=>match fk bI x with
  |some x=>match fk bI i with
   |some i=>Mj B P t x i s
   |none=>.no
  |none=>.no
 |.index t x i=>match fk bI x with
  |some x=>match fk bI i with
   |some i=>Gx B P t x i s
   |none=>.no
  |none=>.no
 |.extract x i=>match fk bI x with
  |some v=>(match v.norm B with
   |.ec vs=>sy vs[i]? s
   |_=>.no)
  |none=>.no
 |.makeSlice t l c=>Mo B P t l c bI s
 |.call c=>match c.callee with
  |.builtin b=>SO B P b c bI s
  |_=>.no
 |_=>.no
end
end Go.Am
