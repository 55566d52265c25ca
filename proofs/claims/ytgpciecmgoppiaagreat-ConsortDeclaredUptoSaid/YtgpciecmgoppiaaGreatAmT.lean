/- The logic AM, T: typed values and states; what an operation gives, and what it asks to know. -/
import Derived.Test.YtgpciecmgoppiaaGreatAmW
set_option linter.all false
namespace Go.Am
open Go.RowKit
inductive TV (S:Nat->Type) where
 |a (x:AV)
 |i (k:IntKind) (n:Int)
 |b (x:Bool)
 |z (x:ByteArray)
 |v (c:Nat) (x:S c)
 |l (full:Bool) (c:Nat) (x:List (S c))
 |s (full:Bool) (cs:List (TV S))
 |agg (cs:List (TV S))
 |dS (cs:List (TV S))
 |ip (cs:List (TV S))
 |fn (f:FuncId) (cs:List (TV S))
 |pt (id bq len:Nat)
section
variable {S:Nat->Type} (E:(c:Nat)->S c->AV)
mutual
def TV.er:TV S->AV
 |.a x=>x
 |.i k n=>.int k n
 |.b x=>.bool x
 |.z x=>.str x
 |.v c x=>E c x
 |.l f c x=>.sl f (x.map (E c))
 |.s f cs=>.sl f (dY cs)
 |.agg cs=>.agg (dY cs)
 |.dS cs=>.dS (dY cs)
 |.ip cs=>.ip (dY cs)
 |.fn f cs=>.fn f (dY cs)
 |.pt id st n=>.ms id st n
def dY:List (TV S)->List AV
 | []=>[]
 |x::r=>x.er::dY r
end
theorem eD: ∀l:List (TV S),dY E l=l.map (TV.er E)
 | []=>rfl
 |x::r=>by simp[dY,eD r]
def TV.QD:TV S->Bool
 |.v _ _=>true
 |_=>false
end
abbrev TV.n{S:Nat->Type}(n:Int):TV S:=.i .i64 n
structure yL where
 n:Nat
 ps:List Tmp
 as:Code
 body:Code
inductive TB (S:Nat->Type) where
 |cu (cq:Nat) (l:List (TV S))
 |ls (cq c:Nat) (x:List (S c)) (n:Nat) (h:n=x.length)
 |raw (b:gM)
 |rows (cq c:Nat) (x:List (S c)) (v:List (TV S)) (n:Nat)
 |lp (c:Nat) (bf:List (Nat×TV S)) (st:Nat) (pd:Option (Option Nat))
 |fm (cq c w:Nat) (cl:Bool) (pre:List (S c)) (lA:List (TV S)) (post:List (S c))
 |fr (c:Nat) (cl:Bool) (pre:List (S c)) (n:Nat) (post:List (S c))
inductive ZB (S:Nat->Type) where
 |o (cq:Nat) (l:List (TV S))
 |l (cq c:Nat) (x:List (S c))
def Ga{S:Nat->Type}(E:(c:Nat)->S c->AV):ZB S->Nat×List AV
 |.o n l=>(n,dY E l)
 |.l n c x=>(n,x.map (E c))
def Nc(p:Nat×List AV):gM:=.cells p.1 p.2
def G8(r:Nat):Nat->List (Nat×gM)->List (Nat×gM)
 |0,h=>h
 |k+1,h=>G8 r k (dZ h (r+k))
structure Bl {S:Nat->Type} (E:(c:Nat)->S c->AV) (W K:Nat->Nat) (Y:(c:Nat)->Nat->S c->TV S) (Z:(c:Nat)->Nat->S c->List (ZB S)) (c:Nat):Prop where
 hk:K c<=4
 hz: ∀(r:Nat)(y:S c),(Z c r y).length=K c
 hw: ∀(r:Nat)(y:S c),((Y c r y).er E).cells.length=W c
 hs:0<K c-> ∀(y:S c)x,x∈(E c y).cells->x.cJ=true
 hf: ∀(r:Nat)(y:S c)(s:St)(G:bS)(w:World),eG G s w->(∀(j:Nat)(z:ZB S),(Z c r y)[j]? =some z->bn s.heap (r+j)=some (Nc (Ga E z)))->
  ∃G',eG G' ⟨G8 r (K c) s.heap,s.bN⟩ w/\Ext G s w G' ⟨G8 r (K c) s.heap,s.bN⟩ w/\ ∀(j:Nat)x x' v,((Y c r y).er E).cells[j]? =some x->(E c y).cells[j]? =some x'->V G x v->V G' x' v
 hi:0<K c-> ∀x y:S c,E c x=E c y->x=y
 hr: ∀(ok:Nat->Bool)(π:Nat->Nat)(r r':Nat)(y:S c),(∀j,j<K c->ok (r+j)=true/\π (r+j)=r'+j)->Co ok π ((Y c r y).er E) ((Y c r' y).er E)/\
  ∀(j:Nat)(b b':ZB S),(Z c r y)[j]? =some b->(Z c r' y)[j]? =some b'->AD ok π (Nc (Ga E b)) (Nc (Ga E b'))
structure iU where
 S:Nat->Type
 E:(c:Nat)->S c->AV
 X:(c:Nat)->S c->TV S
 D:(c:Nat)->TV S->Option (S c)
 T:TypeId->Option Nat
 hX: ∀c x,(X c x).er E=E c x
 hv: ∀c x,(X c x).QD=false
 hc: ∀c x,(E c x).dn=true
 W:Nat->Nat
 hw: ∀c x,(E c x).cells.length=W c
 C:Nat->yL
 K:Nat->Nat
 Y:(c:Nat)->Nat->S c->TV S
 Z:(c:Nat)->Nat->S c->List (ZB S)
 hF: ∀c,Bl E W K Y Z c
abbrev TB.lz{S:Nat->Type}(cq c:Nat)(x:List (S c)):TB S:=.ls cq c x x.length rfl
structure dH (S:Nat->Type) where
 heap:List (Nat×TB S)
 bN:Nat
abbrev dB(S:Nat->Type):=List (Nat×TV S)
inductive TR (S:Nat->Type) where
 |no
 |ok (v:TV S) (s:dH S)
 |eq (x y:AV) (k:TR S)
 |el (c:Nat) (l:List (S c)) (i:Nat) (k:S c->TR S)
 |ix (c:Nat) (l:List (S c)) (i:Int) (k:S c->TR S)
 |bZ (p:Prop) (k:TR S)
 |sp (b:Bool) (k:Bool->TR S)
def TR.wp{S:Nat->Type}:TR S->(TV S->dH S->Prop)->Prop
 |.no,_=>False
 |.ok v s,K=>K v s
 |.eq x y k,K=>x=y/\k.wp K
 |.el _ l i k,K=> ∃y,l[i]? =some y/\(k y).wp K
 |.ix _ l i k,K=> ∃y,Go.Am.ix l i=some y/\(k y).wp K
 |.bZ p k,K=>p/\k.wp K
 |.sp b k,K=>(k b).wp K
section
variable (B:iU)
def eI:dB B.S->Env
 | []=>[]
 |(t,x)::r=>(t,x.er B.E)::eI r
def Cx:Nat->LoopState
 |0=>.ready
 |1=>.busy
 |_=>.done
def G9:Option (Option Nat)->Option Code
 |none=>none
 |some none=>some .ret
 |some (some i)=>some (.exit i)
def cO:Nat:=4096
def vF:Nat:=20000
def iS(c w:Nat):Nat->List (B.S c)->List AV
 |_,[]=>[]
 |i,y::r=>bif Nat.blt i cO then(B.Y c (w+1+B.K c*i) y).er B.E::iS c w (i+1) r else []
def fT:TB B.S->gM
 |.cu n l=>.cells n (dY B.E l)
 |.ls n c x _ _=>.cells n (x.map (B.E c))
 |.raw b=>b
 |.rows n c x v m=>.cells n (x.map (B.E c)++(dY B.E v++List.replicate m (.sl true [])))
 |.lp c bf st pd=>.loop ⟨eI B bf,(B.C c).n,(B.C c).ps,(B.C c).as,(B.C c).body,Cx st,G9 pd⟩
 |.fm n c w cl pre lA post=>.cells n ((bif cl then pre.map (B.E c)else iS B c w 0 pre)++(dY B.E lA++iS B c w (pre.length+lA.length) post))
 |.fr _ _ _ _ _=>.cells 1 []
def kS:List (Nat×TB B.S)->List (Nat×gM)
 | []=>[]
 |(i,b)::r=>(i,fT B b)::kS r
def jT:Nat->List (ZB B.S)->List (Nat×gM)
 |_,[]=>[]
 |i,b::r=>(i,Nc (Ga B.E b))::jT (i+1) r
def gW(c w:Nat):Nat->List (B.S c)->List (Nat×gM)
 |_,[]=>[]
 |i,y::r=>bif Nat.blt i cO then jT B (w+1+B.K c*i) (B.Z c (w+1+B.K c*i) y)++gW c w (i+1) r else []
def eP(w:Nat):TB B.S->List (Nat×gM)
 |.fr c cl pre n post=>(bif cl then []else gW B c w 0 pre)++gW B c w (pre.length+n) post
 |_=>[]
def mN:List (Nat×TB B.S)->List (Nat×gM)
 | []=>[]
 |(i,b)::r=>eP B i b++mN r
def db(s:dH B.S):St:=⟨kS B s.heap++mN B s.heap,s.bN⟩
def gi{S:Nat->Type}:TB S->Bool
 |.fr _ _ _ _ _=>true
 |_=>false
def fV(w id:Nat):Bool:=Nat.ble id w||Nat.ble (w+vF) id
def ia{S:Nat->Type}:List (Nat×TB S)->Nat->Bool
 | [],_=>true
 |(w,.fr _ _ _ _ _)::r,id=>fV w id&&!(Nat.beq w id)&&ia r id
 |_::r,id=>ia r id
def TV.norm:TV B.S->TV B.S
 |.v c x=>B.X c x
 |x=>x
def Cy{S:Nat->Type}:TV S->List (TV S)
 |.agg cs=>cs
 |.a x=>x.cells.map .a
 |x=>[x]
def dQ(x:TV B.S):List (TV B.S):=Cy (x.norm B)
def nT(P:Program)(t:TypeId)(cs:List (TV B.S)):Option (TV B.S):=match DC P t with
 |some true=>match cK P t with
  |some n=>bif Nat.ble n cs.length then some (.agg (cs.take n))else none
  |none=>none
 |some false=>match cs with
  |x::_=>some x
  | []=>none
 |none=>none
def sx{S:Nat->Type}(o:Option (TV S))(s:dH S):TR S:=match o with
 |some v=>.ok v s
 |none=>.no
def pO{S:Nat->Type}:TV S->Bool
 |.a x=>x.cJ
 |.agg _=>false
 |.dS _=>false
 |.v _ _=>false
 |_=>true
def Cz{S:Nat->Type}:TV S->Bool
 |.agg _=>true
 |.a x=>x.isAgg
 |_=>false
def rz(e:TV B.S)(cs:List (TV B.S)):TV B.S:=bif Cz (e.norm B)then .agg cs else match cs with
 |x::_=>x
 | []=>.a .any
def pq{S:Nat->Type}(cs:List (TV S))(off:Nat)(new:List (TV S)):List (TV S):=cs.take off++(new++cs.drop (off+new.length))
def IK(P:Program)(t:TypeId)(p:TV B.S)(s:dH B.S):TR B.S:=match p.norm B with
 |.ip cs=>sx (nT B P t cs) s
 |.a p=>match p with
  |.ip cs=>sx (nT B P t (cs.map .a)) s
  |.mp id el off=>match bn s.heap id with
   |some (.cu _ l)=>match l[el]? with
    |some e=>sx (nT B P t ((dQ B e).drop off)) s
    |none=>.no
   |some (.ls _ c x _ _)=>.el c x el λy=>sx (nT B P t ((dQ B (.v c y)).drop off)) s
   |some (.rows _ c x v _)=>(match v with
    | [w]=>.bZ (el=x.length)<|sx (nT B P t ((dQ B w).drop off)) s
    |_=>.no)
   |some (.fm _ c _ _ pre lA _)=>(match lA with
    | [w]=>.bZ (el=pre.length/\el<=cO)<|sx (nT B P t ((dQ B w).drop off)) s
    |_=>.no)
   |_=>.no
  |_=>.no
 |_=>.no
def Ha(c:Nat)(x:TV B.S)(k:B.S c->TR B.S):TR B.S:=match B.D c x with
 |some y=>.eq (B.E c y) (x.er B.E) (k y)
 |none=>.no
def Hb(P:Program)(t:TypeId)(p v:TV B.S)(s:dH B.S):TR B.S:=match p.norm B with
 |.a (.mp id el off)=>match bn s.heap id with
  |some (.cu cq l)=>match l[el]? with
   |some e=>bif eV (cK P t) (dQ B v).length&&Nat.ble (off+(dQ B v).length) (dQ B e).length&&(dQ B v).all pO then
    .ok (.a .any) ⟨dM s.heap id (.cu cq (l.set el (rz B e (pq (dQ B e) off (dQ B v))))),s.bN⟩else .no
   |none=>.no
  |some (.ls cq c x m hm)=>.el c x el λy=>bif eV (cK P t) (dQ B v).length&&Nat.ble (off+(dQ B v).length) (dQ B (.v c y)).length&&(dQ B v).all pO then
    Ha B c (rz B (.v c y) (pq (dQ B (.v c y)) off (dQ B v))) λy'=>.ok (.a .any) ⟨dM s.heap id (.ls cq c (x.set el y') m (hm.trans List.length_set.symm)),s.bN⟩else .no
  |some (.rows cq c x w m)=>(match w with
   | [e]=>.bZ (el=x.length)<|bif eV (cK P t) (dQ B v).length&&Nat.ble (off+(dQ B v).length) (dQ B e).length&&(dQ B v).all pO then
    .ok (.a .any) ⟨dM s.heap id (.rows cq c x [rz B e (pq (dQ B e) off (dQ B v))] m),s.bN⟩else .no
   |_=>.no)
  |some (.fm cq c w cl pre lA post)=>(match lA with
   | [e]=>.bZ (el=pre.length/\el<=cO)<|bif eV (cK P t) (dQ B v).length&&Nat.ble (off+(dQ B v).length) (dQ B e).length&&(dQ B v).all pO then
    .ok (.a .any) ⟨dM s.heap id (.fm cq c w cl pre [rz B e (pq (dQ B e) off (dQ B v))] post),s.bN⟩else .no
   |_=>.no)
  |_=>.no
 |_=>.no
def QE(v:TV B.S)(s:dH B.S):TR B.S:=
 bif Nat.blt 0 (dQ B v).length&&(dQ B v).all pO then .ok (.a (.mp s.bN 0 0)) ⟨(s.bN,.cu (dQ B v).length [v])::s.heap,s.bN+1⟩else .no
def CA(P:Program)(t:TypeId)(p:TV B.S)(i:Nat):Option (TV B.S):=match nN P t i with
 |some (off,n)=>bif Nat.beq n 0 then none else match p.norm B with
  |.a (.mp id el o)=>some (.a (.mp id el (o+off)))
  |.a (.ip cs)=>some (.a (.ip (cs.drop off)))
  |.ip cs=>some (.ip (cs.drop off))
  |_=>none
 |none=>none
def xr(P:Program)(t:TypeId)(x:TV B.S)(i:Nat):Option (TV B.S):=match nN P t i with
 |some (off,_)=>match B0 P t i with
  |some ft=>bif Cz (x.norm B)then nT B P ft ((dQ B x).drop off)else none
  |none=>none
 |none=>none
def IL(x:TV B.S):Option (Bool×IntKind×Int):=match x.norm B with
 |.i k n=>some (false,k,n)
 |.a (.int k n)=>some (true,k,n)
 |_=>none
def LQ(x:TV B.S):Option (Bool×Bool):=match x.norm B with
 |.b t=>some (false,t)
 |.a (.bool t)=>some (true,t)
 |_=>none
def Nf{S:Nat->Type}(st:Bool)(k:IntKind)(n:Int):TV S:=bif st then .a (.int k n)else .i k n
def QF{S:Nat->Type}(st:Bool)(t:Bool):TV S:=bif st then .a (.bool t)else .b t
def Xp:Int->Bool
 |.ofNat _=>false
 |.negSucc _=>true
def lB{S:Nat->Type}(st:Bool)(n:Int)(k:TR S):TR S:=bif st then(bif Xp n then .no else k)else .bZ (0<=n) k
def nn(c:Nat):List (TV B.S)->(List (B.S c)->TR B.S)->TR B.S
 | [],k=>k []
 |x::r,k=>Ha B c x λy=>nn c r λys=>k (y::ys)
def Dx{S:Nat->Type}(m n:Nat)(k:TR S):TR S:=.eq (.mp m 0 0) (.mp n 0 0) k
def IM(P:Program)(e c:Nat)(x:List (B.S c))(n:Int)(s:dH B.S):TR B.S:=
 bif eV (cK P e) (B.W c)then .ix c x n λy=>.ok (.ip (dQ B (.v c y))) s else .no
def Ng(P:Program)(t:TypeId)(z:AV)(s:dH B.S):TR B.S:=match tF P t with
 |some (m,e)=>match cK P e with
  |some n=>match B.T e with
   |some c=>bif Nat.blt 0 m&&(Nat.blt 0 n&&(Nat.beq z.cells.length (m*n)&&z.cells.all AV.cJ))then nn B c ((chunk n m z.cells).map .a) λys=>.ok (.a (.mp s.bN 0 0)) ⟨(s.bN,.lz n c ys)::s.heap,s.bN+1⟩else .no
   |none=>.no
  |none=>.no
 |none=>.no
def Nh(P:Program)(t:TypeId)(x i:TV B.S)(s:dH B.S):TR B.S:=match IL B i with
 |some (st,_,n)=>match dy P t with
  |some e=>match x.norm B with
   |.l _ c xs=>IM B P e c xs n s
   |.s _ cs=>bif st then(match n with
     |.ofNat m=>match cs[m]? with
      |some y=>bif eV (cK P e) (dQ B y).length then .ok (.ip (dQ B y)) s else .no
      |none=>.no
     |_=>.no)
    else match B.T e with
     |some c=>nn B c cs λxs=>IM B P e c xs n s
     |none=>.no
   |.a (.ms id bq len)=>match bn s.heap id with
    |some (.ls cq c xs m _)=>bif Nat.beq bq 0&&eV (cK P e) cq then Dx len m (.ix c xs n λ_=>.ok (.a (.mp id n.toNat 0)) s)else .no
    |some (.cu cq _)=>bif st&&eV (cK P e) cq then(match n with
      |.ofNat m=>bif Nat.blt m len then .ok (.a (.mp id (bq+m) 0)) s else .no
      |_=>.no)
     else .no
    |some (.rows cq _ _ _ _)=>bif Nat.beq bq 0&&eV (cK P e) cq then .bZ (0<=n/\n<(len:Int))<|.ok (.a (.mp id n.toNat 0)) s else .no
    |some (.fm cq _ _ _ _ _ _)=>bif Nat.beq bq 0&&eV (cK P e) cq then .bZ (0<=n/\n<(len:Int))<|.ok (.a (.mp id n.toNat 0)) s else .no
    |_=>.no
   |_=>.no
  |none=>match tF P t with
   |some (m,e)=>match cK P e with
    |some sz=>bif Nat.blt 8 (m*sz)then(match x.norm B with
     |.a (.mp id el off)=>(match bn s.heap id with
      |some (.ls cq c xs _ _)=>bif Nat.beq el 0&&(Nat.beq off 0&&Nat.beq cq sz)then .bZ (n<(m:Int))<|.ix c xs n λ_=>.ok (.a (.mp id n.toNat 0)) s else .no
      |_=>.no)
     |_=>.no)else bif st then(match n with
      |.ofNat j=>bif Nat.blt j m then(match x.norm B with
       |.a (.mp id el off)=>.ok (.a (.mp id el (off+j*sz))) s
       |.a (.ip cs)=>.ok (.a (.ip (cs.drop (j*sz)))) s
       |.ip cs=>.ok (.ip (cs.drop (j*sz))) s
       |_=>.no)else .no
      |_=>.no)else .no
    |none=>.no
   |none=>.no
 |none=>.no
def AG(b:ByteArray)(n:Int):Int:=((b[n.toNat]?).map λc=>(c.toNat:Int)).getD 0
def Hc(P:Program)(t:TypeId)(x i:TV B.S)(s:dH B.S):TR B.S:=match IL B i with
 |some (st,_,n)=>match x.norm B with
  |.z b=>bif rX P t then .bZ (0<=n/\n<(b.size:Int))<|.ok (.i .u8 (AG b n)) s else .no
  |.a (.str b)=>bif rX P t then .bZ (0<=n/\n<(b.size:Int))<|.ok (.i .u8 (AG b n)) s else .no
  |_=>bif st&&Cz (x.norm B)then(match tF P t with
   |some (m,e)=>match cK P e with
    |some sz=>match n with
     |.ofNat j=>bif Nat.blt j m then sx (nT B P e ((dQ B x).drop (j*sz))) s else .no
     |_=>.no
    |none=>.no
   |none=>.no)else .no
 |none=>.no
def Ue(P:Program)(t:TypeId)(x:TV B.S)(s:dH B.S):TR B.S:=match x.norm B with
 |.l _ _ xs=>bif (dy P t).isSome then .ok (.i .i64 xs.length) s else .no
 |.s _ cs=>bif (dy P t).isSome then .ok (.a (.int .i64 cs.length)) s else .no
 |.pt _ _ n=>bif (dy P t).isSome then .ok (.i .i64 n) s else .no
 |.a (.ms _ _ n)=>bif (dy P t).isSome then .ok (.i .i64 n) s else .no
 |.z b=>bif rX P t then .ok (.i .i64 b.size) s else .no
 |.a x=>match wW P t x with
  |some v=>.ok (.a v) s
  |none=>.no
 |_=>.no
def fp{S:Nat->Type}(bf:dB S):Operand->Option (TV S)
 |.tmp t=>bn bf t
 |.const v=>match ofValue v with
  |some x=>some (.a x)
  |none=>none
 |.func f=>some (.fn f [])
 |.global _=>none
def nU{S:Nat->Type}(bf:dB S):List Operand->Option (List (TV S))
 | []=>some []
 |x::r=>match fp bf x with
  |some v=>match nU bf r with
   |some l=>some (v::l)
   |none=>none
  |none=>none
def qD(bf:dB B.S)(x:Option Operand)(d:Nat)(k:Nat->TR B.S):TR B.S:=match x with
 |none=>k d
 |some o=>match fp bf o with
  |some v=>match IL B v with
   |some (st,_,n)=>lB st n (k n.toNat)
   |none=>.no
  |none=>.no
def kT{S:Nat->Type}(b:Bool)(p:Prop)(k:TR S):TR S:=bif b then k else .bZ p k
def Ni(bf:dB B.S)(x:Option Operand):Bool:=match x with
 |none=>true
 |some o=>match fp bf o with
  |some (.a (.int _ (.ofNat 0)))=>true
  |_=>false
def xt(P:Program)(e:TypeId)(w:Bool)(id bq len:Nat)(bf:dB B.S)(lo hi:Option Operand)(s:dH B.S):TR B.S:=
 bif (match bn s.heap id with
  |some (.ls cq _ _ _ _)=>eV (cK P e) cq
  |some (.cu cq _)=>eV (cK P e) cq
  |_=>false)then
  qD B bf lo 0 λl=>qD B bf hi len λh=>kT (Ni B bf lo) (l<=h)<|kT hi.isNone (h<=len)<|.ok (.pt id (bif w then l else bq+l) (bif Ni B bf lo then h else h-l)) s
 else .no
def Hd(P:Program)(t:TypeId)(x:TV B.S)(bf:dB B.S)(lo hi mx:Option Operand)(s:dH B.S):TR B.S:=match mx with
 |some _=>.no
 |none=>match dy P t with
  |some e=>match x.norm B with
   |.l f c xs=>bif eV (cK P e) (B.W c)then qD B bf lo 0 λl=>qD B bf hi xs.length λh=>
    kT (Ni B bf lo) (l<=h)<|kT hi.isNone (h<=xs.length)<|.ok (.l (bif f then Nat.beq h xs.length else false) c ((xs.take h).drop l)) s else .no
   |.a (.ms id bq len)=>xt B P e (Nat.beq bq 0) id bq len bf lo hi s
   |.pt id bq len=>xt B P e false id bq len bf lo hi s
   |_=>.no
  |none=>match x.norm B with
   |.z b=>bif rX P t then qD B bf lo 0 λl=>qD B bf hi b.size λh=>.bZ (l<=h/\h<=b.size)<|.ok (.z (b.extract l h)) s else .no
   |_=>.no
def yM(P:Program)(e:TypeId):Option Nat:=match cK P e,mn P e with
 |some sz,some vp=>bif Nat.blt 0 sz&&Nat.ble vp 4096&&nO P e sz then some sz else none
 |_,_=>none
def oD{S:Nat->Type}(n:Nat)(b:TB S)(h:List (Nat×TB S))(c:Nat):TR S:=.ok (.a (.ms c 0 n)) ⟨(c,b)::h,c+1⟩
def Nj(P:Program)(e sz:Nat)(x:TV B.S)(cs:List (TV B.S))(s:dH B.S):TR B.S:=match x.norm B with
 |.a (.sl true [])=>bif Nat.ble cs.length bc then(match B.T e with
   |some c=>nn B c cs λys=>oD cs.length (.lz sz c ys) s.heap s.bN
   |none=>oD cs.length (.cu sz cs) s.heap s.bN)else .no
 |.l true c xs=>bif eV (cK P e) (B.W c)then nn B c cs λys=>.bZ (xs.length+cs.length<=bc)<|oD (xs++ys).length (.lz sz c (xs++ys)) s.heap s.bN else .no
 |.a (.ms id bq n)=>match bn s.heap id with
  |some (.ls cq c xs m _)=>bif Nat.beq cq sz&&Nat.beq bq 0&&ia s.heap id then nn B c cs λys=>Dx n m<|.bZ (xs.length+cs.length<=bc)<|oD (xs++ys).length (.lz sz c (xs++ys)) (dZ s.heap id) s.bN else .no
  |some (.cu cq l)=>bif Nat.beq cq sz&&Nat.beq bq 0&&Nat.ble (l.length+cs.length) bc&&ia s.heap id then Dx n l.length<|oD (l.length+cs.length) (.cu sz (l++cs)) (dZ s.heap id) s.bN else .no
  |some (.fm cq c w cl pre lA post)=>(match lA with
   | []=>(match post with
    | []=>bif Nat.beq cq sz&&Nat.beq bq 0&&ia s.heap id&&Nat.ble cs.length cO then Dx n pre.length<|.bZ (pre.length<cO)<|oD (pre.length+cs.length) (.fm sz c w cl pre cs []) (dZ s.heap id) s.bN else .no
    |_=>.no)
   |_=>.no)
  |_=>.no
 |.pt id bq n=>match bn s.heap id with
  |some (.ls cq c xs _ _)=>bif Nat.beq cq sz&&ia s.heap id then nn B c cs λys=>.bZ (bq+n<=xs.length)<|.bZ (n+cs.length<=bc)<|oD (((xs.drop bq).take n)++ys).length (.lz sz c (((xs.drop bq).take n)++ys)) (dZ s.heap id) s.bN else .no
  |_=>.no
 |_=>.no
def Bm{S:Nat->Type}(c d:Nat)(x:List (S c)):Option (List (S d)):=if h:c=d then some (h ▸ x)else none
def IP(x:TV B.S)(s:dH B.S):TR B.S:=match x.norm B with
 |.a (.sl _ _)=>.ok x s
 |.a (.ms _ _ _)=>.ok x s
 |.l _ _ _=>.ok x s
 |.s _ _=>.ok x s
 |.pt _ _ _=>.ok x s
 |_=>.no
def Nk(P:Program)(e sz:Nat)(x:TV B.S)(c:Nat)(ys:List (B.S c))(s:dH B.S):TR B.S:=.sp ys.isEmpty λem=>bif em then IP B x s else match x.norm B with
 |.a (.sl true [])=>.bZ (ys.length<=bc)<|oD ys.length (.lz sz c ys) s.heap s.bN
 |.l true d xs=>bif eV (cK P e) (B.W d)then(match Bm c d ys with
   |some ys=>.bZ (xs.length+ys.length<=bc)<|oD (xs++ys).length (.lz sz d (xs++ys)) s.heap s.bN
   |none=>.no)else .no
 |.a (.ms id bq n)=>match bn s.heap id with
  |some (.ls cq d xs m _)=>bif Nat.beq cq sz&&Nat.beq bq 0&&ia s.heap id then(match Bm c d ys with
    |some ys=>Dx n m<|.bZ (xs.length+ys.length<=bc)<|oD (xs++ys).length (.lz sz d (xs++ys)) (dZ s.heap id) s.bN
    |none=>.no)else .no
  |_=>.no
 |.pt id bq n=>match bn s.heap id with
  |some (.ls cq d xs _ _)=>bif Nat.beq cq sz&&ia s.heap id then(match Bm c d ys with
    |some ys=>.bZ (bq+n<=xs.length)<|.bZ (n+ys.length<=bc)<|oD (((xs.drop bq).take n)++ys).length (.lz sz d (((xs.drop bq).take n)++ys)) (dZ s.heap id) s.bN
    |none=>.no)else .no
  |_=>.no
 |_=>.no
def CB(P:Program)(e:TypeId)(y:TV B.S)(s:dH B.S)(k1:List (TV B.S)->TR B.S)(k2:(c:Nat)->List (B.S c)->TR B.S):TR B.S:=match y.norm B with
 |.s _ cs=>bif (match cs with| []=>true|x::_=>eV (cK P e) (dQ B x).length)then k1 cs else .no
 |.a (.sl _ [])=>k1 []
 |.l _ c ys=>bif eV (cK P e) (B.W c)then k2 c ys else .no
 |.a (.ms id bq n)=>match bn s.heap id with
  |some (.ls cq c xs m _)=>bif eV (cK P e) cq&&Nat.beq bq 0 then Dx n m (k2 c xs)else .no
  |some (.cu cq l)=>bif eV (cK P e) cq&&Nat.beq bq 0 then Dx n l.length (k1 l)else .no
  |_=>.no
 |.pt id bq n=>match bn s.heap id with
  |some (.ls cq c xs _ _)=>bif eV (cK P e) cq then .bZ (bq+n<=xs.length) (k2 c ((xs.drop bq).take n))else .no
  |_=>.no
 |_=>.no
def CC(P:Program)(t u:TypeId)(x y:TV B.S)(s:dH B.S):TR B.S:=match dy P t with
 |some e=>match yM P e with
  |some sz=>bif (dy P u).isSome then CB B P e y s (λcs=>match cs with
   | []=>IP B x s
   |cs=>Nj B P e sz x cs s) (λc ys=>Nk B P e sz x c ys s)else .no
  |none=>.no
 |none=>.no
def QG{α:Type}(xs:List α)(a n:Nat)(ys:List α):List α:=xs.take a++(ys.take (min ys.length n)++xs.drop (a+min ys.length n))
def Nl(P:Program)(t:TypeId)(x y:TV B.S)(s:dH B.S):TR B.S:=match dy P t with
 |some e=>CB B P e y s (λ_=>.no) λc ys=>match x.norm B with
  |.pt id bq n=>match bn s.heap id with
   |some (.ls cq d xs _ _)=>bif eV (cK P e) cq then(match Bm c d ys with
    |some ys=>.bZ (bq+n<=xs.length)<|.ok (.i .i64 (min ys.length n:Nat)) ⟨dM s.heap id (.lz cq d (QG xs bq n ys)),s.bN⟩
    |none=>.no)else .no
   |_=>.no
  |_=>.no
 |none=>.no
def Nn:Operand->Operand->Bool
 |.tmp a,.tmp b=>Nat.beq a b
 |_,_=>false
def QH:AV->Bool
 |.sl true []=>true
 |_=>false
def Np(P:Program)(t:TypeId)(lo co:Operand)(bf:dB B.S)(s:dH B.S):TR B.S:=match fp bf lo,fp bf co,dy P t with
 |some l,some c,some e=>match IL B l,IL B c with
  |some (sn,_,n),some (sm,_,m)=>match yM P e,iT P e with
   |some sz,some z=>bif Nat.beq z.cells.length sz&&z.cells.all AV.cJ then
     lB sn n<|(bif sn&&sm then(λk=>bif decide (n<=m)&&decide (m<=(bc:Int))then k else .no)elseλk=>kT (Nn lo co) (n<=m) (.bZ (m<=(bc:Int)) k))<|match B.T e with
      |some c=>bif QH z then oD n.toNat (.rows sz c [] [] n.toNat) s.heap s.bN else Ha B c (.a z) λy=>oD (List.replicate n.toNat y).length (.lz sz c (List.replicate n.toNat y)) s.heap s.bN
      |none=>bif sn then oD n.toNat (.cu sz (List.replicate n.toNat (.a z))) s.heap s.bN else .no
    else .no
   |_,_=>.no
  |_,_=>.no
 |_,_,_=>.no
def El(bL:Nat->Option (Nat×Nat))(cells:List (TV B.S)):List (Nat×TV B.S)->Option (List (TV B.S))
 | []=>some cells
 |(i,v)::r=>match bL i with
  |some (off,n)=>bif Nat.beq (dQ B v).length n&&(dQ B v).all pO&&Nat.ble (off+n) cells.length then El bL (pq cells off (dQ B v)) r else none
  |none=>none
def sP{S:Nat->Type}(bf:dB S):List (Nat×Operand)->Option (List (Nat×TV S))
 | []=>some []
 |(i,x)::r=>match fp bf x with
  |some v=>match sP bf r with
   |some l=>some ((i,v)::l)
   |none=>none
  |none=>none
def CD(P:Program)(t:TypeId)(bW:List (Nat×TV B.S)):Option (TV B.S):=match iT P t with
 |some (.agg cs)=>bif xn P t then(match El B (nN P t) (cs.map .a) bW with
   |some l=>some (.agg l)
   |none=>none)
  else match tF P t with
  |some (_,e)=>match cK P e with
   |some sz=>match El B (λi=>some (i*sz,sz)) (cs.map .a) bW with
    |some l=>some (.agg l)
    |none=>none
   |none=>none
  |none=>none
 |_=>none
def rA{S:Nat->Type}(l:List (Nat×TV S))(i:Nat):Bool:=match l with
 | []=>true
 |(j,_)::r=>Nat.beq j i&&rA r (i+1)
def qE(P:Program)(t:TypeId)(len:Nat)(own:Bool)(bW:List (Nat×TV B.S))(s:dH B.S):TR B.S:=match dy P t with
 |some e=>match cK P e,iT P e with
  |some sz,some z=>bif Nat.beq bW.length len&&rA bW 0&&(bW.all λp=>Nat.beq (dQ B p.2).length sz&&(dQ B p.2).all pO)&&Nat.ble (len*sz) 16777216&&Nat.blt 0 sz&&Nat.beq z.cells.length sz then
   (bif own then(match B.T e with
    |some c=>nn B c (bW.map (·.2)) λys=>oD len (.lz sz c ys) s.heap s.bN
    |none=>oD len (.cu sz (bW.map (·.2))) s.heap s.bN)else .ok (bif Nat.beq len 0 then .a (.sl true [])else .s true (bW.map (·.2))) s)else .no
  |_,_=>.no
 |none=>.no
def Uf(op:BinOp)(k:IntKind)(sa sb:Bool)(x y:Int)(s:dH B.S):TR B.S:=match op with
 |.add=>.ok (Nf (sa&&sb) k (k.wrap (x+y))) s
 |.sub=>.ok (Nf (sa&&sb) k (k.wrap (x-y))) s
 |.mul=>.ok (Nf (sa&&sb) k (k.wrap (x*y))) s
 |.quo=>kT (sb&&!(decide (y=0))) (y≠0)<|.ok (Nf (sa&&sb) k (k.wrap (x.tdiv y))) s
 |.rem=>kT (sb&&!(decide (y=0))) (y≠0)<|.ok (Nf (sa&&sb) k (x.tmod y)) s
 |.eql=>.ok (QF (sa&&sb) (decide (x=y))) s
 |.neq=>.ok (QF (sa&&sb) (decide (x≠y))) s
 |.lss=>.ok (QF (sa&&sb) (decide (x<y))) s
 |.leq=>.ok (QF (sa&&sb) (decide (x<=y))) s
 |.gtr=>.ok (QF (sa&&sb) (decide (y<x))) s
 |.geq=>.ok (QF (sa&&sb) (decide (y<=x))) s
 |.shl=>lB sb y<|.ok (Nf (sa&&sb) k (k.wrap (x*2^(min y.toNat k.bits)))) s
 |.shr=>lB sb y<|.ok (Nf (sa&&sb) k (x.fdiv (2^(min y.toNat k.bits)))) s
 |_=>.no
def Sn{S:Nat->Type}:TV S->Bool
 |.a _=>true
 |.fn _ _=>true
 |_=>false
def QI:BinOp->Bool
 |.shl=>true
 |.shr=>true
 |_=>false
def Ug(P:Program)(op:BinOp)(t:TypeId)(x y:TV B.S)(s:dH B.S):TR B.S:=match IL B x,IL B y with
 |some (sa,k,a),some (sb,k',b)=>bif QI op||decide (k=k')then Uf B op k sa sb a b s else .no
 |_,_=>match Av P op t (x.er B.E) (y.er B.E)with
  |some (.bool r)=>.ok (QF (Sn x&&Sn y) r) s
  |_=>.no
def tUn(op:UnOp)(x:TV B.S)(s:dH B.S):TR B.S:=match op with
 |.not=>(match LQ B x with
  |some (st,b)=>.ok (QF st (!b)) s
  |none=>.no)
 |.neg=>(match IL B x with
  |some (st,k,n)=>.ok (Nf st k (k.wrap (0-n))) s
  |none=>.no)
 |_=>.no
def yN(P:Program)(src dst:TypeId)(x:TV B.S)(s:dH B.S):TR B.S:=match IL B x with
 |some (st,_,n)=>bif (P.underlying src).isSome then(match Au P dst with
   |some k=>.ok (Nf st k (k.wrap n)) s
   |none=>.no)else .no
 |none=>match x.norm B with
  |.z b=>bif (P.underlying src).isSome&&rX P dst then .ok (.z b) s else .no
  |.a (.str b)=>bif (P.underlying src).isSome&&rX P dst then .ok (.a (.str b)) s else .no
  |_=>.no
def IQ(f:Int->Int->Int):(Bool×IntKind×Int)->List (TV B.S)->Option (Bool×IntKind×Int)
 |x,[]=>some x
 |(st,k,a),y::r=>match IL B y with
  |some (Ao,k',b)=>bif decide (k=k')then IQ f (st&&Ao,k,f a b) r else none
  |none=>none
def xu(f:Int->Int->Int)(l:List (TV B.S))(s:dH B.S):TR B.S:=match l with
 |x::r=>match IL B x with
  |some q=>match IQ B f q r with
   |some (st,k,n)=>.ok (Nf st k n) s
   |none=>.no
  |none=>.no
 | []=>.no
def Uh(P:Program)(b:Builtin)(c:Call)(bf:dB B.S)(s:dH B.S):TR B.S:=match nU bf c.args.toList with
 |some l=>match b with
  |.len=>(match l,c.argTypes[0]? with
   | [x],some t=>Ue B P t x s
   |_,_=>.no)
  |.append=>(match l,c.argTypes[0]?,c.argTypes[1]? with
   | [x,y],some t,some u=>CC B P t u x y s
   |_,_,_=>.no)
  |.copy=>(match l,c.argTypes[0]? with
   | [x,y],some t=>Nl B P t x y s
   |_,_=>.no)
  |.min=>xu B Ej l s
  |.max=>xu B jZ l s
  |_=>.no
 |none=>.no
def TR.fz:TR B.S->TR B.S
 |.no=>.no
 |.ok v s=>match v with
  |.a (.ms id st n)=>match bn s.heap id with
   |some (.ls _ c xs _ _)=>bif Nat.beq st 0&&ia s.heap id then .eq (.mp n 0 0) (.mp xs.length 0 0) (.ok (.l false c xs) ⟨dZ s.heap id,s.bN⟩)else .no
   |_=>.no
  |v=>.ok v s
 |.eq x y k=>.eq x y k.fz
 |.el c l i k=>.el c l i λy=>(k y).fz
 |.ix c l i k=>.ix c l i λy=>(k y).fz
 |.bZ p k=>.bZ p k.fz
 |.sp b k=>.sp b λb=>(k b).fz
def TR.QJ(b:Bool)(r:TR B.S):TR B.S:=match b with
 |true=>TR.fz B r
 |false=>r
def top(P:Program)(own:Bool)(op:Op)(bf:dB B.S)(s:dH B.S):TR B.S:=match op with
 |.move x=>sx (fp bf x) s
 |.assign x=>sx (fp bf x) s
 |.pick c a b=>match fp bf c with
  |some v=>match LQ B v with
   |some (st,t)=>bif st then sx (bif t then fp bf a else fp bf b) s else .sp t λt=>sx (bif t then fp bf a else fp bf b) s
   |none=>.no
  |none=>.no
 |.alloc t=>match xU P t with
  |some z=>QE B (.a z) s
  |none=>match iT P t with
   |some z=>Ng B P t z s
   |none=>.no
 |.box _ x=>match fp bf x with
  |some v=>QE B v s
  |none=>.no
 |.build t bW=>match sP bf bW.toList with
  |some l=>sx (CD B P t l) s
  |none=>.no
 |.buildSlice t len bW=>match sP bf bW.toList with
  |some l=>qE B P t len own l s
  |none=>.no
 |.load t p=>match fp bf p with
  |some p=>IK B P t p s
  |none=>.no
 |.store t p x=>match fp bf p with
  |some p=>match fp bf x with
   |some x=>Hb B P t p x s
   |none=>.no
  |none=>.no
 |.nilCheck x=>match fp bf x with
  |some v=>(match v.norm B with
   |.a (.mp id el off)=>.ok (.a (.mp id el off)) s
   |.a (.ip cs)=>.ok (.a (.ip cs)) s
   |.ip cs=>.ok (.ip cs) s
   |.fn f cs=>.ok (.fn f cs) s
   |_=>.no)
  |none=>.no
 |.binOp op t x y _=>match fp bf x with
  |some x=>match fp bf y with
   |some y=>Ug B P op t x y s
   |none=>.no
  |none=>.no
 |.unOp op _ x=>match fp bf x with
  |some x=>tUn B op x s
  |none=>.no
 |.convert src dst x=>match fp bf x with
  |some x=>yN B P src dst x s
  |none=>.no
 |.makeFunc (.func f) first fi=>bif Nat.beq first.size 0 then(match nU bf fi.toList with
   |some l=>.ok (.fn f l) s
   |none=>.no)else .no
 |.slice t x lo hi mx=>match fp bf x with
  |some x=>Hd B P t x bf lo hi mx s
  |none=>.no
 |.fieldAddr t x i=>match fp bf x with
  |some x=>sx (CA B P t x i) s
  |none=>.no
 |.field t x i=>match fp bf x with
  |some x=>sx (xr B P t x i) s
  |none=>.no
 |.indexAddr t x i=>match fp bf x with
  |some x=>match fp bf i with
   |some i=>Nh B P t x i s
   |none=>.no
  |none=>.no
 |.index t x i=>match fp bf x with
  |some x=>match fp bf i with
   |some i=>Hc B P t x i s
   |none=>.no
  |none=>.no
 |.extract x i=>match fp bf x with
  |some v=>(match v.norm B with
   |.dS vs=>sx vs[i]? s
   |_=>.no)
  |none=>.no
 |.makeSlice t l c=>Np B P t l c bf s
 |.call c=>match c.callee with
  |.builtin b=>Uh B P b c bf s
  |_=>.no
 |_=>.no
end
end Go.Am
