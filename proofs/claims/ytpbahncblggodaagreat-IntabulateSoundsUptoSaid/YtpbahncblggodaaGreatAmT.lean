/- The logic AM, T: typed values and states; what an operation gives, and what it asks to know. -/
import Derived.Test.YtpbahncblggodaaGreatAmW
set_option linter.all false
namespace Go.Am
open Go.RowKit
inductive TV (S:Nat->Type) where
 |a (x:AV)
 |i (k:IntKind) (n:Int)
 |b (x:Bool)
 |z (x:ByteArray)
 |v (c:Nat) (x:S c)
 |l (full:Bool) (c:Nat) (x:List (S c))
 |s (full:Bool) (cs:List (TV S))
 |agg (cs:List (TV S))
 |dW (cs:List (TV S))
 |ip (cs:List (TV S))
 |fn (f:FuncId) (cs:List (TV S))
 |pt (id bL len:Nat)
section
variable {S:Nat->Type} (E:(c:Nat)->S c->AV)
mutual
def TV.er:TV S->AV
 |.a x=>x
 |.i k n=>.int k n
 |.b x=>.bool x
 |.z x=>.str x
 |.v c x=>E c x
 |.l f c x=>.sl f (x.map (E c))
 |.s f cs=>.sl f (dV cs)
 |.agg cs=>.agg (dV cs)
 |.dW cs=>.dW (dV cs)
 |.ip cs=>.ip (dV cs)
 |.fn f cs=>.fn f (dV cs)
 |.pt id st n=>.ms id st n
def dV:List (TV S)->List AV
 | []=>[]
 |x::r=>x.er::dV r
end
theorem ew: ∀l:List (TV S),dV E l=l.map (TV.er E)
 | []=>rfl
 |x::r=>by simp[dV,ew r]
def TV.OG:TV S->Bool
 |.v _ _=>true
 |_=>false
end
abbrev TV.n{S:Nat->Type}(n:Int):TV S:=.i .i64 n
structure xZ where
 n:Nat
 ps:List Tmp
 as:Code
 body:Code
inductive TB (S:Nat->Type) where
 |cE (cz:Nat) (l:List (TV S))
 |ls (cz c:Nat) (x:List (S c)) (n:Nat) (h:n=x.length)
 |raw (b:gp)
 |rows (cz c:Nat) (x:List (S c)) (v:List (TV S)) (n:Nat)
 |lp (c:Nat) (bI:List (Nat×TV S)) (st:Nat) (pd:Option (Option Nat))
 |fm (cz c w:Nat) (cl:Bool) (pre:List (S c)) (ky:List (TV S)) (post:List (S c))
 |fr (c:Nat) (cl:Bool) (pre:List (S c)) (n:Nat) (post:List (S c))
inductive ZB (S:Nat->Type) where
 |o (cz:Nat) (l:List (TV S))
 |l (cz c:Nat) (x:List (S c))
def ET{S:Nat->Type}(E:(c:Nat)->S c->AV):ZB S->Nat×List AV
 |.o n l=>(n,dV E l)
 |.l n c x=>(n,x.map (E c))
def Lb(p:Nat×List AV):gp:=.cells p.1 p.2
def FG(r:Nat):Nat->List (Nat×gp)->List (Nat×gp)
 |0,h=>h
 |k+1,h=>FG r k (eh h (r+k))
structure Ar {S:Nat->Type} (E:(c:Nat)->S c->AV) (W K:Nat->Nat) (Y:(c:Nat)->Nat->S c->TV S) (Z:(c:Nat)->Nat->S c->List (ZB S)) (c:Nat):Prop where
 hk:K c<=4
 hz: ∀(r:Nat)(y:S c),(Z c r y).length=K c
 hw: ∀(r:Nat)(y:S c),((Y c r y).er E).cells.length=W c
 hs:0<K c-> ∀(y:S c)x,x∈(E c y).cells->x.cS=true
 hf: ∀(r:Nat)(y:S c)(s:St)(G:bZ)(w:World),eA G s w->(∀(j:Nat)(z:ZB S),(Z c r y)[j]? =some z->bH s.heap (r+j)=some (Lb (ET E z)))->
  ∃G',eA G' ⟨FG r (K c) s.heap,s.bS⟩ w/\Ext G s w G' ⟨FG r (K c) s.heap,s.bS⟩ w/\ ∀(j:Nat)x x' v,((Y c r y).er E).cells[j]? =some x->(E c y).cells[j]? =some x'->V G x v->V G' x' v
 hi:0<K c-> ∀x y:S c,E c x=E c y->x=y
 hr: ∀(ok:Nat->Bool)(π:Nat->Nat)(r r':Nat)(y:S c),(∀j,j<K c->ok (r+j)=true/\π (r+j)=r'+j)->Co ok π ((Y c r y).er E) ((Y c r' y).er E)/\
  ∀(j:Nat)(b b':ZB S),(Z c r y)[j]? =some b->(Z c r' y)[j]? =some b'->Ai ok π (Lb (ET E b)) (Lb (ET E b'))
structure iP where
 S:Nat->Type
 E:(c:Nat)->S c->AV
 X:(c:Nat)->S c->TV S
 D:(c:Nat)->TV S->Option (S c)
 T:TypeId->Option Nat
 hX: ∀c x,(X c x).er E=E c x
 hv: ∀c x,(X c x).OG=false
 hc: ∀c x,(E c x).dv=true
 W:Nat->Nat
 hw: ∀c x,(E c x).cells.length=W c
 C:Nat->xZ
 K:Nat->Nat
 Y:(c:Nat)->Nat->S c->TV S
 Z:(c:Nat)->Nat->S c->List (ZB S)
 hF: ∀c,Ar E W K Y Z c
abbrev TB.lz{S:Nat->Type}(cz c:Nat)(x:List (S c)):TB S:=.ls cz c x x.length rfl
structure dI (S:Nat->Type) where
 heap:List (Nat×TB S)
 bS:Nat
abbrev dD(S:Nat->Type):=List (Nat×TV S)
inductive TR (S:Nat->Type) where
 |no
 |ok (v:TV S) (s:dI S)
 |eq (x y:AV) (k:TR S)
 |el (c:Nat) (l:List (S c)) (i:Nat) (k:S c->TR S)
 |ix (c:Nat) (l:List (S c)) (i:Int) (k:S c->TR S)
 |cr (p:Prop) (k:TR S)
 |sp (b:Bool) (k:Bool->TR S)
def TR.wp{S:Nat->Type}:TR S->(TV S->dI S->Prop)->Prop
 |.no,_=>False
 |.ok v s,K=>K v s
 |.eq x y k,K=>x=y/\k.wp K
 |.el _ l i k,K=> ∃y,l[i]? =some y/\(k y).wp K
 |.ix _ l i k,K=> ∃y,Go.Am.ix l i=some y/\(k y).wp K
 |.cr p k,K=>p/\k.wp K
 |.sp b k,K=>(k b).wp K
section
variable (B:iP)
def ez:dD B.S->Env
 | []=>[]
 |(t,x)::r=>(t,x.er B.E)::ez r
def BJ:Nat->LoopState
 |0=>.ready
 |1=>.busy
 |_=>.done
def FJ:Option (Option Nat)->Option Code
 |none=>none
 |some none=>some .ret
 |some (some i)=>some (.exit i)
def cO:Nat:=4096
def uP:Nat:=20000
def iw(c w:Nat):Nat->List (B.S c)->List AV
 |_,[]=>[]
 |i,y::r=>bif Nat.blt i cO then(B.Y c (w+1+B.K c*i) y).er B.E::iw c w (i+1) r else []
def fB:TB B.S->gp
 |.cE n l=>.cells n (dV B.E l)
 |.ls n c x _ _=>.cells n (x.map (B.E c))
 |.raw b=>b
 |.rows n c x v m=>.cells n (x.map (B.E c)++(dV B.E v++List.replicate m (.sl true [])))
 |.lp c bI st pd=>.loop ⟨ez B bI,(B.C c).n,(B.C c).ps,(B.C c).as,(B.C c).body,BJ st,FJ pd⟩
 |.fm n c w cl pre ky post=>.cells n ((bif cl then pre.map (B.E c)else iw B c w 0 pre)++(dV B.E ky++iw B c w (pre.length+ky.length) post))
 |.fr _ _ _ _ _=>.cells 1 []
def kh:List (Nat×TB B.S)->List (Nat×gp)
 | []=>[]
 |(i,b)::r=>(i,fB B b)::kh r
def jv:Nat->List (ZB B.S)->List (Nat×gp)
 |_,[]=>[]
 |i,b::r=>(i,Lb (ET B.E b))::jv (i+1) r
def gk(c w:Nat):Nat->List (B.S c)->List (Nat×gp)
 |_,[]=>[]
 |i,y::r=>bif Nat.blt i cO then jv B (w+1+B.K c*i) (B.Z c (w+1+B.K c*i) y)++gk c w (i+1) r else []
def eH(w:Nat):TB B.S->List (Nat×gp)
 |.fr c cl pre n post=>(bif cl then []else gk B c w 0 pre)++gk B c w (pre.length+n) post
 |_=>[]
def lS:List (Nat×TB B.S)->List (Nat×gp)
 | []=>[]
 |(i,b)::r=>eH B i b++lS r
def df(s:dI B.S):St:=⟨kh B s.heap++lS B s.heap,s.bS⟩
def fI{S:Nat->Type}:TB S->Bool
 |.fr _ _ _ _ _=>true
 |_=>false
def fC(w id:Nat):Bool:=Nat.ble id w||Nat.ble (w+uP) id
def gX{S:Nat->Type}:List (Nat×TB S)->Nat->Bool
 | [],_=>true
 |(w,.fr _ _ _ _ _)::r,id=>fC w id&&!(Nat.beq w id)&&gX r id
 |_::r,id=>gX r id
def TV.norm:TV B.S->TV B.S
 |.v c x=>B.X c x
 |x=>x
def BL{S:Nat->Type}:TV S->List (TV S)
 |.agg cs=>cs
 |.a x=>x.cells.map .a
 |x=>[x]
def dK(x:TV B.S):List (TV B.S):=BL (x.norm B)
def nf(P:Program)(t:TypeId)(cs:List (TV B.S)):Option (TV B.S):=match Kd P t with
 |some true=>match dl P t with
  |some n=>bif Nat.ble n cs.length then some (.agg (cs.take n))else none
  |none=>none
 |some false=>match cs with
  |x::_=>some x
  | []=>none
 |none=>none
def rJ{S:Nat->Type}(o:Option (TV S))(s:dI S):TR S:=match o with
 |some v=>.ok v s
 |none=>.no
def pe{S:Nat->Type}:TV S->Bool
 |.a x=>x.cS
 |.agg _=>false
 |.dW _=>false
 |.v _ _=>false
 |_=>true
def BM{S:Nat->Type}:TV S->Bool
 |.agg _=>true
 |.a x=>x.isAgg
 |_=>false
def qG(e:TV B.S)(cs:List (TV B.S)):TV B.S:=bif BM (e.norm B)then .agg cs else match cs with
 |x::_=>x
 | []=>.a .any
def oK{S:Nat->Type}(cs:List (TV S))(off:Nat)(new:List (TV S)):List (TV S):=cs.take off++(new++cs.drop (off+new.length))
def Ho(P:Program)(t:TypeId)(p:TV B.S)(s:dI B.S):TR B.S:=match p.norm B with
 |.ip cs=>rJ (nf B P t cs) s
 |.a p=>match p with
  |.ip cs=>rJ (nf B P t (cs.map .a)) s
  |.mp id el off=>match bH s.heap id with
   |some (.cE _ l)=>match l[el]? with
    |some e=>rJ (nf B P t ((dK B e).drop off)) s
    |none=>.no
   |some (.ls _ c x _ _)=>.el c x el λy=>rJ (nf B P t ((dK B (.v c y)).drop off)) s
   |some (.rows _ c x v _)=>(match v with
    | [w]=>.cr (el=x.length)<|rJ (nf B P t ((dK B w).drop off)) s
    |_=>.no)
   |some (.fm _ c _ _ pre ky _)=>(match ky with
    | [w]=>.cr (el=pre.length/\el<=cO)<|rJ (nf B P t ((dK B w).drop off)) s
    |_=>.no)
   |_=>.no
  |_=>.no
 |_=>.no
def FL(c:Nat)(x:TV B.S)(k:B.S c->TR B.S):TR B.S:=match B.D c x with
 |some y=>.eq (B.E c y) (x.er B.E) (k y)
 |none=>.no
def FM(P:Program)(t:TypeId)(p v:TV B.S)(s:dI B.S):TR B.S:=match p.norm B with
 |.a (.mp id el off)=>match bH s.heap id with
  |some (.cE cz l)=>match l[el]? with
   |some e=>bif jc (dl P t) (dK B v).length&&Nat.ble (off+(dK B v).length) (dK B e).length&&(dK B v).all pe then
    .ok (.a .any) ⟨dT s.heap id (.cE cz (l.set el (qG B e (oK (dK B e) off (dK B v))))),s.bS⟩else .no
   |none=>.no
  |some (.ls cz c x m hm)=>.el c x el λy=>bif jc (dl P t) (dK B v).length&&Nat.ble (off+(dK B v).length) (dK B (.v c y)).length&&(dK B v).all pe then
    FL B c (qG B (.v c y) (oK (dK B (.v c y)) off (dK B v))) λy'=>.ok (.a .any) ⟨dT s.heap id (.ls cz c (x.set el y') m (hm.trans List.length_set.symm)),s.bS⟩else .no
  |some (.rows cz c x w m)=>(match w with
   | [e]=>.cr (el=x.length)<|bif jc (dl P t) (dK B v).length&&Nat.ble (off+(dK B v).length) (dK B e).length&&(dK B v).all pe then
    .ok (.a .any) ⟨dT s.heap id (.rows cz c x [qG B e (oK (dK B e) off (dK B v))] m),s.bS⟩else .no
   |_=>.no)
  |some (.fm cz c w cl pre ky post)=>(match ky with
   | [e]=>.cr (el=pre.length/\el<=cO)<|bif jc (dl P t) (dK B v).length&&Nat.ble (off+(dK B v).length) (dK B e).length&&(dK B v).all pe then
    .ok (.a .any) ⟨dT s.heap id (.fm cz c w cl pre [qG B e (oK (dK B e) off (dK B v))] post),s.bS⟩else .no
   |_=>.no)
  |_=>.no
 |_=>.no
def OH(v:TV B.S)(s:dI B.S):TR B.S:=
 bif Nat.blt 0 (dK B v).length&&(dK B v).all pe then .ok (.a (.mp s.bS 0 0)) ⟨(s.bS,.cE (dK B v).length [v])::s.heap,s.bS+1⟩else .no
def BN(P:Program)(t:TypeId)(p:TV B.S)(i:Nat):Option (TV B.S):=match mU P t i with
 |some (off,n)=>bif Nat.beq n 0 then none else match p.norm B with
  |.a (.mp id el o)=>some (.a (.mp id el (o+off)))
  |.a (.ip cs)=>some (.a (.ip (cs.drop off)))
  |.ip cs=>some (.ip (cs.drop off))
  |_=>none
 |none=>none
def wM(P:Program)(t:TypeId)(x:TV B.S)(i:Nat):Option (TV B.S):=match mU P t i with
 |some (off,_)=>match Bf P t i with
  |some ft=>bif BM (x.norm B)then nf B P ft ((dK B x).drop off)else none
  |none=>none
 |none=>none
def Hp(x:TV B.S):Option (Bool×IntKind×Int):=match x.norm B with
 |.i k n=>some (false,k,n)
 |.a (.int k n)=>some (true,k,n)
 |_=>none
def JY(x:TV B.S):Option (Bool×Bool):=match x.norm B with
 |.b t=>some (false,t)
 |.a (.bool t)=>some (true,t)
 |_=>none
def Lt{S:Nat->Type}(st:Bool)(k:IntKind)(n:Int):TV S:=bif st then .a (.int k n)else .i k n
def OI{S:Nat->Type}(st:Bool)(t:Bool):TV S:=bif st then .a (.bool t)else .b t
def Vt:Int->Bool
 |.ofNat _=>false
 |.negSucc _=>true
def kP{S:Nat->Type}(st:Bool)(n:Int)(k:TR S):TR S:=bif st then(bif Vt n then .no else k)else .cr (0<=n) k
def mo(c:Nat):List (TV B.S)->(List (B.S c)->TR B.S)->TR B.S
 | [],k=>k []
 |x::r,k=>FL B c x λy=>mo c r λys=>k (y::ys)
def CM{S:Nat->Type}(m n:Nat)(k:TR S):TR S:=.eq (.mp m 0 0) (.mp n 0 0) k
def Hq(P:Program)(e c:Nat)(x:List (B.S c))(n:Int)(s:dI B.S):TR B.S:=
 bif jc (dl P e) (B.W c)then .ix c x n λy=>.ok (.ip (dK B (.v c y))) s else .no
def Lu(P:Program)(t:TypeId)(z:AV)(s:dI B.S):TR B.S:=match vU P t with
 |some (_,e)=>match B.T e with
  |some c=>bif Nat.blt 0 z.cells.length&&z.cells.all AV.cS then mo B c (z.cells.map .a) λys=>.ok (.a (.mp s.bS 0 0)) ⟨(s.bS,.lz 1 c ys)::s.heap,s.bS+1⟩else .no
  |none=>.no
 |none=>.no
def Lv(P:Program)(t:TypeId)(x i:TV B.S)(s:dI B.S):TR B.S:=match Hp B i with
 |some (st,_,n)=>match dU P t with
  |some e=>match x.norm B with
   |.l _ c xs=>Hq B P e c xs n s
   |.s _ cs=>bif st then(match n with
     |.ofNat m=>match cs[m]? with
      |some y=>bif jc (dl P e) (dK B y).length then .ok (.ip (dK B y)) s else .no
      |none=>.no
     |_=>.no)
    else match B.T e with
     |some c=>mo B c cs λxs=>Hq B P e c xs n s
     |none=>.no
   |.a (.ms id bL len)=>match bH s.heap id with
    |some (.ls cz c xs m _)=>bif Nat.beq bL 0&&jc (dl P e) cz then CM len m (.ix c xs n λ_=>.ok (.a (.mp id n.toNat 0)) s)else .no
    |some (.cE cz _)=>bif st&&jc (dl P e) cz then(match n with
      |.ofNat m=>bif Nat.blt m len then .ok (.a (.mp id (bL+m) 0)) s else .no
      |_=>.no)
     else .no
    |some (.rows cz _ _ _ _)=>bif Nat.beq bL 0&&jc (dl P e) cz then .cr (0<=n/\n<(len:Int))<|.ok (.a (.mp id n.toNat 0)) s else .no
    |some (.fm cz _ _ _ _ _ _)=>bif Nat.beq bL 0&&jc (dl P e) cz then .cr (0<=n/\n<(len:Int))<|.ok (.a (.mp id n.toNat 0)) s else .no
    |_=>.no
   |_=>.no
  |none=>match vU P t with
   |some (m,e)=>match dl P e with
    |some sz=>bif Nat.blt 8 m then(match x.norm B with
     |.a (.mp id el off)=>(match bH s.heap id with
      |some (.ls cz c xs _ _)=>bif Nat.beq el 0&&(Nat.beq off 0&&Nat.beq cz sz)then .cr (n<(m:Int))<|.ix c xs n λ_=>.ok (.a (.mp id n.toNat 0)) s else .no
      |_=>.no)
     |_=>.no)else bif st then(match n with
      |.ofNat j=>bif Nat.blt j m then(match x.norm B with
       |.a (.mp id el off)=>.ok (.a (.mp id el (off+j*sz))) s
       |.a (.ip cs)=>.ok (.a (.ip (cs.drop (j*sz)))) s
       |.ip cs=>.ok (.ip (cs.drop (j*sz))) s
       |_=>.no)else .no
      |_=>.no)else .no
    |none=>.no
   |none=>.no
 |none=>.no
def zK(b:ByteArray)(n:Int):Int:=((b[n.toNat]?).map λc=>(c.toNat:Int)).getD 0
def FN(P:Program)(t:TypeId)(x i:TV B.S)(s:dI B.S):TR B.S:=match Hp B i with
 |some (st,_,n)=>match x.norm B with
  |.z b=>bif vV P t then .cr (0<=n/\n<(b.size:Int))<|.ok (.i .u8 (zK b n)) s else .no
  |.a (.str b)=>bif vV P t then .cr (0<=n/\n<(b.size:Int))<|.ok (.i .u8 (zK b n)) s else .no
  |_=>bif st&&BM (x.norm B)then(match vU P t with
   |some (m,e)=>match dl P e with
    |some sz=>match n with
     |.ofNat j=>bif Nat.blt j m then rJ (nf B P e ((dK B x).drop (j*sz))) s else .no
     |_=>.no
    |none=>.no
   |none=>.no)else .no
 |none=>.no
def RQ(P:Program)(t:TypeId)(x:TV B.S)(s:dI B.S):TR B.S:=match x.norm B with
 |.l _ _ xs=>bif (dU P t).isSome then .ok (.i .i64 xs.length) s else .no
 |.s _ cs=>bif (dU P t).isSome then .ok (.a (.int .i64 cs.length)) s else .no
 |.pt _ _ n=>bif (dU P t).isSome then .ok (.i .i64 n) s else .no
 |.a (.ms _ _ n)=>bif (dU P t).isSome then .ok (.i .i64 n) s else .no
 |.z b=>bif vV P t then .ok (.i .i64 b.size) s else .no
 |.a x=>match zq P t x with
  |some v=>.ok (.a v) s
  |none=>.no
 |_=>.no
def eX{S:Nat->Type}(bI:dD S):Operand->Option (TV S)
 |.tmp t=>bH bI t
 |.const v=>match ofValue v with
  |some x=>some (.a x)
  |none=>none
 |.func f=>some (.fn f [])
 |.global _=>none
def oI{S:Nat->Type}(bI:dD S):List Operand->Option (List (TV S))
 | []=>some []
 |x::r=>match eX bI x with
  |some v=>match oI bI r with
   |some l=>some (v::l)
   |none=>none
  |none=>none
def pZ(bI:dD B.S)(x:Option Operand)(d:Nat)(k:Nat->TR B.S):TR B.S:=match x with
 |none=>k d
 |some o=>match eX bI o with
  |some v=>match Hp B v with
   |some (st,_,n)=>kP st n (k n.toNat)
   |none=>.no
  |none=>.no
def ko{S:Nat->Type}(b:Bool)(p:Prop)(k:TR S):TR S:=bif b then k else .cr p k
def FO(bI:dD B.S)(x:Option Operand):Bool:=match x with
 |none=>true
 |some o=>match eX bI o with
  |some (.a (.int _ (.ofNat 0)))=>true
  |_=>false
def wN(P:Program)(e:TypeId)(w:Bool)(id bL len:Nat)(bI:dD B.S)(lo hi:Option Operand)(s:dI B.S):TR B.S:=
 bif (match bH s.heap id with
  |some (.ls cz _ _ _ _)=>jc (dl P e) cz
  |some (.cE cz _)=>jc (dl P e) cz
  |_=>false)then
  pZ B bI lo 0 λl=>pZ B bI hi len λh=>ko (FO B bI lo) (l<=h)<|ko hi.isNone (h<=len)<|.ok (.pt id (bif w then l else bL+l) (bif FO B bI lo then h else h-l)) s
 else .no
def FP(P:Program)(t:TypeId)(x:TV B.S)(bI:dD B.S)(lo hi mx:Option Operand)(s:dI B.S):TR B.S:=match mx with
 |some _=>.no
 |none=>match dU P t with
  |some e=>match x.norm B with
   |.l f c xs=>bif jc (dl P e) (B.W c)then pZ B bI lo 0 λl=>pZ B bI hi xs.length λh=>
    ko (FO B bI lo) (l<=h)<|ko hi.isNone (h<=xs.length)<|.ok (.l (bif f then Nat.beq h xs.length else false) c ((xs.take h).drop l)) s else .no
   |.a (.ms id bL len)=>wN B P e (Nat.beq bL 0) id bL len bI lo hi s
   |.pt id bL len=>wN B P e false id bL len bI lo hi s
   |_=>.no
  |none=>match x.norm B with
   |.z b=>bif vV P t then pZ B bI lo 0 λl=>pZ B bI hi b.size λh=>.cr (l<=h/\h<=b.size)<|.ok (.z (b.extract l h)) s else .no
   |_=>.no
def ya(P:Program)(e:TypeId):Option Nat:=match dl P e,oh P e with
 |some sz,some E9=>bif Nat.blt 0 sz&&Nat.ble E9 4096&&uC P e sz then some sz else none
 |_,_=>none
def nL{S:Nat->Type}(n:Nat)(b:TB S)(h:List (Nat×TB S))(c:Nat):TR S:=.ok (.a (.ms c 0 n)) ⟨(c,b)::h,c+1⟩
def Lw(P:Program)(e sz:Nat)(x:TV B.S)(cs:List (TV B.S))(s:dI B.S):TR B.S:=match x.norm B with
 |.a (.sl true [])=>bif Nat.ble cs.length bJ then(match B.T e with
   |some c=>mo B c cs λys=>nL cs.length (.lz sz c ys) s.heap s.bS
   |none=>nL cs.length (.cE sz cs) s.heap s.bS)else .no
 |.l true c xs=>bif jc (dl P e) (B.W c)then mo B c cs λys=>.cr (xs.length+cs.length<=bJ)<|nL (xs++ys).length (.lz sz c (xs++ys)) s.heap s.bS else .no
 |.a (.ms id bL n)=>match bH s.heap id with
  |some (.ls cz c xs m _)=>bif Nat.beq cz sz&&Nat.beq bL 0&&gX s.heap id then mo B c cs λys=>CM n m<|.cr (xs.length+cs.length<=bJ)<|nL (xs++ys).length (.lz sz c (xs++ys)) (eh s.heap id) s.bS else .no
  |some (.cE cz l)=>bif Nat.beq cz sz&&Nat.beq bL 0&&Nat.ble (l.length+cs.length) bJ&&gX s.heap id then CM n l.length<|nL (l.length+cs.length) (.cE sz (l++cs)) (eh s.heap id) s.bS else .no
  |some (.fm cz c w cl pre ky post)=>(match ky with
   | []=>(match post with
    | []=>bif Nat.beq cz sz&&Nat.beq bL 0&&gX s.heap id&&Nat.ble cs.length cO then CM n pre.length<|.cr (pre.length<cO)<|nL (pre.length+cs.length) (.fm sz c w cl pre cs []) (eh s.heap id) s.bS else .no
    |_=>.no)
   |_=>.no)
  |_=>.no
 |.pt id bL n=>match bH s.heap id with
  |some (.ls cz c xs _ _)=>bif Nat.beq cz sz&&gX s.heap id then mo B c cs λys=>.cr (bL+n<=xs.length)<|.cr (n+cs.length<=bJ)<|nL (((xs.drop bL).take n)++ys).length (.lz sz c (((xs.drop bL).take n)++ys)) (eh s.heap id) s.bS else .no
  |_=>.no
 |_=>.no
def Au{S:Nat->Type}(c d:Nat)(x:List (S c)):Option (List (S d)):=if h:c=d then some (h ▸ x)else none
def Hr(x:TV B.S)(s:dI B.S):TR B.S:=match x.norm B with
 |.a (.sl _ _)=>.ok x s
 |.a (.ms _ _ _)=>.ok x s
 |.l _ _ _=>.ok x s
 |.s _ _=>.ok x s
 |.pt _ _ _=>.ok x s
 |_=>.no
def Lx(P:Program)(e sz:Nat)(x:TV B.S)(c:Nat)(ys:List (B.S c))(s:dI B.S):TR B.S:=.sp ys.isEmpty λem=>bif em then Hr B x s else match x.norm B with
 |.a (.sl true [])=>.cr (ys.length<=bJ)<|nL ys.length (.lz sz c ys) s.heap s.bS
 |.l true d xs=>bif jc (dl P e) (B.W d)then(match Au c d ys with
   |some ys=>.cr (xs.length+ys.length<=bJ)<|nL (xs++ys).length (.lz sz d (xs++ys)) s.heap s.bS
   |none=>.no)else .no
 |.a (.ms id bL n)=>match bH s.heap id with
  |some (.ls cz d xs m _)=>bif Nat.beq cz sz&&Nat.beq bL 0&&gX s.heap id then(match Au c d ys with
    |some ys=>CM n m<|.cr (xs.length+ys.length<=bJ)<|nL (xs++ys).length (.lz sz d (xs++ys)) (eh s.heap id) s.bS
    |none=>.no)else .no
  |_=>.no
 |.pt id bL n=>match bH s.heap id with
  |some (.ls cz d xs _ _)=>bif Nat.beq cz sz&&gX s.heap id then(match Au c d ys with
    |some ys=>.cr (bL+n<=xs.length)<|.cr (n+ys.length<=bJ)<|nL (((xs.drop bL).take n)++ys).length (.lz sz d (((xs.drop bL).take n)++ys)) (eh s.heap id) s.bS
    |none=>.no)else .no
  |_=>.no
 |_=>.no
def BO(P:Program)(e:TypeId)(y:TV B.S)(s:dI B.S)(k1:List (TV B.S)->TR B.S)(k2:(c:Nat)->List (B.S c)->TR B.S):TR B.S:=match y.norm B with
 |.s _ cs=>bif (match cs with| []=>true|x::_=>jc (dl P e) (dK B x).length)then k1 cs else .no
 |.a (.sl _ [])=>k1 []
 |.l _ c ys=>bif jc (dl P e) (B.W c)then k2 c ys else .no
 |.a (.ms id bL n)=>match bH s.heap id with
  |some (.ls cz c xs m _)=>bif jc (dl P e) cz&&Nat.beq bL 0 then CM n m (k2 c xs)else .no
  |some (.cE cz l)=>bif jc (dl P e) cz&&Nat.beq bL 0 then CM n l.length (k1 l)else .no
  |_=>.no
 |.pt id bL n=>match bH s.heap id with
  |some (.ls cz c xs _ _)=>bif jc (dl P e) cz then .cr (bL+n<=xs.length) (k2 c ((xs.drop bL).take n))else .no
  |_=>.no
 |_=>.no
def BP(P:Program)(t u:TypeId)(x y:TV B.S)(s:dI B.S):TR B.S:=match dU P t with
 |some e=>match ya P e with
  |some sz=>bif (dU P u).isSome then BO B P e y s (λcs=>match cs with
   | []=>Hr B x s
   |cs=>Lw B P e sz x cs s) (λc ys=>Lx B P e sz x c ys s)else .no
  |none=>.no
 |none=>.no
def NM{α:Type}(xs:List α)(a n:Nat)(ys:List α):List α:=xs.take a++(ys.take (min ys.length n)++xs.drop (a+min ys.length n))
def Ly(P:Program)(t:TypeId)(x y:TV B.S)(s:dI B.S):TR B.S:=match dU P t with
 |some e=>BO B P e y s (λ_=>.no) λc ys=>match x.norm B with
  |.pt id bL n=>match bH s.heap id with
   |some (.ls cz d xs _ _)=>bif jc (dl P e) cz then(match Au c d ys with
    |some ys=>.cr (bL+n<=xs.length)<|.ok (.i .i64 (min ys.length n:Nat)) ⟨dT s.heap id (.lz cz d (NM xs bL n ys)),s.bS⟩
    |none=>.no)else .no
   |_=>.no
  |_=>.no
 |none=>.no
def Lz:Operand->Operand->Bool
 |.tmp a,.tmp b=>Nat.beq a b
 |_,_=>false
def OJ:AV->Bool
 |.sl true []=>true
 |_=>false
def LA(P:Program)(t:TypeId)(lo co:Operand)(bI:dD B.S)(s:dI B.S):TR B.S:=match eX bI lo,eX bI co,dU P t with
 |some l,some c,some e=>match Hp B l,Hp B c with
  |some (sn,_,n),some (sm,_,m)=>match ya P e,ji P e with
   |some sz,some z=>bif Nat.beq z.cells.length sz&&z.cells.all AV.cS then
     kP sn n<|(bif sn&&sm then(λk=>bif decide (n<=m)&&decide (m<=(bJ:Int))then k else .no)elseλk=>ko (Lz lo co) (n<=m) (.cr (m<=(bJ:Int)) k))<|match B.T e with
      |some c=>bif OJ z then nL n.toNat (.rows sz c [] [] n.toNat) s.heap s.bS else FL B c (.a z) λy=>nL (List.replicate n.toNat y).length (.lz sz c (List.replicate n.toNat y)) s.heap s.bS
      |none=>bif sn then nL n.toNat (.cE sz (List.replicate n.toNat (.a z))) s.heap s.bS else .no
    else .no
   |_,_=>.no
  |_,_=>.no
 |_,_,_=>.no
def Dt(bP:Nat->Option (Nat×Nat))(cells:List (TV B.S)):List (Nat×TV B.S)->Option (List (TV B.S))
 | []=>some cells
 |(i,v)::r=>match bP i with
  |some (off,n)=>bif Nat.beq (dK B v).length n&&(dK B v).all pe&&Nat.ble (off+n) cells.length then Dt bP (oK cells off (dK B v)) r else none
  |none=>none
def se{S:Nat->Type}(bI:dD S):List (Nat×Operand)->Option (List (Nat×TV S))
 | []=>some []
 |(i,x)::r=>match eX bI x with
  |some v=>match se bI r with
   |some l=>some ((i,v)::l)
   |none=>none
  |none=>none
def BQ(P:Program)(t:TypeId)(cu:List (Nat×TV B.S)):Option (TV B.S):=match ji P t with
 |some (.agg cs)=>bif wA P t then(match Dt B (mU P t) (cs.map .a) cu with
   |some l=>some (.agg l)
   |none=>none)
  else match vU P t with
  |some (_,e)=>match dl P e with
   |some sz=>match Dt B (λi=>some (i*sz,sz)) (cs.map .a) cu with
    |some l=>some (.agg l)
    |none=>none
   |none=>none
  |none=>none
 |_=>none
def qH{S:Nat->Type}(l:List (Nat×TV S))(i:Nat):Bool:=match l with
 | []=>true
 |(j,_)::r=>Nat.beq j i&&qH r (i+1)
def p8(P:Program)(t:TypeId)(len:Nat)(own:Bool)(cu:List (Nat×TV B.S))(s:dI B.S):TR B.S:=match dU P t with
 |some e=>match dl P e,ji P e with
  |some sz,some z=>bif Nat.beq cu.length len&&qH cu 0&&(cu.all λp=>Nat.beq (dK B p.2).length sz&&(dK B p.2).all pe)&&Nat.ble (len*sz) 16777216&&Nat.blt 0 sz&&Nat.beq z.cells.length sz then
   (bif own then(match B.T e with
    |some c=>mo B c (cu.map (·.2)) λys=>nL len (.lz sz c ys) s.heap s.bS
    |none=>nL len (.cE sz (cu.map (·.2))) s.heap s.bS)else .ok (bif Nat.beq len 0 then .a (.sl true [])else .s true (cu.map (·.2))) s)else .no
  |_,_=>.no
 |none=>.no
def RR(op:BinOp)(k:IntKind)(sa sb:Bool)(x y:Int)(s:dI B.S):TR B.S:=match op with
 |.add=>.ok (Lt (sa&&sb) k (k.wrap (x+y))) s
 |.sub=>.ok (Lt (sa&&sb) k (k.wrap (x-y))) s
 |.mul=>.ok (Lt (sa&&sb) k (k.wrap (x*y))) s
 |.quo=>ko (sb&&!(decide (y=0))) (y≠0)<|.ok (Lt (sa&&sb) k (k.wrap (x.tdiv y))) s
 |.rem=>ko (sb&&!(decide (y=0))) (y≠0)<|.ok (Lt (sa&&sb) k (x.tmod y)) s
 |.eql=>.ok (OI (sa&&sb) (decide (x=y))) s
 |.neq=>.ok (OI (sa&&sb) (decide (x≠y))) s
 |.lss=>.ok (OI (sa&&sb) (decide (x<y))) s
 |.leq=>.ok (OI (sa&&sb) (decide (x<=y))) s
 |.gtr=>.ok (OI (sa&&sb) (decide (y<x))) s
 |.geq=>.ok (OI (sa&&sb) (decide (y<=x))) s
 |.shl=>kP sb y<|.ok (Lt (sa&&sb) k (k.wrap (x*2^(min y.toNat k.bits)))) s
 |.shr=>kP sb y<|.ok (Lt (sa&&sb) k (x.fdiv (2^(min y.toNat k.bits)))) s
 |_=>.no
def Qi{S:Nat->Type}:TV S->Bool
 |.a _=>true
 |.fn _ _=>true
 |_=>false
def OK:BinOp->Bool
 |.shl=>true
 |.shr=>true
 |_=>false
def RU(P:Program)(op:BinOp)(t:TypeId)(x y:TV B.S)(s:dI B.S):TR B.S:=match Hp B x,Hp B y with
 |some (sa,k,a),some (sb,k',b)=>bif OK op||decide (k=k')then RR B op k sa sb a b s else .no
 |_,_=>match Fb P op t (x.er B.E) (y.er B.E)with
  |some (.bool r)=>.ok (OI (Qi x&&Qi y) r) s
  |_=>.no
def Zj(op:UnOp)(x:TV B.S)(s:dI B.S):TR B.S:=match op with
 |.not=>(match JY B x with
  |some (st,b)=>.ok (OI st (!b)) s
  |none=>.no)
 |.neg=>(match Hp B x with
  |some (st,k,n)=>.ok (Lt st k (k.wrap (0-n))) s
  |none=>.no)
 |_=>.no
def yb(P:Program)(src dst:TypeId)(x:TV B.S)(s:dI B.S):TR B.S:=match Hp B x with
 |some (st,_,n)=>bif (P.underlying src).isSome then(match E8 P dst with
   |some k=>.ok (Lt st k (k.wrap n)) s
   |none=>.no)else .no
 |none=>match x.norm B with
  |.z b=>bif (P.underlying src).isSome&&vV P dst then .ok (.z b) s else .no
  |.a (.str b)=>bif (P.underlying src).isSome&&vV P dst then .ok (.a (.str b)) s else .no
  |_=>.no
def Hs(f:Int->Int->Int):(Bool×IntKind×Int)->List (TV B.S)->Option (Bool×IntKind×Int)
 |x,[]=>some x
 |(st,k,a),y::r=>match Hp B y with
  |some (zl,k',b)=>bif decide (k=k')then Hs f (st&&zl,k,f a b) r else none
  |none=>none
def wO(f:Int->Int->Int)(l:List (TV B.S))(s:dI B.S):TR B.S:=match l with
 |x::r=>match Hp B x with
  |some q=>match Hs B f q r with
   |some (st,k,n)=>.ok (Lt st k n) s
   |none=>.no
  |none=>.no
 | []=>.no
def RV(P:Program)(b:Builtin)(c:Call)(bI:dD B.S)(s:dI B.S):TR B.S:=match oI bI c.args.toList with
 |some l=>match b with
  |.len=>(match l,c.argTypes[0]? with
   | [x],some t=>RQ B P t x s
   |_,_=>.no)
  |.append=>(match l,c.argTypes[0]?,c.argTypes[1]? with
   | [x,y],some t,some u=>BP B P t u x y s
   |_,_,_=>.no)
  |.copy=>(match l,c.argTypes[0]? with
   | [x,y],some t=>Ly B P t x y s
   |_,_=>.no)
  |.min=>wO B RB l s
  |.max=>wO B kw l s
  |_=>.no
 |none=>.no
def top(P:Program)(own:Bool)(op:Op)(bI:dD B.S)(s:dI B.S):TR B.S:=match op with
 |.move x=>rJ (eX bI x) s
 |.assign x=>rJ (eX bI x) s
 |.pick c a b=>match eX bI c with
  |some v=>match JY B v with
   |some (st,t)=>bif st then rJ (bif t then eX bI a else eX bI b) s else .sp t λt=>rJ (bif t then eX bI a else eX bI b) s
   |none=>.no
  |none=>.no
 |.alloc t=>match vr P t with
  |some z=>OH B (.a z) s
  |none=>match ji P t with
   |some z=>Lu B P t z s
   |none=>.no
 |.box _ x=>match eX bI x with
  |some v=>OH B v s
  |none=>.no
 |.build t cu=>match se bI cu.toList with
  |some l=>rJ (BQ B P t l) s
  |none=>.no
 |.buildSlice t len cu=>match se bI cu.toList with
  |some l=>p8 B P t len own l s
  |none=>.no
 |.load t p=>match eX bI p with
  |some p=>Ho B P t p s
  |none=>.no
 |.store t p x=>match eX bI p with
  |some p=>match eX bI x with
   |some x=>FM B P t p x s
   |none=>.no
  |none=>.no
 |.nilCheck x=>match eX bI x with
  |some v=>(match v.norm B with
   |.a (.mp id el off)=>.ok (.a (.mp id el off)) s
   |.a (.ip cs)=>.ok (.a (.ip cs)) s
   |.ip cs=>.ok (.ip cs) s
   |.fn f cs=>.ok (.fn f cs) s
   |_=>.no)
  |none=>.no
 |.binOp op t x y _=>match eX bI x with
  |some x=>match eX bI y with
   |some y=>RU B P op t x y s
   |none=>.no
  |none=>.no
 |.unOp op _ x=>match eX bI x with
  |some x=>Zj B op x s
  |none=>.no
 |.convert src dst x=>match eX bI x with
  |some x=>yb B P src dst x s
  |none=>.no
 |.makeFunc (.func f) first fH=>bif Nat.beq first.size 0 then(match oI bI fH.toList with
   |some l=>.ok (.fn f l) s
   |none=>.no)else .no
 |.slice t x lo hi mx=>match eX bI x with
  |some x=>FP B P t x bI lo hi mx s
  |none=>.no
 |.fieldAddr t x i=>match eX bI x with
  |some x=>rJ (BN B P t x i) s
  |none=>.no
 |.field t x i=>match eX bI x with
  |some x=>rJ (wM B P t x i) s
  |none=>.no
 |.indexAddr t x i=>match eX bI x with
  |some x=>match eX bI i with
   |some i=>Lv B P t x i s
   |none=>.no
  |none=>.no
 |.index t x i=>match eX bI x with
  |some x=>match eX bI i with
   |some i=>FN B P t x i s
   |none=>.no
  |none=>.no
 |.extract x i=>match eX bI x with
  |some v=>(match v.norm B with
   |.dW vs=>rJ vs[i]? s
   |_=>.no)
  |none=>.no
 |.makeSlice t l c=>LA B P t l c bI s
 |.call c=>match c.callee with
  |.builtin b=>RV B P b c bI s
  |_=>.no
 |_=>.no
end
end Go.Am
