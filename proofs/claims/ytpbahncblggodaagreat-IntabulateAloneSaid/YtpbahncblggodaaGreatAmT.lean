/-
  The logic AM, T: typed values and states; what an operation gives, and what it asks to know.
  Own work. No Go text.
-/
import Derived.Test.YtpbahncblggodaaGreatAmW
set_option linter.all false
namespace Go.Am
open Go.RowKit
inductive TV (S:Nat->Type) where
 |a (x:AV)
 |i (k:IntKind) (n:Int)
 |b (x:Bool)
 |z (x:ByteArray)
 |v (c:Nat) (x:S c)
 |l (full:Bool) (c:Nat) (x:List (S c))
 |s (full:Bool) (cs:List (TV S))
 |agg (cs:List (TV S))
 |tup (cs:List (TV S))
 |ip (cs:List (TV S))
 |fn (f:FuncId) (cs:List (TV S))
 |pt (id start len:Nat)
section
variable {S:Nat->Type} (E:(c:Nat)->S c->AV)
mutual
def TV.er:TV S->AV
 |.a x=>x
 |.i k n=>.int k n
 |.b x=>.bool x
 |.z x=>.str x
 |.v c x=>E c x
 |.l f c x=>.sl f (x.map (E c))
 |.s f cs=>.sl f (erL cs)
 |.agg cs=>.agg (erL cs)
 |.tup cs=>.tup (erL cs)
 |.ip cs=>.ip (erL cs)
 |.fn f cs=>.fn f (erL cs)
 |.pt id st n=>.ms id st n
def erL:List (TV S)->List AV
 | []=>[]
 |x::r=>x.er::erL r
end
theorem erL_map: ∀l:List (TV S),erL E l=l.map (TV.er E)
 | []=>rfl
 |x::r=>by simp[erL,erL_map r]
def TV.isV:TV S->Bool
 |.v _ _=>true
 |_=>false
end
abbrev TV.n{S:Nat->Type}(n:Int):TV S:=.i .i64 n
structure LoopC where
 n:Nat
 ps:List Tmp
 as:Code
 body:Code
inductive TB (S:Nat->Type) where
 |els (esz:Nat) (l:List (TV S))
 |ls (esz c:Nat) (x:List (S c)) (n:Nat) (h:n=x.length)
 |raw (b:Blk)
 |rows (esz c:Nat) (x:List (S c)) (v:List (TV S)) (n:Nat)
 |lp (c:Nat) (env:List (Nat×TV S)) (st:Nat) (pd:Option (Option Nat))
 |fm (esz c w:Nat) (cl:Bool) (pre:List (S c)) (mid:List (TV S)) (post:List (S c))
 |fr (c:Nat) (cl:Bool) (pre:List (S c)) (n:Nat) (post:List (S c))
inductive ZB (S:Nat->Type) where
 |o (esz:Nat) (l:List (TV S))
 |l (esz c:Nat) (x:List (S c))
def erZ{S:Nat->Type}(E:(c:Nat)->S c->AV):ZB S->Nat×List AV
 |.o n l=>(n,erL E l)
 |.l n c x=>(n,x.map (E c))
def blZ(p:Nat×List AV):Blk:=.cells p.1 p.2
def delR(r:Nat):Nat->List (Nat×Blk)->List (Nat×Blk)
 |0,h=>h
 |k+1,h=>delR r k (edel h (r+k))
structure FamOk {S:Nat->Type} (E:(c:Nat)->S c->AV) (W K:Nat->Nat) (Y:(c:Nat)->Nat->S c->TV S) (Z:(c:Nat)->Nat->S c->List (ZB S)) (c:Nat):Prop where
 hk:K c<=4
 hz: ∀(r:Nat)(y:S c),(Z c r y).length=K c
 hw: ∀(r:Nat)(y:S c),((Y c r y).er E).cells.length=W c
 hs:0<K c-> ∀(y:S c)x,x∈(E c y).cells->x.scalar=true
 hf: ∀(r:Nat)(y:S c)(s:St)(G:Ghost)(w:World),Sim G s w->(∀(j:Nat)(z:ZB S),(Z c r y)[j]? =some z->eget s.heap (r+j)=some (blZ (erZ E z)))->
  ∃G',Sim G' ⟨delR r (K c) s.heap,s.cnt⟩ w/\Ext G s w G' ⟨delR r (K c) s.heap,s.cnt⟩ w/\ ∀(j:Nat)x x' v,((Y c r y).er E).cells[j]? =some x->(E c y).cells[j]? =some x'->V G x v->V G' x' v
 hi:0<K c-> ∀x y:S c,E c x=E c y->x=y
 hr: ∀(ok:Nat->Bool)(π:Nat->Nat)(r r':Nat)(y:S c),(∀j,j<K c->ok (r+j)=true/\π (r+j)=r'+j)->Co ok π ((Y c r y).er E) ((Y c r' y).er E)/\
  ∀(j:Nat)(b b':ZB S),(Z c r y)[j]? =some b->(Z c r' y)[j]? =some b'->CoB ok π (blZ (erZ E b)) (blZ (erZ E b'))
structure Tab where
 S:Nat->Type
 E:(c:Nat)->S c->AV
 X:(c:Nat)->S c->TV S
 D:(c:Nat)->TV S->Option (S c)
 T:TypeId->Option Nat
 hX: ∀c x,(X c x).er E=E c x
 hv: ∀c x,(X c x).isV=false
 hc: ∀c x,(E c x).clean=true
 W:Nat->Nat
 hw: ∀c x,(E c x).cells.length=W c
 C:Nat->LoopC
 K:Nat->Nat
 Y:(c:Nat)->Nat->S c->TV S
 Z:(c:Nat)->Nat->S c->List (ZB S)
 hF: ∀c,FamOk E W K Y Z c
abbrev TB.lz{S:Nat->Type}(esz c:Nat)(x:List (S c)):TB S:=.ls esz c x x.length rfl
structure TSt (S:Nat->Type) where
 heap:List (Nat×TB S)
 cnt:Nat
abbrev TEnv(S:Nat->Type):=List (Nat×TV S)
inductive TR (S:Nat->Type) where
 |no
 |ok (v:TV S) (s:TSt S)
 |eq (x y:AV) (k:TR S)
 |el (c:Nat) (l:List (S c)) (i:Nat) (k:S c->TR S)
 |ix (c:Nat) (l:List (S c)) (i:Int) (k:S c->TR S)
 |need (p:Prop) (k:TR S)
 |sp (b:Bool) (k:Bool->TR S)
def TR.wp{S:Nat->Type}:TR S->(TV S->TSt S->Prop)->Prop
 |.no,_=>False
 |.ok v s,K=>K v s
 |.eq x y k,K=>x=y/\k.wp K
 |.el _ l i k,K=> ∃y,l[i]? =some y/\(k y).wp K
 |.ix _ l i k,K=> ∃y,Go.Am.ix l i=some y/\(k y).wp K
 |.need p k,K=>p/\k.wp K
 |.sp b k,K=>(k b).wp K
section
variable (B:Tab)
def erE:TEnv B.S->Env
 | []=>[]
 |(t,x)::r=>(t,x.er B.E)::erE r
def stOf:Nat->LoopState
 |0=>.ready
 |1=>.busy
 |_=>.done
def pdOf:Option (Option Nat)->Option Code
 |none=>none
 |some none=>some .ret
 |some (some i)=>some (.exit i)
def famCap:Nat:=4096
def famW:Nat:=20000
def famL(c w:Nat):Nat->List (B.S c)->List AV
 |_,[]=>[]
 |i,y::r=>bif Nat.blt i famCap then(B.Y c (w+1+B.K c*i) y).er B.E::famL c w (i+1) r else []
def erB:TB B.S->Blk
 |.els n l=>.cells n (erL B.E l)
 |.ls n c x _ _=>.cells n (x.map (B.E c))
 |.raw b=>b
 |.rows n c x v m=>.cells n (x.map (B.E c)++(erL B.E v++List.replicate m (.sl true [])))
 |.lp c env st pd=>.loop ⟨erE B env,(B.C c).n,(B.C c).ps,(B.C c).as,(B.C c).body,stOf st,pdOf pd⟩
 |.fm n c w cl pre mid post=>.cells n ((bif cl then pre.map (B.E c)else famL B c w 0 pre)++(erL B.E mid++famL B c w (pre.length+mid.length) post))
 |.fr _ _ _ _ _=>.cells 1 []
def erH:List (Nat×TB B.S)->List (Nat×Blk)
 | []=>[]
 |(i,b)::r=>(i,erB B b)::erH r
def nameZ:Nat->List (ZB B.S)->List (Nat×Blk)
 |_,[]=>[]
 |i,b::r=>(i,blZ (erZ B.E b))::nameZ (i+1) r
def famR(c w:Nat):Nat->List (B.S c)->List (Nat×Blk)
 |_,[]=>[]
 |i,y::r=>bif Nat.blt i famCap then nameZ B (w+1+B.K c*i) (B.Z c (w+1+B.K c*i) y)++famR c w (i+1) r else []
def erR1(w:Nat):TB B.S->List (Nat×Blk)
 |.fr c cl pre n post=>(bif cl then []else famR B c w 0 pre)++famR B c w (pre.length+n) post
 |_=>[]
def erR:List (Nat×TB B.S)->List (Nat×Blk)
 | []=>[]
 |(i,b)::r=>erR1 B i b++erR r
def erS(s:TSt B.S):St:=⟨erH B s.heap++erR B s.heap,s.cnt⟩
def isFr{S:Nat->Type}:TB S->Bool
 |.fr _ _ _ _ _=>true
 |_=>false
def outF(w id:Nat):Bool:=Nat.ble id w||Nat.ble (w+famW) id
def delOk{S:Nat->Type}:List (Nat×TB S)->Nat->Bool
 | [],_=>true
 |(w,.fr _ _ _ _ _)::r,id=>outF w id&&!(Nat.beq w id)&&delOk r id
 |_::r,id=>delOk r id
def TV.norm:TV B.S->TV B.S
 |.v c x=>B.X c x
 |x=>x
def cells0{S:Nat->Type}:TV S->List (TV S)
 |.agg cs=>cs
 |.a x=>x.cells.map .a
 |x=>[x]
def cellsT(x:TV B.S):List (TV B.S):=cells0 (x.norm B)
def readTT(P:Program)(t:TypeId)(cs:List (TV B.S)):Option (TV B.S):=match aggT P t with
 |some true=>match sizeT P t with
  |some n=>bif Nat.ble n cs.length then some (.agg (cs.take n))else none
  |none=>none
 |some false=>match cs with
  |x::_=>some x
  | []=>none
 |none=>none
def ofO{S:Nat->Type}(o:Option (TV S))(s:TSt S):TR S:=match o with
 |some v=>.ok v s
 |none=>.no
def scalT{S:Nat->Type}:TV S->Bool
 |.a x=>x.scalar
 |.agg _=>false
 |.tup _=>false
 |.v _ _=>false
 |_=>true
def aggV{S:Nat->Type}:TV S->Bool
 |.agg _=>true
 |.a x=>x.isAgg
 |_=>false
def reElemT(e:TV B.S)(cs:List (TV B.S)):TV B.S:=bif aggV (e.norm B)then .agg cs else match cs with
 |x::_=>x
 | []=>.a .any
def spliceT{S:Nat->Type}(cs:List (TV S))(off:Nat)(new:List (TV S)):List (TV S):=cs.take off++(new++cs.drop (off+new.length))
def tLoad(P:Program)(t:TypeId)(p:TV B.S)(s:TSt B.S):TR B.S:=match p.norm B with
 |.ip cs=>ofO (readTT B P t cs) s
 |.a p=>match p with
  |.ip cs=>ofO (readTT B P t (cs.map .a)) s
  |.mp id el off=>match eget s.heap id with
   |some (.els _ l)=>match l[el]? with
    |some e=>ofO (readTT B P t ((cellsT B e).drop off)) s
    |none=>.no
   |some (.ls _ c x _ _)=>.el c x el λy=>ofO (readTT B P t ((cellsT B (.v c y)).drop off)) s
   |some (.rows _ c x v _)=>(match v with
    | [w]=>.need (el=x.length)<|ofO (readTT B P t ((cellsT B w).drop off)) s
    |_=>.no)
   |some (.fm _ c _ _ pre mid _)=>(match mid with
    | [w]=>.need (el=pre.length/\el<=famCap)<|ofO (readTT B P t ((cellsT B w).drop off)) s
    |_=>.no)
   |_=>.no
  |_=>.no
 |_=>.no
def decT(c:Nat)(x:TV B.S)(k:B.S c->TR B.S):TR B.S:=match B.D c x with
 |some y=>.eq (B.E c y) (x.er B.E) (k y)
 |none=>.no
def tStore(P:Program)(t:TypeId)(p v:TV B.S)(s:TSt B.S):TR B.S:=match p.norm B with
 |.a (.mp id el off)=>match eget s.heap id with
  |some (.els esz l)=>match l[el]? with
   |some e=>bif eqLen (sizeT P t) (cellsT B v).length&&Nat.ble (off+(cellsT B v).length) (cellsT B e).length&&(cellsT B v).all scalT then
    .ok (.a .any) ⟨eset s.heap id (.els esz (l.set el (reElemT B e (spliceT (cellsT B e) off (cellsT B v))))),s.cnt⟩else .no
   |none=>.no
  |some (.ls esz c x m hm)=>.el c x el λy=>bif eqLen (sizeT P t) (cellsT B v).length&&Nat.ble (off+(cellsT B v).length) (cellsT B (.v c y)).length&&(cellsT B v).all scalT then
    decT B c (reElemT B (.v c y) (spliceT (cellsT B (.v c y)) off (cellsT B v))) λy'=>.ok (.a .any) ⟨eset s.heap id (.ls esz c (x.set el y') m (hm.trans List.length_set.symm)),s.cnt⟩else .no
  |some (.rows esz c x w m)=>(match w with
   | [e]=>.need (el=x.length)<|bif eqLen (sizeT P t) (cellsT B v).length&&Nat.ble (off+(cellsT B v).length) (cellsT B e).length&&(cellsT B v).all scalT then
    .ok (.a .any) ⟨eset s.heap id (.rows esz c x [reElemT B e (spliceT (cellsT B e) off (cellsT B v))] m),s.cnt⟩else .no
   |_=>.no)
  |some (.fm esz c w cl pre mid post)=>(match mid with
   | [e]=>.need (el=pre.length/\el<=famCap)<|bif eqLen (sizeT P t) (cellsT B v).length&&Nat.ble (off+(cellsT B v).length) (cellsT B e).length&&(cellsT B v).all scalT then
    .ok (.a .any) ⟨eset s.heap id (.fm esz c w cl pre [reElemT B e (spliceT (cellsT B e) off (cellsT B v))] post),s.cnt⟩else .no
   |_=>.no)
  |_=>.no
 |_=>.no
def tNew(v:TV B.S)(s:TSt B.S):TR B.S:=
 bif Nat.blt 0 (cellsT B v).length&&(cellsT B v).all scalT then .ok (.a (.mp s.cnt 0 0)) ⟨(s.cnt,.els (cellsT B v).length [v])::s.heap,s.cnt+1⟩else .no
def tField(P:Program)(t:TypeId)(p:TV B.S)(i:Nat):Option (TV B.S):=match fieldT P t i with
 |some (off,n)=>bif Nat.beq n 0 then none else match p.norm B with
  |.a (.mp id el o)=>some (.a (.mp id el (o+off)))
  |.a (.ip cs)=>some (.a (.ip (cs.drop off)))
  |.ip cs=>some (.ip (cs.drop off))
  |_=>none
 |none=>none
def tFieldV(P:Program)(t:TypeId)(x:TV B.S)(i:Nat):Option (TV B.S):=match fieldT P t i with
 |some (off,_)=>match ftypeT P t i with
  |some ft=>bif aggV (x.norm B)then readTT B P ft ((cellsT B x).drop off)else none
  |none=>none
 |none=>none
def asI(x:TV B.S):Option (Bool×IntKind×Int):=match x.norm B with
 |.i k n=>some (false,k,n)
 |.a (.int k n)=>some (true,k,n)
 |_=>none
def asB(x:TV B.S):Option (Bool×Bool):=match x.norm B with
 |.b t=>some (false,t)
 |.a (.bool t)=>some (true,t)
 |_=>none
def mkI{S:Nat->Type}(st:Bool)(k:IntKind)(n:Int):TV S:=bif st then .a (.int k n)else .i k n
def mkB{S:Nat->Type}(st:Bool)(t:Bool):TV S:=bif st then .a (.bool t)else .b t
def isNeg:Int->Bool
 |.ofNat _=>false
 |.negSucc _=>true
def nonneg{S:Nat->Type}(st:Bool)(n:Int)(k:TR S):TR S:=bif st then(bif isNeg n then .no else k)else .need (0<=n) k
def decL(c:Nat):List (TV B.S)->(List (B.S c)->TR B.S)->TR B.S
 | [],k=>k []
 |x::r,k=>decT B c x λy=>decL c r λys=>k (y::ys)
def eqN{S:Nat->Type}(m n:Nat)(k:TR S):TR S:=.eq (.mp m 0 0) (.mp n 0 0) k
def tIdxL(P:Program)(e c:Nat)(x:List (B.S c))(n:Int)(s:TSt B.S):TR B.S:=
 bif eqLen (sizeT P e) (B.W c)then .ix c x n λy=>.ok (.ip (cellsT B (.v c y))) s else .no
def tIdxA(P:Program)(t:TypeId)(x i:TV B.S)(s:TSt B.S):TR B.S:=match asI B i with
 |some (st,_,n)=>match elemT P t with
  |some e=>match x.norm B with
   |.l _ c xs=>tIdxL B P e c xs n s
   |.s _ cs=>bif st then(match n with
     |.ofNat m=>match cs[m]? with
      |some y=>bif eqLen (sizeT P e) (cellsT B y).length then .ok (.ip (cellsT B y)) s else .no
      |none=>.no
     |_=>.no)
    else match B.T e with
     |some c=>decL B c cs λxs=>tIdxL B P e c xs n s
     |none=>.no
   |.a (.ms id start len)=>match eget s.heap id with
    |some (.ls esz c xs m _)=>bif Nat.beq start 0&&eqLen (sizeT P e) esz then eqN len m (.ix c xs n λ_=>.ok (.a (.mp id n.toNat 0)) s)else .no
    |some (.els esz _)=>bif st&&eqLen (sizeT P e) esz then(match n with
      |.ofNat m=>bif Nat.blt m len then .ok (.a (.mp id (start+m) 0)) s else .no
      |_=>.no)
     else .no
    |some (.rows esz _ _ _ _)=>bif Nat.beq start 0&&eqLen (sizeT P e) esz then .need (0<=n/\n<(len:Int))<|.ok (.a (.mp id n.toNat 0)) s else .no
    |some (.fm esz _ _ _ _ _ _)=>bif Nat.beq start 0&&eqLen (sizeT P e) esz then .need (0<=n/\n<(len:Int))<|.ok (.a (.mp id n.toNat 0)) s else .no
    |_=>.no
   |_=>.no
  |none=>match arrT P t with
   |some (m,e)=>match sizeT P e with
    |some sz=>bif st then(match n with
      |.ofNat j=>bif Nat.blt j m then(match x.norm B with
       |.a (.mp id el off)=>.ok (.a (.mp id el (off+j*sz))) s
       |.a (.ip cs)=>.ok (.a (.ip (cs.drop (j*sz)))) s
       |.ip cs=>.ok (.ip (cs.drop (j*sz))) s
       |_=>.no)else .no
      |_=>.no)else .no
    |none=>.no
   |none=>.no
 |none=>.no
def tIndex(P:Program)(t:TypeId)(x i:TV B.S)(s:TSt B.S):TR B.S:=match asI B i with
 |some (st,_,n)=>bif st&&aggV (x.norm B)then(match arrT P t with
  |some (m,e)=>match sizeT P e with
   |some sz=>match n with
    |.ofNat j=>bif Nat.blt j m then ofO (readTT B P e ((cellsT B x).drop (j*sz))) s else .no
    |_=>.no
   |none=>.no
  |none=>.no)else .no
 |none=>.no
def tLen(P:Program)(t:TypeId)(x:TV B.S)(s:TSt B.S):TR B.S:=match x.norm B with
 |.l _ _ xs=>bif (elemT P t).isSome then .ok (.i .i64 xs.length) s else .no
 |.s _ cs=>bif (elemT P t).isSome then .ok (.a (.int .i64 cs.length)) s else .no
 |.pt _ _ n=>bif (elemT P t).isSome then .ok (.i .i64 n) s else .no
 |.a (.ms _ _ n)=>bif (elemT P t).isSome then .ok (.i .i64 n) s else .no
 |.z b=>bif strT P t then .ok (.i .i64 b.size) s else .no
 |.a x=>match aLen P t x with
  |some v=>.ok (.a v) s
  |none=>.no
 |_=>.no
def toper{S:Nat->Type}(env:TEnv S):Operand->Option (TV S)
 |.tmp t=>eget env t
 |.const v=>match ofValue v with
  |some x=>some (.a x)
  |none=>none
 |.func f=>some (.fn f [])
 |.global _=>none
def topers{S:Nat->Type}(env:TEnv S):List Operand->Option (List (TV S))
 | []=>some []
 |x::r=>match toper env x with
  |some v=>match topers env r with
   |some l=>some (v::l)
   |none=>none
  |none=>none
def tBound(env:TEnv B.S)(x:Option Operand)(d:Nat)(k:Nat->TR B.S):TR B.S:=match x with
 |none=>k d
 |some o=>match toper env o with
  |some v=>match asI B v with
   |some (st,_,n)=>nonneg st n (k n.toNat)
   |none=>.no
  |none=>.no
def need1{S:Nat->Type}(b:Bool)(p:Prop)(k:TR S):TR S:=bif b then k else .need p k
def lowZ(env:TEnv B.S)(x:Option Operand):Bool:=match x with
 |none=>true
 |some o=>match toper env o with
  |some (.a (.int _ (.ofNat 0)))=>true
  |_=>false
def tSliceM(P:Program)(e:TypeId)(w:Bool)(id start len:Nat)(env:TEnv B.S)(lo hi:Option Operand)(s:TSt B.S):TR B.S:=
 bif (match eget s.heap id with
  |some (.ls esz _ _ _ _)=>eqLen (sizeT P e) esz
  |some (.els esz _)=>eqLen (sizeT P e) esz
  |_=>false)then
  tBound B env lo 0 λl=>tBound B env hi len λh=>need1 (lowZ B env lo) (l<=h)<|need1 hi.isNone (h<=len)<|.ok (.pt id (bif w then l else start+l) (bif lowZ B env lo then h else h-l)) s
 else .no
def tSlice(P:Program)(t:TypeId)(x:TV B.S)(env:TEnv B.S)(lo hi mx:Option Operand)(s:TSt B.S):TR B.S:=match mx with
 |some _=>.no
 |none=>match elemT P t with
  |some e=>match x.norm B with
   |.l f c xs=>bif eqLen (sizeT P e) (B.W c)then tBound B env lo 0 λl=>tBound B env hi xs.length λh=>
    need1 (lowZ B env lo) (l<=h)<|need1 hi.isNone (h<=xs.length)<|.ok (.l (bif f then Nat.beq h xs.length else false) c ((xs.take h).drop l)) s else .no
   |.a (.ms id start len)=>tSliceM B P e (Nat.beq start 0) id start len env lo hi s
   |.pt id start len=>tSliceM B P e false id start len env lo hi s
   |_=>.no
  |none=>.no
def appOk(P:Program)(e:TypeId):Option Nat:=match sizeT P e,bytesT P e with
 |some sz,some by_=>bif Nat.blt 0 sz&&Nat.ble by_ 4096&&zeroOk P e sz then some sz else none
 |_,_=>none
def mNew{S:Nat->Type}(n:Nat)(b:TB S)(h:List (Nat×TB S))(c:Nat):TR S:=.ok (.a (.ms c 0 n)) ⟨(c,b)::h,c+1⟩
def tApp1(P:Program)(e sz:Nat)(x:TV B.S)(cs:List (TV B.S))(s:TSt B.S):TR B.S:=match x.norm B with
 |.a (.sl true [])=>bif Nat.ble cs.length maxElems then(match B.T e with
   |some c=>decL B c cs λys=>mNew cs.length (.lz sz c ys) s.heap s.cnt
   |none=>mNew cs.length (.els sz cs) s.heap s.cnt)else .no
 |.l true c xs=>bif eqLen (sizeT P e) (B.W c)then decL B c cs λys=>.need (xs.length+cs.length<=maxElems)<|mNew (xs++ys).length (.lz sz c (xs++ys)) s.heap s.cnt else .no
 |.a (.ms id start n)=>match eget s.heap id with
  |some (.ls esz c xs m _)=>bif Nat.beq esz sz&&Nat.beq start 0&&delOk s.heap id then decL B c cs λys=>eqN n m<|.need (xs.length+cs.length<=maxElems)<|mNew (xs++ys).length (.lz sz c (xs++ys)) (edel s.heap id) s.cnt else .no
  |some (.els esz l)=>bif Nat.beq esz sz&&Nat.beq start 0&&Nat.ble (l.length+cs.length) maxElems&&delOk s.heap id then eqN n l.length<|mNew (l.length+cs.length) (.els sz (l++cs)) (edel s.heap id) s.cnt else .no
  |some (.fm esz c w cl pre mid post)=>(match mid with
   | []=>(match post with
    | []=>bif Nat.beq esz sz&&Nat.beq start 0&&delOk s.heap id&&Nat.ble cs.length famCap then eqN n pre.length<|.need (pre.length<famCap)<|mNew (pre.length+cs.length) (.fm sz c w cl pre cs []) (edel s.heap id) s.cnt else .no
    |_=>.no)
   |_=>.no)
  |_=>.no
 |.pt id start n=>match eget s.heap id with
  |some (.ls esz c xs _ _)=>bif Nat.beq esz sz&&delOk s.heap id then decL B c cs λys=>.need (start+n<=xs.length)<|.need (n+cs.length<=maxElems)<|mNew (((xs.drop start).take n)++ys).length (.lz sz c (((xs.drop start).take n)++ys)) (edel s.heap id) s.cnt else .no
  |_=>.no
 |_=>.no
def castL{S:Nat->Type}(c d:Nat)(x:List (S c)):Option (List (S d)):=if h:c=d then some (h ▸ x)else none
def keepX(x:TV B.S)(s:TSt B.S):TR B.S:=match x.norm B with
 |.a (.sl _ _)=>.ok x s
 |.a (.ms _ _ _)=>.ok x s
 |.l _ _ _=>.ok x s
 |.s _ _=>.ok x s
 |.pt _ _ _=>.ok x s
 |_=>.no
def tApp2(P:Program)(e sz:Nat)(x:TV B.S)(c:Nat)(ys:List (B.S c))(s:TSt B.S):TR B.S:=.sp ys.isEmpty λem=>bif em then keepX B x s else match x.norm B with
 |.a (.sl true [])=>.need (ys.length<=maxElems)<|mNew ys.length (.lz sz c ys) s.heap s.cnt
 |.l true d xs=>bif eqLen (sizeT P e) (B.W d)then(match castL c d ys with
   |some ys=>.need (xs.length+ys.length<=maxElems)<|mNew (xs++ys).length (.lz sz d (xs++ys)) s.heap s.cnt
   |none=>.no)else .no
 |.a (.ms id start n)=>match eget s.heap id with
  |some (.ls esz d xs m _)=>bif Nat.beq esz sz&&Nat.beq start 0&&delOk s.heap id then(match castL c d ys with
    |some ys=>eqN n m<|.need (xs.length+ys.length<=maxElems)<|mNew (xs++ys).length (.lz sz d (xs++ys)) (edel s.heap id) s.cnt
    |none=>.no)else .no
  |_=>.no
 |.pt id start n=>match eget s.heap id with
  |some (.ls esz d xs _ _)=>bif Nat.beq esz sz&&delOk s.heap id then(match castL c d ys with
    |some ys=>.need (start+n<=xs.length)<|.need (n+ys.length<=maxElems)<|mNew (((xs.drop start).take n)++ys).length (.lz sz d (((xs.drop start).take n)++ys)) (edel s.heap id) s.cnt
    |none=>.no)else .no
  |_=>.no
 |_=>.no
def tElems(P:Program)(e:TypeId)(y:TV B.S)(s:TSt B.S)(k1:List (TV B.S)->TR B.S)(k2:(c:Nat)->List (B.S c)->TR B.S):TR B.S:=match y.norm B with
 |.s _ cs=>bif (match cs with| []=>true|x::_=>eqLen (sizeT P e) (cellsT B x).length)then k1 cs else .no
 |.a (.sl _ [])=>k1 []
 |.l _ c ys=>bif eqLen (sizeT P e) (B.W c)then k2 c ys else .no
 |.a (.ms id start n)=>match eget s.heap id with
  |some (.ls esz c xs m _)=>bif eqLen (sizeT P e) esz&&Nat.beq start 0 then eqN n m (k2 c xs)else .no
  |some (.els esz l)=>bif eqLen (sizeT P e) esz&&Nat.beq start 0 then eqN n l.length (k1 l)else .no
  |_=>.no
 |.pt id start n=>match eget s.heap id with
  |some (.ls esz c xs _ _)=>bif eqLen (sizeT P e) esz then .need (start+n<=xs.length) (k2 c ((xs.drop start).take n))else .no
  |_=>.no
 |_=>.no
def tAppend(P:Program)(t u:TypeId)(x y:TV B.S)(s:TSt B.S):TR B.S:=match elemT P t with
 |some e=>match appOk P e with
  |some sz=>bif (elemT P u).isSome then tElems B P e y s (λcs=>match cs with
   | []=>keepX B x s
   |cs=>tApp1 B P e sz x cs s) (λc ys=>tApp2 B P e sz x c ys s)else .no
  |none=>.no
 |none=>.no
def cpL{α:Type}(xs:List α)(a n:Nat)(ys:List α):List α:=xs.take a++(ys.take (min ys.length n)++xs.drop (a+min ys.length n))
def tCopy(P:Program)(t:TypeId)(x y:TV B.S)(s:TSt B.S):TR B.S:=match elemT P t with
 |some e=>tElems B P e y s (λ_=>.no) λc ys=>match x.norm B with
  |.pt id start n=>match eget s.heap id with
   |some (.ls esz d xs _ _)=>bif eqLen (sizeT P e) esz then(match castL c d ys with
    |some ys=>.need (start+n<=xs.length)<|.ok (.i .i64 (min ys.length n:Nat)) ⟨eset s.heap id (.lz esz d (cpL xs start n ys)),s.cnt⟩
    |none=>.no)else .no
   |_=>.no
  |_=>.no
 |none=>.no
def sameOp:Operand->Operand->Bool
 |.tmp a,.tmp b=>Nat.beq a b
 |_,_=>false
def nilZ:AV->Bool
 |.sl true []=>true
 |_=>false
def tMake(P:Program)(t:TypeId)(lo co:Operand)(env:TEnv B.S)(s:TSt B.S):TR B.S:=match toper env lo,toper env co,elemT P t with
 |some l,some c,some e=>match asI B l,asI B c with
  |some (sn,_,n),some (sm,_,m)=>match appOk P e,zeroT P e with
   |some sz,some z=>bif Nat.beq z.cells.length sz&&z.cells.all AV.scalar then
     nonneg sn n<|(bif sn&&sm then(λk=>bif decide (n<=m)&&decide (m<=(maxElems:Int))then k else .no)elseλk=>need1 (sameOp lo co) (n<=m) (.need (m<=(maxElems:Int)) k))<|match B.T e with
      |some c=>bif nilZ z then mNew n.toNat (.rows sz c [] [] n.toNat) s.heap s.cnt else decT B c (.a z) λy=>mNew (List.replicate n.toNat y).length (.lz sz c (List.replicate n.toNat y)) s.heap s.cnt
      |none=>bif sn then mNew n.toNat (.els sz (List.replicate n.toNat (.a z))) s.heap s.cnt else .no
    else .no
   |_,_=>.no
  |_,_=>.no
 |_,_,_=>.no
def tFill(place:Nat->Option (Nat×Nat))(cells:List (TV B.S)):List (Nat×TV B.S)->Option (List (TV B.S))
 | []=>some cells
 |(i,v)::r=>match place i with
  |some (off,n)=>bif Nat.beq (cellsT B v).length n&&(cellsT B v).all scalT&&Nat.ble (off+n) cells.length then tFill place (spliceT cells off (cellsT B v)) r else none
  |none=>none
def tParts{S:Nat->Type}(env:TEnv S):List (Nat×Operand)->Option (List (Nat×TV S))
 | []=>some []
 |(i,x)::r=>match toper env x with
  |some v=>match tParts env r with
   |some l=>some ((i,v)::l)
   |none=>none
  |none=>none
def tBuild(P:Program)(t:TypeId)(parts:List (Nat×TV B.S)):Option (TV B.S):=match zeroT P t with
 |some (.agg cs)=>bif structT P t then(match tFill B (fieldT P t) (cs.map .a) parts with
   |some l=>some (.agg l)
   |none=>none)
  else match arrT P t with
  |some (_,e)=>match sizeT P e with
   |some sz=>match tFill B (λi=>some (i*sz,sz)) (cs.map .a) parts with
    |some l=>some (.agg l)
    |none=>none
   |none=>none
  |none=>none
 |_=>none
def numberedT{S:Nat->Type}(l:List (Nat×TV S))(i:Nat):Bool:=match l with
 | []=>true
 |(j,_)::r=>Nat.beq j i&&numberedT r (i+1)
def tBuildSlice(P:Program)(t:TypeId)(len:Nat)(own:Bool)(parts:List (Nat×TV B.S))(s:TSt B.S):TR B.S:=match elemT P t with
 |some e=>match sizeT P e,zeroT P e with
  |some sz,some z=>bif Nat.beq parts.length len&&numberedT parts 0&&(parts.all λp=>Nat.beq (cellsT B p.2).length sz&&(cellsT B p.2).all scalT)&&Nat.ble (len*sz) 16777216&&Nat.blt 0 sz&&Nat.beq z.cells.length sz then
   (bif own then(match B.T e with
    |some c=>decL B c (parts.map (·.2)) λys=>mNew len (.lz sz c ys) s.heap s.cnt
    |none=>mNew len (.els sz (parts.map (·.2))) s.heap s.cnt)else .ok (bif Nat.beq len 0 then .a (.sl true [])else .s true (parts.map (·.2))) s)else .no
  |_,_=>.no
 |none=>.no
def tInt(op:BinOp)(k:IntKind)(sa sb:Bool)(x y:Int)(s:TSt B.S):TR B.S:=match op with
 |.add=>.ok (mkI (sa&&sb) k (k.wrap (x+y))) s
 |.sub=>.ok (mkI (sa&&sb) k (k.wrap (x-y))) s
 |.mul=>.ok (mkI (sa&&sb) k (k.wrap (x*y))) s
 |.quo=>need1 (sb&&!(decide (y=0))) (y≠0)<|.ok (mkI (sa&&sb) k (k.wrap (x.tdiv y))) s
 |.rem=>need1 (sb&&!(decide (y=0))) (y≠0)<|.ok (mkI (sa&&sb) k (x.tmod y)) s
 |.eql=>.ok (mkB (sa&&sb) (decide (x=y))) s
 |.neq=>.ok (mkB (sa&&sb) (decide (x≠y))) s
 |.lss=>.ok (mkB (sa&&sb) (decide (x<y))) s
 |.leq=>.ok (mkB (sa&&sb) (decide (x<=y))) s
 |.gtr=>.ok (mkB (sa&&sb) (decide (y<x))) s
 |.geq=>.ok (mkB (sa&&sb) (decide (y<=x))) s
 |.shl=>nonneg sb y<|.ok (mkI (sa&&sb) k (k.wrap (x*2^(min y.toNat k.bits)))) s
 |.shr=>nonneg sb y<|.ok (mkI (sa&&sb) k (x.fdiv (2^(min y.toNat k.bits)))) s
 |_=>.no
def statT{S:Nat->Type}:TV S->Bool
 |.a _=>true
 |.fn _ _=>true
 |_=>false
def isShift:BinOp->Bool
 |.shl=>true
 |.shr=>true
 |_=>false
def tBin(P:Program)(op:BinOp)(t:TypeId)(x y:TV B.S)(s:TSt B.S):TR B.S:=match asI B x,asI B y with
 |some (sa,k,a),some (sb,k',b)=>bif isShift op||decide (k=k')then tInt B op k sa sb a b s else .no
 |_,_=>match aBin P op t (x.er B.E) (y.er B.E)with
  |some (.bool r)=>.ok (mkB (statT x&&statT y) r) s
  |_=>.no
def tUn(op:UnOp)(x:TV B.S)(s:TSt B.S):TR B.S:=match op with
 |.not=>(match asB B x with
  |some (st,b)=>.ok (mkB st (!b)) s
  |none=>.no)
 |.neg=>(match asI B x with
  |some (st,k,n)=>.ok (mkI st k (k.wrap (0-n))) s
  |none=>.no)
 |_=>.no
def tConvert(P:Program)(src dst:TypeId)(x:TV B.S)(s:TSt B.S):TR B.S:=match asI B x with
 |some (st,_,n)=>bif (P.underlying src).isSome then(match intT P dst with
   |some k=>.ok (mkI st k (k.wrap n)) s
   |none=>.no)else .no
 |none=>match x.norm B with
  |.z b=>bif (P.underlying src).isSome&&strT P dst then .ok (.z b) s else .no
  |.a (.str b)=>bif (P.underlying src).isSome&&strT P dst then .ok (.a (.str b)) s else .no
  |_=>.no
def tFold(f:Int->Int->Int):(Bool×IntKind×Int)->List (TV B.S)->Option (Bool×IntKind×Int)
 |x,[]=>some x
 |(st,k,a),y::r=>match asI B y with
  |some (st',k',b)=>bif decide (k=k')then tFold f (st&&st',k,f a b) r else none
  |none=>none
def tMinMax(f:Int->Int->Int)(l:List (TV B.S))(s:TSt B.S):TR B.S:=match l with
 |x::r=>match asI B x with
  |some q=>match tFold B f q r with
   |some (st,k,n)=>.ok (mkI st k n) s
   |none=>.no
  |none=>.no
 | []=>.no
def topC(P:Program)(b:Builtin)(c:Call)(env:TEnv B.S)(s:TSt B.S):TR B.S:=match topers env c.args.toList with
 |some l=>match b with
  |.len=>(match l,c.argTypes[0]? with
   | [x],some t=>tLen B P t x s
   |_,_=>.no)
  |.append=>(match l,c.argTypes[0]?,c.argTypes[1]? with
   | [x,y],some t,some u=>tAppend B P t u x y s
   |_,_,_=>.no)
  |.copy=>(match l,c.argTypes[0]? with
   | [x,y],some t=>tCopy B P t x y s
   |_,_=>.no)
  |.min=>tMinMax B minI l s
  |.max=>tMinMax B maxI l s
  |_=>.no
 |none=>.no
def top(P:Program)(own:Bool)(op:Op)(env:TEnv B.S)(s:TSt B.S):TR B.S:=match op with
 |.move x=>ofO (toper env x) s
 |.assign x=>ofO (toper env x) s
 |.pick c a b=>match toper env c with
  |some v=>match asB B v with
   |some (st,t)=>bif st then ofO (bif t then toper env a else toper env b) s else .sp t λt=>ofO (bif t then toper env a else toper env b) s
   |none=>.no
  |none=>.no
 |.alloc t=>match zeroT P t with
  |some z=>tNew B (.a z) s
  |none=>.no
 |.box _ x=>match toper env x with
  |some v=>tNew B v s
  |none=>.no
 |.build t parts=>match tParts env parts.toList with
  |some l=>ofO (tBuild B P t l) s
  |none=>.no
 |.buildSlice t len parts=>match tParts env parts.toList with
  |some l=>tBuildSlice B P t len own l s
  |none=>.no
 |.load t p=>match toper env p with
  |some p=>tLoad B P t p s
  |none=>.no
 |.store t p x=>match toper env p with
  |some p=>match toper env x with
   |some x=>tStore B P t p x s
   |none=>.no
  |none=>.no
 |.nilCheck x=>match toper env x with
  |some v=>(match v.norm B with
   |.a (.mp id el off)=>.ok (.a (.mp id el off)) s
   |.a (.ip cs)=>.ok (.a (.ip cs)) s
   |.ip cs=>.ok (.ip cs) s
   |.fn f cs=>.ok (.fn f cs) s
   |_=>.no)
  |none=>.no
 |.binOp op t x y _=>match toper env x with
  |some x=>match toper env y with
   |some y=>tBin B P op t x y s
   |none=>.no
  |none=>.no
 |.unOp op _ x=>match toper env x with
  |some x=>tUn B op x s
  |none=>.no
 |.convert src dst x=>match toper env x with
  |some x=>tConvert B P src dst x s
  |none=>.no
 |.makeFunc (.func f) first caps=>bif Nat.beq first.size 0 then(match topers env caps.toList with
   |some l=>.ok (.fn f l) s
   |none=>.no)else .no
 |.slice t x lo hi mx=>match toper env x with
  |some x=>tSlice B P t x env lo hi mx s
  |none=>.no
 |.fieldAddr t x i=>match toper env x with
  |some x=>ofO (tField B P t x i) s
  |none=>.no
 |.field t x i=>match toper env x with
  |some x=>ofO (tFieldV B P t x i) s
  |none=>.no
 |.indexAddr t x i=>match toper env x with
  |some x=>match toper env i with
   |some i=>tIdxA B P t x i s
   |none=>.no
  |none=>.no
 |.index t x i=>match toper env x with
  |some x=>match toper env i with
   |some i=>tIndex B P t x i s
   |none=>.no
  |none=>.no
 |.extract x i=>match toper env x with
  |some v=>(match v.norm B with
   |.tup vs=>ofO vs[i]? s
   |_=>.no)
  |none=>.no
 |.makeSlice t l c=>tMake B P t l c env s
 |.call c=>match c.callee with
  |.builtin b=>topC B P b c env s
  |_=>.no
 |_=>.no
end
end Go.Am
