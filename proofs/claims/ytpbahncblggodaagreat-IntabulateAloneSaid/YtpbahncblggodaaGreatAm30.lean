/-
  The logic AM, part 30: code carried out on abstract states by a program that the kernel runs.
  Own work. No Go text.
-/
import Derived.Test.YtpbahncblggodaaGreatAmE
set_option linter.all false
namespace Go.Am
open Go.RowKit
mutual
def AV.beq:AV->AV->Bool
 |.bool a,y=>match y with|.bool b=>a==b|_=>false
 |.int k n,y=>match y with|.int j m=>decide (k=j)&&decide (n=m)|_=>false
 |.str a,y=>match y with|.str b=>a.toList==b.toList&&decide (a=b)|_=>false
 |.nilp,y=>match y with|.nilp=>true|_=>false
 |.nilf,y=>match y with|.nilf=>true|_=>false
 |.sl f l,y=>match y with|.sl g m=>f==g&&beqL l m|_=>false
 |.ip l,y=>match y with|.ip m=>beqL l m|_=>false
 |.mp a b c,y=>match y with|.mp d e f=>Nat.beq a d&&(Nat.beq b e&&Nat.beq c f)|_=>false
 |.ms a b c,y=>match y with|.ms d e f=>Nat.beq a d&&(Nat.beq b e&&Nat.beq c f)|_=>false
 |.mc a b c g,y=>match y with|.mc d e f h=>Nat.beq a d&&(Nat.beq b e&&(Nat.beq c f&&Nat.beq g h))|_=>false
 |.fn f l,y=>match y with|.fn g m=>Nat.beq f g&&beqL l m|_=>false
 |.yld a,y=>match y with|.yld b=>Nat.beq a b|_=>false
 |.agg l,y=>match y with|.agg m=>beqL l m|_=>false
 |.tup l,y=>match y with|.tup m=>beqL l m|_=>false
 |.any,y=>match y with|.any=>true|_=>false
def beqL:List AV->List AV->Bool
 | [],m=>match m with| []=>true|_::_=>false
 |x::r,m=>match m with| []=>false|y::t=>x.beq y&&beqL r t
end
mutual
theorem AV.beq_eq: ∀{x y:AV},x.beq y=true->x=y
 |.bool a,y,h=>by cases y<;>simp[AV.beq]at h;rw[h]
 |.int k n,y,h=>by cases y<;>simp[AV.beq]at h;rw[h.1,h.2]
 |.str a,y,h=>by cases y<;>simp[AV.beq]at h;rw[h.2]
 |.nilp,y,h=>by cases y<;>simp[AV.beq]at h;rfl
 |.nilf,y,h=>by cases y<;>simp[AV.beq]at h;rfl
 |.sl f l,y,h=>by cases y<;>simp[AV.beq]at h;rw[h.1,beqL_eq h.2]
 |.ip l,y,h=>by cases y<;>simp[AV.beq]at h;rw[beqL_eq h]
 |.mp a b c,y,h=>by cases y<;>simp[AV.beq]at h;rw[h.1,h.2.1,h.2.2]
 |.ms a b c,y,h=>by cases y<;>simp[AV.beq]at h;rw[h.1,h.2.1,h.2.2]
 |.mc a b c d,y,h=>by cases y<;>simp[AV.beq]at h;rw[h.1,h.2.1,h.2.2.1,h.2.2.2]
 |.fn f l,y,h=>by cases y<;>simp[AV.beq]at h;rw[h.1,beqL_eq h.2]
 |.yld a,y,h=>by cases y<;>simp[AV.beq]at h;rw[h]
 |.agg l,y,h=>by cases y<;>simp[AV.beq]at h;rw[beqL_eq h]
 |.tup l,y,h=>by cases y<;>simp[AV.beq]at h;rw[beqL_eq h]
 |.any,y,h=>by cases y<;>simp[AV.beq]at h;rfl
theorem beqL_eq: ∀{x y:List AV},beqL x y=true->x=y
 | [],y,h=>by cases y<;>simp[beqL]at h;rfl
 |a::r,y,h=>by
  cases y with
  |nil=>simp[beqL]at h
  |cons b t=>simp[beqL]at h;rw[AV.beq_eq h.1,beqL_eq h.2]
end
def preOf(l:List Oper):List (List Nat):=l.foldl (λacc o=>acc++[((direct o)++(direct o).flatMap λd=>acc.getD d []).eraseDups]) []
def firstB{α:Type}(p:α->Bool):List α->Option α
 | []=>none
 |x::r=>bif p x then some x else firstB p r
def lightAt(l:List Oper)(i:Nat):Bool:=match l[i]? with|some o=>isLight o.op|none=>false
def statelessAt(l:List Oper)(i:Nat):Bool:=match l[i]? with|some o=>stateless o.op|none=>false
def allocAt(l:List Oper)(i:Nat):Bool:=match l[i]? with|some o=>(match o.op with|.alloc _=>true|_=>false)|none=>false
def pickNext(l:List Oper)(pre:List (List Nat))(allocs done left:List Nat):Option Nat:=
 let ready:=λi=>(preI pre i).all λp=>memB p done
 match firstB (λi=>lightAt l i&&ready i) left with
 |some i=>some i
 |none=>match firstB (λi=>ready i&&!(memB i allocs)) left with
  |some i=>some i
  |none=>firstB ready left
def orderOf(l:List Oper)(pre:List (List Nat))(allocs:List Nat):Nat->List Nat->List Nat->List Nat
 |0,done,_=>done
 |n+1,done,left=>match pickNext l pre allocs done left with
  |some i=>orderOf l pre allocs n (done++[i]) (left.filter λj=>!(Nat.beq i j))
  |none=>done
def stepsOf(l:List Oper)(pre:List (List Nat))(allocs notes:List Nat):List Nat->List Nat->List Step
 |_,[]=>[]
 |before,i::r=>(bif lightAt l i then Step.light i (memB i notes)else bif memB i allocs then Step.alloc i else
  Step.heavy i (before.filter λj=>lightAt l j&&!(statelessAt l j)&&!(memB j (preI pre i))))::stepsOf l pre allocs notes (before++[i]) r
def allocsOf(l:List Oper)(pre:List (List Nat)):List Nat:=
 let hv:=(List.range l.length).filter λi=>!(lightAt l i)
 hv.filter λi=>allocAt l i&&hv.any λh=>!(Nat.beq h i)&&!(memB h (preI pre i))&&!(memB i (preI pre h))
def notesOf:List Step->List Nat
 | []=>[]
 |.heavy _ chk::r=>chk++notesOf r
 |_::r=>notesOf r
def planOf(l:List Oper):List (List Nat)×List Step:=
 let pre:=preOf l
 let allocs:=allocsOf l pre
 let order:=orderOf l pre allocs l.length [] (List.range l.length)
 (pre,stepsOf l pre allocs (notesOf (stepsOf l pre allocs [] [] order)) [] order)
abbrev Inv:=AV->List AV->St->Option (AV×St)
structure InvOk (P:Program) (call:Inv):Prop where
 fn: ∀{g:FuncId}{caps l:List AV}{s:St}{v:AV}{s':St},call (.fn g caps) l s=some (v,s')->enters P g=true/\ACalls P g (l++caps) s λx t=>x=v/\t=s'
 yld: ∀{id:Nat}{l:List AV}{s:St}{v:AV}{s':St},call (.yld id) l s=some (v,s')->AYield P id l s λx t=>x=v/\t=s'
def isCallee:AV->Bool
 |.fn _ _=>true
 |.yld _=>true
 |_=>false
def bPick(env:Env)(c a b:Operand)(s:St):Option (AV×St):=match oper env c with
 |some (.bool t)=>bif t then ekeep (oper env a) s else ekeep (oper env b) s
 |_=>none
def bAlloc(P:Program)(t:TypeId)(s:St):Option (AV×St):=match zeroT P t with
 |some z=>aNew z s
 |none=>none
def bBox(env:Env)(x:Operand)(s:St):Option (AV×St):=match oper env x with
 |some v=>aNew v s
 |none=>none
def bBuild(P:Program)(t:TypeId)(parts:Array (Nat×Operand))(env:Env)(s:St):Option (AV×St):=match aParts env parts.toList with
 |some l=>ekeep (aBuild P t l) s
 |none=>none
def bBuildSlice(P:Program)(t:TypeId)(len:Nat)(parts:Array (Nat×Operand))(env:Env)(s:St):Option (AV×St):=match aParts env parts.toList with
 |some l=>ekeep (aBuildSlice P t len l) s
 |none=>none
def bLoad(P:Program)(t:TypeId)(p:Operand)(env:Env)(s:St):Option (AV×St):=match oper env p with
 |some p=>ekeep (aLoad P t p s) s
 |none=>none
def bStore(P:Program)(t:TypeId)(p x:Operand)(env:Env)(s:St):Option (AV×St):=match oper env p with
 |some p=>match oper env x with
  |some x=>match aStore P t p x s with
   |some s'=>some (.any,s')
   |none=>none
  |none=>none
 |none=>none
def addF(k:IntKind)(x y:Int):Int:=match x with
 |.ofNat a=>match y with
  |.ofNat b=>match k with
   |.i64=>bif Nat.ble (Nat.add a b) 9223372036854775807 then .ofNat (Nat.add a b)else k.wrap (x+y)
   |_=>k.wrap (x+y)
  |_=>k.wrap (x+y)
 |_=>k.wrap (x+y)
def subF(k:IntKind)(x y:Int):Int:=match x with
 |.ofNat a=>match y with
  |.ofNat b=>match k with
   |.i64=>bif Nat.ble b a&&Nat.ble a 9223372036854775807 then .ofNat (Nat.sub a b)else k.wrap (x-y)
   |_=>k.wrap (x-y)
  |_=>k.wrap (x-y)
 |_=>k.wrap (x-y)
def ltF(x y:Int):Bool:=match x with
 |.ofNat a=>match y with
  |.ofNat b=>Nat.ble (Nat.succ a) b
  |.negSucc _=>false
 |.negSucc a=>match y with
  |.ofNat _=>true
  |.negSucc b=>Nat.ble (Nat.succ b) a
def eqF(x y:Int):Bool:=match x with
 |.ofNat a=>match y with
  |.ofNat b=>Nat.beq a b
  |.negSucc _=>false
 |.negSucc a=>match y with
  |.ofNat _=>false
  |.negSucc b=>Nat.beq a b
theorem addF_eq(k:IntKind)(x y:Int):addF k x y=k.wrap (x+y):=by
 cases x with
 |negSucc a=>rfl
 |ofNat a=>
  cases y with
  |negSucc b=>rfl
  |ofNat b=>
   cases k<;>try rfl
   simp only[addF]
   cases h:Nat.ble (Nat.add a b) 9223372036854775807 with
   |false=>rfl
   |true=>
    have h:a+b<=9223372036854775807:=Nat.le_of_ble_eq_true h
    have e:(Int.ofNat a+Int.ofNat b)=((a+b:Nat):Int):=by
     have e1:Int.ofNat a=(a:Int):=rfl
     have e2:Int.ofNat b=(b:Int):=rfl
     omega
    rw[e,w64 (by omega) (by omega)];rfl
theorem subF_eq(k:IntKind)(x y:Int):subF k x y=k.wrap (x-y):=by
 cases x with
 |negSucc a=>rfl
 |ofNat a=>
  cases y with
  |negSucc b=>rfl
  |ofNat b=>
   cases k<;>try rfl
   simp only[subF]
   cases h:(Nat.ble b a&&Nat.ble a 9223372036854775807)with
   |false=>rfl
   |true=>
    simp only[Bool.and_eq_true]at h
    have h1:b<=a:=Nat.le_of_ble_eq_true h.1
    have h2:a<=9223372036854775807:=Nat.le_of_ble_eq_true h.2
    have e:(Int.ofNat a-Int.ofNat b)=((a-b:Nat):Int):=by
     have e1:Int.ofNat a=(a:Int):=rfl
     have e2:Int.ofNat b=(b:Int):=rfl
     omega
    rw[e,w64 (by omega) (by omega)];rfl
theorem ble_dec (a b : Nat) : Nat.ble a b = decide (a ≤ b) := by
  cases h : Nat.ble a b with
  | true => have := Nat.le_of_ble_eq_true h; simp [this]
  | false => have : ¬ a ≤ b := fun e => by rw [Nat.ble_eq_true_of_le e] at h; cases h
             simp [this]
theorem beq_dec (a b : Nat) : Nat.beq a b = decide (a = b) := by
  cases h : Nat.beq a b with
  | true => have := Nat.eq_of_beq_eq_true h; simp [this]
  | false => have : ¬ a = b := fun e => by subst e; rw [show Nat.beq a a = true from Nat.beq_refl a] at h; cases h
             simp [this]
theorem ltF_eq(x y:Int):ltF x y=decide (x<y):=by
 cases x<;>cases y<;>simp only[ltF,ble_dec]<;>first|(apply decide_eq_decide.2;omega)|(symm;simp <;>omega)
theorem eqF_eq(x y:Int):eqF x y=decide (x=y):=by
 cases x<;>cases y<;>simp only[eqF,beq_dec]<;>first|(apply decide_eq_decide.2;omega)|(symm;simp <;>omega)
def bInt2(op:BinOp)(k:IntKind)(a b:Int):Option AV:=match op with
 |.add=>some (.int k (addF k a b))
 |.sub=>some (.int k (subF k a b))
 |.eql=>some (.bool (eqF a b))
 |.neq=>some (.bool (!(eqF a b)))
 |.lss=>some (.bool (ltF a b))
 |.leq=>some (.bool (!(ltF b a)))
 |.gtr=>some (.bool (ltF b a))
 |.geq=>some (.bool (!(ltF a b)))
 |op=>aInt op k a b
theorem bInt2_eq(op:BinOp)(k:IntKind)(a b:Int):bInt2 op k a b=aInt op k a b:=by
 cases op<;>simp only[bInt2,aInt,addF_eq,subF_eq,eqF_eq,ltF_eq]<;>first|rfl|skip
 ·congr 2;by_cases h:a=b<;>simp[h]
 ·congr 2;by_cases h:b<a
  ·have: ¬a<=b:=by omega
   simp[h,this]
  ·have:a<=b:=by omega
   simp[h,this]
 ·congr 2;by_cases h:a<b
  ·have: ¬b<=a:=by omega
   simp[h,this]
  ·have:b<=a:=by omega
   simp[h,this]
def bInt(P:Program)(op:BinOp)(t:TypeId)(k k':IntKind)(a b:Int):Option AV:=match op with
 |.shl=>aInt .shl k a b
 |.shr=>aInt .shr k a b
 |op=>if k=k' then bInt2 op k a b else none
def bBin2(P:Program)(op:BinOp)(t:TypeId)(x y:AV):Option AV:=match x with
 |.int k a=>match y with
  |.int k' b=>bInt P op t k k' a b
  |_=>aBin P op t x y
 |_=>aBin P op t x y
def bBin(P:Program)(op:BinOp)(t:TypeId)(x y:Operand)(env:Env)(s:St):Option (AV×St):=match oper env x with
 |some x=>match oper env y with
  |some y=>ekeep (bBin2 P op t x y) s
  |none=>none
 |none=>none
def bUn(op:UnOp)(x:Operand)(env:Env)(s:St):Option (AV×St):=match oper env x with
 |some x=>ekeep (aUn op x) s
 |none=>none
def bConvert(P:Program)(src dst:TypeId)(x:Operand)(env:Env)(s:St):Option (AV×St):=match oper env x with
 |some x=>ekeep (aConvert P src dst x) s
 |none=>none
def bSlice(P:Program)(t:TypeId)(x:Operand)(lo hi mx:Option Operand)(env:Env)(s:St):Option (AV×St):=match oper env x with
 |some x=>ekeep (aSlice P t x env lo hi mx s) s
 |none=>none
def bFieldAddr(P:Program)(t:TypeId)(x:Operand)(i:Nat)(env:Env)(s:St):Option (AV×St):=match oper env x with
 |some x=>ekeep (aField P t x i) s
 |none=>none
def bField(P:Program)(t:TypeId)(x:Operand)(i:Nat)(env:Env)(s:St):Option (AV×St):=match oper env x with
 |some x=>ekeep (aFieldV P t x i) s
 |none=>none
def bIdx(P:Program)(t:TypeId)(x i:AV)(s:St):Option AV:=match x with
 |.ms id start len=>match i with
  |.int _ n=>match n with
   |.ofNat k=>match elemT P t with
    |some e=>match eget s.heap id with
     |some (.cells esz _)=>bif Nat.ble (Nat.succ k) len&&eqLen (sizeT P e) esz then some (.mp id (Nat.add start k) 0)else none
     |_=>none
    |none=>aIndexAddr P t x i s
   |.negSucc _=>aIndexAddr P t x i s
  |_=>aIndexAddr P t x i s
 |_=>aIndexAddr P t x i s
theorem bIdx_eq(P:Program)(t:TypeId)(x i:AV)(s:St):bIdx P t x i s=aIndexAddr P t x i s:=by
 cases x<;>try rfl
 rename_i id start len
 cases i<;>try rfl
 rename_i kk n
 cases n<;>try rfl
 rename_i k
 simp only[bIdx]
 cases he:elemT P t with
 |none=>rfl
 |some e=>
  simp only[aIndexAddr,he]
  cases hg:eget s.heap id with
  |none=>rfl
  |some b=>
   cases b<;>try rfl
   rename_i esz elems
   have e0:(0:Int)<=Int.ofNat k:=Int.natCast_nonneg k
   simp only
   cases hb:(Nat.ble (Nat.succ k) len&&eqLen (sizeT P e) esz)with
   |true=>
    simp only[Bool.and_eq_true]at hb
    have h1:k+1<=len:=Nat.le_of_ble_eq_true hb.1
    have e1:Int.ofNat k<(len:Int):=by show((k:Nat):Int)<len;omega
    rw[if_pos ⟨e0,e1,eqLen_iff.1 hb.2⟩]
    rfl
   |false=>
    rw[if_neg (λ⟨_,h1,h2⟩=>by
     have h1:k+1<=len:=by have:((k:Nat):Int)<len:=h1;omega
     rw[Nat.ble_eq_true_of_le h1,eqLen_iff.2 h2]at hb;cases hb)]
    rfl
def bIndexAddr(P:Program)(t:TypeId)(x i:Operand)(env:Env)(s:St):Option (AV×St):=match oper env x with
 |some x=>match oper env i with
  |some i=>ekeep (bIdx P t x i s) s
  |none=>none
 |none=>none
def bIndex(P:Program)(t:TypeId)(x i:Operand)(env:Env)(s:St):Option (AV×St):=match oper env x with
 |some x=>match oper env i with
  |some i=>ekeep (aIndex P t x i) s
  |none=>none
 |none=>none
def bExtract(x:Operand)(i:Nat)(env:Env)(s:St):Option (AV×St):=match oper env x with
 |some (.tup vs)=>ekeep vs[i]? s
 |_=>none
def bLen(P:Program)(c:Call)(env:Env)(s:St):Option (AV×St):=match opers env c.args.toList with
 |some [x]=>match c.argTypes[0]? with
  |some t=>ekeep (aLen P t x) s
  |none=>none
 |_=>none
def isLen:Callee->Bool
 |.builtin b=>match b with
  |.len=>true
  |_=>false
 |_=>false
abbrev Inv0:=AV->List AV->St->Option (AV×St)
def bValue(call:Inv0)(f:Operand)(a:List Operand)(env:Env)(s:St):Option (AV×St):=match oper env f with
 |some fv=>match opers env a with
  |some l=>bif isCallee fv then call fv l s else none
  |none=>none
 |none=>none
def bCall(P:Program)(call:Inv0)(op:Op)(c:Call)(env:Env)(s:St):Option (AV×St):=match c.callee with
 |.value f=>bValue call f c.args.toList env s
 |.builtin b=>bif isLen c.callee then bLen P c env s else aop P op env s
 |_=>aop P op env s
def iop(P:Program)(call:Inv)(op:Op)(env:Env)(s:St):Option (AV×St):=
 match op with
 |.move x=>ekeep (oper env x) s
 |.assign x=>ekeep (oper env x) s
 |.pick c a b=>bPick env c a b s
 |.alloc t=>bAlloc P t s
 |.box _ x=>bBox env x s
 |.build t parts=>bBuild P t parts env s
 |.buildSlice t len parts=>bBuildSlice P t len parts env s
 |.load t p=>bLoad P t p env s
 |.store t p x=>bStore P t p x env s
 |.binOp op t x y _=>bBin P op t x y env s
 |.unOp op _ x=>bUn op x env s
 |.convert src dst x=>bConvert P src dst x env s
 |.slice t x lo hi mx=>bSlice P t x lo hi mx env s
 |.fieldAddr t x i=>bFieldAddr P t x i env s
 |.field t x i=>bField P t x i env s
 |.indexAddr t x i=>bIndexAddr P t x i env s
 |.index t x i=>bIndex P t x i env s
 |.extract x i=>bExtract x i env s
 |.call c=>bCall P call (.call c) c env s
 |op=>aop P op env s
theorem bBin2_eq(P:Program)(op:BinOp)(t:TypeId)(x y:AV):bBin2 P op t x y=aBin P op t x y:=by
 unfold bBin2
 split
 ·split
  ·unfold bInt
   cases op<;>simp only[bInt2_eq]<;>rfl
  ·rfl
 ·rfl
theorem iop_none{P:Program}{call:Inv}{op:Op}{env:Env}{s:St}(h:callOf op=none):iop P call op env s=aop P op env s:=by
 cases op<;>simp only[iop,aop]<;>first|rfl|skip
 case pick c a b=>
  unfold bPick
  split
  ·rename_i t ht;simp only[ht];cases t<;>rfl
  ·rename_i hne
   split
   ·rename_i t ht;exact absurd ht (hne t)
   ·rfl
 case store t p x=>
  unfold bStore
  cases oper env p<;>cases oper env x<;>rfl
 case binOp op t x y z=>
  unfold bBin
  cases oper env x<;>cases oper env y<;>simp only[bBin2_eq]
 case indexAddr t x i=>
  unfold bIndexAddr
  cases oper env x<;>cases oper env i<;>simp only[bIdx_eq]
 case index t x i=>
  unfold bIndex
  cases oper env x<;>cases oper env i<;>rfl
 case call c=>
  obtain⟨callee,args,ts⟩:=c
  cases callee with
  |value f=>simp[callOf]at h
  |invoke r m=>rfl
  |builtin b=>
   cases b<;>simp only[bCall,isLen,cond_true,cond_false,aop]
   unfold bLen
   cases hq:opers env args.toList with
   |none=>rfl
   |some l=>
    cases hq':ts[0]? with
    |none=>cases l with
     |nil=>rfl
     |cons x r=>cases r<;>rfl
    |some t=>cases l with
     |nil=>rfl
     |cons x r=>cases r<;>rfl
theorem iop_some{P:Program}{call:Inv}{op:Op}{env:Env}{s:St}{f:Operand}{a:List Operand}(h:callOf op=some (f,a)):iop P call op env s=bValue call f a env s:=by
 unfold callOf at h
 split at h
 ·cases h;rfl
 ·cases h
theorem iop_ok{P:Program}{call:Inv}(hc:InvOk P call){op:Op}{env:Env}{s s':St}{v:AV}{K:AV->St->Prop}(h:iop P call op env s=some (v,s'))(hk:K v s'):ows P op K env s:=by
 unfold ows
 cases hf:callOf op with
 |some fa=>
  obtain⟨f,a⟩:=fa
  rw[iop_some hf]at h
  unfold bValue at h
  simp only
  split at h
  ·rename_i fv h1
   split at h
   ·rename_i l h2
    simp only[h1,h2]
    cases fv<;>simp only[isCallee,cond_true,cond_false]at h<;>first|(cases h;done)|skip
    ·obtain⟨a,b⟩:=hc.fn h
     exact⟨a,b.mono λ_ _ ⟨e1,e2⟩=>by subst e1;subst e2;exact hk⟩
    ·exact(hc.yld h).mono λ_ _ ⟨e1,e2⟩=>by subst e1;subst e2;exact hk
   ·cases h
  ·cases h
 |none=>
  rw[iop_none hf]at h
  simp only[h]
  exact hk
def gev(g:Option (Nat×Bool))(env:Env):Option Bool:=match g with
 |none=>some true
 |some (d,want)=>match eget env d with
  |some (.bool b)=>some (b==want)
  |some (.tup [])=>some false
  |_=>none
theorem gev_ok{g:Option (Nat×Bool)}{env:Env}{A B:Env->Prop}{b:Bool}(h:gev g env=some b)(ha:b=true->A env)(hb:b=false->B env):gwq g env A B:=by
 unfold gev at h
 unfold gwq
 split at h
 ·cases h;exact ha rfl
 ·rename_i d want
  split at h
  ·rename_i c hc
   simp only[Option.some.injEq]at h
   simp only[hc]
   refine⟨λe=>?_,λe=>?_⟩
   ·subst e;rw[eset_self hc];exact ha (by rw[<-h];simp)
   ·subst e;rw[eset_self hc];exact hb (by rw[<-h];cases want<;>rfl)
  ·rename_i hc
   cases h
   simp only[hc]
   exact hb rfl
  ·cases h
def EqE(e1 e2:Env):Prop:= ∀t,eget e1 t=eget e2 t
theorem EqE.refl(e:Env):EqE e e:=λ_=>rfl
theorem EqE.symm{e1 e2:Env}(h:EqE e1 e2):EqE e2 e1:=λt=>(h t).symm
theorem EqE.oper{e1 e2:Env}(h:EqE e1 e2):oper e1=oper e2:=by
 funext o
 cases o<;>simp only[Am.oper,h _]
theorem EqE.opers{e1 e2:Env}(h:EqE e1 e2):opers e1=opers e2:=by
 funext l
 induction l with
 |nil=>rfl
 |cons x r ih=>simp only[Am.opers,ih,h.oper]
theorem EqE.parts{e1 e2:Env}(h:EqE e1 e2): ∀l,aParts e1 l=aParts e2 l
 | []=>rfl
 |(i,x)::r=>by simp only[aParts,h.parts r,h.oper]
theorem EqE.bound{e1 e2:Env}(h:EqE e1 e2):aBound e1=aBound e2:=by
 funext x d
 cases x<;>simp only[aBound,h.oper]
theorem EqE.slice{e1 e2:Env}(h:EqE e1 e2)(P:Program)(t:TypeId)(x:AV)(lo hi mx:Option Operand)(s:St):aSlice P t x e1 lo hi mx s=aSlice P t x e2 lo hi mx s:=by
 unfold aSlice
 simp only[h.bound]
theorem EqE.aop{e1 e2:Env}(h:EqE e1 e2)(P:Program)(op:Op)(s:St):aop P op e1 s=aop P op e2 s:=by
 cases op<;>simp only[Am.aop,h.oper,h.opers,h.parts,h.bound,h.slice]
theorem EqE.ows{e1 e2:Env}(h:EqE e1 e2){P:Program}{op:Op}{K:AV->St->Prop}{s:St}(k:ows P op K e1 s):ows P op K e2 s:=by
 unfold Am.ows at k ⊢
 rw[<-h.oper,<-h.opers,<-h.aop]
 exact k
theorem EqE.eset{e1 e2:Env}(h:EqE e1 e2)(i:Nat)(x:AV):EqE (eset e1 i x) (eset e2 i x):=λt=>by rw[get_set,get_set,h t]
theorem EqE.eput{e1 e2:Env}(h:EqE e1 e2)(d:Option Nat)(x:AV):EqE (eput d x e1) (eput d x e2):=by
 cases d with
 |none=>exact h
 |some d=>exact h.eset d x
theorem EqE.gwq{e1 e2:Env}(h:EqE e1 e2){g:Option (Nat×Bool)}{A B:Env->Prop}(ha: ∀e e',EqE e e'->A e->A e')(hb: ∀e e',EqE e e'->B e->B e')(k:gwq g e1 A B):gwq g e2 A B:=by
 cases g with
 |none=>exact ha _ _ h k
 |some dw=>
  obtain⟨d,want⟩:=dw
  have hd:=h d
  simp only[Am.gwq]at k ⊢
  rw[hd]at k
  split at k
  ·exact⟨λe=>ha _ _ (h.eset _ _) (k.1 e),λe=>hb _ _ (h.eset _ _) (k.2 e)⟩
  ·exact hb _ _ h k
  ·cases k
theorem EqE.rz{P:Program}{K:Env->St->Prop}(hK: ∀e e' s,EqE e e'->K e s->K e' s): ∀{l:List Ins}{e1 e2:Env}{s:St},EqE e1 e2->rz P K l e1 s->rz P K l e2 s
 | [],_,_,_,h,k=>hK _ _ _ h k
 |i::r,_,_,_,h,k=>by
  simp only[Am.rz]at k ⊢
  exact h.gwq (λe e' h k=>h.ows (ows_mono k λ_ _ k=>EqE.rz hK (h.eput _ _) k)) (λe e' h k=>EqE.rz hK (h.eput _ _) k) k
def eputF(d:Option Nat)(v:AV)(env:Env):Env:=match d with
 |some d=>(d,v)::env
 |none=>env
theorem eputF_eq(d:Option Nat)(v:AV)(env:Env):EqE (eput d v env) (eputF d v env):=by
 cases d with
 |none=>exact .refl _
 |some d=>exactλt=>by simp only[eput,eputF,get_set,egetC]
def irz(P:Program)(call:Inv):List Ins->Env->St->Option (Env×St)
 | [],env,s=>some (env,s)
 |i::r,env,s=>match gev i.guard env with
  |some true=>match iop P call i.op env s with
   |some (v,s')=>irz P call r (eputF i.dst v env) s'
   |none=>none
  |some false=>irz P call r (eputF i.dst (.tup []) env) s
  |none=>none
theorem irz_ok{P:Program}{call:Inv}(hc:InvOk P call){K:Env->St->Prop}(hK: ∀e e' s,EqE e e'->K e s->K e' s): ∀{l:List Ins}{env env':Env}{s s':St},irz P call l env s=some (env',s')->K env' s'->rz P K l env s
 | [],_,_,_,_,h,hk=>by cases h;exact hk
 |i::r,env,env',s,s',h,hk=>by
  simp only[irz]at h
  simp only[rz]
  split at h
  ·rename_i hg
   split at h
   ·rename_i v s1 hx
    exact gev_ok hg (λ_=>iop_ok hc hx (EqE.rz hK (eputF_eq _ _ _).symm (irz_ok hc hK h hk))) (λe=>by cases e)
   ·cases h
  ·rename_i hg
   exact gev_ok hg (λe=>by cases e) (λ_=>EqE.rz hK (eputF_eq _ _ _).symm (irz_ok hc hK h hk))
  ·cases h
def chkB(P:Program)(tr:List (Nat×Op×Env×AV))(s:St):List Nat->Bool
 | []=>true
 |j::r=>(match findD tr j with
  |some (op,e,v)=>isLight op&&(match aop P op e s with
   |some (x,_)=>x.beq v
   |none=>false)
  |none=>true)&&chkB P tr s r
theorem chkB_ok{P:Program}{tr:List (Nat×Op×Env×AV)}{s:St}: ∀{l:List Nat},chkB P tr s l=true->chkD P tr s l
 | [],_=>trivial
 |j::r,h=>by
  simp only[chkB,Bool.and_eq_true]at h
  refine⟨?_,chkB_ok h.2⟩
  have h:=h.1
  split at h
  ·rename_i op e v hf
   simp only[hf]
   simp only[Bool.and_eq_true]at h
   obtain⟨hl,h⟩:=h
   split at h
   ·rename_i x s1 hx
    rw[hx,AV.beq_eq h,light_same hl hx]
   ·cases h
  ·rename_i hf
   simp only[hf]
def idz(P:Program)(call:Inv):List DI->List (Nat×Op×Env×AV)->Env->St->Option (Env×St)
 | [],_,env,s=>some (env,s)
 |⟨st,none,_⟩::_,_,_,_=>none
 |⟨st,some n,sl⟩::r,tr,env,s=>match st with
  |.light i note=>match gev n.guard env with
   |some true=>match aop P n.op (envOf sl env) s with
    |some (v,_)=>idz P call r (if note then(i,n.op,envOf sl env,v)::tr else tr) (eputF n.dst v env) s
    |none=>none
   |some false=>idz P call r tr (eputF n.dst (.tup []) env) s
   |none=>none
  |.heavy _ chk=>match gev n.guard env with
   |some true=>match iop P call n.op (envOf sl env) s with
    |some (v,s')=>bif chkB P tr s' chk then idz P call r tr (eputF n.dst v env) s' else none
    |none=>none
   |some false=>idz P call r tr (eputF n.dst (.tup []) env) s
   |none=>none
  |.alloc _=>match aop P n.op [] s with
   |some (v,s')=>idz P call r tr (eputF n.dst v env) s'
   |none=>none
theorem EqE.envOf{e1 e2:Env}(h:EqE e1 e2)(ts:List Nat):envOf ts e1=envOf ts e2:=by
 unfold Am.envOf
 congr 1
 funext t
 rw[h t]
theorem EqE.dq{P:Program}{K:Env->St->Prop}(hK: ∀e e' s,EqE e e'->K e s->K e' s): ∀{l:List DI}{tr:List (Nat×Op×Env×AV)}{e1 e2:Env}{s:St},EqE e1 e2->dq P K l tr e1 s->dq P K l tr e2 s
 | [],_,_,_,_,h,k=>hK _ _ _ h k
 |⟨st,none,sl⟩::r,_,_,_,_,h,k=>by cases st<;>exact k.elim
 |⟨.light i note,some n,sl⟩::r,tr,e1,e2,s,h,k=>by
  simp only[Am.dq]at k ⊢
  refine h.gwq (λe e' h k=>?_) (λe e' h k=>EqE.dq hK (h.eput _ _) k) k
  rw[<-h.envOf]
  split at k
  ·rename_i v s1 hx;exact EqE.dq hK (h.eput _ _) k
  ·cases k
 |⟨.heavy i chk,some n,sl⟩::r,tr,e1,e2,s,h,k=>by
  simp only[Am.dq]at k ⊢
  refine h.gwq (λe e' h k=>?_) (λe e' h k=>EqE.dq hK (h.eput _ _) k) k
  rw[<-h.envOf]
  exact ows_mono k λ_ _ ⟨a,b⟩=>⟨a,EqE.dq hK (h.eput _ _) b⟩
 |⟨.alloc i,some n,sl⟩::r,tr,e1,e2,s,h,k=>by
  simp only[Am.dq]at k ⊢
  split at k
  ·rename_i v s1 hx;exact EqE.dq hK (h.eput _ _) k
  ·cases k
theorem idz_ok{P:Program}{call:Inv}(hc:InvOk P call){K:Env->St->Prop}(hK: ∀e e' s,EqE e e'->K e s->K e' s): ∀{l:List DI}{tr:List (Nat×Op×Env×AV)}{env env':Env}{s s':St},idz P call l tr env s=some (env',s')->K env' s'->dz P K l tr env s
 | [],_,_,_,_,_,h,hk=>by cases h;exact hk
 |⟨st,none,sl⟩::r,tr,env,env',s,s',h,hk=>by simp[idz]at h
 |⟨st,some n,sl⟩::r,tr,env,env',s,s',h,hk=>by
  have ih: ∀{tr:List (Nat×Op×Env×AV)}{env1:Env}{s1:St}{d:Option Nat}{v:AV},idz P call r tr (eputF d v env1) s1=some (env',s')->dq P K r tr (eput d v env1) s1:=λh=>EqE.dq hK (eputF_eq _ _ _).symm (idz_ok hc hK h hk)
  unfold dz
  cases st with
  |light i note=>
   simp only[idz]at h
   simp only[dq]
   split at h
   ·rename_i hg
    split at h
    ·rename_i v s1 hx
     refine gev_ok hg (λ_=>?_) (λe=>by cases e)
     simp only[hx]
     exact ih h
    ·cases h
   ·rename_i hg
    exact gev_ok hg (λe=>by cases e) (λ_=>ih h)
   ·cases h
  |heavy i chk=>
   simp only[idz]at h
   simp only[dq]
   split at h
   ·rename_i hg
    split at h
    ·rename_i v s1 hx
     cases hb:chkB P tr s1 chk with
     |false=>simp[hb]at h
     |true=>
      simp only[hb,cond_true]at h
      exact gev_ok hg (λ_=>iop_ok hc hx ⟨chkB_ok hb,ih h⟩) (λe=>by cases e)
    ·cases h
   ·rename_i hg
    exact gev_ok hg (λe=>by cases e) (λ_=>ih h)
   ·cases h
  |alloc i=>
   simp only[idz]at h
   simp only[dq]
   split at h
   ·rename_i v s1 hx
    simp only[hx]
    exact ih h
   ·cases h
def SubE(env env1:Env):Prop:= ∀t x,eget env t=some x->eget env1 t=some x
theorem SubE.refl(e:Env):SubE e e:=λ_ _ h=>h
theorem SubE.trans{a b c:Env}(h:SubE a b)(k:SubE b c):SubE a c:=λt x hx=>k t x (h t x hx)
def IsRes(e:Exit)(env:Env)(s:St):Exit->Env->St->Prop:=λe1 env1 s1=>e1=e/\SubE env env1/\s1=s
def cutE:List Nat->Env->Env
 | [],_=>[]
 |k::r,e=>match eget e k with
  |some x=>(k,x)::cutE r e
  |none=>cutE r e
theorem cutE_sub: ∀(l:List Nat)(e:Env),SubE (cutE l e) e
 | [],e,t,x,h=>by simp[cutE,egetN]at h
 |k::r,e,t,x,h=>by
  simp only[cutE]at h
  split at h
  ·rename_i y hy
   simp only[egetC]at h
   split at h
   ·rename_i hk;cases h;subst hk;exact hy
   ·exact cutE_sub r e t x h
  ·exact cutE_sub r e t x h
def bitM(i:Nat):Nat:=Nat.shiftLeft 1 i
def diffM(a b:Nat):Nat:=Nat.sub a (Nat.land a b)
def maskL(l:List Nat):Nat:=l.foldl (λm i=>Nat.lor m (bitM i)) 0
def expI(ops:List Oper):List Oper->Nat×Nat->Nat×Nat
 | [],p=>p
 |o::r,(e,w)=>expI ops r (Nat.lor e (diffM (Nat.lor (maskL (slotsI o)) (match(insOf ops o).guard with|some (d,_)=>bitM d|none=>0)) w),Nat.lor w (match o.dst with|some d=>bitM d|none=>0))
def expM:Code->Nat×Nat
 |.region _ ops _=>expI ops.toList ops.toList (0,0)
 |.seq a b=>(Nat.lor (expM a).1 (diffM (expM b).1 (expM a).2),Nat.lor (expM a).2 (expM b).2)
 |.cond o a b=>(Nat.lor (maskL (slotO o)) (Nat.lor (expM a).1 (expM b).1),Nat.land (expM a).2 (expM b).2)
 |.block _ c=>((expM c).1,0)
 |.loop c=>((expM c).1,0)
 |.scope c=>((expM c).1,0)
 |.rangeFunc g _ a b=>(Nat.lor (maskL (slotO g)) (Nat.lor (expM a).1 (expM b).1),0)
 |_=>(0,0)
def bitsL(n m:Nat):List Nat:=(List.range n).filter λi=>Nat.beq (Nat.land (Nat.shiftRight m i) 1) 1
abbrev XRes:=Option (Exit×Env×St)
mutual
def idsM:AV->Nat
 |.mp id _ _=>bitM id
 |.ms id _ _=>bitM id
 |.mc id _ _ _=>bitM id
 |.yld id=>bitM id
 |.sl _ l=>idsML l
 |.ip l=>idsML l
 |.fn _ l=>idsML l
 |.agg l=>idsML l
 |.tup l=>idsML l
 |_=>0
def idsML:List AV->Nat
 | []=>0
 |x::r=>Nat.lor (idsM x) (idsML r)
end
def idsE:Env->Nat
 | []=>0
 |(_,x)::r=>Nat.lor (idsM x) (idsE r)
def idsB:Blk->Nat
 |.cells _ l=>idsML l
 |.loop l=>idsE l.env
 |.dfr=>0
def inM(m i:Nat):Bool:=Nat.beq (Nat.land (Nat.shiftRight m i) 1) 1
def tellB:List (Nat×Blk)->List (Nat×Nat)
 | []=>[]
 |(id,b)::r=>(id,idsB b)::tellB r
def passM:List (Nat×Nat)->Nat->Nat
 | [],m=>m
 |(id,k)::r,m=>passM r (bif inM m id then Nat.lor m k else m)
def markM(l:List (Nat×Nat)):Nat->Nat->Nat
 |0,m=>m
 |n+1,m=>(λm'=>bif Nat.beq m' m then m else markM l n m') (passM l m)
def keepM(m:Nat):List (Nat×Blk)->List (Nat×Blk)
 | []=>[]
 |(id,b)::r=>bif inM m id||isDfr b then(id,b)::keepM m r else keepM m r
def desc2(a:Nat):List (Nat×Blk)->Bool
 | []=>true
 |(b,_)::r=>!(Nat.beq a b)&&desc2 a r
def descB:List (Nat×Blk)->Bool
 | []=>true
 |(a,_)::r=>desc2 a r&&descB r
def gcS(base:Nat)(env:Env)(s:St):St:=bif descB s.heap then⟨keepM (markM (tellB s.heap) 12 (Nat.lor (Nat.sub (bitM base) 1) (idsE env))) s.heap,s.cnt⟩else s
theorem keepM_get{m:Nat}: ∀{h:List (Nat×Blk)},descB h=true-> ∀id b,eget (keepM m h) id=some b->eget h id=some b
 | [],_,id,b,e=>by simp[keepM,egetN]at e
 |(a,x)::r,hu,id,b,e=>by
  simp only[descB,Bool.and_eq_true]at hu
  have ih:=keepM_get (m:=m) hu.2 id b
  have no: ∀{r:List (Nat×Blk)},desc2 a r=true-> ∀y,eget r a=some y->False:=by
   intro r
   induction r with
   |nil=>intro _ y h;simp[egetN]at h
   |cons p r ihr=>
    obtain⟨k,z⟩:=p
    intro h y hy
    simp only[desc2,Bool.and_eq_true,Bool.not_eq_true']at h
    simp only[egetC]at hy
    split at hy
    ·rename_i hk;subst hk;rw[show Nat.beq k k=true from Nat.beq_refl k]at h;cases h.1
    ·exact ihr h.2 y hy
  simp only[keepM]at e
  have low:eget (keepM m r) id=some b->eget ((a,x)::r) id=some b:=λe=>by
   simp only[egetC]
   split
   ·rename_i hk;subst hk;exact(no hu.1 _ (ih e)).elim
   ·exact ih e
  cases hq:(inM m a||isDfr x)with
  |true=>
   rw[hq]at e
   simp only[cond_true,egetC]at e ⊢
   split at e
   ·rename_i hk;rw[if_pos hk];exact e
   ·rename_i hk;rw[if_neg hk];exact ih e
  |false=>
   rw[hq]at e
   exact low e
theorem keepM_dfr{m:Nat}: ∀{h:List (Nat×Blk)}(id:Nat),eget h id=some .dfr->eget (keepM m h) id=some .dfr
 | [],id,e=>by simp[egetN]at e
 |(a,x)::r,id,e=>by
  simp only[egetC]at e
  simp only[keepM]
  split at e
  ·rename_i hk;cases e;subst hk
   simp[isDfr,egetC]
  ·rename_i hk
   cases(inM m a||isDfr x)with
   |true=>simp only[cond_true,egetC,if_neg hk];exact keepM_dfr id e
   |false=>exact keepM_dfr id e
theorem gcS_le(base:Nat)(env:Env)(s:St):LeS (gcS base env s) s:=by
 unfold gcS
 cases h:descB s.heap with
 |true=>exact⟨λid b e=>keepM_get h id b e,Nat.le_refl _,λid e=>keepM_dfr id e⟩
 |false=>exact .refl s
def iloop(base:Nat)(f:Env->St->XRes)(ks:List Nat):Nat->Nat->Env->St->XRes
 |0,_,_,_=>none
 |n+1,last,env,s=>match f env s with
  |some (.normal,env',s')=>bif Nat.ble (Nat.add last 24) s'.cnt then iloop base f ks n s'.cnt (cutE ks env') (gcS base (cutE ks env') s')else iloop base f ks n last (cutE ks env') s'
  |r=>r
def irf(N:Nat)(ρ:Option Nat)(call:Inv)(g:Option AV)(ps:List Tmp)(a b:Code)(env:Env)(s:St):XRes:=match g with
 |some (.fn gf caps)=>match ρ with
  |none=>match call (.fn gf caps) [.yld (s.cnt+1)] ⟨(s.cnt+1,.loop ⟨env,N,ps,a,b,.ready,none⟩)::s.heap,s.cnt+2⟩with
   |some (_,s')=>match eget s'.heap (s.cnt+1)with
    |some (.loop l)=>match l.state,l.pending with
     |.busy,_=>none
     |_,none=>some (.normal,env,⟨(s.cnt,.dfr)::edel s'.heap (s.cnt+1),s'.cnt⟩)
     |_,some .ret=>some (.ret,env,⟨(s.cnt,.dfr)::edel s'.heap (s.cnt+1),s'.cnt⟩)
     |_,some (.exit i)=>some (.exit i,env,⟨(s.cnt,.dfr)::edel s'.heap (s.cnt+1),s'.cnt⟩)
     |_,_=>none
    |_=>none
   |none=>none
  |some id0=>match eget s.heap id0 with
   |some (.loop _)=>match call (.fn gf caps) [.yld s.cnt] ⟨(s.cnt,.loop ⟨env,N,ps,a,b,.ready,none⟩)::s.heap,s.cnt+1⟩with
    |some (_,s')=>match eget s'.heap s.cnt with
     |some (.loop l)=>match l.state,l.pending with
      |.busy,_=>none
      |_,none=>some (.normal,env,⟨edel s'.heap s.cnt,s'.cnt⟩)
      |_,some .ret=>some (.ret,env,⟨edel s'.heap s.cnt,s'.cnt⟩)
      |_,some (.exit i)=>some (.exit i,env,⟨edel s'.heap s.cnt,s'.cnt⟩)
      |_,_=>none
     |_=>none
    |none=>none
   |_=>none
 |_=>none
def isGoto:Exit->Bool
 |.goto _=>true
 |_=>false
def notNil:AV->Bool
 |.sl _ l=>match l with
  | []=>false
  |_::_=>true
 |.ms _ _ n=>Nat.ble 1 n
 |_=>false
theorem notNil_ok{x:AV}(h:notNil x=true): ¬nilish x:=by
 unfold notNil at h
 split at h
 ·split at h
  ·cases h
  ·simp[nilish]
 ·have:=Nat.le_of_ble_eq_true h
  simp only[nilish];omega
 ·cases h
theorem nilRun_code{P:Program}{N:Nat}{a b y:Code}{env E1:Env}{s:St}{d:Option Nat}{x:AV}(h:nilRun P N (.seq a b) env s=some (y,d,E1,x)):y=b:=by
 cases a with
 |region id ops dr=>
  cases dr with
  |true=>simp[nilRun]at h
  |false=>
   simp only[nilRun]at h
   split at h
   ·rename_i o1 o2 _
    cases hq:(o1.guard.isNone&&o2.guard.isNone&&okDst N o1.dst&&okDst N o2.dst&&isLight o1.op&&(callOf o1.op).isNone)with
    |false=>rw[hq]at h;cases h
    |true=>
     rw[hq]at h
     simp only[cond_true]at h
     split at h
     ·split at h
      ·cases h;rfl
      ·cases h
     ·cases h
   ·cases h
 |_=>simp[nilRun]at h
def beqO:Option AV->Option AV->Bool
 |some x,some y=>x.beq y
 |none,none=>true
 |_,_=>false
def sameE(ks:List Nat)(a b:Env):Bool:=ks.all λk=>beqO (eget a k) (eget b k)
def sameH:List (Nat×Blk)->List (Nat×Blk)->Bool
 | [],[]=>true
 |(i,x)::r,(j,y)::t=>Nat.beq i j&&(match x,y with
  |.cells e l,.cells f m=>Nat.beq e f&&beqL l m
  |.dfr,.dfr=>true
  |_,_=>false)&&sameH r t
 |_,_=>false
def sameX:Exit->Exit->Bool
 |.normal,.normal=>true
 |.ret,.ret=>true
 |.exit i,.exit j=>Nat.beq i j
 |_,_=>false
def sameR(ks:List Nat)(a b:XRes):XRes:=match a,b with
 |some (e1,v1,s1),some (e2,v2,s2)=>bif sameX e1 e2&&sameE ks v1 v2&&sameH s1.heap s2.heap&&Nat.beq s1.cnt s2.cnt then some (e1,cutE ks v1,s1)else none
 |_,_=>none
def thenX(r:XRes)(f:Env->St->XRes):XRes:=match r with
 |some (.normal,e,s)=>f e s
 |r=>r
theorem sameH_eq: ∀{a b:List (Nat×Blk)},sameH a b=true->a=b
 | [],[],_=>rfl
 | [],_::_,h=>by simp[sameH]at h
 |_::_,[],h=>by simp[sameH]at h
 |(i,x)::r,(j,y)::t,h=>by
  simp only[sameH,Bool.and_eq_true]at h
  obtain⟨⟨h1,h2⟩,h3⟩:=h
  have e1:=Nat.eq_of_beq_eq_true h1
  have e3:=sameH_eq h3
  subst e1;subst e3
  cases x<;>cases y<;>simp only[Bool.and_eq_true]at h2<;>first|(cases h2;done)|skip
  ·rw[Nat.eq_of_beq_eq_true h2.1,beqL_eq h2.2]
  ·rfl
theorem sameX_eq{a b:Exit}(h:sameX a b=true):a=b:=by
 cases a<;>cases b<;>simp only[sameX]at h<;>first|rfl|(cases h;done)|skip
 rw[Nat.eq_of_beq_eq_true h]
theorem sameE_sub{ks:List Nat}{a b:Env}(h:sameE ks a b=true):SubE (cutE ks a) b:=by
 have key: ∀(l:List Nat),(∀k∈l,beqO (eget a k) (eget b k)=true)->SubE (cutE l a) b:=by
  intro l
  induction l with
  |nil=>intro _ t x hx;simp[cutE,egetN]at hx
  |cons k r ih=>
   intro hk t x hx
   have ih:=ih λq hq=>hk q (by simp[hq])
   simp only[cutE]at hx
   split at hx
   ·rename_i y hy
    simp only[egetC]at hx
    split at hx
    ·rename_i e;cases hx;subst e
     have:=hk k (by simp)
     rw[hy]at this
     cases hb:eget b k with
     |none=>rw[hb]at this;simp[beqO]at this
     |some z=>rw[hb]at this;simp only[beqO]at this;rw[AV.beq_eq this]
    ·exact ih t x hx
   ·exact ih t x hx
 exact key ks (List.all_eq_true.1 h)
theorem sameR_ok{ks:List Nat}{a b:XRes}{e:Exit}{v:Env}{s:St}(h:sameR ks a b=some (e,v,s)): ∃v1 v2,a=some (e,v1,s)/\b=some (e,v2,s)/\SubE v v1/\SubE v v2:=by
 unfold sameR at h
 split at h
 ·rename_i e1 v1 s1 e2 v2 s2
  generalize hq:(sameX e1 e2&&sameE ks v1 v2&&sameH s1.heap s2.heap&&Nat.beq s1.cnt s2.cnt)=q at h
  cases q with
  |false=>cases h
  |true=>
   cases h
   simp only[Bool.and_eq_true]at hq
   obtain⟨⟨⟨h1,h2⟩,h3⟩,h4⟩:=hq
   have e1:=sameX_eq h1
   have e3:=sameH_eq h3
   have e4:=Nat.eq_of_beq_eq_true h4
   obtain⟨hp1,c1⟩:=s
   obtain⟨hp2,c2⟩:=s2
   simp only at e3 e4
   subst e1;subst e3;subst e4
   exact⟨v1,v2,rfl,rfl,cutE_sub _ _,sameE_sub h2⟩
 ·cases h
def ireg(P:Program)(N:Nat)(call:Inv)(ops:Array Oper)(d:Bool)(env:Env)(s:St):XRes:=bif d then
  (bif planB P N ops.toList (planOf ops.toList).1 (planOf ops.toList).2&&P.follows .mixedOrders then match idz P call (mkD (ins ops.toList) (planOf ops.toList).2) [] env s with
   |some (env',s')=>some (.normal,env',s')
   |none=>none
  else none)
 else bif guardsOk ops.toList&&dstsOk N ops.toList then match irz P call (ins ops.toList) env s with
   |some (env',s')=>some (.normal,env',s')
   |none=>none
  else none
def irun(P:Program)(N:Nat)(base:Nat)(ρ:Option Nat)(call:Inv)(fuel:Nat):Code->Nat->Env->St->XRes
 |.skip,_,env,s=>some (.normal,env,s)
 |.ret,_,env,s=>some (.ret,env,s)
 |.exit id,_,env,s=>some (.exit id,env,s)
 |.region _ ops d,_,env,s=>ireg P N call ops d env s
 |.seq a b,lo,env,s=>match irun P N base ρ call fuel a (Nat.lor (expM b).1 lo) env s with
  |some (.normal,env',s')=>irun P N base ρ call fuel b lo env' s'
  |some r=>some r
  |none=>match nilRun P N (.seq a b) env s with
   |some (_,d,E1,x)=>bif notNil x then irun P N base ρ call fuel b lo (eput d (.bool false) E1) s else
    sameR (bitsL N lo) (irun P N base ρ call fuel b lo (eput d (.bool false) E1) s) (irun P N base ρ call fuel b lo (eput d (.bool true) E1) s)
   |none=>none
 |.cond o a b,lo,env,s=>match oper env o with
  |some (.bool c)=>bif c then irun P N base ρ call fuel a lo env s else irun P N base ρ call fuel b lo env s
  |_=>none
 |.block id c,lo,env,s=>match irun P N base ρ call fuel c lo env s with
  |some (.exit i,env',s')=>bif Nat.beq i id then some (.normal,env',s')else some (.exit i,env',s')
  |r=>r
 |.loop c,lo,env,s=>iloop base (irun P N base ρ call fuel c (Nat.lor (expM c).1 lo)) (bitsL N (Nat.lor (expM c).1 lo)) fuel s.cnt (cutE (bitsL N (Nat.lor (expM c).1 lo)) env) s
 |.rangeFunc g ps a b,_,env,s=>irf N ρ call (oper env g) ps.toList a b env s
 |.label _,_,env,s=>some (.normal,env,s)
 |.scope c,lo,env,s=>match irun P N base ρ call fuel c lo env s with
  |some (e,env',s')=>bif isGoto e then none else some (e,env',s')
  |none=>none
 |_,_,_,_=>none
section
variable {P:Program} {N:Nat} {ρ:Option Nat} {call:Inv}
theorem awp_subE{c:Code}{Q:Exit->Env->St->Prop}{env env1:Env}{s:St}(h:AWp P N ρ c Q env s)(he:SubE env env1):AWp P N ρ c Q env1 s:=
 awp_weak h he (λ_ _ h=>h) (Nat.le_refl _) (λ_ h=>h)
theorem isRes_of{c:Code}{e:Exit}{env env' env1:Env}{s s':St}(h:AWp P N ρ c (IsRes e env' s') env s)(he:SubE env1 env'):AWp P N ρ c (IsRes e env1 s') env s:=
 h.mono λ_ _ _ ⟨a,b,c⟩=>⟨a,he.trans b,c⟩
theorem iloop_ok{base:Nat}{f:Env->St->XRes}{ks:List Nat}{c:Code}(hf: ∀{env:Env}{s:St}{e:Exit}{env':Env}{s':St},f env s=some (e,env',s')->AWp P N ρ c (IsRes e env' s') env s):
  ∀{n last:Nat}{env:Env}{s:St}{e:Exit}{env':Env}{s':St},iloop base f ks n last env s=some (e,env',s')->AWp P N ρ (.loop c) (IsRes e env' s') env s:=by
 intro n last env s e env' s' h
 refine awp_loop (λk env1 s1=> ∃env s last,SubE env env1/\LeS s s1/\iloop base f ks k last env s=some (e,env',s')) ⟨env,s,last,.refl _,.refl _,h⟩ ?_
 intro k env1 s1 hk
 obtain⟨env,s,last,hsub,hle,hk⟩:=hk
 refine awp_weak ?_ hsub hle.heap hle.cnt hle.dfr
 cases k with
 |zero=>simp[iloop]at hk
 |succ k=>
  simp only[iloop]at hk
  split at hk
  ·rename_i env1 s1 h1
   refine(hf h1).mono ?_
   rintro e2 env2 s2 ⟨rfl,hs,rfl⟩
   cases hb:Nat.ble (Nat.add last 24) s2.cnt with
   |true=>
    rw[hb]at hk
    exact⟨k,Nat.lt_succ_self k,_,_,_,(cutE_sub ks _).trans hs,gcS_le _ _ _,hk⟩
   |false=>
    rw[hb]at hk
    exact⟨k,Nat.lt_succ_self k,_,_,_,(cutE_sub ks _).trans hs,.refl _,hk⟩
  ·rename_i hne
   refine(hf hk).mono ?_
   rintro e2 env2 s2 ⟨rfl,hs,rfl⟩
   cases e2 with
   |normal=>exact absurd hk (hne _ _)
   |exit i=>exact⟨rfl,hs,rfl⟩
   |goto l=>exact⟨rfl,hs,rfl⟩
   |ret=>exact⟨rfl,hs,rfl⟩
   |panic ch=>exact⟨rfl,hs,rfl⟩
   |outgrown=>exact⟨rfl,hs,rfl⟩
theorem irf_ok(hc:InvOk P call){g:Operand}{ps:Array Tmp}{a b:Code}{env env':Env}{s s':St}{e:Exit}(h:irf N ρ call (oper env g) ps.toList a b env s=some (e,env',s')):
  AWp P N ρ (.rangeFunc g ps a b) (IsRes e env' s') env s:=by
 unfold irf at h
 split at h
 case h_2=>cases h
 rename_i gf caps hg
 split at h
 ·split at h
  case h_2=>cases h
  rename_i v s1 h1
  split at h
  case h_2=>cases h
  rename_i l hl
  obtain⟨he,ha⟩:=hc.fn h1
  refine awp_rangeFunc hg he (ha.mono ?_)
  rintro x t ⟨_,rfl⟩
  split at h
  case h_5=>cases h
  ·cases h
  ·rename_i _ hp hnb
   cases h
   exact⟨l,hl,λe=>hnb e,by rw[hp];exact⟨rfl,.refl _,rfl⟩⟩
  ·rename_i _ hp hnb
   cases h
   exact⟨l,hl,λe=>hnb e,by rw[hp];exact awp_ret ⟨rfl,.refl _,rfl⟩⟩
  ·rename_i _ hp hnb
   cases h
   exact⟨l,hl,λe=>hnb e,by rw[hp];exact awp_exit ⟨rfl,.refl _,rfl⟩⟩
 ·split at h
  case h_2=>cases h
  rename_i l0 hl0
  split at h
  case h_2=>cases h
  rename_i v s1 h1
  split at h
  case h_2=>cases h
  rename_i l hl
  obtain⟨he,ha⟩:=hc.fn h1
  refine awp_rangeFuncN hl0 hg he (ha.mono ?_)
  rintro x t ⟨_,rfl⟩
  split at h
  case h_5=>cases h
  ·cases h
  ·rename_i _ hp hnb
   cases h
   exact⟨l,hl,λe=>hnb e,by rw[hp];exact⟨rfl,.refl _,rfl⟩⟩
  ·rename_i _ hp hnb
   cases h
   exact⟨l,hl,λe=>hnb e,by rw[hp];exact awp_ret ⟨rfl,.refl _,rfl⟩⟩
  ·rename_i _ hp hnb
   cases h
   exact⟨l,hl,λe=>hnb e,by rw[hp];exact awp_exit ⟨rfl,.refl _,rfl⟩⟩
theorem isRes_eq{e:Exit}{env':Env}{s':St}(e1 e2:Env)(s:St)(h:EqE e1 e2)(k:IsRes e env' s' .normal e1 s):IsRes e env' s' .normal e2 s:=
 ⟨k.1,λt x hx=>by rw[<-h];exact k.2.1 t x hx,k.2.2⟩
theorem irun_ok(hc:InvOk P call){base fuel:Nat}: ∀{c:Code}{lo:Nat}{env:Env}{s:St}{e:Exit}{env':Env}{s':St},irun P N base ρ call fuel c lo env s=some (e,env',s')->AWp P N ρ c (IsRes e env' s') env s
 |.skip,_,_,_,_,_,_,h=>by cases h;exact awp_skip ⟨rfl,.refl _,rfl⟩
 |.ret,_,_,_,_,_,_,h=>by cases h;exact awp_ret ⟨rfl,.refl _,rfl⟩
 |.exit id,_,_,_,_,_,_,h=>by cases h;exact awp_exit ⟨rfl,.refl _,rfl⟩
 |.region id ops d,_,env,s,e,env',s',h=>by
  simp only[irun,ireg]at h
  cases d with
  |true=>
   simp only[cond_true]at h
   generalize hg:(planB P N ops.toList (planOf ops.toList).1 (planOf ops.toList).2&&P.follows .mixedOrders)=g at h
   cases g with
   |false=>cases h
   |true=>
    simp only[cond_true]at h
    simp only[Bool.and_eq_true]at hg
    split at h
    ·rename_i env1 s1 h1
     cases h
     exact awp_de rfl (planB_ok hg.1) hg.2 (idz_ok hc (λe1 e2 s h k=>isRes_eq e1 e2 s h k) h1 ⟨rfl,.refl _,rfl⟩)
    ·cases h
  |false=>
   simp only[cond_false]at h
   generalize hg:(guardsOk ops.toList&&dstsOk N ops.toList)=g at h
   cases g with
   |false=>cases h
   |true=>
    simp only[cond_true]at h
    simp only[Bool.and_eq_true]at hg
    split at h
    ·rename_i env1 s1 h1
     cases h
     exact awp_re rfl hg.1 hg.2 (irz_ok hc (λe1 e2 s h k=>isRes_eq e1 e2 s h k) h1 ⟨rfl,.refl _,rfl⟩)
    ·cases h
 |.seq a b,lo,env,s,e,env',s',h=>by
  simp only[irun]at h
  split at h
  ·rename_i env1 s1 h1
   refine awp_seq ((irun_ok hc h1).mono ?_)
   rintro e2 env2 s2 ⟨rfl,hs,rfl⟩
   exact awp_subE (irun_ok hc h) hs
  ·rename_i r hne h1
   cases h
   refine awp_seq ((irun_ok hc h1).mono ?_)
   rintro e2 env2 s2 ⟨rfl,hs,rfl⟩
   cases e2 with
   |normal=>exact absurd rfl (hne _ _)
   |exit i=>exact⟨rfl,hs,rfl⟩
   |goto l=>exact⟨rfl,hs,rfl⟩
   |ret=>exact⟨rfl,hs,rfl⟩
   |panic ch=>exact⟨rfl,hs,rfl⟩
   |outgrown=>exact⟨rfl,hs,rfl⟩
  ·split at h
   ·rename_i y d E1 x hx
    cases hq:notNil x with
    |false=>
     rw[hq]at h
     have hy:y=b:=nilRun_code hx
     subst hy
     obtain⟨v1,v2,r1,r2,t1,t2⟩:=sameR_ok h
     refine run_nl _ d E1 x hx λc hcx=>?_
     cases c with
     |true=>exact isRes_of (irun_ok hc r2) t2
     |false=>exact isRes_of (irun_ok hc r1) t1
    |true=>
     rw[hq]at h
     have hy:y=b:=nilRun_code hx
     subst hy
     refine run_nl _ d E1 x hx λc hcx=>?_
     cases c with
     |true=>exact absurd (hcx rfl) (notNil_ok hq)
     |false=>exact irun_ok hc h
   ·cases h
 |.cond o a b,lo,env,s,e,env',s',h=>by
  simp only[irun]at h
  split at h
  ·rename_i c hc'
   refine awp_cond hc' (λe1=>?_) (λe1=>?_)
   ·subst e1;exact irun_ok hc h
   ·subst e1;exact irun_ok hc h
  ·cases h
 |.block id c,lo,env,s,e,env',s',h=>by
  simp only[irun]at h
  refine awp_block ?_
  split at h
  ·rename_i i env1 s1 h1
   refine(irun_ok hc h1).mono ?_
   rintro e2 env2 s2 ⟨rfl,hs,rfl⟩
   simp only[InBlock]
   cases hb:Nat.beq i id with
   |true=>
    simp only[hb,cond_true]at h
    cases h
    rw[if_pos (Nat.eq_of_beq_eq_true hb)]
    exact⟨rfl,hs,rfl⟩
   |false=>
    simp only[hb,cond_false]at h
    cases h
    rw[if_neg (λe=>by subst e;rw[show Nat.beq _ _=true from Nat.beq_refl _]at hb;cases hb)]
    exact⟨rfl,hs,rfl⟩
  ·rename_i hne
   refine(irun_ok hc h).mono ?_
   rintro e2 env2 s2 ⟨rfl,hs,rfl⟩
   cases e2 with
   |exit i=>exact absurd h (hne _ _ _)
   |normal=>exact⟨rfl,hs,rfl⟩
   |goto l=>exact⟨rfl,hs,rfl⟩
   |ret=>exact⟨rfl,hs,rfl⟩
   |panic ch=>exact⟨rfl,hs,rfl⟩
   |outgrown=>exact⟨rfl,hs,rfl⟩
 |.loop c,lo,env,s,e,env',s',h=>by
  simp only[irun]at h
  exact awp_subE (iloop_ok (λh=>irun_ok hc h) h) (cutE_sub _ _)
 |.rangeFunc g ps a b,_,env,s,e,env',s',h=>by
  simp only[irun]at h
  exact irf_ok hc h
 |.label _,_,_,_,_,_,_,h=>by simp only[irun]at h;cases h;exact awp_label ⟨rfl,.refl _,rfl⟩
 |.scope c,lo,env,s,e,env',s',h=>by
  simp only[irun]at h
  split at h
  ·rename_i e1 env1 s1 h1
   cases hq:isGoto e1 with
   |true=>rw[hq]at h;cases h
   |false=>
    rw[hq]at h
    cases h
    exact awp_scope (irun_ok hc h1) λl _ _ ⟨e,_,_⟩=>by subst e;cases hq
  ·cases h
 |.goto _,_,_,_,_,_,_,h=>by simp[irun]at h
 |.refuse _,_,_,_,_,_,_,h=>by simp[irun]at h
end
abbrev Ora:=FuncId->List AV->St->Option (AV×St)
def OraOk(P:Program)(ora:Ora):Prop:= ∀{g:FuncId}{l:List AV}{s:St}{v:AV}{s':St},ora g l s=some (v,s')->enters P g=true/\ACalls P g l s λx t=>x=v/\t=s'
def noOra:Ora:=λ_ _ _=>none
theorem noOra_ok{P:Program}:OraOk P noOra:=λh=>by cases h
def liveIds(h:List (Nat×Blk)):List Nat:=(h.filter λp=>!(isDfr p.2)).map (·.1)
def endOf(P:Program)(rs:Array ResultVar)(env:Env)(s:St):Option (AV×St):=match aResults P rs env s with
 |some x=>bif noDfr s.heap then some (x,s)else match keepB (liveIds s.heap) s with
  |some s'=>bif noDfr s'.heap then some (x,s')else none
  |none=>none
 |none=>none
theorem aRes_sub{P:Program}{env env1:Env}{s:St}(he:SubE env env1){r:ResultVar}{x:AV}(h:aRes P env s r=some x):aRes P env1 s r=some x:=by
 cases r with
 |tmp t=>exact he t x h
 |cell a t=>
  simp only[aRes]at h ⊢
  split at h
  ·rename_i p hp;rw[he a p hp];exact h
  ·cases h
theorem aResL_sub{P:Program}{env env1:Env}{s:St}(he:SubE env env1): ∀{rs:List ResultVar}{l:List AV},aResL P env s rs=some l->aResL P env1 s rs=some l
 | [],_,h=>h
 |r::rs,l,h=>by
  simp only[aResL]at h ⊢
  split at h
  ·rename_i x xs h1 h2
   rw[aRes_sub he h1,aResL_sub he h2];exact h
  ·cases h
theorem endOf_ok{P:Program}{rs:Array ResultVar}{env env1:Env}{s s':St}{x:AV}(he:SubE env env1)(h:endOf P rs env s=some (x,s')):FinQ P rs (λy t=>y=x/\t=s') .ret env1 s:=by
 unfold endOf at h
 split at h
 ·rename_i y hy
  have hy:aResults P rs env1 s=some y:=by
   unfold aResults at hy ⊢
   cases hr:aResL P env s rs.toList with
   |none=>simp[hr]at hy
   |some l=>rw[aResL_sub he hr];rw[hr]at hy;exact hy
  cases hd:noDfr s.heap with
  |true=>
   simp only[hd,cond_true]at h
   cases h
   exact finS hy hd ⟨rfl,rfl⟩
  |false=>
   simp only[hd,cond_false]at h
   split at h
   ·rename_i s1 h1
    cases hd1:noDfr s1.heap with
    |true=>
     simp only[hd1,cond_true]at h
     cases h
     exact fin_p _ _ hy h1 hd1 ⟨rfl,rfl⟩
    |false=>simp[hd1]at h
   ·cases h
 ·cases h
def iyield(P:Program)(call:Inv)(fuel:Nat)(id:Nat)(args:List AV)(s:St):Option (AV×St):=match eget s.heap id with
 |some (.loop l)=>bif Nat.beq args.length l.params.length&&l.params.all (λt=>decide (t<l.ntmps))then
   match irun P l.ntmps s.cnt (some id) call fuel l.assign (expM l.body).1 (putParams l.params args l.env) s with
   |some (.normal,env1,s1)=>match eget s1.heap id with
    |some (.loop l1)=>match l1.state with
     |.ready=>match irun P l.ntmps s.cnt (some id) call fuel l.body 0 env1 (setLoop s1 id {l1 with state:=.busy})with
      |some (e,_,s2)=>match eget s2.heap id with
       |some (.loop l3)=>match e with
        |.normal=>some (.bool true,setLoop s2 id {l3 with state:=.ready,pending:=none})
        |.ret=>some (.bool false,setLoop s2 id {l3 with state:=.done,pending:=some .ret})
        |.exit i=>some (.bool false,setLoop s2 id {l3 with state:=.done,pending:=some (.exit i)})
        |_=>none
       |_=>none
      |none=>none
     |_=>none
    |_=>none
   |_=>none
  else none
 |_=>none
theorem iyield_ok{P:Program}{call:Inv}(hc:InvOk P call){fuel id:Nat}{args:List AV}{s s':St}{v:AV}(h:iyield P call fuel id args s=some (v,s')):AYield P id args s λx t=>x=v/\t=s':=by
 unfold iyield at h
 split at h
 case h_2=>cases h
 rename_i l hl
 generalize hg:(Nat.beq args.length l.params.length&&l.params.all (λt=>decide (t<l.ntmps)))=g at h
 cases g with
 |false=>cases h
 |true=>
  simp only[cond_true]at h
  simp only[Bool.and_eq_true,Nat.beq_eq]at hg
  split at h
  case h_2=>cases h
  rename_i env1 s1 h1
  split at h
  case h_2=>cases h
  rename_i l1 hl1
  split at h
  case h_2=>cases h
  rename_i hr
  split at h
  case h_2=>cases h
  rename_i e env2 s2 h2
  split at h
  case h_2=>cases h
  rename_i l3 hl3
  refine ayield hl hg.1 hg.2 ((irun_ok hc h1).mono ?_)
  rintro e2 env3 s3 ⟨rfl,hs3,rfl⟩
  refine⟨l1,hl1,hr,awp_subE ((irun_ok hc h2).mono ?_) hs3⟩
  rintro e4 env4 s4 ⟨rfl,_,rfl⟩
  cases e4 with
  |normal=>cases h;exact⟨l3,hl3,rfl,rfl⟩
  |ret=>cases h;exact⟨l3,hl3,rfl,rfl⟩
  |exit i=>cases h;exact⟨l3,hl3,rfl,rfl⟩
  |goto l=>cases h
  |panic ch=>cases h
  |outgrown=>cases h
def resSlot:ResultVar->Nat
 |.tmp t=>t
 |.cell a _=>a
def ifunc(P:Program)(call:Inv)(fuel:Nat)(g:FuncId)(args:List AV)(s:St):Option (AV×St):=match P.funcs[g]? with
 |some fn=>match fn.body with
  | some c => bif (fn.name != "runtime.NumGoroutine") && Nat.ble args.length fn.ntmps && noDfr s.heap then
    match irun P fn.ntmps s.cnt none call fuel c (maskL (fn.results.toList.map resSlot)) (argEnv args 0) s with
    |some (.ret,env,s')=>endOf P fn.results env s'
    |some (.normal,env,s')=>endOf P fn.results env s'
    |_=>none
   else none
  |none=>none
 |none=>none
theorem ifunc_ok{P:Program}{call:Inv}(hc:InvOk P call){fuel:Nat}{g:FuncId}{args:List AV}{s s':St}{v:AV}(h:ifunc P call fuel g args s=some (v,s')):
  enters P g=true/\ACalls P g args s λx t=>x=v/\t=s':=by
 unfold ifunc at h
 split at h
 case h_2=>cases h
 rename_i fn hf
 split at h
 case h_2=>cases h
 rename_i c hb
 generalize hg : ((fn.name != "runtime.NumGoroutine") && Nat.ble args.length fn.ntmps && noDfr s.heap) = g at h
 cases g with
 |false=>cases h
 |true=>
  simp only[cond_true]at h
  simp only[Bool.and_eq_true]at hg
  refine⟨by simp[enters,hf,hg.1.1,hb],acalls_of_wp hf hb (Nat.le_of_ble_eq_true hg.1.2) (noDfr_iff hg.2) ?_⟩
  split at h
  ·rename_i env1 s1 h1
   refine(irun_ok hc h1).mono ?_
   rintro e2 env3 s3 ⟨rfl,hs3,rfl⟩
   exact endOf_ok hs3 h
  ·rename_i env1 s1 h1
   refine(irun_ok hc h1).mono ?_
   rintro e2 env3 s3 ⟨rfl,hs3,rfl⟩
   exact endOf_ok hs3 h
  ·cases h
def endX(P:Program)(rs:Array ResultVar):XRes->Option (AV×St)
 |some (.ret,env,s)=>endOf P rs env s
 |some (.normal,env,s)=>endOf P rs env s
 |_=>none
theorem endX_ok{P:Program}{rs:Array ResultVar}{e:Exit}{env env1:Env}{s s':St}{x:AV}(h:endX P rs (some (e,env,s))=some (x,s'))(he:SubE env env1):FinQ P rs (λy t=>y=x/\t=s') e env1 s:=by
 cases e with
 |ret=>exact endOf_ok he h
 |normal=>exact endOf_ok he h
 |exit i=>cases h
 |goto l=>cases h
 |panic c=>cases h
 |outgrown=>cases h
def iclone(P:Program)(call:Inv)(fuel:Nat)(g:FuncId)(args:List AV)(s:St):Option (AV×St):=match P.funcs[g]? with
 |some fn=>match fn.body with
  | some (.seq r0 (.seq (.seq r1 cnd) rest)) => bif (fn.name != "runtime.NumGoroutine") && Nat.ble args.length fn.ntmps && noDfr s.heap then
    match irun P fn.ntmps s.cnt none call fuel r0 0xFFFFFFFF (argEnv args 0) s with
    |some (.normal,E0,s0)=>match nilRun P fn.ntmps (.seq r1 cnd) E0 s0 with
     |some (_,d,E1,_)=>
      match endX P fn.results (thenX (irun P fn.ntmps s.cnt none call fuel cnd 0xFFFFFFFF (eput d (.bool false) E1) s0) (irun P fn.ntmps s.cnt none call fuel rest 0xFFFFFFFF)),
       endX P fn.results (thenX (irun P fn.ntmps s.cnt none call fuel cnd 0xFFFFFFFF (eput d (.bool true) E1) s0) (irun P fn.ntmps s.cnt none call fuel rest 0xFFFFFFFF))with
      |some (x1,s1),some (x2,s2)=>bif x1.beq x2&&sameH s1.heap s2.heap&&Nat.beq s1.cnt s2.cnt then some (x1,s1)else none
      |_,_=>none
     |none=>none
    |_=>none
   else none
  |_=>none
 |none=>none
theorem iclone_ok{P:Program}{call:Inv}(hc:InvOk P call){fuel:Nat}{g:FuncId}{args:List AV}{s s':St}{v:AV}(h:iclone P call fuel g args s=some (v,s')):
  enters P g=true/\ACalls P g args s λx t=>x=v/\t=s':=by
 unfold iclone at h
 split at h
 case h_2=>cases h
 rename_i fn hf
 split at h
 case h_2=>cases h
 rename_i r0 r1 cnd rest hb
 generalize hg : ((fn.name != "runtime.NumGoroutine") && Nat.ble args.length fn.ntmps && noDfr s.heap) = q at h
 cases q with
 |false=>cases h
 |true=>
  simp only[cond_true]at h
  simp only[Bool.and_eq_true]at hg
  refine⟨by simp[enters,hf,hg.1.1,hb],acalls_of_wp hf hb (Nat.le_of_ble_eq_true hg.1.2) (noDfr_iff hg.2) ?_⟩
  split at h
  case h_2=>cases h
  rename_i E0 s0 h0
  split at h
  case h_2=>cases h
  rename_i y d E1 x hx
  have hy:y=cnd:=nilRun_code hx
  subst hy
  split at h
  case h_2=>cases h
  rename_i x1 s1 x2 s2 hF hT
  generalize hq:(x1.beq x2&&sameH s1.heap s2.heap&&Nat.beq s1.cnt s2.cnt)=q at h
  cases q with
  |false=>cases h
  |true=>
   cases h
   simp only[Bool.and_eq_true]at hq
   have e1:=AV.beq_eq hq.1.1
   have e2:=sameH_eq hq.1.2
   have e3:=Nat.eq_of_beq_eq_true hq.2
   subst e1
   have e4:s2=s':=by cases s';cases s2;simp only at e2 e3;rw[e2,e3]
   subst e4
   have fin: ∀{c:Bool},endX P fn.results (thenX (irun P fn.ntmps s.cnt none call fuel y 0xFFFFFFFF (eput d (.bool c) E1) s0) (irun P fn.ntmps s.cnt none call fuel rest 0xFFFFFFFF))=some (v,s2)->
     AWp P fn.ntmps none y (Then (AWp P fn.ntmps none rest (FinQ P fn.results λx t=>x=v/\t=s2)) (FinQ P fn.results λx t=>x=v/\t=s2)) (eput d (.bool c) E1) s0:=λ{c}hr=>by
    unfold thenX at hr
    split at hr
    ·rename_i e1 s1 h1
     refine(irun_ok hc h1).mono ?_
     rintro e2 env2 s2 ⟨rfl,hs,rfl⟩
     cases h2:irun P fn.ntmps s.cnt none call fuel rest 0xFFFFFFFF e1 s2 with
     |none=>rw[h2]at hr;cases hr
     |some r=>
      obtain⟨e3,env3,s3⟩:=r
      rw[h2]at hr
      refine awp_subE ((irun_ok hc h2).mono ?_) hs
      rintro e4 env4 s4 ⟨rfl,hs4,rfl⟩
      exact endX_ok hr hs4
    ·rename_i r hne
     cases h2:irun P fn.ntmps s.cnt none call fuel y 0xFFFFFFFF (eput d (.bool c) E1) s0 with
     |none=>rw[h2]at hr;cases hr
     |some r=>
      obtain⟨e3,env3,s3⟩:=r
      rw[h2]at hr hne
      refine(irun_ok hc h2).mono ?_
      rintro e4 env4 s4 ⟨rfl,hs4,rfl⟩
      have hfin:=endX_ok hr hs4
      cases e4 with
      |normal=>exact absurd rfl (hne _ _)
      |exit i=>exact hfin
      |goto l=>exact hfin
      |ret=>exact hfin
      |panic ch=>exact hfin
      |outgrown=>exact hfin
   refine awp_seq ((irun_ok hc h0).mono ?_)
   rintro e2 env2 s2 ⟨rfl,hs,rfl⟩
   refine awp_subE (awp_seq ?_) hs
   refine run_nl _ d E1 x hx λc _=>?_
   cases c with
   |true=>exact fin hT
   |false=>exact fin hF
def emptyS:AV->Bool
 |.sl _ l=>match l with
  | []=>true
  |_::_=>false
 |.ms _ _ n=>Nat.beq n 0
 |_=>false
theorem emptyS_V{G:Ghost}{x:AV}{v:Value}(h:emptyS x=true)(hv:V G x v):V G (.sl false []) v:=by
 cases x<;>simp only[emptyS]at h<;>first|(cases h;done)|skip
 ·rename_i f l
  cases l with
  |nil=>
   cases hv with
   |slnil _ base cap hf hb=>exact .slnil false base cap (λh=>by cases h) hb
   |sl _ _ b off esz cap val hcap hfull hesz hsc himm hV=>exact .slnil false (some ⟨b,off,none⟩) cap (λh=>by cases h) (λh=>by cases h)
  |cons a r=>cases h
 ·rename_i id st n
  have:=Nat.eq_of_beq_eq_true h
  subst this
  cases hv with
  |ms _ _ _ cap r addr ho hle hin haddr=>exact .slnil false (some ⟨r.block,addr,none⟩) cap (λh=>by cases h) (λh=>by cases h)
  |msnil _ _ cap base hc=>exact .slnil false base cap (λh=>by cases h) (λ_=>hc)
def icl(P:Program)(call:Inv)(fuel:Nat)(g:FuncId)(l:List AV)(s:St):Option (AV×St):=match l with
 | [x]=>bif emptyS x then match iclone P call fuel g [.sl false []] St.nil with
   |some (v,_)=>bif v.clean then some (v,s)else none
   |none=>none
  else none
 |_=>none
theorem icl_ok{P:Program}{call:Inv}(hc:InvOk P call){fuel:Nat}{g:FuncId}{l:List AV}{s s':St}{v:AV}(h:icl P call fuel g l s=some (v,s')):enters P g=true/\ACalls P g l s λx t=>x=v/\t=s':=by
 unfold icl at h
 split at h
 case h_2=>cases h
 rename_i x
 cases he:emptyS x with
 |false=>rw[he]at h;cases h
 |true=>
  rw[he]at h
  simp only[cond_true]at h
  split at h
  case h_2=>cases h
  rename_i u s1 h1
  cases hq:u.clean with
  |false=>rw[hq]at h;cases h
  |true=>
   rw[hq]at h
   cases h
   obtain⟨e1,e2⟩:=iclone_ok hc h1
   refine⟨e1,λG w vs hs hv=>?_⟩
   refine(apure (P:=P) (f:=g) (args:=[.sl false []]) (x:=v) rfl hq (e2.mono λ_ _ ⟨a,_⟩=>a)) s G w vs hs ⟨by simpa using hv.1,λi a b ha hb=>?_⟩
   cases i with
   |zero=>simp at ha;subst ha;exact emptyS_V he (hv.2 0 x b rfl hb)
   |succ i=>simp at ha
def icall(P:Program)(ora:Ora)(fuel:Nat):Nat->Inv
 |0=>λ_ _ _=>none
 |d+1=>λfv l s=>match fv with
  |.fn g caps=>match ora g (l++caps) s with
   |some r=>some r
   |none=>match ifunc P (icall P ora fuel d) fuel g (l++caps) s with
    |some r=>some r
    |none=>icl P (icall P ora fuel d) fuel g (l++caps) s
  |.yld id=>iyield P (icall P ora fuel d) fuel id l s
  |_=>none
theorem icall_ok{P:Program}{ora:Ora}(ho:OraOk P ora){fuel:Nat}: ∀{d:Nat},InvOk P (icall P ora fuel d)
 |0=>⟨λh=>by simp[icall]at h,λh=>by simp[icall]at h⟩
 |d+1=>⟨λh=>by
  simp only[icall]at h
  split at h
  ·rename_i r hr
   cases h
   exact ho hr
  ·split at h
   ·rename_i r hr;cases h;exact ifunc_ok (icall_ok ho) hr
   ·exact icl_ok (icall_ok ho) h,λh=>iyield_ok (icall_ok ho) h⟩
theorem acalls_run{P:Program}{ora:Ora}(ho:OraOk P ora)(fuel d:Nat){f:FuncId}{args:List AV}{s s':St}{v:AV}(h:ifunc P (icall P ora fuel d) fuel f args s=some (v,s')):ACalls P f args s λx t=>x=v/\t=s':=
 (ifunc_ok (icall_ok ho) h).2
end Go.Am
