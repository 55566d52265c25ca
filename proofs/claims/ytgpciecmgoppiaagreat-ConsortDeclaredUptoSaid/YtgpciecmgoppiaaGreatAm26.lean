/- The logic AM, part 26: the other operations that are told; regions. -/
import Derived.Test.YtgpciecmgoppiaaGreatAmD
set_option linter.all false
namespace Go.Am
open Go.RowKit
def MT(P:Program)(h:Hint)(t:TypeId)(l c:AV)(s:St):XR:=match l,c,dy P t with
 |.int _ n,.int _ m,some e=>match cK P e,mn P e,iT P e with
  |some sz,some vp,some z=>bif Nat.blt 0 sz&&Nat.beq z.cells.length sz&&z.cells.all AV.cJ&&Nat.ble vp 4096 then
   some (.ms s.bN 0 h.n,⟨(s.bN,.cells sz h.l)::s.heap,s.bN+1⟩,[0<=n,n<=m,m<=bc,n.toNat=h.n,List.replicate h.n z=h.l])else none
  |_,_,_=>none
 |_,_,_=>none
theorem MU{P:Program}{h:Hint}{t:TypeId}{l c v:AV}{s s':St}{jg:List Prop}(hx:MT P h t l c s=some (v,s',jg))(ho:fE jg):xW P t l c s=some (v,s'):=by
 unfold MT at hx;split at hx
 case h_2=>cases hx
 rename_i n _ m e he;split at hx
 case h_2=>cases hx
 rename_i sz vp z h1 h2 h3;cases hq:Nat.blt 0 sz&&Nat.beq z.cells.length sz&&z.cells.all AV.cJ&&Nat.ble vp 4096 with
 |false=>simp[hq]at hx
 |true=>
  simp only[hq,cP]at hx;cases hx;obtain⟨a1,a2,a3,a4,a5⟩:=ho;simp only[fE]at a5;simp only[eU,tv,Gg,Nat.beq_eq]at hq;obtain⟨⟨⟨q1,q2⟩,q3⟩,q4⟩:=hq;unfold xW;simp only[he,h1,h2,h3];rw[ez ⟨a1,a2,a3,q1,q2,q3,q4⟩,a4,a5]
def Si(P:Program)(h:Hint)(t u:TypeId)(x y:AV)(s:St):XR:=match dy P t with
 |some e=>match MS P e u y s,x with
  |some (new,o),.ms id bq len=>match bn s.heap id with
   |some (.cells cq elems)=>bif eV (cK P e) cq then
    some (.int .i64 h.n,⟨dM s.heap id (.cells cq h.l),s.bN⟩,(bq+len<=elems.length)::(min new.length len=h.n)::(elems.take bq++(new.take h.n++elems.drop (bq+h.n))=h.l)::o)else none
   |_=>none
  |_,_=>none
 |none=>none
theorem Xh{P:Program}{h:Hint}{t u:TypeId}{x y v:AV}{s s':St}{jg:List Prop}(hx:Si P h t u x y s=some (v,s',jg))(ho:fE jg):
  ∃e new,dy P t=some e/\fk y s=some new/\jS P e y s/\pJ P t x new s=some (v,s'):=by
 unfold Si at hx;split at hx
 case h_2=>cases hx
 rename_i e he;split at hx
 case h_2=>cases hx
 rename_i new o id bq len hn;split at hx
 case h_2=>cases hx
 rename_i cq elems hg;cases hq:eV (cK P e) cq with
 |false=>simp[hq]at hx
 |true=>
  simp only[hq,cP]at hx;cases hx;obtain⟨a1,a2,a3,a4⟩:=by simpa only[eZ]using ho
  obtain⟨n1,n2,n3,n4⟩:=ua hn a4;refine⟨e,new,he,n1,n2,?_⟩;unfold pJ;simp only[he,hg];rw[ez ⟨dA.1 hq,a1⟩,a2,a3]
def MV(P:Program)(e:TypeId)(k:Nat)(id bq:Nat)(s:St):Option (List AV×Prop):=match bn s.heap id with
 |some (.cells cq elems)=>bif eV (cK P e) cq then some ((elems.drop bq).take k,bq+k<=elems.length)else none
 |_=>none
def GL(P:Program)(h:Hint)(t u:TypeId)(x y:AV)(s:St):XR:=match dy P t with
 |some e=>match y with
  |.mc fq Cn TZ _=>match MV P e h.n fq Cn s with
   |some (new,p)=>match x with
    |.ms id bq len=>match bn s.heap id with
     |some (.cells cq elems)=>bif eV (cK P e) cq then
       some (.int .i64 h.n,⟨dM s.heap id (.cells cq h.l),s.bN⟩,[p,bq+len<=elems.length,min TZ len=h.n,elems.take bq++(new++elems.drop (bq+h.n))=h.l])else none
     |_=>none
    |.mc id bq len _=>match bn s.heap id with
     |some (.cells cq elems)=>bif eV (cK P e) cq then
       some (.int .i64 h.n,⟨dM s.heap id (.cells cq h.l),s.bN⟩,[p,bq<=elems.length,min TZ len=h.n,elems.take bq++(new++elems.drop (bq+h.n))=h.l])else none
     |_=>none
    |_=>none
   |none=>none
  |y=>match MS P e u y s,x with
   |some (new,o),.mc id bq len _=>match bn s.heap id with
    |some (.cells cq elems)=>bif eV (cK P e) cq then
      some (.int .i64 h.n,⟨dM s.heap id (.cells cq h.l),s.bN⟩,(bq<=elems.length)::(min new.length len=h.n)::(elems.take bq++(new.take h.n++elems.drop (bq+h.n))=h.l)::o)else none
    |_=>none
   |some (new,o),.ms id bq len=>match bn s.heap id with
    |some (.cells cq elems)=>bif eV (cK P e) cq then
      some (.int .i64 h.n,⟨dM s.heap id (.cells cq h.l),s.bN⟩,(bq+len<=elems.length)::(min new.length len=h.n)::(elems.take bq++(new.take h.n++elems.drop (bq+h.n))=h.l)::o)else none
    |_=>none
   |_,_=>none
 |none=>none
def qy(P:Program)(t:TypeId)(x y:AV)(s:St):Option (AV×St):=match y with
 |.mc id bq len _=>vq P t x id bq len s
 |y=>match dy P t,fk y s with
  |some e,some new=>if jS P e y s then pJ P t x new s else none
  |_,_=>none
theorem Eb{P:Program}{e:TypeId}{k id bq:Nat}{s:St}{l:List AV}{p:Prop}(h:MV P e k id bq s=some (l,p))(hp:p):
  ∃cq elems,bn s.heap id=some (.cells cq elems)/\cK P e=some cq/\bq+k<=elems.length/\l=(elems.drop bq).take k:=by
 unfold MV at h;split at h
 case h_2=>cases h
 rename_i cq elems hg;cases hq:eV (cK P e) cq with
 |false=>simp[hq]at h
 |true=>
  simp only[hq,cP]at h;cases h;exact⟨cq,elems,hg,dA.1 hq,hp,rfl⟩
theorem KA{P:Program}{h:Hint}{t u:TypeId}{x y v:AV}{s s':St}{jg:List Prop}(hx:GL P h t u x y s=some (v,s',jg))(ho:fE jg):qy P t x y s=some (v,s'):=by
 unfold GL at hx;split at hx
 case h_2=>cases hx
 rename_i e he;split at hx
 ·rename_i fq Cn TZ abC;split at hx
  case h_2=>cases hx
  rename_i new p hn;split at hx
  ·rename_i id bq len;split at hx
   case h_2=>cases hx
   rename_i cq elems hg;cases hq:eV (cK P e) cq with
   |false=>simp[hq]at hx
   |true=>
    simp only[hq,cP]at hx;cases hx;obtain⟨a0,a1,a2,a3⟩:=ho;simp only[fE]at a3;obtain⟨KB,elems',g1,g2,g3,rfl⟩:=Eb hn a0;have hl:((elems'.drop Cn).take h.n).length=h.n:=by simp;omega
    have hm:min h.n len=h.n:=by omega
    simp only[qy,vq,he,g1,P2,a2];rw[ez ⟨g2,g3⟩];simp only[pJ,he,hg,hl,hm];rw[ez ⟨dA.1 hq,a1⟩,sq (Nat.le_of_eq hl),a3]
  ·rename_i id bq len cap;split at hx
   case h_2=>cases hx
   rename_i cq elems hg;cases hq:eV (cK P e) cq with
   |false=>simp[hq]at hx
   |true=>
    simp only[hq,cP]at hx;cases hx;obtain⟨a0,a1,a2,a3⟩:=ho;simp only[fE]at a3;obtain⟨KB,elems',g1,g2,g3,rfl⟩:=Eb hn a0;have hl:((elems'.drop Cn).take h.n).length=h.n:=by simp;omega
    have hm:min h.n len=h.n:=by omega
    simp only[qy,vq,he,g1,P2,a2];rw[ez ⟨g2,g3⟩];simp only[pJ,he,hg,hl,hm];rw[ez ⟨dA.1 hq,a1⟩,sq (Nat.le_of_eq hl),a3]
  ·cases hx
 ·rename_i hy;split at hx
  case h_3=>cases hx
  all_goals
   rename_i hn;split at hx
   case h_2=>cases hx
   rename_i cq elems hg;cases hq:eV (cK P e) cq with
   |false=>simp[hq]at hx
   |true=>
    simp only[hq,cP]at hx;cases hx;obtain⟨a1,a2,a3,a4⟩:=by simpa only[eZ]using ho
    obtain⟨n1,n2,n3,n4⟩:=ua hn a4;cases y<;>first|exact absurd rfl (hy _ _ _ _)|skip
    all_goals
     simp only[qy,he,n1];rw[ez n2];simp only[pJ,he,hg];rw[ez ⟨dA.1 hq,a1⟩,a2,a3]
def yE(P:Program)(h:Hint)(t u:TypeId)(x y:AV)(s:St):XR:=match dy P t,y,x with
 |some e,.int _ n,.mc id bq len cap=>match cK P e,mn P e,iT P e,bn s.heap id with
  |some sz,some vp,some z,some (.cells cq elems)=>bif Nat.blt 0 sz&&Nat.ble vp 4096&&nO P e sz&&(Au P u).isSome&&Nat.beq sz z.cells.length&&z.cells.all AV.cJ&&Nat.beq cq sz then
   some (.ms s.bN 0 h.n,⟨(s.bN,.cells sz h.l)::s.heap,s.bN+1⟩,[0<=n,n<=bc,n.toNat=h.m,h.m≠0,bq+len<=elems.length,cap<len+h.m,len+h.m<=bc,len+h.m=h.n,(elems.drop bq).take len++List.replicate h.m z=h.l])else none
  |_,_,_,_=>none
 |_,_,_=>none
theorem Ec{P:Program}{h:Hint}{t u:TypeId}{x y v:AV}{s s':St}{jg:List Prop}(hx:yE P h t u x y s=some (v,s',jg))(ho:fE jg):
  ∃k n e z,y=.int k n/\dy P t=some e/\iT P e=some z/\(0<=n/\n<=bc/\(Au P u).isSome=true/\cK P e=some z.cells.length/\z.cells.all AV.cJ=true)/\eX P t x (List.replicate n.toNat z) s=some (v,s'):=by
 unfold yE at hx;split at hx
 case h_2=>cases hx
 rename_i e k n id bq len cap he;split at hx
 case h_2=>cases hx
 rename_i sz vp z cq elems eB Kg hz hg;cases hq:Nat.blt 0 sz&&Nat.ble vp 4096&&nO P e sz&&(Au P u).isSome&&Nat.beq sz z.cells.length&&z.cells.all AV.cJ&&Nat.beq cq sz with
 |false=>simp[hq]at hx
 |true=>
  simp only[hq,cP]at hx;cases hx;simp only[eU,tv,Gg,Nat.beq_eq]at hq;obtain⟨⟨⟨⟨⟨⟨q1,q2⟩,q3⟩,q4⟩,q5⟩,q6⟩,q7⟩:=hq;obtain⟨a1,a2,a3,a4,a5,a6,a7,a8,a9⟩:=ho;simp only[fE]at a9;refine⟨k,n,e,z,rfl,he,hz,⟨a1,a2,q4,by rw[eB,q5],q6⟩,?_⟩;rw[a3];simp only[eX,he,eB,Kg,hg];rw[ez ⟨q1,q2,q3⟩,Wm,ez ⟨λe=>a4 (by have:=fL List.length e;simpa using this),q7,a5,a6,a7⟩,a8,a9]
def my(bf:Env)(x:Option Operand)(d k:Nat):Option (List Prop):=match x with
 |none=>some [d=k]
 |some o=>match oper bf o with
  |some (.int _ n)=>some [0<=n,n.toNat=k]
  |_=>none
theorem gu{bf:Env}{x:Option Operand}{d k:Nat}{o:List Prop}(h:my bf x d k=some o)(ho:fE o):gh bf x d=some k:=by
 unfold my at h;unfold gh;split at h
 ·cases h;have ho:d=k:=ho;rw[ho]
 ·split at h
  case h_2=>cases h
  rename_i n hn;cases h;obtain⟨a1,a2⟩:=ho;simp only[fE]at a2;simp[hn,a1,a2]
def GM(P:Program)(h:Hint)(t:TypeId)(x:AV)(bf:Env)(lo hi mx:Option Operand)(s:St):XR:=match x with
 |.str b=>bif rX P t&&mx.isNone then match my bf lo 0 h.n,my bf hi b.size h.m with
   |some o1,some o2=>some (.str (b.extract h.n h.m),s,(h.n<=h.m)::(h.m<=b.size)::(o1++o2))
   |_,_=>none
  else none
 |.sl full elems=>match dy P t with
  |some e=>bif (cK P e).isSome then match my bf lo 0 h.n,my bf hi elems.length h.m,mx with
   |some o1,some o2,none=>some (.sl h.b h.l,s,(h.n<=h.m)::(h.m<=elems.length)::(fits P e elems)::((full&&h.m==elems.length)=h.b)::((elems.take h.m).drop h.n=h.l)::(o1++o2))
   |some o1,some o2,some m=>match my bf (some m) 0 h.p,hi.isSome with
    |some o3,true=>some (.sl h.b h.l,s,(h.n<=h.m)::(h.m<=h.p)::(h.p<=elems.length)::(fits P e elems)::((h.p==h.m)=h.b)::((elems.take h.m).drop h.n=h.l)::(o1++(o2++o3)))
    |_,_=>none
   |_,_,_=>none else none
  |none=>none
 |.ms id bq len=>match dy P t with
  |some e=>match bn s.heap id with
   |some (.cells cq _)=>bif eV (cK P e) cq then match my bf lo 0 h.n,my bf hi len h.m,mx with
    |some o1,some o2,none=>some (.ms id h.q h.p,s,(h.n<=h.m)::(h.m<=len)::(bq+h.n=h.q)::(h.m-h.n=h.p)::(o1++o2))
    |some o1,some o2,some m=>match my bf (some m) 0 h.r,hi.isSome with
     |some o3,true=>some (.ms id h.q h.p,s,(h.n<=h.m)::(h.m<=h.r)::(h.r<=len)::(bq+h.n=h.q)::(h.m-h.n=h.p)::(o1++(o2++o3)))
     |_,_=>none
    |_,_,_=>none else none
   |_=>none
  |none=>none
 |.mc id bq len cap=>match dy P t with
  |some e=>match bn s.heap id with
   |some (.cells cq _)=>bif eV (cK P e) cq then match my bf lo 0 h.n,my bf hi len h.m,mx with
    |some o1,some o2,none=>some (.mc id h.q h.p h.r,s,(h.n<=h.m)::(h.m<=cap)::(bq+h.n=h.q)::(h.m-h.n=h.p)::(cap-h.n=h.r)::(o1++o2))
    |_,_,_=>none else none
   |_=>none
  |none=>none
 |_=>none
theorem KC{P:Program}{h:Hint}{t:TypeId}{x v:AV}{bf:Env}{lo hi mx:Option Operand}{s s':St}{jg:List Prop}(hx:GM P h t x bf lo hi mx s=some (v,s',jg))(ho:fE jg):
  kf P t x bf lo hi mx s=some v/\s'=s:=by
 unfold GM at hx;unfold kf;split at hx
 ·rename_i b;cases hq:rX P t&&mx.isNone with
  |false=>simp[hq]at hx
  |true=>
   simp only[hq,cP]at hx;split at hx
   case h_2=>cases hx
   rename_i o1 o2 h1 h2;cases hx;obtain⟨a1,a2,a3⟩:=by simpa only[eZ]using ho
   obtain⟨a3,a4⟩:=eA.1 a3;simp only[eU]at hq;simp only[gu h1 a3,gu h2 a4];rw[ez hq,ez ⟨a1,a2⟩];exact⟨rfl,trivial⟩
 ·rename_i full elems;split at hx
  case h_2=>cases hx
  rename_i e he;simp only[he];cases hq:(cK P e).isSome with
  |false=>simp[hq]at hx
  |true=>
   simp only[hq,cP]at hx;split at hx
   ·rename_i o1 o2 h1 h2;cases hx;obtain⟨a1,a2,a3,a4,a5,a6⟩:=by simpa only[eZ]using ho
    obtain⟨a6,a7⟩:=eA.1 a6;simp only[gu h1 a6,gu h2 a7];rw[ez ⟨a1,a2,a3,trivial⟩,a4,a5];exact⟨rfl,trivial⟩
   ·rename_i o1 o2 mo h1 h2;split at hx
    case h_2=>cases hx
    rename_i o3 h3 hs;cases hx;obtain⟨a1,a2,a3,a4,a5,a6,a7⟩:=by simpa only[eZ]using ho
    obtain⟨a7,a8⟩:=eA.1 a7;obtain⟨a8,a9⟩:=eA.1 a8;simp only[gu h1 a7,gu h2 a8,gu h3 a9];rw[ez ⟨a1,a2,a3,hs,a4,trivial⟩,a5,a6];exact⟨rfl,trivial⟩
   ·cases hx
 ·rename_i id bq len;split at hx
  case h_2=>cases hx
  rename_i e he;simp only[he];split at hx
  case h_2=>cases hx
  rename_i cq elems hg;simp only[hg];cases hq:eV (cK P e) cq with
  |false=>simp[hq]at hx
  |true=>
   simp only[hq,cP]at hx;split at hx
   ·rename_i o1 o2 h1 h2;cases hx;obtain⟨a1,a2,a3,a4,a5⟩:=by simpa only[eZ]using ho
    obtain⟨a5,a6⟩:=eA.1 a5;simp only[gu h1 a5,gu h2 a6];rw[ez ⟨a1,a2,dA.1 hq⟩,a3,a4];exact⟨rfl,trivial⟩
   ·rename_i o1 o2 mo h1 h2;split at hx
    case h_2=>cases hx
    rename_i o3 h3 hs;cases hx;obtain⟨a1,a2,a3,a4,a5,a6⟩:=by simpa only[eZ]using ho
    obtain⟨a6,a7⟩:=eA.1 a6;obtain⟨a7,a8⟩:=eA.1 a7;simp only[gu h1 a6,gu h2 a7,gu h3 a8];rw[ez ⟨a1,a2,a3,hs,dA.1 hq⟩,a4,a5];exact⟨rfl,trivial⟩
   ·cases hx
 ·rename_i id bq len cap;split at hx
  case h_2=>cases hx
  rename_i e he;simp only[he];split at hx
  case h_2=>cases hx
  rename_i cq elems hg;simp only[hg];cases hq:eV (cK P e) cq with
  |false=>simp[hq]at hx
  |true=>
   simp only[hq,cP]at hx;split at hx
   case h_2=>cases hx
   rename_i o1 o2 h1 h2;cases hx;obtain⟨a1,a2,a3,a4,a4',a5⟩:=by simpa only[eZ]using ho
   obtain⟨a5,a6⟩:=eA.1 a5;simp only[gu h1 a5,gu h2 a6];rw[ez ⟨a1,a2,dA.1 hq⟩,a3,a4,a4'];exact⟨rfl,trivial⟩
 ·cases hx
def GN(P:Program)(h:Hint)(t:TypeId)(x i:AV)(s:St):XR:=match i,x with
 |.int _ n,.str b=>bif rX P t then some (.int .u8 h.u.toNat,s,[0<=n,b[n.toNat]? =some h.u])else none
 |_,_=>none
theorem KD{P:Program}{h:Hint}{t:TypeId}{x i v:AV}{s s':St}{jg:List Prop}(hx:GN P h t x i s=some (v,s',jg))(ho:fE jg):oU P t x i=some v/\s'=s:=by
 unfold GN at hx;split at hx
 case h_2=>cases hx
 rename_i n b;cases hq:rX P t with
 |false=>simp[hq]at hx
 |true=>
  simp only[hq,cP]at hx;cases hx;obtain⟨a1,a2⟩:=ho;simp only[fE]at a2;simp[oU,hq,a1,a2]
def Xi(op:BinOp)(k:IntKind)(x y:Int):Option (AV×List Prop):=match op with
 |.quo=>some (.int k (k.wrap (x.tdiv y)),[y≠0])
 |.rem=>some (.int k (x.tmod y),[y≠0])
 |.shl=>some (.int k (k.wrap (x*2^(min y.toNat k.bits))),[0<=y])
 |.shr=>some (.int k (x.fdiv (2^(min y.toNat k.bits))),[0<=y])
 |_=>none
def T0(op:BinOp)(x y:AV)(s:St):XR:=match x,y with
 |.int k a,.int _ b=>match Xi op k a b with
  |some (v,o)=>some (v,s,o)
  |none=>none
 |.str a,.str b=>match op with
  |.add=>some (.str (a++b),s,[a.size+b.size<=maxLen])
  |_=>none
 |_,_=>none
def Cp(op:BinOp)(x y:AV):Bool:=match op,x,y with
 |.shl,_,_=>true
 |.shr,_,_=>true
 |_,.int k _,.int k' _=>decide (k=k')
 |_,_,_=>true
theorem Qs{P:Program}{op:BinOp}{t:TypeId}{x y v:AV}{s s':St}{jg:List Prop}(hk:Cp op x y=true)(hx:T0 op x y s=some (v,s',jg))(ho:fE jg):Av P op t x y=some v/\s'=s:=by
 unfold T0 at hx;split at hx
 ·rename_i k a k' b;split at hx
  case h_2=>cases hx
  rename_i v0 o hi;cases hx;unfold Xi at hi;cases op<;>simp only[]at hi<;>first|(cases hi;done)|skip
  all_goals
   cases hi;simp only[fE]at ho;simp only[Cp,BW]at hk;simp[Av,wX,hk,ho]<;>omega
 ·cases op<;>simp only[]at hx<;>first|(cases hx;done)|skip
  cases hx;have ho:_<=_:=ho;simp[Av,ho]
 ·cases hx
def T1(P:Program)(h:Hint)(op:Op)(bf:Env)(s:St):XR:=bif Nat.beq h.k 0 then plain (gH P op bf s)else match op with
 |.pick c a b=>match oper bf c with
  |some (.bool t)=>match(bif h.b then oper bf a else oper bf b)with
   |some v=>some (v,s,[t=h.b])
   |none=>none
  |_=>none
 |.load t p=>match oper bf p with
  |some p=>MQ P h t p s
  |none=>none
 |.store t p x=>match oper bf p,oper bf x with
  |some p,some x=>GJ P h t p x s
  |_,_=>none
 |.binOp op _ x y _=>match oper bf x,oper bf y with
  |some x,some y=>bif Cp op x y then T0 op x y s else none
  |_,_=>none
 |.slice t x lo hi mx=>match oper bf x with
  |some x=>GM P h t x bf lo hi mx s
  |none=>none
 |.indexAddr t x i=>match oper bf x,oper bf i with
  |some x,some i=>TW P h t x i s
  |_,_=>none
 |.index t x i=>match oper bf x,oper bf i with
  |some x,some i=>GN P h t x i s
  |_,_=>none
 |.makeSlice t l c=>match oper bf l,oper bf c with
  |some l,some c=>MT P h t l c s
  |_,_=>none
 |.call c=>match c.callee with
  |.builtin .len=>match opers bf c.args.toList,c.argTypes[0]? with
   |some [x],some t=>TY P h t x s
   |_,_=>none
  |.builtin .append=>match opers bf c.args.toList,c.argTypes[0]?,c.argTypes[1]? with
   |some [x,y],some t,some u=>bif Nat.beq h.k 5 then yE P h t u x y s else Cm P h t u x y s
   |_,_,_=>none
  |.builtin .copy=>match opers bf c.args.toList,c.argTypes[0]?,c.argTypes[1]? with
   |some [x,y],some t,some u=>GL P h t u x y s
   |_,_,_=>none
  |_=>none
 |_=>none
theorem GO{P:Program}{h:Hint}{op:Op}{bf:Env}{s s':St}{v:AV}{jg:List Prop}(hx:T1 P h op bf s=some (v,s',jg))(ho:fE jg):gH P op bf s=some (v,s'):=by
 unfold T1 at hx;cases hk:Nat.beq h.k 0 with
 |true=>
  simp only[hk,cP]at hx;unfold plain at hx;split at hx
  ·rename_i hq;cases hx;exact hq
  ·cases hx
 |false=>
  simp only[hk,dv]at hx;split at hx
  ·rename_i c a b;split at hx
   case h_2=>cases hx
   rename_i t ht;split at hx
   case h_2=>cases hx
   rename_i v0 hv;cases hx;have ho:t=h.b:=ho;simp only[gH,ht];subst ho;cases hb:h.b with
   |true=>simp only[hb,cP]at hv;simp[hv,fC]
   |false=>simp only[hb,dv]at hv;simp[hv,fC]
  ·split at hx
   case h_2=>cases hx
   rename_i p hp;obtain⟨h1,rfl⟩:=MR hx ho;simp[gH,hp,h1,fC]
  ·split at hx
   case h_2=>cases hx
   rename_i p y hp hy;obtain⟨h1,rfl⟩:=Kz hx ho;simp[gH,hp,hy,h1]
  ·split at hx
   case h_2=>cases hx
   rename_i x y hp hy;generalize hq:Cp _ x y=q at hx;cases q with
   |false=>cases hx
   |true=>
    simp only[cP]at hx;obtain⟨h1,rfl⟩:=Qs hq hx ho;simp only[gH,hp,hy];rw[h1];rfl
  ·split at hx
   case h_2=>cases hx
   rename_i p hp;obtain⟨h1,rfl⟩:=KC hx ho;simp[gH,hp,h1,fC]
  ·split at hx
   case h_2=>cases hx
   rename_i x y hp hy;obtain⟨h1,rfl⟩:=Qq hx ho;simp[gH,hp,hy,h1,fC]
  ·split at hx
   case h_2=>cases hx
   rename_i x y hp hy;obtain⟨h1,rfl⟩:=KD hx ho;simp[gH,hp,hy,h1,fC]
  ·split at hx
   case h_2=>cases hx
   rename_i x y hp hy;have h1:=MU hx ho;simp[gH,hp,hy,h1]
  ·rename_i c;split at hx
   ·rename_i hc;split at hx
    case h_2=>cases hx
    rename_i x t h1 h2;obtain⟨h3,rfl⟩:=Qr hx ho;simp[gH,hc,h1,h2,h3,fC]
   ·rename_i hc;split at hx
    case h_2=>cases hx
    rename_i x y t u h1 h2 h3;cases hk5:Nat.beq h.k 5 with
    |true=>
     simp only[hk5,cP]at hx;obtain⟨k,n,e,z,rfl,e1,e2,e3,e4⟩:=Ec hx ho;simp only[gH,hc,h1,h2,h3,e1,e2];rw[ez e3,e4]
    |false=>
     simp only[hk5,dv]at hx;obtain⟨e,new,e1,e2,e3,e4,e5,e6⟩:=GK hx ho;simp only[gH,hc,h1,h2,h3];cases y<;>simp only[AV.isInt]at e5<;>first|(cases e5;done)|skip
     all_goals simp[e1,e2,e3,e4,e6]
   ·rename_i hc;split at hx
    case h_2=>cases hx
    rename_i x y t u h1 h2 h3;have h4:=KA hx ho;simp only[qy]at h4;simp only[gH,hc,h1,h2];exact h4
   ·cases hx
  ·cases hx
def Ed(P:Program)(h:Hint)(op:Op)(bf:Env)(s:St):XR:=match fW op with
 |some (f,args)=>match oper bf f,opers bf args,h.c with
  |some (.fn g fi),some l,some (v,s')=>bif enters P g then some (v,s',[dw P g (l++fi) s λy t=>y=v/\t=s'])else none
  |some (.kK id),some l,some (v,s')=>some (v,s',[ic P id l s λy t=>y=v/\t=s'])
  |some (.fn g fi),some l,none=>bif enters P g then some (h.x,s,[nf P g (l++fi) h.x])else none
  |_,_,_=>none
 |none=>T1 P h op bf s
theorem yF{P:Program}{h:Hint}{op:Op}{bf:Env}{s s':St}{v:AV}{jg:List Prop}{K:AV->St->Prop}(hx:Ed P h op bf s=some (v,s',jg))(ho:fE jg)(hk:K v s'):ows P op K bf s:=by
 unfold Ed at hx;unfold ows;split at hx
 ·rename_i f args hc;simp only[hc];split at hx
  ·rename_i g fi l v0 s0 h1 h2 h3;simp only[h1,h2];cases he:enters P g with
   |false=>simp[he]at hx
   |true=>
    simp only[he,cP]at hx;cases hx;have ho:dw P g (l++fi) s _:=ho;exact⟨rfl,ho.mono λy t ⟨e1,e2⟩=>by subst e1;subst e2;exact hk⟩
  ·rename_i id l v0 s0 h1 h2 h3;simp only[h1,h2];cases hx;have ho:ic P id l s _:=ho;exact ic.mono ho λy t ⟨e1,e2⟩=>by subst e1;subst e2;exact hk
  ·rename_i g fi l h1 h2 h3;simp only[h1,h2];cases he:enters P g with
   |false=>simp[he]at hx
   |true=>
    simp only[he,cP]at hx;cases hx;have ho:nf P g (l++fi) h.x:=ho;exact⟨rfl,(ho s).mono λy t ⟨e1,e2⟩=>by subst e1;subst e2;exact hk⟩
  ·cases hx
 ·rename_i hc;simp only[hc,GO hx ho];exact hk
def hd(hs:List Hint):Hint:=match hs with
 |h::_=>h
 | []=>{}
structure Told where
 i:Nat
 op:Op
 e:Env
 v:AV
 h:Hint
def KE(P:Program)(tr:List Told)(s:St):List Nat->Option (List Prop)
 | []=>some []
 |j::r=>match tr.find? (λt=>Nat.beq t.i j)with
  |some t=>match T1 P t.h t.op t.e s,KE P tr s r with
   |some (v,_,o),some o2=>some ((v=t.v)::(o++o2))
   |_,_=>none
  |none=>KE P tr s r
def Bi(b:Bool)(t:Told)(tr:List Told):List Told:=bif b then t::tr else tr
def Ee(P:Program):List DI->List Hint->List Told->Env->St->Option (Env×St×List Prop)
 | [],_,_,bf,s=>some (bf,s,[])
 |⟨.gP i note,some n,sl⟩::r,hs,tr,bf,s=>match n.guard with
  |none=>match T1 P (hd hs) n.op (gm sl bf) s with
   |some (v,_,o)=>match Ee P r hs.tail (Bi note ⟨i,n.op,gm sl bf,v,hd hs⟩ tr) (eH n.dst v bf) s with
    |some (e2,s2,o2)=>some (e2,s2,o++o2)
    |none=>none
   |none=>none
  |some (d,want)=>match bn bf d with
   |some (.bool b)=>bif (hd hs).g then(match T1 P (hd hs) n.op (gm sl (dM bf d (.bool want))) s with
    |some (v,_,o)=>match Ee P r hs.tail (Bi note ⟨i,n.op,gm sl (dM bf d (.bool want)),v,hd hs⟩ tr) (eH n.dst v (dM bf d (.bool want))) s with
     |some (e2,s2,o2)=>some (e2,s2,(b=want)::(o++o2))
     |none=>none
    |none=>none)else match Ee P r hs.tail tr (eH n.dst (.dS []) (dM bf d (.bool (!want)))) s with
     |some (e2,s2,o2)=>some (e2,s2,(b=!want)::o2)
     |none=>none
   |some (.dS [])=>Ee P r hs.tail tr (eH n.dst (.dS []) bf) s
   |_=>none
 |⟨.gz _ rn,some n,sl⟩::r,hs,tr,bf,s=>match n.guard with
  |none=>match Ed P (hd hs) n.op (gm sl bf) s with
   |some (v,s',o)=>match KE P tr s' rn,Ee P r hs.tail tr (eH n.dst v bf) s' with
    |some o1,some (e2,s2,o2)=>some (e2,s2,o++(o1++o2))
    |_,_=>none
   |none=>none
  |some (d,want)=>match bn bf d with
   |some (.bool b)=>bif (hd hs).g then(match Ed P (hd hs) n.op (gm sl (dM bf d (.bool want))) s with
    |some (v,s',o)=>match KE P tr s' rn,Ee P r hs.tail tr (eH n.dst v (dM bf d (.bool want))) s' with
     |some o1,some (e2,s2,o2)=>some (e2,s2,(b=want)::(o++(o1++o2)))
     |_,_=>none
    |none=>none)else match Ee P r hs.tail tr (eH n.dst (.dS []) (dM bf d (.bool (!want)))) s with
     |some (e2,s2,o2)=>some (e2,s2,(b=!want)::o2)
     |none=>none
   |some (.dS [])=>Ee P r hs.tail tr (eH n.dst (.dS []) bf) s
   |_=>none
 |⟨.alloc _,some n,_⟩::r,hs,tr,bf,s=>match gH P n.op [] s with
  |some (v,s')=>Ee P r hs.tail tr (eH n.dst v bf) s'
  |none=>none
 |⟨_,none,_⟩::_,_,_,_,_=>none
def told(t:Told):Nat×Op×Env×AV:=(t.i,t.op,t.e,t.v)
theorem yG: ∀(tr:List Told)(j:Nat),wA (tr.map told) j=(tr.find? (λt=>Nat.beq t.i j)).map λt=>(t.op,t.e,t.v)
 | [],j=>rfl
 |t::r,j=>by
  simp only[Aj,told,wA,List.find?_cons];by_cases h:t.i=j
  ·have hb:Nat.beq t.i j=true:=by rw[h];exact Nat.beq_refl j
   rw[ez h,hb];rfl
  ·have hb:Nat.beq t.i j=false:=by
    cases hq:Nat.beq t.i j with
    |false=>rfl
    |true=>exact absurd (jU hq) h
   rw[fN h,hb];exact yG r j
theorem xp{P:Program}{tr:List Told}{s:St}(hl: ∀t∈tr,eY t.op=true): ∀{rn:List Nat}{o:List Prop},KE P tr s rn=some o->fE o->rZ P (tr.map told) s rn
 | [],_,_,_=>trivial
 |j::r,o,h,ho=>by
  unfold KE at h;unfold rZ;rw[yG];split at h
  ·rename_i t ht;simp only[ht,iJ];split at h
   case h_2=>cases h
   rename_i v s1 o1 o2 h1 h2;cases h;obtain⟨a0,a1⟩:=eZ.1 ho;obtain⟨a1,a2⟩:=eA.1 a1;have hx:=GO h1 a1;have hs:=ng (hl t (List.mem_of_find?_eq_some ht)) hx;subst hs;subst a0;exact⟨hx,xp hl h2 a2⟩
  ·rename_i ht;simp only[ht,RY];exact⟨trivial,xp hl h ho⟩
def sN:DI->Bool
 |⟨.gP _ _,some n,_⟩=>eY n.op
 |_=>true
theorem Ef{b:Bool}{t:Told}{tr:List Told}(h: ∀t∈tr,eY t.op=true)(ht:eY t.op=true): ∀t'∈Bi b t tr,eY t'.op=true:=by
 unfold Bi;cases b with
 |false=>exact h
 |true=>
  intro t' h';simp only[cP,pU]at h';rcases h' with rfl|h'
  ·exact ht
  ·exact h t' h'
theorem GP{b:Bool}{t:Told}{tr:List Told}:(Bi b t tr).map told=if b then told t::tr.map told else tr.map told:=by cases b<;>rfl
theorem pn{P:Program}{K:Env->St->Prop}: ∀{D:List DI}{hs:List Hint}{tr:List Told}{bf e2:Env}{s s2:St}{jg:List Prop},D.all sN=true->(∀t∈tr,eY t.op=true)->
  Ee P D hs tr bf s=some (e2,s2,jg)->fE jg->K e2 s2->dq P K D (tr.map told) bf s
 | [],_,_,_,_,_,_,_,_,_,h,_,hk=>by cases h;exact hk
 |⟨.gP i note,some n,sl⟩::r,hs,tr,bf,e2,s,s2,jg,hD,hl,h,ho,hk=>by
  simp only[VJ,eU]at hD;have ne: ∀b w:Bool,b=w-> ¬b=!w:=by decide
  have ne': ∀b w:Bool,(b=!w)-> ¬b=w:=by decide
  have key: ∀{bf:Env}{v:AV}{s1:St}{o:List Prop}{e3:Env}{s3:St}{o3:List Prop},T1 P (hd hs) n.op (gm sl bf) s=some (v,s1,o)->fE o->
    Ee P r hs.tail (Bi note ⟨i,n.op,gm sl bf,v,hd hs⟩ tr) (eH n.dst v bf) s=some (e3,s3,o3)->fE o3->K e3 s3->
    (match gH P n.op (gm sl bf) s with
    |some (v,_)=>dq P K r (if note then(i,n.op,gm sl bf,v)::tr.map told else tr.map told) (eH n.dst v bf) s
    |none=>False):=λh1 a1 h2 a2 hk=>by
   have hi:eY n.op=true:=hD.1;have:=pn hD.2 (Ef hl hi) h2 a2 hk;rw[GP]at this;rw[GO h1 a1];exact this
  unfold Ee at h;unfold dq Dw;split at h
  ·rename_i hg;simp only[hg];split at h
   case h_2=>cases h
   rename_i v s' o h1;split at h
   case h_2=>cases h
   rename_i e3 s3 o3 h2;cases h;obtain⟨a1,a2⟩:=eA.1 ho;exact key h1 a1 h2 a2 hk
  ·rename_i d want hg;simp only[hg];split at h
   ·rename_i b hb;simp only[hb];generalize hq:(hd hs).g=q at h;cases q with
    |true=>
     simp only[cP]at h;split at h
     case h_2=>cases h
     rename_i v s' o h1;split at h
     case h_2=>cases h
     rename_i e3 s3 o3 h2;cases h;obtain⟨a0,a1⟩:=eZ.1 ho;obtain⟨a1,a2⟩:=eA.1 a1;exact⟨λ_=>key h1 a1 h2 a2 hk,λe=>absurd e (ne _ _ a0)⟩
    |false=>
     simp only[dv]at h;split at h
     case h_2=>cases h
     rename_i e3 s3 o3 h2;cases h;obtain⟨a0,a1⟩:=eZ.1 ho;exact⟨λe=>absurd e (ne' _ _ a0),λ_=>pn hD.2 hl h2 a1 hk⟩
   ·rename_i hb;simp only[hb];exact pn hD.2 hl h ho hk
   ·cases h
 |⟨.gz i rn,some n,sl⟩::r,hs,tr,bf,e2,s,s2,jg,hD,hl,h,ho,hk=>by
  simp only[VJ,eU]at hD;have ne: ∀b w:Bool,b=w-> ¬b=!w:=by decide
  have ne': ∀b w:Bool,(b=!w)-> ¬b=w:=by decide
  unfold Ee at h;unfold dq Dw;split at h
  ·rename_i hg;simp only[hg];split at h
   case h_2=>cases h
   rename_i v s' o h1;split at h
   case h_2=>cases h
   rename_i o1 e3 s3 o3 h2 h3;cases h;obtain⟨a1,a2⟩:=eA.1 ho;obtain⟨a2,a3⟩:=eA.1 a2;exact .inl (yF (K:=λv s'=>rZ P (tr.map told) s' rn/\dq P K r (tr.map told) (eH n.dst v bf) s') h1 a1 ⟨xp hl h2 a2,pn hD.2 hl h3 a3 hk⟩)
  ·rename_i d want hg;simp only[hg];split at h
   ·rename_i b hb;simp only[hb];generalize hq:(hd hs).g=q at h;cases q with
    |true=>
     simp only[cP]at h;split at h
     case h_2=>cases h
     rename_i v s' o h1;split at h
     case h_2=>cases h
     rename_i o1 e3 s3 o3 h2 h3;cases h;obtain⟨a0,a1⟩:=eZ.1 ho;obtain⟨a1,a2⟩:=eA.1 a1;obtain⟨a2,a3⟩:=eA.1 a2;exact⟨λ_=>.inl (yF (K:=λv s'=>rZ P (tr.map told) s' rn/\dq P K r (tr.map told) (eH n.dst v (dM bf d (.bool want))) s') h1 a1 ⟨xp hl h2 a2,pn hD.2 hl h3 a3 hk⟩),λe=>absurd e (ne _ _ a0)⟩
    |false=>
     simp only[dv]at h;split at h
     case h_2=>cases h
     rename_i e3 s3 o3 h2;cases h;obtain⟨a0,a1⟩:=eZ.1 ho;exact⟨λe=>absurd e (ne' _ _ a0),λ_=>pn hD.2 hl h2 a1 hk⟩
   ·rename_i hb;simp only[hb];exact pn hD.2 hl h ho hk
   ·cases h
 |⟨.alloc i,some n,sl⟩::r,hs,tr,bf,e2,s,s2,jg,hD,hl,h,ho,hk=>by
  simp only[VJ,eU]at hD;unfold Ee at h;unfold dq;split at h
  case h_2=>cases h
  rename_i v s' h1;simp only[h1];exact pn hD.2 hl h ho hk
 |⟨.gP _ _,none,_⟩::_,_,_,_,_,_,_,_,_,_,h,_,_=>by cases h
 |⟨.gz _ _,none,_⟩::_,_,_,_,_,_,_,_,_,_,h,_,_=>by cases h
 |⟨.alloc _,none,_⟩::_,_,_,_,_,_,_,_,_,_,h,_,_=>by cases h
section
variable {P:Program} {N:Nat} {ρ:Option Nat} {Q:Exit->Env->St->Prop} {bf E2:Env} {s S2:St} {c:Code} {jg:List Prop}
theorem T2(hs:List Hint){id:Nat}{ops:Array Oper}{pre:List (List Nat)}{br:List Step}(hc:c=.region id ops true)(hp:Cc P N ops.toList pre br)(hm:P.follows .mixedOrders=true)
  (hl:(ID (ins ops.toList) br).all sN=true) (hx:Ee P (ID (ins ops.toList) br) hs [] bf s=some (E2,S2,jg)) (ho:fE jg) (h:Q .normal E2 S2):gY P N ρ c Q bf s:=by
 have:=pn (K:=λbf s=>Q .normal bf s) hl (tr:=[]) (by simp) hx ho h;subst hc;exact DX pre br ops.toList rfl hm hp (pj (nR (tr:=[]) (by rw[GG]at this;exact this)))
theorem T3(hs:List Hint){y:Code}{id:Nat}{ops:Array Oper}{pre:List (List Nat)}{br:List Step}(hc:c=.seq (.region id ops true) y)(hp:Cc P N ops.toList pre br)(hm:P.follows .mixedOrders=true)
  (hl:(ID (ins ops.toList) br).all sN=true) (hx:Ee P (ID (ins ops.toList) br) hs [] bf s=some (E2,S2,jg)) (ho:fE jg) (h:gY P N ρ y Q E2 S2):gY P N ρ c Q bf s:=by
 subst hc;exact ri (T2 hs rfl hp hm hl hx ho h)
end
end Go.Am
