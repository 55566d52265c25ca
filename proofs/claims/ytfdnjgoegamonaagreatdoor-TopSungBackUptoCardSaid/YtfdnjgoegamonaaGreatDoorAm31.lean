/- The logic AM, part 31: from what a law's arguments read as to abstract values, and from a call's contract to the law's postcondition. -/
import Derived.Test.YtfdnjgoegamonaaGreatDoorRows
import Derived.Test.YtfdnjgoegamonaaGreatDoorAmE
import Derived.WalkKit
import Derived.ProofKit
import Derived.OpenShut
import Derived.JoinedCond
import Derived.ChangeStays
import Derived.ChangeOld
import Derived.ChangeBears
import Derived.SizedLaws
import Derived.Deep.Slices
set_option linter.all false
namespace Go.Am
open Go.RowKit Go.ChangeShapes Go.WideShapes Go.ChangeAt Go.Deep
def cx.all(w:World):cx:=⟨λb o=>w.cell? ⟨b,o,none⟩,λ_=>none⟩
theorem QI(w:World)(hb:Gv (cx.all w).ir):eQ (cx.all w) ⟨[],0⟩ w:=
 ⟨⟨λ_ _ _ h=>h,hb⟩,λ_ _ h=>by simp[di,cZ]at h,λ_ _ _ _ _ _ h=>by simp[di,cZ]at h,λ_ _ _ _ h=>by simp[di,cZ]at h,λ_ _=>rfl,λ_ _ h=>by simp[di,cZ]at h⟩
structure Kept (W W':World):Prop where
 os:W'.os=W.os
 output:W'.output=W.output
 heap: ∀b,b<W.heap.size->W'.heap[b]? =W.heap[b]?
theorem Hx{P:Program}{f:FuncId}{xs:List AV}{b:Bool}{Q:AV->St->Prop}(h:dQ P f xs ⟨[],0⟩ Q)(hq: ∀x s,Q x s->x=.bool b){W:World}(hb:Gv (cx.all W).ir){vs:Array Value}(hv:VL (cx.all W) xs vs):
  Calls P f vs W λe W'=>e=.returned (.bool b)/\Kept W W':=
 (h (cx.all W) W vs (QI W hb) hv).mono λe W' ⟨v,G',x,s',he,hV,_,hx,q⟩=>by
  cases hq _ _ q;cases hV;refine⟨he,hx.os,hx.output,λb hb=>hx.keep b hb ?_⟩;rintro⟨id,blk,r,g,_⟩;simp[di,cZ]at g
section
variable {H:Type} {enc:TypeId×Value->H} {P:Program}
theorem Kept.sameAt{W W':World}(h:Kept W W')(p:MemPlace)(hp:p.block<W.heap.size):W.sameAt W' p:=by
 cases p with
 |cell b o=>simp only[World.sameAt,World.cell?];rw[h.heap b hp]
 |map b=>exact h.heap b hp
theorem Kept.keptBut{W W':World}(h:Kept W W')(may:MemPlace->Prop):W.keptBut W' may:=by
 refine⟨h.os,h.output,λi hi=>?_⟩;rw[h.heap i hi];cases W.heap[i]? with
 |none=>rfl
 |some o=>cases o<;>first|exact⟨rfl,rfl,rfl,λ_ _=>rfl⟩|exact .inr ⟨rfl,rfl⟩|rfl
theorem sP{W W':World}(hk:Kept W W')(K:Kids P (· <P.types.size))(eG: ∀t e,t<P.types.size->P.underlying t=some (.slice e)->0<P.cellsOf e){sp:Nat->Bool}:
  ∀{ts:List TypeId}{vs:List Value}{ds:List (DataW H)}{ps:List MemPlace},(∀t∈ts,t<P.types.size)->DataW.TrodAll enc P W 0 (λ_=>true) true ts vs ds ps->(∀p∈ps,p.block<W.heap.size/\sp p.block=true)->
  DataW.TrodAll enc P W' 0 sp true ts vs ds ps
 | [],[],[],_,_,h,_=>h
 |t::ts,v::vs,d::ds,_,ht,⟨p,q,⟨n,h⟩,hr,e⟩,hp=>by
  subst e;exact⟨p,q,⟨n,DataW.trod_stays K (λ{t e}=>eG t e) (λh=>by cases h) (ht t (by simp)) h (λx hx=>hk.sameAt x (hp x (by simp at hx;simp[hx])).1) (λx hx=>(hp x (by simp at hx;simp[hx])).2)⟩,
   sP hk K eG (λt AF=>ht t (by simp[AF])) hr (λx hx=>hp x (by simp[hx])),rfl⟩
 | [],[],_::_,_,_,h,_=>h.elim
 | [],_::_,_,_,_,h,_=>h.elim
 |_::_,[],_,_,_,h,_=>h.elim
 |_::_,_::_,[],_,_,h,_=>h.elim
theorem NM{f:Func}{s:ChangeSpec}{W W':World}{args:Array Value}{ds gs:List (DataW H)}{before:List MemPlace}(tb:TypeId)
  (K:Kids P (· <P.types.size)) (eG: ∀t e,t<P.types.size->P.underlying t=some (.slice e)->0<P.cellsOf e) (Kg: ∀t∈f.params.toList,t<P.types.size) (R5:s.vars=[])
  (Hr:f.resultTypes= #[tb]) (hb:P.underlying tb=some .bool)
  (hW:DataW.Whole enc P f.params.toList s.vars false W args.toList ds gs before) (LS: ∀ds',ds'=ds->s.fn H ds'={results:=[.lit (.bool true)],args:=ds'}) (hk:Kept W W'):
  s.post enc P f false true false false W args (.bool true) W':=by
 have gl:=hW.lt;have hW0:=hW;obtain⟨p,q,hA,hV,rfl,hfz,sK⟩:=hW;rw[R5]at hV;obtain⟨rfl,rfl⟩:=trodVars_none hV;simp only[xD]at gl hW0;have Ug:=LS (ds++[]) (by simp);refine⟨ds,[],p,[],p,[],hW0,?_,?_,?_,hk.keptBut _,λh=>by cases h⟩
 ·rw[Ug,Hr];exact trodAll_cons_mk (shut_bool hb true) trodAll_mk0
 ·rw[Ug];simp only[xD];exact sP hk K eG Kg hA λx hx=>⟨gl x hx,by simpa using gl x hx⟩
 ·rw[Ug,R5];exact(rfl:([]:List MemPlace)=[])
end
structure sQ (bulk:(H:Type)->DataW H->Nat) (P:Program) (t:TypeId) {α:Type} (e:α->AV) (n:Nat) (ok:α->Prop) (m:α->Nat):Prop where
 cells:P.cellsOf t=n
 pos:0<n
 size: ∀a,(e a).cells.length=n
 xq: ∀a,∀x∈(e a).cells,x.dn=true
 KL: ∀a,1<=m a
 read: ∀{H:Type}{enc:TypeId×Value->H}{w:World}{k:Nat}{cs:List Value}{x:DataW H×List MemPlace},DataW.trod enc P w 0 (λ_=>true) true k t cs=some x->
  ∃a,cs.length=n/\ok a/\m a<=bulk H x.1/\ ∀(i:Nat)y v,(e a).cells[i]? =some y->cs[i]? =some v->V (cx.all w) y v
 top:((∀{w:World}{b0:Nat}{v:Value},Value.okWide P w .any b0 t v-> ∃cs,v=.agg cs/\cs.size=P.cellsOf t)/\ ∀a,(e a).isAgg=true)\/(n=1/\(∀a,(e a).cells=[e a])/\ ∀{w:World}{b0:Nat}{v:Value},Value.okWide P w .any b0 t v->v.cells.toList=[v])
def lm{α:Type}(m:α->Nat)(l:List α):Nat:=(l.map m).sum+1
def VB{α:Type}(ok:α->Prop)(l:List α):Prop:= ∀a∈l,ok a
theorem Hy{α:Type}{m:α->Nat}(hm: ∀a,1<=m a): ∀l:List α,l.length+1<=lm m l
 | []=>by simp[lm]
 |a::l=>by
  have h1:=Hy hm l;have h2:=hm a;simp only[lm,wy,SA,oC]at h1 |-
  omega
def okI(k:IntKind)(n:Int):Prop:=(Lit.int k n).wf=true
section
open Go.Proofs.YtfdnjgoegamonaaGreatDoor.Rows (uptoBulk uptoBulkAll)
variable {P:Program} {t:TypeId}
abbrev Bk:(H:Type)->DataW H->Nat:=λ_ d=>uptoBulk d
theorem sQ.int(k:IntKind)(hu:P.underlying t=some (.int k))(hc:P.cellsOf t=1):sQ Bk P t (AV.int k) 1 (okI k) (λ_=>1) where
 cells:=hc
 pos:=by decide
 size:=λ_=>rfl
 xq:=λa x hx=>by simp only[AV.cells,O5]at hx;subst hx;rfl
 KL:=λ_=>eD _
 read:=λ{H enc w qk cs x}h=>by
  obtain⟨n,rfl,rfl,hw⟩:=DataW.trod_int hu h;refine⟨n,rfl,hw,by simp[uptoBulk],λi y v hy hv=>?_⟩;cases i with
  |zero=>simp[AV.cells]at hy hv;subst hy;subst hv;exact .int k n
  |succ i=>simp at hv
 top:=.inr ⟨rfl,λ_=>rfl,λ{w b0 v}h=>by obtain⟨n,rfl⟩:=okWide_int hu h;rfl⟩
theorem sQ.bool(hu:P.underlying t=some .bool)(hc:P.cellsOf t=1):sQ Bk P t AV.bool 1 (λ_=>True) (λ_=>1) where
 cells:=hc
 pos:=by decide
 size:=λ_=>rfl
 xq:=λa x hx=>by simp only[AV.cells,O5]at hx;subst hx;rfl
 KL:=λ_=>eD _
 read:=λ{H enc w qk cs x}h=>by
  obtain⟨n,rfl,rfl⟩:=DataW.trod_bool hu h;refine⟨n,rfl,trivial,by simp[uptoBulk],λi y v hy hv=>?_⟩;cases i with
  |zero=>simp[AV.cells]at hy hv;subst hy;subst hv;exact .bool n
  |succ i=>simp at hv
 top:=.inr ⟨rfl,λ_=>rfl,λ{w b0 v}h=>by obtain⟨n,rfl⟩:=okWide_bool hu h;rfl⟩
theorem sQ.str(hu:P.underlying t=some .string)(hc:P.cellsOf t=1):sQ Bk P t AV.str 1 (λs=>s.size<=maxLen) (λs=>s.size+1) where
 cells:=hc
 pos:=by decide
 size:=λ_=>rfl
 xq:=λa x hx=>by simp only[AV.cells,O5]at hx;subst hx;rfl
 KL:=λ_=>by omega
 read:=λ{H enc w qk cs x}h=>by
  obtain⟨n,rfl,rfl,hl⟩:=DataW.trod_string hu h;refine⟨n,rfl,hl,by simp only[Bk,uptoBulk,F8];exact eD _,λi y v hy hv=>?_⟩;cases i with
  |zero=>simp[AV.cells]at hy hv;subst hy;subst hv;exact .str n
  |succ i=>simp at hv
 top:=.inr ⟨rfl,λ_=>rfl,λ{w b0 v}h=>by obtain⟨n,rfl⟩:=okWide_string hu h;rfl⟩
theorem qX{cN:Nat}(h0:0<cN): ∀{l:List AV},(∀e∈l,e.cells.length=cN)-> ∀(k:Nat)(x:AV),(dB l)[k]? =some x-> ∃y,l[k / cN]? =some y/\y.cells[k%cN]? =some x
 | [],_,k,x,h=>by simp[dB]at h
 |a::r,hl,k,x,h=>by
  have ha:=hl a (by simp);simp only[dB,F6]at h;by_cases hk:k<cN
  ·rw[nD (by omega)]at h;rw[Nat.div_eq_of_lt hk,Nat.mod_eq_of_lt hk];exact⟨a,rfl,h⟩
  ·rw[qb (by omega),ha]at h;obtain⟨y,h1,h2⟩:=qX h0 (λe he=>hl e (by simp[he])) (k-cN) x h;have e1:k / cN=(k-cN) / cN+1:=by rw[Nat.div_eq_sub_div h0 (by omega)]
   have e2:k%cN=(k-cN)%cN:=Nat.mod_eq_sub_mod (by omega);exact⟨y,by rw[e1];simpa using h1,by rw[e2];exact h2⟩
theorem sQ.slice{e:TypeId}{α:Type}{en:α->AV}{n:Nat}{ok:α->Prop}{m:α->Nat}(r:sQ Bk P e en n ok m)(hu:P.underlying t=some (.slice e))(hc:P.cellsOf t=1):
  sQ Bk P t (SL en) 1 (VB ok) (lm m) where
 cells:=hc
 pos:=by decide
 size:=λ_=>rfl
 xq:=λa x hx=>by simp only[SL,AV.cells,O5]at hx;subst hx;rfl
 KL:=λ_=>by simp[lm]
 read:=λ{H enc w qk cs x}h=>by
  rcases open_slice hu h with⟨rfl,rfl⟩|⟨a,len,cap,mm,k,D,Pl,rfl,hb,hl,hm,Pd,rfl,hx⟩
  ·refine⟨[],rfl,(λa h=>by cases h),(by simp[lm,uptoBulk]),λi y v hy hv=>?_⟩;cases i with
   |zero=>simp[SL,AV.cells]at hy hv;subst hy;subst hv;exact .slnil false none 0 (λ_=>rfl) (λ_=>rfl)
   |succ i=>simp at hv
  ·simp only[wz]at Pd;subst Pd;have ja: ∀i,i<len-> ∃b:α,ok b/\m b<=uptoBulk (D i)/\ ∀(j:Nat)y,(en b).cells[j]? =some y-> ∃v,w.cell? ((a.add (i*n)).add j)=some v/\V (cx.all w) y v:=λi hi=>by
    obtain⟨cs',h1,h2⟩:=hx i (by omega);obtain⟨b,dJ,DT,hmb,hV⟩:=r.read h2;refine⟨b,DT,hmb,λj y hy=>?_⟩;rw[r.cells]at h1;have hj:j<n:=by
     have:=(fT.1 hy).1;rw[r.size]at this;exact this
    obtain⟨_,vr,Tf⟩:=World.cells?_some h1;have NN:j<cs'.length:=by omega
    have Xr:=Tf j hj;rw[dR NN]at Xr;exact⟨cs'[j],Xr,hV j y _ hy (dR NN)⟩
   obtain⟨B,hB⟩:=Fb ja;obtain⟨VC,hB⟩:=hB;refine⟨B,rfl,?_,?_,λi y v hy hv=>?_⟩
   ·intro b oM;obtain⟨i,hi,rfl⟩:=ry oM;exact(hB i (by omega) _ (dR hi)).1
   ·have:(B.map m).sum<=uptoBulkAll ((List.range len).map D):=by
     have key: ∀(L:List α)(d:Nat->DataW H),(∀i b,L[i]? =some b->m b<=uptoBulk (d i))->(L.map m).sum<=uptoBulkAll ((List.range L.length).map d):=by
      intro L
      induction L with
      |nil=>intro d _;simp[uptoBulkAll]
      |cons b L ih=>
       intro d hd;rw[oC,List.range_succ_eq_map];simp only[wy,SA,uptoBulkAll,JR];have h1:=hd 0 b rfl;have h2:=ih (d∘Nat.succ) (λi b hb=>hd (i+1) b (by simpa using hb));omega
     have:=key B D (λi b hb=>(hB i (by have:=(fT.1 hb).1;omega) b hb).2.1);rwa[VC]at this
    simp only[lm,uptoBulk];omega
   ·cases i with
    |succ i=>simp at hv
    |zero=>
     simp[SL,AV.cells]at hy hv;subst hy;subst hv;by_cases h0:len=0
     ·subst h0;have:B=[]:=Gs VC;subst this;exact .slnil false (some a) mm (λh=>by cases h) (λh=>by cases h)
     ·have PE:a.spot=none:=by
       obtain⟨b,_,_,hV⟩:=ja 0 (by omega);have hp:=r.pos;obtain⟨v,hv,_⟩:=hV 0 ((en b).cells[0]'(by rw[r.size];exact hp)) (dR _);simp only[VU,Addr.add,wz]at hv;unfold World.cell? at hv;split at hv
       ·split at hv
        ·cases hv
        ·rename_i h;cases hs:a.spot with
         |none=>rfl
         |some x=>rw[hs]at h;simp at h
       ·cases hv
      obtain⟨bk,off,spot⟩:=a;simp only at PE;subst PE;have aaI: ∀i j:Nat,((⟨bk,off,none⟩:Addr).add i).add j=⟨bk,off+(i+j),none⟩:=λi j=>by
       unfold Addr.add;by_cases h1:i=0<;>by_cases h2:j=0<;>simp[h1,h2,DP]
      have eG: ∀x∈B.map en,x.cells.length=n:=λx hx=>by
       obtain⟨b,_,rfl⟩:=kl.1 hx;exact r.size b
      have pI: ∀(k:Nat)(y:AV),(dB (B.map en))[k]? =some y-> ∃v,w.cell? ⟨bk,off+k,none⟩=some v/\V (cx.all w) y v:=λk y hy=>by
       obtain⟨z,h1,h2⟩:=qX r.pos eG k y hy;rw[sW]at h1;cases oM:B[k / n]? with
       |none=>rw[oM]at h1;cases h1
       |some b=>
        rw[oM]at h1;cases h1;have gl:k / n<len:=by have:=(fT.1 oM).1;omega
        obtain⟨v,Lm,Ka⟩:=(hB (k / n) gl b oM).2.2 (k%n) y h2;rw[aaI,Nat.div_add_mod']at Lm;exact⟨v,Lm,Ka⟩
      have aa9:(dB (B.map en)).length=len*n:=by
       have key: ∀L:List AV,(∀x∈L,x.cells.length=n)->(dB L).length=L.length*n:=by
        intro L
        induction L with
        |nil=>intro _;simp[dB]
        |cons x L ih=>
         intro hL;simp only[dB,F6,lu,oC];have:=ih λy hy=>hL y (by simp[hy]);simp only[dB]at this;rw[this,hL x (by simp),Nat.succ_mul,Nat.add_comm]
       rw[key _ eG,nE,VC]
      have KM:=λk(hk:k<len*n)=>pI k ((dB (B.map en))[k]'(by omega)) (dR _);have R6:(B.map en).length=len:=by rw[nE,VC]
      have:=V.sl (G:=cx.all w) false (B.map en) bk off n mm (λk=>(w.cell? ⟨bk,off+k,none⟩).getD undef) (by omega) (λh=>by cases h) eG
       (λx hx=>by
        obtain⟨z,hz,hxz⟩:=tK.1 hx;obtain⟨b,_,rfl⟩:=kl.1 hz;exact r.xq b x hxz)
       (λk hk=>by
        rw[R6]at hk;obtain⟨v,hv,_⟩:=KM k hk;show w.cell? _=_;rw[hv];rfl)
       (λk y hy=>by
        obtain⟨v,hv,vP⟩:=pI k y hy;rw[hv];exact vP)
      rw[R6]at this;exact this
 top:=.inr ⟨rfl,λ_=>rfl,λ{w b0 v}h=>by obtain⟨a,l,c,rfl⟩:=okWide_slice hu h;rfl⟩
where
 Fb {α:Type} {len:Nat} {p:Nat->α->Prop} (h: ∀i,i<len-> ∃b,p i b): ∃B:List α,B.length=len/\ ∀i,i<len-> ∀b,B[i]? =some b->p i b:=by
  induction len with
  |zero=>exact⟨[],rfl,λi hi=>absurd hi (Nat.not_lt_zero _)⟩
  |succ len ih=>
   obtain⟨B,h1,h2⟩:=ih λi hi=>h i (Nat.lt_succ_of_lt hi);obtain⟨b,hb⟩:=h len (Vc _);refine⟨B++[b],by simp[h1],λi hi c hc=>?_⟩;by_cases hl:i<len
   ·rw[nD (by omega)]at hc;exact h2 i hl c hc
   ·have:i=len:=by omega
    subst this;rw[qb (by omega),h1]at hc;simp at hc;subst hc;exact hb
structure l9 (P:Program) (o:Nat) (fs:List Field) {β:Type} (c:β->List AV) (n:Nat) (ok:β->Prop) (m:β->Nat):Prop where
 size: ∀b,(c b).length=n
 xq: ∀b,∀x∈c b,x.dn=true
 read: ∀{H:Type}{enc:TypeId×Value->H}{w:World}{k:Nat}{cs:List Value}{xs:List (DataW H×List MemPlace)},cs.length=o+n->xs.length=fs.length->
  (∀(i:Nat)(f:Field),fs[i]? =some f->DataW.trod enc P w 0 (λ_=>true) true k f.type ((cs.drop f.offset).take (P.cellsOf f.type))=xs[i]?)->
  ∃b,ok b/\m b<=uptoBulkAll (xs.map (·.1))/\ ∀(i:Nat)y v,(c b)[i]? =some y->cs[o+i]? =some v->V (cx.all w) y v
theorem l9.nil{o:Nat}:l9 P o [] (λ_:Unit=>[]) 0 (λ_=>True) (λ_=>0) where
 size:=λ_=>rfl
 xq:=λ_ x hx=>by cases hx
 read:=λ_ _ _=>⟨(),trivial,xC _,λi y v hy=>by simp at hy⟩
theorem l9.cons{o:Nat}{f:Field}{fs:List Field}{α β:Type}{en:α->AV}{n n':Nat}{ok:α->Prop}{m:α->Nat}{c:β->List AV}{ok':β->Prop}{m':β->Nat}(r:sQ Bk P f.type en n ok m)(hf:f.offset=o)(q:l9 P (o+n) fs c n' ok' m'):
  l9 P o (f::fs) (λp:α×β=>(en p.1).cells++c p.2) (n+n') (λp=>ok p.1/\ok' p.2) (λp=>m p.1+m' p.2) where
 size:=λb=>by rw[lu,r.size,q.size]
 xq:=λb x hx=>by
  rcases lT.1 hx with h|h
  ·exact r.xq _ _ h
  ·exact q.xq _ _ h
 read:=λ{H enc w k cs xs}hl hx h=>by
  cases xs with
  |nil=>simp at hx
  |cons x xs=>
   have h0:=h 0 f rfl;simp only[List.getElem?_cons_zero,r.cells,hf]at h0;obtain⟨a,e1,e2,e3,e4⟩:=r.read h0;have e3:m a<=uptoBulk x.1:=e3;obtain⟨b,g1,g2,g3⟩:=q.read (enc:=enc) (w:=w) (k:=k) (cs:=cs) (xs:=xs) (by omega) (by simpa using hx) (λi f' Eh=>by have:=h (i+1) f' (by simpa using Eh);simpa using this);refine⟨(a,b),⟨e2,g1⟩,by simp only[wy,uptoBulkAll];omega,λi y v hy hv=>?_⟩;have hs:=r.size a;have hy:((en a).cells++c b)[i]? =some y:=hy;by_cases hi:i<n
   ·rw[nD (by omega)]at hy;refine e4 i y v hy ?_;rw[U7,dP hi,Lw];exact hv
   ·rw[qb (by omega),hs]at hy;exact g3 (i-n) y v hy (by rw[show o+n+(i-n)=o+i by omega];exact hv)
theorem sQ.struct{fs:Array Field}{β α:Type}{c:β->List AV}{n:Nat}{okb:β->Prop}{mb:β->Nat}{en:α->AV}{ok:α->Prop}{m:α->Nat}(fl:List Field)(q:l9 P 0 fl c n okb mb)(hu:P.underlying t=some (.struct fs))(pI:fs.toList=fl)
  (hc:P.cellsOf t=n) (hp:0<n) (φ:β->α) (ψ:α->β) (he: ∀b,en (φ b)=.agg (c b)) (Y7: ∀a,φ (ψ a)=a) (DT: ∀b,okb b->ok (φ b)) (hm: ∀b,m (φ b)=mb b+1):sQ Bk P t en n ok m where
 cells:=hc
 pos:=hp
 size:=λa=>by rw[<-Y7 a,he];exact q.size _
 xq:=λa=>by rw[<-Y7 a,he];exact q.xq _
 KL:=λa=>by rw[<-Y7 a,hm];omega
 read:=λ{H enc w k cs x}h=>by
  obtain⟨xs,k',rfl,rfl,hl,hx,hr⟩:=DataW.trod_struct hu h;rw[hc]at hl;obtain⟨b,g1,g2,g3⟩:=q.read (enc:=enc) (w:=w) (k:=k') (cs:=cs) (xs:=xs) (by omega) (by rw[hx,<-pI];simp) (λi f hf=>hr i f (by rw[<-pI]at hf;simpa using hf));refine⟨φ b,hl,DT b g1,by rw[hm];simp only[uptoBulk];omega,λi y v hy hv=>g3 i y v (by rw[he]at hy;exact hy) (by simpa using hv)⟩
 top:=.inl ⟨λh=>okWide_struct hu h,λa=>by rw[<-Y7 a,he];rfl⟩
theorem sQ.arg{α:Type}{en:α->AV}{n:Nat}{ok:α->Prop}{m:α->Nat}(r:sQ Bk P t en n ok m){H:Type}{enc:TypeId×Value->H}{w:World}{v:Value}{d:DataW H}{ps:List MemPlace}{b0:Nat}(hv:Value.okWide P w .any b0 t v)
  (h:DataW.Trod enc P w 0 (λ_=>true) true t v d ps): ∃a,ok a/\m a<=uptoBulk d/\V (cx.all w) (en a) v:=by
 obtain⟨k,hk⟩:=h;obtain⟨a,h1,h2,h3,h4⟩:=r.read hk;refine⟨a,h2,h3,?_⟩;rcases r.top with⟨hu,hag⟩|⟨_,Xs,Xt⟩
 ·obtain⟨cs,rfl,hs⟩:=hu hv;have ha:=hag a;have eG:=r.size a;generalize he:en a=x at ha eG h4 |-
  cases x<;>simp only[AV.isAgg]at ha<;>first|(cases ha;done)|skip
  rename_i l;simp only[AV.cells]at eG h4;refine .agg l cs ?_ λi x y hx hy=>h4 i x y hx ?_
  ·rw[eG,hs,r.cells]
  ·simpa[Value.cells]using hy
 ·rw[Xt hv]at h4;rw[Xs]at h4;exact h4 0 _ _ rfl rfl
theorem VL.nil{G:cx}:VL G [] #[]:=⟨rfl,λi x y hx=>by simp at hx⟩
theorem VL.cons{G:cx}{x:AV}{v:Value}{xs:List AV}{vs:List Value}(h:V G x v)(hs:VL G xs vs.toArray):VL G (x::xs) (v::vs).toArray:=⟨by have:=hs.1;simp at this |-;omega,λi a b ha hb=>by
 cases i with
 |zero=>simp at ha hb;subst ha;subst hb;exact h
 |succ i=>exact hs.2 i a b (by simpa using ha) (by simpa using hb)⟩
end
end Go.Am
