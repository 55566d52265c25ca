/- The logic AM, part 31: from what a law's arguments read as to abstract values, and from a call's contract to the law's postcondition. -/
import Derived.Test.YtgpciecmgoppiaaGreatRows
import Derived.Test.YtgpciecmgoppiaaGreatAmE
import Derived.WalkKit
import Derived.ProofKit
import Derived.OpenShut
import Derived.JoinedCond
import Derived.ChangeStays
import Derived.ChangeOld
import Derived.ChangeBears
import Derived.SizedLaws
import Derived.Deep.Slices
set_option linter.all false
namespace Go.Am
open Go.RowKit Go.ChangeShapes Go.WideShapes Go.ChangeAt Go.Deep
def bS.all(w:World):bS:=⟨λb o=>w.cell? ⟨b,o,none⟩,λ_=>none⟩
theorem Rs(w:World)(hb:JY (bS.all w).ig):eG (bS.all w) ⟨[],0⟩ w:=
 ⟨⟨λ_ _ _ h=>h,hb⟩,λ_ _ h=>by simp[df,cG]at h,λ_ _ _ _ _ _ h=>by simp[df,cG]at h,λ_ _ _ _ h=>by simp[df,cG]at h,λ_ _=>rfl,λ_ _ h=>by simp[df,cG]at h⟩
structure Kept (W W':World):Prop where
 os:W'.os=W.os
 output:W'.output=W.output
 heap: ∀b,b<W.heap.size->W'.heap[b]? =W.heap[b]?
theorem Hz{P:Program}{f:FuncId}{xs:List AV}{b:Bool}{Q:AV->St->Prop}(h:dw P f xs ⟨[],0⟩ Q)(hq: ∀x s,Q x s->x=.bool b){W:World}(hb:JY (bS.all W).ig){vs:Array Value}(hv:VL (bS.all W) xs vs):
  Calls P f vs W λe W'=>e=.returned (.bool b)/\Kept W W':=
 (h (bS.all W) W vs (Rs W hb) hv).mono λe W' ⟨v,G',x,s',he,hV,_,hx,q⟩=>by
  cases hq _ _ q;cases hV;refine⟨he,hx.os,hx.output,λb hb=>hx.keep b hb ?_⟩;rintro⟨id,blk,r,g,_⟩;simp[df,cG]at g
section
variable {H:Type} {enc:TypeId×Value->H} {P:Program}
theorem Kept.sameAt{W W':World}(h:Kept W W')(p:MemPlace)(hp:p.block<W.heap.size):W.sameAt W' p:=by
 cases p with
 |cell b o=>simp only[World.sameAt,World.cell?];rw[h.heap b hp]
 |map b=>exact h.heap b hp
theorem Kept.keptBut{W W':World}(h:Kept W W')(may:MemPlace->Prop):W.keptBut W' may:=by
 refine⟨h.os,h.output,λi hi=>?_⟩;rw[h.heap i hi];cases W.heap[i]? with
 |none=>rfl
 |some o=>cases o<;>first|exact⟨rfl,rfl,rfl,λ_ _=>rfl⟩|exact .inr ⟨rfl,rfl⟩|rfl
theorem sy{W W':World}(hk:Kept W W')(K:Kids P (· <P.types.size))(eB: ∀t e,t<P.types.size->P.underlying t=some (.slice e)->0<P.cellsOf e){sp:Nat->Bool}:
  ∀{ts:List TypeId}{vs:List Value}{ds:List (DataW H)}{ps:List MemPlace},(∀t∈ts,t<P.types.size)->DataW.TrodAll enc P W 0 (λ_=>true) true ts vs ds ps->(∀p∈ps,p.block<W.heap.size/\sp p.block=true)->
  DataW.TrodAll enc P W' 0 sp true ts vs ds ps
 | [],[],[],_,_,h,_=>h
 |t::ts,v::vs,d::ds,_,ht,⟨p,q,⟨n,h⟩,hr,e⟩,hp=>by
  subst e;exact⟨p,q,⟨n,DataW.trod_stays K (λ{t e}=>eB t e) (λh=>by cases h) (ht t (by simp)) h (λx hx=>hk.sameAt x (hp x (by simp at hx;simp[hx])).1) (λx hx=>(hp x (by simp at hx;simp[hx])).2)⟩,
   sy hk K eB (λt Gp=>ht t (by simp[Gp])) hr (λx hx=>hp x (by simp[hx])),rfl⟩
 | [],[],_::_,_,_,h,_=>h.elim
 | [],_::_,_,_,_,h,_=>h.elim
 |_::_,[],_,_,_,h,_=>h.elim
 |_::_,_::_,[],_,_,h,_=>h.elim
theorem Oi{f:Func}{s:ChangeSpec}{W W':World}{args:Array Value}{ds gs:List (DataW H)}{before:List MemPlace}(tb:TypeId)
  (K:Kids P (· <P.types.size)) (eB: ∀t e,t<P.types.size->P.underlying t=some (.slice e)->0<P.cellsOf e) (MH: ∀t∈f.params.toList,t<P.types.size) (SJ:s.vars=[])
  (Hr:f.resultTypes= #[tb]) (hb:P.underlying tb=some .bool)
  (hW:DataW.Whole enc P f.params.toList s.vars false W args.toList ds gs before) (Qf: ∀ds',ds'=ds->s.fn H ds'={results:=[.lit (.bool true)],args:=ds'}) (hk:Kept W W'):
  s.post enc P f false true false false W args (.bool true) W':=by
 have kc:=hW.lt;have hW0:=hW;obtain⟨p,q,hA,hV,rfl,hfz,tC⟩:=hW;rw[SJ]at hV;obtain⟨rfl,rfl⟩:=trodVars_none hV;simp only[wV]at kc hW0;have UX:=Qf (ds++[]) (by simp);refine⟨ds,[],p,[],p,[],hW0,?_,?_,?_,hk.keptBut _,λh=>by cases h⟩
 ·rw[UX,Hr];exact trodAll_cons_mk (shut_bool hb true) trodAll_mk0
 ·rw[UX];simp only[wV];exact sy hk K eB MH hA λx hx=>⟨kc x hx,by simpa using kc x hx⟩
 ·rw[UX,SJ];exact(rfl:([]:List MemPlace)=[])
end
structure rL (bulk:(H:Type)->DataW H->Nat) (P:Program) (t:TypeId) {α:Type} (e:α->AV) (n:Nat) (ok:α->Prop) (m:α->Nat):Prop where
 cells:P.cellsOf t=n
 pos:0<n
 size: ∀a,(e a).cells.length=n
 zu: ∀a,∀x∈(e a).cells,x.cJ=true
 HA: ∀a,1<=m a
 read: ∀{H:Type}{enc:TypeId×Value->H}{w:World}{k:Nat}{cs:List Value}{x:DataW H×List MemPlace},DataW.trod enc P w 0 (λ_=>true) true k t cs=some x->
  ∃a,cs.length=n/\ok a/\m a<=bulk H x.1/\ ∀(i:Nat)y v,(e a).cells[i]? =some y->cs[i]? =some v->V (bS.all w) y v
 top:((∀{w:World}{b0:Nat}{v:Value},Value.okWide P w .any b0 t v-> ∃cs,v=.agg cs/\cs.size=P.cellsOf t)/\ ∀a,(e a).isAgg=true)\/(n=1/\(∀a,(e a).cells=[e a])/\ ∀{w:World}{b0:Nat}{v:Value},Value.okWide P w .any b0 t v->v.cells.toList=[v])
def lm{α:Type}(m:α->Nat)(l:List α):Nat:=(l.map m).sum+1
def SK{α:Type}(ok:α->Prop)(l:List α):Prop:= ∀a∈l,ok a
theorem C3{α:Type}{m:α->Nat}(hm: ∀a,1<=m a): ∀l:List α,l.length+1<=lm m l
 | []=>by simp[lm]
 |a::l=>by
  have h1:=C3 hm l;have h2:=hm a;simp only[lm,Aj,Ws,vl]at h1 |-
  omega
theorem Oj{α:Type}{m:α->Nat}{a:α}: ∀{l:List α},a∈l->m a<=lm m l
 |b::l,h=>by
  simp only[lm,Aj,Ws];rcases pU.1 h with rfl|h
  ·omega
  ·have:=Oj (m:=m) h;simp only[lm]at this;omega
def okI(k:IntKind)(n:Int):Prop:=(Lit.int k n).wf=true
section
open Go.Proofs.YtgpciecmgoppiaaGreat.Rows (uptoBulk uptoBulkAll)
variable {P:Program} {t:TypeId}
abbrev Bk:(H:Type)->DataW H->Nat:=λ_ d=>uptoBulk d
theorem rL.int(k:IntKind)(hu:P.underlying t=some (.int k))(hc:P.cellsOf t=1):rL Bk P t (AV.int k) 1 (okI k) (λ_=>1) where
 cells:=hc
 pos:=by decide
 size:=λ_=>rfl
 zu:=λa x hx=>by simp only[AV.cells,Tb]at hx;subst hx;rfl
 HA:=λ_=>fw _
 read:=λ{H enc w ni cs x}h=>by
  obtain⟨n,rfl,rfl,hw⟩:=DataW.trod_int hu h;refine⟨n,rfl,hw,by simp[uptoBulk],λi y v hy hv=>?_⟩;cases i with
  |zero=>simp[AV.cells]at hy hv;subst hy;subst hv;exact .int k n
  |succ i=>simp at hv
 top:=.inr ⟨rfl,λ_=>rfl,λ{w b0 v}h=>by obtain⟨n,rfl⟩:=okWide_int hu h;rfl⟩
theorem rL.bool(hu:P.underlying t=some .bool)(hc:P.cellsOf t=1):rL Bk P t AV.bool 1 (λ_=>True) (λ_=>1) where
 cells:=hc
 pos:=by decide
 size:=λ_=>rfl
 zu:=λa x hx=>by simp only[AV.cells,Tb]at hx;subst hx;rfl
 HA:=λ_=>fw _
 read:=λ{H enc w ni cs x}h=>by
  obtain⟨n,rfl,rfl⟩:=DataW.trod_bool hu h;refine⟨n,rfl,trivial,by simp[uptoBulk],λi y v hy hv=>?_⟩;cases i with
  |zero=>simp[AV.cells]at hy hv;subst hy;subst hv;exact .bool n
  |succ i=>simp at hv
 top:=.inr ⟨rfl,λ_=>rfl,λ{w b0 v}h=>by obtain⟨n,rfl⟩:=okWide_bool hu h;rfl⟩
theorem EQ{cq:Nat}(h0:0<cq): ∀{l:List AV},(∀e∈l,e.cells.length=cq)-> ∀(k:Nat)(x:AV),(de l)[k]? =some x-> ∃y,l[k / cq]? =some y/\y.cells[k%cq]? =some x
 | [],_,k,x,h=>by simp[de]at h
 |a::r,hl,k,x,h=>by
  have ha:=hl a (by simp);simp only[de,F1]at h;by_cases hk:k<cq
  ·rw[Aq (by omega)]at h;rw[Nat.div_eq_of_lt hk,Nat.mod_eq_of_lt hk];exact⟨a,rfl,h⟩
  ·rw[DB (by omega),ha]at h;obtain⟨y,h1,h2⟩:=EQ h0 (λe he=>hl e (by simp[he])) (k-cq) x h;have e1:k / cq=(k-cq) / cq+1:=by rw[Nat.div_eq_sub_div h0 (by omega)]
   have e2:k%cq=(k-cq)%cq:=Nat.mod_eq_sub_mod (by omega);exact⟨y,by rw[e1];simpa using h1,by rw[e2];exact h2⟩
theorem rL.slice{e:TypeId}{α:Type}{en:α->AV}{n:Nat}{ok:α->Prop}{m:α->Nat}(r:rL Bk P e en n ok m)(hu:P.underlying t=some (.slice e))(hc:P.cellsOf t=1):
  rL Bk P t (SL en) 1 (SK ok) (lm m) where
 cells:=hc
 pos:=by decide
 size:=λ_=>rfl
 zu:=λa x hx=>by simp only[SL,AV.cells,Tb]at hx;subst hx;rfl
 HA:=λ_=>by simp[lm]
 read:=λ{H enc w ni cs x}h=>by
  rcases open_slice hu h with⟨rfl,rfl⟩|⟨a,len,cap,mm,k,D,Pl,rfl,hb,hl,hm,VT,rfl,hx⟩
  ·refine⟨[],rfl,(λa h=>by cases h),(by simp[lm,uptoBulk]),λi y v hy hv=>?_⟩;cases i with
   |zero=>simp[SL,AV.cells]at hy hv;subst hy;subst hv;exact .slnil false none 0 (λ_=>rfl) (λ_=>rfl)
   |succ i=>simp at hv
  ·simp only[Ak]at VT;subst VT;have jR: ∀i,i<len-> ∃b:α,ok b/\m b<=uptoBulk (D i)/\ ∀(j:Nat)y,(en b).cells[j]? =some y-> ∃v,w.cell? ((a.add (i*n)).add j)=some v/\V (bS.all w) y v:=λi hi=>by
    obtain⟨cs',h1,h2⟩:=hx i (by omega);obtain⟨b,dK,F9,hmb,hV⟩:=r.read h2;refine⟨b,F9,hmb,λj y hy=>?_⟩;rw[r.cells]at h1;have hj:j<n:=by
     have:=(lf.1 hy).1;rw[r.size]at this;exact this
    obtain⟨_,Gb,TN⟩:=World.cells?_some h1;have Wb:j<cs'.length:=by omega
    have hcj:=TN j hj;rw[dF Wb]at hcj;exact⟨cs'[j],hcj,hV j y _ hy (dF Wb)⟩
   obtain⟨B,hB⟩:=ER jR;obtain⟨Wc,hB⟩:=hB;refine⟨B,rfl,?_,?_,λi y v hy hv=>?_⟩
   ·intro b pW;obtain⟨i,hi,rfl⟩:=qZ pW;exact(hB i (by omega) _ (dF hi)).1
   ·have:(B.map m).sum<=uptoBulkAll ((List.range len).map D):=by
     have key: ∀(L:List α)(d:Nat->DataW H),(∀i b,L[i]? =some b->m b<=uptoBulk (d i))->(L.map m).sum<=uptoBulkAll ((List.range L.length).map d):=by
      intro L
      induction L with
      |nil=>intro d _;simp[uptoBulkAll]
      |cons b L ih=>
       intro d hd;rw[vl,List.range_succ_eq_map];simp only[Aj,Ws,uptoBulkAll,L1];have h1:=hd 0 b rfl;have h2:=ih (d∘Nat.succ) (λi b hb=>hd (i+1) b (by simpa using hb));omega
     have:=key B D (λi b hb=>(hB i (by have:=(lf.1 hb).1;omega) b hb).2.1);rwa[Wc]at this
    simp only[lm,uptoBulk];omega
   ·cases i with
    |succ i=>simp at hv
    |zero=>
     simp[SL,AV.cells]at hy hv;subst hy;subst hv;by_cases h0:len=0
     ·subst h0;have:B=[]:=Py Wc;subst this;exact .slnil false (some a) mm (λh=>by cases h) (λh=>by cases h)
     ·have DG:a.spot=none:=by
       obtain⟨b,_,_,hV⟩:=jR 0 (by omega);have hp:=r.pos;obtain⟨v,hv,_⟩:=hV 0 ((en b).cells[0]'(by rw[r.size];exact hp)) (dF _);simp only[Nat.zero_mul,Addr.add,Ak]at hv;unfold World.cell? at hv;split at hv
       ·split at hv
        ·cases hv
        ·rename_i h;cases hs:a.spot with
         |none=>rfl
         |some x=>rw[hs]at h;simp at h
       ·cases hv
      obtain⟨bk,off,spot⟩:=a;simp only at DG;subst DG;have aaW: ∀i j:Nat,((⟨bk,off,none⟩:Addr).add i).add j=⟨bk,off+(i+j),none⟩:=λi j=>by
       unfold Addr.add;by_cases h1:i=0<;>by_cases h2:j=0<;>simp[h1,h2,RW]
      have eB: ∀x∈B.map en,x.cells.length=n:=λx hx=>by
       obtain⟨b,_,rfl⟩:=mS.1 hx;exact r.size b
      have sH: ∀(k:Nat)(y:AV),(de (B.map en))[k]? =some y-> ∃v,w.cell? ⟨bk,off+k,none⟩=some v/\V (bS.all w) y v:=λk y hy=>by
       obtain⟨z,h1,h2⟩:=EQ r.pos eB k y hy;rw[xR]at h1;cases pW:B[k / n]? with
       |none=>rw[pW]at h1;cases h1
       |some b=>
        rw[pW]at h1;cases h1;have kc:k / n<len:=by have:=(lf.1 pW).1;omega
        obtain⟨v,Qk,LK⟩:=(hB (k / n) kc b pW).2.2 (k%n) y h2;rw[aaW,Nat.div_add_mod']at Qk;exact⟨v,Qk,LK⟩
      have abr:(de (B.map en)).length=len*n:=by
       have key: ∀L:List AV,(∀x∈L,x.cells.length=n)->(de L).length=L.length*n:=by
        intro L
        induction L with
        |nil=>intro _;simp[de]
        |cons x L ih=>
         intro hL;simp only[de,F1,re,vl];have:=ih λy hy=>hL y (by simp[hy]);simp only[de]at this;rw[this,hL x (by simp),Nat.succ_mul,Nat.add_comm]
       rw[key _ eB,vn,Wc]
      have HB:=λk(hk:k<len*n)=>sH k ((de (B.map en))[k]'(by omega)) (dF _);have SM:(B.map en).length=len:=by rw[vn,Wc]
      have:=V.sl (G:=bS.all w) false (B.map en) bk off n mm (λk=>(w.cell? ⟨bk,off+k,none⟩).getD undef) (by omega) (λh=>by cases h) eB
       (λx hx=>by
        obtain⟨z,hz,hxz⟩:=tw.1 hx;obtain⟨b,_,rfl⟩:=mS.1 hz;exact r.zu b x hxz)
       (λk hk=>by
        rw[SM]at hk;obtain⟨v,hv,_⟩:=HB k hk;show w.cell? _=_;rw[hv];rfl)
       (λk y hy=>by
        obtain⟨v,hv,Jl⟩:=sH k y hy;rw[hv];exact Jl)
      rw[SM]at this;exact this
 top:=.inr ⟨rfl,λ_=>rfl,λ{w b0 v}h=>by obtain⟨a,l,c,rfl⟩:=okWide_slice hu h;rfl⟩
where
 ER {α:Type} {len:Nat} {p:Nat->α->Prop} (h: ∀i,i<len-> ∃b,p i b): ∃B:List α,B.length=len/\ ∀i,i<len-> ∀b,B[i]? =some b->p i b:=by
  induction len with
  |zero=>exact⟨[],rfl,λi hi=>absurd hi (Nat.not_lt_zero _)⟩
  |succ len ih=>
   obtain⟨B,h1,h2⟩:=ih λi hi=>h i (Nat.lt_succ_of_lt hi);obtain⟨b,hb⟩:=h len (Wn _);refine⟨B++[b],by simp[h1],λi hi c hc=>?_⟩;by_cases hl:i<len
   ·rw[Aq (by omega)]at hc;exact h2 i hl c hc
   ·have:i=len:=by omega
    subst this;rw[DB (by omega),h1]at hc;simp at hc;subst hc;exact hb
structure jW (P:Program) (o:Nat) (fs:List Field) {β:Type} (c:β->List AV) (n:Nat) (ok:β->Prop) (m:β->Nat):Prop where
 size: ∀b,(c b).length=n
 zu: ∀b,∀x∈c b,x.cJ=true
 read: ∀{H:Type}{enc:TypeId×Value->H}{w:World}{k:Nat}{cs:List Value}{xs:List (DataW H×List MemPlace)},cs.length=o+n->xs.length=fs.length->
  (∀(i:Nat)(f:Field),fs[i]? =some f->DataW.trod enc P w 0 (λ_=>true) true k f.type ((cs.drop f.offset).take (P.cellsOf f.type))=xs[i]?)->
  ∃b,ok b/\m b<=uptoBulkAll (xs.map (·.1))/\ ∀(i:Nat)y v,(c b)[i]? =some y->cs[o+i]? =some v->V (bS.all w) y v
theorem jW.nil{o:Nat}:jW P o [] (λ_:Unit=>[]) 0 (λ_=>True) (λ_=>0) where
 size:=λ_=>rfl
 zu:=λ_ x hx=>by cases hx
 read:=λ_ _ _=>⟨(),trivial,Ds _,λi y v hy=>by simp at hy⟩
theorem jW.cons{o:Nat}{f:Field}{fs:List Field}{α β:Type}{en:α->AV}{n n':Nat}{ok:α->Prop}{m:α->Nat}{c:β->List AV}{ok':β->Prop}{m':β->Nat}(r:rL Bk P f.type en n ok m)(hf:f.offset=o)(q:jW P (o+n) fs c n' ok' m'):
  jW P o (f::fs) (λp:α×β=>(en p.1).cells++c p.2) (n+n') (λp=>ok p.1/\ok' p.2) (λp=>m p.1+m' p.2) where
 size:=λb=>by rw[re,r.size,q.size]
 zu:=λb x hx=>by
  rcases oq.1 hx with h|h
  ·exact r.zu _ _ h
  ·exact q.zu _ _ h
 read:=λ{H enc w k cs xs}hl hx h=>by
  cases xs with
  |nil=>simp at hx
  |cons x xs=>
   have h0:=h 0 f rfl;simp only[List.getElem?_cons_zero,r.cells,hf]at h0;obtain⟨a,e1,e2,e3,e4⟩:=r.read h0;have e3:m a<=uptoBulk x.1:=e3;obtain⟨b,g1,g2,g3⟩:=q.read (enc:=enc) (w:=w) (k:=k) (cs:=cs) (xs:=xs) (by omega) (by simpa using hx) (λi f' DJ=>by have:=h (i+1) f' (by simpa using DJ);simpa using this);refine⟨(a,b),⟨e2,g1⟩,by simp only[Aj,uptoBulkAll];omega,λi y v hy hv=>?_⟩;have hs:=r.size a;have hy:((en a).cells++c b)[i]? =some y:=hy;by_cases hi:i<n
   ·rw[Aq (by omega)]at hy;refine e4 i y v hy ?_;rw[YL,ez hi,YJ];exact hv
   ·rw[DB (by omega),hs]at hy;exact g3 (i-n) y v hy (by rw[show o+n+(i-n)=o+i by omega];exact hv)
theorem rL.struct{fs:Array Field}{β α:Type}{c:β->List AV}{n:Nat}{okb:β->Prop}{mb:β->Nat}{en:α->AV}{ok:α->Prop}{m:α->Nat}(fl:List Field)(q:jW P 0 fl c n okb mb)(hu:P.underlying t=some (.struct fs))(sH:fs.toList=fl)
  (hc:P.cellsOf t=n) (hp:0<n) (φ:β->α) (ψ:α->β) (he: ∀b,en (φ b)=.agg (c b)) (ZF: ∀a,φ (ψ a)=a) (F9: ∀b,okb b->ok (φ b)) (hm: ∀b,m (φ b)=mb b+1):rL Bk P t en n ok m where
 cells:=hc
 pos:=hp
 size:=λa=>by rw[<-ZF a,he];exact q.size _
 zu:=λa=>by rw[<-ZF a,he];exact q.zu _
 HA:=λa=>by rw[<-ZF a,hm];omega
 read:=λ{H enc w k cs x}h=>by
  obtain⟨xs,k',rfl,rfl,hl,hx,hr⟩:=DataW.trod_struct hu h;rw[hc]at hl;obtain⟨b,g1,g2,g3⟩:=q.read (enc:=enc) (w:=w) (k:=k') (cs:=cs) (xs:=xs) (by omega) (by rw[hx,<-sH];simp) (λi f hf=>hr i f (by rw[<-sH]at hf;simpa using hf));refine⟨φ b,hl,F9 b g1,by rw[hm];simp only[uptoBulk];omega,λi y v hy hv=>g3 i y v (by rw[he]at hy;exact hy) (by simpa using hv)⟩
 top:=.inl ⟨λh=>okWide_struct hu h,λa=>by rw[<-ZF a,he];rfl⟩
theorem rL.arg{α:Type}{en:α->AV}{n:Nat}{ok:α->Prop}{m:α->Nat}(r:rL Bk P t en n ok m){H:Type}{enc:TypeId×Value->H}{w:World}{v:Value}{d:DataW H}{ps:List MemPlace}{b0:Nat}(hv:Value.okWide P w .any b0 t v)
  (h:DataW.Trod enc P w 0 (λ_=>true) true t v d ps): ∃a,ok a/\m a<=uptoBulk d/\V (bS.all w) (en a) v:=by
 obtain⟨k,hk⟩:=h;obtain⟨a,h1,h2,h3,h4⟩:=r.read hk;refine⟨a,h2,h3,?_⟩;rcases r.top with⟨hu,hag⟩|⟨_,XS,yJ⟩
 ·obtain⟨cs,rfl,hs⟩:=hu hv;have ha:=hag a;have eB:=r.size a;generalize he:en a=x at ha eB h4 |-
  cases x<;>simp only[AV.isAgg]at ha<;>first|(cases ha;done)|skip
  rename_i l;simp only[AV.cells]at eB h4;refine .agg l cs ?_ λi x y hx hy=>h4 i x y hx ?_
  ·rw[eB,hs,r.cells]
  ·simpa[Value.cells]using hy
 ·rw[yJ hv]at h4;rw[XS]at h4;exact h4 0 _ _ rfl rfl
theorem VL.nil{G:bS}:VL G [] #[]:=⟨rfl,λi x y hx=>by simp at hx⟩
theorem VL.cons{G:bS}{x:AV}{v:Value}{xs:List AV}{vs:List Value}(h:V G x v)(hs:VL G xs vs.toArray):VL G (x::xs) (v::vs).toArray:=⟨by have:=hs.1;simp at this |-;omega,λi a b ha hb=>by
 cases i with
 |zero=>simp at ha hb;subst ha;subst hb;exact h
 |succ i=>exact hs.2 i a b (by simpa using ha) (by simpa using hb)⟩
end
end Go.Am
