/-
  The logic AM, part 31: from what a law's arguments read as to abstract values, and from a call's contract to the law's postcondition.
  Own work. No Go text.
-/
import Derived.Test.YtpbahncblggodaaGreatRows
import Derived.Test.YtpbahncblggodaaGreatAm30
import Derived.WalkKit
import Derived.ProofKit
import Derived.OpenShut
import Derived.JoinedCond
import Derived.ChangeStays
import Derived.ChangeOld
import Derived.ChangeBears
import Derived.SizedLaws
import Derived.Deep.Slices
set_option linter.all false
namespace Go.Am
open Go.RowKit Go.ChangeShapes Go.WideShapes Go.ChangeAt Go.Deep
def Ghost.all(w:World):Ghost:=⟨λb o=>w.cell? ⟨b,o,none⟩,λ_=>none⟩
theorem sim_all(w:World):Sim (Ghost.all w) ⟨[],0⟩ w:=
 ⟨λ_ _ _ h=>h,λ_ _ h=>by simp[egetN,egetC]at h,λ_ _ _ _ _ _ h=>by simp[egetN,egetC]at h,λ_ _ _ _ h=>by simp[egetN,egetC]at h,λ_ _=>rfl,λ_ _ h=>by simp[egetN,egetC]at h⟩
structure Kept (W W':World):Prop where
 os:W'.os=W.os
 output:W'.output=W.output
 heap: ∀b,b<W.heap.size->W'.heap[b]? =W.heap[b]?
theorem calls_kept{P:Program}{f:FuncId}{xs:List AV}{b:Bool}{Q:AV->St->Prop}(h:ACalls P f xs ⟨[],0⟩ Q)(hq: ∀x s,Q x s->x=.bool b){W:World}{vs:Array Value}(hv:VL (Ghost.all W) xs vs):
  Calls P f vs W λe W'=>e=.returned (.bool b)/\Kept W W':=
 (h (Ghost.all W) W vs (sim_all W) hv).mono λe W' ⟨v,G',x,s',he,hV,_,hx,q⟩=>by
  cases hq _ _ q
  cases hV
  refine⟨he,hx.os,hx.output,λb hb=>hx.keep b hb ?_⟩
  rintro⟨id,blk,r,g,_⟩
  simp[egetN,egetC]at g
section
variable {H:Type} {enc:TypeId×Value->H} {P:Program}
theorem Kept.sameAt{W W':World}(h:Kept W W')(p:MemPlace)(hp:p.block<W.heap.size):W.sameAt W' p:=by
 cases p with
 |cell b o=>simp only[World.sameAt,World.cell?];rw[h.heap b hp]
 |map b=>exact h.heap b hp
theorem Kept.keptBut{W W':World}(h:Kept W W')(may:MemPlace->Prop):W.keptBut W' may:=by
 refine⟨h.os,h.output,λi hi=>?_⟩
 rw[h.heap i hi]
 cases W.heap[i]? with
 |none=>rfl
 |some o=>cases o<;>first|exact⟨rfl,rfl,rfl,λ_ _=>rfl⟩|exact .inr ⟨rfl,rfl⟩|rfl
theorem trodAll_stays{W W':World}(hk:Kept W W')(K:Kids P (· <P.types.size))(hsz: ∀t e,t<P.types.size->P.underlying t=some (.slice e)->0<P.cellsOf e){sp:Nat->Bool}:
  ∀{ts:List TypeId}{vs:List Value}{ds:List (DataW H)}{ps:List MemPlace},(∀t∈ts,t<P.types.size)->DataW.TrodAll enc P W 0 (λ_=>true) true ts vs ds ps->(∀p∈ps,p.block<W.heap.size/\sp p.block=true)->
  DataW.TrodAll enc P W' 0 sp true ts vs ds ps
 | [],[],[],_,_,h,_=>h
 |t::ts,v::vs,d::ds,_,ht,⟨p,q,⟨n,h⟩,hr,e⟩,hp=>by
  subst e
  exact⟨p,q,⟨n,DataW.trod_stays K (λ{t e}=>hsz t e) (λh=>by cases h) (ht t (by simp)) h (λx hx=>hk.sameAt x (hp x (by simp at hx;simp[hx])).1) (λx hx=>(hp x (by simp at hx;simp[hx])).2)⟩,
   trodAll_stays hk K hsz (λt ht'=>ht t (by simp[ht'])) hr (λx hx=>hp x (by simp[hx])),rfl⟩
 | [],[],_::_,_,_,h,_=>h.elim
 | [],_::_,_,_,_,h,_=>h.elim
 |_::_,[],_,_,_,h,_=>h.elim
 |_::_,_::_,[],_,_,h,_=>h.elim
theorem law_post{f:Func}{s:ChangeSpec}{W W':World}{args:Array Value}{ds gs:List (DataW H)}{before:List MemPlace}(tb:TypeId)
  (K:Kids P (· <P.types.size)) (hsz: ∀t e,t<P.types.size->P.underlying t=some (.slice e)->0<P.cellsOf e) (hpar: ∀t∈f.params.toList,t<P.types.size) (hvars:s.vars=[])
  (hres:f.resultTypes= #[tb]) (hb:P.underlying tb=some .bool)
  (hW:DataW.Whole enc P f.params.toList s.vars false W args.toList ds gs before) (hfn: ∀ds',ds'=ds->s.fn H ds'={results:=[.lit (.bool true)],args:=ds'}) (hk:Kept W W'):
  s.post enc P f false true false false W args (.bool true) W':=by
 have hlt:=hW.lt
 have hW0:=hW
 obtain⟨p,q,hA,hV,rfl,hfz,hnd⟩:=hW
 rw[hvars]at hV
 obtain⟨rfl,rfl⟩:=trodVars_none hV
 simp only[List.append_nil]at hlt hW0
 have hfn':=hfn (ds++[]) (by simp)
 refine⟨ds,[],p,[],p,[],hW0,?_,?_,?_,hk.keptBut _,λh=>by cases h⟩
 ·rw[hfn',hres]
  exact trodAll_cons_mk (shut_bool hb true) trodAll_mk0
 ·rw[hfn']
  simp only[List.append_nil]
  exact trodAll_stays hk K hsz hpar hA λx hx=>⟨hlt x hx,by simpa using hlt x hx⟩
 ·rw[hfn',hvars]
  exact(rfl:([]:List MemPlace)=[])
end
structure Rdg (bulk:(H:Type)->DataW H->Nat) (P:Program) (t:TypeId) {α:Type} (e:α->AV) (n:Nat) (ok:α->Prop) (m:α->Nat):Prop where
 cells:P.cellsOf t=n
 pos:0<n
 size: ∀a,(e a).cells.length=n
 scal: ∀a,∀x∈(e a).cells,x.scalar=true
 mpos: ∀a,1<=m a
 read: ∀{H:Type}{enc:TypeId×Value->H}{w:World}{k:Nat}{cs:List Value}{x:DataW H×List MemPlace},DataW.trod enc P w 0 (λ_=>true) true k t cs=some x->
  ∃a,cs.length=n/\ok a/\m a<=bulk H x.1/\ ∀(i:Nat)y v,(e a).cells[i]? =some y->cs[i]? =some v->V (Ghost.all w) y v
 top:((∀{w:World}{b0:Nat}{v:Value},Value.okWide P w .any b0 t v-> ∃cs,v=.agg cs/\cs.size=P.cellsOf t)/\ ∀a,(e a).isAgg=true)\/(n=1/\(∀a,(e a).cells=[e a])/\ ∀{w:World}{b0:Nat}{v:Value},Value.okWide P w .any b0 t v->v.cells.toList=[v])
def lm{α:Type}(m:α->Nat)(l:List α):Nat:=(l.map m).sum+1
def okL{α:Type}(ok:α->Prop)(l:List α):Prop:= ∀a∈l,ok a
def okI(k:IntKind)(n:Int):Prop:=(Lit.int k n).wf=true
section
open Go.Proofs.YtpbahncblggodaaGreat.Rows (uptoBulk uptoBulkAll)
variable {P:Program} {t:TypeId}
abbrev Bk:(H:Type)->DataW H->Nat:=λ_ d=>uptoBulk d
theorem Rdg.int(k:IntKind)(hu:P.underlying t=some (.int k))(hc:P.cellsOf t=1):Rdg Bk P t (AV.int k) 1 (okI k) (λ_=>1) where
 cells:=hc
 pos:=by decide
 size:=λ_=>rfl
 scal:=λa x hx=>by simp only[AV.cells,List.mem_singleton]at hx;subst hx;rfl
 mpos:=λ_=>Nat.le_refl _
 read:=λ{H enc w fuel cs x}h=>by
  obtain⟨n,rfl,rfl,hw⟩:=DataW.trod_int hu h
  refine⟨n,rfl,hw,by simp[uptoBulk],λi y v hy hv=>?_⟩
  cases i with
  |zero=>simp[AV.cells]at hy hv;subst hy;subst hv;exact .int k n
  |succ i=>simp at hv
 top:=.inr ⟨rfl,λ_=>rfl,λ{w b0 v}h=>by obtain⟨n,rfl⟩:=okWide_int hu h;rfl⟩
theorem Rdg.bool(hu:P.underlying t=some .bool)(hc:P.cellsOf t=1):Rdg Bk P t AV.bool 1 (λ_=>True) (λ_=>1) where
 cells:=hc
 pos:=by decide
 size:=λ_=>rfl
 scal:=λa x hx=>by simp only[AV.cells,List.mem_singleton]at hx;subst hx;rfl
 mpos:=λ_=>Nat.le_refl _
 read:=λ{H enc w fuel cs x}h=>by
  obtain⟨n,rfl,rfl⟩:=DataW.trod_bool hu h
  refine⟨n,rfl,trivial,by simp[uptoBulk],λi y v hy hv=>?_⟩
  cases i with
  |zero=>simp[AV.cells]at hy hv;subst hy;subst hv;exact .bool n
  |succ i=>simp at hv
 top:=.inr ⟨rfl,λ_=>rfl,λ{w b0 v}h=>by obtain⟨n,rfl⟩:=okWide_bool hu h;rfl⟩
theorem flat_get{esz:Nat}(h0:0<esz): ∀{l:List AV},(∀e∈l,e.cells.length=esz)-> ∀(k:Nat)(x:AV),(flat l)[k]? =some x-> ∃y,l[k / esz]? =some y/\y.cells[k%esz]? =some x
 | [],_,k,x,h=>by simp[flat]at h
 |a::r,hl,k,x,h=>by
  have ha:=hl a (by simp)
  simp only[flat,List.flatMap_cons]at h
  by_cases hk:k<esz
  ·rw[List.getElem?_append_left (by omega)]at h
   rw[Nat.div_eq_of_lt hk,Nat.mod_eq_of_lt hk]
   exact⟨a,rfl,h⟩
  ·rw[List.getElem?_append_right (by omega),ha]at h
   obtain⟨y,h1,h2⟩:=flat_get h0 (λe he=>hl e (by simp[he])) (k-esz) x h
   have e1:k / esz=(k-esz) / esz+1:=by rw[Nat.div_eq_sub_div h0 (by omega)]
   have e2:k%esz=(k-esz)%esz:=Nat.mod_eq_sub_mod (by omega)
   exact⟨y,by rw[e1];simpa using h1,by rw[e2];exact h2⟩
theorem Rdg.slice{e:TypeId}{α:Type}{en:α->AV}{n:Nat}{ok:α->Prop}{m:α->Nat}(r:Rdg Bk P e en n ok m)(hu:P.underlying t=some (.slice e))(hc:P.cellsOf t=1):
  Rdg Bk P t (SL en) 1 (okL ok) (lm m) where
 cells:=hc
 pos:=by decide
 size:=λ_=>rfl
 scal:=λa x hx=>by simp only[SL,AV.cells,List.mem_singleton]at hx;subst hx;rfl
 mpos:=λ_=>by simp[lm]
 read:=λ{H enc w fuel cs x}h=>by
  rcases open_slice hu h with⟨rfl,rfl⟩|⟨a,len,cap,mm,k,D,Pl,rfl,hb,hl,hm,hmm,rfl,hx⟩
  ·refine⟨[],rfl,(λa h=>by cases h),(by simp[lm,uptoBulk]),λi y v hy hv=>?_⟩
   cases i with
   |zero=>simp[SL,AV.cells]at hy hv;subst hy;subst hv;exact .slnil false none 0 (λ_=>rfl) (λ_=>rfl)
   |succ i=>simp at hv
  ·simp only[if_true]at hmm
   subst hmm
   have hel: ∀i,i<len-> ∃b:α,ok b/\m b<=uptoBulk (D i)/\ ∀(j:Nat)y,(en b).cells[j]? =some y-> ∃v,w.cell? ((a.add (i*n)).add j)=some v/\V (Ghost.all w) y v:=λi hi=>by
    obtain⟨cs',h1,h2⟩:=hx i (by omega)
    obtain⟨b,hlen,hok,hmb,hV⟩:=r.read h2
    refine⟨b,hok,hmb,λj y hy=>?_⟩
    rw[r.cells]at h1
    have hj:j<n:=by
     have:=(List.getElem?_eq_some_iff.1 hy).1
     rw[r.size]at this;exact this
    obtain⟨_,hl',hc'⟩:=World.cells?_some h1
    have hjl:j<cs'.length:=by omega
    have hcj:=hc' j hj
    rw[List.getElem?_eq_getElem hjl]at hcj
    exact⟨cs'[j],hcj,hV j y _ hy (List.getElem?_eq_getElem hjl)⟩
   obtain⟨B,hB⟩:=choose_list hel
   obtain⟨hBl,hB⟩:=hB
   refine⟨B,rfl,?_,?_,λi y v hy hv=>?_⟩
   ·intro b hb'
    obtain⟨i,hi,rfl⟩:=List.getElem_of_mem hb'
    exact(hB i (by omega) _ (List.getElem?_eq_getElem hi)).1
   ·have:(B.map m).sum<=uptoBulkAll ((List.range len).map D):=by
     have key: ∀(L:List α)(d:Nat->DataW H),(∀i b,L[i]? =some b->m b<=uptoBulk (d i))->(L.map m).sum<=uptoBulkAll ((List.range L.length).map d):=by
      intro L
      induction L with
      |nil=>intro d _;simp[uptoBulkAll]
      |cons b L ih=>
       intro d hd
       rw[List.length_cons,List.range_succ_eq_map]
       simp only[List.map_cons,List.sum_cons,uptoBulkAll,List.map_map]
       have h1:=hd 0 b rfl
       have h2:=ih (d∘Nat.succ) (λi b hb=>hd (i+1) b (by simpa using hb))
       omega
     have:=key B D (λi b hb=>(hB i (by have:=(List.getElem?_eq_some_iff.1 hb).1;omega) b hb).2.1)
     rwa[hBl]at this
    simp only[lm,uptoBulk]
    omega
   ·cases i with
    |succ i=>simp at hv
    |zero=>
     simp[SL,AV.cells]at hy hv;subst hy;subst hv
     by_cases h0:len=0
     ·subst h0
      have:B=[]:=List.eq_nil_of_length_eq_zero hBl
      subst this
      exact .slnil false (some a) mm (λh=>by cases h) (λh=>by cases h)
     ·have hsp:a.spot=none:=by
       obtain⟨b,_,_,hV⟩:=hel 0 (by omega)
       have hp:=r.pos
       obtain⟨v,hv,_⟩:=hV 0 ((en b).cells[0]'(by rw[r.size];exact hp)) (List.getElem?_eq_getElem _)
       simp only[Nat.zero_mul,Addr.add,if_true]at hv
       unfold World.cell? at hv
       split at hv
       ·split at hv
        ·cases hv
        ·rename_i h;cases hs:a.spot with
         |none=>rfl
         |some x=>rw[hs]at h;simp at h
       ·cases hv
      obtain⟨bk,off,spot⟩:=a
      simp only at hsp
      subst hsp
      have hadd: ∀i j:Nat,((⟨bk,off,none⟩:Addr).add i).add j=⟨bk,off+(i+j),none⟩:=λi j=>by
       unfold Addr.add
       by_cases h1:i=0<;>by_cases h2:j=0<;>simp[h1,h2,Nat.add_assoc]
      have hsz: ∀x∈B.map en,x.cells.length=n:=λx hx=>by
       obtain⟨b,_,rfl⟩:=List.mem_map.1 hx
       exact r.size b
      have hfl: ∀(k:Nat)(y:AV),(flat (B.map en))[k]? =some y-> ∃v,w.cell? ⟨bk,off+k,none⟩=some v/\V (Ghost.all w) y v:=λk y hy=>by
       obtain⟨z,h1,h2⟩:=flat_get r.pos hsz k y hy
       rw[List.getElem?_map]at h1
       cases hb':B[k / n]? with
       |none=>rw[hb']at h1;cases h1
       |some b=>
        rw[hb']at h1
        cases h1
        have hlt:k / n<len:=by have:=(List.getElem?_eq_some_iff.1 hb').1;omega
        obtain⟨v,hv1,hv2⟩:=(hB (k / n) hlt b hb').2.2 (k%n) y h2
        rw[hadd,Nat.div_add_mod']at hv1
        exact⟨v,hv1,hv2⟩
      have hflen:(flat (B.map en)).length=len*n:=by
       have key: ∀L:List AV,(∀x∈L,x.cells.length=n)->(flat L).length=L.length*n:=by
        intro L
        induction L with
        |nil=>intro _;simp[flat]
        |cons x L ih=>
         intro hL
         simp only[flat,List.flatMap_cons,List.length_append,List.length_cons]
         have:=ih λy hy=>hL y (by simp[hy])
         simp only[flat]at this
         rw[this,hL x (by simp),Nat.succ_mul,Nat.add_comm]
       rw[key _ hsz,List.length_map,hBl]
      have hval:=λk(hk:k<len*n)=>hfl k ((flat (B.map en))[k]'(by omega)) (List.getElem?_eq_getElem _)
      have hlen':(B.map en).length=len:=by rw[List.length_map,hBl]
      have:=V.sl (G:=Ghost.all w) false (B.map en) bk off n mm (λk=>(w.cell? ⟨bk,off+k,none⟩).getD undef) (by omega) (λh=>by cases h) hsz
       (λx hx=>by
        obtain⟨z,hz,hxz⟩:=List.mem_flatMap.1 hx
        obtain⟨b,_,rfl⟩:=List.mem_map.1 hz
        exact r.scal b x hxz)
       (λk hk=>by
        rw[hlen']at hk
        obtain⟨v,hv,_⟩:=hval k hk
        show w.cell? _=_
        rw[hv];rfl)
       (λk y hy=>by
        obtain⟨v,hv,hvv⟩:=hfl k y hy
        rw[hv];exact hvv)
      rw[hlen']at this
      exact this
 top:=.inr ⟨rfl,λ_=>rfl,λ{w b0 v}h=>by obtain⟨a,l,c,rfl⟩:=okWide_slice hu h;rfl⟩
where
 choose_list {α:Type} {len:Nat} {p:Nat->α->Prop} (h: ∀i,i<len-> ∃b,p i b): ∃B:List α,B.length=len/\ ∀i,i<len-> ∀b,B[i]? =some b->p i b:=by
  induction len with
  |zero=>exact⟨[],rfl,λi hi=>absurd hi (Nat.not_lt_zero _)⟩
  |succ len ih=>
   obtain⟨B,h1,h2⟩:=ih λi hi=>h i (Nat.lt_succ_of_lt hi)
   obtain⟨b,hb⟩:=h len (Nat.lt_succ_self _)
   refine⟨B++[b],by simp[h1],λi hi c hc=>?_⟩
   by_cases hl:i<len
   ·rw[List.getElem?_append_left (by omega)]at hc
    exact h2 i hl c hc
   ·have:i=len:=by omega
    subst this
    rw[List.getElem?_append_right (by omega),h1]at hc
    simp at hc
    subst hc
    exact hb
structure RdgF (P:Program) (o:Nat) (fs:List Field) {β:Type} (c:β->List AV) (n:Nat) (ok:β->Prop) (m:β->Nat):Prop where
 size: ∀b,(c b).length=n
 scal: ∀b,∀x∈c b,x.scalar=true
 read: ∀{H:Type}{enc:TypeId×Value->H}{w:World}{k:Nat}{cs:List Value}{xs:List (DataW H×List MemPlace)},cs.length=o+n->xs.length=fs.length->
  (∀(i:Nat)(f:Field),fs[i]? =some f->DataW.trod enc P w 0 (λ_=>true) true k f.type ((cs.drop f.offset).take (P.cellsOf f.type))=xs[i]?)->
  ∃b,ok b/\m b<=uptoBulkAll (xs.map (·.1))/\ ∀(i:Nat)y v,(c b)[i]? =some y->cs[o+i]? =some v->V (Ghost.all w) y v
theorem RdgF.nil{o:Nat}:RdgF P o [] (λ_:Unit=>[]) 0 (λ_=>True) (λ_=>0) where
 size:=λ_=>rfl
 scal:=λ_ x hx=>by cases hx
 read:=λ_ _ _=>⟨(),trivial,Nat.zero_le _,λi y v hy=>by simp at hy⟩
theorem RdgF.cons{o:Nat}{f:Field}{fs:List Field}{α β:Type}{en:α->AV}{n n':Nat}{ok:α->Prop}{m:α->Nat}{c:β->List AV}{ok':β->Prop}{m':β->Nat}(r:Rdg Bk P f.type en n ok m)(hf:f.offset=o)(q:RdgF P (o+n) fs c n' ok' m'):
  RdgF P o (f::fs) (λp:α×β=>(en p.1).cells++c p.2) (n+n') (λp=>ok p.1/\ok' p.2) (λp=>m p.1+m' p.2) where
 size:=λb=>by rw[List.length_append,r.size,q.size]
 scal:=λb x hx=>by
  rcases List.mem_append.1 hx with h|h
  ·exact r.scal _ _ h
  ·exact q.scal _ _ h
 read:=λ{H enc w k cs xs}hl hx h=>by
  cases xs with
  |nil=>simp at hx
  |cons x xs=>
   have h0:=h 0 f rfl
   simp only[List.getElem?_cons_zero,r.cells,hf]at h0
   obtain⟨a,e1,e2,e3,e4⟩:=r.read h0
   have e3:m a<=uptoBulk x.1:=e3
   obtain⟨b,g1,g2,g3⟩:=q.read (enc:=enc) (w:=w) (k:=k) (cs:=cs) (xs:=xs) (by omega) (by simpa using hx) (λi f' hf'=>by have:=h (i+1) f' (by simpa using hf');simpa using this)
   refine⟨(a,b),⟨e2,g1⟩,by simp only[List.map_cons,uptoBulkAll];omega,λi y v hy hv=>?_⟩
   have hs:=r.size a
   have hy:((en a).cells++c b)[i]? =some y:=hy
   by_cases hi:i<n
   ·rw[List.getElem?_append_left (by omega)]at hy
    refine e4 i y v hy ?_
    rw[List.getElem?_take,if_pos hi,List.getElem?_drop]
    exact hv
   ·rw[List.getElem?_append_right (by omega),hs]at hy
    exact g3 (i-n) y v hy (by rw[show o+n+(i-n)=o+i by omega];exact hv)
theorem Rdg.struct{fs:Array Field}{β α:Type}{c:β->List AV}{n:Nat}{okb:β->Prop}{mb:β->Nat}{en:α->AV}{ok:α->Prop}{m:α->Nat}(fl:List Field)(q:RdgF P 0 fl c n okb mb)(hu:P.underlying t=some (.struct fs))(hfl:fs.toList=fl)
  (hc:P.cellsOf t=n) (hp:0<n) (φ:β->α) (ψ:α->β) (he: ∀b,en (φ b)=.agg (c b)) (hφ: ∀a,φ (ψ a)=a) (hok: ∀b,okb b->ok (φ b)) (hm: ∀b,m (φ b)=mb b+1):Rdg Bk P t en n ok m where
 cells:=hc
 pos:=hp
 size:=λa=>by rw[<-hφ a,he];exact q.size _
 scal:=λa=>by rw[<-hφ a,he];exact q.scal _
 mpos:=λa=>by rw[<-hφ a,hm];omega
 read:=λ{H enc w k cs x}h=>by
  obtain⟨xs,k',rfl,rfl,hl,hx,hr⟩:=DataW.trod_struct hu h
  rw[hc]at hl
  obtain⟨b,g1,g2,g3⟩:=q.read (enc:=enc) (w:=w) (k:=k') (cs:=cs) (xs:=xs) (by omega) (by rw[hx,<-hfl];simp) (λi f hf=>hr i f (by rw[<-hfl]at hf;simpa using hf))
  refine⟨φ b,hl,hok b g1,by rw[hm];simp only[uptoBulk];omega,λi y v hy hv=>g3 i y v (by rw[he]at hy;exact hy) (by simpa using hv)⟩
 top:=.inl ⟨λh=>okWide_struct hu h,λa=>by rw[<-hφ a,he];rfl⟩
theorem Rdg.arg{α:Type}{en:α->AV}{n:Nat}{ok:α->Prop}{m:α->Nat}(r:Rdg Bk P t en n ok m){H:Type}{enc:TypeId×Value->H}{w:World}{v:Value}{d:DataW H}{ps:List MemPlace}{b0:Nat}(hv:Value.okWide P w .any b0 t v)
  (h:DataW.Trod enc P w 0 (λ_=>true) true t v d ps): ∃a,ok a/\m a<=uptoBulk d/\V (Ghost.all w) (en a) v:=by
 obtain⟨k,hk⟩:=h
 obtain⟨a,h1,h2,h3,h4⟩:=r.read hk
 refine⟨a,h2,h3,?_⟩
 rcases r.top with⟨hu,hag⟩|⟨_,hone,hcell⟩
 ·obtain⟨cs,rfl,hs⟩:=hu hv
  have ha:=hag a
  have hsz:=r.size a
  generalize he:en a=x at ha hsz h4 ⊢
  cases x<;>simp only[AV.isAgg]at ha<;>first|(cases ha;done)|skip
  rename_i l
  simp only[AV.cells]at hsz h4
  refine .agg l cs ?_ λi x y hx hy=>h4 i x y hx ?_
  ·rw[hsz,hs,r.cells]
  ·simpa[Value.cells]using hy
 ·rw[hcell hv]at h4
  rw[hone]at h4
  exact h4 0 _ _ rfl rfl
theorem VL.nil{G:Ghost}:VL G [] #[]:=⟨rfl,λi x y hx=>by simp at hx⟩
theorem VL.cons{G:Ghost}{x:AV}{v:Value}{xs:List AV}{vs:List Value}(h:V G x v)(hs:VL G xs vs.toArray):VL G (x::xs) (v::vs).toArray:=⟨by have:=hs.1;simp at this ⊢;omega,λi a b ha hb=>by
 cases i with
 |zero=>simp at ha hb;subst ha;subst hb;exact h
 |succ i=>exact hs.2 i a b (by simpa using ha) (by simpa using hb)⟩
end
end Go.Am
