/- The logic AM, R: walks on typed states: loops over functions and their rounds. -/
import Derived.Test.YtgpciecmgoppiaaGreatAmZ
set_option linter.all false
namespace Go.Am
open Go.RowKit
section
variable {B:iU} {P:Program} {N:Nat} {ρ:Option Nat} {Q:Exit->Env->St->Prop} {M:TM B.S} {α β:Type} {r:β}
def C0(B:iU)(P:Program)(id:Nat)(args:List (TV B.S))(H0:dH B.S)(X:α->TV B.S)(H1:α->dH B.S)(a:α):Prop:=
 ic P id (dY B.E args) (db B H0) λy t=>y=(X a).er B.E/\t=db B (H1 a)
def K7{S:Nat->Type}:List Tmp->List (TV S)->dB S->dB S
 |t::ts,x::xs,bf=>K7 ts xs (dM bf t x)
 |_,_,bf=>bf
theorem Jc: ∀{ts:List Tmp}{xs:List (TV B.S)}{bf:dB B.S},jP ts (dY B.E xs) (eI B bf)=eI B (K7 ts xs bf)
 | [],xs,bf=>by rfl
 |t::ts,[],bf=>by rfl
 |t::ts,x::xs,bf=>by simp only[dY,jP,K7,<-xw,Jc (ts:=ts)]
theorem Sz{c:Nat}{bf:dB B.S}{st:Nat}{pd:Option (Option Nat)}{H:dH B.S}{id:Nat}{b0:TB B.S}(hg:bn H.heap id=some b0)(h0:gi b0=false):db B ⟨dM H.heap id (.lp c bf st pd),H.bN⟩=iu (db B H) id ⟨eI B bf,(B.C c).n,(B.C c).ps,(B.C c).as,(B.C c).body,Cx st,G9 pd⟩:=by
 rw[rC hg h0 rfl];rfl
def Rh(B:iU)(P:Program)(c:Nat)(bf:dB B.S)(args:List (TV B.S))(H0:dH B.S):TM B.S×iV:=G B P (B.C c).n ⟨.run (B.C c).as,[],K7 (B.C c).ps args bf,H0⟩
theorem UL{n:Nat}{cd:Code}{bf:dB B.S}{s:dH B.S}(h5:(G B P n ⟨.run cd,[],bf,s⟩).2.map Prod.fst=(G B P n ⟨.run cd,[],bf,s⟩).2.map Prod.snd)
 (k:RT B P n ρ Q (G B P n ⟨.run cd,[],bf,s⟩).1):gY P n ρ cd Q (eI B bf) (db B s):=(sd h5 k).v
theorem Zv{id:Nat}(c:Nat)(bf:dB B.S){args:List (TV B.S)}{H0:dH B.S}{X:α->TV B.S}{H1:α->dH B.S}{a:α}
  (h:RT B P (B.C c).n (some id) (qs id (KH B H0.bN X H1 a)) ⟨.run (B.C c).body,[],(Rh B P c bf args H0).1.bf,⟨dM (Rh B P c bf args H0).1.s.heap id (.lp c bf 1 none),(Rh B P c bf args H0).1.s.bN⟩⟩)
  (hx:((Rh B P c bf args H0).1.o,(Rh B P c bf args H0).1.k,bn (Rh B P c bf args H0).1.s.heap id,(Rh B P c bf args H0).2.map Prod.fst,bn H0.heap id,Nat.beq args.length (B.C c).ps.length&&((B.C c).ps.all λt=>Nat.blt t (B.C c).n))=
   (.out .normal,[],some (.lp c bf 0 none),(Rh B P c bf args H0).2.map Prod.snd,some (.lp c bf 0 none),true):=by kernel_rfl):C0 B P id args H0 X H1 a:=by
 simp only[Prod.mk.injEq,eU]at hx;obtain⟨h0,h1,h2,h5,h6,h3,h4⟩:=hx;have hg:bn (db B H0).heap id=some (.loop ⟨eI B bf,(B.C c).n,(B.C c).ps,(B.C c).as,(B.C c).body,.ready,none⟩):=by
  rw[dl h6];rfl
 refine EG (Tt hg (by rw[iw];simp_all) (by simp_all) ?_);simp only;rw[Jc];refine UL (bf:=K7 (B.C c).ps args bf) (s:=H0) h5 ?_;unfold Rh at *;generalize(G B P (B.C c).n ⟨.run (B.C c).as,[],K7 (B.C c).ps args bf,H0⟩).1=g at *;obtain⟨o,k,xY,s2⟩:=g;simp only at h0 h1 h2 h;subst h0;subst h1;refine⟨?_⟩;have hg2:bn (db B s2).heap id=some (.loop ⟨eI B bf,(B.C c).n,(B.C c).ps,(B.C c).as,(B.C c).body,.ready,none⟩):=by
  rw[dl h2];rfl
 have h:gY P (B.C c).n (some id) (B.C c).body (qs id (KH B H0.bN X H1 a)) (eI B xY) (db B ⟨dM s2.heap id (.lp c bf 1 none),s2.bN⟩):=h.v;rw[Sz (H:=s2) h2 rfl]at h;have mono: ∀e bf s,qs id (KH B H0.bN X H1 a) e bf s->qs id (λy s=> ∃s1 y1 bG π S2 x2,(db B H0).bN<=bG/\pe s y s1 y1/\pN bG π S2 s1/\Co (fU bG S2.heap) π x2 y1/\x2=(X a).er B.E/\S2=db B (H1 a)) e bf s:=by
  intro e bf s hq;have key: ∀y s,KH B H0.bN X H1 a y s-> ∃s1 y1 bG π S2 x2,(db B H0).bN<=bG/\pe s y s1 y1/\pN bG π S2 s1/\Co (fU bG S2.heap) π x2 y1/\x2=(X a).er B.E/\S2=db B (H1 a):=by
   rintro y s ⟨s1,y1,zi,π,k1,k2,k3,k4⟩;exact⟨s1,y1,zi,π,_,_,k1,k2,k3,k4,rfl,rfl⟩
  cases e<;>simp only[qs]at hq |-
  all_goals grind
 exactλG w ac hn=>hn.after ⟨_,hg2,rfl,h.mono mono⟩
def XE:Exit->Option (Bool×Nat×Option (Option Nat))
 |.normal=>some (true,0,none)
 |.ret=>some (false,2,some none)
 |.exit i=>some (false,2,some (some i))
 |_=>none
def UM(B:iU)(id bG:Nat)(x:TV B.S)(S2:dH B.S)(M:TM B.S):Option iV:=match M.o with
 |.out e=>(match M.k with
  | []=>(match XE e with
   |some (b,st,pd)=>(match bn M.s.heap id with
    |some (.lp c bf _ _)=>NX B bG (N1 bG [(0,x)] S2 [(0,.a (.bool b))] ⟨dM M.s.heap id (.lp c bf st pd),M.s.bN⟩) [(0,x)] S2 [(0,.a (.bool b))] ⟨dM M.s.heap id (.lp c bf st pd),M.s.bN⟩
    |_=>none)
   |none=>none)
  |_=>none)
 |_=>none
theorem wK{id bG:Nat}{X:α->TV B.S}{H1:α->dH B.S}{x a:α}(h:some x=some a)(hx:((wJ (UM B id bG (X x) (H1 x) (G B P N M).1)).map Prod.fst,(G B P N M).2.map Prod.fst)=
   ((wJ (UM B id bG (X x) (H1 x) (G B P N M).1)).map Prod.snd,(G B P N M).2.map Prod.snd):=by kernel_rfl):RT B P N ρ (qs id (KH B bG X H1 a)) M:=by
 cases h;simp only[Prod.mk.injEq]at hx;obtain⟨h2,h3⟩:=hx;refine sd h3 ⟨?_⟩;obtain⟨q,hr,hq⟩:=zl (dW h2);generalize(G B P N M).1=g at *;obtain⟨o,k,bf,s⟩:=g;unfold UM at hr;split at hr
 ·rename_i e ho;simp only at ho;subst ho;split at hr
  ·rename_i hk;simp only at hk;subst hk;split at hr
   ·rename_i b st pd he;split at hr
    ·rename_i c ev LO pd0 hg;simp only at hr hg;have hI:=CS hr hq;obtain⟨z,LR,KQ⟩:=hI.bf 0 (((X x).er B.E)) (by rfl);have LR:z=.bool b:=by simp[eI,cG,TV.er]at LR;grind
     subst LR;have hK:KH B bG X H1 x (.bool b) (db B ⟨dM s.heap id (.lp c ev st pd),s.bN⟩):=⟨_,_,bG,_,fw _,pe.refl _ _,hI.st,KQ⟩;rw[Sz (H:=s) hg rfl]at hK;have hl:bn (db B s).heap id=some (.loop ⟨eI B ev,(B.C c).n,(B.C c).ps,(B.C c).as,(B.C c).body,Cx LO,G9 pd0⟩):=by
      rw[dl hg];rfl
     have fin:qs id (KH B bG X H1 x) e (eI B bf) (db B s):=by
      unfold XE at he;split at he<;>first|(cases he;done)|skip
      ·cases he;exact⟨_,hl,hK⟩
      ·cases he;exact⟨_,hl,hK⟩
      ·cases he;exact⟨_,hl,hK⟩
     exactλG w a hn=>hn.after fin
    ·cases hr
   ·cases hr
  ·cases hr
 ·cases hr
theorem K8{jr id:Nat}{cn args:List (TV B.S)}{H0 H1 s:dH B.S}{x:TV B.S}{Lp Lr:List (Nat×Nat)}{kh rest:List (Nat×TB B.S)}{ks:List Nat}(wu:rest=ln ks s.heap)
  (h:ic P jr (dY B.E cn) (db B H0) λy t=>y=x.er B.E/\t=db B H1)
  (hq: ∀p∈(py B Lp Lr kh rest (.a (.kK jr)::cn) H0 x H1 (.a (.kK id)::args) s).2.2,p.1=p.2):ic P id (dY B.E args) (db B s) λy t=>y=(py B Lp Lr kh rest (.a (.kK jr)::cn) H0 x H1 (.a (.kK id)::args) s).1.er B.E/\t=db B (py B Lp Lr kh rest (.a (.kK jr)::cn) H0 x H1 (.a (.kK id)::args) s).2.1:=by
 unfold py at hq |-
 simp only at hq |-
 cases hb:EI B Lp (uv H1.heap Lr) H0 H1 s kh rest (s.bN+(H1.bN-H0.bN))with
 |false=>
  simp_all
 |true=>
  rw[hb]at hq;simp only[cP]at hq;split at hq
  ·rename_i q h1;obtain⟨⟨q1,a1,e1⟩,q2,h2,e2⟩:=gp h1 hq;obtain⟨⟨q3,a2,e3⟩,q4,h3,e4⟩:=gp h2 e2;obtain⟨⟨q5,a3,e5⟩,q6,h4,e6⟩:=gp h3 e4;obtain⟨⟨q9,a4,e9⟩,q10,a7,e10⟩:=gp h4 e6;simp only[LS]at a1;obtain⟨⟨q7,a5,e7⟩,q8,a6,e8⟩:=gp a1 e1;have hy:Co (fU 0 (db B H0).heap) (pw Lp (jI Lp s.bN H0.heap)) (.kK jr) (.kK id):=jV a5 e7;cases hy with
   |c hc=>cases hc
   |y F9 DT=>
    subst DT;have nD:has (db B H0).heap jr=true:=by simpa[fU]using F9
    exact Ck h nD (Ja wu hb a3 e5 a4 e9 a7 e10) (nv (λ_ _ _=>jV) a6 e8) (jV a2 e3)
  simp_all
def Jd(B:iU)(jr:Nat)(cn:List (TV B.S))(H0:dH B.S)(x:TV B.S)(H1:dH B.S)(id:Nat)(args:List (TV B.S))(s:dH B.S):TV B.S×dH B.S×iV:=eQ B (.a (.kK jr)::cn) H0 x H1 (.a (.kK id)::args) s
theorem N7{jr id:Nat}{cn args:List (TV B.S)}{H0 H1 s:dH B.S}{x:TV B.S}(h:ic P jr (dY B.E cn) (db B H0) λy t=>y=x.er B.E/\t=db B H1)
 (hq: ∀p∈(Jd B jr cn H0 x H1 id args s).2.2,p.1=p.2):ic P id (dY B.E args) (db B s) λy t=>y=(Jd B jr cn H0 x H1 id args s).1.er B.E/\t=db B (Jd B jr cn H0 x H1 id args s).2.1:=K8 rfl h hq
def xE{S:Nat->Type}(op:Op)(bf:dB S):Option (Nat×List (TV S)):=match fW op with
 |some (f,a)=>match fp bf f with
  |some (.a (.kK id))=>match nU bf a with
   |some l=>some (id,l)
   |none=>none
  |_=>none
 |none=>none
def mC(B:iU)(M:TM B.S):Option (Nat×List (TV B.S)):=match M.o with
 |.ro l _=>(match l with
  |i::_=>match Gc B i.guard M.bf with
   |.go=>xE i.op M.bf
   |_=>none
  | []=>none)
 |.rd l _ _=>(match l with
  |⟨.gz _ _,some i,sl⟩::_=>match Gc B i.guard M.bf with
   |.go=>xE i.op (lD sl M.bf)
   |_=>none
  |_=>none)
 |_=>none
def iOf{S:Nat->Type}(o:Option (Nat×List (TV S))):Nat:=match o with
 |some (i,_)=>i
 |none=>0
theorem zo{op:Op}{bf:dB B.S}{id:Nat}{l:List (TV B.S)}{s:St}{K:AV->St->Prop}(h:xE op bf=some (id,l))(hp:ic P id (dY B.E l) s K):ows P op K (eI B bf) s:=by
 unfold xE at h;unfold ows;split at h
 ·rename_i f a hc;split at h
  ·rename_i fq hf;split at h
   ·rename_i l' hl;cases h;simp only[hc,ee,hf,iJ,lC,hl,TV.er];exact hp
   ·cases h
  ·cases h
 ·cases h
theorem K9{id:Nat}{l:List (TV B.S)}{v:TV B.S}{s':dH B.S}(h:mC B M=some (id,l))(hp:ic P id (dY B.E l) (db B M.s) λy t=>y=v.er B.E/\t=db B s')(hq: ∀p∈j0 B P M s',p.1=p.2)
  (hk:kU B P N ρ Q (sf B M v s')):kU B P N ρ Q M:=by
 obtain⟨o,k,bf,s⟩:=M;unfold mC at h;split at h
 ·rename_i l0 y ho;simp only at ho;subst ho;split at h
  ·rename_i i l1;split at h
   ·rename_i hg;show DQ _ _ _ _;refine yU (B:=B) ?_;simp only at hg;rw[hg];have hk:oC P (YK P N ρ Q k y) l1 (eI B (jh i.dst v bf)) (db B s'):=hk;rw[iI]at hk;exact .inl (zo h (ic.mono (f:=id) hp λy t ⟨e1,e2⟩=>by grind))
   ·cases h
  ·cases h
 ·rename_i l0 n y ho;simp only at ho;subst ho;split at h
  ·rename_i j c i sl l1;split at h
   ·rename_i hg;intro hn;show Dw _ _ _ _;refine rG (B:=B) ?_;simp only at hg;rw[hg];have hk:dq P (YK P N ρ Q k y) l1 (vH B (wD B n)) (eI B (jh i.dst v bf)) (db B s'):=hk (rI hn);rw[iI,rH]at hk;have hc:rZ P (vH B n) (db B s') c:=by
     unfold j0 at hq;simp only at hq;split at hq
     ·grind [nH]
     simp_all
    have:=zo (K:=λv s'=>rZ P (vH B n) s' c/\dq P (YK P N ρ Q k y) l1 (vH B n) (eH i.dst v (eI B bf)) s') h (ic.mono (f:=id) hp λy t ⟨e1,e2⟩=>by grind);rw[kV]at this;exact .inl this
   ·cases h
  ·cases h
 ·cases h
def nX(B:iU)(jr:Nat)(cn:List (TV B.S))(H0:dH B.S)(x:TV B.S)(H1:dH B.S)(m:TM B.S):TV B.S×dH B.S×iV:=Jd B jr cn H0 x H1 (iOf (mC B m)) (nV (mC B m)) m.s
theorem Hv{a:α}{jr:Nat}{cn:List (TV B.S)}{H0:dH B.S}{X:α->TV B.S}{H1:α->dH B.S}(hf:C0 B P jr cn H0 X H1 a)
  (k:RT B P N ρ Q (sf B (G B P N M).1 (nX B jr cn H0 (X a) (H1 a) (G B P N M).1).1 (nX B jr cn H0 (X a) (H1 a) (G B P N M).1).2.1))
  (hx:((mC B (G B P N M).1).isSome,(nX B jr cn H0 (X a) (H1 a) (G B P N M).1).2.2.map Prod.fst,(j0 B P (G B P N M).1 (nX B jr cn H0 (X a) (H1 a) (G B P N M).1).2.1).map Prod.fst,(G B P N M).2.map Prod.fst)=
   (true,(nX B jr cn H0 (X a) (H1 a) (G B P N M).1).2.2.map Prod.snd,(j0 B P (G B P N M).1 (nX B jr cn H0 (X a) (H1 a) (G B P N M).1).2.1).map Prod.snd,(G B P N M).2.map Prod.snd)):RT B P N ρ Q M:=by
 simp only[Prod.mk.injEq]at hx;obtain⟨h0,h1,h2,h3⟩:=hx;refine sd h3 ⟨?_⟩;have hk:=k.v;unfold nX at h1 h2 hk;generalize(G B P N M).1=m at *;cases hc:mC B m with
 |none=>grind
 |some p=>
  obtain⟨id,l⟩:=p;rw[hc]at h1 h2 hk;exact K9 hc (N7 hf (dW h1)) (dW h2) hk
theorem UN{o:Option α}{K:α->Option β}{jr:Nat}{cn:List (TV B.S)}{H0:dH B.S}{X:α->TV B.S}{H1:α->dH B.S}(h:o.bind K=some r)(hf: ∀a,o=some a->C0 B P jr cn H0 X H1 a)
  (k: ∀a,o=some a->K a=some r->RT B P N ρ Q (sf B (G B P N M).1 (nX B jr cn H0 (X a) (H1 a) (G B P N M).1).1 (nX B jr cn H0 (X a) (H1 a) (G B P N M).1).2.1))
  (hx: ∀a,((mC B (G B P N M).1).isSome,(nX B jr cn H0 (X a) (H1 a) (G B P N M).1).2.2.map Prod.fst,(j0 B P (G B P N M).1 (nX B jr cn H0 (X a) (H1 a) (G B P N M).1).2.1).map Prod.fst,(G B P N M).2.map Prod.fst)=
   (true,(nX B jr cn H0 (X a) (H1 a) (G B P N M).1).2.2.map Prod.snd,(j0 B P (G B P N M).1 (nX B jr cn H0 (X a) (H1 a) (G B P N M).1).2.1).map Prod.snd,(G B P N M).2.map Prod.snd):=by intro a;kernel_rfl):RT B P N ρ Q M:=
 let⟨a,ha,hK⟩:=lY h
 Hv (hf a ha) (k a ha hK) (hx a)
theorem Je{uw:Type}{o:Option (α⊕uw)}{K:α->Option β}{K':uw->Option β}{jr:Nat}{cn:List (TV B.S)}{H0:dH B.S}{X:α->TV B.S}{X':uw->TV B.S}{H1:α->dH B.S}{nW:uw->dH B.S}(h:o.bind (Sum.elim K K')=some r)
  (hf: ∀a,o=some a->C0 B P jr cn H0 (Sum.elim X X') (Sum.elim H1 nW) a)
  (k: ∀a,o=some (.inl a)->K a=some r->RT B P N ρ Q (sf B (G B P N M).1 (nX B jr cn H0 (X a) (H1 a) (G B P N M).1).1 (nX B jr cn H0 (X a) (H1 a) (G B P N M).1).2.1))
  (k': ∀a,o=some (.inr a)->K' a=some r->RT B P N ρ Q (sf B (G B P N M).1 (nX B jr cn H0 (X' a) (nW a) (G B P N M).1).1 (nX B jr cn H0 (X' a) (nW a) (G B P N M).1).2.1))
  (hx: ∀a,((mC B (G B P N M).1).isSome,(nX B jr cn H0 (X a) (H1 a) (G B P N M).1).2.2.map Prod.fst,(j0 B P (G B P N M).1 (nX B jr cn H0 (X a) (H1 a) (G B P N M).1).2.1).map Prod.fst,(G B P N M).2.map Prod.fst)=
   (true,(nX B jr cn H0 (X a) (H1 a) (G B P N M).1).2.2.map Prod.snd,(j0 B P (G B P N M).1 (nX B jr cn H0 (X a) (H1 a) (G B P N M).1).2.1).map Prod.snd,(G B P N M).2.map Prod.snd):=by intro a;kernel_rfl)
  (Aw: ∀a,((mC B (G B P N M).1).isSome,(nX B jr cn H0 (X' a) (nW a) (G B P N M).1).2.2.map Prod.fst,(j0 B P (G B P N M).1 (nX B jr cn H0 (X' a) (nW a) (G B P N M).1).2.1).map Prod.fst,(G B P N M).2.map Prod.fst)=
   (true,(nX B jr cn H0 (X' a) (nW a) (G B P N M).1).2.2.map Prod.snd,(j0 B P (G B P N M).1 (nX B jr cn H0 (X' a) (nW a) (G B P N M).1).2.1).map Prod.snd,(G B P N M).2.map Prod.snd):=by intro a;kernel_rfl):RT B P N ρ Q M:=by
 obtain⟨a,ha,hK⟩:=lY h
 grind [Hv]
theorem N8{c:Code}{k:List Fr}{bf:Env}{s:St}(h:gY P N ρ c (λe bf s=>vE P N ρ Q ⟨.out e,k,bf,s⟩) bf s):gY P N ρ c (QK P N ρ Q k) bf s:=by
 intro G w a hn;refine wpIn_mono (h G w a hn) ?_;rintro e2 a2 w2 ⟨G',env',s2,n',x',hk⟩;obtain⟨G3,Qj,s3,n3,x3,q3⟩:=hk G' w2 a2 n';exact⟨G3,Qj,s3,n3,x'.trans hn.iB x3,q3⟩
def PQ(P:Program)(N:Nat)(cZ:List Nat){S:Nat->Type}(M:TM S):Option (FuncId×List (TV S)×yL):=match M.o with
 |.run c=>(match c with
  |.rangeFunc g ps as body=>(match fp (l7 cZ M.bf) g with
   |some (.fn gf fi)=>bif enters P gf then some (gf,fi,⟨N,ps.toList,as,body⟩)else none
   |_=>none)
  |_=>none)
 |_=>none
def SA{S:Nat->Type}(o:Option (FuncId×List (TV S)×yL)):Option (FuncId×yL):=o.map λp=>(p.1,p.2.2)
def XF{S:Nat->Type}(o:Option (FuncId×List (TV S)×yL)):List (TV S):=match o with
 |some (_,l,_)=>l
 |none=>[]
def EL(ρ:Option Nat):Nat:=match ρ with
 |none=>1
 |some _=>0
def UO(S:Nat->Type)(ρ:Option Nat)(n:Nat):List (Nat×TB S):=match ρ with
 |none=>[(n,.raw .gq)]
 |some _=>[]
def UP(ρ:Option Nat)(cZ:List Nat)(c:Nat){S:Nat->Type}(M:TM S):dH S:=⟨(M.s.bN+EL ρ,.lp c (l7 cZ M.bf) 0 none)::M.s.heap,M.s.bN+EL ρ+1⟩
def SB(ρ:Option Nat){S:Nat->Type}(s:dH S):Bool:=match ρ with
 |none=>true
 |some id=>(match bn s.heap id with
  |some (.lp _ _ _ _)=>true
  |_=>false)
def PR{S:Nat->Type}(y:Nat)(s':dH S):Option Exit:=match bn s'.heap y with
 |some (.lp _ _ st pd)=>bif Nat.beq st 1||!(ia s'.heap y)then none else(match pd with
  |none=>some .normal
  |some none=>some .ret
  |some (some i)=>some (.exit i))
 |_=>none
def SC(ρ:Option Nat)(cZ:List Nat){S:Nat->Type}(M:TM S)(s':dH S):TM S:=⟨match PR (M.s.bN+EL ρ) s' with
 |some e=>.out e
 |none=>M.o,M.k,l7 cZ M.bf,⟨UO S ρ M.s.bN++dZ s'.heap (M.s.bN+EL ρ),s'.bN⟩⟩
def ux(B:iU)(P:Program)(N:Nat)(ρ:Option Nat)(cZ:List Nat)(c:Nat)(cn:List (TV B.S))(H0:dH B.S)(x:TV B.S)(H1:dH B.S)(M:TM B.S):TV B.S×dH B.S×iV:=
 eQ B cn H0 x H1 (.a (.kK (M.s.bN+EL ρ))::XF (PQ P N cZ M)) (UP ρ cZ c M)
theorem vJ{bf:dB B.S}: ∀{l:List Nat}{t:Nat}{x:TV B.S},bn (l7 l bf) t=some x->bn bf t=some x
 | [],t,x,h=>by simp[l7,df]at h
 |k::r,t,x,h=>by
  unfold l7 at h;split at h
  ·rename_i y hy;simp only[cG]at h;split at h
   ·rename_i e;subst e;cases h;exact hy
   ·exact vJ h
  ·exact vJ h
theorem XG{y:Nat}{s':dH B.S}{e:Exit}{k:List Fr}{bf:Env}{mk:List (Nat×TB B.S)}(SD:mN B mk=[])(he:PR y s'=some e)(h:vE P N ρ Q ⟨.out e,k,bf,db B ⟨mk++dZ s'.heap y,s'.bN⟩⟩):
  Ch P N ρ (λe bf s=>vE P N ρ Q ⟨.out e,k,bf,s⟩) bf y (kS B mk) (db B s'):=by
 unfold PR at he;split at he
 ·rename_i c ev st pd hg;have hl:bn (db B s').heap y=some (.loop ⟨eI B ev,(B.C c).n,(B.C c).ps,(B.C c).as,(B.C c).body,Cx st,G9 pd⟩):=by
   rw[dl hg];rfl
  cases hb:Nat.beq st 1||!(ia s'.heap y)with
  |true=>grind
  |false=>
   rw[hb]at he;simp only[dv]at he;rw[J3,zD4]at hb;obtain⟨hb,hd⟩:=hb;have aaS: ∀{a b:List (Nat×TB B.S)},mN B (a++b)=mN B a++mN B b:=by
    intro a
    induction a with
    |nil=>intro b;rfl
    |cons p r ih=>intro b;obtain⟨k,x⟩:=p;simp only[Al,mN,ih,LZ]
   have hs:db B ⟨mk++dZ s'.heap y,s'.bN⟩=⟨kS B mk++dZ (db B s').heap y,(db B s').bN⟩:=by
    have:=lS (n:=s'.bN) hd;simp only[db,St.mk.injEq]at this;simp only[db,Hs,aaS,SD,xm,LZ,this.1]
   rw[hs]at h;refine⟨_,hl,?_,?_⟩
   ·intro e2;have:Cx st=.busy:=e2;unfold Cx at this;split at this
    all_goals simp_all
   ·split at he
    ·cases he;exact h
    ·cases he;exact Ij h
    ·cases he;exactλG w a hn=>wpIn_exit (hn.after h)
 ·cases he
theorem rfv{a:α}{gf:FuncId}{cn:List (TV B.S)}{H0:dH B.S}{X:α->TV B.S}{H1:α->dH B.S}(cZ:List Nat)(c:Nat)(hf:cI B P gf cn H0 X H1 a)
  (k:RT B P N ρ Q (SC ρ cZ (G B P N M).1 (ux B P N ρ cZ c cn H0 (X a) (H1 a) (G B P N M).1).2.1))
  (hx:(SA (PQ P N cZ (G B P N M).1),SB ρ (G B P N M).1.s&&(PR ((G B P N M).1.s.bN+EL ρ) (ux B P N ρ cZ c cn H0 (X a) (H1 a) (G B P N M).1).2.1).isSome,(ux B P N ρ cZ c cn H0 (X a) (H1 a) (G B P N M).1).2.2.map Prod.fst,(G B P N M).2.map Prod.fst)=
   (some (gf,B.C c),true,(ux B P N ρ cZ c cn H0 (X a) (H1 a) (G B P N M).1).2.2.map Prod.snd,(G B P N M).2.map Prod.snd)):RT B P N ρ Q M:=by
 simp only[Prod.mk.injEq,eU]at hx;obtain⟨h0,⟨h1,h2⟩,h3,h4⟩:=hx;refine sd h4 ⟨?_⟩;have hk:=k.v;unfold ux at h2 h3 hk;generalize(G B P N M).1=m at *;obtain⟨o,kk,bf,s⟩:=m;cases hA:PQ P N cZ (⟨o,kk,bf,s⟩:TM B.S)with
 |none=>rw[hA]at h0;cases h0
 |some p=>
  obtain⟨gf',fi,lc⟩:=p;rw[hA]at h0 h2 h3 hk;simp only[SA,iJ,Option.some.injEq,Prod.mk.injEq]at h0;obtain⟨e1,e2⟩:=h0;subst e1;simp only[XF]at h2 h3 hk;unfold PQ at hA;split at hA
  ·rename_i cd ho;simp only at ho;subst ho;split at hA
   ·rename_i g ps as body;split at hA
    ·rename_i gf2 SE hg;cases he:enters P gf2 with
     |false=>grind
     |true=>
      simp only[he,cP,Option.some.injEq,Prod.mk.injEq]at hA;obtain⟨a1,a2,a3⟩:=hA;subst a1;subst a2;subst a3;obtain⟨e,hE⟩:=Ar.1 h2;have hc:=EK (s:=UP ρ cZ c (⟨.run (.rangeFunc g ps as body),kk,bf,s⟩:TM B.S)) (args:=.a (.kK (s.bN+EL ρ))::SE) hf (dW h3);generalize eQ B cn H0 (X a) (H1 a) (.a (.kK (s.bN+EL ρ))::SE) (UP ρ cZ c ⟨.run (.rangeFunc g ps as body),kk,bf,s⟩)=R at *;obtain⟨v,s',q⟩:=R;simp only at hE hc hk;unfold SC at hk;simp only[hE]at hk;have hk:vE P N ρ Q ⟨.out e,kk,eI B (l7 cZ bf),db B ⟨UO B.S ρ s.bN++dZ s'.heap (s.bN+EL ρ),s'.bN⟩⟩:=hk;have Ri:=XG (mk:=UO B.S ρ s.bN) (by cases ρ<;>rfl) hE hk;have Zw:=ee (B:=B) (bf:=l7 cZ bf) (x:=g);rw[hg]at Zw;simp only[iJ,TV.er]at Zw;have xa: ∀t x,bn (eI B (l7 cZ bf)) t=some x->bn (eI B bf) t=some x:=λt x hx=>by
       rw[lR]at hx |-
       obtain⟨y,hy,e3⟩:=L2.1 hx;rw[vJ hy]
       grind
      have hS:vE P N ρ Q ⟨.run (.rangeFunc g ps as body),kk,eI B (l7 cZ bf),db B s⟩:=by
       refine N8 ?_;cases ρ with
       |none=>
        refine AB Zw he ?_;have eS:db B (UP none cZ c (⟨.run (.rangeFunc g ps as body),kk,bf,s⟩:TM B.S))=⟨((db B s).bN+1,.loop ⟨eI B (l7 cZ bf),N,ps.toList,as,body,.ready,none⟩)::(db B s).heap,(db B s).bN+2⟩:=by
         simp only[UP,EL,db,kS,mN,eP,fT,<-e2,Cx,G9,xm,Al]
        rw[eS]at hc;exact hc.mono λy t ht=>by obtain⟨_,ht⟩:=ht;subst ht;exact Ri
       |some jr=>
        simp only[SB]at h1;split at h1
        ·rename_i cc ev st pd hg0;have LM:bn (db B s).heap jr=some (.loop ⟨eI B ev,(B.C cc).n,(B.C cc).ps,(B.C cc).as,(B.C cc).body,Cx st,G9 pd⟩):=by
          rw[dl hg0];rfl
         refine yz LM Zw he ?_;have eS:db B (UP (some jr) cZ c (⟨.run (.rangeFunc g ps as body),kk,bf,s⟩:TM B.S))=⟨((db B s).bN,.loop ⟨eI B (l7 cZ bf),N,ps.toList,as,body,.ready,none⟩)::(db B s).heap,(db B s).bN+1⟩:=by
          simp only[UP,EL,db,kS,mN,eP,fT,<-e2,Cx,G9,F0,xm,Al]
         rw[eS]at hc;exact hc.mono λy t ht=>by obtain⟨_,ht⟩:=ht;subst ht;exact Ri
        ·cases h1
      exact qC (bG:=s.bN) (fw _) (Nb xa ⟨λ_ _ h=>h,fw _,λ_ h=>h⟩ G7.refl) hS
    ·cases hA
   ·cases hA
  ·cases hA
theorem tRF{o:Option α}{K:α->Option β}{gf:FuncId}{cn:List (TV B.S)}{H0:dH B.S}{X:α->TV B.S}{H1:α->dH B.S}(h:o.bind K=some r)(cZ:List Nat)(c:Nat)(hf: ∀a,o=some a->cI B P gf cn H0 X H1 a)
  (k: ∀a,o=some a->K a=some r->RT B P N ρ Q (SC ρ cZ (G B P N M).1 (ux B P N ρ cZ c cn H0 (X a) (H1 a) (G B P N M).1).2.1))
  (hx: ∀a,(SA (PQ P N cZ (G B P N M).1),SB ρ (G B P N M).1.s&&(PR ((G B P N M).1.s.bN+EL ρ) (ux B P N ρ cZ c cn H0 (X a) (H1 a) (G B P N M).1).2.1).isSome,(ux B P N ρ cZ c cn H0 (X a) (H1 a) (G B P N M).1).2.2.map Prod.fst,(G B P N M).2.map Prod.fst)=
   (some (gf,B.C c),true,(ux B P N ρ cZ c cn H0 (X a) (H1 a) (G B P N M).1).2.2.map Prod.snd,(G B P N M).2.map Prod.snd):=by intro a;kernel_rfl):RT B P N ρ Q M:=
 let⟨a,ha,hK⟩:=lY h
 rfv cZ c (hf a ha) (k a ha hK) (hx a)
theorem XH{uw:Type}{o:Option (α⊕uw)}{K:α->Option β}{K':uw->Option β}{gf:FuncId}{cn:List (TV B.S)}{H0:dH B.S}{X:α->TV B.S}{X':uw->TV B.S}{H1:α->dH B.S}{nW:uw->dH B.S}(h:o.bind (Sum.elim K K')=some r)(cZ:List Nat)(c:Nat)
  (hf: ∀a,o=some a->cI B P gf cn H0 (Sum.elim X X') (Sum.elim H1 nW) a)
  (k: ∀a,o=some (.inl a)->K a=some r->RT B P N ρ Q (SC ρ cZ (G B P N M).1 (ux B P N ρ cZ c cn H0 (X a) (H1 a) (G B P N M).1).2.1))
  (k': ∀a,o=some (.inr a)->K' a=some r->RT B P N ρ Q (SC ρ cZ (G B P N M).1 (ux B P N ρ cZ c cn H0 (X' a) (nW a) (G B P N M).1).2.1))
  (hx: ∀a,(SA (PQ P N cZ (G B P N M).1),SB ρ (G B P N M).1.s&&(PR ((G B P N M).1.s.bN+EL ρ) (ux B P N ρ cZ c cn H0 (X a) (H1 a) (G B P N M).1).2.1).isSome,(ux B P N ρ cZ c cn H0 (X a) (H1 a) (G B P N M).1).2.2.map Prod.fst,(G B P N M).2.map Prod.fst)=
   (some (gf,B.C c),true,(ux B P N ρ cZ c cn H0 (X a) (H1 a) (G B P N M).1).2.2.map Prod.snd,(G B P N M).2.map Prod.snd):=by intro a;kernel_rfl)
  (Aw: ∀a,(SA (PQ P N cZ (G B P N M).1),SB ρ (G B P N M).1.s&&(PR ((G B P N M).1.s.bN+EL ρ) (ux B P N ρ cZ c cn H0 (X' a) (nW a) (G B P N M).1).2.1).isSome,(ux B P N ρ cZ c cn H0 (X' a) (nW a) (G B P N M).1).2.2.map Prod.fst,(G B P N M).2.map Prod.fst)=
   (some (gf,B.C c),true,(ux B P N ρ cZ c cn H0 (X' a) (nW a) (G B P N M).1).2.2.map Prod.snd,(G B P N M).2.map Prod.snd):=by intro a;kernel_rfl):RT B P N ρ Q M:=by
 obtain⟨a,ha,hK⟩:=lY h
 grind [rfv]
def Rj(P:Program)(f k:Nat):yL:=match T9 (yH (cF P f)) k with
 |.rangeFunc _ ps a b=>⟨nF P f,ps.toList,a,b⟩
 |_=>⟨0,[],.skip,.skip⟩
end
end Go.Am
