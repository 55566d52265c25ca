/- The logic AM, R: walks on typed states: loops over functions and their rounds. -/
import Derived.Test.YtfdnjgoegamonaaGreatDoorAmZ
set_option linter.all false
namespace Go.Am
open Go.RowKit
section
variable {B:jg} {P:Program} {N:Nat} {ρ:Option Nat} {Q:Exit->Env->St->Prop} {M:TM B.S} {α β:Type} {r:β}
def uJ(B:jg)(P:Program)(id:Nat)(args:List (TV B.S))(H0:dZ B.S)(X:α->TV B.S)(H1:α->dZ B.S)(a:α):Prop:=
 jk P id (eB B.E args) (dA B H0) λy t=>y=(X a).er B.E/\t=dA B (H1 a)
def EZ{S:Nat->Type}:List Tmp->List (TV S)->dU S->dU S
 |t::ts,x::xs,bX=>EZ ts xs (eF bX t x)
 |_,_,bX=>bX
theorem Jb: ∀{ts:List Tmp}{xs:List (TV B.S)}{bX:dU B.S},iU ts (eB B.E xs) (eY B bX)=eY B (EZ ts xs bX)
 | [],xs,bX=>by cases xs<;>simp[iU,EZ,eB]
 |t::ts,[],bX=>by simp[iU,EZ,eB]
 |t::ts,x::xs,bX=>by simp only[eB,iU,EZ,<-xO,Jb (ts:=ts)]
theorem RW{c:Nat}{bX:dU B.S}{st:Nat}{pd:Option (Option Nat)}{H:dZ B.S}{id:Nat}{b0:TB B.S}(hg:bJ H.heap id=some b0)(h0:gm b0=false):dA B ⟨eF H.heap id (.lp c bX st pd),H.cr⟩=iB (dA B H) id ⟨eY B bX,(B.C c).n,(B.C c).ps,(B.C c).as,(B.C c).body,CL st,Ha pd⟩:=by
 rw[rP hg h0 rfl];rfl
def Qy(B:jg)(P:Program)(c:Nat)(bX:dU B.S)(args:List (TV B.S))(H0:dZ B.S):TM B.S×jh:=G B P (B.C c).n ⟨.run (B.C c).as,[],EZ (B.C c).ps args bX,H0⟩
theorem T3{n:Nat}{cd:Code}{bX:dU B.S}{s:dZ B.S}(h5:(G B P n ⟨.run cd,[],bX,s⟩).2.map Prod.fst=(G B P n ⟨.run cd,[],bX,s⟩).2.map Prod.snd)
 (k:RT B P n ρ Q (G B P n ⟨.run cd,[],bX,s⟩).1):mu P n ρ cd Q (eY B bX) (dA B s):=(qT h5 k).v
theorem YY{id:Nat}(c:Nat)(bX:dU B.S){args:List (TV B.S)}{H0:dZ B.S}{X:α->TV B.S}{H1:α->dZ B.S}{a:α}
  (h:RT B P (B.C c).n (some id) (qI id (KH B H0.cr X H1 a)) ⟨.run (B.C c).body,[],(Qy B P c bX args H0).1.bX,⟨eF (Qy B P c bX args H0).1.s.heap id (.lp c bX 1 none),(Qy B P c bX args H0).1.s.cr⟩⟩)
  (hx:((Qy B P c bX args H0).1.o,(Qy B P c bX args H0).1.k,bJ (Qy B P c bX args H0).1.s.heap id,(Qy B P c bX args H0).2.map Prod.fst,bJ H0.heap id,Nat.beq args.length (B.C c).ps.length&&((B.C c).ps.all λt=>Nat.blt t (B.C c).n))=
   (.out .normal,[],some (.lp c bX 0 none),(Qy B P c bX args H0).2.map Prod.snd,some (.lp c bX 0 none),true):=by kernel_rfl):uJ B P id args H0 X H1 a:=by
 simp only[Prod.mk.injEq,fE]at hx;obtain⟨h0,h1,h2,h5,h6,h3,h4⟩:=hx;have hg:bJ (dA B H0).heap id=some (.loop ⟨eY B bX,(B.C c).n,(B.C c).ps,(B.C c).as,(B.C c).body,.ready,none⟩):=by
  rw[dE h6];rfl
 refine EU (SS hg (by rw[im];exact jn h3) (by simpa[ru]using h4) ?_);simp only;rw[Jb];refine T3 (bX:=EZ (B.C c).ps args bX) (s:=H0) h5 ?_;unfold Qy at *;generalize(G B P (B.C c).n ⟨.run (B.C c).as,[],EZ (B.C c).ps args bX,H0⟩).1=g at *;obtain⟨o,k,vy,s2⟩:=g;simp only at h0 h1 h2 h;subst h0;subst h1;refine⟨?_⟩;have hg2:bJ (dA B s2).heap id=some (.loop ⟨eY B bX,(B.C c).n,(B.C c).ps,(B.C c).as,(B.C c).body,.ready,none⟩):=by
  rw[dE h2];rfl
 have h:mu P (B.C c).n (some id) (B.C c).body (qI id (KH B H0.cr X H1 a)) (eY B vy) (dA B ⟨eF s2.heap id (.lp c bX 1 none),s2.cr⟩):=h.v;rw[RW (H:=s2) h2 rfl]at h;have mono: ∀e bX s,qI id (KH B H0.cr X H1 a) e bX s->qI id (λy s=> ∃s1 y1 cn π S2 x2,(dA B H0).cr<=cn/\sD s y s1 y1/\qK cn π S2 s1/\Co (gR cn S2.heap) π x2 y1/\x2=(X a).er B.E/\S2=dA B (H1 a)) e bX s:=by
  intro e bX s hq;have key: ∀y s,KH B H0.cr X H1 a y s-> ∃s1 y1 cn π S2 x2,(dA B H0).cr<=cn/\sD s y s1 y1/\qK cn π S2 s1/\Co (gR cn S2.heap) π x2 y1/\x2=(X a).er B.E/\S2=dA B (H1 a):=by
   rintro y s ⟨s1,y1,zy,π,k1,k2,k3,k4⟩;exact⟨s1,y1,zy,π,_,_,k1,k2,k3,k4,rfl,rfl⟩
  cases e<;>simp only[qI]at hq |-
  ·obtain⟨l,hl,hk⟩:=hq;exact⟨l,hl,key _ _ hk⟩
  ·obtain⟨l,hl,hk⟩:=hq;exact⟨l,hl,key _ _ hk⟩
  ·obtain⟨l,hl,hk⟩:=hq;exact⟨l,hl,key _ _ hk⟩
 exactλG w ac hn=>hn.after ⟨_,hg2,rfl,h.mono mono⟩
def Xd:Exit->Option (Bool×Nat×Option (Option Nat))
 |.normal=>some (true,0,none)
 |.ret=>some (false,2,some none)
 |.exit i=>some (false,2,some (some i))
 |_=>none
def T4(B:jg)(id cn:Nat)(x:TV B.S)(S2:dZ B.S)(M:TM B.S):Option jh:=match M.o with
 |.out e=>(match M.k with
  | []=>(match Xd e with
   |some (b,st,pd)=>(match bJ M.s.heap id with
    |some (.lp c bX _ _)=>Nk B cn (Nq cn [(0,x)] S2 [(0,.a (.bool b))] ⟨eF M.s.heap id (.lp c bX st pd),M.s.cr⟩) [(0,x)] S2 [(0,.a (.bool b))] ⟨eF M.s.heap id (.lp c bX st pd),M.s.cr⟩
    |_=>none)
   |none=>none)
  |_=>none)
 |_=>none
theorem wS{id cn:Nat}{X:α->TV B.S}{H1:α->dZ B.S}{x a:α}(h:some x=some a)(hx:((wR (T4 B id cn (X x) (H1 x) (G B P N M).1)).map Prod.fst,(G B P N M).2.map Prod.fst)=
   ((wR (T4 B id cn (X x) (H1 x) (G B P N M).1)).map Prod.snd,(G B P N M).2.map Prod.snd):=by kernel_rfl):RT B P N ρ (qI id (KH B cn X H1 a)) M:=by
 cases h;simp only[Prod.mk.injEq]at hx;obtain⟨h2,h3⟩:=hx;refine qT h3 ⟨?_⟩;obtain⟨q,hr,hq⟩:=zA (eo h2);generalize(G B P N M).1=g at *;obtain⟨o,k,bX,s⟩:=g;unfold T4 at hr;split at hr
 ·rename_i e ho;simp only at ho;subst ho;split at hr
  ·rename_i hk;simp only at hk;subst hk;split at hr
   ·rename_i b st pd he;split at hr
    ·rename_i c ev Ln pd0 hg;simp only at hr hg;have hI:=C5 hr hq;obtain⟨z,IV,DV⟩:=hI.bX 0 (((X x).er B.E)) (by simp[eY,cZ]);have IV:z=.bool b:=by simp[eY,cZ,TV.er]at IV;exact IV.symm
     subst IV;have hK:KH B cn X H1 x (.bool b) (dA B ⟨eF s.heap id (.lp c ev st pd),s.cr⟩):=⟨_,_,cn,_,eD _,sD.refl _ _,hI.st,DV⟩;rw[RW (H:=s) hg rfl]at hK;have hl:bJ (dA B s).heap id=some (.loop ⟨eY B ev,(B.C c).n,(B.C c).ps,(B.C c).as,(B.C c).body,CL Ln,Ha pd0⟩):=by
      rw[dE hg];rfl
     have fin:qI id (KH B cn X H1 x) e (eY B bX) (dA B s):=by
      unfold Xd at he;split at he<;>first|(cases he;done)|skip
      ·cases he;exact⟨_,hl,hK⟩
      ·cases he;exact⟨_,hl,hK⟩
      ·cases he;exact⟨_,hl,hK⟩
     exactλG w a hn=>hn.after fin
    ·cases hr
   ·cases hr
  ·cases hr
 ·cases hr
theorem KF{jf id:Nat}{cD args:List (TV B.S)}{H0 H1 s:dZ B.S}{x:TV B.S}{Lp Lr:List (Nat×Nat)}{kt rest:List (Nat×TB B.S)}{ks:List Nat}(wH:rest=ly ks s.heap)
  (h:jk P jf (eB B.E cD) (dA B H0) λy t=>y=x.er B.E/\t=dA B H1)
  (hq: ∀p∈(pS B Lp Lr kt rest (.a (.lf jf)::cD) H0 x H1 (.a (.lf id)::args) s).2.2,p.1=p.2):jk P id (eB B.E args) (dA B s) λy t=>y=(pS B Lp Lr kt rest (.a (.lf jf)::cD) H0 x H1 (.a (.lf id)::args) s).1.er B.E/\t=dA B (pS B Lp Lr kt rest (.a (.lf jf)::cD) H0 x H1 (.a (.lf id)::args) s).2.1:=by
 unfold pS at hq |-
 simp only at hq |-
 cases hb:EW B Lp (uG H1.heap Lr) H0 H1 s kt rest (s.cr+(H1.cr-H0.cr))with
 |false=>
  rw[hb]at hq;have:=hq (.any,.iO) (by simp);cases this
 |true=>
  rw[hb]at hq;simp only[dt]at hq;split at hq
  ·rename_i q h1;obtain⟨⟨q1,a1,e1⟩,q2,h2,e2⟩:=gv h1 hq;obtain⟨⟨q3,a2,e3⟩,q4,h3,e4⟩:=gv h2 e2;obtain⟨⟨q5,a3,e5⟩,q6,h4,e6⟩:=gv h3 e4;obtain⟨⟨q9,a4,e9⟩,q10,a7,e10⟩:=gv h4 e6;simp only[Lt]at a1;obtain⟨⟨q7,a5,e7⟩,q8,a6,e8⟩:=gv a1 e1;have hy:Co (gR 0 (dA B H0).heap) (pw Lp (jN Lp s.cr H0.heap)) (.lf jf) (.lf id):=kb a5 e7;cases hy with
   |c hc=>cases hc
   |y DT En=>
    subst En;have hid:has (dA B H0).heap jf=true:=by simpa[gR]using DT
    exact CH h hid (I9 wH hb a3 e5 a4 e9 a7 e10) (nu (λ_ _ _=>kb) a6 e8) (kb a2 e3)
  ·have:=hq (.any,.iO) (by simp);cases this
def Jc(B:jg)(jf:Nat)(cD:List (TV B.S))(H0:dZ B.S)(x:TV B.S)(H1:dZ B.S)(id:Nat)(args:List (TV B.S))(s:dZ B.S):TV B.S×dZ B.S×jh:=fp B (.a (.lf jf)::cD) H0 x H1 (.a (.lf id)::args) s
theorem NA{jf id:Nat}{cD args:List (TV B.S)}{H0 H1 s:dZ B.S}{x:TV B.S}(h:jk P jf (eB B.E cD) (dA B H0) λy t=>y=x.er B.E/\t=dA B H1)
 (hq: ∀p∈(Jc B jf cD H0 x H1 id args s).2.2,p.1=p.2):jk P id (eB B.E args) (dA B s) λy t=>y=(Jc B jf cD H0 x H1 id args s).1.er B.E/\t=dA B (Jc B jf cD H0 x H1 id args s).2.1:=KF rfl h hq
def xV{S:Nat->Type}(op:Op)(bX:dU S):Option (Nat×List (TV S)):=match gx op with
 |some (f,a)=>match fG bX f with
  |some (.a (.lf id))=>match pP bX a with
   |some l=>some (id,l)
   |none=>none
  |_=>none
 |none=>none
def mB(B:jg)(M:TM B.S):Option (Nat×List (TV B.S)):=match M.o with
 |.ro l _=>(match l with
  |i::_=>match Gl B i.guard M.bX with
   |.go=>xV i.op M.bX
   |_=>none
  | []=>none)
 |.rd l _ _=>(match l with
  |⟨.iI _ _,some i,sl⟩::_=>match Gl B i.guard M.bX with
   |.go=>xV i.op (oe sl M.bX)
   |_=>none
  |_=>none)
 |_=>none
def iOf{S:Nat->Type}(o:Option (Nat×List (TV S))):Nat:=match o with
 |some (i,_)=>i
 |none=>0
theorem zD{op:Op}{bX:dU B.S}{id:Nat}{l:List (TV B.S)}{s:St}{K:AV->St->Prop}(h:xV op bX=some (id,l))(hp:jk P id (eB B.E l) s K):ows P op K (eY B bX) s:=by
 unfold xV at h;unfold ows;split at h
 ·rename_i f a hc;split at h
  ·rename_i fL hf;split at h
   ·rename_i l' hl;cases h;simp only[hc,eL,hf,gX,lD,hl,TV.er];exact hp
   ·cases h
  ·cases h
 ·cases h
theorem KG{id:Nat}{l:List (TV B.S)}{v:TV B.S}{s':dZ B.S}(h:mB B M=some (id,l))(hp:jk P id (eB B.E l) (dA B M.s) λy t=>y=v.er B.E/\t=dA B s')(hq: ∀p∈jU B P M s',p.1=p.2)
  (hk:kR B P N ρ Q (qV B M v s')):kR B P N ρ Q M:=by
 obtain⟨o,k,bX,s⟩:=M;unfold mB at h;split at h
 ·rename_i l0 y ho;simp only at ho;subst ho;split at h
  ·rename_i i l1;split at h
   ·rename_i hg;show Gg _ _ _ _;refine ze (B:=B) ?_;simp only at hg;rw[hg];have hk:qM P (YK P N ρ Q k y) l1 (eY B (jq i.dst v bX)) (dA B s'):=hk;rw[iM]at hk;exact .inl (zD h (jk.mono (f:=id) hp λy t ⟨e1,e2⟩=>by subst e1;subst e2;exact hk))
   ·cases h
  ·cases h
 ·rename_i l0 n y ho;simp only at ho;subst ho;split at h
  ·rename_i j c i sl l1;split at h
   ·rename_i hg;intro hn;show Gj _ _ _ _;refine rT (B:=B) ?_;simp only at hg;rw[hg];have hk:dq P (YK P N ρ Q k y) l1 (vJ B (wN B n)) (eY B (jq i.dst v bX)) (dA B s'):=hk (rV hn);rw[iM,rU]at hk;have hc:xn P (vJ B n) (dA B s') c:=by
     unfold jU at hq;simp only at hq;split at hq
     ·rename_i q hc;exact nM hn (λe=>by cases e) hc hq
     ·have:=hq (.any,.iO) (by simp);cases this
    have:=zD (K:=λv s'=>xn P (vJ B n) s' c/\dq P (YK P N ρ Q k y) l1 (vJ B n) (fQ i.dst v (eY B bX)) s') h (jk.mono (f:=id) hp λy t ⟨e1,e2⟩=>by subst e1;subst e2;exact⟨hc,hk⟩);rw[oW]at this;exact this
   ·cases h
  ·cases h
 ·cases h
def oi(B:jg)(jf:Nat)(cD:List (TV B.S))(H0:dZ B.S)(x:TV B.S)(H1:dZ B.S)(m:TM B.S):TV B.S×dZ B.S×jh:=Jc B jf cD H0 x H1 (iOf (mB B m)) (mH (mB B m)) m.s
theorem vM{a:α}{jf:Nat}{cD:List (TV B.S)}{H0:dZ B.S}{X:α->TV B.S}{H1:α->dZ B.S}(hf:uJ B P jf cD H0 X H1 a)
  (k:RT B P N ρ Q (qV B (G B P N M).1 (oi B jf cD H0 (X a) (H1 a) (G B P N M).1).1 (oi B jf cD H0 (X a) (H1 a) (G B P N M).1).2.1))
  (hx:((mB B (G B P N M).1).isSome,(oi B jf cD H0 (X a) (H1 a) (G B P N M).1).2.2.map Prod.fst,(jU B P (G B P N M).1 (oi B jf cD H0 (X a) (H1 a) (G B P N M).1).2.1).map Prod.fst,(G B P N M).2.map Prod.fst)=
   (true,(oi B jf cD H0 (X a) (H1 a) (G B P N M).1).2.2.map Prod.snd,(jU B P (G B P N M).1 (oi B jf cD H0 (X a) (H1 a) (G B P N M).1).2.1).map Prod.snd,(G B P N M).2.map Prod.snd)):RT B P N ρ Q M:=by
 simp only[Prod.mk.injEq]at hx;obtain⟨h0,h1,h2,h3⟩:=hx;refine qT h3 ⟨?_⟩;have hk:=k.v;unfold oi at h1 h2 hk;generalize(G B P N M).1=m at *;cases hc:mB B m with
 |none=>rw[hc]at h0;cases h0
 |some p=>
  obtain⟨id,l⟩:=p;rw[hc]at h1 h2 hk;exact KG hc (NA hf (eo h1)) (eo h2) hk
theorem T5{o:Option α}{K:α->Option β}{jf:Nat}{cD:List (TV B.S)}{H0:dZ B.S}{X:α->TV B.S}{H1:α->dZ B.S}(h:o.bind K=some r)(hf: ∀a,o=some a->uJ B P jf cD H0 X H1 a)
  (k: ∀a,o=some a->K a=some r->RT B P N ρ Q (qV B (G B P N M).1 (oi B jf cD H0 (X a) (H1 a) (G B P N M).1).1 (oi B jf cD H0 (X a) (H1 a) (G B P N M).1).2.1))
  (hx: ∀a,((mB B (G B P N M).1).isSome,(oi B jf cD H0 (X a) (H1 a) (G B P N M).1).2.2.map Prod.fst,(jU B P (G B P N M).1 (oi B jf cD H0 (X a) (H1 a) (G B P N M).1).2.1).map Prod.fst,(G B P N M).2.map Prod.fst)=
   (true,(oi B jf cD H0 (X a) (H1 a) (G B P N M).1).2.2.map Prod.snd,(jU B P (G B P N M).1 (oi B jf cD H0 (X a) (H1 a) (G B P N M).1).2.1).map Prod.snd,(G B P N M).2.map Prod.snd):=by intro a;kernel_rfl):RT B P N ρ Q M:=
 let⟨a,ha,hK⟩:=mG h
 vM (hf a ha) (k a ha hK) (hx a)
theorem Jd{uH:Type}{o:Option (α⊕uH)}{K:α->Option β}{K':uH->Option β}{jf:Nat}{cD:List (TV B.S)}{H0:dZ B.S}{X:α->TV B.S}{X':uH->TV B.S}{H1:α->dZ B.S}{mQ:uH->dZ B.S}(h:o.bind (Sum.elim K K')=some r)
  (hf: ∀a,o=some a->uJ B P jf cD H0 (Sum.elim X X') (Sum.elim H1 mQ) a)
  (k: ∀a,o=some (.inl a)->K a=some r->RT B P N ρ Q (qV B (G B P N M).1 (oi B jf cD H0 (X a) (H1 a) (G B P N M).1).1 (oi B jf cD H0 (X a) (H1 a) (G B P N M).1).2.1))
  (k': ∀a,o=some (.inr a)->K' a=some r->RT B P N ρ Q (qV B (G B P N M).1 (oi B jf cD H0 (X' a) (mQ a) (G B P N M).1).1 (oi B jf cD H0 (X' a) (mQ a) (G B P N M).1).2.1))
  (hx: ∀a,((mB B (G B P N M).1).isSome,(oi B jf cD H0 (X a) (H1 a) (G B P N M).1).2.2.map Prod.fst,(jU B P (G B P N M).1 (oi B jf cD H0 (X a) (H1 a) (G B P N M).1).2.1).map Prod.fst,(G B P N M).2.map Prod.fst)=
   (true,(oi B jf cD H0 (X a) (H1 a) (G B P N M).1).2.2.map Prod.snd,(jU B P (G B P N M).1 (oi B jf cD H0 (X a) (H1 a) (G B P N M).1).2.1).map Prod.snd,(G B P N M).2.map Prod.snd):=by intro a;kernel_rfl)
  (s7: ∀a,((mB B (G B P N M).1).isSome,(oi B jf cD H0 (X' a) (mQ a) (G B P N M).1).2.2.map Prod.fst,(jU B P (G B P N M).1 (oi B jf cD H0 (X' a) (mQ a) (G B P N M).1).2.1).map Prod.fst,(G B P N M).2.map Prod.fst)=
   (true,(oi B jf cD H0 (X' a) (mQ a) (G B P N M).1).2.2.map Prod.snd,(jU B P (G B P N M).1 (oi B jf cD H0 (X' a) (mQ a) (G B P N M).1).2.1).map Prod.snd,(G B P N M).2.map Prod.snd):=by intro a;kernel_rfl):RT B P N ρ Q M:=by
 obtain⟨a,ha,hK⟩:=mG h;cases a with
 |inl a=>
  have uI:uJ B P jf cD H0 X H1 a:=hf (.inl a) ha;exact vM uI (k a ha hK) (hx a)
 |inr a=>
  have uI:uJ B P jf cD H0 X' mQ a:=hf (.inr a) ha;exact vM uI (k' a ha hK) (s7 a)
theorem NB{c:Code}{k:List Fr}{bX:Env}{s:St}(h:mu P N ρ c (λe bX s=>xp P N ρ Q ⟨.out e,k,bX,s⟩) bX s):mu P N ρ c (QK P N ρ Q k) bX s:=by
 intro G w a hn;refine wpIn_mono (h G w a hn) ?_;rintro e2 a2 w2 ⟨G',env',s2,n',x',hk⟩;obtain⟨G3,PQ,s3,n3,x3,q3⟩:=hk G' w2 a2 n';exact⟨G3,PQ,s3,n3,x'.trans hn.jd x3,q3⟩
def Pn(P:Program)(N:Nat)(dx:List Nat){S:Nat->Type}(M:TM S):Option (FuncId×List (TV S)×yT):=match M.o with
 |.run c=>(match c with
  |.rangeFunc g ps as body=>(match fG (l6 dx M.bX) g with
   |some (.fn gf gk)=>bif enters P gf then some (gf,gk,⟨N,ps.toList,as,body⟩)else none
   |_=>none)
  |_=>none)
 |_=>none
def RX{S:Nat->Type}(o:Option (FuncId×List (TV S)×yT)):Option (FuncId×yT):=o.map λp=>(p.1,p.2.2)
def Xe{S:Nat->Type}(o:Option (FuncId×List (TV S)×yT)):List (TV S):=match o with
 |some (_,l,_)=>l
 |none=>[]
def E0(ρ:Option Nat):Nat:=match ρ with
 |none=>1
 |some _=>0
def T6(S:Nat->Type)(ρ:Option Nat)(n:Nat):List (Nat×TB S):=match ρ with
 |none=>[(n,.raw .gK)]
 |some _=>[]
def T7(ρ:Option Nat)(dx:List Nat)(c:Nat){S:Nat->Type}(M:TM S):dZ S:=⟨(M.s.cr+E0 ρ,.lp c (l6 dx M.bX) 0 none)::M.s.heap,M.s.cr+E0 ρ+1⟩
def RY(ρ:Option Nat){S:Nat->Type}(s:dZ S):Bool:=match ρ with
 |none=>true
 |some id=>(match bJ s.heap id with
  |some (.lp _ _ _ _)=>true
  |_=>false)
def Po{S:Nat->Type}(y:Nat)(s':dZ S):Option Exit:=match bJ s'.heap y with
 |some (.lp _ _ st pd)=>bif Nat.beq st 1||!(iJ s'.heap y)then none else(match pd with
  |none=>some .normal
  |some none=>some .ret
  |some (some i)=>some (.exit i))
 |_=>none
def RZ(ρ:Option Nat)(dx:List Nat){S:Nat->Type}(M:TM S)(s':dZ S):TM S:=⟨match Po (M.s.cr+E0 ρ) s' with
 |some e=>.out e
 |none=>M.o,M.k,l6 dx M.bX,⟨T6 S ρ M.s.cr++eN s'.heap (M.s.cr+E0 ρ),s'.cr⟩⟩
def uK(B:jg)(P:Program)(N:Nat)(ρ:Option Nat)(dx:List Nat)(c:Nat)(cD:List (TV B.S))(H0:dZ B.S)(x:TV B.S)(H1:dZ B.S)(M:TM B.S):TV B.S×dZ B.S×jh:=
 fp B cD H0 x H1 (.a (.lf (M.s.cr+E0 ρ))::Xe (Pn P N dx M)) (T7 ρ dx c M)
theorem vN{bX:dU B.S}: ∀{l:List Nat}{t:Nat}{x:TV B.S},bJ (l6 l bX) t=some x->bJ bX t=some x
 | [],t,x,h=>by simp[l6,di]at h
 |k::r,t,x,h=>by
  unfold l6 at h;split at h
  ·rename_i y hy;simp only[cZ]at h;split at h
   ·rename_i e;subst e;cases h;exact hy
   ·exact vN h
  ·exact vN h
theorem Xf{y:Nat}{s':dZ B.S}{e:Exit}{k:List Fr}{bX:Env}{mk:List (Nat×TB B.S)}(Pp:mN B mk=[])(he:Po y s'=some e)(h:xp P N ρ Q ⟨.out e,k,bX,dA B ⟨mk++eN s'.heap y,s'.cr⟩⟩):
  CE P N ρ (λe bX s=>xp P N ρ Q ⟨.out e,k,bX,s⟩) bX y (kP B mk) (dA B s'):=by
 unfold Po at he;split at he
 ·rename_i c ev st pd hg;have hl:bJ (dA B s').heap y=some (.loop ⟨eY B ev,(B.C c).n,(B.C c).ps,(B.C c).as,(B.C c).body,CL st,Ha pd⟩):=by
   rw[dE hg];rfl
  cases hb:Nat.beq st 1||!(iJ s'.heap y)with
  |true=>rw[hb]at he;cases he
  |false=>
   rw[hb]at he;simp only[dD]at he;rw[JQ,ZN]at hb;obtain⟨hb,hd⟩:=hb;have aaE: ∀{a b:List (Nat×TB B.S)},mN B (a++b)=mN B a++mN B b:=by
    intro a
    induction a with
    |nil=>intro b;rfl
    |cons p r ih=>intro b;obtain⟨k,x⟩:=p;simp only[yh,mN,ih,Ig]
   have hs:dA B ⟨mk++eN s'.heap y,s'.cr⟩=⟨kP B mk++eN (dA B s').heap y,(dA B s').cr⟩:=by
    have:=mO (n:=s'.cr) hd;simp only[dA,St.mk.injEq]at this;simp only[dA,Hs,aaE,Pp,sA,Ig,this.1]
   rw[hs]at h;refine⟨_,hl,?_,?_⟩
   ·intro e2;have:CL st=.busy:=e2;unfold CL at this;split at this
    ·cases this
    ·cases hb
    ·cases this
   ·split at he
    ·cases he;exact h
    ·cases he;exact PA h
    ·cases he;exactλG w a hn=>wpIn_exit (hn.after h)
 ·cases he
theorem Vy{a:α}{gf:FuncId}{cD:List (TV B.S)}{H0:dZ B.S}{X:α->TV B.S}{H1:α->dZ B.S}(dx:List Nat)(c:Nat)(hf:dv B P gf cD H0 X H1 a)
  (k:RT B P N ρ Q (RZ ρ dx (G B P N M).1 (uK B P N ρ dx c cD H0 (X a) (H1 a) (G B P N M).1).2.1))
  (hx:(RX (Pn P N dx (G B P N M).1),RY ρ (G B P N M).1.s&&(Po ((G B P N M).1.s.cr+E0 ρ) (uK B P N ρ dx c cD H0 (X a) (H1 a) (G B P N M).1).2.1).isSome,(uK B P N ρ dx c cD H0 (X a) (H1 a) (G B P N M).1).2.2.map Prod.fst,(G B P N M).2.map Prod.fst)=
   (some (gf,B.C c),true,(uK B P N ρ dx c cD H0 (X a) (H1 a) (G B P N M).1).2.2.map Prod.snd,(G B P N M).2.map Prod.snd)):RT B P N ρ Q M:=by
 simp only[Prod.mk.injEq,fE]at hx;obtain⟨h0,⟨h1,h2⟩,h3,h4⟩:=hx;refine qT h4 ⟨?_⟩;have hk:=k.v;unfold uK at h2 h3 hk;generalize(G B P N M).1=m at *;obtain⟨o,kk,bX,s⟩:=m;cases hA:Pn P N dx (⟨o,kk,bX,s⟩:TM B.S)with
 |none=>rw[hA]at h0;cases h0
 |some p=>
  obtain⟨gf',gk,lc⟩:=p;rw[hA]at h0 h2 h3 hk;simp only[RX,gX,Option.some.injEq,Prod.mk.injEq]at h0;obtain⟨e1,e2⟩:=h0;subst e1;simp only[Xe]at h2 h3 hk;unfold Pn at hA;split at hA
  ·rename_i cd ho;simp only at ho;subst ho;split at hA
   ·rename_i g ps as body;split at hA
    ·rename_i gf2 R0 hg;cases he:enters P gf2 with
     |false=>simp[he]at hA
     |true=>
      simp only[he,dt,Option.some.injEq,Prod.mk.injEq]at hA;obtain⟨a1,a2,a3⟩:=hA;subst a1;subst a2;subst a3;obtain⟨e,hE⟩:=Bp.1 h2;have hc:=EY (s:=T7 ρ dx c (⟨.run (.rangeFunc g ps as body),kk,bX,s⟩:TM B.S)) (args:=.a (.lf (s.cr+E0 ρ))::R0) hf (eo h3);generalize fp B cD H0 (X a) (H1 a) (.a (.lf (s.cr+E0 ρ))::R0) (T7 ρ dx c ⟨.run (.rangeFunc g ps as body),kk,bX,s⟩)=R at *;obtain⟨v,s',q⟩:=R;simp only at hE hc hk;unfold RZ at hk;simp only[hE]at hk;have hk:xp P N ρ Q ⟨.out e,kk,eY B (l6 dx bX),dA B ⟨T6 B.S ρ s.cr++eN s'.heap (s.cr+E0 ρ),s'.cr⟩⟩:=hk;have Qz:=Xf (mk:=T6 B.S ρ s.cr) (by cases ρ<;>rfl) hE hk;have YZ:=eL (B:=B) (bX:=l6 dx bX) (x:=g);rw[hg]at YZ;simp only[gX,TV.er]at YZ;have pK: ∀t x,bJ (eY B (l6 dx bX)) t=some x->bJ (eY B bX) t=some x:=λt x hx=>by
       rw[lP]at hx |-
       obtain⟨y,hy,e3⟩:=D5.1 hx;rw[vN hy];exact fC some e3
      have hS:xp P N ρ Q ⟨.run (.rangeFunc g ps as body),kk,eY B (l6 dx bX),dA B s⟩:=by
       refine NB ?_;cases ρ with
       |none=>
        refine AZ YZ he ?_;have eS:dA B (T7 none dx c (⟨.run (.rangeFunc g ps as body),kk,bX,s⟩:TM B.S))=⟨((dA B s).cr+1,.loop ⟨eY B (l6 dx bX),N,ps.toList,as,body,.ready,none⟩)::(dA B s).heap,(dA B s).cr+2⟩:=by
         simp only[T7,E0,dA,kP,mN,eX,fS,<-e2,CL,Ha,sA,yh]
        rw[eS]at hc;exact hc.mono λy t ht=>by obtain⟨_,ht⟩:=ht;subst ht;exact Qz
       |some jf=>
        simp only[RY]at h1;split at h1
        ·rename_i cc ev st pd hg0;have PS:bJ (dA B s).heap jf=some (.loop ⟨eY B ev,(B.C cc).n,(B.C cc).ps,(B.C cc).as,(B.C cc).body,CL st,Ha pd⟩):=by
          rw[dE hg0];rfl
         refine yL PS YZ he ?_;have eS:dA B (T7 (some jf) dx c (⟨.run (.rangeFunc g ps as body),kk,bX,s⟩:TM B.S))=⟨((dA B s).cr,.loop ⟨eY B (l6 dx bX),N,ps.toList,as,body,.ready,none⟩)::(dA B s).heap,(dA B s).cr+1⟩:=by
          simp only[T7,E0,dA,kP,mN,eX,fS,<-e2,CL,Ha,DO,sA,yh]
         rw[eS]at hc;exact hc.mono λy t ht=>by obtain⟨_,ht⟩:=ht;subst ht;exact Qz
        ·cases h1
      exact tg (cn:=s.cr) (eD _) (MB pK ⟨λ_ _ h=>h,eD _,λ_ h=>h⟩ G8.refl) hS
    ·cases hA
   ·cases hA
  ·cases hA
theorem tRF{o:Option α}{K:α->Option β}{gf:FuncId}{cD:List (TV B.S)}{H0:dZ B.S}{X:α->TV B.S}{H1:α->dZ B.S}(h:o.bind K=some r)(dx:List Nat)(c:Nat)(hf: ∀a,o=some a->dv B P gf cD H0 X H1 a)
  (k: ∀a,o=some a->K a=some r->RT B P N ρ Q (RZ ρ dx (G B P N M).1 (uK B P N ρ dx c cD H0 (X a) (H1 a) (G B P N M).1).2.1))
  (hx: ∀a,(RX (Pn P N dx (G B P N M).1),RY ρ (G B P N M).1.s&&(Po ((G B P N M).1.s.cr+E0 ρ) (uK B P N ρ dx c cD H0 (X a) (H1 a) (G B P N M).1).2.1).isSome,(uK B P N ρ dx c cD H0 (X a) (H1 a) (G B P N M).1).2.2.map Prod.fst,(G B P N M).2.map Prod.fst)=
   (some (gf,B.C c),true,(uK B P N ρ dx c cD H0 (X a) (H1 a) (G B P N M).1).2.2.map Prod.snd,(G B P N M).2.map Prod.snd):=by intro a;kernel_rfl):RT B P N ρ Q M:=
 let⟨a,ha,hK⟩:=mG h
 Vy dx c (hf a ha) (k a ha hK) (hx a)
theorem Xg{uH:Type}{o:Option (α⊕uH)}{K:α->Option β}{K':uH->Option β}{gf:FuncId}{cD:List (TV B.S)}{H0:dZ B.S}{X:α->TV B.S}{X':uH->TV B.S}{H1:α->dZ B.S}{mQ:uH->dZ B.S}(h:o.bind (Sum.elim K K')=some r)(dx:List Nat)(c:Nat)
  (hf: ∀a,o=some a->dv B P gf cD H0 (Sum.elim X X') (Sum.elim H1 mQ) a)
  (k: ∀a,o=some (.inl a)->K a=some r->RT B P N ρ Q (RZ ρ dx (G B P N M).1 (uK B P N ρ dx c cD H0 (X a) (H1 a) (G B P N M).1).2.1))
  (k': ∀a,o=some (.inr a)->K' a=some r->RT B P N ρ Q (RZ ρ dx (G B P N M).1 (uK B P N ρ dx c cD H0 (X' a) (mQ a) (G B P N M).1).2.1))
  (hx: ∀a,(RX (Pn P N dx (G B P N M).1),RY ρ (G B P N M).1.s&&(Po ((G B P N M).1.s.cr+E0 ρ) (uK B P N ρ dx c cD H0 (X a) (H1 a) (G B P N M).1).2.1).isSome,(uK B P N ρ dx c cD H0 (X a) (H1 a) (G B P N M).1).2.2.map Prod.fst,(G B P N M).2.map Prod.fst)=
   (some (gf,B.C c),true,(uK B P N ρ dx c cD H0 (X a) (H1 a) (G B P N M).1).2.2.map Prod.snd,(G B P N M).2.map Prod.snd):=by intro a;kernel_rfl)
  (s7: ∀a,(RX (Pn P N dx (G B P N M).1),RY ρ (G B P N M).1.s&&(Po ((G B P N M).1.s.cr+E0 ρ) (uK B P N ρ dx c cD H0 (X' a) (mQ a) (G B P N M).1).2.1).isSome,(uK B P N ρ dx c cD H0 (X' a) (mQ a) (G B P N M).1).2.2.map Prod.fst,(G B P N M).2.map Prod.fst)=
   (some (gf,B.C c),true,(uK B P N ρ dx c cD H0 (X' a) (mQ a) (G B P N M).1).2.2.map Prod.snd,(G B P N M).2.map Prod.snd):=by intro a;kernel_rfl):RT B P N ρ Q M:=by
 obtain⟨a,ha,hK⟩:=mG h;cases a with
 |inl a=>
  have uI:dv B P gf cD H0 X H1 a:=hf (.inl a) ha;exact Vy dx c uI (k a ha hK) (hx a)
 |inr a=>
  have uI:dv B P gf cD H0 X' mQ a:=hf (.inr a) ha;exact Vy dx c uI (k' a ha hK) (s7 a)
def QA(P:Program)(f k:Nat):yT:=match WZ (A9 (cF P f)) k with
 |.rangeFunc _ ps a b=>⟨nF P f,ps.toList,a,b⟩
 |_=>⟨0,[],.skip,.skip⟩
end
end Go.Am
