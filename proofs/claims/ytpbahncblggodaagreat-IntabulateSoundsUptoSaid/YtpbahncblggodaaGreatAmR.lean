/- The logic AM, R: walks on typed states: loops over functions and their rounds. -/
import Derived.Test.YtpbahncblggodaaGreatAmZ
set_option linter.all false
namespace Go.Am
open Go.RowKit
section
variable {B:iP} {P:Program} {N:Nat} {ρ:Option Nat} {Q:Exit->Env->St->Prop} {M:TM B.S} {α β:Type} {r:β}
def tF(B:iP)(P:Program)(id:Nat)(args:List (TV B.S))(H0:dI B.S)(X:α->TV B.S)(H1:α->dI B.S)(a:α):Prop:=
 iM P id (dV B.E args) (df B H0) λy t=>y=(X a).er B.E/\t=df B (H1 a)
def Dp{S:Nat->Type}:List Tmp->List (TV S)->dD S->dD S
 |t::ts,x::xs,bI=>Dp ts xs (dT bI t x)
 |_,_,bI=>bI
theorem Hk: ∀{ts:List Tmp}{xs:List (TV B.S)}{bI:dD B.S},ir ts (dV B.E xs) (ez B bI)=ez B (Dp ts xs bI)
 | [],xs,bI=>by cases xs<;>simp[ir,Dp,dV]
 |t::ts,[],bI=>by simp[ir,Dp,dV]
 |t::ts,x::xs,bI=>by simp only[dV,ir,Dp,<-wK,Hk (ts:=ts)]
theorem Qg{c:Nat}{bI:dD B.S}{st:Nat}{pd:Option (Option Nat)}{H:dI B.S}{id:Nat}{b0:TB B.S}(hg:bH H.heap id=some b0)(h0:fI b0=false):df B ⟨dT H.heap id (.lp c bI st pd),H.bS⟩=gO (df B H) id ⟨ez B bI,(B.C c).n,(B.C c).ps,(B.C c).as,(B.C c).body,BJ st,FJ pd⟩:=by
 rw[qD hg h0 rfl];rfl
def OD(B:iP)(P:Program)(c:Nat)(bI:dD B.S)(args:List (TV B.S))(H0:dI B.S):TM B.S×iH:=G B P (B.C c).n ⟨.run (B.C c).as,[],Dp (B.C c).ps args bI,H0⟩
theorem RL{n:Nat}{cd:Code}{bI:dD B.S}{s:dI B.S}(h5:(G B P n ⟨.run cd,[],bI,s⟩).2.map Prod.fst=(G B P n ⟨.run cd,[],bI,s⟩).2.map Prod.snd)
 (k:RT B P n ρ Q (G B P n ⟨.run cd,[],bI,s⟩).1):lA P n ρ cd Q (ez B bI) (df B s):=(rk h5 k).v
theorem Xj{id:Nat}(c:Nat)(bI:dD B.S){args:List (TV B.S)}{H0:dI B.S}{X:α->TV B.S}{H1:α->dI B.S}{a:α}
  (h:RT B P (B.C c).n (some id) (pS id (KH B H0.bS X H1 a)) ⟨.run (B.C c).body,[],(OD B P c bI args H0).1.bI,⟨dT (OD B P c bI args H0).1.s.heap id (.lp c bI 1 none),(OD B P c bI args H0).1.s.bS⟩⟩)
  (hx:((OD B P c bI args H0).1.o,(OD B P c bI args H0).1.k,bH (OD B P c bI args H0).1.s.heap id,(OD B P c bI args H0).2.map Prod.fst,bH H0.heap id,Nat.beq args.length (B.C c).ps.length&&((B.C c).ps.all λt=>Nat.blt t (B.C c).n))=
   (.out .normal,[],some (.lp c bI 0 none),(OD B P c bI args H0).2.map Prod.snd,some (.lp c bI 0 none),true):=by kernel_rfl):tF B P id args H0 X H1 a:=by
 simp only[Prod.mk.injEq,eW]at hx
 obtain⟨h0,h1,h2,h5,h6,h3,h4⟩:=hx
 have hg:bH (df B H0).heap id=some (.loop ⟨ez B bI,(B.C c).n,(B.C c).ps,(B.C c).as,(B.C c).body,.ready,none⟩):=by
  rw[dj h6];rfl
 refine Dq (Rc hg (by rw[gA];exact iU h3) (by simpa[qZ]using h4) ?_)
 simp only
 rw[Hk]
 refine RL (bI:=Dp (B.C c).ps args bI) (s:=H0) h5 ?_
 unfold OD at *
 generalize(G B P (B.C c).n ⟨.run (B.C c).as,[],Dp (B.C c).ps args bI,H0⟩).1=g at *
 obtain⟨o,k,uE,s2⟩:=g
 simp only at h0 h1 h2 h
 subst h0;subst h1
 refine⟨?_⟩
 have Zh:bH (df B s2).heap id=some (.loop ⟨ez B bI,(B.C c).n,(B.C c).ps,(B.C c).as,(B.C c).body,.ready,none⟩):=by
  rw[dj h2];rfl
 have h:lA P (B.C c).n (some id) (B.C c).body (pS id (KH B H0.bS X H1 a)) (ez B uE) (df B ⟨dT s2.heap id (.lp c bI 1 none),s2.bS⟩):=h.v
 rw[Qg (H:=s2) h2 rfl]at h
 have mono: ∀e bI s,pS id (KH B H0.bS X H1 a) e bI s->pS id (λy s=> ∃s1 y1 bQ π S2 x2,(df B H0).bS<=bQ/\ri s y s1 y1/\pU bQ π S2 s1/\Co (gj bQ S2.heap) π x2 y1/\x2=(X a).er B.E/\S2=df B (H1 a)) e bI s:=by
  intro e bI s hq
  have key: ∀y s,KH B H0.bS X H1 a y s-> ∃s1 y1 bQ π S2 x2,(df B H0).bS<=bQ/\ri s y s1 y1/\pU bQ π S2 s1/\Co (gj bQ S2.heap) π x2 y1/\x2=(X a).er B.E/\S2=df B (H1 a):=by
   rintro y s ⟨s1,y1,xX,π,k1,k2,k3,k4⟩
   exact⟨s1,y1,xX,π,_,_,k1,k2,k3,k4,rfl,rfl⟩
  cases e<;>simp only[pS]at hq |-
  ·obtain⟨l,hl,hk⟩:=hq;exact⟨l,hl,key _ _ hk⟩
  ·obtain⟨l,hl,hk⟩:=hq;exact⟨l,hl,key _ _ hk⟩
  ·obtain⟨l,hl,hk⟩:=hq;exact⟨l,hl,key _ _ hk⟩
 exactλG w ac hn=>hn.after ⟨_,Zh,rfl,h.mono mono⟩
def Vp:Exit->Option (Bool×Nat×Option (Option Nat))
 |.normal=>some (true,0,none)
 |.ret=>some (false,2,some none)
 |.exit i=>some (false,2,some (some i))
 |_=>none
def RM(B:iP)(id bQ:Nat)(x:TV B.S)(S2:dI B.S)(M:TM B.S):Option iH:=match M.o with
 |.out e=>(match M.k with
  | []=>(match Vp e with
   |some (b,st,pd)=>(match bH M.s.heap id with
    |some (.lp c bI _ _)=>Ll B bQ (Lm bQ [(0,x)] S2 [(0,.a (.bool b))] ⟨dT M.s.heap id (.lp c bI st pd),M.s.bS⟩) [(0,x)] S2 [(0,.a (.bool b))] ⟨dT M.s.heap id (.lp c bI st pd),M.s.bS⟩
    |_=>none)
   |none=>none)
  |_=>none)
 |_=>none
theorem vD{id bQ:Nat}{X:α->TV B.S}{H1:α->dI B.S}{x a:α}(h:some x=some a)(hx:((vC (RM B id bQ (X x) (H1 x) (G B P N M).1)).map Prod.fst,(G B P N M).2.map Prod.fst)=
   ((vC (RM B id bQ (X x) (H1 x) (G B P N M).1)).map Prod.snd,(G B P N M).2.map Prod.snd):=by kernel_rfl):RT B P N ρ (pS id (KH B bQ X H1 a)) M:=by
 cases h
 simp only[Prod.mk.injEq]at hx
 obtain⟨h2,h3⟩:=hx
 refine rk h3 ⟨?_⟩
 obtain⟨q,hr,hq⟩:=xW (dQ h2)
 generalize(G B P N M).1=g at *
 obtain⟨o,k,bI,s⟩:=g
 unfold RM at hr
 split at hr
 ·rename_i e ho
  simp only at ho;subst ho
  split at hr
  ·rename_i hk
   simp only at hk;subst hk
   split at hr
   ·rename_i b st pd he
    split at hr
    ·rename_i c ev JW pd0 hg
     simp only at hr hg
     have hI:=BK hr hq
     obtain⟨z,Hd,FC⟩:=hI.bI 0 (((X x).er B.E)) (by simp[ez,cG])
     have Hd:z=.bool b:=by simp[ez,cG,TV.er]at Hd;exact Hd.symm
     subst Hd
     have hK:KH B bQ X H1 x (.bool b) (df B ⟨dT s.heap id (.lp c ev st pd),s.bS⟩):=⟨_,_,bQ,_,eu _,ri.refl _ _,hI.st,FC⟩
     rw[Qg (H:=s) hg rfl]at hK
     have hl:bH (df B s).heap id=some (.loop ⟨ez B ev,(B.C c).n,(B.C c).ps,(B.C c).as,(B.C c).body,BJ JW,FJ pd0⟩):=by
      rw[dj hg];rfl
     have fin:pS id (KH B bQ X H1 x) e (ez B bI) (df B s):=by
      unfold Vp at he
      split at he<;>first|(cases he;done)|skip
      ·cases he;exact⟨_,hl,hK⟩
      ·cases he;exact⟨_,hl,hK⟩
      ·cases he;exact⟨_,hl,hK⟩
     exactλG w a hn=>hn.after fin
    ·cases hr
   ·cases hr
  ·cases hr
 ·cases hr
theorem Jd{iG id:Nat}{cn args:List (TV B.S)}{H0 H1 s:dI B.S}{x:TV B.S}{Lp Lr:List (Nat×Nat)}{jI rest:List (Nat×TB B.S)}{ks:List Nat}(vx:rest=kG ks s.heap)
  (h:iM P iG (dV B.E cn) (df B H0) λy t=>y=x.er B.E/\t=df B H1)
  (hq: ∀p∈(oH B Lp Lr jI rest (.a (.kt iG)::cn) H0 x H1 (.a (.kt id)::args) s).2.2,p.1=p.2):iM P id (dV B.E args) (df B s) λy t=>y=(oH B Lp Lr jI rest (.a (.kt iG)::cn) H0 x H1 (.a (.kt id)::args) s).1.er B.E/\t=df B (oH B Lp Lr jI rest (.a (.kt iG)::cn) H0 x H1 (.a (.kt id)::args) s).2.1:=by
 unfold oH at hq |-
 simp only at hq |-
 cases hb:Dr B Lp (tH H1.heap Lr) H0 H1 s jI rest (s.bS+(H1.bS-H0.bS))with
 |false=>
  rw[hb]at hq
  have:=hq (.any,.ij) (by simp)
  cases this
 |true=>
  rw[hb]at hq
  simp only[cond_true]at hq
  split at hq
  ·rename_i q h1
   obtain⟨⟨q1,a1,e1⟩,q2,h2,e2⟩:=fQ h1 hq
   obtain⟨⟨q3,a2,e3⟩,q4,h3,e4⟩:=fQ h2 e2
   obtain⟨⟨q5,a3,e5⟩,q6,h4,e6⟩:=fQ h3 e4
   obtain⟨⟨q9,a4,e9⟩,q10,a7,e10⟩:=fQ h4 e6
   simp only[JX]at a1
   obtain⟨⟨q7,a5,e7⟩,q8,a6,e8⟩:=fQ a1 e1
   have hy:Co (gj 0 (df B H0).heap) (pw Lp (jm Lp s.bS H0.heap)) (.kt iG) (.kt id):=jz a5 e7
   cases hy with
   |c hc=>cases hc
   |y CB C5=>
    subst C5
    have jC:has (df B H0).heap iG=true:=by simpa[gj]using CB
    exact BB h jC (Hl vx hb a3 e5 a4 e9 a7 e10) (mn (λ_ _ _=>jz) a6 e8) (jz a2 e3)
  ·have:=hq (.any,.ij) (by simp)
   cases this
def Hm(B:iP)(iG:Nat)(cn:List (TV B.S))(H0:dI B.S)(x:TV B.S)(H1:dI B.S)(id:Nat)(args:List (TV B.S))(s:dI B.S):TV B.S×dI B.S×iH:=eI B (.a (.kt iG)::cn) H0 x H1 (.a (.kt id)::args) s
theorem Ln{iG id:Nat}{cn args:List (TV B.S)}{H0 H1 s:dI B.S}{x:TV B.S}(h:iM P iG (dV B.E cn) (df B H0) λy t=>y=x.er B.E/\t=df B H1)
 (hq: ∀p∈(Hm B iG cn H0 x H1 id args s).2.2,p.1=p.2):iM P id (dV B.E args) (df B s) λy t=>y=(Hm B iG cn H0 x H1 id args s).1.er B.E/\t=df B (Hm B iG cn H0 x H1 id args s).2.1:=Jd rfl h hq
def wL{S:Nat->Type}(op:Op)(bI:dD S):Option (Nat×List (TV S)):=match fS op with
 |some (f,a)=>match eX bI f with
  |some (.a (.kt id))=>match oI bI a with
   |some l=>some (id,l)
   |none=>none
  |_=>none
 |none=>none
def lF(B:iP)(M:TM B.S):Option (Nat×List (TV B.S)):=match M.o with
 |.ro l _=>(match l with
  |i::_=>match EU B i.guard M.bI with
   |.go=>wL i.op M.bI
   |_=>none
  | []=>none)
 |.rd l _ _=>(match l with
  |⟨.gW _ _,some i,sl⟩::_=>match EU B i.guard M.bI with
   |.go=>wL i.op (nb sl M.bI)
   |_=>none
  |_=>none)
 |_=>none
def iOf{S:Nat->Type}(o:Option (Nat×List (TV S))):Nat:=match o with
 |some (i,_)=>i
 |none=>0
theorem xY{op:Op}{bI:dD B.S}{id:Nat}{l:List (TV B.S)}{s:St}{K:AV->St->Prop}(h:wL op bI=some (id,l))(hp:iM P id (dV B.E l) s K):ows P op K (ez B bI) s:=by
 unfold wL at h
 unfold ows
 split at h
 ·rename_i f a hc
  split at h
  ·rename_i fq hf
   split at h
   ·rename_i l' hl
    cases h
    simp only[hc,ec,hf,gl,kO,hl,TV.er]
    exact hp
   ·cases h
  ·cases h
 ·cases h
theorem Je{id:Nat}{l:List (TV B.S)}{v:TV B.S}{s':dI B.S}(h:lF B M=some (id,l))(hp:iM P id (dV B.E l) (df B M.s) λy t=>y=v.er B.E/\t=df B s')(hq: ∀p∈jD B P M s',p.1=p.2)
  (hk:ki B P N ρ Q (rm B M v s')):ki B P N ρ Q M:=by
 obtain⟨o,k,bI,s⟩:=M
 unfold lF at h
 split at h
 ·rename_i l0 y ho
  simp only at ho;subst ho
  split at h
  ·rename_i i l1
   split at h
   ·rename_i hg
    show EP _ _ _ _
    refine xP (B:=B) ?_
    simp only at hg
    rw[hg]
    have hk:pW P (YK P N ρ Q k y) l1 (ez B (iR i.dst v bI)) (df B s'):=hk
    rw[ic]at hk
    exact .inl (xY h (iM.mono (f:=id) hp λy t ⟨e1,e2⟩=>by subst e1;subst e2;exact hk))
   ·cases h
  ·cases h
 ·rename_i l0 n y ho
  simp only at ho;subst ho
  split at h
  ·rename_i j c i sl l1
   split at h
   ·rename_i hg
    intro hn
    show ES _ _ _ _
    refine qC (B:=B) ?_
    simp only at hg
    rw[hg]
    have hk:dq P (YK P N ρ Q k y) l1 (uQ B (vE B n)) (ez B (iR i.dst v bI)) (df B s'):=hk (qE hn)
    rw[ic,qF]at hk
    have hc:wg P (uQ B n) (df B s') c:=by
     unfold jD at hq
     simp only at hq
     split at hq
     ·rename_i q hc
      exact mK hn (λe=>by cases e) hc hq
     ·have:=hq (.any,.ij) (by simp);cases this
    have:=xY (K:=λv s'=>wg P (uQ B n) s' c/\dq P (YK P N ρ Q k y) l1 (uQ B n) (fp i.dst v (ez B bI)) s') h (iM.mono (f:=id) hp λy t ⟨e1,e2⟩=>by subst e1;subst e2;exact⟨hc,hk⟩)
    rw[nK]at this
    exact this
   ·cases h
  ·cases h
 ·cases h
def na(B:iP)(iG:Nat)(cn:List (TV B.S))(H0:dI B.S)(x:TV B.S)(H1:dI B.S)(m:TM B.S):TV B.S×dI B.S×iH:=Hm B iG cn H0 x H1 (iOf (lF B m)) (mZ (lF B m)) m.s
theorem uS{a:α}{iG:Nat}{cn:List (TV B.S)}{H0:dI B.S}{X:α->TV B.S}{H1:α->dI B.S}(hf:tF B P iG cn H0 X H1 a)
  (k:RT B P N ρ Q (rm B (G B P N M).1 (na B iG cn H0 (X a) (H1 a) (G B P N M).1).1 (na B iG cn H0 (X a) (H1 a) (G B P N M).1).2.1))
  (hx:((lF B (G B P N M).1).isSome,(na B iG cn H0 (X a) (H1 a) (G B P N M).1).2.2.map Prod.fst,(jD B P (G B P N M).1 (na B iG cn H0 (X a) (H1 a) (G B P N M).1).2.1).map Prod.fst,(G B P N M).2.map Prod.fst)=
   (true,(na B iG cn H0 (X a) (H1 a) (G B P N M).1).2.2.map Prod.snd,(jD B P (G B P N M).1 (na B iG cn H0 (X a) (H1 a) (G B P N M).1).2.1).map Prod.snd,(G B P N M).2.map Prod.snd)):RT B P N ρ Q M:=by
 simp only[Prod.mk.injEq]at hx
 obtain⟨h0,h1,h2,h3⟩:=hx
 refine rk h3 ⟨?_⟩
 have hk:=k.v
 unfold na at h1 h2 hk
 generalize(G B P N M).1=m at *
 cases hc:lF B m with
 |none=>rw[hc]at h0;cases h0
 |some p=>
  obtain⟨id,l⟩:=p
  rw[hc]at h1 h2 hk
  exact Je hc (Ln hf (dQ h1)) (dQ h2) hk
theorem RN{o:Option α}{K:α->Option β}{iG:Nat}{cn:List (TV B.S)}{H0:dI B.S}{X:α->TV B.S}{H1:α->dI B.S}(h:o.bind K=some r)(hf: ∀a,o=some a->tF B P iG cn H0 X H1 a)
  (k: ∀a,o=some a->K a=some r->RT B P N ρ Q (rm B (G B P N M).1 (na B iG cn H0 (X a) (H1 a) (G B P N M).1).1 (na B iG cn H0 (X a) (H1 a) (G B P N M).1).2.1))
  (hx: ∀a,((lF B (G B P N M).1).isSome,(na B iG cn H0 (X a) (H1 a) (G B P N M).1).2.2.map Prod.fst,(jD B P (G B P N M).1 (na B iG cn H0 (X a) (H1 a) (G B P N M).1).2.1).map Prod.fst,(G B P N M).2.map Prod.fst)=
   (true,(na B iG cn H0 (X a) (H1 a) (G B P N M).1).2.2.map Prod.snd,(jD B P (G B P N M).1 (na B iG cn H0 (X a) (H1 a) (G B P N M).1).2.1).map Prod.snd,(G B P N M).2.map Prod.snd):=by intro a;kernel_rfl):RT B P N ρ Q M:=
 let⟨a,ha,hK⟩:=ml h
 uS (hf a ha) (k a ha hK) (hx a)
theorem Hn{tA:Type}{o:Option (α⊕tA)}{K:α->Option β}{K':tA->Option β}{iG:Nat}{cn:List (TV B.S)}{H0:dI B.S}{X:α->TV B.S}{X':tA->TV B.S}{H1:α->dI B.S}{lT:tA->dI B.S}(h:o.bind (Sum.elim K K')=some r)
  (hf: ∀a,o=some a->tF B P iG cn H0 (Sum.elim X X') (Sum.elim H1 lT) a)
  (k: ∀a,o=some (.inl a)->K a=some r->RT B P N ρ Q (rm B (G B P N M).1 (na B iG cn H0 (X a) (H1 a) (G B P N M).1).1 (na B iG cn H0 (X a) (H1 a) (G B P N M).1).2.1))
  (k': ∀a,o=some (.inr a)->K' a=some r->RT B P N ρ Q (rm B (G B P N M).1 (na B iG cn H0 (X' a) (lT a) (G B P N M).1).1 (na B iG cn H0 (X' a) (lT a) (G B P N M).1).2.1))
  (hx: ∀a,((lF B (G B P N M).1).isSome,(na B iG cn H0 (X a) (H1 a) (G B P N M).1).2.2.map Prod.fst,(jD B P (G B P N M).1 (na B iG cn H0 (X a) (H1 a) (G B P N M).1).2.1).map Prod.fst,(G B P N M).2.map Prod.fst)=
   (true,(na B iG cn H0 (X a) (H1 a) (G B P N M).1).2.2.map Prod.snd,(jD B P (G B P N M).1 (na B iG cn H0 (X a) (H1 a) (G B P N M).1).2.1).map Prod.snd,(G B P N M).2.map Prod.snd):=by intro a;kernel_rfl)
  (pp: ∀a,((lF B (G B P N M).1).isSome,(na B iG cn H0 (X' a) (lT a) (G B P N M).1).2.2.map Prod.fst,(jD B P (G B P N M).1 (na B iG cn H0 (X' a) (lT a) (G B P N M).1).2.1).map Prod.fst,(G B P N M).2.map Prod.fst)=
   (true,(na B iG cn H0 (X' a) (lT a) (G B P N M).1).2.2.map Prod.snd,(jD B P (G B P N M).1 (na B iG cn H0 (X' a) (lT a) (G B P N M).1).2.1).map Prod.snd,(G B P N M).2.map Prod.snd):=by intro a;kernel_rfl):RT B P N ρ Q M:=by
 obtain⟨a,ha,hK⟩:=ml h
 cases a with
 |inl a=>
  have tD:tF B P iG cn H0 X H1 a:=hf (.inl a) ha
  exact uS tD (k a ha hK) (hx a)
 |inr a=>
  have tD:tF B P iG cn H0 X' lT a:=hf (.inr a) ha
  exact uS tD (k' a ha hK) (pp a)
theorem Lo{c:Code}{k:List Fr}{bI:Env}{s:St}(h:lA P N ρ c (λe bI s=>wj P N ρ Q ⟨.out e,k,bI,s⟩) bI s):lA P N ρ c (QK P N ρ Q k) bI s:=by
 intro G w a hn
 refine wpIn_mono (h G w a hn) ?_
 rintro e2 a2 w2 ⟨G',env',s2,n',x',hk⟩
 obtain⟨G3,Of,s3,n3,x3,q3⟩:=hk G' w2 a2 n'
 exact⟨G3,Of,s3,n3,x'.trans hn.iE x3,q3⟩
def NJ(P:Program)(N:Nat)(cV:List Nat){S:Nat->Type}(M:TM S):Option (FuncId×List (TV S)×xZ):=match M.o with
 |.run c=>(match c with
  |.rangeFunc g ps as body=>(match eX (lj cV M.bI) g with
   |some (.fn gf fH)=>bif enters P gf then some (gf,fH,⟨N,ps.toList,as,body⟩)else none
   |_=>none)
  |_=>none)
 |_=>none
def Qd{S:Nat->Type}(o:Option (FuncId×List (TV S)×xZ)):Option (FuncId×xZ):=o.map λp=>(p.1,p.2.2)
def Vq{S:Nat->Type}(o:Option (FuncId×List (TV S)×xZ)):List (TV S):=match o with
 |some (_,l,_)=>l
 |none=>[]
def Dn(ρ:Option Nat):Nat:=match ρ with
 |none=>1
 |some _=>0
def RO(S:Nat->Type)(ρ:Option Nat)(n:Nat):List (Nat×TB S):=match ρ with
 |none=>[(n,.raw .gb)]
 |some _=>[]
def RP(ρ:Option Nat)(cV:List Nat)(c:Nat){S:Nat->Type}(M:TM S):dI S:=⟨(M.s.bS+Dn ρ,.lp c (lj cV M.bI) 0 none)::M.s.heap,M.s.bS+Dn ρ+1⟩
def Qe(ρ:Option Nat){S:Nat->Type}(s:dI S):Bool:=match ρ with
 |none=>true
 |some id=>(match bH s.heap id with
  |some (.lp _ _ _ _)=>true
  |_=>false)
def NK{S:Nat->Type}(y:Nat)(s':dI S):Option Exit:=match bH s'.heap y with
 |some (.lp _ _ st pd)=>bif Nat.beq st 1||!(gX s'.heap y)then none else(match pd with
  |none=>some .normal
  |some none=>some .ret
  |some (some i)=>some (.exit i))
 |_=>none
def Qc(ρ:Option Nat)(cV:List Nat){S:Nat->Type}(M:TM S)(s':dI S):TM S:=⟨match NK (M.s.bS+Dn ρ) s' with
 |some e=>.out e
 |none=>M.o,M.k,lj cV M.bI,⟨RO S ρ M.s.bS++eh s'.heap (M.s.bS+Dn ρ),s'.bS⟩⟩
def tG(B:iP)(P:Program)(N:Nat)(ρ:Option Nat)(cV:List Nat)(c:Nat)(cn:List (TV B.S))(H0:dI B.S)(x:TV B.S)(H1:dI B.S)(M:TM B.S):TV B.S×dI B.S×iH:=
 eI B cn H0 x H1 (.a (.kt (M.s.bS+Dn ρ))::Vq (NJ P N cV M)) (RP ρ cV c M)
theorem uT{bI:dD B.S}: ∀{l:List Nat}{t:Nat}{x:TV B.S},bH (lj l bI) t=some x->bH bI t=some x
 | [],t,x,h=>by simp[lj,cR]at h
 |k::r,t,x,h=>by
  unfold lj at h
  split at h
  ·rename_i y hy
   simp only[cG]at h
   split at h
   ·rename_i e;subst e;cases h;exact hy
   ·exact uT h
  ·exact uT h
theorem Vr{y:Nat}{s':dI B.S}{e:Exit}{k:List Fr}{bI:Env}{mk:List (Nat×TB B.S)}(NL:lS B mk=[])(he:NK y s'=some e)(h:wj P N ρ Q ⟨.out e,k,bI,df B ⟨mk++eh s'.heap y,s'.bS⟩⟩):
  Bx P N ρ (λe bI s=>wj P N ρ Q ⟨.out e,k,bI,s⟩) bI y (kh B mk) (df B s'):=by
 unfold NK at he
 split at he
 ·rename_i c ev st pd hg
  have hl:bH (df B s').heap y=some (.loop ⟨ez B ev,(B.C c).n,(B.C c).ps,(B.C c).as,(B.C c).body,BJ st,FJ pd⟩):=by
   rw[dj hg];rfl
  cases hb:Nat.beq st 1||!(gX s'.heap y)with
  |true=>rw[hb]at he;cases he
  |false=>
   rw[hb]at he
   simp only[cond_false]at he
   rw[EH,X9]at hb
   obtain⟨hb,hd⟩:=hb
   have Zi: ∀{a b:List (Nat×TB B.S)},lS B (a++b)=lS B a++lS B b:=by
    intro a
    induction a with
    |nil=>intro b;rfl
    |cons p r ih=>intro b;obtain⟨k,x⟩:=p;simp only[vT,lS,ih,CT]
   have hs:df B ⟨mk++eh s'.heap y,s'.bS⟩=⟨kh B mk++eh (df B s').heap y,(df B s').bS⟩:=by
    have:=lV (n:=s'.bS) hd
    simp only[df,St.mk.injEq]at this
    simp only[df,FK,Zi,NL,qY,CT,this.1]
   rw[hs]at h
   refine⟨_,hl,?_,?_⟩
   ·intro e2
    have:BJ st=.busy:=e2
    unfold BJ at this
    split at this
    ·cases this
    ·cases hb
    ·cases this
   ·split at he
    ·cases he;exact h
    ·cases he;exact N0 h
    ·cases he;exactλG w a hn=>wpIn_exit (hn.after h)
 ·cases he
theorem TJ{a:α}{gf:FuncId}{cn:List (TV B.S)}{H0:dI B.S}{X:α->TV B.S}{H1:α->dI B.S}(cV:List Nat)(c:Nat)(hf:cP B P gf cn H0 X H1 a)
  (k:RT B P N ρ Q (Qc ρ cV (G B P N M).1 (tG B P N ρ cV c cn H0 (X a) (H1 a) (G B P N M).1).2.1))
  (hx:(Qd (NJ P N cV (G B P N M).1),Qe ρ (G B P N M).1.s&&(NK ((G B P N M).1.s.bS+Dn ρ) (tG B P N ρ cV c cn H0 (X a) (H1 a) (G B P N M).1).2.1).isSome,(tG B P N ρ cV c cn H0 (X a) (H1 a) (G B P N M).1).2.2.map Prod.fst,(G B P N M).2.map Prod.fst)=
   (some (gf,B.C c),true,(tG B P N ρ cV c cn H0 (X a) (H1 a) (G B P N M).1).2.2.map Prod.snd,(G B P N M).2.map Prod.snd)):RT B P N ρ Q M:=by
 simp only[Prod.mk.injEq,eW]at hx
 obtain⟨h0,⟨h1,h2⟩,h3,h4⟩:=hx
 refine rk h4 ⟨?_⟩
 have hk:=k.v
 unfold tG at h2 h3 hk
 generalize(G B P N M).1=m at *
 obtain⟨o,kk,bI,s⟩:=m
 cases hA:NJ P N cV (⟨o,kk,bI,s⟩:TM B.S)with
 |none=>rw[hA]at h0;cases h0
 |some p=>
  obtain⟨gf',fH,lc⟩:=p
  rw[hA]at h0 h2 h3 hk
  simp only[Qd,gl,Option.some.injEq,Prod.mk.injEq]at h0
  obtain⟨e1,e2⟩:=h0
  subst e1
  simp only[Vq]at h2 h3 hk
  unfold NJ at hA
  split at hA
  ·rename_i cd ho
   simp only at ho;subst ho
   split at hA
   ·rename_i g ps as body
    split at hA
    ·rename_i gf2 Qh hg
     cases he:enters P gf2 with
     |false=>simp[he]at hA
     |true=>
      simp only[he,cond_true,Option.some.injEq,Prod.mk.injEq]at hA
      obtain⟨a1,a2,a3⟩:=hA
      subst a1;subst a2;subst a3
      obtain⟨e,hE⟩:=zY.1 h2
      have hc:=Ds (s:=RP ρ cV c (⟨.run (.rangeFunc g ps as body),kk,bI,s⟩:TM B.S)) (args:=.a (.kt (s.bS+Dn ρ))::Qh) hf (dQ h3)
      generalize eI B cn H0 (X a) (H1 a) (.a (.kt (s.bS+Dn ρ))::Qh) (RP ρ cV c ⟨.run (.rangeFunc g ps as body),kk,bI,s⟩)=R at *
      obtain⟨v,s',q⟩:=R
      simp only at hE hc hk
      unfold Qc at hk
      simp only[hE]at hk
      have hk:wj P N ρ Q ⟨.out e,kk,ez B (lj cV bI),df B ⟨RO B.S ρ s.bS++eh s'.heap (s.bS+Dn ρ),s'.bS⟩⟩:=hk
      have Jf:=Vr (mk:=RO B.S ρ s.bS) (by cases ρ<;>rfl) hE hk
      have Xk:=ec (B:=B) (bI:=lj cV bI) (x:=g)
      rw[hg]at Xk
      simp only[gl,TV.er]at Xk
      have oz: ∀t x,bH (ez B (lj cV bI)) t=some x->bH (ez B bI) t=some x:=λt x hx=>by
       rw[k7]at hx |-
       obtain⟨y,hy,e3⟩:=GH.1 hx
       rw[uT hy]
       exact congrArg some e3
      have hS:wj P N ρ Q ⟨.run (.rangeFunc g ps as body),kk,ez B (lj cV bI),df B s⟩:=by
       refine Lo ?_
       cases ρ with
       |none=>
        refine zA Xk he ?_
        have eS:df B (RP none cV c (⟨.run (.rangeFunc g ps as body),kk,bI,s⟩:TM B.S))=⟨((df B s).bS+1,.loop ⟨ez B (lj cV bI),N,ps.toList,as,body,.ready,none⟩)::(df B s).heap,(df B s).bS+2⟩:=by
         simp only[RP,Dn,df,kh,lS,eH,fB,<-e2,BJ,FJ,qY,vT]
        rw[eS]at hc
        exact hc.mono λy t ht=>by obtain⟨_,ht⟩:=ht;subst ht;exact Jf
       |some iG=>
        simp only[Qe]at h1
        split at h1
        ·rename_i cc ev st pd hg0
         have zB:bH (df B s).heap iG=some (.loop ⟨ez B ev,(B.C cc).n,(B.C cc).ps,(B.C cc).as,(B.C cc).body,BJ st,FJ pd⟩):=by
          rw[dj hg0];rfl
         refine xC zB Xk he ?_
         have eS:df B (RP (some iG) cV c (⟨.run (.rangeFunc g ps as body),kk,bI,s⟩:TM B.S))=⟨((df B s).bS,.loop ⟨ez B (lj cV bI),N,ps.toList,as,body,.ready,none⟩)::(df B s).heap,(df B s).bS+1⟩:=by
          simp only[RP,Dn,df,kh,lS,eH,fB,<-e2,BJ,FJ,CD,qY,vT]
         rw[eS]at hc
         exact hc.mono λy t ht=>by obtain⟨_,ht⟩:=ht;subst ht;exact Jf
        ·cases h1
      exact rZ (bQ:=s.bS) (eu _) (Lq oz ⟨λ_ _ h=>h,eu _,λ_ h=>h⟩ FD.refl) hS
    ·cases hA
   ·cases hA
  ·cases hA
theorem tRF{o:Option α}{K:α->Option β}{gf:FuncId}{cn:List (TV B.S)}{H0:dI B.S}{X:α->TV B.S}{H1:α->dI B.S}(h:o.bind K=some r)(cV:List Nat)(c:Nat)(hf: ∀a,o=some a->cP B P gf cn H0 X H1 a)
  (k: ∀a,o=some a->K a=some r->RT B P N ρ Q (Qc ρ cV (G B P N M).1 (tG B P N ρ cV c cn H0 (X a) (H1 a) (G B P N M).1).2.1))
  (hx: ∀a,(Qd (NJ P N cV (G B P N M).1),Qe ρ (G B P N M).1.s&&(NK ((G B P N M).1.s.bS+Dn ρ) (tG B P N ρ cV c cn H0 (X a) (H1 a) (G B P N M).1).2.1).isSome,(tG B P N ρ cV c cn H0 (X a) (H1 a) (G B P N M).1).2.2.map Prod.fst,(G B P N M).2.map Prod.fst)=
   (some (gf,B.C c),true,(tG B P N ρ cV c cn H0 (X a) (H1 a) (G B P N M).1).2.2.map Prod.snd,(G B P N M).2.map Prod.snd):=by intro a;kernel_rfl):RT B P N ρ Q M:=
 let⟨a,ha,hK⟩:=ml h
 TJ cV c (hf a ha) (k a ha hK) (hx a)
theorem Vs{tA:Type}{o:Option (α⊕tA)}{K:α->Option β}{K':tA->Option β}{gf:FuncId}{cn:List (TV B.S)}{H0:dI B.S}{X:α->TV B.S}{X':tA->TV B.S}{H1:α->dI B.S}{lT:tA->dI B.S}(h:o.bind (Sum.elim K K')=some r)(cV:List Nat)(c:Nat)
  (hf: ∀a,o=some a->cP B P gf cn H0 (Sum.elim X X') (Sum.elim H1 lT) a)
  (k: ∀a,o=some (.inl a)->K a=some r->RT B P N ρ Q (Qc ρ cV (G B P N M).1 (tG B P N ρ cV c cn H0 (X a) (H1 a) (G B P N M).1).2.1))
  (k': ∀a,o=some (.inr a)->K' a=some r->RT B P N ρ Q (Qc ρ cV (G B P N M).1 (tG B P N ρ cV c cn H0 (X' a) (lT a) (G B P N M).1).2.1))
  (hx: ∀a,(Qd (NJ P N cV (G B P N M).1),Qe ρ (G B P N M).1.s&&(NK ((G B P N M).1.s.bS+Dn ρ) (tG B P N ρ cV c cn H0 (X a) (H1 a) (G B P N M).1).2.1).isSome,(tG B P N ρ cV c cn H0 (X a) (H1 a) (G B P N M).1).2.2.map Prod.fst,(G B P N M).2.map Prod.fst)=
   (some (gf,B.C c),true,(tG B P N ρ cV c cn H0 (X a) (H1 a) (G B P N M).1).2.2.map Prod.snd,(G B P N M).2.map Prod.snd):=by intro a;kernel_rfl)
  (pp: ∀a,(Qd (NJ P N cV (G B P N M).1),Qe ρ (G B P N M).1.s&&(NK ((G B P N M).1.s.bS+Dn ρ) (tG B P N ρ cV c cn H0 (X' a) (lT a) (G B P N M).1).2.1).isSome,(tG B P N ρ cV c cn H0 (X' a) (lT a) (G B P N M).1).2.2.map Prod.fst,(G B P N M).2.map Prod.fst)=
   (some (gf,B.C c),true,(tG B P N ρ cV c cn H0 (X' a) (lT a) (G B P N M).1).2.2.map Prod.snd,(G B P N M).2.map Prod.snd):=by intro a;kernel_rfl):RT B P N ρ Q M:=by
 obtain⟨a,ha,hK⟩:=ml h
 cases a with
 |inl a=>
  have tD:cP B P gf cn H0 X H1 a:=hf (.inl a) ha
  exact TJ cV c tD (k a ha hK) (hx a)
 |inr a=>
  have tD:cP B P gf cn H0 X' lT a:=hf (.inr a) ha
  exact TJ cV c tD (k' a ha hK) (pp a)
def OE(P:Program)(f k:Nat):xZ:=match Vc (zC (cF P f)) k with
 |.rangeFunc _ ps a b=>⟨nF P f,ps.toList,a,b⟩
 |_=>⟨0,[],.skip,.skip⟩
end
end Go.Am
