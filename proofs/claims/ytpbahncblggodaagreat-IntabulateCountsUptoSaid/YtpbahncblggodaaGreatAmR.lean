/- The logic AM, R: walks on typed states: loops over functions and their rounds. -/
import Derived.Test.YtpbahncblggodaaGreatAmZ
set_option linter.all false
namespace Go.Am
open Go.RowKit
section
variable {B:jc} {P:Program} {N:Nat} {ρ:Option Nat} {Q:Exit->Env->St->Prop} {M:TM B.S} {α β:Type} {r:β}
def um(B:jc)(P:Program)(id:Nat)(args:List (TV B.S))(H0:dP B.S)(X:α->TV B.S)(H1:α->dP B.S)(a:α):Prop:=
 iY P id (dY B.E args) (dl B H0) λy t=>y=(X a).er B.E/\t=dl B (H1 a)
def Ea{S:Nat->Type}:List Tmp->List (TV S)->dK S->dK S
 |t::ts,x::xs,bI=>Ea ts xs (eg bI t x)
 |_,_,bI=>bI
theorem H4: ∀{ts:List Tmp}{xs:List (TV B.S)}{bI:dK B.S},iI ts (dY B.E xs) (eJ B bI)=eJ B (Ea ts xs bI)
 | [],xs,bI=>by cases xs<;>simp[iI,Ea,dY]
 |t::ts,[],bI=>by simp[iI,Ea,dY]
 |t::ts,x::xs,bI=>by simp only[dY,iI,Ea,<-xn,H4 (ts:=ts)]
theorem Q7{c:Nat}{bI:dK B.S}{st:Nat}{pd:Option (Option Nat)}{H:dP B.S}{id:Nat}{b0:TB B.S}(hg:bH H.heap id=some b0)(h0:fR b0=false):dl B ⟨eg H.heap id (.lp c bI st pd),H.bT⟩=ic (dl B H) id ⟨eJ B bI,(B.C c).n,(B.C c).ps,(B.C c).as,(B.C c).body,Cr st,Gt pd⟩:=by
 rw[rj hg h0 rfl];rfl
def Pq(B:jc)(P:Program)(c:Nat)(bI:dK B.S)(args:List (TV B.S))(H0:dP B.S):TM B.S×iT:=G B P (B.C c).n ⟨.run (B.C c).as,[],Ea (B.C c).ps args bI,H0⟩
theorem SF{n:Nat}{cd:Code}{bI:dK B.S}{s:dP B.S}(h5:(G B P n ⟨.run cd,[],bI,s⟩).2.map Prod.fst=(G B P n ⟨.run cd,[],bI,s⟩).2.map Prod.snd)
 (k:RT B P n ρ Q (G B P n ⟨.run cd,[],bI,s⟩).1):lT P n ρ cd Q (eJ B bI) (dl B s):=(rT h5 k).v
theorem X7{id:Nat}(c:Nat)(bI:dK B.S){args:List (TV B.S)}{H0:dP B.S}{X:α->TV B.S}{H1:α->dP B.S}{a:α}
  (h:RT B P (B.C c).n (some id) (qo id (KH B H0.bT X H1 a)) ⟨.run (B.C c).body,[],(Pq B P c bI args H0).1.bI,⟨eg (Pq B P c bI args H0).1.s.heap id (.lp c bI 1 none),(Pq B P c bI args H0).1.s.bT⟩⟩)
  (hx:((Pq B P c bI args H0).1.o,(Pq B P c bI args H0).1.k,bH (Pq B P c bI args H0).1.s.heap id,(Pq B P c bI args H0).2.map Prod.fst,bH H0.heap id,Nat.beq args.length (B.C c).ps.length&&((B.C c).ps.all λt=>Nat.blt t (B.C c).n))=
   (.out .normal,[],some (.lp c bI 0 none),(Pq B P c bI args H0).2.map Prod.snd,some (.lp c bI 0 none),true):=by kernel_rfl):um B P id args H0 X H1 a:=by
 simp only[Prod.mk.injEq,fi]at hx
 obtain⟨h0,h1,h2,h5,h6,h3,h4⟩:=hx
 have hg:bH (dl B H0).heap id=some (.loop ⟨eJ B bI,(B.C c).n,(B.C c).ps,(B.C c).as,(B.C c).body,.ready,none⟩):=by
  rw[dp h6];rfl
 refine Eb (R6 hg (by rw[gN];exact jh h3) (by simpa[rO]using h4) ?_)
 simp only
 rw[H4]
 refine SF (bI:=Ea (B.C c).ps args bI) (s:=H0) h5 ?_
 unfold Pq at *
 generalize(G B P (B.C c).n ⟨.run (B.C c).as,[],Ea (B.C c).ps args bI,H0⟩).1=g at *
 obtain⟨o,k,ve,s2⟩:=g
 simp only at h0 h1 h2 h
 subst h0;subst h1
 refine⟨?_⟩
 have Z7:bH (dl B s2).heap id=some (.loop ⟨eJ B bI,(B.C c).n,(B.C c).ps,(B.C c).as,(B.C c).body,.ready,none⟩):=by
  rw[dp h2];rfl
 have h:lT P (B.C c).n (some id) (B.C c).body (qo id (KH B H0.bT X H1 a)) (eJ B ve) (dl B ⟨eg s2.heap id (.lp c bI 1 none),s2.bT⟩):=h.v
 rw[Q7 (H:=s2) h2 rfl]at h
 have mono: ∀e bI s,qo id (KH B H0.bT X H1 a) e bI s->qo id (λy s=> ∃s1 y1 bR π S2 x2,(dl B H0).bT<=bR/\rR s y s1 y1/\qq bR π S2 s1/\Co (gw bR S2.heap) π x2 y1/\x2=(X a).er B.E/\S2=dl B (H1 a)) e bI s:=by
  intro e bI s hq
  have key: ∀y s,KH B H0.bT X H1 a y s-> ∃s1 y1 bR π S2 x2,(dl B H0).bT<=bR/\rR s y s1 y1/\qq bR π S2 s1/\Co (gw bR S2.heap) π x2 y1/\x2=(X a).er B.E/\S2=dl B (H1 a):=by
   rintro y s ⟨s1,y1,yK,π,k1,k2,k3,k4⟩
   exact⟨s1,y1,yK,π,_,_,k1,k2,k3,k4,rfl,rfl⟩
  cases e<;>simp only[qo]at hq |-
  ·obtain⟨l,hl,hk⟩:=hq;exact⟨l,hl,key _ _ hk⟩
  ·obtain⟨l,hl,hk⟩:=hq;exact⟨l,hl,key _ _ hk⟩
  ·obtain⟨l,hl,hk⟩:=hq;exact⟨l,hl,key _ _ hk⟩
 exactλG w ac hn=>hn.after ⟨_,Z7,rfl,h.mono mono⟩
def Wg:Exit->Option (Bool×Nat×Option (Option Nat))
 |.normal=>some (true,0,none)
 |.ret=>some (false,2,some none)
 |.exit i=>some (false,2,some (some i))
 |_=>none
def SG(B:jc)(id bR:Nat)(x:TV B.S)(S2:dP B.S)(M:TM B.S):Option iT:=match M.o with
 |.out e=>(match M.k with
  | []=>(match Wg e with
   |some (b,st,pd)=>(match bH M.s.heap id with
    |some (.lp c bI _ _)=>Mc B bR (Md bR [(0,x)] S2 [(0,.a (.bool b))] ⟨eg M.s.heap id (.lp c bI st pd),M.s.bT⟩) [(0,x)] S2 [(0,.a (.bool b))] ⟨eg M.s.heap id (.lp c bI st pd),M.s.bT⟩
    |_=>none)
   |none=>none)
  |_=>none)
 |_=>none
theorem wm{id bR:Nat}{X:α->TV B.S}{H1:α->dP B.S}{x a:α}(h:some x=some a)(hx:((wk (SG B id bR (X x) (H1 x) (G B P N M).1)).map Prod.fst,(G B P N M).2.map Prod.fst)=
   ((wk (SG B id bR (X x) (H1 x) (G B P N M).1)).map Prod.snd,(G B P N M).2.map Prod.snd):=by kernel_rfl):RT B P N ρ (qo id (KH B bR X H1 a)) M:=by
 cases h
 simp only[Prod.mk.injEq]at hx
 obtain⟨h2,h3⟩:=hx
 refine rT h3 ⟨?_⟩
 obtain⟨q,hr,hq⟩:=yJ (dZ h2)
 generalize(G B P N M).1=g at *
 obtain⟨o,k,bI,s⟩:=g
 unfold SG at hr
 split at hr
 ·rename_i e ho
  simp only at ho;subst ho
  split at hr
  ·rename_i hk
   simp only at hk;subst hk
   split at hr
   ·rename_i b st pd he
    split at hr
    ·rename_i c ev KG pd0 hg
     simp only at hr hg
     have hI:=Cs hr hq
     obtain⟨z,HV,Gl⟩:=hI.bI 0 (((X x).er B.E)) (by simp[eJ,cM])
     have HV:z=.bool b:=by simp[eJ,cM,TV.er]at HV;exact HV.symm
     subst HV
     have hK:KH B bR X H1 x (.bool b) (dl B ⟨eg s.heap id (.lp c ev st pd),s.bT⟩):=⟨_,_,bR,_,eF _,rR.refl _ _,hI.st,Gl⟩
     rw[Q7 (H:=s) hg rfl]at hK
     have hl:bH (dl B s).heap id=some (.loop ⟨eJ B ev,(B.C c).n,(B.C c).ps,(B.C c).as,(B.C c).body,Cr KG,Gt pd0⟩):=by
      rw[dp hg];rfl
     have fin:qo id (KH B bR X H1 x) e (eJ B bI) (dl B s):=by
      unfold Wg at he
      split at he<;>first|(cases he;done)|skip
      ·cases he;exact⟨_,hl,hK⟩
      ·cases he;exact⟨_,hl,hK⟩
      ·cases he;exact⟨_,hl,hK⟩
     exactλG w a hn=>hn.after fin
    ·cases hr
   ·cases hr
  ·cases hr
 ·cases hr
theorem JW{iS id:Nat}{cq args:List (TV B.S)}{H0 H1 s:dP B.S}{x:TV B.S}{Lp Lr:List (Nat×Nat)}{j0 rest:List (Nat×TB B.S)}{ks:List Nat}(wb:rest=kU ks s.heap)
  (h:iY P iS (dY B.E cq) (dl B H0) λy t=>y=x.er B.E/\t=dl B H1)
  (hq: ∀p∈(oZ B Lp Lr j0 rest (.a (.kK iS)::cq) H0 x H1 (.a (.kK id)::args) s).2.2,p.1=p.2):iY P id (dY B.E args) (dl B s) λy t=>y=(oZ B Lp Lr j0 rest (.a (.kK iS)::cq) H0 x H1 (.a (.kK id)::args) s).1.er B.E/\t=dl B (oZ B Lp Lr j0 rest (.a (.kK iS)::cq) H0 x H1 (.a (.kK id)::args) s).2.1:=by
 unfold oZ at hq |-
 simp only at hq |-
 cases hb:Ec B Lp (uq H1.heap Lr) H0 H1 s j0 rest (s.bT+(H1.bT-H0.bT))with
 |false=>
  rw[hb]at hq
  have:=hq (.any,.iE) (by simp)
  cases this
 |true=>
  rw[hb]at hq
  simp only[cS]at hq
  split at hq
  ·rename_i q h1
   obtain⟨⟨q1,a1,e1⟩,q2,h2,e2⟩:=fY h1 hq
   obtain⟨⟨q3,a2,e3⟩,q4,h3,e4⟩:=fY h2 e2
   obtain⟨⟨q5,a3,e5⟩,q6,h4,e6⟩:=fY h3 e4
   obtain⟨⟨q9,a4,e9⟩,q10,a7,e10⟩:=fY h4 e6
   simp only[KI]at a1
   obtain⟨⟨q7,a5,e7⟩,q8,a6,e8⟩:=fY a1 e1
   have hy:Co (gw 0 (dl B H0).heap) (pw Lp (jF Lp s.bT H0.heap)) (.kK iS) (.kK id):=jR a5 e7
   cases hy with
   |c hc=>cases hc
   |y Dj DQ=>
    subst DQ
    have jT:has (dl B H0).heap iS=true:=by simpa[gw]using Dj
    exact Ch h jT (H6 wb hb a3 e5 a4 e9 a7 e10) (mL (λ_ _ _=>jR) a6 e8) (jR a2 e3)
  ·have:=hq (.any,.iE) (by simp)
   cases this
def H8(B:jc)(iS:Nat)(cq:List (TV B.S))(H0:dP B.S)(x:TV B.S)(H1:dP B.S)(id:Nat)(args:List (TV B.S))(s:dP B.S):TV B.S×dP B.S×iT:=eU B (.a (.kK iS)::cq) H0 x H1 (.a (.kK id)::args) s
theorem Me{iS id:Nat}{cq args:List (TV B.S)}{H0 H1 s:dP B.S}{x:TV B.S}(h:iY P iS (dY B.E cq) (dl B H0) λy t=>y=x.er B.E/\t=dl B H1)
 (hq: ∀p∈(H8 B iS cq H0 x H1 id args s).2.2,p.1=p.2):iY P id (dY B.E args) (dl B s) λy t=>y=(H8 B iS cq H0 x H1 id args s).1.er B.E/\t=dl B (H8 B iS cq H0 x H1 id args s).2.1:=JW rfl h hq
def xo{S:Nat->Type}(op:Op)(bI:dK S):Option (Nat×List (TV S)):=match ga op with
 |some (f,a)=>match fk bI f with
  |some (.a (.kK id))=>match pc bI a with
   |some l=>some (id,l)
   |none=>none
  |_=>none
 |none=>none
def lY(B:jc)(M:TM B.S):Option (Nat×List (TV B.S)):=match M.o with
 |.ro l _=>(match l with
  |i::_=>match FJ B i.guard M.bI with
   |.go=>xo i.op M.bI
   |_=>none
  | []=>none)
 |.rd l _ _=>(match l with
  |⟨.ir _ _,some i,sl⟩::_=>match FJ B i.guard M.bI with
   |.go=>xo i.op (nB sl M.bI)
   |_=>none
  |_=>none)
 |_=>none
def iOf{S:Nat->Type}(o:Option (Nat×List (TV S))):Nat:=match o with
 |some (i,_)=>i
 |none=>0
theorem yL{op:Op}{bI:dK B.S}{id:Nat}{l:List (TV B.S)}{s:St}{K:AV->St->Prop}(h:xo op bI=some (id,l))(hp:iY P id (dY B.E l) s K):ows P op K (eJ B bI) s:=by
 unfold xo at h
 unfold ows
 split at h
 ·rename_i f a hc
  split at h
  ·rename_i fG hf
   split at h
   ·rename_i l' hl
    cases h
    simp only[hc,ew,hf,gy,lb,hl,TV.er]
    exact hp
   ·cases h
  ·cases h
 ·cases h
theorem JX{id:Nat}{l:List (TV B.S)}{v:TV B.S}{s':dP B.S}(h:lY B M=some (id,l))(hp:iY P id (dY B.E l) (dl B M.s) λy t=>y=v.er B.E/\t=dl B s')(hq: ∀p∈jU B P M s',p.1=p.2)
  (hk:kD B P N ρ Q (rU B M v s')):kD B P N ρ Q M:=by
 obtain⟨o,k,bI,s⟩:=M
 unfold lY at h
 split at h
 ·rename_i l0 y ho
  simp only at ho;subst ho
  split at h
  ·rename_i i l1
   split at h
   ·rename_i hg
    show FE _ _ _ _
    refine yC (B:=B) ?_
    simp only at hg
    rw[hg]
    have hk:qt P (YK P N ρ Q k y) l1 (eJ B (je i.dst v bI)) (dl B s'):=hk
    rw[iB]at hk
    exact .inl (yL h (iY.mono (f:=id) hp λy t ⟨e1,e2⟩=>by subst e1;subst e2;exact hk))
   ·cases h
  ·cases h
 ·rename_i l0 n y ho
  simp only at ho;subst ho
  split at h
  ·rename_i j c i sl l1
   split at h
   ·rename_i hg
    intro hn
    show FH _ _ _ _
    refine ri (B:=B) ?_
    simp only at hg
    rw[hg]
    have hk:dq P (YK P N ρ Q k y) l1 (vt B (wo B n)) (eJ B (je i.dst v bI)) (dl B s'):=hk (rk hn)
    rw[iB,rm]at hk
    have hc:wU P (vt B n) (dl B s') c:=by
     unfold jU at hq
     simp only at hq
     split at hq
     ·rename_i q hc
      exact nf hn (λe=>by cases e) hc hq
     ·have:=hq (.any,.iE) (by simp);cases this
    have:=yL (K:=λv s'=>wU P (vt B n) s' c/\dq P (YK P N ρ Q k y) l1 (vt B n) (fF i.dst v (eJ B bI)) s') h (iY.mono (f:=id) hp λy t ⟨e1,e2⟩=>by subst e1;subst e2;exact⟨hc,hk⟩)
    rw[od]at this
    exact this
   ·cases h
  ·cases h
 ·cases h
def nA(B:jc)(iS:Nat)(cq:List (TV B.S))(H0:dP B.S)(x:TV B.S)(H1:dP B.S)(m:TM B.S):TV B.S×dP B.S×iT:=H8 B iS cq H0 x H1 (iOf (lY B m)) (nz (lY B m)) m.s
theorem vv{a:α}{iS:Nat}{cq:List (TV B.S)}{H0:dP B.S}{X:α->TV B.S}{H1:α->dP B.S}(hf:um B P iS cq H0 X H1 a)
  (k:RT B P N ρ Q (rU B (G B P N M).1 (nA B iS cq H0 (X a) (H1 a) (G B P N M).1).1 (nA B iS cq H0 (X a) (H1 a) (G B P N M).1).2.1))
  (hx:((lY B (G B P N M).1).isSome,(nA B iS cq H0 (X a) (H1 a) (G B P N M).1).2.2.map Prod.fst,(jU B P (G B P N M).1 (nA B iS cq H0 (X a) (H1 a) (G B P N M).1).2.1).map Prod.fst,(G B P N M).2.map Prod.fst)=
   (true,(nA B iS cq H0 (X a) (H1 a) (G B P N M).1).2.2.map Prod.snd,(jU B P (G B P N M).1 (nA B iS cq H0 (X a) (H1 a) (G B P N M).1).2.1).map Prod.snd,(G B P N M).2.map Prod.snd)):RT B P N ρ Q M:=by
 simp only[Prod.mk.injEq]at hx
 obtain⟨h0,h1,h2,h3⟩:=hx
 refine rT h3 ⟨?_⟩
 have hk:=k.v
 unfold nA at h1 h2 hk
 generalize(G B P N M).1=m at *
 cases hc:lY B m with
 |none=>rw[hc]at h0;cases h0
 |some p=>
  obtain⟨id,l⟩:=p
  rw[hc]at h1 h2 hk
  exact JX hc (Me hf (dZ h1)) (dZ h2) hk
theorem SH{o:Option α}{K:α->Option β}{iS:Nat}{cq:List (TV B.S)}{H0:dP B.S}{X:α->TV B.S}{H1:α->dP B.S}(h:o.bind K=some r)(hf: ∀a,o=some a->um B P iS cq H0 X H1 a)
  (k: ∀a,o=some a->K a=some r->RT B P N ρ Q (rU B (G B P N M).1 (nA B iS cq H0 (X a) (H1 a) (G B P N M).1).1 (nA B iS cq H0 (X a) (H1 a) (G B P N M).1).2.1))
  (hx: ∀a,((lY B (G B P N M).1).isSome,(nA B iS cq H0 (X a) (H1 a) (G B P N M).1).2.2.map Prod.fst,(jU B P (G B P N M).1 (nA B iS cq H0 (X a) (H1 a) (G B P N M).1).2.1).map Prod.fst,(G B P N M).2.map Prod.fst)=
   (true,(nA B iS cq H0 (X a) (H1 a) (G B P N M).1).2.2.map Prod.snd,(jU B P (G B P N M).1 (nA B iS cq H0 (X a) (H1 a) (G B P N M).1).2.1).map Prod.snd,(G B P N M).2.map Prod.snd):=by intro a;kernel_rfl):RT B P N ρ Q M:=
 let⟨a,ha,hK⟩:=mK h
 vv (hf a ha) (k a ha hK) (hx a)
theorem H9{uj:Type}{o:Option (α⊕uj)}{K:α->Option β}{K':uj->Option β}{iS:Nat}{cq:List (TV B.S)}{H0:dP B.S}{X:α->TV B.S}{X':uj->TV B.S}{H1:α->dP B.S}{mj:uj->dP B.S}(h:o.bind (Sum.elim K K')=some r)
  (hf: ∀a,o=some a->um B P iS cq H0 (Sum.elim X X') (Sum.elim H1 mj) a)
  (k: ∀a,o=some (.inl a)->K a=some r->RT B P N ρ Q (rU B (G B P N M).1 (nA B iS cq H0 (X a) (H1 a) (G B P N M).1).1 (nA B iS cq H0 (X a) (H1 a) (G B P N M).1).2.1))
  (k': ∀a,o=some (.inr a)->K' a=some r->RT B P N ρ Q (rU B (G B P N M).1 (nA B iS cq H0 (X' a) (mj a) (G B P N M).1).1 (nA B iS cq H0 (X' a) (mj a) (G B P N M).1).2.1))
  (hx: ∀a,((lY B (G B P N M).1).isSome,(nA B iS cq H0 (X a) (H1 a) (G B P N M).1).2.2.map Prod.fst,(jU B P (G B P N M).1 (nA B iS cq H0 (X a) (H1 a) (G B P N M).1).2.1).map Prod.fst,(G B P N M).2.map Prod.fst)=
   (true,(nA B iS cq H0 (X a) (H1 a) (G B P N M).1).2.2.map Prod.snd,(jU B P (G B P N M).1 (nA B iS cq H0 (X a) (H1 a) (G B P N M).1).2.1).map Prod.snd,(G B P N M).2.map Prod.snd):=by intro a;kernel_rfl)
  (pV: ∀a,((lY B (G B P N M).1).isSome,(nA B iS cq H0 (X' a) (mj a) (G B P N M).1).2.2.map Prod.fst,(jU B P (G B P N M).1 (nA B iS cq H0 (X' a) (mj a) (G B P N M).1).2.1).map Prod.fst,(G B P N M).2.map Prod.fst)=
   (true,(nA B iS cq H0 (X' a) (mj a) (G B P N M).1).2.2.map Prod.snd,(jU B P (G B P N M).1 (nA B iS cq H0 (X' a) (mj a) (G B P N M).1).2.1).map Prod.snd,(G B P N M).2.map Prod.snd):=by intro a;kernel_rfl):RT B P N ρ Q M:=by
 obtain⟨a,ha,hK⟩:=mK h
 cases a with
 |inl a=>
  have ul:um B P iS cq H0 X H1 a:=hf (.inl a) ha
  exact vv ul (k a ha hK) (hx a)
 |inr a=>
  have ul:um B P iS cq H0 X' mj a:=hf (.inr a) ha
  exact vv ul (k' a ha hK) (pV a)
theorem Mf{c:Code}{k:List Fr}{bI:Env}{s:St}(h:lT P N ρ c (λe bI s=>wW P N ρ Q ⟨.out e,k,bI,s⟩) bI s):lT P N ρ c (QK P N ρ Q k) bI s:=by
 intro G w a hn
 refine wpIn_mono (h G w a hn) ?_
 rintro e2 a2 w2 ⟨G',env',s2,n',x',hk⟩
 obtain⟨G3,O4,s3,n3,x3,q3⟩:=hk G' w2 a2 n'
 exact⟨G3,O4,s3,n3,x'.trans hn.iQ x3,q3⟩
def Ov(P:Program)(N:Nat)(db:List Nat){S:Nat->Type}(M:TM S):Option (FuncId×List (TV S)×yM):=match M.o with
 |.run c=>(match c with
  |.rangeFunc g ps as body=>(match fk (lJ db M.bI) g with
   |some (.fn gf fQ)=>bif enters P gf then some (gf,fQ,⟨N,ps.toList,as,body⟩)else none
   |_=>none)
  |_=>none)
 |_=>none
def Q4{S:Nat->Type}(o:Option (FuncId×List (TV S)×yM)):Option (FuncId×yM):=o.map λp=>(p.1,p.2.2)
def Wh{S:Nat->Type}(o:Option (FuncId×List (TV S)×yM)):List (TV S):=match o with
 |some (_,l,_)=>l
 |none=>[]
def D9(ρ:Option Nat):Nat:=match ρ with
 |none=>1
 |some _=>0
def SI(S:Nat->Type)(ρ:Option Nat)(n:Nat):List (Nat×TB S):=match ρ with
 |none=>[(n,.raw .gr)]
 |some _=>[]
def SJ(ρ:Option Nat)(db:List Nat)(c:Nat){S:Nat->Type}(M:TM S):dP S:=⟨(M.s.bT+D9 ρ,.lp c (lJ db M.bI) 0 none)::M.s.heap,M.s.bT+D9 ρ+1⟩
def Q5(ρ:Option Nat){S:Nat->Type}(s:dP S):Bool:=match ρ with
 |none=>true
 |some id=>(match bH s.heap id with
  |some (.lp _ _ _ _)=>true
  |_=>false)
def Ow{S:Nat->Type}(y:Nat)(s':dP S):Option Exit:=match bH s'.heap y with
 |some (.lp _ _ st pd)=>bif Nat.beq st 1||!(iu s'.heap y)then none else(match pd with
  |none=>some .normal
  |some none=>some .ret
  |some (some i)=>some (.exit i))
 |_=>none
def Q3(ρ:Option Nat)(db:List Nat){S:Nat->Type}(M:TM S)(s':dP S):TM S:=⟨match Ow (M.s.bT+D9 ρ) s' with
 |some e=>.out e
 |none=>M.o,M.k,lJ db M.bI,⟨SI S ρ M.s.bT++eB s'.heap (M.s.bT+D9 ρ),s'.bT⟩⟩
def uo(B:jc)(P:Program)(N:Nat)(ρ:Option Nat)(db:List Nat)(c:Nat)(cq:List (TV B.S))(H0:dP B.S)(x:TV B.S)(H1:dP B.S)(M:TM B.S):TV B.S×dP B.S×iT:=
 eU B cq H0 x H1 (.a (.kK (M.s.bT+D9 ρ))::Wh (Ov P N db M)) (SJ ρ db c M)
theorem vw{bI:dK B.S}: ∀{l:List Nat}{t:Nat}{x:TV B.S},bH (lJ l bI) t=some x->bH bI t=some x
 | [],t,x,h=>by simp[lJ,cV]at h
 |k::r,t,x,h=>by
  unfold lJ at h
  split at h
  ·rename_i y hy
   simp only[cM]at h
   split at h
   ·rename_i e;subst e;cases h;exact hy
   ·exact vw h
  ·exact vw h
theorem Wi{y:Nat}{s':dP B.S}{e:Exit}{k:List Fr}{bI:Env}{mk:List (Nat×TB B.S)}(Ox:mi B mk=[])(he:Ow y s'=some e)(h:wW P N ρ Q ⟨.out e,k,bI,dl B ⟨mk++eB s'.heap y,s'.bT⟩⟩):
  Ce P N ρ (λe bI s=>wW P N ρ Q ⟨.out e,k,bI,s⟩) bI y (kC B mk) (dl B s'):=by
 unfold Ow at he
 split at he
 ·rename_i c ev st pd hg
  have hl:bH (dl B s').heap y=some (.loop ⟨eJ B ev,(B.C c).n,(B.C c).ps,(B.C c).as,(B.C c).body,Cr st,Gt pd⟩):=by
   rw[dp hg];rfl
  cases hb:Nat.beq st 1||!(iu s'.heap y)with
  |true=>rw[hb]at he;cases he
  |false=>
   rw[hb]at he
   simp only[dj]at he
   rw[Fx,YZ]at hb
   obtain⟨hb,hd⟩:=hb
   have Z8: ∀{a b:List (Nat×TB B.S)},mi B (a++b)=mi B a++mi B b:=by
    intro a
    induction a with
    |nil=>intro b;rfl
    |cons p r ih=>intro b;obtain⟨k,x⟩:=p;simp only[wI,mi,ih,DC]
   have hs:dl B ⟨mk++eB s'.heap y,s'.bT⟩=⟨kC B mk++eB (dl B s').heap y,(dl B s').bT⟩:=by
    have:=mn (n:=s'.bT) hd
    simp only[dl,St.mk.injEq]at this
    simp only[dl,Gu,Z8,Ox,rN,DC,this.1]
   rw[hs]at h
   refine⟨_,hl,?_,?_⟩
   ·intro e2
    have:Cr st=.busy:=e2
    unfold Cr at this
    split at this
    ·cases this
    ·cases hb
    ·cases this
   ·split at he
    ·cases he;exact h
    ·cases he;exact OO h
    ·cases he;exactλG w a hn=>wpIn_exit (hn.after h)
 ·cases he
theorem UG{a:α}{gf:FuncId}{cq:List (TV B.S)}{H0:dP B.S}{X:α->TV B.S}{H1:α->dP B.S}(db:List Nat)(c:Nat)(hf:cR B P gf cq H0 X H1 a)
  (k:RT B P N ρ Q (Q3 ρ db (G B P N M).1 (uo B P N ρ db c cq H0 (X a) (H1 a) (G B P N M).1).2.1))
  (hx:(Q4 (Ov P N db (G B P N M).1),Q5 ρ (G B P N M).1.s&&(Ow ((G B P N M).1.s.bT+D9 ρ) (uo B P N ρ db c cq H0 (X a) (H1 a) (G B P N M).1).2.1).isSome,(uo B P N ρ db c cq H0 (X a) (H1 a) (G B P N M).1).2.2.map Prod.fst,(G B P N M).2.map Prod.fst)=
   (some (gf,B.C c),true,(uo B P N ρ db c cq H0 (X a) (H1 a) (G B P N M).1).2.2.map Prod.snd,(G B P N M).2.map Prod.snd)):RT B P N ρ Q M:=by
 simp only[Prod.mk.injEq,fi]at hx
 obtain⟨h0,⟨h1,h2⟩,h3,h4⟩:=hx
 refine rT h4 ⟨?_⟩
 have hk:=k.v
 unfold uo at h2 h3 hk
 generalize(G B P N M).1=m at *
 obtain⟨o,kk,bI,s⟩:=m
 cases hA:Ov P N db (⟨o,kk,bI,s⟩:TM B.S)with
 |none=>rw[hA]at h0;cases h0
 |some p=>
  obtain⟨gf',fQ,lc⟩:=p
  rw[hA]at h0 h2 h3 hk
  simp only[Q4,gy,Option.some.injEq,Prod.mk.injEq]at h0
  obtain⟨e1,e2⟩:=h0
  subst e1
  simp only[Wh]at h2 h3 hk
  unfold Ov at hA
  split at hA
  ·rename_i cd ho
   simp only at ho;subst ho
   split at hA
   ·rename_i g ps as body
    split at hA
    ·rename_i gf2 Q8 hg
     cases he:enters P gf2 with
     |false=>simp[he]at hA
     |true=>
      simp only[he,cS,Option.some.injEq,Prod.mk.injEq]at hA
      obtain⟨a1,a2,a3⟩:=hA
      subst a1;subst a2;subst a3
      obtain⟨e,hE⟩:=AM.1 h2
      have hc:=Ed (s:=SJ ρ db c (⟨.run (.rangeFunc g ps as body),kk,bI,s⟩:TM B.S)) (args:=.a (.kK (s.bT+D9 ρ))::Q8) hf (dZ h3)
      generalize eU B cq H0 (X a) (H1 a) (.a (.kK (s.bT+D9 ρ))::Q8) (SJ ρ db c ⟨.run (.rangeFunc g ps as body),kk,bI,s⟩)=R at *
      obtain⟨v,s',q⟩:=R
      simp only at hE hc hk
      unfold Q3 at hk
      simp only[hE]at hk
      have hk:wW P N ρ Q ⟨.out e,kk,eJ B (lJ db bI),dl B ⟨SI B.S ρ s.bT++eB s'.heap (s.bT+D9 ρ),s'.bT⟩⟩:=hk
      have Pr:=Wi (mk:=SI B.S ρ s.bT) (by cases ρ<;>rfl) hE hk
      have X8:=ew (B:=B) (bI:=lJ db bI) (x:=g)
      rw[hg]at X8
      simp only[gy,TV.er]at X8
      have oR: ∀t x,bH (eJ B (lJ db bI)) t=some x->bH (eJ B bI) t=some x:=λt x hx=>by
       rw[lB]at hx |-
       obtain⟨y,hy,e3⟩:=Hy.1 hx
       rw[vw hy]
       exact fA some e3
      have hS:wW P N ρ Q ⟨.run (.rangeFunc g ps as body),kk,eJ B (lJ db bI),dl B s⟩:=by
       refine Mf ?_
       cases ρ with
       |none=>
        refine Al X8 he ?_
        have eS:dl B (SJ none db c (⟨.run (.rangeFunc g ps as body),kk,bI,s⟩:TM B.S))=⟨((dl B s).bT+1,.loop ⟨eJ B (lJ db bI),N,ps.toList,as,body,.ready,none⟩)::(dl B s).heap,(dl B s).bT+2⟩:=by
         simp only[SJ,D9,dl,kC,mi,eR,fx,<-e2,Cr,Gt,rN,wI]
        rw[eS]at hc
        exact hc.mono λy t ht=>by obtain⟨_,ht⟩:=ht;subst ht;exact Pr
       |some iS=>
        simp only[Q5]at h1
        split at h1
        ·rename_i cc ev st pd hg0
         have An:bH (dl B s).heap iS=some (.loop ⟨eJ B ev,(B.C cc).n,(B.C cc).ps,(B.C cc).as,(B.C cc).body,Cr st,Gt pd⟩):=by
          rw[dp hg0];rfl
         refine yl An X8 he ?_
         have eS:dl B (SJ (some iS) db c (⟨.run (.rangeFunc g ps as body),kk,bI,s⟩:TM B.S))=⟨((dl B s).bT,.loop ⟨eJ B (lJ db bI),N,ps.toList,as,body,.ready,none⟩)::(dl B s).heap,(dl B s).bT+1⟩:=by
          simp only[SJ,D9,dl,kC,mi,eR,fx,<-e2,Cr,Gt,Dl,rN,wI]
         rw[eS]at hc
         exact hc.mono λy t ht=>by obtain⟨_,ht⟩:=ht;subst ht;exact Pr
        ·cases h1
      exact sR (bR:=s.bT) (eF _) (Mg oR ⟨λ_ _ h=>h,eF _,λ_ h=>h⟩ Gm.refl) hS
    ·cases hA
   ·cases hA
  ·cases hA
theorem tRF{o:Option α}{K:α->Option β}{gf:FuncId}{cq:List (TV B.S)}{H0:dP B.S}{X:α->TV B.S}{H1:α->dP B.S}(h:o.bind K=some r)(db:List Nat)(c:Nat)(hf: ∀a,o=some a->cR B P gf cq H0 X H1 a)
  (k: ∀a,o=some a->K a=some r->RT B P N ρ Q (Q3 ρ db (G B P N M).1 (uo B P N ρ db c cq H0 (X a) (H1 a) (G B P N M).1).2.1))
  (hx: ∀a,(Q4 (Ov P N db (G B P N M).1),Q5 ρ (G B P N M).1.s&&(Ow ((G B P N M).1.s.bT+D9 ρ) (uo B P N ρ db c cq H0 (X a) (H1 a) (G B P N M).1).2.1).isSome,(uo B P N ρ db c cq H0 (X a) (H1 a) (G B P N M).1).2.2.map Prod.fst,(G B P N M).2.map Prod.fst)=
   (some (gf,B.C c),true,(uo B P N ρ db c cq H0 (X a) (H1 a) (G B P N M).1).2.2.map Prod.snd,(G B P N M).2.map Prod.snd):=by intro a;kernel_rfl):RT B P N ρ Q M:=
 let⟨a,ha,hK⟩:=mK h
 UG db c (hf a ha) (k a ha hK) (hx a)
theorem Wj{uj:Type}{o:Option (α⊕uj)}{K:α->Option β}{K':uj->Option β}{gf:FuncId}{cq:List (TV B.S)}{H0:dP B.S}{X:α->TV B.S}{X':uj->TV B.S}{H1:α->dP B.S}{mj:uj->dP B.S}(h:o.bind (Sum.elim K K')=some r)(db:List Nat)(c:Nat)
  (hf: ∀a,o=some a->cR B P gf cq H0 (Sum.elim X X') (Sum.elim H1 mj) a)
  (k: ∀a,o=some (.inl a)->K a=some r->RT B P N ρ Q (Q3 ρ db (G B P N M).1 (uo B P N ρ db c cq H0 (X a) (H1 a) (G B P N M).1).2.1))
  (k': ∀a,o=some (.inr a)->K' a=some r->RT B P N ρ Q (Q3 ρ db (G B P N M).1 (uo B P N ρ db c cq H0 (X' a) (mj a) (G B P N M).1).2.1))
  (hx: ∀a,(Q4 (Ov P N db (G B P N M).1),Q5 ρ (G B P N M).1.s&&(Ow ((G B P N M).1.s.bT+D9 ρ) (uo B P N ρ db c cq H0 (X a) (H1 a) (G B P N M).1).2.1).isSome,(uo B P N ρ db c cq H0 (X a) (H1 a) (G B P N M).1).2.2.map Prod.fst,(G B P N M).2.map Prod.fst)=
   (some (gf,B.C c),true,(uo B P N ρ db c cq H0 (X a) (H1 a) (G B P N M).1).2.2.map Prod.snd,(G B P N M).2.map Prod.snd):=by intro a;kernel_rfl)
  (pV: ∀a,(Q4 (Ov P N db (G B P N M).1),Q5 ρ (G B P N M).1.s&&(Ow ((G B P N M).1.s.bT+D9 ρ) (uo B P N ρ db c cq H0 (X' a) (mj a) (G B P N M).1).2.1).isSome,(uo B P N ρ db c cq H0 (X' a) (mj a) (G B P N M).1).2.2.map Prod.fst,(G B P N M).2.map Prod.fst)=
   (some (gf,B.C c),true,(uo B P N ρ db c cq H0 (X' a) (mj a) (G B P N M).1).2.2.map Prod.snd,(G B P N M).2.map Prod.snd):=by intro a;kernel_rfl):RT B P N ρ Q M:=by
 obtain⟨a,ha,hK⟩:=mK h
 cases a with
 |inl a=>
  have ul:cR B P gf cq H0 X H1 a:=hf (.inl a) ha
  exact UG db c ul (k a ha hK) (hx a)
 |inr a=>
  have ul:cR B P gf cq H0 X' mj a:=hf (.inr a) ha
  exact UG db c ul (k' a ha hK) (pV a)
def Ps(P:Program)(f k:Nat):yM:=match V4 (Ao (cF P f)) k with
 |.rangeFunc _ ps a b=>⟨nF P f,ps.toList,a,b⟩
 |_=>⟨0,[],.skip,.skip⟩
end
end Go.Am
