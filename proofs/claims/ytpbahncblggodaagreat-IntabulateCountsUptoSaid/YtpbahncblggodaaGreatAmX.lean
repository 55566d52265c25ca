/- The logic AM, X: the rules of walks on typed states. -/
import Derived.Test.YtpbahncblggodaaGreatAmV
set_option linter.all false
namespace Go.Am
open Go.RowKit
inductive FK (S:Nat->Type) where
 |no
 |ix (c:Nat) (l:List (S c)) (i:Int) (k:S c->TM S)
 |el (c:Nat) (l:List (S c)) (i:Nat) (k:S c->TM S)
 |cu (p:Prop) (k:TM S)
 |sp (b:Bool) (k:Bool->TM S)
def PJ{S:Nat->Type}(r:TR S)(f:TR S->TM S):FK S:=match r with
 |.ix c l i k=>.ix c l i λy=>f (k y)
 |.el c l i k=>.el c l i λy=>f (k y)
 |.cu p k=>.cu p (f k)
 |.sp b k=>.sp b λt=>f (k t)
 |_=>.no
section
variable (B:jc)
def PK(g:Option (Nat×Bool))(M:TM B.S):FK B.S:=match FJ B g M.bI with
 |.ask d b=>.sp b λw=>⟨M.o,M.k,eg M.bI d (.a (.bool w)),M.s⟩
 |_=>.no
def lK(M:TM B.S):FK B.S:=match M.o with
 |.po r d l y=>PJ r λr=>⟨.po r d l y,M.k,M.bI,M.s⟩
 |.pl r i b op e d l n y=>PJ r λr=>⟨.pl r i b op e d l n y,M.k,M.bI,M.s⟩
 |.ph r c d l n y=>PJ r λr=>⟨.ph r c d l n y,M.k,M.bI,M.s⟩
 |.run c=>(match c with
  |.cond t x y=>match t with
   |.tmp t=>match bH M.bI t with
    |some v=>match KJ B v with
     |some (_,b)=>.sp b λw=>⟨.run (bif w then x else y),M.k,eg M.bI t (.a (.bool w)),M.s⟩
     |none=>.no
    |none=>.no
   |_=>.no
  |_=>.no)
 |.ro l _=>(match l with
  |i::_=>PK B i.guard M
  | []=>.no)
 |.rd l _ _=>(match l with
  |⟨_,some i,_⟩::_=>PK B i.guard M
  |_=>.no)
 |_=>.no
def oc(P:Program)(op:Op)(bI:dK B.S):Option (FuncId×List AV):=match ga op with
 |some (f,a)=>match fk bI f with
  |some (.fn g fQ)=>match pc bI a with
   |some l=>bif enters P g then some (g,dY B.E (l++fQ))else none
   |none=>none
  |_=>none
 |none=>none
def Bo(P:Program)(M:TM B.S):Option (FuncId×List AV):=match M.o with
 |.ro l _=>(match l with
  |i::_=>match FJ B i.guard M.bI with
   |.go=>oc B P i.op M.bI
   |_=>none
  | []=>none)
 |.rd l n _=>(match l with
  |⟨.ir _ c,some i,sl⟩::_=>match FJ B i.guard M.bI with
   |.go=>match El B P true n M.s c with
    |some []=>oc B P i.op (nB sl M.bI)
    |_=>none
   |_=>none
  |_=>none)
 |_=>none
def X2{S:Nat->Type}(M:TM S)(v:TV S):TM S:=match M.o with
 |.ro (i::l) y=>⟨.ro l y,M.k,je i.dst v M.bI,M.s⟩
 |.rd (⟨_,some i,_⟩::l) n y=>⟨.rd l n y,M.k,je i.dst v M.bI,M.s⟩
 |_=>M
end
section
variable {S:Nat->Type}
def Yb(D:FK S)(c:Nat):Option (List (S c)×Int):=match D with
 |.ix c' l i _=>if h:c'=c then some (h ▸ l,i)else none
 |_=>none
def Yc(D:FK S)(c:Nat)(y:S c)(M:TM S):TM S:=match D with
 |.ix c' _ _ k=>if h:c=c' then k (h ▸ y)else M
 |_=>M
def elA(D:FK S)(c:Nat):Option (List (S c)×Nat):=match D with
 |.el c' l i _=>if h:c'=c then some (h ▸ l,i)else none
 |_=>none
def elK(D:FK S)(c:Nat)(y:S c)(M:TM S):TM S:=match D with
 |.el c' _ _ k=>if h:c=c' then k (h ▸ y)else M
 |_=>M
def Yd(D:FK S):Option Prop:=match D with
 |.cu p _=>some p
 |_=>none
def ndK(D:FK S)(M:TM S):TM S:=match D with
 |.cu _ k=>k
 |_=>M
def Ye(D:FK S):Option Bool:=match D with
 |.sp b _=>some b
 |_=>none
def Yf(D:FK S)(b:Bool)(M:TM S):TM S:=match D with
 |.sp _ k=>k b
 |_=>M
theorem SZ{D:FK S}{c:Nat}{l:List (S c)}{i:Int}(h:Yb D c=some (l,i))(M:TM S): ∃k,D=.ix c l i k/\ ∀y,Yc D c y M=k y:=by
 unfold Yb at h
 split at h
 ·rename_i c' l' i' k
  split at h
  ·rename_i e;subst e;cases h
   exact⟨k,rfl,λy=>by simp[Yc]⟩
  ·cases h
 ·cases h
theorem S0{D:FK S}{c:Nat}{l:List (S c)}{i:Nat}(h:elA D c=some (l,i))(M:TM S): ∃k,D=.el c l i k/\ ∀y,elK D c y M=k y:=by
 unfold elA at h
 split at h
 ·rename_i c' l' i' k
  split at h
  ·rename_i e;subst e;cases h
   exact⟨k,rfl,λy=>by simp[elK]⟩
  ·cases h
 ·cases h
theorem S1{D:FK S}{p:Prop}(h:Yd D=some p)(M:TM S):D=.cu p (ndK D M):=by
 unfold Yd at h
 split at h
 ·cases h;rfl
 ·cases h
theorem S4{D:FK S}{b:Bool}(h:Ye D=some b)(M:TM S): ∃k,D=.sp b k/\ ∀w,Yf D w M=k w:=by
 unfold Ye at h
 split at h
 ·cases h;exact⟨_,rfl,λ_=>rfl⟩
 ·cases h
end
section
variable {B:jc} {P:Program} {N:Nat} {ρ:Option Nat} {Q:Exit->Env->St->Prop}
def MP(B:jc)(P:Program)(N:Nat)(ρ:Option Nat)(Q:Exit->Env->St->Prop)(M:TM B.S):FK B.S->Prop
 |.no=>True
 |.ix _ l i k=> ∀y,ix l i=some y->kD B P N ρ Q (k y)->kD B P N ρ Q M
 |.el _ l i k=> ∀y,l[i]? =some y->kD B P N ρ Q (k y)->kD B P N ρ Q M
 |.cu p k=>p->kD B P N ρ Q k->kD B P N ρ Q M
 |.sp b k=>kD B P N ρ Q (k b)->kD B P N ρ Q M
theorem CF{M:TM B.S}{r:TR B.S}{f:TR B.S->TM B.S}(hM:M=f r)(hf: ∀r r',(∀K,r'.wp K->r.wp K)->kD B P N ρ Q (f r')->kD B P N ρ Q (f r)):MP B P N ρ Q M (PJ r f):=by
 subst hM
 cases r with
 |no=>trivial
 |ok v s=>trivial
 |eq a b k=>trivial
 |el c l i k=>exactλy hy h=>hf _ _ (λK hK=>⟨y,hy,hK⟩) h
 |ix c l i k=>exactλy hy h=>hf _ _ (λK hK=>⟨y,hy,hK⟩) h
 |cu p k=>exactλhp h=>hf _ _ (λK hK=>⟨hp,hK⟩) h
 |sp b k=>exactλh=>hf (.sp b k) (k b) (λK hK=>hK) h
theorem En{bI:dK B.S}{d:Nat}{v:TV B.S}{st b:Bool}(hv:bH bI d=some v)(hb:KJ B v=some (st,b)):eJ B (eg bI d (.a (.bool b)))=eJ B bI:=by
 rw[xn]
 exact nU (by rw[lB,hv,gy,sU hb];rfl)
theorem PL{g:Option (Nat×Bool)}{bI:dK B.S}{d:Nat}{b:Bool}(h:FJ B g bI=.ask d b): ∃v st,bH bI d=some v/\KJ B v=some (st,b):=by
 unfold FJ at h
 split at h
 ·cases h
 ·rename_i d' want
  split at h
  ·rename_i v hv
   split at h
   ·rename_i st b' hb
    cases st with
    |false=>cases h;exact⟨v,_,hv,hb⟩
    |true=>
     simp only[cS]at h
     cases hq:(b'==want)<;>rw[hq]at h<;>cases h
   ·cases hq:rz v<;>rw[hq]at h<;>cases h
  ·cases h
theorem kD.bI{M:TM B.S}{bI:dK B.S}(he:eJ B bI=eJ B M.bI)(h:kD B P N ρ Q ⟨M.o,M.k,bI,M.s⟩):kD B P N ρ Q M:=by
 obtain⟨o,k,ik,s⟩:=M
 simp only at he h
 unfold kD at h |-
 cases o<;>simp only[he]at h |- <;>exact h
theorem Im{g:Option (Nat×Bool)}{M:TM B.S}:MP B P N ρ Q M (PK B g M):=by
 unfold PK
 split
 ·rename_i d b hg
  obtain⟨v,st,hv,hb⟩:=PL hg
  exactλh=>kD.bI (En hv hb) h
 ·trivial
theorem CG(M:TM B.S):MP B P N ρ Q M (lK B M):=by
 obtain⟨o,k,bI,s⟩:=M
 unfold lK
 split
 ·rename_i r d l y ho
  simp only at ho;subst ho
  exact CF rfl λr r' h hk=>h _ hk
 ·rename_i r i b op e d l n y ho
  simp only at ho;subst ho
  exact CF rfl λr r' h hk hl hs hn=>hk hl (λK hK=>hs K (h K hK)) hn
 ·rename_i r c d l n y ho
  simp only at ho;subst ho
  exact CF rfl λr r' h hk hn=>h _ (hk hn)
 ·rename_i c ho
  simp only at ho;subst ho
  cases c<;>try trivial
  rename_i t x y
  cases t<;>try trivial
  rename_i t
  simp only
  cases hv:bH bI t with
  |none=>trivial
  |some v=>
   simp only
   cases hb:KJ B v with
   |none=>trivial
   |some p=>
    obtain⟨st,b⟩:=p
    intro h
    have hc:oper (eJ B bI) (.tmp t)=some (.bool b):=by rw[ew];simp only[fk,hv,gy,sU hb]
    have h:lT P N ρ (bif b then x else y) (QK P N ρ Q k) (eJ B (eg bI t (.a (.bool b)))) (dl B s):=h
    rw[En hv hb]at h
    exact DJ hc (λe=>by subst e;exact h) (λe=>by subst e;exact h)
 ·rename_i l y ho
  simp only at ho;subst ho
  split
  ·exact Im
  ·trivial
 ·rename_i l n y ho
  simp only at ho;subst ho
  split
  ·exact Im
  ·trivial
 ·trivial
def FT:Nat:=100000
def G(B:jc)(P:Program)(N:Nat)(M:TM B.S):TM B.S×List (AV×AV):=SX B P N noU FT M
theorem dZ{l:List (AV×AV)}(h:l.map Prod.fst=l.map Prod.snd): ∀p∈l,p.1=p.2:=by
 induction l with
 |nil=>intro p hp;cases hp
 |cons a r ih=>
  simp only[xb,List.cons.injEq]at h
  intro p hp
  rcases mU.1 hp with rfl|hp
  ·exact h.1
  ·exact ih h.2 p hp
theorem rT{M:TM B.S}(hq:(G B P N M).2.map Prod.fst=(G B P N M).2.map Prod.snd)(h:RT B P N ρ Q (G B P N M).1):RT B P N ρ Q M:=⟨kE (dZ hq) h.v⟩
variable {M:TM B.S} {β:Type} {r:β}
theorem dt(c:Nat){l:List (B.S c)}{i:Int}{K:B.S c->Option β}(h:(ix l i).bind K=some r)(k: ∀y,ix l i=some y->K y=some r->RT B P N ρ Q (Yc (lK B (G B P N M).1) c y M))
  (hx:(Yb (lK B (G B P N M).1) c,(G B P N M).2.map Prod.fst)=(some (l,i),(G B P N M).2.map Prod.snd):=by kernel_rfl):RT B P N ρ Q M:=by
 simp only[Prod.mk.injEq]at hx
 obtain⟨y,hy,hK⟩:=mK h
 obtain⟨k',hd,lx⟩:=SZ hx.1 M
 have:=CG (P:=P) (N:=N) (ρ:=ρ) (Q:=Q) (G B P N M).1
 rw[hd]at this
 have hk:=(k y hy hK).v
 rw[lx]at hk
 exact rT hx.2 ⟨this y hy hk⟩
theorem uz(c:Nat){l:List (B.S c)}{i:Int}{y:B.S c}(h:ix l i=some y)(k:RT B P N ρ Q (Yc (lK B (G B P N M).1) c y M))
  (hx:(Yb (lK B (G B P N M).1) c,(G B P N M).2.map Prod.fst)=(some (l,i),(G B P N M).2.map Prod.snd):=by kernel_rfl):RT B P N ρ Q M:=
 dt c (K:=λ_=>some ()) (r:=()) (by rw[h];rfl) (λy' On _=>by rw[h]at On;cases On;exact k) hx
theorem ja(c:Nat){l:List (B.S c)}{j:Int}{y:B.S c}(h:ix l j=some y)(k:RT B P N ρ Q (elK (lK B (G B P N M).1) c y M))
  (hx:(elA (lK B (G B P N M).1) c,(G B P N M).2.map Prod.fst)=(some (l,j.toNat),(G B P N M).2.map Prod.snd):=by kernel_rfl):RT B P N ρ Q M:=by
 simp only[Prod.mk.injEq]at hx
 obtain⟨k',hd,lx⟩:=S0 hx.1 M
 have:=CG (P:=P) (N:=N) (ρ:=ρ) (Q:=Q) (G B P N M).1
 rw[hd]at this
 have hk:=k.v
 rw[lx]at hk
 exact rT hx.2 ⟨this y (Pd h).2 hk⟩
theorem Eo{p:Prop}(h:p)(k:RT B P N ρ Q (ndK (lK B (G B P N M).1) M))
  (hx:(Yd (lK B (G B P N M).1),(G B P N M).2.map Prod.fst)=(some p,(G B P N M).2.map Prod.snd):=by kernel_rfl):RT B P N ρ Q M:=by
 simp only[Prod.mk.injEq]at hx
 have hd:=S1 hx.1 M
 have:=CG (P:=P) (N:=N) (ρ:=ρ) (Q:=Q) (G B P N M).1
 rw[hd]at this
 exact rT hx.2 ⟨this h k.v⟩
theorem fK{p:Prop}[Decidable p]{x:Option β}(h:cu p x=some r)(k:p->x=some r->RT B P N ρ Q (ndK (lK B (G B P N M).1) M))
  (hx:(Yd (lK B (G B P N M).1),(G B P N M).2.map Prod.fst)=(some p,(G B P N M).2.map Prod.snd):=by kernel_rfl):RT B P N ρ Q M:=
 let⟨hp,h⟩:=L1 h
 Eo hp (k hp h) hx
theorem tSp{b w:Bool}(h:b=w)(k:RT B P N ρ Q (Yf (lK B (G B P N M).1) w M))
  (hx:(Ye (lK B (G B P N M).1),(G B P N M).2.map Prod.fst)=(some b,(G B P N M).2.map Prod.snd):=by kernel_rfl):RT B P N ρ Q M:=by
 simp only[Prod.mk.injEq]at hx
 obtain⟨k',hd,lx⟩:=S4 hx.1 M
 have:=CG (P:=P) (N:=N) (ρ:=ρ) (Q:=Q) (G B P N M).1
 rw[hd]at this
 subst h
 have hk:=k.v
 rw[lx]at hk
 exact rT hx.2 ⟨this hk⟩
theorem cp{b:Bool}{x y:Option β}(h:(bif b then x else y)=some r)(k1:b=true->x=some r->RT B P N ρ Q (Yf (lK B (G B P N M).1) true M))(k2:b=false->y=some r->RT B P N ρ Q (Yf (lK B (G B P N M).1) false M))
  (hx:(Ye (lK B (G B P N M).1),(G B P N M).2.map Prod.fst)=(some b,(G B P N M).2.map Prod.snd):=by kernel_rfl):RT B P N ρ Q M:=by
 rcases ZW h with⟨hb,h⟩|⟨hb,h⟩
 ·exact tSp hb (k1 hb h) hx
 ·exact tSp hb (k2 hb h) hx
def cY(B:jc)(P:Program)(g:FuncId)(args:List (TV B.S)){α:Type}(X:α->TV B.S)(a:α):Prop:=nR P g (dY B.E args) ((X a).er B.E)
theorem sS{S:Nat->Type}{E:(c:Nat)->S c->AV}{a b:List (TV S)}:dY E (a++b)=dY E a++dY E b:=by simp[eG]
theorem wv{op:Op}{bI:dK B.S}{g:FuncId}{l:List AV}{x:AV}{s:St}{K:AV->St->Prop}(h:oc B P op bI=some (g,l))(hp:nR P g l x)(hk:K x s):ows P op K (eJ B bI) s:=by
 unfold oc at h
 unfold ows
 split at h
 ·rename_i f a hc
  split at h
  ·rename_i g' fQ hf
   split at h
   ·rename_i l' hl
    cases he:enters P g' with
    |false=>simp[he]at h
    |true=>
     simp only[he,cS]at h
     cases h
     simp only[hc,ew,hf,gy,lb,hl,TV.er]
     refine⟨he,?_⟩
     have:=hp s
     rw[sS]at this
     exact this.mono λy t ⟨e1,e2⟩=>by subst e1;subst e2;exact hk
   ·cases h
  ·cases h
 ·cases h
theorem MQ{g:FuncId}{l:List AV}{v:TV B.S}(h:Bo B P M=some (g,l))(hp:nR P g l (v.er B.E))(hk:kD B P N ρ Q (X2 M v)):kD B P N ρ Q M:=by
 obtain⟨o,k,bI,s⟩:=M
 unfold Bo at h
 split at h
 ·rename_i l0 y ho
  simp only at ho;subst ho
  split at h
  ·rename_i i l1
   split at h
   ·rename_i hg
    show FE _ _ _ _
    refine yC (B:=B) ?_
    simp only at hg
    rw[hg]
    have hk:qt P (YK P N ρ Q k y) l1 (eJ B (je i.dst v bI)) (dl B s):=hk
    rw[iB]at hk
    exact .inl (wv h hp hk)
   ·cases h
  ·cases h
 ·rename_i l0 n y ho
  simp only at ho;subst ho
  split at h
  ·rename_i j c i sl l1
   split at h
   ·rename_i hg
    split at h
    ·rename_i hc
     intro hn
     show FH _ _ _ _
     refine ri (B:=B) ?_
     simp only at hg
     rw[hg]
     have hk:dq P (YK P N ρ Q k y) l1 (vt B n) (eJ B (je i.dst v bI)) (dl B s):=hk hn
     rw[iB]at hk
     have:=wv (K:=λv s'=>wU P (vt B n) s' c/\dq P (YK P N ρ Q k y) l1 (vt B n) (fF i.dst v (eJ B bI)) s') (s:=dl B s) h hp ⟨nf hn (λ_=>hn) hc (λp hp=>by cases hp),hk⟩
     rw[od]at this
     exact this
    ·cases h
   ·cases h
  ·cases h
 ·cases h
theorem cx{α:Type}{o:Option α}{K:α->Option β}{g:FuncId}{args:List (TV B.S)}{X:α->TV B.S}(h:o.bind K=some r)(hf: ∀a,o=some a->cY B P g args X a)(k: ∀a,o=some a->K a=some r->RT B P N ρ Q (X2 (G B P N M).1 (X a)))
  (hx:(Bo B P (G B P N M).1,(G B P N M).2.map Prod.fst)=(some (g,dY B.E args),(G B P N M).2.map Prod.snd):=by kernel_rfl):RT B P N ρ Q M:=by
 simp only[Prod.mk.injEq]at hx
 obtain⟨a,ha,hK⟩:=mK h
 exact rT hx.2 ⟨MQ hx.1 (hf a ha) (k a ha hK).v⟩
end
end Go.Am
