/- The logic AM, X: the rules of walks on typed states. -/
import Derived.Test.YtpbahncblggodaaGreatAmV
set_option linter.all false
namespace Go.Am
open Go.RowKit
inductive EV (S:Nat->Type) where
 |no
 |ix (c:Nat) (l:List (S c)) (i:Int) (k:S c->TM S)
 |el (c:Nat) (l:List (S c)) (i:Nat) (k:S c->TM S)
 |cr (p:Prop) (k:TM S)
 |sp (b:Bool) (k:Bool->TM S)
def OW{S:Nat->Type}(r:TR S)(f:TR S->TM S):EV S:=match r with
 |.ix c l i k=>.ix c l i λy=>f (k y)
 |.el c l i k=>.el c l i λy=>f (k y)
 |.cr p k=>.cr p (f k)
 |.sp b k=>.sp b λt=>f (k t)
 |_=>.no
section
variable (B:iP)
def OX(g:Option (Nat×Bool))(M:TM B.S):EV B.S:=match EU B g M.bI with
 |.ask d b=>.sp b λw=>⟨M.o,M.k,dT M.bI d (.a (.bool w)),M.s⟩
 |_=>.no
def ln(M:TM B.S):EV B.S:=match M.o with
 |.po r d l y=>OW r λr=>⟨.po r d l y,M.k,M.bI,M.s⟩
 |.pl r i b op e d l n y=>OW r λr=>⟨.pl r i b op e d l n y,M.k,M.bI,M.s⟩
 |.ph r c d l n y=>OW r λr=>⟨.ph r c d l n y,M.k,M.bI,M.s⟩
 |.run c=>(match c with
  |.cond t x y=>match t with
   |.tmp t=>match bH M.bI t with
    |some v=>match JY B v with
     |some (_,b)=>.sp b λw=>⟨.run (bif w then x else y),M.k,dT M.bI t (.a (.bool w)),M.s⟩
     |none=>.no
    |none=>.no
   |_=>.no
  |_=>.no)
 |.ro l _=>(match l with
  |i::_=>OX B i.guard M
  | []=>.no)
 |.rd l _ _=>(match l with
  |⟨_,some i,_⟩::_=>OX B i.guard M
  |_=>.no)
 |_=>.no
def nJ(P:Program)(op:Op)(bI:dD B.S):Option (FuncId×List AV):=match fS op with
 |some (f,a)=>match eX bI f with
  |some (.fn g fH)=>match oI bI a with
   |some l=>bif enters P g then some (g,dV B.E (l++fH))else none
   |none=>none
  |_=>none
 |none=>none
def As(P:Program)(M:TM B.S):Option (FuncId×List AV):=match M.o with
 |.ro l _=>(match l with
  |i::_=>match EU B i.guard M.bI with
   |.go=>nJ B P i.op M.bI
   |_=>none
  | []=>none)
 |.rd l n _=>(match l with
  |⟨.gW _ c,some i,sl⟩::_=>match EU B i.guard M.bI with
   |.go=>match DA B P true n M.s c with
    |some []=>nJ B P i.op (nb sl M.bI)
    |_=>none
   |_=>none
  |_=>none)
 |_=>none
def Xe{S:Nat->Type}(M:TM S)(v:TV S):TM S:=match M.o with
 |.ro (i::l) y=>⟨.ro l y,M.k,iR i.dst v M.bI,M.s⟩
 |.rd (⟨_,some i,_⟩::l) n y=>⟨.rd l n y,M.k,iR i.dst v M.bI,M.s⟩
 |_=>M
end
section
variable {S:Nat->Type}
def Xn(D:EV S)(c:Nat):Option (List (S c)×Int):=match D with
 |.ix c' l i _=>if h:c'=c then some (h ▸ l,i)else none
 |_=>none
def Xo(D:EV S)(c:Nat)(y:S c)(M:TM S):TM S:=match D with
 |.ix c' _ _ k=>if h:c=c' then k (h ▸ y)else M
 |_=>M
def Zq(D:EV S)(c:Nat):Option (List (S c)×Nat):=match D with
 |.el c' l i _=>if h:c'=c then some (h ▸ l,i)else none
 |_=>none
def Zr(D:EV S)(c:Nat)(y:S c)(M:TM S):TM S:=match D with
 |.el c' _ _ k=>if h:c=c' then k (h ▸ y)else M
 |_=>M
def Xp(D:EV S):Option Prop:=match D with
 |.cr p _=>some p
 |_=>none
def Zs(D:EV S)(M:TM S):TM S:=match D with
 |.cr _ k=>k
 |_=>M
def Xq(D:EV S):Option Bool:=match D with
 |.sp b _=>some b
 |_=>none
def Xr(D:EV S)(b:Bool)(M:TM S):TM S:=match D with
 |.sp _ k=>k b
 |_=>M
theorem R3{D:EV S}{c:Nat}{l:List (S c)}{i:Int}(h:Xn D c=some (l,i))(M:TM S): ∃k,D=.ix c l i k/\ ∀y,Xo D c y M=k y:=by
 unfold Xn at h
 split at h
 ·rename_i c' l' i' k
  split at h
  ·rename_i e;subst e;cases h
   exact⟨k,rfl,λy=>by simp[Xo]⟩
  ·cases h
 ·cases h
theorem R4{D:EV S}{c:Nat}{l:List (S c)}{i:Nat}(h:Zq D c=some (l,i))(M:TM S): ∃k,D=.el c l i k/\ ∀y,Zr D c y M=k y:=by
 unfold Zq at h
 split at h
 ·rename_i c' l' i' k
  split at h
  ·rename_i e;subst e;cases h
   exact⟨k,rfl,λy=>by simp[Zr]⟩
  ·cases h
 ·cases h
theorem R5{D:EV S}{p:Prop}(h:Xp D=some p)(M:TM S):D=.cr p (Zs D M):=by
 unfold Xp at h
 split at h
 ·cases h;rfl
 ·cases h
theorem R6{D:EV S}{b:Bool}(h:Xq D=some b)(M:TM S): ∃k,D=.sp b k/\ ∀w,Xr D w M=k w:=by
 unfold Xq at h
 split at h
 ·cases h;exact⟨_,rfl,λ_=>rfl⟩
 ·cases h
end
section
variable {B:iP} {P:Program} {N:Nat} {ρ:Option Nat} {Q:Exit->Env->St->Prop}
def L3(B:iP)(P:Program)(N:Nat)(ρ:Option Nat)(Q:Exit->Env->St->Prop)(M:TM B.S):EV B.S->Prop
 |.no=>True
 |.ix _ l i k=> ∀y,ix l i=some y->ki B P N ρ Q (k y)->ki B P N ρ Q M
 |.el _ l i k=> ∀y,l[i]? =some y->ki B P N ρ Q (k y)->ki B P N ρ Q M
 |.cr p k=>p->ki B P N ρ Q k->ki B P N ρ Q M
 |.sp b k=>ki B P N ρ Q (k b)->ki B P N ρ Q M
theorem BX{M:TM B.S}{r:TR B.S}{f:TR B.S->TM B.S}(hM:M=f r)(hf: ∀r r',(∀K,r'.wp K->r.wp K)->ki B P N ρ Q (f r')->ki B P N ρ Q (f r)):L3 B P N ρ Q M (OW r f):=by
 subst hM
 cases r with
 |no=>trivial
 |ok v s=>trivial
 |eq a b k=>trivial
 |el c l i k=>exactλy hy h=>hf _ _ (λK hK=>⟨y,hy,hK⟩) h
 |ix c l i k=>exactλy hy h=>hf _ _ (λK hK=>⟨y,hy,hK⟩) h
 |cr p k=>exactλhp h=>hf _ _ (λK hK=>⟨hp,hK⟩) h
 |sp b k=>exactλh=>hf (.sp b k) (k b) (λK hK=>hK) h
theorem DC{bI:dD B.S}{d:Nat}{v:TV B.S}{st b:Bool}(hv:bH bI d=some v)(hb:JY B v=some (st,b)):ez B (dT bI d (.a (.bool b)))=ez B bI:=by
 rw[wK]
 exact nC (by rw[k7,hv,gl,sf hb];rfl)
theorem OY{g:Option (Nat×Bool)}{bI:dD B.S}{d:Nat}{b:Bool}(h:EU B g bI=.ask d b): ∃v st,bH bI d=some v/\JY B v=some (st,b):=by
 unfold EU at h
 split at h
 ·cases h
 ·rename_i d' want
  split at h
  ·rename_i v hv
   split at h
   ·rename_i st b' hb
    cases st with
    |false=>cases h;exact⟨v,_,hv,hb⟩
    |true=>
     simp only[cond_true]at h
     cases hq:(b'==want)<;>rw[hq]at h<;>cases h
   ·cases hq:qL v<;>rw[hq]at h<;>cases h
  ·cases h
theorem ki.bI{M:TM B.S}{bI:dD B.S}(he:ez B bI=ez B M.bI)(h:ki B P N ρ Q ⟨M.o,M.k,bI,M.s⟩):ki B P N ρ Q M:=by
 obtain⟨o,k,gS,s⟩:=M
 simp only at he h
 unfold ki at h |-
 cases o<;>simp only[he]at h |- <;>exact h
theorem Hy{g:Option (Nat×Bool)}{M:TM B.S}:L3 B P N ρ Q M (OX B g M):=by
 unfold OX
 split
 ·rename_i d b hg
  obtain⟨v,st,hv,hb⟩:=OY hg
  exactλh=>ki.bI (DC hv hb) h
 ·trivial
theorem BZ(M:TM B.S):L3 B P N ρ Q M (ln B M):=by
 obtain⟨o,k,bI,s⟩:=M
 unfold ln
 split
 ·rename_i r d l y ho
  simp only at ho;subst ho
  exact BX rfl λr r' h hk=>h _ hk
 ·rename_i r i b op e d l n y ho
  simp only at ho;subst ho
  exact BX rfl λr r' h hk hl hs hn=>hk hl (λK hK=>hs K (h K hK)) hn
 ·rename_i r c d l n y ho
  simp only at ho;subst ho
  exact BX rfl λr r' h hk hn=>h _ (hk hn)
 ·rename_i c ho
  simp only at ho;subst ho
  cases c<;>try trivial
  rename_i t x y
  cases t<;>try trivial
  rename_i t
  simp only
  cases hv:bH bI t with
  |none=>trivial
  |some v=>
   simp only
   cases hb:JY B v with
   |none=>trivial
   |some p=>
    obtain⟨st,b⟩:=p
    intro h
    have hc:oper (ez B bI) (.tmp t)=some (.bool b):=by rw[ec];simp only[eX,hv,gl,sf hb]
    have h:lA P N ρ (bif b then x else y) (QK P N ρ Q k) (ez B (dT bI t (.a (.bool b)))) (df B s):=h
    rw[DC hv hb]at h
    exact CY hc (λe=>by subst e;exact h) (λe=>by subst e;exact h)
 ·rename_i l y ho
  simp only at ho;subst ho
  split
  ·exact Hy
  ·trivial
 ·rename_i l n y ho
  simp only at ho;subst ho
  split
  ·exact Hy
  ·trivial
 ·trivial
def FT:Nat:=100000
def G(B:iP)(P:Program)(N:Nat)(M:TM B.S):TM B.S×List (AV×AV):=R1 B P N noU FT M
theorem dQ{l:List (AV×AV)}(h:l.map Prod.fst=l.map Prod.snd): ∀p∈l,p.1=p.2:=by
 induction l with
 |nil=>intro p hp;cases hp
 |cons a r ih=>
  simp only[wy,List.cons.injEq]at h
  intro p hp
  rcases mB.1 hp with rfl|hp
  ·exact h.1
  ·exact ih h.2 p hp
theorem rk{M:TM B.S}(hq:(G B P N M).2.map Prod.fst=(G B P N M).2.map Prod.snd)(h:RT B P N ρ Q (G B P N M).1):RT B P N ρ Q M:=⟨kl (dQ hq) h.v⟩
variable {M:TM B.S} {β:Type} {r:β}
theorem dn(c:Nat){l:List (B.S c)}{i:Int}{K:B.S c->Option β}(h:(ix l i).bind K=some r)(k: ∀y,ix l i=some y->K y=some r->RT B P N ρ Q (Xo (ln B (G B P N M).1) c y M))
  (hx:(Xn (ln B (G B P N M).1) c,(G B P N M).2.map Prod.fst)=(some (l,i),(G B P N M).2.map Prod.snd):=by kernel_rfl):RT B P N ρ Q M:=by
 simp only[Prod.mk.injEq]at hx
 obtain⟨y,hy,hK⟩:=ml h
 obtain⟨k',hd,kX⟩:=R3 hx.1 M
 have:=BZ (P:=P) (N:=N) (ρ:=ρ) (Q:=Q) (G B P N M).1
 rw[hd]at this
 have hk:=(k y hy hK).v
 rw[kX]at hk
 exact rk hx.2 ⟨this y hy hk⟩
theorem rK(c:Nat){l:List (B.S c)}{i:Int}{y:B.S c}(h:ix l i=some y)(k:RT B P N ρ Q (Xo (ln B (G B P N M).1) c y M))
  (hx:(Xn (ln B (G B P N M).1) c,(G B P N M).2.map Prod.fst)=(some (l,i),(G B P N M).2.map Prod.snd):=by kernel_rfl):RT B P N ρ Q M:=
 dn c (K:=λ_=>some ()) (r:=()) (by rw[h];rfl) (λy' ND _=>by rw[h]at ND;cases ND;exact k) hx
theorem iI(c:Nat){l:List (B.S c)}{j:Int}{y:B.S c}(h:ix l j=some y)(k:RT B P N ρ Q (Zr (ln B (G B P N M).1) c y M))
  (hx:(Zq (ln B (G B P N M).1) c,(G B P N M).2.map Prod.fst)=(some (l,j.toNat),(G B P N M).2.map Prod.snd):=by kernel_rfl):RT B P N ρ Q M:=by
 simp only[Prod.mk.injEq]at hx
 obtain⟨k',hd,kX⟩:=R4 hx.1 M
 have:=BZ (P:=P) (N:=N) (ρ:=ρ) (Q:=Q) (G B P N M).1
 rw[hd]at this
 have hk:=k.v
 rw[kX]at hk
 exact rk hx.2 ⟨this y (Oq h).2 hk⟩
theorem F0{p:Prop}(h:p)(k:RT B P N ρ Q (Zs (ln B (G B P N M).1) M))
  (hx:(Xp (ln B (G B P N M).1),(G B P N M).2.map Prod.fst)=(some p,(G B P N M).2.map Prod.snd):=by kernel_rfl):RT B P N ρ Q M:=by
 simp only[Prod.mk.injEq]at hx
 have hd:=R5 hx.1 M
 have:=BZ (P:=P) (N:=N) (ρ:=ρ) (Q:=Q) (G B P N M).1
 rw[hd]at this
 exact rk hx.2 ⟨this h k.v⟩
theorem fF{p:Prop}[Decidable p]{x:Option β}(h:cr p x=some r)(k:p->x=some r->RT B P N ρ Q (Zs (ln B (G B P N M).1) M))
  (hx:(Xp (ln B (G B P N M).1),(G B P N M).2.map Prod.fst)=(some p,(G B P N M).2.map Prod.snd):=by kernel_rfl):RT B P N ρ Q M:=
 let⟨hp,h⟩:=La h
 F0 hp (k hp h) hx
theorem tSp{b w:Bool}(h:b=w)(k:RT B P N ρ Q (Xr (ln B (G B P N M).1) w M))
  (hx:(Xq (ln B (G B P N M).1),(G B P N M).2.map Prod.fst)=(some b,(G B P N M).2.map Prod.snd):=by kernel_rfl):RT B P N ρ Q M:=by
 simp only[Prod.mk.injEq]at hx
 obtain⟨k',hd,kX⟩:=R6 hx.1 M
 have:=BZ (P:=P) (N:=N) (ρ:=ρ) (Q:=Q) (G B P N M).1
 rw[hd]at this
 subst h
 have hk:=k.v
 rw[kX]at hk
 exact rk hx.2 ⟨this hk⟩
theorem ck{b:Bool}{x y:Option β}(h:(bif b then x else y)=some r)(k1:b=true->x=some r->RT B P N ρ Q (Xr (ln B (G B P N M).1) true M))(k2:b=false->y=some r->RT B P N ρ Q (Xr (ln B (G B P N M).1) false M))
  (hx:(Xq (ln B (G B P N M).1),(G B P N M).2.map Prod.fst)=(some b,(G B P N M).2.map Prod.snd):=by kernel_rfl):RT B P N ρ Q M:=by
 rcases Y6 h with⟨hb,h⟩|⟨hb,h⟩
 ·exact tSp hb (k1 hb h) hx
 ·exact tSp hb (k2 hb h) hx
def cY(B:iP)(P:Program)(g:FuncId)(args:List (TV B.S)){α:Type}(X:α->TV B.S)(a:α):Prop:=nz P g (dV B.E args) ((X a).er B.E)
theorem sd{S:Nat->Type}{E:(c:Nat)->S c->AV}{a b:List (TV S)}:dV E (a++b)=dV E a++dV E b:=by simp[ew]
theorem vG{op:Op}{bI:dD B.S}{g:FuncId}{l:List AV}{x:AV}{s:St}{K:AV->St->Prop}(h:nJ B P op bI=some (g,l))(hp:nz P g l x)(hk:K x s):ows P op K (ez B bI) s:=by
 unfold nJ at h
 unfold ows
 split at h
 ·rename_i f a hc
  split at h
  ·rename_i g' fH hf
   split at h
   ·rename_i l' hl
    cases he:enters P g' with
    |false=>simp[he]at h
    |true=>
     simp only[he,cond_true]at h
     cases h
     simp only[hc,ec,hf,gl,kO,hl,TV.er]
     refine⟨he,?_⟩
     have:=hp s
     rw[sd]at this
     exact this.mono λy t ⟨e1,e2⟩=>by subst e1;subst e2;exact hk
   ·cases h
  ·cases h
 ·cases h
theorem L4{g:FuncId}{l:List AV}{v:TV B.S}(h:As B P M=some (g,l))(hp:nz P g l (v.er B.E))(hk:ki B P N ρ Q (Xe M v)):ki B P N ρ Q M:=by
 obtain⟨o,k,bI,s⟩:=M
 unfold As at h
 split at h
 ·rename_i l0 y ho
  simp only at ho;subst ho
  split at h
  ·rename_i i l1
   split at h
   ·rename_i hg
    show EP _ _ _ _
    refine xP (B:=B) ?_
    simp only at hg
    rw[hg]
    have hk:pW P (YK P N ρ Q k y) l1 (ez B (iR i.dst v bI)) (df B s):=hk
    rw[ic]at hk
    exact .inl (vG h hp hk)
   ·cases h
  ·cases h
 ·rename_i l0 n y ho
  simp only at ho;subst ho
  split at h
  ·rename_i j c i sl l1
   split at h
   ·rename_i hg
    split at h
    ·rename_i hc
     intro hn
     show ES _ _ _ _
     refine qC (B:=B) ?_
     simp only at hg
     rw[hg]
     have hk:dq P (YK P N ρ Q k y) l1 (uQ B n) (ez B (iR i.dst v bI)) (df B s):=hk hn
     rw[ic]at hk
     have:=vG (K:=λv s'=>wg P (uQ B n) s' c/\dq P (YK P N ρ Q k y) l1 (uQ B n) (fp i.dst v (ez B bI)) s') (s:=df B s) h hp ⟨mK hn (λ_=>hn) hc (λp hp=>by cases hp),hk⟩
     rw[nK]at this
     exact this
    ·cases h
   ·cases h
  ·cases h
 ·cases h
theorem cx{α:Type}{o:Option α}{K:α->Option β}{g:FuncId}{args:List (TV B.S)}{X:α->TV B.S}(h:o.bind K=some r)(hf: ∀a,o=some a->cY B P g args X a)(k: ∀a,o=some a->K a=some r->RT B P N ρ Q (Xe (G B P N M).1 (X a)))
  (hx:(As B P (G B P N M).1,(G B P N M).2.map Prod.fst)=(some (g,dV B.E args),(G B P N M).2.map Prod.snd):=by kernel_rfl):RT B P N ρ Q M:=by
 simp only[Prod.mk.injEq]at hx
 obtain⟨a,ha,hK⟩:=ml h
 exact rk hx.2 ⟨L4 hx.1 (hf a ha) (k a ha hK).v⟩
end
end Go.Am
