/- The logic AM, X: the rules of walks on typed states. -/
import Derived.Test.YtfdnjgoegamonaaGreatDoorAmV
set_option linter.all false
namespace Go.Am
open Go.RowKit
inductive Gm (S:Nat->Type) where
 |no
 |ix (c:Nat) (l:List (S c)) (i:Int) (k:S c->TM S)
 |el (c:Nat) (l:List (S c)) (i:Nat) (k:S c->TM S)
 |cB (p:Prop) (k:TM S)
 |sp (b:Bool) (k:Bool->TM S)
def Qj{S:Nat->Type}(r:TR S)(f:TR S->TM S):Gm S:=match r with
 |.ix c l i k=>.ix c l i λy=>f (k y)
 |.el c l i k=>.el c l i λy=>f (k y)
 |.cB p k=>.cB p (f k)
 |.sp b k=>.sp b λt=>f (k t)
 |_=>.no
section
variable (B:jg)
def Qk(g:Option (Nat×Bool))(M:TM B.S):Gm B.S:=match Gl B g M.bX with
 |.ask d b=>.sp b λw=>⟨M.o,M.k,eF M.bX d (.a (.bool w)),M.s⟩
 |_=>.no
def lY(M:TM B.S):Gm B.S:=match M.o with
 |.po r d l y=>Qj r λr=>⟨.po r d l y,M.k,M.bX,M.s⟩
 |.pl r i b op e d l n y=>Qj r λr=>⟨.pl r i b op e d l n y,M.k,M.bX,M.s⟩
 |.ph r c d l n y=>Qj r λr=>⟨.ph r c d l n y,M.k,M.bX,M.s⟩
 |.run c=>(match c with
  |.cond t x y=>match t with
   |.tmp t=>match bJ M.bX t with
    |some v=>match Lq B v with
     |some (_,b)=>.sp b λw=>⟨.run (bif w then x else y),M.k,eF M.bX t (.a (.bool w)),M.s⟩
     |none=>.no
    |none=>.no
   |_=>.no
  |_=>.no)
 |.ro l _=>(match l with
  |i::_=>Qk B i.guard M
  | []=>.no)
 |.rd l _ _=>(match l with
  |⟨_,some i,_⟩::_=>Qk B i.guard M
  |_=>.no)
 |_=>.no
def oX(P:Program)(op:Op)(bX:dU B.S):Option (FuncId×List AV):=match gx op with
 |some (f,a)=>match fG bX f with
  |some (.fn g gk)=>match pP bX a with
   |some l=>bif enters P g then some (g,eB B.E (l++gk))else none
   |none=>none
  |_=>none
 |none=>none
def BJ(P:Program)(M:TM B.S):Option (FuncId×List AV):=match M.o with
 |.ro l _=>(match l with
  |i::_=>match Gl B i.guard M.bX with
   |.go=>oX B P i.op M.bX
   |_=>none
  | []=>none)
 |.rd l n _=>(match l with
  |⟨.iI _ c,some i,sl⟩::_=>match Gl B i.guard M.bX with
   |.go=>match EI B P true n M.s c with
    |some []=>oX B P i.op (oe sl M.bX)
    |_=>none
   |_=>none
  |_=>none)
 |_=>none
def YN{S:Nat->Type}(M:TM S)(v:TV S):TM S:=match M.o with
 |.ro (i::l) y=>⟨.ro l y,M.k,jq i.dst v M.bX,M.s⟩
 |.rd (⟨_,some i,_⟩::l) n y=>⟨.rd l n y,M.k,jq i.dst v M.bX,M.s⟩
 |_=>M
end
section
variable {S:Nat->Type}
def YO(D:Gm S)(c:Nat):Option (List (S c)×Int):=match D with
 |.ix c' l i _=>if h:c'=c then some (h ▸ l,i)else none
 |_=>none
def YP(D:Gm S)(c:Nat)(y:S c)(M:TM S):TM S:=match D with
 |.ix c' _ _ k=>if h:c=c' then k (h ▸ y)else M
 |_=>M
def elA(D:Gm S)(c:Nat):Option (List (S c)×Nat):=match D with
 |.el c' l i _=>if h:c'=c then some (h ▸ l,i)else none
 |_=>none
def elK(D:Gm S)(c:Nat)(y:S c)(M:TM S):TM S:=match D with
 |.el c' _ _ k=>if h:c=c' then k (h ▸ y)else M
 |_=>M
def YQ(D:Gm S):Option Prop:=match D with
 |.cB p _=>some p
 |_=>none
def ndK(D:Gm S)(M:TM S):TM S:=match D with
 |.cB _ k=>k
 |_=>M
def YR(D:Gm S):Option Bool:=match D with
 |.sp b _=>some b
 |_=>none
def YS(D:Gm S)(b:Bool)(M:TM S):TM S:=match D with
 |.sp _ k=>k b
 |_=>M
theorem Ty{D:Gm S}{c:Nat}{l:List (S c)}{i:Int}(h:YO D c=some (l,i))(M:TM S): ∃k,D=.ix c l i k/\ ∀y,YP D c y M=k y:=by
 unfold YO at h;split at h
 ·rename_i c' l' i' k;split at h
  ·rename_i e;subst e;cases h;exact⟨k,rfl,λy=>by simp[YP]⟩
  ·cases h
 ·cases h
theorem Tz{D:Gm S}{c:Nat}{l:List (S c)}{i:Nat}(h:elA D c=some (l,i))(M:TM S): ∃k,D=.el c l i k/\ ∀y,elK D c y M=k y:=by
 unfold elA at h;split at h
 ·rename_i c' l' i' k;split at h
  ·rename_i e;subst e;cases h;exact⟨k,rfl,λy=>by simp[elK]⟩
  ·cases h
 ·cases h
theorem TA{D:Gm S}{p:Prop}(h:YQ D=some p)(M:TM S):D=.cB p (ndK D M):=by
 unfold YQ at h;split at h
 ·cases h;rfl
 ·cases h
theorem TC{D:Gm S}{b:Bool}(h:YR D=some b)(M:TM S): ∃k,D=.sp b k/\ ∀w,YS D w M=k w:=by
 unfold YR at h;split at h
 ·cases h;exact⟨_,rfl,λ_=>rfl⟩
 ·cases h
end
section
variable {B:jg} {P:Program} {N:Nat} {ρ:Option Nat} {Q:Exit->Env->St->Prop}
def M8(B:jg)(P:Program)(N:Nat)(ρ:Option Nat)(Q:Exit->Env->St->Prop)(M:TM B.S):Gm B.S->Prop
 |.no=>True
 |.ix _ l i k=> ∀y,ix l i=some y->kR B P N ρ Q (k y)->kR B P N ρ Q M
 |.el _ l i k=> ∀y,l[i]? =some y->kR B P N ρ Q (k y)->kR B P N ρ Q M
 |.cB p k=>p->kR B P N ρ Q k->kR B P N ρ Q M
 |.sp b k=>kR B P N ρ Q (k b)->kR B P N ρ Q M
theorem CY{M:TM B.S}{r:TR B.S}{f:TR B.S->TM B.S}(hM:M=f r)(hf: ∀r r',(∀K,r'.wp K->r.wp K)->kR B P N ρ Q (f r')->kR B P N ρ Q (f r)):M8 B P N ρ Q M (Qj r f):=by
 subst hM;cases r with
 |no=>trivial
 |ok v s=>trivial
 |eq a b k=>trivial
 |el c l i k=>exactλy hy h=>hf _ _ (λK hK=>⟨y,hy,hK⟩) h
 |ix c l i k=>exactλy hy h=>hf _ _ (λK hK=>⟨y,hy,hK⟩) h
 |cB p k=>exactλhp h=>hf _ _ (λK hK=>⟨hp,hK⟩) h
 |sp b k=>exactλh=>hf (.sp b k) (k b) (λK hK=>hK) h
theorem EJ{bX:dU B.S}{d:Nat}{v:TV B.S}{st b:Bool}(hv:bJ bX d=some v)(hb:Lq B v=some (st,b)):eY B (eF bX d (.a (.bool b)))=eY B bX:=by
 rw[xO];exact oP (by rw[lP,hv,gX,tl hb];rfl)
theorem Ql{g:Option (Nat×Bool)}{bX:dU B.S}{d:Nat}{b:Bool}(h:Gl B g bX=.ask d b): ∃v st,bJ bX d=some v/\Lq B v=some (st,b):=by
 unfold Gl at h;split at h
 ·cases h
 ·rename_i d' want;split at h
  ·rename_i v hv;split at h
   ·rename_i st b' hb;cases st with
    |false=>cases h;exact⟨v,_,hv,hb⟩
    |true=>
     simp only[dt]at h;cases hq:(b'==want)<;>rw[hq]at h<;>cases h
   ·cases hq:rS v<;>rw[hq]at h<;>cases h
  ·cases h
theorem kR.bX{M:TM B.S}{bX:dU B.S}(he:eY B bX=eY B M.bX)(h:kR B P N ρ Q ⟨M.o,M.k,bX,M.s⟩):kR B P N ρ Q M:=by
 obtain⟨o,k,iD,s⟩:=M;simp only at he h;unfold kR at h |-
 cases o<;>simp only[he]at h |- <;>exact h
theorem IR{g:Option (Nat×Bool)}{M:TM B.S}:M8 B P N ρ Q M (Qk B g M):=by
 unfold Qk;split
 ·rename_i d b hg;obtain⟨v,st,hv,hb⟩:=Ql hg;exactλh=>kR.bX (EJ hv hb) h
 ·trivial
theorem CZ(M:TM B.S):M8 B P N ρ Q M (lY B M):=by
 obtain⟨o,k,bX,s⟩:=M;unfold lY;split
 ·rename_i r d l y ho;simp only at ho;subst ho;exact CY rfl λr r' h hk=>h _ hk
 ·rename_i r i b op e d l n y ho;simp only at ho;subst ho;exact CY rfl λr r' h hk hl hs hn=>hk hl (λK hK=>hs K (h K hK)) hn
 ·rename_i r c d l n y ho;simp only at ho;subst ho;exact CY rfl λr r' h hk hn=>h _ (hk hn)
 ·rename_i c ho;simp only at ho;subst ho;cases c<;>try trivial
  rename_i t x y;cases t<;>try trivial
  rename_i t;simp only;cases hv:bJ bX t with
  |none=>trivial
  |some v=>
   simp only;cases hb:Lq B v with
   |none=>trivial
   |some p=>
    obtain⟨st,b⟩:=p;intro h;have hc:oper (eY B bX) (.tmp t)=some (.bool b):=by rw[eL];simp only[fG,hv,gX,tl hb]
    have h:mu P N ρ (bif b then x else y) (QK P N ρ Q k) (eY B (eF bX t (.a (.bool b)))) (dA B s):=h;rw[EJ hv hb]at h;exact Eb hc (λe=>by subst e;exact h) (λe=>by subst e;exact h)
 ·rename_i l y ho;simp only at ho;subst ho;split
  ·exact IR
  ·trivial
 ·rename_i l n y ho;simp only at ho;subst ho;split
  ·exact IR
  ·trivial
 ·trivial
def FT:Nat:=100000
def G(B:jg)(P:Program)(N:Nat)(M:TM B.S):TM B.S×List (AV×AV):=Tw B P N noU FT M
theorem eo{l:List (AV×AV)}(h:l.map Prod.fst=l.map Prod.snd): ∀p∈l,p.1=p.2:=by
 induction l with
 |nil=>intro p hp;cases hp
 |cons a r ih=>
  simp only[wy,List.cons.injEq]at h;intro p hp;rcases mZ.1 hp with rfl|hp
  ·exact h.1
  ·exact ih h.2 p hp
theorem qT{M:TM B.S}(hq:(G B P N M).2.map Prod.fst=(G B P N M).2.map Prod.snd)(h:RT B P N ρ Q (G B P N M).1):RT B P N ρ Q M:=⟨kr (eo hq) h.v⟩
variable {M:TM B.S} {β:Type} {r:β}
theorem dL(c:Nat){l:List (B.S c)}{i:Int}{K:B.S c->Option β}(h:(ix l i).bind K=some r)(k: ∀y,ix l i=some y->K y=some r->RT B P N ρ Q (YP (lY B (G B P N M).1) c y M))
  (hx:(YO (lY B (G B P N M).1) c,(G B P N M).2.map Prod.fst)=(some (l,i),(G B P N M).2.map Prod.snd):=by kernel_rfl):RT B P N ρ Q M:=by
 simp only[Prod.mk.injEq]at hx;obtain⟨y,hy,hK⟩:=mG h;obtain⟨k',hd,ky⟩:=Ty hx.1 M;have:=CZ (P:=P) (N:=N) (ρ:=ρ) (Q:=Q) (G B P N M).1;rw[hd]at this;have hk:=(k y hy hK).v;rw[ky]at hk;exact qT hx.2 ⟨this y hy hk⟩
theorem tm(c:Nat){l:List (B.S c)}{i:Int}{y:B.S c}(h:ix l i=some y)(k:RT B P N ρ Q (YP (lY B (G B P N M).1) c y M))
  (hx:(YO (lY B (G B P N M).1) c,(G B P N M).2.map Prod.fst)=(some (l,i),(G B P N M).2.map Prod.snd):=by kernel_rfl):RT B P N ρ Q M:=
 dL c (K:=λ_=>some ()) (r:=()) (by rw[h];rfl) (λy' Ee _=>by rw[h]at Ee;cases Ee;exact k) hx
theorem iN(c:Nat){l:List (B.S c)}{j:Int}{y:B.S c}(h:ix l j=some y)(k:RT B P N ρ Q (elK (lY B (G B P N M).1) c y M))
  (hx:(elA (lY B (G B P N M).1) c,(G B P N M).2.map Prod.fst)=(some (l,j.toNat),(G B P N M).2.map Prod.snd):=by kernel_rfl):RT B P N ρ Q M:=by
 simp only[Prod.mk.injEq]at hx;obtain⟨k',hd,ky⟩:=Tz hx.1 M;have:=CZ (P:=P) (N:=N) (ρ:=ρ) (Q:=Q) (G B P N M).1;rw[hd]at this;have hk:=k.v;rw[ky]at hk;exact qT hx.2 ⟨this y (P2 h).2 hk⟩
theorem uA{p:Prop}(h:p)(k:RT B P N ρ Q (ndK (lY B (G B P N M).1) M))
  (hx:(YQ (lY B (G B P N M).1),(G B P N M).2.map Prod.fst)=(some p,(G B P N M).2.map Prod.snd):=by kernel_rfl):RT B P N ρ Q M:=by
 simp only[Prod.mk.injEq]at hx;have hd:=TA hx.1 M;have:=CZ (P:=P) (N:=N) (ρ:=ρ) (Q:=Q) (G B P N M).1;rw[hd]at this;exact qT hx.2 ⟨this h k.v⟩
theorem fk{p:Prop}[Decidable p]{x:Option β}(h:cB p x=some r)(k:p->x=some r->RT B P N ρ Q (ndK (lY B (G B P N M).1) M))
  (hx:(YQ (lY B (G B P N M).1),(G B P N M).2.map Prod.fst)=(some p,(G B P N M).2.map Prod.snd):=by kernel_rfl):RT B P N ρ Q M:=
 let⟨hp,h⟩:=wM h
 uA hp (k hp h) hx
theorem tSp{b w:Bool}(h:b=w)(k:RT B P N ρ Q (YS (lY B (G B P N M).1) w M))
  (hx:(YR (lY B (G B P N M).1),(G B P N M).2.map Prod.fst)=(some b,(G B P N M).2.map Prod.snd):=by kernel_rfl):RT B P N ρ Q M:=by
 simp only[Prod.mk.injEq]at hx;obtain⟨k',hd,ky⟩:=TC hx.1 M;have:=CZ (P:=P) (N:=N) (ρ:=ρ) (Q:=Q) (G B P N M).1;rw[hd]at this;subst h;have hk:=k.v;rw[ky]at hk;exact qT hx.2 ⟨this hk⟩
theorem cC{b:Bool}{x y:Option β}(h:(bif b then x else y)=some r)(k1:b=true->x=some r->RT B P N ρ Q (YS (lY B (G B P N M).1) true M))(k2:b=false->y=some r->RT B P N ρ Q (YS (lY B (G B P N M).1) false M))
  (hx:(YR (lY B (G B P N M).1),(G B P N M).2.map Prod.fst)=(some b,(G B P N M).2.map Prod.snd):=by kernel_rfl):RT B P N ρ Q M:=by
 rcases aaq h with⟨hb,h⟩|⟨hb,h⟩
 ·exact tSp hb (k1 hb h) hx
 ·exact tSp hb (k2 hb h) hx
def dg(B:jg)(P:Program)(g:FuncId)(args:List (TV B.S)){α:Type}(X:α->TV B.S)(a:α):Prop:=kU P g (eB B.E args) ((X a).er B.E)
theorem tp{S:Nat->Type}{E:(c:Nat)->S c->AV}{a b:List (TV S)}:eB E (a++b)=eB E a++eB E b:=by simp[eV]
theorem wP{op:Op}{bX:dU B.S}{g:FuncId}{l:List AV}{x:AV}{s:St}{K:AV->St->Prop}(h:oX B P op bX=some (g,l))(hp:kU P g l x)(hk:K x s):ows P op K (eY B bX) s:=by
 unfold oX at h;unfold ows;split at h
 ·rename_i f a hc;split at h
  ·rename_i g' gk hf;split at h
   ·rename_i l' hl;cases he:enters P g' with
    |false=>simp[he]at h
    |true=>
     simp only[he,dt]at h;cases h;simp only[hc,eL,hf,gX,lD,hl,TV.er];refine⟨he,?_⟩;have:=hp s;rw[tp]at this;exact this.mono λy t ⟨e1,e2⟩=>by subst e1;subst e2;exact hk
   ·cases h
  ·cases h
 ·cases h
theorem M9{g:FuncId}{l:List AV}{v:TV B.S}(h:BJ B P M=some (g,l))(hp:kU P g l (v.er B.E))(hk:kR B P N ρ Q (YN M v)):kR B P N ρ Q M:=by
 obtain⟨o,k,bX,s⟩:=M;unfold BJ at h;split at h
 ·rename_i l0 y ho;simp only at ho;subst ho;split at h
  ·rename_i i l1;split at h
   ·rename_i hg;show Gg _ _ _ _;refine ze (B:=B) ?_;simp only at hg;rw[hg];have hk:qM P (YK P N ρ Q k y) l1 (eY B (jq i.dst v bX)) (dA B s):=hk;rw[iM]at hk;exact .inl (wP h hp hk)
   ·cases h
  ·cases h
 ·rename_i l0 n y ho;simp only at ho;subst ho;split at h
  ·rename_i j c i sl l1;split at h
   ·rename_i hg;split at h
    ·rename_i hc;intro hn;show Gj _ _ _ _;refine rT (B:=B) ?_;simp only at hg;rw[hg];have hk:dq P (YK P N ρ Q k y) l1 (vJ B n) (eY B (jq i.dst v bX)) (dA B s):=hk hn;rw[iM]at hk;have:=wP (K:=λv s'=>xn P (vJ B n) s' c/\dq P (YK P N ρ Q k y) l1 (vJ B n) (fQ i.dst v (eY B bX)) s') (s:=dA B s) h hp ⟨nM hn (λ_=>hn) hc (λp hp=>by cases hp),hk⟩;rw[oW]at this;exact this
    ·cases h
   ·cases h
  ·cases h
 ·cases h
theorem cI{α:Type}{o:Option α}{K:α->Option β}{g:FuncId}{args:List (TV B.S)}{X:α->TV B.S}(h:o.bind K=some r)(hf: ∀a,o=some a->dg B P g args X a)(k: ∀a,o=some a->K a=some r->RT B P N ρ Q (YN (G B P N M).1 (X a)))
  (hx:(BJ B P (G B P N M).1,(G B P N M).2.map Prod.fst)=(some (g,eB B.E args),(G B P N M).2.map Prod.snd):=by kernel_rfl):RT B P N ρ Q M:=by
 simp only[Prod.mk.injEq]at hx;obtain⟨a,ha,hK⟩:=mG h;exact qT hx.2 ⟨M9 hx.1 (hf a ha) (k a ha hK).v⟩
end
end Go.Am
