/- The logic AM, X: the rules of walks on typed states. -/
import Derived.Test.YtgpciecmgoppiaaGreatAmV
set_option linter.all false
namespace Go.Am
open Go.RowKit
inductive Gd (S:Nat->Type) where
 |no
 |ix (c:Nat) (l:List (S c)) (i:Int) (k:S c->TM S)
 |el (c:Nat) (l:List (S c)) (i:Nat) (k:S c->TM S)
 |bZ (p:Prop) (k:TM S)
 |sp (b:Bool) (k:Bool->TM S)
def QV{S:Nat->Type}(r:TR S)(f:TR S->TM S):Gd S:=match r with
 |.ix c l i k=>.ix c l i λy=>f (k y)
 |.el c l i k=>.el c l i λy=>f (k y)
 |.bZ p k=>.bZ p (f k)
 |.sp b k=>.sp b λt=>f (k t)
 |_=>.no
section
variable (B:iU)
def QW(g:Option (Nat×Bool))(M:TM B.S):Gd B.S:=match Gc B g M.bf with
 |.ask d b=>.sp b λw=>⟨M.o,M.k,dM M.bf d (.a (.bool w)),M.s⟩
 |_=>.no
def lZ(M:TM B.S):Gd B.S:=match M.o with
 |.po r d l y=>QV r λr=>⟨.po r d l y,M.k,M.bf,M.s⟩
 |.pl r i b op e d l n y=>QV r λr=>⟨.pl r i b op e d l n y,M.k,M.bf,M.s⟩
 |.ph r c d l n y=>QV r λr=>⟨.ph r c d l n y,M.k,M.bf,M.s⟩
 |.run c=>(match c with
  |.cond t x y=>match t with
   |.tmp t=>match bn M.bf t with
    |some v=>match LQ B v with
     |some (_,b)=>.sp b λw=>⟨.run (bif w then x else y),M.k,dM M.bf t (.a (.bool w)),M.s⟩
     |none=>.no
    |none=>.no
   |_=>.no
  |_=>.no)
 |.ro l _=>(match l with
  |i::_=>QW B i.guard M
  | []=>.no)
 |.rd l _ _=>(match l with
  |⟨_,some i,_⟩::_=>QW B i.guard M
  |_=>.no)
 |_=>.no
def oH(P:Program)(op:Op)(bf:dB B.S):Option (FuncId×List AV):=match fW op with
 |some (f,a)=>match fp bf f with
  |some (.fn g fi)=>match nU bf a with
   |some l=>bif enters P g then some (g,dY B.E (l++fi))else none
   |none=>none
  |_=>none
 |none=>none
def Br(P:Program)(M:TM B.S):Option (FuncId×List AV):=match M.o with
 |.ro l _=>(match l with
  |i::_=>match Gc B i.guard M.bf with
   |.go=>oH B P i.op M.bf
   |_=>none
  | []=>none)
 |.rd l n _=>(match l with
  |⟨.gz _ c,some i,sl⟩::_=>match Gc B i.guard M.bf with
   |.go=>match Eu B P true n M.s c with
    |some []=>oH B P i.op (lD sl M.bf)
    |_=>none
   |_=>none
  |_=>none)
 |_=>none
def Zk{S:Nat->Type}(M:TM S)(v:TV S):TM S:=match M.o with
 |.ro (i::l) y=>⟨.ro l y,M.k,jh i.dst v M.bf,M.s⟩
 |.rd (⟨_,some i,_⟩::l) n y=>⟨.rd l n y,M.k,jh i.dst v M.bf,M.s⟩
 |_=>M
end
section
variable {S:Nat->Type}
def Zl(D:Gd S)(c:Nat):Option (List (S c)×Int):=match D with
 |.ix c' l i _=>if h:c'=c then some (h ▸ l,i)else none
 |_=>none
def Zm(D:Gd S)(c:Nat)(y:S c)(M:TM S):TM S:=match D with
 |.ix c' _ _ k=>if h:c=c' then k (h ▸ y)else M
 |_=>M
def elA(D:Gd S)(c:Nat):Option (List (S c)×Nat):=match D with
 |.el c' l i _=>if h:c'=c then some (h ▸ l,i)else none
 |_=>none
def elK(D:Gd S)(c:Nat)(y:S c)(M:TM S):TM S:=match D with
 |.el c' _ _ k=>if h:c=c' then k (h ▸ y)else M
 |_=>M
def Zn(D:Gd S):Option Prop:=match D with
 |.bZ p _=>some p
 |_=>none
def ndK(D:Gd S)(M:TM S):TM S:=match D with
 |.bZ _ k=>k
 |_=>M
def Zo(D:Gd S):Option Bool:=match D with
 |.sp b _=>some b
 |_=>none
def Zp(D:Gd S)(b:Bool)(M:TM S):TM S:=match D with
 |.sp _ k=>k b
 |_=>M
theorem Ur{D:Gd S}{c:Nat}{l:List (S c)}{i:Int}(h:Zl D c=some (l,i))(M:TM S): ∃k,D=.ix c l i k/\ ∀y,Zm D c y M=k y:=by
 unfold Zl at h;split at h
 ·rename_i c' l' i' k;split at h
  ·rename_i e;subst e;cases h;exact⟨k,rfl,λy=>by simp[Zm]⟩
  ·cases h
 ·cases h
theorem Us{D:Gd S}{c:Nat}{l:List (S c)}{i:Nat}(h:elA D c=some (l,i))(M:TM S): ∃k,D=.el c l i k/\ ∀y,elK D c y M=k y:=by
 unfold elA at h;split at h
 ·rename_i c' l' i' k;split at h
  ·rename_i e;subst e;cases h;exact⟨k,rfl,λy=>by simp[elK]⟩
  ·cases h
 ·cases h
theorem Ut{D:Gd S}{p:Prop}(h:Zn D=some p)(M:TM S):D=.bZ p (ndK D M):=by
 unfold Zn at h;split at h
 ·cases h;rfl
 ·cases h
theorem Uu{D:Gd S}{b:Bool}(h:Zo D=some b)(M:TM S): ∃k,D=.sp b k/\ ∀w,Zp D w M=k w:=by
 unfold Zo at h;split at h
 ·cases h;exact⟨_,rfl,λ_=>rfl⟩
 ·cases h
end
section
variable {B:iU} {P:Program} {N:Nat} {ρ:Option Nat} {Q:Exit->Env->St->Prop}
def NO(B:iU)(P:Program)(N:Nat)(ρ:Option Nat)(Q:Exit->Env->St->Prop)(M:TM B.S):Gd B.S->Prop
 |.no=>True
 |.ix _ l i k=> ∀y,ix l i=some y->kU B P N ρ Q (k y)->kU B P N ρ Q M
 |.el _ l i k=> ∀y,l[i]? =some y->kU B P N ρ Q (k y)->kU B P N ρ Q M
 |.bZ p k=>p->kU B P N ρ Q k->kU B P N ρ Q M
 |.sp b k=>kU B P N ρ Q (k b)->kU B P N ρ Q M
theorem CL{M:TM B.S}{r:TR B.S}{f:TR B.S->TM B.S}(hM:M=f r)(hf: ∀r r',(∀K,r'.wp K->r.wp K)->kU B P N ρ Q (f r')->kU B P N ρ Q (f r)):NO B P N ρ Q M (QV r f):=by
 subst hM;cases r with
 |no=>trivial
 |ok v s=>trivial
 |eq a b k=>trivial
 |el c l i k=>exactλy hy h=>hf _ _ (λK hK=>⟨y,hy,hK⟩) h
 |ix c l i k=>exactλy hy h=>hf _ _ (λK hK=>⟨y,hy,hK⟩) h
 |bZ p k=>exactλhp h=>hf _ _ (λK hK=>⟨hp,hK⟩) h
 |sp b k=>exactλh=>hf (.sp b k) (k b) (λK hK=>hK) h
theorem Ev{bf:dB B.S}{d:Nat}{v:TV B.S}{st b:Bool}(hv:bn bf d=some v)(hb:LQ B v=some (st,b)):eI B (dM bf d (.a (.bool b)))=eI B bf:=by
 rw[xw];exact ry (by rw[lR,hv,iJ,sQ hb];rfl)
theorem QX{g:Option (Nat×Bool)}{bf:dB B.S}{d:Nat}{b:Bool}(h:Gc B g bf=.ask d b): ∃v st,bn bf d=some v/\LQ B v=some (st,b):=by
 unfold Gc at h
 grind
theorem kU.bf{M:TM B.S}{bf:dB B.S}(he:eI B bf=eI B M.bf)(h:kU B P N ρ Q ⟨M.o,M.k,bf,M.s⟩):kU B P N ρ Q M:=by
 obtain⟨o,k,iC,s⟩:=M;simp only at he h;unfold kU at h |-
 simp_all
theorem IW{g:Option (Nat×Bool)}{M:TM B.S}:NO B P N ρ Q M (QW B g M):=by
 unfold QW;split
 ·rename_i d b hg;obtain⟨v,st,hv,hb⟩:=QX hg;exactλh=>kU.bf (Ev hv hb) h
 ·trivial
theorem CM(M:TM B.S):NO B P N ρ Q M (lZ B M):=by
 obtain⟨o,k,bf,s⟩:=M;unfold lZ;split
 ·rename_i r d l y ho;simp only at ho;subst ho;exact CL rfl λr r' h hk=>h _ hk
 ·rename_i r i b op e d l n y ho;simp only at ho;subst ho;exact CL rfl λr r' h hk hl hs hn=>hk hl (λK hK=>hs K (h K hK)) hn
 ·rename_i r c d l n y ho;simp only at ho;subst ho;exact CL rfl λr r' h hk hn=>h _ (hk hn)
 ·rename_i c ho;simp only at ho;subst ho;cases c<;>try trivial
  rename_i t x y;cases t<;>try trivial
  rename_i t;simp only;cases hv:bn bf t with
  |none=>trivial
  |some v=>
   simp only;cases hb:LQ B v with
   |none=>trivial
   |some p=>
    obtain⟨st,b⟩:=p;intro h;have hc:oper (eI B bf) (.tmp t)=some (.bool b):=by rw[ee];simp only[fp,hv,iJ,sQ hb]
    have h:gY P N ρ (bif b then x else y) (QK P N ρ Q k) (eI B (dM bf t (.a (.bool b)))) (db B s):=h;rw[Ev hv hb]at h;exact xZ hc (λe=>by grind) (λe=>by grind)
 ·rename_i l y ho;simp only at ho;subst ho;split
  ·exact IW
  ·trivial
 ·rename_i l n y ho;simp only at ho;subst ho;split
  ·exact IW
  ·trivial
 ·trivial
def FT:Nat:=100000
def G(B:iU)(P:Program)(N:Nat)(M:TM B.S):TM B.S×List (AV×AV):=Uo B P N noU FT M
theorem dW{l:List (AV×AV)}(h:l.map Prod.fst=l.map Prod.snd): ∀p∈l,p.1=p.2:=by
 induction l with
 |nil=>grind
 |cons a r ih=>
  grind
theorem sd{M:TM B.S}(hq:(G B P N M).2.map Prod.fst=(G B P N M).2.map Prod.snd)(h:RT B P N ρ Q (G B P N M).1):RT B P N ρ Q M:=⟨kW (dW hq) h.v⟩
variable {M:TM B.S} {β:Type} {r:β}
theorem dg(c:Nat){l:List (B.S c)}{i:Int}{K:B.S c->Option β}(h:(ix l i).bind K=some r)(k: ∀y,ix l i=some y->K y=some r->RT B P N ρ Q (Zm (lZ B (G B P N M).1) c y M))
  (hx:(Zl (lZ B (G B P N M).1) c,(G B P N M).2.map Prod.fst)=(some (l,i),(G B P N M).2.map Prod.snd):=by kernel_rfl):RT B P N ρ Q M:=by
 simp only[Prod.mk.injEq]at hx;obtain⟨y,hy,hK⟩:=lY h;obtain⟨k',hd,ye⟩:=Ur hx.1 M;have:=CM (P:=P) (N:=N) (ρ:=ρ) (Q:=Q) (G B P N M).1;rw[hd]at this;have hk:=(k y hy hK).v;rw[ye]at hk;exact sd hx.2 ⟨this y hy hk⟩
theorem qH(c:Nat){l:List (B.S c)}{i:Int}{y:B.S c}(h:ix l i=some y)(k:RT B P N ρ Q (Zm (lZ B (G B P N M).1) c y M))
  (hx:(Zl (lZ B (G B P N M).1) c,(G B P N M).2.map Prod.fst)=(some (l,i),(G B P N M).2.map Prod.snd):=by kernel_rfl):RT B P N ρ Q M:=
 dg c (K:=λ_=>some ()) (r:=()) (by rw[h];rfl) (λy' VR _=>by grind) hx
theorem iy(c:Nat){l:List (B.S c)}{j:Int}{y:B.S c}(h:ix l j=some y)(k:RT B P N ρ Q (elK (lZ B (G B P N M).1) c y M))
  (hx:(elA (lZ B (G B P N M).1) c,(G B P N M).2.map Prod.fst)=(some (l,j.toNat),(G B P N M).2.map Prod.snd):=by kernel_rfl):RT B P N ρ Q M:=by
 simp only[Prod.mk.injEq]at hx;obtain⟨k',hd,ye⟩:=Us hx.1 M;have:=CM (P:=P) (N:=N) (ρ:=ρ) (Q:=Q) (G B P N M).1;rw[hd]at this;have hk:=k.v;rw[ye]at hk;exact sd hx.2 ⟨this y (Qw h).2 hk⟩
theorem Ew{p:Prop}(h:p)(k:RT B P N ρ Q (ndK (lZ B (G B P N M).1) M))
  (hx:(Zn (lZ B (G B P N M).1),(G B P N M).2.map Prod.fst)=(some p,(G B P N M).2.map Prod.snd):=by kernel_rfl):RT B P N ρ Q M:=by
 simp only[Prod.mk.injEq]at hx;have hd:=Ut hx.1 M;have:=CM (P:=P) (N:=N) (ρ:=ρ) (Q:=Q) (G B P N M).1;rw[hd]at this;exact sd hx.2 ⟨this h k.v⟩
theorem fe{p:Prop}[Decidable p]{x:Option β}(h:bZ p x=some r)(k:p->x=some r->RT B P N ρ Q (ndK (lZ B (G B P N M).1) M))
  (hx:(Zn (lZ B (G B P N M).1),(G B P N M).2.map Prod.fst)=(some p,(G B P N M).2.map Prod.snd):=by kernel_rfl):RT B P N ρ Q M:=
 let⟨hp,h⟩:=MZ h
 Ew hp (k hp h) hx
theorem tSp{b w:Bool}(h:b=w)(k:RT B P N ρ Q (Zp (lZ B (G B P N M).1) w M))
  (hx:(Zo (lZ B (G B P N M).1),(G B P N M).2.map Prod.fst)=(some b,(G B P N M).2.map Prod.snd):=by kernel_rfl):RT B P N ρ Q M:=by
 simp only[Prod.mk.injEq]at hx;obtain⟨k',hd,ye⟩:=Uu hx.1 M;have:=CM (P:=P) (N:=N) (ρ:=ρ) (Q:=Q) (G B P N M).1;rw[hd]at this;subst h;have hk:=k.v;rw[ye]at hk;exact sd hx.2 ⟨this hk⟩
theorem bV{b:Bool}{x y:Option β}(h:(bif b then x else y)=some r)(k1:b=true->x=some r->RT B P N ρ Q (Zp (lZ B (G B P N M).1) true M))(k2:b=false->y=some r->RT B P N ρ Q (Zp (lZ B (G B P N M).1) false M))
  (hx:(Zo (lZ B (G B P N M).1),(G B P N M).2.map Prod.fst)=(some b,(G B P N M).2.map Prod.snd):=by kernel_rfl):RT B P N ρ Q M:=by
 rcases aaA h with⟨hb,h⟩|⟨hb,h⟩
 all_goals grind [tSp]
def cH(B:iU)(P:Program)(g:FuncId)(args:List (TV B.S)){α:Type}(X:α->TV B.S)(a:α):Prop:=nf P g (dY B.E args) ((X a).er B.E)
theorem sR{S:Nat->Type}{E:(c:Nat)->S c->AV}{a b:List (TV S)}:dY E (a++b)=dY E a++dY E b:=by simp[eD]
theorem wF{op:Op}{bf:dB B.S}{g:FuncId}{l:List AV}{x:AV}{s:St}{K:AV->St->Prop}(h:oH B P op bf=some (g,l))(hp:nf P g l x)(hk:K x s):ows P op K (eI B bf) s:=by
 unfold oH at h;unfold ows;split at h
 ·rename_i f a hc;split at h
  ·rename_i g' fi hf;split at h
   ·rename_i l' hl;cases he:enters P g' with
    |false=>grind
    |true=>
     simp only[he,cP]at h;cases h;simp only[hc,ee,hf,iJ,lC,hl,TV.er];refine⟨he,?_⟩;have:=hp s;rw[sR]at this;exact this.mono λy t ⟨e1,e2⟩=>by grind
   ·cases h
  ·cases h
 ·cases h
theorem NP{g:FuncId}{l:List AV}{v:TV B.S}(h:Br B P M=some (g,l))(hp:nf P g l (v.er B.E))(hk:kU B P N ρ Q (Zk M v)):kU B P N ρ Q M:=by
 obtain⟨o,k,bf,s⟩:=M;unfold Br at h;split at h
 ·rename_i l0 y ho;simp only at ho;subst ho;split at h
  ·rename_i i l1;split at h
   ·rename_i hg;show DQ _ _ _ _;refine yU (B:=B) ?_;simp only at hg;rw[hg];have hk:oC P (YK P N ρ Q k y) l1 (eI B (jh i.dst v bf)) (db B s):=hk;rw[iI]at hk;exact .inl (wF h hp hk)
   ·cases h
  ·cases h
 ·rename_i l0 n y ho;simp only at ho;subst ho;split at h
  ·rename_i j c i sl l1;split at h
   ·rename_i hg;split at h
    ·rename_i hc;intro hn;show Dw _ _ _ _;refine rG (B:=B) ?_;simp only at hg;rw[hg];have hk:dq P (YK P N ρ Q k y) l1 (vH B n) (eI B (jh i.dst v bf)) (db B s):=hk hn;rw[iI]at hk;have:=wF (K:=λv s'=>rZ P (vH B n) s' c/\dq P (YK P N ρ Q k y) l1 (vH B n) (eH i.dst v (eI B bf)) s') (s:=db B s) h hp ⟨nH hn (λ_=>hn) hc (λp hp=>by cases hp),hk⟩;rw[kV]at this;exact .inl this
    ·cases h
   ·cases h
  ·cases h
 ·cases h
theorem bY{α:Type}{o:Option α}{K:α->Option β}{g:FuncId}{args:List (TV B.S)}{X:α->TV B.S}(h:o.bind K=some r)(hf: ∀a,o=some a->cH B P g args X a)(k: ∀a,o=some a->K a=some r->RT B P N ρ Q (Zk (G B P N M).1 (X a)))
  (hx:(Br B P (G B P N M).1,(G B P N M).2.map Prod.fst)=(some (g,dY B.E args),(G B P N M).2.map Prod.snd):=by kernel_rfl):RT B P N ρ Q M:=by
 simp only[Prod.mk.injEq]at hx;obtain⟨a,ha,hK⟩:=lY h;exact sd hx.2 ⟨NP hx.1 (hf a ha) (k a ha hK).v⟩
end
end Go.Am
