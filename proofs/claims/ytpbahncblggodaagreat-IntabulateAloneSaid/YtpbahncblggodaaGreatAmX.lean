/-
  The logic AM, X: the rules of walks on typed states.
  Own work. No Go text.
-/
import Derived.Test.YtpbahncblggodaaGreatAmV
set_option linter.all false
namespace Go.Am
open Go.RowKit
inductive Dem (S:Nat->Type) where
 |no
 |ix (c:Nat) (l:List (S c)) (i:Int) (k:S c->TM S)
 |el (c:Nat) (l:List (S c)) (i:Nat) (k:S c->TM S)
 |need (p:Prop) (k:TM S)
 |sp (b:Bool) (k:Bool->TM S)
def demR{S:Nat->Type}(r:TR S)(f:TR S->TM S):Dem S:=match r with
 |.ix c l i k=>.ix c l i λy=>f (k y)
 |.el c l i k=>.el c l i λy=>f (k y)
 |.need p k=>.need p (f k)
 |.sp b k=>.sp b λt=>f (k t)
 |_=>.no
section
variable (B:Tab)
def demG(g:Option (Nat×Bool))(M:TM B.S):Dem B.S:=match gdT B g M.env with
 |.ask d b=>.sp b λw=>⟨M.o,M.k,eset M.env d (.a (.bool w)),M.s⟩
 |_=>.no
def demOf(M:TM B.S):Dem B.S:=match M.o with
 |.po r d l y=>demR r λr=>⟨.po r d l y,M.k,M.env,M.s⟩
 |.pl r i b op e d l n y=>demR r λr=>⟨.pl r i b op e d l n y,M.k,M.env,M.s⟩
 |.ph r c d l n y=>demR r λr=>⟨.ph r c d l n y,M.k,M.env,M.s⟩
 |.run c=>(match c with
  |.cond t x y=>match t with
   |.tmp t=>match eget M.env t with
    |some v=>match asB B v with
     |some (_,b)=>.sp b λw=>⟨.run (bif w then x else y),M.k,eset M.env t (.a (.bool w)),M.s⟩
     |none=>.no
    |none=>.no
   |_=>.no
  |_=>.no)
 |.ro l _=>(match l with
  |i::_=>demG B i.guard M
  | []=>.no)
 |.rd l _ _=>(match l with
  |⟨_,some i,_⟩::_=>demG B i.guard M
  |_=>.no)
 |_=>.no
def callArgs(P:Program)(op:Op)(env:TEnv B.S):Option (FuncId×List AV):=match callOf op with
 |some (f,a)=>match toper env f with
  |some (.fn g caps)=>match topers env a with
   |some l=>bif enters P g then some (g,erL B.E (l++caps))else none
   |none=>none
  |_=>none
 |none=>none
def callA(P:Program)(M:TM B.S):Option (FuncId×List AV):=match M.o with
 |.ro l _=>(match l with
  |i::_=>match gdT B i.guard M.env with
   |.go=>callArgs B P i.op M.env
   |_=>none
  | []=>none)
 |.rd l n _=>(match l with
  |⟨.heavy _ c,some i,sl⟩::_=>match gdT B i.guard M.env with
   |.go=>match chkT B P true n M.s c with
    |some []=>callArgs B P i.op (envOfT sl M.env)
    |_=>none
   |_=>none
  |_=>none)
 |_=>none
def tcK{S:Nat->Type}(M:TM S)(v:TV S):TM S:=match M.o with
 |.ro (i::l) y=>⟨.ro l y,M.k,eputT i.dst v M.env,M.s⟩
 |.rd (⟨_,some i,_⟩::l) n y=>⟨.rd l n y,M.k,eputT i.dst v M.env,M.s⟩
 |_=>M
end
section
variable {S:Nat->Type}
def ixA(D:Dem S)(c:Nat):Option (List (S c)×Int):=match D with
 |.ix c' l i _=>if h:c'=c then some (h ▸ l,i)else none
 |_=>none
def ixK(D:Dem S)(c:Nat)(y:S c)(M:TM S):TM S:=match D with
 |.ix c' _ _ k=>if h:c=c' then k (h ▸ y)else M
 |_=>M
def elA(D:Dem S)(c:Nat):Option (List (S c)×Nat):=match D with
 |.el c' l i _=>if h:c'=c then some (h ▸ l,i)else none
 |_=>none
def elK(D:Dem S)(c:Nat)(y:S c)(M:TM S):TM S:=match D with
 |.el c' _ _ k=>if h:c=c' then k (h ▸ y)else M
 |_=>M
def ndA(D:Dem S):Option Prop:=match D with
 |.need p _=>some p
 |_=>none
def ndK(D:Dem S)(M:TM S):TM S:=match D with
 |.need _ k=>k
 |_=>M
def spA(D:Dem S):Option Bool:=match D with
 |.sp b _=>some b
 |_=>none
def spK(D:Dem S)(b:Bool)(M:TM S):TM S:=match D with
 |.sp _ k=>k b
 |_=>M
theorem ixA_ok{D:Dem S}{c:Nat}{l:List (S c)}{i:Int}(h:ixA D c=some (l,i))(M:TM S): ∃k,D=.ix c l i k/\ ∀y,ixK D c y M=k y:=by
 unfold ixA at h
 split at h
 ·rename_i c' l' i' k
  split at h
  ·rename_i e;subst e;cases h
   exact⟨k,rfl,λy=>by simp[ixK]⟩
  ·cases h
 ·cases h
theorem elA_ok{D:Dem S}{c:Nat}{l:List (S c)}{i:Nat}(h:elA D c=some (l,i))(M:TM S): ∃k,D=.el c l i k/\ ∀y,elK D c y M=k y:=by
 unfold elA at h
 split at h
 ·rename_i c' l' i' k
  split at h
  ·rename_i e;subst e;cases h
   exact⟨k,rfl,λy=>by simp[elK]⟩
  ·cases h
 ·cases h
theorem ndA_ok{D:Dem S}{p:Prop}(h:ndA D=some p)(M:TM S):D=.need p (ndK D M):=by
 unfold ndA at h
 split at h
 ·cases h;rfl
 ·cases h
theorem spA_ok{D:Dem S}{b:Bool}(h:spA D=some b)(M:TM S): ∃k,D=.sp b k/\ ∀w,spK D w M=k w:=by
 unfold spA at h
 split at h
 ·cases h;exact⟨_,rfl,λ_=>rfl⟩
 ·cases h
end
section
variable {B:Tab} {P:Program} {N:Nat} {ρ:Option Nat} {Q:Exit->Env->St->Prop}
def DemOk(B:Tab)(P:Program)(N:Nat)(ρ:Option Nat)(Q:Exit->Env->St->Prop)(M:TM B.S):Dem B.S->Prop
 |.no=>True
 |.ix _ l i k=> ∀y,ix l i=some y->RT0 B P N ρ Q (k y)->RT0 B P N ρ Q M
 |.el _ l i k=> ∀y,l[i]? =some y->RT0 B P N ρ Q (k y)->RT0 B P N ρ Q M
 |.need p k=>p->RT0 B P N ρ Q k->RT0 B P N ρ Q M
 |.sp b k=>RT0 B P N ρ Q (k b)->RT0 B P N ρ Q M
theorem demR_ok{M:TM B.S}{r:TR B.S}{f:TR B.S->TM B.S}(hM:M=f r)(hf: ∀r r',(∀K,r'.wp K->r.wp K)->RT0 B P N ρ Q (f r')->RT0 B P N ρ Q (f r)):DemOk B P N ρ Q M (demR r f):=by
 subst hM
 cases r with
 |no=>trivial
 |ok v s=>trivial
 |eq a b k=>trivial
 |el c l i k=>exactλy hy h=>hf _ _ (λK hK=>⟨y,hy,hK⟩) h
 |ix c l i k=>exactλy hy h=>hf _ _ (λK hK=>⟨y,hy,hK⟩) h
 |need p k=>exactλhp h=>hf _ _ (λK hK=>⟨hp,hK⟩) h
 |sp b k=>exactλh=>hf (.sp b k) (k b) (λK hK=>hK) h
theorem set_bool{env:TEnv B.S}{d:Nat}{v:TV B.S}{st b:Bool}(hv:eget env d=some v)(hb:asB B v=some (st,b)):erE B (eset env d (.a (.bool b)))=erE B env:=by
 rw[set_erE]
 exact eset_self (by rw[get_erE,hv,Option.map_some,asB_ok hb];rfl)
theorem gdT_ask{g:Option (Nat×Bool)}{env:TEnv B.S}{d:Nat}{b:Bool}(h:gdT B g env=.ask d b): ∃v st,eget env d=some v/\asB B v=some (st,b):=by
 unfold gdT at h
 split at h
 ·cases h
 ·rename_i d' want
  split at h
  ·rename_i v hv
   split at h
   ·rename_i st b' hb
    cases st with
    |false=>cases h;exact⟨v,_,hv,hb⟩
    |true=>
     simp only[cond_true]at h
     cases hq:(b'==want)<;>rw[hq]at h<;>cases h
   ·cases hq:isNone0 v<;>rw[hq]at h<;>cases h
  ·cases h
theorem RT0.env{M:TM B.S}{env:TEnv B.S}(he:erE B env=erE B M.env)(h:RT0 B P N ρ Q ⟨M.o,M.k,env,M.s⟩):RT0 B P N ρ Q M:=by
 obtain⟨o,k,env0,s⟩:=M
 simp only at he h
 unfold RT0 at h ⊢
 cases o<;>simp only[he]at h ⊢ <;>exact h
theorem demG_ok{g:Option (Nat×Bool)}{M:TM B.S}:DemOk B P N ρ Q M (demG B g M):=by
 unfold demG
 split
 ·rename_i d b hg
  obtain⟨v,st,hv,hb⟩:=gdT_ask hg
  exactλh=>RT0.env (set_bool hv hb) h
 ·trivial
theorem dem_ok(M:TM B.S):DemOk B P N ρ Q M (demOf B M):=by
 obtain⟨o,k,env,s⟩:=M
 unfold demOf
 split
 ·rename_i r d l y ho
  simp only at ho;subst ho
  exact demR_ok rfl λr r' h hk=>h _ hk
 ·rename_i r i b op e d l n y ho
  simp only at ho;subst ho
  exact demR_ok rfl λr r' h hk hl hs hn=>hk hl (λK hK=>hs K (h K hK)) hn
 ·rename_i r c d l n y ho
  simp only at ho;subst ho
  exact demR_ok rfl λr r' h hk hn=>h _ (hk hn)
 ·rename_i c ho
  simp only at ho;subst ho
  cases c<;>try trivial
  rename_i t x y
  cases t<;>try trivial
  rename_i t
  simp only
  cases hv:eget env t with
  |none=>trivial
  |some v=>
   simp only
   cases hb:asB B v with
   |none=>trivial
   |some p=>
    obtain⟨st,b⟩:=p
    intro h
    have hc:oper (erE B env) (.tmp t)=some (.bool b):=by rw[toper_ok];simp only[toper,hv,Option.map_some,asB_ok hb]
    have h:AWp P N ρ (bif b then x else y) (QK P N ρ Q k) (erE B (eset env t (.a (.bool b)))) (erS B s):=h
    rw[set_bool hv hb]at h
    exact awp_cond hc (λe=>by subst e;exact h) (λe=>by subst e;exact h)
 ·rename_i l y ho
  simp only at ho;subst ho
  split
  ·exact demG_ok
  ·trivial
 ·rename_i l n y ho
  simp only at ho;subst ho
  split
  ·exact demG_ok
  ·trivial
 ·trivial
def FT:Nat:=100000
def G(B:Tab)(P:Program)(N:Nat)(M:TM B.S):TM B.S×List (AV×AV):=goT B P N noU FT M
theorem pairs_ok{l:List (AV×AV)}(h:l.map Prod.fst=l.map Prod.snd): ∀p∈l,p.1=p.2:=by
 induction l with
 |nil=>intro p hp;cases hp
 |cons a r ih=>
  simp only[List.map_cons,List.cons.injEq]at h
  intro p hp
  rcases List.mem_cons.1 hp with rfl|hp
  ·exact h.1
  ·exact ih h.2 p hp
theorem G_ok{M:TM B.S}(hq:(G B P N M).2.map Prod.fst=(G B P N M).2.map Prod.snd)(h:RT B P N ρ Q (G B P N M).1):RT B P N ρ Q M:=⟨goT_ok (pairs_ok hq) h.v⟩
variable {M:TM B.S} {β:Type} {r:β}
theorem tIx(c:Nat){l:List (B.S c)}{i:Int}{K:B.S c->Option β}(h:(ix l i).bind K=some r)(k: ∀y,ix l i=some y->K y=some r->RT B P N ρ Q (ixK (demOf B (G B P N M).1) c y M))
  (hx:(ixA (demOf B (G B P N M).1) c,(G B P N M).2.map Prod.fst)=(some (l,i),(G B P N M).2.map Prod.snd):=by kernel_rfl):RT B P N ρ Q M:=by
 simp only[Prod.mk.injEq]at hx
 obtain⟨y,hy,hK⟩:=bindE h
 obtain⟨k',hd,hk'⟩:=ixA_ok hx.1 M
 have:=dem_ok (P:=P) (N:=N) (ρ:=ρ) (Q:=Q) (G B P N M).1
 rw[hd]at this
 have hk:=(k y hy hK).v
 rw[hk']at hk
 exact G_ok hx.2 ⟨this y hy hk⟩
theorem tIk(c:Nat){l:List (B.S c)}{i:Int}{y:B.S c}(h:ix l i=some y)(k:RT B P N ρ Q (ixK (demOf B (G B P N M).1) c y M))
  (hx:(ixA (demOf B (G B P N M).1) c,(G B P N M).2.map Prod.fst)=(some (l,i),(G B P N M).2.map Prod.snd):=by kernel_rfl):RT B P N ρ Q M:=
 tIx c (K:=λ_=>some ()) (r:=()) (by rw[h];rfl) (λy' hy' _=>by rw[h]at hy';cases hy';exact k) hx
theorem tEx(c:Nat){l:List (B.S c)}{j:Int}{y:B.S c}(h:ix l j=some y)(k:RT B P N ρ Q (elK (demOf B (G B P N M).1) c y M))
  (hx:(elA (demOf B (G B P N M).1) c,(G B P N M).2.map Prod.fst)=(some (l,j.toNat),(G B P N M).2.map Prod.snd):=by kernel_rfl):RT B P N ρ Q M:=by
 simp only[Prod.mk.injEq]at hx
 obtain⟨k',hd,hk'⟩:=elA_ok hx.1 M
 have:=dem_ok (P:=P) (N:=N) (ρ:=ρ) (Q:=Q) (G B P N M).1
 rw[hd]at this
 have hk:=k.v
 rw[hk']at hk
 exact G_ok hx.2 ⟨this y (ixE h).2 hk⟩
theorem tNe{p:Prop}(h:p)(k:RT B P N ρ Q (ndK (demOf B (G B P N M).1) M))
  (hx:(ndA (demOf B (G B P N M).1),(G B P N M).2.map Prod.fst)=(some p,(G B P N M).2.map Prod.snd):=by kernel_rfl):RT B P N ρ Q M:=by
 simp only[Prod.mk.injEq]at hx
 have hd:=ndA_ok hx.1 M
 have:=dem_ok (P:=P) (N:=N) (ρ:=ρ) (Q:=Q) (G B P N M).1
 rw[hd]at this
 exact G_ok hx.2 ⟨this h k.v⟩
theorem tNd{p:Prop}[Decidable p]{x:Option β}(h:need p x=some r)(k:p->x=some r->RT B P N ρ Q (ndK (demOf B (G B P N M).1) M))
  (hx:(ndA (demOf B (G B P N M).1),(G B P N M).2.map Prod.fst)=(some p,(G B P N M).2.map Prod.snd):=by kernel_rfl):RT B P N ρ Q M:=
 let⟨hp,h⟩:=needE h
 tNe hp (k hp h) hx
theorem tSp{b w:Bool}(h:b=w)(k:RT B P N ρ Q (spK (demOf B (G B P N M).1) w M))
  (hx:(spA (demOf B (G B P N M).1),(G B P N M).2.map Prod.fst)=(some b,(G B P N M).2.map Prod.snd):=by kernel_rfl):RT B P N ρ Q M:=by
 simp only[Prod.mk.injEq]at hx
 obtain⟨k',hd,hk'⟩:=spA_ok hx.1 M
 have:=dem_ok (P:=P) (N:=N) (ρ:=ρ) (Q:=Q) (G B P N M).1
 rw[hd]at this
 subst h
 have hk:=k.v
 rw[hk']at hk
 exact G_ok hx.2 ⟨this hk⟩
theorem tIf{b:Bool}{x y:Option β}(h:(bif b then x else y)=some r)(k1:b=true->x=some r->RT B P N ρ Q (spK (demOf B (G B P N M).1) true M))(k2:b=false->y=some r->RT B P N ρ Q (spK (demOf B (G B P N M).1) false M))
  (hx:(spA (demOf B (G B P N M).1),(G B P N M).2.map Prod.fst)=(some b,(G B P N M).2.map Prod.snd):=by kernel_rfl):RT B P N ρ Q M:=by
 rcases iteE h with⟨hb,h⟩|⟨hb,h⟩
 ·exact tSp hb (k1 hb h) hx
 ·exact tSp hb (k2 hb h) hx
def TPure(B:Tab)(P:Program)(g:FuncId)(args:List (TV B.S)){α:Type}(X:α->TV B.S)(a:α):Prop:=APure P g (erL B.E args) ((X a).er B.E)
theorem erL_append{S:Nat->Type}{E:(c:Nat)->S c->AV}{a b:List (TV S)}:erL E (a++b)=erL E a++erL E b:=by simp[erL_map]
theorem callArgs_ok{op:Op}{env:TEnv B.S}{g:FuncId}{l:List AV}{x:AV}{s:St}{K:AV->St->Prop}(h:callArgs B P op env=some (g,l))(hp:APure P g l x)(hk:K x s):ows P op K (erE B env) s:=by
 unfold callArgs at h
 unfold ows
 split at h
 ·rename_i f a hc
  split at h
  ·rename_i g' caps hf
   split at h
   ·rename_i l' hl
    cases he:enters P g' with
    |false=>simp[he]at h
    |true=>
     simp only[he,cond_true]at h
     cases h
     simp only[hc,toper_ok,hf,Option.map_some,topers_ok,hl,TV.er]
     refine⟨he,?_⟩
     have:=hp s
     rw[erL_append]at this
     exact this.mono λy t ⟨e1,e2⟩=>by subst e1;subst e2;exact hk
   ·cases h
  ·cases h
 ·cases h
theorem callA_ok{g:FuncId}{l:List AV}{v:TV B.S}(h:callA B P M=some (g,l))(hp:APure P g l (v.er B.E))(hk:RT0 B P N ρ Q (tcK M v)):RT0 B P N ρ Q M:=by
 obtain⟨o,k,env,s⟩:=M
 unfold callA at h
 split at h
 ·rename_i l0 y ho
  simp only at ho;subst ho
  split at h
  ·rename_i i l1
   split at h
   ·rename_i hg
    show gws _ _ _ _
    refine gdT_ok (B:=B) ?_
    simp only at hg
    rw[hg]
    have hk:rwsO P (YK P N ρ Q k y) l1 (erE B (eputT i.dst v env)) (erS B s):=hk
    rw[eput_er]at hk
    exact .inl (callArgs_ok h hp hk)
   ·cases h
  ·cases h
 ·rename_i l0 n y ho
  simp only at ho;subst ho
  split at h
  ·rename_i j c i sl l1
   split at h
   ·rename_i hg
    split at h
    ·rename_i hc
     intro hn
     show gwq _ _ _ _
     refine gdT_okq (B:=B) ?_
     simp only at hg
     rw[hg]
     have hk:dq P (YK P N ρ Q k y) l1 (erN B n) (erE B (eputT i.dst v env)) (erS B s):=hk hn
     rw[eput_er]at hk
     have:=callArgs_ok (K:=λv s'=>chkD P (erN B n) s' c/\dq P (YK P N ρ Q k y) l1 (erN B n) (eput i.dst v (erE B env)) s') (s:=erS B s) h hp ⟨chkT_ok hn (λ_=>hn) hc (λp hp=>by cases hp),hk⟩
     rw[envOf_er]at this
     exact this
    ·cases h
   ·cases h
  ·cases h
 ·cases h
theorem tCall{α:Type}{o:Option α}{K:α->Option β}{g:FuncId}{args:List (TV B.S)}{X:α->TV B.S}(h:o.bind K=some r)(hf: ∀a,o=some a->TPure B P g args X a)(k: ∀a,o=some a->K a=some r->RT B P N ρ Q (tcK (G B P N M).1 (X a)))
  (hx:(callA B P (G B P N M).1,(G B P N M).2.map Prod.fst)=(some (g,erL B.E args),(G B P N M).2.map Prod.snd):=by kernel_rfl):RT B P N ρ Q M:=by
 simp only[Prod.mk.injEq]at hx
 obtain⟨a,ha,hK⟩:=bindE h
 exact G_ok hx.2 ⟨callA_ok hx.1 (hf a ha) (k a ha hK).v⟩
end
end Go.Am
