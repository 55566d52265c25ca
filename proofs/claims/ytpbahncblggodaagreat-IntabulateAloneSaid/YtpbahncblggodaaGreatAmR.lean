/-
  The logic AM, R: walks on typed states: loops over functions and their rounds.
  Own work. No Go text.
-/
import Derived.Test.YtpbahncblggodaaGreatAmZ
set_option linter.all false
namespace Go.Am
open Go.RowKit
section
variable {B:Tab} {P:Program} {N:Nat} {ρ:Option Nat} {Q:Exit->Env->St->Prop} {M:TM B.S} {α β:Type} {r:β}
def TYld(B:Tab)(P:Program)(id:Nat)(args:List (TV B.S))(H0:TSt B.S)(X:α->TV B.S)(H1:α->TSt B.S)(a:α):Prop:=
 AYield P id (erL B.E args) (erS B H0) λy t=>y=(X a).er B.E/\t=erS B (H1 a)
def putT{S:Nat->Type}:List Tmp->List (TV S)->TEnv S->TEnv S
 |t::ts,x::xs,env=>putT ts xs (eset env t x)
 |_,_,env=>env
theorem putT_er: ∀{ts:List Tmp}{xs:List (TV B.S)}{env:TEnv B.S},putParams ts (erL B.E xs) (erE B env)=erE B (putT ts xs env)
 | [],xs,env=>by cases xs<;>simp[putParams,putT,erL]
 |t::ts,[],env=>by simp[putParams,putT,erL]
 |t::ts,x::xs,env=>by simp only[erL,putParams,putT,<-set_erE,putT_er (ts:=ts)]
theorem lp_er{c:Nat}{env:TEnv B.S}{st:Nat}{pd:Option (Option Nat)}{H:TSt B.S}{id:Nat}{b0:TB B.S}(hg:eget H.heap id=some b0)(h0:isFr b0=false):erS B ⟨eset H.heap id (.lp c env st pd),H.cnt⟩=setLoop (erS B H) id ⟨erE B env,(B.C c).n,(B.C c).ps,(B.C c).as,(B.C c).body,stOf st,pdOf pd⟩:=by
 rw[set_erS hg h0 rfl];rfl
def asG(B:Tab)(P:Program)(c:Nat)(env:TEnv B.S)(args:List (TV B.S))(H0:TSt B.S):TM B.S×Prs:=G B P (B.C c).n ⟨.run (B.C c).as,[],putT (B.C c).ps args env,H0⟩
theorem lay_ok{n:Nat}{cd:Code}{env:TEnv B.S}{s:TSt B.S}(h5:(G B P n ⟨.run cd,[],env,s⟩).2.map Prod.fst=(G B P n ⟨.run cd,[],env,s⟩).2.map Prod.snd)
 (k:RT B P n ρ Q (G B P n ⟨.run cd,[],env,s⟩).1):AWp P n ρ cd Q (erE B env) (erS B s):=(G_ok h5 k).v
theorem tyf{id:Nat}(c:Nat)(env:TEnv B.S){args:List (TV B.S)}{H0:TSt B.S}{X:α->TV B.S}{H1:α->TSt B.S}{a:α}
  (h:RT B P (B.C c).n (some id) (RoundQ id (KH B H0.cnt X H1 a)) ⟨.run (B.C c).body,[],(asG B P c env args H0).1.env,⟨eset (asG B P c env args H0).1.s.heap id (.lp c env 1 none),(asG B P c env args H0).1.s.cnt⟩⟩)
  (hx:((asG B P c env args H0).1.o,(asG B P c env args H0).1.k,eget (asG B P c env args H0).1.s.heap id,(asG B P c env args H0).2.map Prod.fst,eget H0.heap id,Nat.beq args.length (B.C c).ps.length&&((B.C c).ps.all λt=>Nat.blt t (B.C c).n))=
   (.out .normal,[],some (.lp c env 0 none),(asG B P c env args H0).2.map Prod.snd,some (.lp c env 0 none),true):=by kernel_rfl):TYld B P id args H0 X H1 a:=by
 simp only[Prod.mk.injEq,Bool.and_eq_true]at hx
 obtain⟨h0,h1,h2,h5,h6,h3,h4⟩:=hx
 have hg:eget (erS B H0).heap id=some (.loop ⟨erE B env,(B.C c).n,(B.C c).ps,(B.C c).as,(B.C c).body,.ready,none⟩):=by
  rw[get_erS h6];rfl
 refine ayield_seen (ayield hg (by rw[len_erL];exact Nat.eq_of_beq_eq_true h3) (by simpa[Nat.blt_eq]using h4) ?_)
 simp only
 rw[putT_er]
 refine lay_ok (env:=putT (B.C c).ps args env) (s:=H0) h5 ?_
 unfold asG at *
 generalize(G B P (B.C c).n ⟨.run (B.C c).as,[],putT (B.C c).ps args env,H0⟩).1=g at *
 obtain⟨o,k,env2,s2⟩:=g
 simp only at h0 h1 h2 h
 subst h0;subst h1
 refine⟨?_⟩
 have hg2:eget (erS B s2).heap id=some (.loop ⟨erE B env,(B.C c).n,(B.C c).ps,(B.C c).as,(B.C c).body,.ready,none⟩):=by
  rw[get_erS h2];rfl
 have h:AWp P (B.C c).n (some id) (B.C c).body (RoundQ id (KH B H0.cnt X H1 a)) (erE B env2) (erS B ⟨eset s2.heap id (.lp c env 1 none),s2.cnt⟩):=h.v
 rw[lp_er (H:=s2) h2 rfl]at h
 have mono: ∀e env s,RoundQ id (KH B H0.cnt X H1 a) e env s->RoundQ id (λy s=> ∃s1 y1 base π S2 x2,(erS B H0).cnt<=base/\Turn s y s1 y1/\IntoS base π S2 s1/\Co (okId base S2.heap) π x2 y1/\x2=(X a).er B.E/\S2=erS B (H1 a)) e env s:=by
  intro e env s hq
  have key: ∀y s,KH B H0.cnt X H1 a y s-> ∃s1 y1 base π S2 x2,(erS B H0).cnt<=base/\Turn s y s1 y1/\IntoS base π S2 s1/\Co (okId base S2.heap) π x2 y1/\x2=(X a).er B.E/\S2=erS B (H1 a):=by
   rintro y s ⟨s1,y1,base',π,k1,k2,k3,k4⟩
   exact⟨s1,y1,base',π,_,_,k1,k2,k3,k4,rfl,rfl⟩
  cases e<;>simp only[RoundQ]at hq ⊢
  ·obtain⟨l,hl,hk⟩:=hq;exact⟨l,hl,key _ _ hk⟩
  ·obtain⟨l,hl,hk⟩:=hq;exact⟨l,hl,key _ _ hk⟩
  ·obtain⟨l,hl,hk⟩:=hq;exact⟨l,hl,key _ _ hk⟩
 exactλG w ac hn=>hn.after ⟨_,hg2,rfl,h.mono mono⟩
def endY:Exit->Option (Bool×Nat×Option (Option Nat))
 |.normal=>some (true,0,none)
 |.ret=>some (false,2,some none)
 |.exit i=>some (false,2,some (some i))
 |_=>none
def retY(B:Tab)(id base:Nat)(x:TV B.S)(S2:TSt B.S)(M:TM B.S):Option Prs:=match M.o with
 |.out e=>(match M.k with
  | []=>(match endY e with
   |some (b,st,pd)=>(match eget M.s.heap id with
    |some (.lp c env _ _)=>seeT B base (autoL base [(0,x)] S2 [(0,.a (.bool b))] ⟨eset M.s.heap id (.lp c env st pd),M.s.cnt⟩) [(0,x)] S2 [(0,.a (.bool b))] ⟨eset M.s.heap id (.lp c env st pd),M.s.cnt⟩
    |_=>none)
   |none=>none)
  |_=>none)
 |_=>none
theorem tRetY{id base:Nat}{X:α->TV B.S}{H1:α->TSt B.S}{x a:α}(h:some x=some a)(hx:((retPQ (retY B id base (X x) (H1 x) (G B P N M).1)).map Prod.fst,(G B P N M).2.map Prod.fst)=
   ((retPQ (retY B id base (X x) (H1 x) (G B P N M).1)).map Prod.snd,(G B P N M).2.map Prod.snd):=by kernel_rfl):RT B P N ρ (RoundQ id (KH B base X H1 a)) M:=by
 cases h
 simp only[Prod.mk.injEq]at hx
 obtain⟨h2,h3⟩:=hx
 refine G_ok h3 ⟨?_⟩
 obtain⟨q,hr,hq⟩:=retPQ_ok (pairs_ok h2)
 generalize(G B P N M).1=g at *
 obtain⟨o,k,env,s⟩:=g
 unfold retY at hr
 split at hr
 ·rename_i e ho
  simp only at ho;subst ho
  split at hr
  ·rename_i hk
   simp only at hk;subst hk
   split at hr
   ·rename_i b st pd he
    split at hr
    ·rename_i c ev st0 pd0 hg
     simp only at hr hg
     have hI:=seeT_ok hr hq
     obtain⟨z,hz1,hz2⟩:=hI.env 0 (((X x).er B.E)) (by simp[erE,egetC])
     have hz1:z=.bool b:=by simp[erE,egetC,TV.er]at hz1;exact hz1.symm
     subst hz1
     have hK:KH B base X H1 x (.bool b) (erS B ⟨eset s.heap id (.lp c ev st pd),s.cnt⟩):=⟨_,_,base,_,Nat.le_refl _,Turn.refl _ _,hI.st,hz2⟩
     rw[lp_er (H:=s) hg rfl]at hK
     have hl:eget (erS B s).heap id=some (.loop ⟨erE B ev,(B.C c).n,(B.C c).ps,(B.C c).as,(B.C c).body,stOf st0,pdOf pd0⟩):=by
      rw[get_erS hg];rfl
     have fin:RoundQ id (KH B base X H1 x) e (erE B env) (erS B s):=by
      unfold endY at he
      split at he<;>first|(cases he;done)|skip
      ·cases he;exact⟨_,hl,hK⟩
      ·cases he;exact⟨_,hl,hK⟩
      ·cases he;exact⟨_,hl,hK⟩
     exactλG w a hn=>hn.after fin
    ·cases hr
   ·cases hr
  ·cases hr
 ·cases hr
theorem callYx_ok{id0 id:Nat}{args0 args:List (TV B.S)}{H0 H1 s:TSt B.S}{x:TV B.S}{Lp Lr:List (Nat×Nat)}{der rest:List (Nat×TB B.S)}{ks:List Nat}(hrest:rest=keepH ks s.heap)
  (h:AYield P id0 (erL B.E args0) (erS B H0) λy t=>y=x.er B.E/\t=erS B H1)
  (hq: ∀p∈(callHx B Lp Lr der rest (.a (.yld id0)::args0) H0 x H1 (.a (.yld id)::args) s).2.2,p.1=p.2):AYield P id (erL B.E args) (erS B s) λy t=>y=(callHx B Lp Lr der rest (.a (.yld id0)::args0) H0 x H1 (.a (.yld id)::args) s).1.er B.E/\t=erS B (callHx B Lp Lr der rest (.a (.yld id0)::args0) H0 x H1 (.a (.yld id)::args) s).2.1:=by
 unfold callHx at hq ⊢
 simp only at hq ⊢
 cases hb:fitsT B Lp (onlyH H1.heap Lr) H0 H1 s der rest (s.cnt+(H1.cnt-H0.cnt))with
 |false=>
  rw[hb]at hq
  have:=hq (.any,.nilp) (by simp)
  cases this
 |true=>
  rw[hb]at hq
  simp only[cond_true]at hq
  split at hq
  ·rename_i q h1
   obtain⟨⟨q1,a1,e1⟩,q2,h2,e2⟩:=andQ_ok h1 hq
   obtain⟨⟨q3,a2,e3⟩,q4,h3,e4⟩:=andQ_ok h2 e2
   obtain⟨⟨q5,a3,e5⟩,q6,h4,e6⟩:=andQ_ok h3 e4
   obtain⟨⟨q9,a4,e9⟩,q10,a7,e10⟩:=andQ_ok h4 e6
   simp only[coL]at a1
   obtain⟨⟨q7,a5,e7⟩,q8,a6,e8⟩:=andQ_ok a1 e1
   have hy:Co (okId 0 (erS B H0).heap) (pw Lp (winL Lp s.cnt H0.heap)) (.yld id0) (.yld id):=coT_ok a5 e7
   cases hy with
   |c hc=>cases hc
   |y hok hpi=>
    subst hpi
    have hid:has (erS B H0).heap id0=true:=by simpa[okId]using hok
    exact ayield_frame h hid (mkFitsT hrest hb a3 e5 a4 e9 a7 e10) (coL_ok (λ_ _ _=>coT_ok) a6 e8) (coT_ok a2 e3)
  ·have:=hq (.any,.nilp) (by simp)
   cases this
def callY(B:Tab)(id0:Nat)(args0:List (TV B.S))(H0:TSt B.S)(x:TV B.S)(H1:TSt B.S)(id:Nat)(args:List (TV B.S))(s:TSt B.S):TV B.S×TSt B.S×Prs:=callH B (.a (.yld id0)::args0) H0 x H1 (.a (.yld id)::args) s
theorem callY_ok{id0 id:Nat}{args0 args:List (TV B.S)}{H0 H1 s:TSt B.S}{x:TV B.S}(h:AYield P id0 (erL B.E args0) (erS B H0) λy t=>y=x.er B.E/\t=erS B H1)
 (hq: ∀p∈(callY B id0 args0 H0 x H1 id args s).2.2,p.1=p.2):AYield P id (erL B.E args) (erS B s) λy t=>y=(callY B id0 args0 H0 x H1 id args s).1.er B.E/\t=erS B (callY B id0 args0 H0 x H1 id args s).2.1:=callYx_ok rfl h hq
def callTsY{S:Nat->Type}(op:Op)(env:TEnv S):Option (Nat×List (TV S)):=match callOf op with
 |some (f,a)=>match toper env f with
  |some (.a (.yld id))=>match topers env a with
   |some l=>some (id,l)
   |none=>none
  |_=>none
 |none=>none
def callYA(B:Tab)(M:TM B.S):Option (Nat×List (TV B.S)):=match M.o with
 |.ro l _=>(match l with
  |i::_=>match gdT B i.guard M.env with
   |.go=>callTsY i.op M.env
   |_=>none
  | []=>none)
 |.rd l _ _=>(match l with
  |⟨.heavy _ _,some i,sl⟩::_=>match gdT B i.guard M.env with
   |.go=>callTsY i.op (envOfT sl M.env)
   |_=>none
  |_=>none)
 |_=>none
def iOf{S:Nat->Type}(o:Option (Nat×List (TV S))):Nat:=match o with
 |some (i,_)=>i
 |none=>0
theorem callTsY_ok{op:Op}{env:TEnv B.S}{id:Nat}{l:List (TV B.S)}{s:St}{K:AV->St->Prop}(h:callTsY op env=some (id,l))(hp:AYield P id (erL B.E l) s K):ows P op K (erE B env) s:=by
 unfold callTsY at h
 unfold ows
 split at h
 ·rename_i f a hc
  split at h
  ·rename_i id' hf
   split at h
   ·rename_i l' hl
    cases h
    simp only[hc,toper_ok,hf,Option.map_some,topers_ok,hl,TV.er]
    exact hp
   ·cases h
  ·cases h
 ·cases h
theorem callYA_ok{id:Nat}{l:List (TV B.S)}{v:TV B.S}{s':TSt B.S}(h:callYA B M=some (id,l))(hp:AYield P id (erL B.E l) (erS B M.s) λy t=>y=v.er B.E/\t=erS B s')(hq: ∀p∈chkH B P M s',p.1=p.2)
  (hk:RT0 B P N ρ Q (tcKH B M v s')):RT0 B P N ρ Q M:=by
 obtain⟨o,k,env,s⟩:=M
 unfold callYA at h
 split at h
 ·rename_i l0 y ho
  simp only at ho;subst ho
  split at h
  ·rename_i i l1
   split at h
   ·rename_i hg
    show gws _ _ _ _
    refine gdT_ok (B:=B) ?_
    simp only at hg
    rw[hg]
    have hk:rwsO P (YK P N ρ Q k y) l1 (erE B (eputT i.dst v env)) (erS B s'):=hk
    rw[eput_er]at hk
    exact .inl (callTsY_ok h (AYield.mono (f:=id) hp λy t ⟨e1,e2⟩=>by subst e1;subst e2;exact hk))
   ·cases h
  ·cases h
 ·rename_i l0 n y ho
  simp only at ho;subst ho
  split at h
  ·rename_i j c i sl l1
   split at h
   ·rename_i hg
    intro hn
    show gwq _ _ _ _
    refine gdT_okq (B:=B) ?_
    simp only at hg
    rw[hg]
    have hk:dq P (YK P N ρ Q k y) l1 (erN B (stale B n)) (erE B (eputT i.dst v env)) (erS B s'):=hk (okN_stale hn)
    rw[eput_er,erN_stale]at hk
    have hc:chkD P (erN B n) (erS B s') c:=by
     unfold chkH at hq
     simp only at hq
     split at hq
     ·rename_i q hc
      exact chkT_ok hn (λe=>by cases e) hc hq
     ·have:=hq (.any,.nilp) (by simp);cases this
    have:=callTsY_ok (K:=λv s'=>chkD P (erN B n) s' c/\dq P (YK P N ρ Q k y) l1 (erN B n) (eput i.dst v (erE B env)) s') h (AYield.mono (f:=id) hp λy t ⟨e1,e2⟩=>by subst e1;subst e2;exact⟨hc,hk⟩)
    rw[envOf_er]at this
    exact this
   ·cases h
  ·cases h
 ·cases h
def atY(B:Tab)(id0:Nat)(args0:List (TV B.S))(H0:TSt B.S)(x:TV B.S)(H1:TSt B.S)(m:TM B.S):TV B.S×TSt B.S×Prs:=callY B id0 args0 H0 x H1 (iOf (callYA B m)) (aOf (callYA B m)) m.s
theorem callYv{a:α}{id0:Nat}{args0:List (TV B.S)}{H0:TSt B.S}{X:α->TV B.S}{H1:α->TSt B.S}(hf:TYld B P id0 args0 H0 X H1 a)
  (k:RT B P N ρ Q (tcKH B (G B P N M).1 (atY B id0 args0 H0 (X a) (H1 a) (G B P N M).1).1 (atY B id0 args0 H0 (X a) (H1 a) (G B P N M).1).2.1))
  (hx:((callYA B (G B P N M).1).isSome,(atY B id0 args0 H0 (X a) (H1 a) (G B P N M).1).2.2.map Prod.fst,(chkH B P (G B P N M).1 (atY B id0 args0 H0 (X a) (H1 a) (G B P N M).1).2.1).map Prod.fst,(G B P N M).2.map Prod.fst)=
   (true,(atY B id0 args0 H0 (X a) (H1 a) (G B P N M).1).2.2.map Prod.snd,(chkH B P (G B P N M).1 (atY B id0 args0 H0 (X a) (H1 a) (G B P N M).1).2.1).map Prod.snd,(G B P N M).2.map Prod.snd)):RT B P N ρ Q M:=by
 simp only[Prod.mk.injEq]at hx
 obtain⟨h0,h1,h2,h3⟩:=hx
 refine G_ok h3 ⟨?_⟩
 have hk:=k.v
 unfold atY at h1 h2 hk
 generalize(G B P N M).1=m at *
 cases hc:callYA B m with
 |none=>rw[hc]at h0;cases h0
 |some p=>
  obtain⟨id,l⟩:=p
  rw[hc]at h1 h2 hk
  exact callYA_ok hc (callY_ok hf (pairs_ok h1)) (pairs_ok h2) hk
theorem tCallYS{α':Type}{o:Option (α⊕α')}{K:α->Option β}{K':α'->Option β}{id0:Nat}{args0:List (TV B.S)}{H0:TSt B.S}{X:α->TV B.S}{X':α'->TV B.S}{H1:α->TSt B.S}{H1':α'->TSt B.S}(h:o.bind (Sum.elim K K')=some r)
  (hf: ∀a,o=some a->TYld B P id0 args0 H0 (Sum.elim X X') (Sum.elim H1 H1') a)
  (k: ∀a,o=some (.inl a)->K a=some r->RT B P N ρ Q (tcKH B (G B P N M).1 (atY B id0 args0 H0 (X a) (H1 a) (G B P N M).1).1 (atY B id0 args0 H0 (X a) (H1 a) (G B P N M).1).2.1))
  (k': ∀a,o=some (.inr a)->K' a=some r->RT B P N ρ Q (tcKH B (G B P N M).1 (atY B id0 args0 H0 (X' a) (H1' a) (G B P N M).1).1 (atY B id0 args0 H0 (X' a) (H1' a) (G B P N M).1).2.1))
  (hx: ∀a,((callYA B (G B P N M).1).isSome,(atY B id0 args0 H0 (X a) (H1 a) (G B P N M).1).2.2.map Prod.fst,(chkH B P (G B P N M).1 (atY B id0 args0 H0 (X a) (H1 a) (G B P N M).1).2.1).map Prod.fst,(G B P N M).2.map Prod.fst)=
   (true,(atY B id0 args0 H0 (X a) (H1 a) (G B P N M).1).2.2.map Prod.snd,(chkH B P (G B P N M).1 (atY B id0 args0 H0 (X a) (H1 a) (G B P N M).1).2.1).map Prod.snd,(G B P N M).2.map Prod.snd):=by intro a;kernel_rfl)
  (hx': ∀a,((callYA B (G B P N M).1).isSome,(atY B id0 args0 H0 (X' a) (H1' a) (G B P N M).1).2.2.map Prod.fst,(chkH B P (G B P N M).1 (atY B id0 args0 H0 (X' a) (H1' a) (G B P N M).1).2.1).map Prod.fst,(G B P N M).2.map Prod.fst)=
   (true,(atY B id0 args0 H0 (X' a) (H1' a) (G B P N M).1).2.2.map Prod.snd,(chkH B P (G B P N M).1 (atY B id0 args0 H0 (X' a) (H1' a) (G B P N M).1).2.1).map Prod.snd,(G B P N M).2.map Prod.snd):=by intro a;kernel_rfl):RT B P N ρ Q M:=by
 obtain⟨a,ha,hK⟩:=bindE h
 cases a with
 |inl a=>
  have hfa:TYld B P id0 args0 H0 X H1 a:=hf (.inl a) ha
  exact callYv hfa (k a ha hK) (hx a)
 |inr a=>
  have hfa:TYld B P id0 args0 H0 X' H1' a:=hf (.inr a) ha
  exact callYv hfa (k' a ha hK) (hx' a)
theorem awp_outE{c:Code}{k:List Fr}{env:Env}{s:St}(h:AWp P N ρ c (λe env s=>RW0 P N ρ Q ⟨.out e,k,env,s⟩) env s):AWp P N ρ c (QK P N ρ Q k) env s:=by
 intro G w a hn
 refine wpIn_mono (h G w a hn) ?_
 rintro e2 a2 w2 ⟨G',env',s2,n',x',hk⟩
 obtain⟨G3,env3,s3,n3,x3,q3⟩:=hk G' w2 a2 n'
 exact⟨G3,env3,s3,n3,x'.trans hn.sim x3,q3⟩
def rfA(P:Program)(N:Nat)(live:List Nat){S:Nat->Type}(M:TM S):Option (FuncId×List (TV S)×LoopC):=match M.o with
 |.run c=>(match c with
  |.rangeFunc g ps as body=>(match toper (keepE live M.env) g with
   |some (.fn gf caps)=>bif enters P gf then some (gf,caps,⟨N,ps.toList,as,body⟩)else none
   |_=>none)
  |_=>none)
 |_=>none
def rfF{S:Nat->Type}(o:Option (FuncId×List (TV S)×LoopC)):Option (FuncId×LoopC):=o.map λp=>(p.1,p.2.2)
def rfCs{S:Nat->Type}(o:Option (FuncId×List (TV S)×LoopC)):List (TV S):=match o with
 |some (_,l,_)=>l
 |none=>[]
def rfN(ρ:Option Nat):Nat:=match ρ with
 |none=>1
 |some _=>0
def rfMk(S:Nat->Type)(ρ:Option Nat)(n:Nat):List (Nat×TB S):=match ρ with
 |none=>[(n,.raw .dfr)]
 |some _=>[]
def rfS(ρ:Option Nat)(live:List Nat)(c:Nat){S:Nat->Type}(M:TM S):TSt S:=⟨(M.s.cnt+rfN ρ,.lp c (keepE live M.env) 0 none)::M.s.heap,M.s.cnt+rfN ρ+1⟩
def rfL(ρ:Option Nat){S:Nat->Type}(s:TSt S):Bool:=match ρ with
 |none=>true
 |some id=>(match eget s.heap id with
  |some (.lp _ _ _ _)=>true
  |_=>false)
def rfE{S:Nat->Type}(y:Nat)(s':TSt S):Option Exit:=match eget s'.heap y with
 |some (.lp _ _ st pd)=>bif Nat.beq st 1||!(delOk s'.heap y)then none else(match pd with
  |none=>some .normal
  |some none=>some .ret
  |some (some i)=>some (.exit i))
 |_=>none
def rfK(ρ:Option Nat)(live:List Nat){S:Nat->Type}(M:TM S)(s':TSt S):TM S:=⟨match rfE (M.s.cnt+rfN ρ) s' with
 |some e=>.out e
 |none=>M.o,M.k,keepE live M.env,⟨rfMk S ρ M.s.cnt++edel s'.heap (M.s.cnt+rfN ρ),s'.cnt⟩⟩
def rfC(B:Tab)(P:Program)(N:Nat)(ρ:Option Nat)(live:List Nat)(c:Nat)(args0:List (TV B.S))(H0:TSt B.S)(x:TV B.S)(H1:TSt B.S)(M:TM B.S):TV B.S×TSt B.S×Prs:=
 callH B args0 H0 x H1 (.a (.yld (M.s.cnt+rfN ρ))::rfCs (rfA P N live M)) (rfS ρ live c M)
theorem keepE_sub{env:TEnv B.S}: ∀{l:List Nat}{t:Nat}{x:TV B.S},eget (keepE l env) t=some x->eget env t=some x
 | [],t,x,h=>by simp[keepE,egetN]at h
 |k::r,t,x,h=>by
  unfold keepE at h
  split at h
  ·rename_i y hy
   simp only[egetC]at h
   split at h
   ·rename_i e;subst e;cases h;exact hy
   ·exact keepE_sub h
  ·exact keepE_sub h
theorem rfEnd{y:Nat}{s':TSt B.S}{e:Exit}{k:List Fr}{env:Env}{mk:List (Nat×TB B.S)}(hmk:erR B mk=[])(he:rfE y s'=some e)(h:RW0 P N ρ Q ⟨.out e,k,env,erS B ⟨mk++edel s'.heap y,s'.cnt⟩⟩):
  LoopEnd P N ρ (λe env s=>RW0 P N ρ Q ⟨.out e,k,env,s⟩) env y (erH B mk) (erS B s'):=by
 unfold rfE at he
 split at he
 ·rename_i c ev st pd hg
  have hl:eget (erS B s').heap y=some (.loop ⟨erE B ev,(B.C c).n,(B.C c).ps,(B.C c).as,(B.C c).body,stOf st,pdOf pd⟩):=by
   rw[get_erS hg];rfl
  cases hb:Nat.beq st 1||!(delOk s'.heap y)with
  |true=>rw[hb]at he;cases he
  |false=>
   rw[hb]at he
   simp only[cond_false]at he
   rw[Bool.or_eq_false_iff,Bool.not_eq_false']at hb
   obtain⟨hb,hd⟩:=hb
   have happ: ∀{a b:List (Nat×TB B.S)},erR B (a++b)=erR B a++erR B b:=by
    intro a
    induction a with
    |nil=>intro b;rfl
    |cons p r ih=>intro b;obtain⟨k,x⟩:=p;simp only[List.cons_append,erR,ih,List.append_assoc]
   have hs:erS B ⟨mk++edel s'.heap y,s'.cnt⟩=⟨erH B mk++edel (erS B s').heap y,(erS B s').cnt⟩:=by
    have:=del_erS (n:=s'.cnt) hd
    simp only[erS,St.mk.injEq]at this
    simp only[erS,erH_append,happ,hmk,List.nil_append,List.append_assoc,this.1]
   rw[hs]at h
   refine⟨_,hl,?_,?_⟩
   ·intro e2
    have:stOf st=.busy:=e2
    unfold stOf at this
    split at this
    ·cases this
    ·cases hb
    ·cases this
   ·split at he
    ·cases he;exact h
    ·cases he;exact awp_ret h
    ·cases he;exactλG w a hn=>wpIn_exit (hn.after h)
 ·cases he
theorem rfv{a:α}{gf:FuncId}{args0:List (TV B.S)}{H0:TSt B.S}{X:α->TV B.S}{H1:α->TSt B.S}(live:List Nat)(c:Nat)(hf:TCall B P gf args0 H0 X H1 a)
  (k:RT B P N ρ Q (rfK ρ live (G B P N M).1 (rfC B P N ρ live c args0 H0 (X a) (H1 a) (G B P N M).1).2.1))
  (hx:(rfF (rfA P N live (G B P N M).1),rfL ρ (G B P N M).1.s&&(rfE ((G B P N M).1.s.cnt+rfN ρ) (rfC B P N ρ live c args0 H0 (X a) (H1 a) (G B P N M).1).2.1).isSome,(rfC B P N ρ live c args0 H0 (X a) (H1 a) (G B P N M).1).2.2.map Prod.fst,(G B P N M).2.map Prod.fst)=
   (some (gf,B.C c),true,(rfC B P N ρ live c args0 H0 (X a) (H1 a) (G B P N M).1).2.2.map Prod.snd,(G B P N M).2.map Prod.snd)):RT B P N ρ Q M:=by
 simp only[Prod.mk.injEq,Bool.and_eq_true]at hx
 obtain⟨h0,⟨h1,h2⟩,h3,h4⟩:=hx
 refine G_ok h4 ⟨?_⟩
 have hk:=k.v
 unfold rfC at h2 h3 hk
 generalize(G B P N M).1=m at *
 obtain⟨o,kk,env,s⟩:=m
 cases hA:rfA P N live (⟨o,kk,env,s⟩:TM B.S)with
 |none=>rw[hA]at h0;cases h0
 |some p=>
  obtain⟨gf',caps,lc⟩:=p
  rw[hA]at h0 h2 h3 hk
  simp only[rfF,Option.map_some,Option.some.injEq,Prod.mk.injEq]at h0
  obtain⟨e1,e2⟩:=h0
  subst e1
  simp only[rfCs]at h2 h3 hk
  unfold rfA at hA
  split at hA
  ·rename_i cd ho
   simp only at ho;subst ho
   split at hA
   ·rename_i g ps as body
    split at hA
    ·rename_i gf2 caps2 hg
     cases he:enters P gf2 with
     |false=>simp[he]at hA
     |true=>
      simp only[he,cond_true,Option.some.injEq,Prod.mk.injEq]at hA
      obtain⟨a1,a2,a3⟩:=hA
      subst a1;subst a2;subst a3
      obtain⟨e,hE⟩:=Option.isSome_iff_exists.1 h2
      have hc:=callH_ok (s:=rfS ρ live c (⟨.run (.rangeFunc g ps as body),kk,env,s⟩:TM B.S)) (args:=.a (.yld (s.cnt+rfN ρ))::caps2) hf (pairs_ok h3)
      generalize callH B args0 H0 (X a) (H1 a) (.a (.yld (s.cnt+rfN ρ))::caps2) (rfS ρ live c ⟨.run (.rangeFunc g ps as body),kk,env,s⟩)=R at *
      obtain⟨v,s',q⟩:=R
      simp only at hE hc hk
      unfold rfK at hk
      simp only[hE]at hk
      have hk:RW0 P N ρ Q ⟨.out e,kk,erE B (keepE live env),erS B ⟨rfMk B.S ρ s.cnt++edel s'.heap (s.cnt+rfN ρ),s'.cnt⟩⟩:=hk
      have hend:=rfEnd (mk:=rfMk B.S ρ s.cnt) (by cases ρ<;>rfl) hE hk
      have hog:=toper_ok (B:=B) (env:=keepE live env) (x:=g)
      rw[hg]at hog
      simp only[Option.map_some,TV.er]at hog
      have hsub: ∀t x,eget (erE B (keepE live env)) t=some x->eget (erE B env) t=some x:=λt x hx=>by
       rw[get_erE]at hx ⊢
       obtain⟨y,hy,e3⟩:=Option.map_eq_some_iff.1 hx
       rw[keepE_sub hy]
       exact congrArg some e3
      have hS:RW0 P N ρ Q ⟨.run (.rangeFunc g ps as body),kk,erE B (keepE live env),erS B s⟩:=by
       refine awp_outE ?_
       cases ρ with
       |none=>
        refine awp_rangeFunc hog he ?_
        have eS:erS B (rfS none live c (⟨.run (.rangeFunc g ps as body),kk,env,s⟩:TM B.S))=⟨((erS B s).cnt+1,.loop ⟨erE B (keepE live env),N,ps.toList,as,body,.ready,none⟩)::(erS B s).heap,(erS B s).cnt+2⟩:=by
         simp only[rfS,rfN,erS,erH,erR,erR1,erB,<-e2,stOf,pdOf,List.nil_append,List.cons_append]
        rw[eS]at hc
        exact hc.mono λy t ht=>by obtain⟨_,ht⟩:=ht;subst ht;exact hend
       |some id0=>
        simp only[rfL]at h1
        split at h1
        ·rename_i cc ev st pd hg0
         have hl0:eget (erS B s).heap id0=some (.loop ⟨erE B ev,(B.C cc).n,(B.C cc).ps,(B.C cc).as,(B.C cc).body,stOf st,pdOf pd⟩):=by
          rw[get_erS hg0];rfl
         refine awp_rangeFuncN hl0 hog he ?_
         have eS:erS B (rfS (some id0) live c (⟨.run (.rangeFunc g ps as body),kk,env,s⟩:TM B.S))=⟨((erS B s).cnt,.loop ⟨erE B (keepE live env),N,ps.toList,as,body,.ready,none⟩)::(erS B s).heap,(erS B s).cnt+1⟩:=by
          simp only[rfS,rfN,erS,erH,erR,erR1,erB,<-e2,stOf,pdOf,Nat.add_zero,List.nil_append,List.cons_append]
         rw[eS]at hc
         exact hc.mono λy t ht=>by obtain⟨_,ht⟩:=ht;subst ht;exact hend
        ·cases h1
      exact rw_see (base:=s.cnt) (Nat.le_refl _) (see_drop hsub ⟨λ_ _ h=>h,Nat.le_refl _,λ_ h=>h⟩ See.refl) hS
    ·cases hA
   ·cases hA
  ·cases hA
theorem tRFS{α':Type}{o:Option (α⊕α')}{K:α->Option β}{K':α'->Option β}{gf:FuncId}{args0:List (TV B.S)}{H0:TSt B.S}{X:α->TV B.S}{X':α'->TV B.S}{H1:α->TSt B.S}{H1':α'->TSt B.S}(h:o.bind (Sum.elim K K')=some r)(live:List Nat)(c:Nat)
  (hf: ∀a,o=some a->TCall B P gf args0 H0 (Sum.elim X X') (Sum.elim H1 H1') a)
  (k: ∀a,o=some (.inl a)->K a=some r->RT B P N ρ Q (rfK ρ live (G B P N M).1 (rfC B P N ρ live c args0 H0 (X a) (H1 a) (G B P N M).1).2.1))
  (k': ∀a,o=some (.inr a)->K' a=some r->RT B P N ρ Q (rfK ρ live (G B P N M).1 (rfC B P N ρ live c args0 H0 (X' a) (H1' a) (G B P N M).1).2.1))
  (hx: ∀a,(rfF (rfA P N live (G B P N M).1),rfL ρ (G B P N M).1.s&&(rfE ((G B P N M).1.s.cnt+rfN ρ) (rfC B P N ρ live c args0 H0 (X a) (H1 a) (G B P N M).1).2.1).isSome,(rfC B P N ρ live c args0 H0 (X a) (H1 a) (G B P N M).1).2.2.map Prod.fst,(G B P N M).2.map Prod.fst)=
   (some (gf,B.C c),true,(rfC B P N ρ live c args0 H0 (X a) (H1 a) (G B P N M).1).2.2.map Prod.snd,(G B P N M).2.map Prod.snd):=by intro a;kernel_rfl)
  (hx': ∀a,(rfF (rfA P N live (G B P N M).1),rfL ρ (G B P N M).1.s&&(rfE ((G B P N M).1.s.cnt+rfN ρ) (rfC B P N ρ live c args0 H0 (X' a) (H1' a) (G B P N M).1).2.1).isSome,(rfC B P N ρ live c args0 H0 (X' a) (H1' a) (G B P N M).1).2.2.map Prod.fst,(G B P N M).2.map Prod.fst)=
   (some (gf,B.C c),true,(rfC B P N ρ live c args0 H0 (X' a) (H1' a) (G B P N M).1).2.2.map Prod.snd,(G B P N M).2.map Prod.snd):=by intro a;kernel_rfl):RT B P N ρ Q M:=by
 obtain⟨a,ha,hK⟩:=bindE h
 cases a with
 |inl a=>
  have hfa:TCall B P gf args0 H0 X H1 a:=hf (.inl a) ha
  exact rfv live c hfa (k a ha hK) (hx a)
 |inr a=>
  have hfa:TCall B P gf args0 H0 X' H1' a:=hf (.inr a) ha
  exact rfv live c hfa (k' a ha hK) (hx' a)
def lpOf(P:Program)(f k:Nat):LoopC:=match nthC (subs (cF P f)) k with
 |.rangeFunc _ ps a b=>⟨nF P f,ps.toList,a,b⟩
 |_=>⟨0,[],.skip,.skip⟩
end
end Go.Am
