/-
 The logic AM,W: walks in long steps: the kernel carries the code out from one parting of the ways to the next.
 Own work. No Go text.
-/
import Derived.Test.YtjjendjmakhfaaaGreatAmE
set_option linter.all false
namespace Go.Am
open Go.RowKit
def wAddAll (a : List Nat) : List Nat → List Nat
 | [] => a
 | x :: r => bif memB x a then wAddAll a r else wAddAll (x :: a) r
def wPreOf : List Oper → List (List Nat) → List (List Nat)
 | [],acc => acc
 | o :: r,acc => wPreOf r (acc ++ [(direct o).foldl (fun a d => wAddAll a (preI acc d)) (wAddAll [] (direct o))])
def wLightO : Oper → Bool := fun o => isLight o.op
def wAllocOp : Op → Bool
 | .alloc _ => true
 | _ => false
def wPickR (ok : Nat → Bool) : List Nat → Option Nat
 | [] => none
 | x :: r => bif ok x then some x else wPickR ok r
def wSubB (a b : List Nat) : Bool := a.all fun x => memB x b
def wDelN (x : Nat) : List Nat → List Nat
 | [] => []
 | y :: r => bif Nat.beq x y then r else y :: wDelN x r
def wOrderOf (lt al : Nat → Bool) (pre : List (List Nat)) : Nat → List Nat → List Nat → List Nat
 | 0,_,_ => []
 | n + 1,done,left =>
  let rd := fun j => wSubB (preI pre j) done
  match wPickR (fun j => lt j && rd j) left with
  | some j => j :: wOrderOf lt al pre n (j :: done) (wDelN j left)
  | none => match wPickR (fun j => rd j && !al j) left with
   | some j => j :: wOrderOf lt al pre n (j :: done) (wDelN j left)
   | none => match wPickR rd left with
    | some j => j :: wOrderOf lt al pre n (j :: done) (wDelN j left)
    | none => []
def wAtB (l : List Bool) (i : Nat) : Bool := l.getD i false
def wChkOf (lt sl : Nat → Bool) (pre : List Nat) : List Nat → List Nat
 | [] => []
 | x :: r => bif lt x && !sl x && !memB x pre then x :: wChkOf lt sl pre r else wChkOf lt sl pre r
def wStepsOf (lt sl al : Nat → Bool) (pre : List (List Nat)) : List Nat → List Nat → List Step
 | _,[] => []
 | done,j :: r => (bif lt j then .light j false else bif al j then .alloc j else .heavy j (wChkOf lt sl (preI pre j) done)) :: wStepsOf lt sl al pre (done ++ [j]) r
def wNotesOf : List Step → List Nat
 | [] => []
 | .heavy _ c :: r => c ++ wNotesOf r
 | _ :: r => wNotesOf r
def wMarkN (ns : List Nat) : List Step → List Step
 | [] => []
 | .light i _ :: r => .light i (memB i ns) :: wMarkN ns r
 | st :: r => st :: wMarkN ns r
def wPlanOf (l : List Oper) : List (List Nat) × List Step :=
 let pre := wPreOf l []
 let lts := l.map wLightO
 let sls := l.map fun o => stateless o.op
 let als0 := l.map fun o => wAllocOp o.op
 let ns := List.range l.length
 let hv := ns.filter fun j => !wAtB lts j
 let al := fun j => wAtB als0 j && hv.any fun h => !(Nat.beq h j) && !memB h (preI pre j) && !memB j (preI pre h)
 let st := wStepsOf (wAtB lts) (wAtB sls) al pre [] (wOrderOf (wAtB lts) al pre l.length [] ns)
 (pre,wMarkN (wNotesOf st) st)
inductive Oc where
 | run (c : Code)
 | out (e : Exit)
inductive Fr where
 | seq (y : Code)
 | blk (id : Nat)
 | lp (nx : Env → St → Prop) (ok : Prop)
structure RS where
 o : Oc
 k : List Fr
 env : Env
 s : St
def LpQ (nx : Env → St → Prop) (ok : Prop) (Q : Exit → Env → St → Prop) : Exit → Env → St → Prop
 | .normal,env,s => nx env s
 | e,env,s => ok ∧ Q e env s
def QK (P : Program) (N : Nat) (ρ : Option Nat) (Q : Exit → Env → St → Prop) : List Fr → Exit → Env → St → Prop
 | [] => Q
 | .seq y :: k => Then (AWp P N ρ y (QK P N ρ Q k)) (QK P N ρ Q k)
 | .blk id :: k => InBlock id (QK P N ρ Q k)
 | .lp nx ok :: k => LpQ nx ok (QK P N ρ Q k)
def RW0 (P : Program) (N : Nat) (ρ : Option Nat) (Q : Exit → Env → St → Prop) (r : RS) : Prop := match r.o with
 | .run c => AWp P N ρ c (QK P N ρ Q r.k) r.env r.s
 | .out e => ∀ G w a,Now G N ρ r.env r.s a w → After G N ρ r.s w (QK P N ρ Q r.k) e a w
structure RW (P : Program) (N : Nat) (ρ : Option Nat) (Q : Exit → Env → St → Prop) (r : RS) : Prop where
 v : RW0 P N ρ Q r
inductive WH where
 | r (hs : List Hint)
 | n
 | t
 | f
def wreg (P : Program) (N : Nat) (ops : Array Oper) (d : Bool) (hs : List Hint) (env : Env) (s : St) : Option (Env × St × List Prop) := match d with
 | false => bif guardsOk ops.toList && dstsOk N ops.toList then xregO P (ins ops.toList) hs env s else none
 | true => match wPlanOf ops.toList with
  | (pre,st) => bif planB P N ops.toList pre st && (mkD (ins ops.toList) st).all lightD && P.follows .mixedOrders then xdr P (mkD (ins ops.toList) st) hs [] env s else none
def hR : List WH → List Hint × List WH
 | .r hs :: l => (hs,l)
 | .n :: l => ([],l)
 | l => ([],l)
def stepR (P : Program) (N : Nat) (hs : List WH) (r : RS) : Option (RS × List WH × List Prop) := match r with
 | ⟨.run c,k,env,s⟩ => match c with
  | .seq (.region _ ops d) y => match hR hs with
   | (h,hs') => match wreg P N ops d h env s with
    | some (e,s',o) => some (⟨.run y,k,e,s'⟩,hs',o)
    | none => none
  | .region _ ops d => match hR hs with
   | (h,hs') => match wreg P N ops d h env s with
    | some (e,s',o) => some (⟨.out .normal,k,e,s'⟩,hs',o)
    | none => none
  | .seq x y => some (⟨.run x,.seq y :: k,env,s⟩,hs,[])
  | .block id x => some (⟨.run x,.blk id :: k,env,s⟩,hs,[])
  | .skip => some (⟨.out .normal,k,env,s⟩,hs,[])
  | .exit id => some (⟨.out (.exit id),k,env,s⟩,hs,[])
  | .ret => some (⟨.out .ret,k,env,s⟩,hs,[])
  | .cond (.tmp t) x y => match eget env t with
   | some (.bool b) => match hs with
    | .t :: hs' => some (⟨.run x,k,env,s⟩,hs',[b = true])
    | .f :: hs' => some (⟨.run y,k,env,s⟩,hs',[b = false])
    | _ => none
   | _ => none
  | _ => none
 | ⟨.out e,fr :: k,env,s⟩ => match fr with
  | .seq y => match e with
   | .normal => some (⟨.run y,k,env,s⟩,hs,[])
   | e => some (⟨.out e,k,env,s⟩,hs,[])
  | .blk id => match e with
   | .exit j => bif Nat.beq j id then some (⟨.out .normal,k,env,s⟩,hs,[]) else some (⟨.out (.exit j),k,env,s⟩,hs,[])
   | e => some (⟨.out e,k,env,s⟩,hs,[])
  | .lp _ ok => match e with
   | .normal => none
   | e => some (⟨.out e,k,env,s⟩,hs,[ok])
 | ⟨.out _,[],_,_⟩ => none
def goR (P : Program) (N : Nat) : Nat → List WH → RS → RS × List Prop
 | 0,_,r => (r,[])
 | n + 1,hs,r => match stepR P N hs r with
  | some (r',hs',o) => match goR P N n hs' r' with
   | (r2,o2) => (r2,o ++ o2)
  | none => (⟨r.o,[],[],⟨[],0⟩⟩,[False])
section
variable {P : Program} {N : Nat} {ρ : Option Nat} {Q : Exit → Env → St → Prop}
theorem wreg_ok {Q' : Exit → Env → St → Prop} {id : Nat} {ops : Array Oper} {d : Bool} {hs : List Hint} {env e : Env} {s s' : St} {o : List Prop} (h : wreg P N ops d hs env s = some (e,s',o)) (ho : conj o) (hk : Q' .normal e s') : AWp P N ρ (.region id ops d) Q' env s := by
 cases d with
 | false =>
  simp only [wreg] at h
  generalize hg : (guardsOk ops.toList && dstsOk N ops.toList) = g at h
  cases g with
  | false => cases h
  | true => exact awp_x0 hs rfl hg h ho hk
 | true =>
  simp only [wreg] at h
  generalize hp : wPlanOf ops.toList = pl at h
  obtain ⟨pre,st⟩ := pl
  simp only at h
  generalize hg : (planB P N ops.toList pre st && (mkD (ins ops.toList) st).all lightD && P.follows .mixedOrders) = g at h
  cases g with
  | false => cases h
  | true =>
   simp only [Bool.and_eq_true] at hg
   exact awp_y0 hs rfl (planB_ok hg.1.1) hg.2 hg.1.2 h ho hk
theorem After.of {G : Ghost} {s : St} {w : World} {e e' : Exit} {a : Act} {Q1 Q2 : Exit → Env → St → Prop} (h : After G N ρ s w Q1 e a w) (hq : ∀ env s,Q1 e env s → Q2 e' env s) : After G N ρ s w Q2 e' a w :=
 let ⟨G',env',s',n',x',q'⟩ := h; ⟨G',env',s',n',x',hq _ _ q'⟩
theorem stepR_ok {hs hs' : List WH} {r r' : RS} {o : List Prop} (h : stepR P N hs r = some (r',hs',o)) (ho : conj o) (hk : RW0 P N ρ Q r') : RW0 P N ρ Q r := by
 unfold stepR at h
 split at h
 ·rename_i c k env s
  split at h
  ·rename_i id ops d y
   generalize hR hs = q at h
   obtain ⟨h1,h2⟩ := q
   simp only at h
   split at h
   ·rename_i e s' o' hw
    cases h
    exact awp_seq (wreg_ok (ρ := ρ) (Q' := Then (AWp P N ρ y (QK P N ρ Q k)) (QK P N ρ Q k)) hw ho hk)
   ·cases h
  ·rename_i id ops d
   generalize hR hs = q at h
   obtain ⟨h1,h2⟩ := q
   simp only at h
   split at h
   ·rename_i e s' o' hw
    cases h
    have h3 : AWp P N ρ (.region id ops d) (fun e2 env2 s2 => e2 = .normal ∧ env2 = e ∧ s2 = s') env s := wreg_ok (ρ := ρ) hw ho ⟨rfl,rfl,rfl⟩
    intro G w a hn
    refine wpIn_mono (h3 G w a hn) ?_
    rintro e2 a2 w2 ⟨G',env',s2,n',x',rfl,rfl,rfl⟩
    obtain ⟨G3,env3,s3,n3,x3,q3⟩ := hk G' w2 a2 n'
    exact ⟨G3,env3,s3,n3,x'.trans hn.sim x3,q3⟩
   ·cases h
  ·cases h; exact awp_seq hk
  ·cases h; exact awp_block hk
  ·cases h; exact fun G w a hn => wpIn_skip (hk G w a hn)
  ·cases h; exact fun G w a hn => wpIn_exit (hk G w a hn)
  ·cases h; exact fun G w a hn => wpIn_ret (hk G w a hn)
  ·rename_i t x y
   split at h
   ·rename_i b hb
    split at h
    ·cases h
     have ho : b = true := ho
     exact awp_cond (c := .tmp t) (b := b) hb (fun _ => hk) (fun e => by rw [ho] at e; cases e)
    ·cases h
     have ho : b = false := ho
     exact awp_cond (c := .tmp t) (b := b) hb (fun e => by rw [ho] at e; cases e) (fun _ => hk)
    ·cases h
   ·cases h
  ·cases h
 ·rename_i e fr k env s
  split at h
  ·rename_i y
   split at h
   ·cases h; exact fun G w a hn => hn.after hk
   ·rename_i hne
    cases h
    intro G w a hn
    refine After.of (hk G w a hn) fun env s hq => ?_
    cases e with
    | normal => exact absurd rfl hne
    | exit _ => exact hq
    | goto _ => exact hq
    | ret => exact hq
    | panic _ => exact hq
    | outgrown => exact hq
  ·rename_i id
   split at h
   ·rename_i j
    cases hb : Nat.beq j id with
    | true =>
     rw [hb] at h
     cases h
     intro G w a hn
     refine After.of (hk G w a hn) fun env s hq => ?_
     show InBlock id (QK P N ρ Q k) (.exit j) env s
     simp only [InBlock]
     rw [if_pos (Nat.eq_of_beq_eq_true hb)]; exact hq
    | false =>
     rw [hb] at h
     cases h
     intro G w a hn
     refine After.of (hk G w a hn) fun env s hq => ?_
     show InBlock id (QK P N ρ Q k) (.exit j) env s
     simp only [InBlock]
     rw [if_neg (fun e => by subst e; rw [show Nat.beq j j = true from Nat.beq_refl j] at hb; cases hb)]; exact hq
   ·rename_i hne
    cases h
    intro G w a hn
    refine After.of (hk G w a hn) fun env s hq => ?_
    cases e with
    | exit j => exact absurd rfl (hne j)
    | normal => exact hq
    | goto _ => exact hq
    | ret => exact hq
    | panic _ => exact hq
    | outgrown => exact hq
  ·rename_i nx ok
   split at h
   ·cases h
   ·rename_i hne
    cases h
    have ho : ok := ho
    intro G w a hn
    refine After.of (hk G w a hn) fun env s hq => ?_
    cases e with
    | normal => exact absurd rfl hne
    | exit _ => exact ⟨ho,hq⟩
    | goto _ => exact ⟨ho,hq⟩
    | ret => exact ⟨ho,hq⟩
    | panic _ => exact ⟨ho,hq⟩
    | outgrown => exact ⟨ho,hq⟩
 ·cases h
theorem goR_ok : ∀ (n : Nat) (hs : List WH) (r : RS),conj (goR P N n hs r).2 → RW0 P N ρ Q (goR P N n hs r).1 → RW0 P N ρ Q r
 | 0,_,_,_,h => h
 | n + 1,hs,r,ho,h => by
  unfold goR at ho h
  cases hq : stepR P N hs r with
  | none => rw [hq] at ho; exact absurd ho id
  | some q =>
   obtain ⟨r',hs',o⟩ := q
   rw [hq] at ho h
   simp only at ho h
   obtain ⟨a,b⟩ := conj_append.1 ho
   exact stepR_ok hq a (goR_ok n hs' r' b h)
theorem zW (n : Nat) (hs : List WH) {r : RS} {obs : List Prop} (ho : conj obs) (h : RW0 P N ρ Q (goR P N n hs r).1) (hx : (goR P N n hs r).2 = obs := by kernel_rfl) : RW0 P N ρ Q r := by
 subst hx; exact goR_ok n hs r ho h
def dropTo (ks ids : List Nat) (n : Nat) (env : Env) (s : St) : Option (Env × St) := match prune ks ids env s with
 | some (e,s') => bif Nat.ble s'.cnt n then some (e,⟨s'.heap,n⟩) else none
 | none => none
theorem dropTo_sub {ks ids : List Nat} {n : Nat} {env E2 : Env} {s S2 : St} (h : dropTo ks ids n env s = some (E2,S2)) : (∀ t x,eget E2 t = some x → eget env t = some x) ∧ LeS S2 s := by
 unfold dropTo at h
 split at h
 ·rename_i e s' hp
  cases hb : Nat.ble s'.cnt n with
  | false => rw [hb] at h; cases h
  | true =>
   rw [hb] at h; cases h
   obtain ⟨h1,h2⟩ := prune_sub hp
   exact ⟨h1,h2.heap,Nat.le_trans h2.cnt (Nat.le_of_ble_eq_true hb),h2.dfr⟩
 ·cases h
theorem rw_weak {o : Oc} {k : List Fr} {env E2 : Env} {s S2 : St} (he : ∀ t x,eget E2 t = some x → eget env t = some x) (hs : LeS S2 s) (h : RW0 P N ρ Q ⟨o,k,E2,S2⟩) : RW0 P N ρ Q ⟨o,k,env,s⟩ := by
 cases o with
 | run c => exact awp_weak h he hs.heap hs.cnt hs.dfr
 | out e =>
  intro G w a hn
  obtain ⟨G',env',s',n',x',q'⟩ := h G w a ⟨hn.sim.drop hs.heap hs.cnt,hn.env.sub he,hn.size,hn.defs.drop hs.dfr,hn.known⟩
  exact ⟨G',env',s',n',(Ext.drop hs.heap hs.cnt hs.dfr).trans hn.sim x',q'⟩
def wdrop (E : Env) (S : St) (g : RS × List Prop) : Option (Env × St × List Prop) := match dropTo (E.map (·.1)) (S.heap.map (·.1)) S.cnt g.1.env g.1.s with
 | some (e,s) => some (e,s,g.2)
 | none => none
theorem zT (n : Nat) (hs : List WH) {r : RS} {obs : List Prop} (ho : conj obs) (ks : List Nat) (xs : List AV) (S : St) (h : RW0 P N ρ Q ⟨(goR P N n hs r).1.o,(goR P N n hs r).1.k,zipE ks xs,S⟩) (hx : wdrop (zipE ks xs) S (goR P N n hs r) = some (zipE ks xs,S,obs) := by kernel_rfl) : RW0 P N ρ Q r := by
 unfold wdrop at hx
 split at hx
 ·rename_i e s hd
  cases hx
  obtain ⟨h1,h2⟩ := dropTo_sub hd
  exact goR_ok n hs r ho (rw_weak h1 h2 h)
 ·cases hx
def wgo (E : Env) (S : St) (g : RS × List Prop) : Option (RS × List Prop) := match dropTo (E.map (·.1)) (S.heap.map (·.1)) S.cnt g.1.env g.1.s with
 | some (e,s) => some (⟨g.1.o,g.1.k,e,s⟩,g.2)
 | none => none
theorem zX (n : Nat) (hs : List WH) {r r' : RS} {obs : List Prop} (ho : conj obs) (h : RW0 P N ρ Q r') (hx : wgo r'.env r'.s (goR P N n hs r) = some (r',obs) := by kernel_rfl) : RW0 P N ρ Q r := by
 unfold wgo at hx
 split at hx
 ·rename_i e s hd
  cases hx
  obtain ⟨h1,h2⟩ := dropTo_sub hd
  exact goR_ok n hs r ho (rw_weak h1 h2 h)
 ·cases hx
def seqY : Oc → Code
 | .run c => seqR c
 | _ => .skip
def See (N : Nat) (ρ : Option Nat) (base : Nat) (E2 : Env) (S2 : St) (env : Env) (s : St) : Prop :=
 ∀ {G0 : Ghost} {s0 : St} {w0 : World} {G : Ghost} {w : World} {a : Act},s0.cnt ≤ base → Sim G0 s0 w0 → Ext G0 s0 w0 G s w → Now G N ρ env s a w → ∃ G',Now G' N ρ E2 S2 a w ∧ Ext G0 s0 w0 G' S2 w
theorem See.refl {base : Nat} {env : Env} {s : St} : See N ρ base env s env s := fun _ _ hx hn => ⟨_,hn,hx⟩
theorem see_into {base : Nat} {π : Nat → Nat} {E2 env : Env} {S2 s : St} (hρ : ∀ id,ρ = some id → id < base) (h : Into base π E2 S2 env s) : See N ρ base E2 S2 env s :=
 fun hb h0 hx hn => ⟨_,h.now hρ hn,h.st.ext h0 hx hn.sim hb⟩
theorem see_drop {base : Nat} {E2 env E3 : Env} {S2 s S3 : St} (he : ∀ t x,eget E2 t = some x → eget env t = some x) (hs : LeS S2 s) (h : See N ρ base E3 S3 E2 S2) : See N ρ base E3 S3 env s :=
 fun hb h0 hx hn => h hb h0 (hx.trans h0 (Ext.drop hs.heap hs.cnt hs.dfr)) ⟨hn.sim.drop hs.heap hs.cnt,hn.env.sub he,hn.size,hn.defs.drop hs.dfr,hn.known⟩
def Nx (N : Nat) (ρ : Option Nat) {σ τ : Type} (base : Nat) (E : σ → Env) (S : σ → St) (out : σ ⊕ τ) : Env → St → Prop := fun env' s' => ∃ st',out = .inl st' ∧ See N ρ base (E st') (S st') env' s'
theorem rw_next {σ τ : Type} {base : Nat} {E : σ → Env} {S : σ → St} {out : σ ⊕ τ} {ok : Prop} {k : List Fr} {st' : σ} {env : Env} {s : St} (ho : out = .inl st') (h : See N ρ base (E st') (S st') env s) : RW0 P N ρ Q ⟨.out .normal,.lp (Nx N ρ base E S out) ok :: k,env,s⟩ :=
 fun _ _ _ hn => hn.after ⟨st',ho,h⟩
theorem rw_loop {x : Code} {k : List Fr} {env : Env} {s : St} {σ τ : Type} (body : σ → Option (σ ⊕ τ)) {n : Nat} {st0 : σ} {res : τ} (hl : loopN body n st0 = some res) (E : σ → Env) (S : σ → St)
  (h0 : See N ρ s.cnt (E st0) (S st0) env s)
  (round : ∀ st out,body st = some out → (∀ r,out = .inr r → r = res) → RW0 P N ρ Q ⟨.run x,.lp (Nx N ρ s.cnt E S out) (∃ r,out = .inr r) :: k,E st,S st⟩) : RW0 P N ρ Q ⟨.run (.loop x),k,env,s⟩ := fun G w a hn => by
 obtain ⟨G1,n1,x1⟩ := h0 (Nat.le_refl _) hn.sim (.refl G s w) hn
 refine wpIn_loopK (fun k a' w' => ∃ G' st,loopN body k st = some res ∧ Now G' N ρ (E st) (S st) a' w' ∧ Ext G s w G' (S st) w') ?_ ⟨_,st0,hl,n1,x1⟩
 rintro k a' w' ⟨G',st,hk,n',x'⟩
 cases k with
 | zero => simp [loopN] at hk
 | succ k =>
  simp only [loopN] at hk
  cases hb : body st with
  | none => simp [hb] at hk
  | some out =>
   simp only [hb] at hk
   have := round st out hb (fun r e => by subst e; exact Option.some.inj hk) G' w' a' n'
   rw [conc_le x'.le hn.known] at this
   refine wpIn_mono this ?_
   rintro e a2 w2 ⟨G2,env2,s2,n2,x2,q2⟩
   have x3 := x'.trans hn.sim x2
   cases e with
   | normal =>
    obtain ⟨st',ho,hi⟩ := q2
    subst ho
    obtain ⟨G3,n3,x4⟩ := hi (Nat.le_refl _) hn.sim x3 n2
    exact ⟨k,Nat.lt_succ_self _,_,st',hk,n3,x4⟩
   | exit id => exact ⟨G2,env2,s2,n2,x3,q2.2⟩
   | goto l => exact ⟨G2,env2,s2,n2,x3,q2.2⟩
   | ret => exact ⟨G2,env2,s2,n2,x3,q2.2⟩
   | panic ch => exact ⟨G2,env2,s2,n2,x3,q2.2⟩
   | outgrown => exact ⟨G2,env2,s2,n2,x3,q2.2⟩
def loopX : Oc → Code
 | .run (.loop x) => x
 | _ => .skip
def isRun : Oc → Bool
 | .run _ => true
 | _ => false
def isLoop : Oc → Bool
 | .run (.loop _) => true
 | _ => false
theorem zL (m : Nat) (hs : List WH) {r : RS} {obs : List Prop} (ho : conj obs) {σ τ : Type} {body : σ → Option (σ ⊕ τ)} {n : Nat} {st0 : σ} {res : τ} (hl : loopN body n st0 = some res) (base : Nat) (E : σ → Env) (S : σ → St)
  (round : ∀ st out,body st = some out → (∀ r,out = .inr r → r = res) → (∀ st',out = .inl st' → RW0 P N ρ Q ⟨.out .normal,.lp (Nx N ρ base E S out) (∃ r,out = .inr r) :: (goR P N m hs r).1.k,E st',S st'⟩) →
   (∀ st' env s,out = .inl st' → See N ρ base (E st') (S st') env s → RW0 P N ρ Q ⟨.out .normal,.lp (Nx N ρ base E S out) (∃ r,out = .inr r) :: (goR P N m hs r).1.k,env,s⟩) →
   RW0 P N ρ Q ⟨.run (loopX (goR P N m hs r).1.o),.lp (Nx N ρ base E S out) (∃ r,out = .inr r) :: (goR P N m hs r).1.k,E st,S st⟩)
  (hx : (isLoop (goR P N m hs r).1.o,Nat.beq (goR P N m hs r).1.s.cnt base,wdrop (E st0) (S st0) (goR P N m hs r)) = (true,true,some (E st0,S st0,obs)) := by kernel_rfl) : RW0 P N ρ Q r := by
 simp only [Prod.mk.injEq] at hx
 obtain ⟨h1,h2,h3⟩ := hx
 unfold wdrop at h3
 split at h3
 ·rename_i e s hd
  cases h3
  obtain ⟨d1,d2⟩ := dropTo_sub hd
  refine goR_ok m hs r ho ?_
  generalize hg : goR P N m hs r = g at *
  obtain ⟨⟨o,k,env,s⟩,ob⟩ := g
  simp only at *
  have hb := Nat.eq_of_beq_eq_true h2
  subst hb
  cases o with
  | out e => cases h1
  | run c =>
   cases c with
   | loop x => exact rw_loop body hl E S (see_drop d1 d2 See.refl) fun st out hb hr => round st out hb hr (fun st' e => rw_next e See.refl) (fun st' env s e h => rw_next e h)
   | _ => cases h1
 ·cases h3
theorem zLi (m : Nat) (hs : List WH) {r : RS} {obs : List Prop} (ho : conj obs) {σ τ : Type} {body : σ → Option (σ ⊕ τ)} {n : Nat} {st0 : σ} {res : τ} (hl : loopN body n st0 = some res) (base : Nat) (E : σ → Env) (S : σ → St) (ks : List Nat) (xs : List AV) (S1 : St)
  (h0 : See N ρ base (E st0) (S st0) (zipE ks xs) S1)
  (round : ∀ st out,body st = some out → (∀ r,out = .inr r → r = res) → (∀ st',out = .inl st' → RW0 P N ρ Q ⟨.out .normal,.lp (Nx N ρ base E S out) (∃ r,out = .inr r) :: (goR P N m hs r).1.k,E st',S st'⟩) →
   (∀ st' env s,out = .inl st' → See N ρ base (E st') (S st') env s → RW0 P N ρ Q ⟨.out .normal,.lp (Nx N ρ base E S out) (∃ r,out = .inr r) :: (goR P N m hs r).1.k,env,s⟩) →
   RW0 P N ρ Q ⟨.run (loopX (goR P N m hs r).1.o),.lp (Nx N ρ base E S out) (∃ r,out = .inr r) :: (goR P N m hs r).1.k,E st,S st⟩)
  (hx : (isLoop (goR P N m hs r).1.o,Nat.beq (goR P N m hs r).1.s.cnt base,wdrop (zipE ks xs) S1 (goR P N m hs r)) = (true,true,some (zipE ks xs,S1,obs)) := by kernel_rfl) : RW0 P N ρ Q r := by
 simp only [Prod.mk.injEq] at hx
 obtain ⟨h1,h2,h3⟩ := hx
 unfold wdrop at h3
 split at h3
 ·rename_i e s hd
  cases h3
  obtain ⟨d1,d2⟩ := dropTo_sub hd
  refine goR_ok m hs r ho ?_
  generalize hg : goR P N m hs r = g at *
  obtain ⟨⟨o,k,env,s⟩,ob⟩ := g
  simp only at *
  have hb := Nat.eq_of_beq_eq_true h2
  subst hb
  cases o with
  | out e => cases h1
  | run c =>
   cases c with
   | loop x => exact rw_loop body hl E S (see_drop d1 d2 h0) fun st out hb hr => round st out hb hr (fun st' e => rw_next e See.refl) (fun st' env s e h => rw_next e h)
   | _ => cases h1
 ·cases h3
theorem rw_see {o : Oc} {k : List Fr} {env E2 : Env} {s S2 : St} {base : Nat} (hb : s.cnt ≤ base) (hs : See N ρ base E2 S2 env s) (h : RW0 P N ρ Q ⟨o,k,E2,S2⟩) : RW0 P N ρ Q ⟨o,k,env,s⟩ := by
 cases o with
 | run c =>
  intro G w a hn
  obtain ⟨G',n',x'⟩ := hs hb hn.sim (.refl G s w) hn
  exact AWp.later h hn.sim hn.known x' n'
 | out e =>
  intro G w a hn
  obtain ⟨G',n',x'⟩ := hs hb hn.sim (.refl G s w) hn
  obtain ⟨G2,env2,s2,n2,x2,q2⟩ := h G' w a n'
  exact ⟨G2,env2,s2,n2,x'.trans hn.sim x2,q2⟩
theorem r0 {n : Nat} : ∀ id,(none : Option Nat) = some id → id < n := fun _ e => by cases e
theorem zI {o : Oc} {k : List Fr} {env : Env} {s : St} (base : Nat) (L : List (Nat × Nat)) (ks : List Nat) (ys : List AV) {xs : List AV} {S2 : St} (h : RW0 P N ρ Q ⟨o,k,zipE ks xs,S2⟩) (hρ : ∀ id,ρ = some id → id < base) (hc : CoL (okId base S2.heap) (pi L) xs ys) (hh : HCo (okId base S2.heap) (pi L) base s S2.heap)
  (hs : Nat.ble s.cnt base = true := by kernel_rfl) (hb : intoB base L S2 s = true := by kernel_rfl) (he : look env ks = some ys := by kernel_rfl) : RW0 P N ρ Q ⟨o,k,env,s⟩ :=
 rw_see (Nat.le_of_ble_eq_true hs) (see_into hρ (mkInto hb he hc hh)) h
theorem zZ {o : Oc} {k : List Fr} {env : Env} {s : St} (id esz : Nat) (elems : List AV) (ks : List Nat) (ys : List AV) {xs : List AV} {S2 : St} (h : RW0 P N ρ Q ⟨o,k,zipE ks xs,S2⟩) (hz : FzL id elems xs ys) (hh : HFz id elems s S2.heap)
  (hx : (isRun o,eget s.heap id,look env ks,Nat.beq S2.cnt s.cnt,keepD s.heap S2.heap) = (true,some (.cells esz elems),some ys,true,true) := by kernel_rfl) : RW0 P N ρ Q ⟨o,k,env,s⟩ := by
 simp only [Prod.mk.injEq] at hx
 obtain ⟨h1,h2,h3,h4,h5⟩ := hx
 cases o with
 | out e => cases h1
 | run c => exact run_z id esz elems ks ys h h2 h3 hz hh (Nat.eq_of_beq_eq_true h4) h5
structure IdOk (base : Nat) (E : Env) (S : St) : Prop where
 env : ∀ t x,eget E t = some x → Co (okId base S.heap) id x x
 heap : ∀ i b,eget S.heap i = some b → CoB (okId base S.heap) id b b
 lt : ∀ i b,eget S.heap i = some b → i < S.cnt
 cb : base ≤ S.cnt
 dfr : ∀ i,eget S.heap i = some .dfr → i < base
structure LowSub (E2 : Env) (S2 : St) (env : Env) (s : St) : Prop where
 env : ∀ t x,eget E2 t = some x → eget env t = some x
 heap : ∀ i b,eget S2.heap i = some b → eget s.heap i = some b
 dfr : ∀ i,eget s.heap i = some .dfr → eget S2.heap i = some .dfr
theorem see_low {base : Nat} {E2 env : Env} {S2 s : St} (hρ : ∀ i,ρ = some i → i < base) (h : IdOk base E2 S2) (hs : LowSub E2 S2 env s) : See N ρ base E2 S2 env s :=
 see_into (π := id) hρ ⟨⟨⟨fun i b hg => .inl ⟨b,hs.heap i b hg,h.heap i b hg⟩,fun _ _ => rfl,fun i j b b' h1 h2 e => .inl e,h.lt,h.cb⟩,fun i hd => ⟨h.dfr i (hs.dfr i hd),hs.dfr i hd⟩⟩,fun t x hx => ⟨x,hs.env t x hx,h.env t x hx⟩⟩
theorem idok {base : Nat} {ks : List Nat} {xs : List AV} {S : St} (hc : CoL (okId base S.heap) (pi []) xs xs) (hh : HCo (okId base S.heap) (pi []) base S S.heap) (hb : intoB base [] S S = true := by kernel_rfl) (he : look (zipE ks xs) ks = some xs := by kernel_rfl) : IdOk base (zipE ks xs) S := by
 have hpi : pi [] = id := by funext i; rfl
 have hi := mkInto (env := zipE ks xs) hb he hc hh
 rw [hpi] at hi hh
 refine ⟨fun t x hx => ?_,fun i b hg => ?_,hi.st.lt,hi.st.cb,fun i hd => (hi.st.dfr i hd).1⟩
 ·obtain ⟨y,hy,hc⟩ := hi.env t x hx
  rw [hx] at hy; cases hy; exact hc
 ·rcases hi.st.heap i b hg with ⟨b',hb',hc⟩ | ⟨h1,h2,_⟩
  ·rw [show id i = i from rfl,hg] at hb'; cases hb'; exact hc
  ·have := hi.st.lt i b hg
   exact absurd this (by rw [show id i = i from rfl] at h2; omega)
def wlow (E : Env) (S : St) (g : RS × List Prop) : Option (Env × List (Nat × Blk) × List Prop) := match prune (E.map (·.1)) (S.heap.map (·.1)) g.1.env g.1.s with
 | some (e,s) => some (e,s.heap,g.2)
 | none => none
theorem zD (n : Nat) (hs : List WH) {r : RS} {obs : List Prop} (ho : conj obs) {E2 : Env} {S2 : St} {o : Oc} {k : List Fr} (hk : ∀ env s,LowSub E2 S2 env s → RW0 P N ρ Q ⟨o,k,env,s⟩)
  (hx : ((goR P N n hs r).1.o,(goR P N n hs r).1.k,wlow E2 S2 (goR P N n hs r)) = (o,k,some (E2,S2.heap,obs)) := by kernel_rfl) : RW0 P N ρ Q r := by
 simp only [Prod.mk.injEq] at hx
 obtain ⟨h1,h2,h3⟩ := hx
 unfold wlow at h3
 split at h3
 ·rename_i e s hd
  simp only [Option.some.injEq,Prod.mk.injEq] at h3
  obtain ⟨h3,h4,h5⟩ := h3
  obtain ⟨d1,d2⟩ := prune_sub hd
  refine goR_ok n hs r (by rw [h5]; exact ho) ?_
  subst h1; subst h2; subst h3
  exact hk _ _ ⟨d1,fun i b hg => d2.heap i b (by rw [h4]; exact hg),fun i hd => by rw [← h4]; exact d2.dfr i hd⟩
 ·cases h3
theorem zf {f : FuncId} {args : List AV} {s : St} {K : AV → St → Prop} (N' : Nat) (rs : List ResultVar) (c : Code) (h : RW0 P N' none (FinQ P rs.toArray K) ⟨.run c,[],argEnv args 0,s⟩)
  (hf : ((P.funcs[f]?).bind fun fn => fn.body.map fun b => (fn.ntmps,fn.results.toList,b)) = some (N',rs,c) := by kernel_rfl) (hn : Nat.ble args.length N' = true := by kernel_rfl) (hd : noDfr s.heap = true := by kernel_rfl) : ACalls P f args s K :=
 run_f N' rs c _ hf rfl hn hd h
def wfin (P : Program) (rs : Array ResultVar) (S : Option St) (g : RS × List Prop) : Option (AV × St × List Prop) := match g.1.o,g.1.k with
 | .out e,[] => bif (match e with | .ret => true | .normal => true | _ => false) then (match aResults P rs g.1.env g.1.s with
  | some x => match S with
   | none => some (x,⟨[],g.1.s.cnt⟩,g.2)
   | some S => match keepB (S.heap.map (·.1)) g.1.s with
    | some s' => bif noDfr s'.heap && Nat.ble s'.cnt S.cnt then some (x,⟨s'.heap,S.cnt⟩,g.2) else none
    | none => none
  | none => none) else none
 | _,_ => none
theorem fin_any {rs : Array ResultVar} {K : AV → St → Prop} {e : Exit} {k : List Fr} {env : Env} {s s' : St} {x : AV} (he : e = .ret ∨ e = .normal) (hk0 : k = []) (hx : aResults P rs env s = some x) (hl : Less s' s) (hk : K x s') : RW0 P N ρ (FinQ P rs K) ⟨.out e,k,env,s⟩ := by
 subst hk0
 rcases he with rfl | rfl
 ·exact fun G w a hn => hn.after ⟨x,s',hx,hl,hk⟩
 ·exact fun G w a hn => hn.after ⟨x,s',hx,hl,hk⟩
theorem wfin_ok {rs : Array ResultVar} {K : AV → St → Prop} {S : Option St} {g : RS × List Prop} {x : AV} {s' : St} {obs : List Prop} (h : wfin P rs S g = some (x,s',obs)) (hk : K x s') : RW0 P N ρ (FinQ P rs K) g.1 ∧ g.2 = obs := by
 unfold wfin at h
 split at h
 ·rename_i e h1 h2
  generalize hq : (match e with | .ret => true | .normal => true | _ => false) = q at h
  have he : q = true → e = .ret ∨ e = .normal := by
   intro hq1; subst hq1
   cases e <;> simp_all
  cases q with
  | false => cases h
  | true =>
   simp only [cond_true] at h
   obtain ⟨⟨o,k,env,s⟩,ob⟩ := g
   simp only at h1 h2 h
   subst h1; subst h2
   split at h
   ·rename_i x0 hx0
    split at h
    ·cases h
     exact ⟨fin_any (s' := ⟨[],s.cnt⟩) (he rfl) rfl hx0 ⟨fun id b hg => by simp [egetN,egetC] at hg,Nat.le_refl _⟩ hk,rfl⟩
    ·rename_i S0
     split at h
     ·rename_i s1 hs1
      cases hd : (noDfr s1.heap && Nat.ble s1.cnt S0.cnt) with
      | false => rw [hd] at h; cases h
      | true =>
       rw [hd] at h
       cases h
       simp only [Bool.and_eq_true] at hd
       unfold keepB at hs1
       split at hs1
       ·rename_i hp hh
        cases hs1
        exact ⟨fin_any (s' := ⟨hp,S0.cnt⟩) (he rfl) rfl hx0 ⟨fun id b hg => ⟨pruneH hh id b hg,fun e => noDfr_iff hd.1 id (by rw [hg,e])⟩,Nat.le_of_ble_eq_true hd.2⟩ hk,rfl⟩
       ·cases hs1
     ·cases h
   ·cases h
 ·cases h
theorem zR (n : Nat) (hs : List WH) {rs : Array ResultVar} {r : RS} {obs : List Prop} {x : AV} (ho : conj obs) (hx : (wfin P rs none (goR P N n hs r)).map (fun q => (q.1,q.2.2)) = some (x,obs) := by kernel_rfl) : RW0 P N ρ (FinQ P rs fun y _ => y = x) r := by
 cases h : wfin P rs none (goR P N n hs r) with
 | none => rw [h] at hx; cases hx
 | some q =>
  obtain ⟨x',s',o'⟩ := q
  rw [h] at hx
  cases hx
  obtain ⟨h1,h2⟩ := wfin_ok (K := fun y _ => y = x') h rfl
  exact goR_ok n hs r (by rw [h2]; exact ho) h1
theorem zP (n : Nat) (hs : List WH) {rs : Array ResultVar} {r : RS} {obs : List Prop} {x : AV} {S : St} {K : AV → St → Prop} (ho : conj obs) (hk : K x S) (hx : wfin P rs (some S) (goR P N n hs r) = some (x,S,obs) := by kernel_rfl) : RW0 P N ρ (FinQ P rs K) r := by
 obtain ⟨h1,h2⟩ := wfin_ok (K := K) hx hk
 exact goR_ok n hs r (by rw [h2]; exact ho) h1
theorem W (n : Nat) (hs : List WH) {r : RS} {obs : List Prop} (ho : conj obs) (h : RW P N ρ Q (goR P N n hs r).1) (hx : (goR P N n hs r).2 = obs := by kernel_rfl) : RW P N ρ Q r := ⟨zW n hs ho h.v hx⟩
theorem wT (n : Nat) (hs : List WH) {r : RS} {obs : List Prop} (ho : conj obs) (ks : List Nat) (xs : List AV) (S : St) (h : RW P N ρ Q ⟨(goR P N n hs r).1.o,(goR P N n hs r).1.k,zipE ks xs,S⟩) (hx : wdrop (zipE ks xs) S (goR P N n hs r) = some (zipE ks xs,S,obs) := by kernel_rfl) : RW P N ρ Q r := ⟨zT n hs ho ks xs S h.v hx⟩
theorem wX (n : Nat) (hs : List WH) {r r' : RS} {obs : List Prop} (ho : conj obs) (h : RW P N ρ Q r') (hx : wgo r'.env r'.s (goR P N n hs r) = some (r',obs) := by kernel_rfl) : RW P N ρ Q r := ⟨zX n hs ho h.v hx⟩
theorem wJ {J : Type} {r : RS} (E : J → Env) (S : J → St) (C : J → Prop) (h1 : (∀ j,C j → RW P N ρ Q ⟨.out .normal,r.k,E j,S j⟩) → RW P N ρ Q r) (h2 : ∀ j,C j → RW P N ρ Q ⟨.out .normal,r.k,E j,S j⟩) : RW P N ρ Q r := h1 h2
theorem wG {J : Type} {r : RS} (E : J → Env) (S : J → St) (C : J → Prop) (h1 : (∀ j,C j → RW P N ρ Q ⟨.run (seqY r.o),r.k,E j,S j⟩) → RW P N ρ Q r) (h2 : ∀ j,C j → RW P N ρ Q ⟨.run (seqY r.o),r.k,E j,S j⟩) : RW P N ρ Q r := h1 h2
structure LK (P : Program) (N : Nat) (ρ : Option Nat) (Q : Exit → Env → St → Prop) {σ τ : Type} (base : Nat) (E : σ → Env) (S : σ → St) (out : σ ⊕ τ) (k : List Fr) : Prop where
 n : ∀ st',out = .inl st' → RW P N ρ Q ⟨.out .normal,.lp (Nx N ρ base E S out) (∃ r,out = .inr r) :: k,E st',S st'⟩
 i : ∀ st' env s,out = .inl st' → See N ρ base (E st') (S st') env s → RW P N ρ Q ⟨.out .normal,.lp (Nx N ρ base E S out) (∃ r,out = .inr r) :: k,env,s⟩
 o : ∀ r,out = .inr r → ∃ r,out = .inr r
structure LKc (P : Program) (N : Nat) (ρ : Option Nat) (Q : Exit → Env → St → Prop) {σ τ : Type} (base : Nat) (E : σ → Env) (S : σ → St) (out : σ ⊕ τ) (k : List Fr) : Prop extends LK P N ρ Q base E S out k where
 d : ∀ st' env s,out = .inl st' → LowSub (E st') (S st') env s → RW P N ρ Q ⟨.out .normal,.lp (Nx N ρ base E S out) (∃ r,out = .inr r) :: k,env,s⟩
theorem wL (m : Nat) (hs : List WH) {r : RS} {obs : List Prop} (ho : conj obs) {σ τ : Type} {body : σ → Option (σ ⊕ τ)} {n : Nat} {st0 : σ} {res : τ} (hl : loopN body n st0 = some res) (base : Nat) (E : σ → Env) (S : σ → St)
  (round : ∀ st out,body st = some out → (∀ r,out = .inr r → r = res) → LK P N ρ Q base E S out (goR P N m hs r).1.k → RW P N ρ Q ⟨.run (loopX (goR P N m hs r).1.o),.lp (Nx N ρ base E S out) (∃ r,out = .inr r) :: (goR P N m hs r).1.k,E st,S st⟩)
  (hx : (isLoop (goR P N m hs r).1.o,Nat.beq (goR P N m hs r).1.s.cnt base,wdrop (E st0) (S st0) (goR P N m hs r)) = (true,true,some (E st0,S st0,obs)) := by kernel_rfl) : RW P N ρ Q r :=
 ⟨zL m hs ho hl base E S (fun st out hb hr kn ki => (round st out hb hr ⟨fun st' e => ⟨kn st' e⟩,fun st' env s e h => ⟨ki st' env s e h⟩,fun r e => ⟨r,e⟩⟩).v) hx⟩
theorem wLi (m : Nat) (hs : List WH) {r : RS} {obs : List Prop} (ho : conj obs) {σ τ : Type} {body : σ → Option (σ ⊕ τ)} {n : Nat} {st0 : σ} {res : τ} (hl : loopN body n st0 = some res) (base : Nat) (E : σ → Env) (S : σ → St) (ks : List Nat) (xs : List AV) (S1 : St)
  (h0 : See N ρ base (E st0) (S st0) (zipE ks xs) S1)
  (round : ∀ st out,body st = some out → (∀ r,out = .inr r → r = res) → LK P N ρ Q base E S out (goR P N m hs r).1.k → RW P N ρ Q ⟨.run (loopX (goR P N m hs r).1.o),.lp (Nx N ρ base E S out) (∃ r,out = .inr r) :: (goR P N m hs r).1.k,E st,S st⟩)
  (hx : (isLoop (goR P N m hs r).1.o,Nat.beq (goR P N m hs r).1.s.cnt base,wdrop (zipE ks xs) S1 (goR P N m hs r)) = (true,true,some (zipE ks xs,S1,obs)) := by kernel_rfl) : RW P N ρ Q r :=
 ⟨zLi m hs ho hl base E S ks xs S1 h0 (fun st out hb hr kn ki => (round st out hb hr ⟨fun st' e => ⟨kn st' e⟩,fun st' env s e h => ⟨ki st' env s e h⟩,fun r e => ⟨r,e⟩⟩).v) hx⟩
theorem wLc (m : Nat) (hs : List WH) {r : RS} {obs : List Prop} (ho : conj obs) {σ τ : Type} {body : σ → Option (σ ⊕ τ)} {n : Nat} {st0 : σ} {res : τ} (hl : loopN body n st0 = some res) (base : Nat) (E : σ → Env) (S : σ → St) (hρ : ∀ i,ρ = some i → i < base) (hid : ∀ st,IdOk base (E st) (S st))
  (round : ∀ st out,body st = some out → (∀ r,out = .inr r → r = res) → LKc P N ρ Q base E S out (goR P N m hs r).1.k → RW P N ρ Q ⟨.run (loopX (goR P N m hs r).1.o),.lp (Nx N ρ base E S out) (∃ r,out = .inr r) :: (goR P N m hs r).1.k,E st,S st⟩)
  (hx : (isLoop (goR P N m hs r).1.o,Nat.beq (goR P N m hs r).1.s.cnt base,wdrop (E st0) (S st0) (goR P N m hs r)) = (true,true,some (E st0,S st0,obs)) := by kernel_rfl) : RW P N ρ Q r :=
 wL m hs ho hl base E S (fun st out hb hr K => round st out hb hr ⟨K,fun st' env s e h => K.i st' env s e (see_low hρ (hid st') h)⟩) hx
theorem wN (n : Nat) (hs : List WH) {r : RS} {obs : List Prop} (ho : conj obs) (ks : List Nat) (xs : List AV) (S0 : St) {σ τ : Type} {base : Nat} {E : σ → Env} {S : σ → St} {out : σ ⊕ τ} {k : List Fr} (K : LK P N ρ Q base E S out k) {st' : σ} (hout : out = .inl st') (h : See N ρ base (E st') (S st') (zipE ks xs) S0)
  (hx : wgo (zipE ks xs) S0 (goR P N n hs r) = some (⟨.out .normal,.lp (Nx N ρ base E S out) (∃ r,out = .inr r) :: k,zipE ks xs,S0⟩,obs) := by kernel_rfl) : RW P N ρ Q r := wX n hs ho (K.i _ _ _ hout h) hx
theorem wD (n : Nat) (hs : List WH) {r : RS} {obs : List Prop} (ho : conj obs) {E2 : Env} {S2 : St} {o : Oc} {k : List Fr} (hk : ∀ env s,LowSub E2 S2 env s → RW P N ρ Q ⟨o,k,env,s⟩)
  (hx : ((goR P N n hs r).1.o,(goR P N n hs r).1.k,wlow E2 S2 (goR P N n hs r)) = (o,k,some (E2,S2.heap,obs)) := by kernel_rfl) : RW P N ρ Q r := ⟨zD n hs ho (fun env s h => (hk env s h).v) hx⟩
theorem wI {o : Oc} {k : List Fr} {env : Env} {s : St} (base : Nat) (L : List (Nat × Nat)) (ks : List Nat) (ys : List AV) {xs : List AV} {S2 : St} (h : RW P N ρ Q ⟨o,k,zipE ks xs,S2⟩) (hρ : ∀ id,ρ = some id → id < base) (hc : CoL (okId base S2.heap) (pi L) xs ys) (hh : HCo (okId base S2.heap) (pi L) base s S2.heap)
  (hs : Nat.ble s.cnt base = true := by kernel_rfl) (hb : intoB base L S2 s = true := by kernel_rfl) (he : look env ks = some ys := by kernel_rfl) : RW P N ρ Q ⟨o,k,env,s⟩ := ⟨zI base L ks ys h.v hρ hc hh hs hb he⟩
theorem wXi (n : Nat) (hs : List WH) {r : RS} {obs : List Prop} (ho : conj obs) (ks : List Nat) (xs : List AV) (S : St) (base : Nat) (L : List (Nat × Nat)) {o : Oc} {k : List Fr} {xs2 : List AV} {S2 : St} (h : RW P N ρ Q ⟨o,k,zipE ks xs2,S2⟩) (hρ : ∀ id,ρ = some id → id < base)
  (hc : CoL (okId base S2.heap) (pi L) xs2 xs) (hh : HCo (okId base S2.heap) (pi L) base S S2.heap) (hs' : Nat.ble S.cnt base = true := by kernel_rfl) (hb : intoB base L S2 S = true := by kernel_rfl) (he : look (zipE ks xs) ks = some xs := by kernel_rfl)
  (hx : wgo (zipE ks xs) S (goR P N n hs r) = some (⟨o,k,zipE ks xs,S⟩,obs) := by kernel_rfl) : RW P N ρ Q r := wX n hs ho (wI base L ks xs h hρ hc hh hs' hb he) hx
theorem wZ {o : Oc} {k : List Fr} {env : Env} {s : St} (id esz : Nat) (elems : List AV) (ks : List Nat) (ys : List AV) {xs : List AV} {S2 : St} (h : RW P N ρ Q ⟨o,k,zipE ks xs,S2⟩) (hz : FzL id elems xs ys) (hh : HFz id elems s S2.heap)
  (hx : (isRun o,eget s.heap id,look env ks,Nat.beq S2.cnt s.cnt,keepD s.heap S2.heap) = (true,some (.cells esz elems),some ys,true,true) := by kernel_rfl) : RW P N ρ Q ⟨o,k,env,s⟩ := ⟨zZ id esz elems ks ys h.v hz hh hx⟩
theorem wf {f : FuncId} {args : List AV} {s : St} {K : AV → St → Prop} (N' : Nat) (rs : List ResultVar) (c : Code) (h : RW P N' none (FinQ P rs.toArray K) ⟨.run c,[],argEnv args 0,s⟩)
  (hf : ((P.funcs[f]?).bind fun fn => fn.body.map fun b => (fn.ntmps,fn.results.toList,b)) = some (N',rs,c) := by kernel_rfl) (hn : Nat.ble args.length N' = true := by kernel_rfl) (hd : noDfr s.heap = true := by kernel_rfl) : ACalls P f args s K := zf N' rs c h.v hf hn hd
theorem wR (n : Nat) (hs : List WH) {rs : Array ResultVar} {r : RS} {obs : List Prop} {x : AV} (ho : conj obs) (hx : (wfin P rs none (goR P N n hs r)).map (fun q => (q.1,q.2.2)) = some (x,obs) := by kernel_rfl) : RW P N ρ (FinQ P rs fun y _ => y = x) r := ⟨zR n hs ho hx⟩
theorem wP (n : Nat) (hs : List WH) {rs : Array ResultVar} {r : RS} {obs : List Prop} {x : AV} {S : St} {K : AV → St → Prop} (ho : conj obs) (hk : K x S) (hx : wfin P rs (some S) (goR P N n hs r) = some (x,S,obs) := by kernel_rfl) : RW P N ρ (FinQ P rs K) r := ⟨zP n hs ho hk hx⟩
theorem ixLtL {α β : Type} {l : List α} {m : List β} {i : Int} {x : α} (hm : l.length = m.length) (h : ix l i = some x) : i < m.length := by
 have := ixLt h; omega
def nilOf (P : Program) (N : Nat) (o : Oc) (env : Env) (s : St) : Option (Code × Option Nat × Env × AV) := match o with
 | .run c => nilRun P N c env s
 | _ => none
theorem wNl {o : Oc} {k : List Fr} {env : Env} {s : St} (d : Option Nat) (E1 : Env) (x : AV) (h : ∀ b : Bool,(b = true → nilish x) → RW P N ρ Q ⟨.run (seqY o),k,eput d (.bool b) E1,s⟩)
  (hx : nilOf P N o env s = some (seqY o,d,E1,x) := by kernel_rfl) : RW P N ρ Q ⟨o,k,env,s⟩ := by
 cases o with
 | out e => cases hx
 | run c => exact ⟨run_nl _ d E1 x hx fun b hb => (h b hb).v⟩
end
end Go.Am
