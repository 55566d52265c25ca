/-
  The logic AM, part 4: calls, code and regions of abstract states, and the rules that do not look into an operation.
  Own work. No Go text.
-/
import Derived.Test.YtpljabnngpnieaaAm3
namespace Go.Am
open Go.RowKit

def fen (o : Option Nat) : Fence := { Fence.wide with round := o }

/-- The record of the round in which code runs. -/
def conc (G : Ghost) (ρ : Option Nat) : Option Nat := match ρ with
  | none => none
  | some id => (G.own id).map (·.block)

theorem callsIn_fen {o : Option Nat} {n : Nat} {P : Program} {f : FuncId} {args : Array Value} {w : World} {R : Ending → World → Prop} (h : Calls P f args w R) : CallsIn (fen o) n P f args w R :=
  have h' : CallsIn Fence.wide n P f args w R := callsIn_wide.2 h
  h'

/-- What a call, or a round, has come to. -/
def Gave (G : Ghost) (s : St) (w : World) (Q : AV → St → Prop) (e : Ending) (w' : World) : Prop :=
  ∃ v G' x s', e = .returned v ∧ V G' x v ∧ Sim G' s' w' ∧ Ext G s w G' s' w' ∧ Q x s'

theorem Gave.mono {G : Ghost} {s : St} {w : World} {Q Q' : AV → St → Prop} {e : Ending} {w' : World} (h : Gave G s w Q e w') (hq : ∀ x s', Q x s' → Q' x s') : Gave G s w Q' e w' :=
  let ⟨v, G', x, s', a, b, c, d, q⟩ := h; ⟨v, G', x, s', a, b, c, d, hq _ _ q⟩

/-- A function called with abstract arguments. -/
def ACalls (P : Program) (f : FuncId) (args : List AV) (s : St) (Q : AV → St → Prop) : Prop :=
  ∀ G w vs, Sim G s w → VL G args vs → Calls P f vs w (Gave G s w Q)

theorem ACalls.mono {P : Program} {f : FuncId} {args : List AV} {s : St} {Q Q' : AV → St → Prop} (h : ACalls P f args s Q) (hq : ∀ x s', Q x s' → Q' x s') : ACalls P f args s Q' :=
  fun G w vs hs hv => (h G w vs hs hv).mono fun _ _ hg => hg.mono hq

/-- A round of a loop over a function, called with abstract arguments. -/
def AYield (P : Program) (id : Nat) (args : List AV) (s : St) (Q : AV → St → Prop) : Prop :=
  ∀ o G w r vs, Sim G s w → G.own id = some r → VL G args vs → ∃ fn tmps assign body, (Instr.yield r.block vs).run P w = .ok (.round r.block fn tmps assign body) w ∧
    RoundIn (fen o) 0 P r.block fn tmps assign body w (Gave G s w Q)

theorem AYield.mono {P : Program} {f : FuncId} {args : List AV} {s : St} {Q Q' : AV → St → Prop} (h : AYield P f args s Q) (hq : ∀ x s', Q x s' → Q' x s') : AYield P f args s Q' :=
  fun o G w r vs hs hr hv => let ⟨fn, tmps, assign, body, h1, h2⟩ := h o G w r vs hs hr hv; ⟨fn, tmps, assign, body, h1, h2.mono fun _ _ hg => hg.mono hq⟩

/-- The marks of an activation: each a block of the state. -/
def Defs (G : Ghost) (s : St) : List Deferred → Prop
  | [] => True
  | d :: ds => (∃ id r, eget s.heap id = some .dfr ∧ G.own id = some r ∧ d.target = .collected r.block ∧ ∀ d' ∈ ds, ∀ b, d'.target = .collected b → b ≠ r.block) ∧ Defs G s ds

theorem Defs.ext {G G' : Ghost} {s s' : St} {w w' : World} (h : Ext G s w G' s' w') : ∀ {ds : List Deferred}, Defs G s ds → Defs G' s' ds
  | [], _ => trivial
  | _ :: _, ⟨⟨id, r, a, b, c, d⟩, hr⟩ => ⟨⟨id, r, h.dfr id a, h.le.own _ _ b, c, d⟩, Defs.ext h hr⟩

/-- The round's record is known. -/
def Known (G : Ghost) (ρ : Option Nat) : Prop := ∀ id, ρ = some id → ∃ r, G.own id = some r

theorem conc_le {G G' : Ghost} {ρ : Option Nat} (h : GLe G G') (hk : Known G ρ) : conc G' ρ = conc G ρ := by
  cases ρ with
  | none => rfl
  | some id =>
    obtain ⟨r, hr⟩ := hk id rfl
    simp [conc, hr, h.own _ _ hr]

theorem Known.le {G G' : Ghost} {ρ : Option Nat} (h : GLe G G') (hk : Known G ρ) : Known G' ρ := fun id e => let ⟨r, hr⟩ := hk id e; ⟨r, h.own _ _ hr⟩

structure Now (G : Ghost) (N : Nat) (ρ : Option Nat) (env : Env) (s : St) (a : Act) (w : World) : Prop where
  sim : Sim G s w
  env : VEnv G env a.tmps
  size : a.tmps.size = N
  defs : Defs G s a.defers
  known : Known G ρ

def After (G : Ghost) (N : Nat) (ρ : Option Nat) (s : St) (w : World) (Q : Exit → Env → St → Prop) (e : Exit) (a' : Act) (w' : World) : Prop :=
  ∃ G' env' s', Now G' N ρ env' s' a' w' ∧ Ext G s w G' s' w' ∧ Q e env' s'

def AWp (P : Program) (N : Nat) (ρ : Option Nat) (c : Code) (Q : Exit → Env → St → Prop) (env : Env) (s : St) : Prop :=
  ∀ G w a, Now G N ρ env s a w → c.wpIn (fen (conc G ρ)) 0 P (After G N ρ s w Q) a w

def Then (K : Env → St → Prop) (Q : Exit → Env → St → Prop) : Exit → Env → St → Prop
  | .normal, env, s => K env s
  | e, env, s => Q e env s

def InBlock (id : Nat) (Q : Exit → Env → St → Prop) : Exit → Env → St → Prop
  | .exit id', env, s => if id' = id then Q .normal env s else Q (.exit id') env s
  | e, env, s => Q e env s

/-! ### Regions -/

def eput (d : Option Nat) (v : AV) (env : Env) : Env := match d with
  | some d => eset env d v
  | none => env

def enters (P : Program) (f : FuncId) : Bool := match P.funcs[f]? with
  | some fn => fn.name != "runtime.NumGoroutine" && fn.body.isSome
  | none => false

def callOf : Op → Option (Operand × List Operand)
  | .call { callee := .value f, args, .. } => some (f, args.toList)
  | _ => none

/-- What an operation must do that K may follow. -/
def owp (P : Program) (o : Oper) (K : AV → St → Prop) (env : Env) (s : St) : Prop :=
  match callOf o.op with
  | some (f, args) => match oper env f, opers env args with
    | some (.fn g caps), some l => enters P g = true ∧ ACalls P g (l ++ caps) s K
    | some (.yld id), some l => AYield P id l s K
    | _, _ => False
  | none => match aop P o.op env s with
    | some (v, s') => K v s'
    | none => False

/-- An operation under its guard: A: it is carried out; B: it is not. -/
def gwp (ops : Array Oper) (o : Oper) (env : Env) (A B : Prop) : Prop :=
  match o.guard with
  | none => A
  | some (j, want) => match (ops[j]?).bind (·.dst) with
    | some d => match eget env d with
      | some (.bool b) => (b = want → A) ∧ (b = !want → B)
      | some (.tup []) => B
      | _ => False
    | none => False

def okDst (N : Nat) : Option Nat → Bool
  | some d => decide (d < N)
  | none => true

def rwp (P : Program) (N : Nat) (ops : Array Oper) (K : Env → St → Prop) : List Oper → Env → St → Prop
  | [], env, s => K env s
  | o :: r, env, s => okDst N o.dst = true ∧ gwp ops o env (owp P o (fun v s' => rwp P N ops K r (eput o.dst v env) s') env s) (rwp P N ops K r (eput o.dst (.tup []) env) s)

section
variable {P : Program} {N : Nat} {ρ : Option Nat} {Q Q' : Exit → Env → St → Prop} {env : Env} {s : St}

theorem After.mono {G : Ghost} {w : World} {e : Exit} {a' : Act} {w' : World} (h : After G N ρ s w Q e a' w') (hq : ∀ e env s, Q e env s → Q' e env s) : After G N ρ s w Q' e a' w' :=
  let ⟨G', env', s', a, b, c⟩ := h; ⟨G', env', s', a, b, hq _ _ _ c⟩

theorem AWp.mono {c : Code} (h : AWp P N ρ c Q env s) (hq : ∀ e env s, Q e env s → Q' e env s) : AWp P N ρ c Q' env s :=
  fun G w a hn => wpIn_mono (h G w a hn) fun _ _ _ ha => ha.mono hq

theorem Now.after {G : Ghost} {e : Exit} {a : Act} {w : World} (h : Now G N ρ env s a w) (hq : Q e env s) : After G N ρ s w Q e a w := ⟨G, env, s, h, .refl _ _ _, hq⟩

/-- From a later state on. -/
theorem AWp.later {c : Code} {G G' : Ghost} {s0 : St} {w0 : World} {w : World} {a : Act} (h : AWp P N ρ c Q env s) (h0 : Sim G s0 w0) (hk : Known G ρ) (hx : Ext G s0 w0 G' s w) (hn : Now G' N ρ env s a w) :
    c.wpIn (fen (conc G ρ)) 0 P (After G N ρ s0 w0 Q) a w := by
  have := h G' w a hn
  rw [conc_le hx.le hk] at this
  exact wpIn_mono this fun e a' w' ⟨G2, env2, s2, n2, x2, q2⟩ => ⟨G2, env2, s2, n2, .trans h0 hx x2, q2⟩

theorem awp_skip (h : Q .normal env s) : AWp P N ρ .skip Q env s := fun _ _ _ hn => wpIn_skip (hn.after h)
theorem awp_label {l : Nat} (h : Q .normal env s) : AWp P N ρ (.label l) Q env s := fun _ _ _ hn => wpIn_label (hn.after h)
theorem awp_exit {id : Nat} (h : Q (.exit id) env s) : AWp P N ρ (.exit id) Q env s := fun _ _ _ hn => wpIn_exit (hn.after h)
theorem awp_ret (h : Q .ret env s) : AWp P N ρ .ret Q env s := fun _ _ _ hn => wpIn_ret (hn.after h)

theorem awp_seq {x y : Code} (h : AWp P N ρ x (Then (AWp P N ρ y Q) Q) env s) : AWp P N ρ (.seq x y) Q env s := fun G w a hn => by
  refine wpIn_seq (wpIn_mono (h G w a hn) ?_)
  rintro e a' w' ⟨G', env', s', n', x', q'⟩
  cases e with
  | normal => exact AWp.later q' hn.sim hn.known x' n'
  | exit id => exact ⟨G', env', s', n', x', q'⟩
  | goto l => exact ⟨G', env', s', n', x', q'⟩
  | ret => exact ⟨G', env', s', n', x', q'⟩
  | panic ch => exact ⟨G', env', s', n', x', q'⟩
  | outgrown => exact ⟨G', env', s', n', x', q'⟩

theorem awp_block {id : Nat} {c : Code} (h : AWp P N ρ c (InBlock id Q) env s) : AWp P N ρ (.block id c) Q env s := fun G w a hn => by
  refine wpIn_block (wpIn_mono (h G w a hn) ?_)
  rintro e a' w' ⟨G', env', s', n', x', q'⟩
  cases e with
  | exit id' =>
    simp only [InBlock] at q'
    simp only [Exit.inBlock]
    split
    · rename_i he; rw [if_pos he] at q'; exact ⟨G', env', s', n', x', q'⟩
    · rename_i he; rw [if_neg he] at q'; exact ⟨G', env', s', n', x', q'⟩
  | normal => exact ⟨G', env', s', n', x', q'⟩
  | goto l => exact ⟨G', env', s', n', x', q'⟩
  | ret => exact ⟨G', env', s', n', x', q'⟩
  | panic ch => exact ⟨G', env', s', n', x', q'⟩
  | outgrown => exact ⟨G', env', s', n', x', q'⟩

/-- A loop, by a number that goes down. -/
theorem wpIn_loopK {F : Fence} {n : Nat} {R : Exit → Act → World → Prop} {c : Code} (J : Nat → Act → World → Prop)
    (round : ∀ k a w, J k a w → c.wpIn F n P (Exit.then (fun a' w' => ∃ k', k' < k ∧ J k' a' w') R) a w) {k : Nat} {a : Act} {w : World} (h0 : J k a w) : (Code.loop c).wpIn F n P R a w := by
  intro b kk cs hro hb hr
  have key : ∀ j a w, J j a w → ∃ e a' w', R e a' w' ∧ ArrivesIn (Machine.fenced P F) P (lone (b.atR a (.code c :: .inLoop c :: kk)) cs w) b kk cs e a' w' := by
    intro j
    induction j using Nat.strongRecOn with
    | _ j ih =>
      intro a w hI
      obtain ⟨e, a₁, w₁, hq, harr⟩ := round j a w hI b (.inLoop c :: kk) cs hro hb hr
      cases e with
      | normal =>
        obtain ⟨k', hlt, hI₁⟩ := hq
        obtain ⟨e₂, a₂, w₂, hq₂, harr₂⟩ := ih k' hlt a₁ w₁ hI₁
        exact ⟨e₂, a₂, w₂, hq₂, .of_steps (StepsIn.trans harr (.one (fenced_calm hb hr rfl) stepR_inLoop)) harr₂⟩
      | exit id => exact ⟨_, a₁, w₁, hq, .pass (x := .inLoop c) rfl (fun _ _ => .inl (by simp)) harr⟩
      | goto l => exact ⟨_, a₁, w₁, hq, .pass (x := .inLoop c) rfl (fun _ _ => .inl (by simp)) harr⟩
      | ret => exact ⟨_, a₁, w₁, hq, .pass (x := .inLoop c) rfl (fun _ _ => .inl (by simp)) harr⟩
      | panic ch => exact ⟨_, a₁, w₁, hq, .pass (x := .inLoop c) rfl (fun _ _ => .inl (by simp)) harr⟩
      | outgrown => exact ⟨_, a₁, w₁, hq, .pass (x := .inLoop c) rfl (fun _ _ => .inl (by simp)) harr⟩
  obtain ⟨e, a', w', hq, harr⟩ := key k a w h0
  exact ⟨e, a', w', hq, .of_steps (.one (fenced_calm hb hr rfl) stepR_loop) harr⟩

theorem awp_loop {c : Code} (I : Nat → Env → St → Prop) {k : Nat} (h0 : I k env s)
    (round : ∀ k env s, I k env s → AWp P N ρ c (Then (fun env' s' => ∃ k', k' < k ∧ I k' env' s') Q) env s) : AWp P N ρ (.loop c) Q env s := fun G w a hn => by
  refine wpIn_loopK (fun k a' w' => ∃ G' env' s', Now G' N ρ env' s' a' w' ∧ Ext G s w G' s' w' ∧ I k env' s') ?_ ⟨G, env, s, hn, .refl _ _ _, h0⟩
  rintro k a' w' ⟨G', env', s', n', x', i'⟩
  refine wpIn_mono (AWp.later (round k env' s' i') hn.sim hn.known x' n') ?_
  rintro e a2 w2 ⟨G2, env2, s2, n2, x2, q2⟩
  cases e with
  | normal => obtain ⟨k', hk, hi⟩ := q2; exact ⟨k', hk, G2, env2, s2, n2, x2, hi⟩
  | exit id => exact ⟨G2, env2, s2, n2, x2, q2⟩
  | goto l => exact ⟨G2, env2, s2, n2, x2, q2⟩
  | ret => exact ⟨G2, env2, s2, n2, x2, q2⟩
  | panic ch => exact ⟨G2, env2, s2, n2, x2, q2⟩
  | outgrown => exact ⟨G2, env2, s2, n2, x2, q2⟩

/-! ### Operands -/

theorem ofCell_V {G : Ghost} {v : Value} {x : AV} (h : ofCell v = some x) : V G x v := by
  unfold ofCell at h
  split at h <;> cases h
  · exact .bool _
  · exact .int _ _
  · exact .str _
  · exact .nilp
  · exact .nilf
  · exact .slnil _ _ _ (fun _ => rfl) (fun _ => rfl)

theorem ofCells_V {G : Ghost} : ∀ {l : List Value} {xs : List AV}, ofCells l = some xs → xs.length = l.length ∧ ∀ (i : Nat) x y, xs[i]? = some x → l[i]? = some y → V G x y
  | [], xs, h => by simp [ofCells] at h; subst h; simp
  | v :: r, xs, h => by
    simp only [ofCells] at h
    split at h
    · rename_i x l h1 h2
      cases h
      obtain ⟨e1, e2⟩ := ofCells_V (G := G) h2
      refine ⟨by simp [e1], fun i a b ha hb => ?_⟩
      cases i with
      | zero => simp at ha hb; subst ha; subst hb; exact ofCell_V h1
      | succ i => exact e2 i a b (by simpa using ha) (by simpa using hb)
    · cases h

theorem ofValue_V {G : Ghost} {v : Value} {x : AV} (h : ofValue v = some x) : V G x v := by
  unfold ofValue at h
  split at h
  · rename_i cs
    split at h
    · rename_i l hl
      cases h
      obtain ⟨e1, e2⟩ := ofCells_V (G := G) hl
      exact .agg _ _ (by simpa using e1) fun i a b ha hb => e2 i a b ha (by simpa using hb)
    · cases h
  · exact ofCell_V h

theorem oper_V {G : Ghost} {a : Act} (he : VEnv G env a.tmps) {o : Operand} {x : AV} (h : oper env o = some x) : V G x (a.eval o) := by
  cases o with
  | tmp t => exact (he t x h).2
  | const v => exact ofValue_V h
  | func f => cases h; exact .fn f [] #[] rfl (by simp)
  | global g => cases h

theorem opers_V {G : Ghost} {a : Act} (he : VEnv G env a.tmps) : ∀ {l : List Operand} {xs : List AV}, opers env l = some xs →
    xs.length = l.length ∧ ∀ (i : Nat) x y, xs[i]? = some x → (l.map a.eval)[i]? = some y → V G x y
  | [], xs, h => by simp [opers] at h; subst h; simp
  | o :: r, xs, h => by
    simp only [opers] at h
    split at h
    · rename_i x l h1 h2
      cases h
      obtain ⟨e1, e2⟩ := opers_V he h2
      refine ⟨by simp [e1], fun i a b ha hb => ?_⟩
      cases i with
      | zero => simp at ha hb; subst ha; subst hb; exact oper_V he h1
      | succ i => exact e2 i a b (by simpa using ha) (by simpa using hb)
    · cases h

theorem opers_VL {G : Ghost} {a : Act} (he : VEnv G env a.tmps) {l : Array Operand} {xs : List AV} (h : opers env l.toList = some xs) : VL G xs (l.map a.eval) := by
  obtain ⟨e1, e2⟩ := opers_V he h
  exact ⟨by simpa using e1, fun i x y hx hy => e2 i x y hx (by simpa using hy)⟩

theorem awp_cond {c : Operand} {x y : Code} {b : Bool} (hc : oper env c = some (.bool b)) (ht : b = true → AWp P N ρ x Q env s) (hf : b = false → AWp P N ρ y Q env s) :
    AWp P N ρ (.cond c x y) Q env s := fun G w a hn => by
  have hv := oper_V hn.env hc
  generalize hq : a.eval c = v at hv
  cases hv
  exact wpIn_cond_split hq (fun e => ht e G w a hn) (fun e => hf e G w a hn)

/-! ### Less may be said -/

theorem VEnv.sub {G : Ghost} {env env' : Env} {tmps : Array Value} (h : VEnv G env tmps) (hs : ∀ t x, eget env' t = some x → eget env t = some x) : VEnv G env' tmps := fun t x hx => h t x (hs t x hx)

theorem Defs.drop {G : Ghost} {s s' : St} (hd : ∀ id, eget s.heap id = some .dfr → eget s'.heap id = some .dfr) : ∀ {ds : List Deferred}, Defs G s ds → Defs G s' ds
  | [], _ => trivial
  | _ :: _, ⟨⟨id, r, a, b, c, d⟩, hr⟩ => ⟨⟨id, r, hd id a, b, c, d⟩, Defs.drop hd hr⟩

theorem awp_weak {c : Code} {env' : Env} {s' : St} (h : AWp P N ρ c Q env' s') (he : ∀ t x, eget env' t = some x → eget env t = some x) (hh : ∀ id b, eget s'.heap id = some b → eget s.heap id = some b)
    (hc : s.cnt ≤ s'.cnt) (hd : ∀ id, eget s.heap id = some .dfr → eget s'.heap id = some .dfr) : AWp P N ρ c Q env s := fun _ _ _ hn =>
  AWp.later h hn.sim hn.known (Ext.drop hh hc hd) ⟨hn.sim.drop hh hc, hn.env.sub he, hn.size, hn.defs.drop hd, hn.known⟩

end

end Go.Am
