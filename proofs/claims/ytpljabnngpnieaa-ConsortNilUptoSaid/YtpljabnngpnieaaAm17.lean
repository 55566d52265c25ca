/-
  The logic AM, part 17: regions that leave their order open. One order, given as a plan, is walked; what it reads is held against each state in which another order may read it.
  Own work. No Go text.
-/
import Derived.Test.YtpljabnngpnieaaAm16
namespace Go.Am
open Go.RowKit

inductive Step where
  | light (i : Nat) (note : Bool)
  | heavy (i : Nat) (chk : List Nat)
  | alloc (i : Nat)
  deriving DecidableEq

def Step.idx : Step → Nat
  | .light i _ => i
  | .heavy i _ => i
  | .alloc i => i

def Step.waits : Step → Bool
  | .light _ _ => false
  | _ => true

def Step.isAlloc : Step → Bool
  | .alloc _ => true
  | _ => false

/-- An operation that leaves the state alone. -/
def isLight : Op → Bool
  | .move _ | .assign _ | .pick _ _ _ | .build _ _ | .buildSlice _ _ _ | .load _ _ | .nilCheck _ | .binOp _ _ _ _ _ | .unOp _ _ _ | .convert _ _ _ | .makeFunc _ _ _ | .slice _ _ _ _ _
  | .fieldAddr _ _ _ | .field _ _ _ | .indexAddr _ _ _ | .index _ _ _ | .extract _ _ => true
  | .call ⟨.builtin .len, _, _⟩ | .call ⟨.builtin .min, _, _⟩ | .call ⟨.builtin .max, _, _⟩ => true
  | _ => false

/-- An operation that does not look at the state. -/
def stateless : Op → Bool
  | .move _ | .assign _ | .pick _ _ _ | .build _ _ | .buildSlice _ _ _ | .nilCheck _ | .binOp _ _ _ _ _ | .unOp _ _ _ | .convert _ _ _ | .makeFunc _ _ _
  | .fieldAddr _ _ _ | .field _ _ _ | .index _ _ _ | .extract _ _ => true
  | .call ⟨.builtin .len, _, _⟩ | .call ⟨.builtin .min, _, _⟩ | .call ⟨.builtin .max, _, _⟩ => true
  | _ => false

theorem keep_same {P : Program} {v : Option AV} {s s' : St} {x : AV} (h : ekeep v s = some (x, s')) : s' = s := (keep_some h).2

theorem light_same {P : Program} {op : Op} {env : Env} {s s' : St} {x : AV} (hl : isLight op = true) (h : aop P op env s = some (x, s')) : s' = s := by
  cases op <;> simp only [isLight] at hl <;> first | (cases hl; done) | skip
  case call c =>
    obtain ⟨callee, args, ts⟩ := c
    cases callee with
    | value f => cases hl
    | invoke r m => cases hl
    | builtin b =>
      cases b <;> simp only [] at hl <;> first | (cases hl; done) | skip
      all_goals
        simp only [aop] at h
        split at h <;> first | exact (keep_some h).2 | cases h
  case makeFunc fn first caps =>
    cases fn <;> simp only [aop] at h <;> first | (cases h; done) | skip
    split at h
    · split at h
      · cases h; rfl
      · cases h
    · cases h
  all_goals
    simp only [aop] at h
    first
      | exact (keep_some h).2
      | (repeat' split at h) <;> first | exact (keep_some h).2 | (cases h; done) | (cases h; rfl)

theorem stateless_same {P : Program} {op : Op} {env : Env} {s s2 : St} {x : AV} (hl : stateless op = true) (h : aop P op env s = some (x, s)) : aop P op env s2 = some (x, s2) := by
  have k : ∀ {v : Option AV}, ekeep v s = some (x, s) → ekeep v s2 = some (x, s2) := fun h => by rw [(keep_some h).1]; rfl
  cases op <;> simp only [stateless] at hl <;> first | (cases hl; done) | skip
  case call c =>
    obtain ⟨callee, args, ts⟩ := c
    cases callee with
    | value f => cases hl
    | invoke r m => cases hl
    | builtin b =>
      cases b <;> simp only [] at hl <;> first | (cases hl; done) | skip
      all_goals
        simp only [aop] at h ⊢
        split at h <;> first | exact k h | cases h
  case makeFunc fn first caps =>
    cases fn <;> simp only [aop] at h ⊢ <;> first | (cases h; done) | skip
    split at h
    · rename_i h0
      rw [if_pos h0]
      split at h
      · rename_i l hl
        cases h; simp only [hl]
      · cases h
    · cases h
  case pick c a b =>
    simp only [aop] at h ⊢
    split at h
    · rename_i t ht
      cases t
      · simp only [Bool.false_eq_true, if_false] at h ⊢; exact k h
      · simp only [if_true] at h ⊢; exact k h
    · cases h
  all_goals
    simp only [aop] at h ⊢
    first
      | exact k h
      | (split at h <;> first | exact k h | (cases h; rfl) | (cases h; done) | (split at h <;> first | exact k h | (cases h; rfl) | (cases h; done) | (split at h <;> first | exact k h | (cases h; rfl) | (cases h; done))))

def slotO : Operand → List Nat
  | .tmp t => [t]
  | _ => []

def slotsI (o : Oper) : List Nat := o.op.operands.toList.flatMap slotO

def envOf (ts : List Nat) (env : Env) : Env := ts.filterMap fun t => (eget env t).map fun x => (t, x)

theorem envOf_get {ts : List Nat} {env : Env} {t : Nat} {x : AV} (h : eget (envOf ts env) t = some x) : t ∈ ts ∧ eget env t = some x := by
  induction ts with
  | nil => simp [envOf, egetN, egetC] at h
  | cons k r ih =>
    simp only [envOf, List.filterMap_cons] at h
    cases hk : eget env k with
    | none =>
      simp only [hk, Option.map_none] at h
      obtain ⟨a, b⟩ := ih h
      exact ⟨by simp [a], b⟩
    | some y =>
      simp only [hk, Option.map_some, egetN, egetC] at h
      split at h
      · rename_i e; subst e; cases h; exact ⟨by simp, hk⟩
      · obtain ⟨a, b⟩ := ih h
        exact ⟨by simp [a], b⟩

def gslot (l : List Oper) (o : Oper) : List Nat := match o.guard with
  | none => []
  | some (j, _) => match (l[j]?).bind (·.dst) with
    | some d => [d]
    | none => []

def edelO (d : Option Nat) (env : Env) : Env := match d with
  | some d => edel env d
  | none => env

def findT : List (Nat × Env × AV) → Nat → Option (Env × AV)
  | [], _ => none
  | (k, e, v) :: r, i => if k = i then some (e, v) else findT r i

def chkAll (P : Program) (l : List Oper) (tr : List (Nat × Env × AV)) (s : St) : List Nat → Prop
  | [] => True
  | j :: r => (match findT tr j, l[j]? with
    | some (e, v), some o => aop P o.op e s = some (v, s)
    | _, _ => True) ∧ chkAll P l tr s r

theorem chkAll_mem {P : Program} {l : List Oper} {tr : List (Nat × Env × AV)} {s : St} {e : Env} {v : AV} {o : Oper} : ∀ {c : List Nat}, chkAll P l tr s c → ∀ j ∈ c, findT tr j = some (e, v) → l[j]? = some o → aop P o.op e s = some (v, s)
  | [], _, j, hj, _, _ => by cases hj
  | k :: r, ⟨h1, h2⟩, j, hj, hf, hl => by
    rcases List.mem_cons.1 hj with rfl | hj
    · simp only [hf, hl] at h1; exact h1
    · exact chkAll_mem h2 j hj hf hl

def gdo (l : List Oper) (o : Oper) (env : Env) (A : Prop) (B : Prop) : Prop := gws (insOf l o).guard env A B

/-- The one order that is walked. -/
def dws (P : Program) (l : List Oper) (K : Env → St → Prop) : List Step → List (Nat × Env × AV) → Env → St → Prop
  | [], _, env, s => K env s
  | .light i note :: r, tr, env, s => match l[i]? with
    | some o => gdo l o env (match aop P o.op (envOf (slotsI o) env) s with
        | some (v, _) => dws P l K r (if note then (i, envOf (slotsI o) env, v) :: tr else tr) (eput o.dst v env) s
        | none => False) (dws P l K r tr (eput o.dst (.tup []) env) s)
    | none => False
  | .heavy i chk :: r, tr, env, s => match l[i]? with
    | some o => gdo l o env (ows P o.op (fun v s' => chkAll P l tr s' chk ∧ dws P l K r tr (eput o.dst v env) s') (envOf (slotsI o) env) s) (dws P l K r tr (eput o.dst (.tup []) env) s)
    | none => False
  | .alloc i :: r, tr, env, s => match l[i]? with
    | some o => match aop P o.op [] s with
      | some (v, s') => dws P l K r tr (eput o.dst v env) s'
      | none => False
    | none => False

def direct (o : Oper) : List Nat := (o.after.toList.filter (Region.binds .any)).map (·.on)

def preI (pre : List (List Nat)) (i : Nat) : List Nat := pre.getD i []

def dstI (l : List Oper) (i : Nat) : Option Nat := (l[i]?).bind (·.dst)

/-- What a plan must be: each clause is asked of the program's text. -/
structure PlanOk (P : Program) (N : Nat) (l : List Oper) (pre : List (List Nat)) (steps : List Step) : Prop where
  edges : ∀ i ∈ List.range l.length, ∀ o ∈ l[i]?, (∀ p ∈ direct o, p < i) ∧ ∀ p ∈ preI pre i, p < i ∧ (p ∈ direct o ∨ ∃ d ∈ direct o, p ∈ preI pre d)
  dsts : ∀ i ∈ List.range l.length, ∀ j ∈ List.range l.length, ∀ t ∈ dstI l i, dstI l j = some t → i = j
  dstN : dstsOk N l = true
  grd : guardsOk l = true
  reads : ∀ i ∈ List.range l.length, ∀ o ∈ l[i]?, ∀ t ∈ slotsI o ++ gslot l o, (∃ u ∈ preI pre i, dstI l u = some t) ∨ (∀ u ∈ List.range l.length, dstI l u = some t → i ∈ preI pre u)
  perm : (∀ st ∈ steps, st.idx < l.length) ∧ (∀ i ∈ List.range l.length, i ∈ steps.map Step.idx) ∧ (steps.map Step.idx).Nodup
  linear : ∀ k ∈ List.range steps.length, ∀ st ∈ steps[k]?, ∀ p ∈ preI pre st.idx, p ∈ (steps.take k).map Step.idx
  waits : ∀ k ∈ List.range steps.length, ∀ st ∈ steps[k]?, st.waits = true → ∀ st2 ∈ steps.drop (k + 1), st2.isAlloc = true ∨ st.idx ∈ preI pre st2.idx
  kinds : ∀ st ∈ steps, ∀ o ∈ l[st.idx]?, match st with
    | .light _ _ => isLight o.op = true
    | .heavy _ _ => True
    | .alloc _ => (match o.op with | .alloc t => (zeroT P t).isSome = true | _ => False) ∧ o.guard = none ∧ o.dst.isSome = true
  checks : ∀ k ∈ List.range steps.length, ∀ st ∈ steps[k]?, match st with
    | .heavy h chk => ∀ st2 ∈ steps.take k, match st2 with
      | .light j note => ∀ o ∈ l[j]?, stateless o.op = true ∨ j ∈ preI pre h ∨ (note = true ∧ j ∈ chk)
      | _ => True
    | _ => True

end Go.Am
