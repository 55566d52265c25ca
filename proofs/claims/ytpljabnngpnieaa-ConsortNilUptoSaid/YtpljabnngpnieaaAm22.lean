/-
  The logic AM, part 22: the rules for walks, with what a guard was written into its slot.
  Own work. No Go text.
-/
import Derived.Test.YtpljabnngpnieaaAm21
namespace Go.Am
open Go.RowKit

theorem eset_self {β : Type} : ∀ {l : List (Nat × β)} {i : Nat} {x : β}, eget l i = some x → eset l i x = l
  | [], _, _, h => by simp [egetN, egetC] at h
  | (k, y) :: r, i, x, h => by
    simp only [egetN, egetC] at h
    simp only [esetN, esetC]
    split at h
    · rename_i e; subst e; cases h; simp
    · rename_i e; rw [if_neg e, eset_self h]

def gwq (g : Option (Nat × Bool)) (env : Env) (A B : Env → Prop) : Prop := match g with
  | none => A env
  | some (d, want) => match eget env d with
    | some (.bool b) => (b = want → A (eset env d (.bool want))) ∧ (b = !want → B (eset env d (.bool (!want))))
    | some (.tup []) => B env
    | _ => False

theorem gwq_gws {g : Option (Nat × Bool)} {env : Env} {A B : Env → Prop} {A' B' : Prop} (h : gwq g env A B) (ha : A env → A') (hb : B env → B') : gws g env A' B' := by
  unfold gwq at h
  unfold gws
  split at h
  · exact ha h
  · split at h
    · rename_i b he
      simp only [he]
      refine ⟨fun e => ha ?_, fun e => hb ?_⟩
      · have := h.1 e
        subst e
        rwa [eset_self he] at this
      · have := h.2 e
        subst e
        rwa [eset_self he] at this
    · rename_i he
      simp only [he]
      exact hb h
    · cases h

theorem ows_mono {P : Program} {op : Op} {K K' : AV → St → Prop} {env : Env} {s : St} (h : ows P op K env s) (hk : ∀ v s', K v s' → K' v s') : ows P op K' env s := by
  unfold ows at h ⊢
  split at h
  · split at h
    · exact ⟨h.1, h.2.mono hk⟩
    · exact h.mono hk
    · cases h
  · split at h
    · exact hk _ _ h
    · cases h

def rwq (P : Program) (K : Env → St → Prop) : List Ins → Env → St → Prop
  | [], env, s => K env s
  | i :: r, env, s => gwq i.guard env (fun env => ows P i.op (fun v s' => rwq P K r (eput i.dst v env) s') env s) (fun env => rwq P K r (eput i.dst (.tup []) env) s)

theorem rwq_rws {P : Program} {K : Env → St → Prop} : ∀ {l : List Ins} {env : Env} {s : St}, rwq P K l env s → rws P K l env s
  | [], _, _, h => h
  | _ :: _, _, _, h => gwq_gws h (fun h => ows_mono h fun _ _ h => rwq_rws h) (fun h => rwq_rws h)

def dwq (P : Program) (l : List Oper) (K : Env → St → Prop) : List Step → List (Nat × Env × AV) → Env → St → Prop
  | [], _, env, s => K env s
  | .light i note :: r, tr, env, s => match l[i]? with
    | some o => gwq (insOf l o).guard env (fun env => match aop P o.op (envOf (slotsI o) env) s with
        | some (v, _) => dwq P l K r (if note then (i, envOf (slotsI o) env, v) :: tr else tr) (eput o.dst v env) s
        | none => False) (fun env => dwq P l K r tr (eput o.dst (.tup []) env) s)
    | none => False
  | .heavy i chk :: r, tr, env, s => match l[i]? with
    | some o => gwq (insOf l o).guard env (fun env => ows P o.op (fun v s' => chkAll P l tr s' chk ∧ dwq P l K r tr (eput o.dst v env) s') (envOf (slotsI o) env) s) (fun env => dwq P l K r tr (eput o.dst (.tup []) env) s)
    | none => False
  | .alloc i :: r, tr, env, s => match l[i]? with
    | some o => match aop P o.op [] s with
      | some (v, s') => dwq P l K r tr (eput o.dst v env) s'
      | none => False
    | none => False

theorem dwq_dws {P : Program} {l : List Oper} {K : Env → St → Prop} : ∀ {steps : List Step} {tr : List (Nat × Env × AV)} {env : Env} {s : St}, dwq P l K steps tr env s → dws P l K steps tr env s
  | [], _, _, _, h => h
  | .light i note :: r, tr, env, s, h => by
    simp only [dwq] at h
    simp only [dws]
    split at h
    · rename_i o ho
      simp only [ho]
      refine gwq_gws h (fun h => ?_) (fun h => dwq_dws h)
      split at h
      · rename_i v s' hx
        simp only [hx]
        exact dwq_dws h
      · cases h
    · cases h
  | .heavy i chk :: r, tr, env, s, h => by
    simp only [dwq] at h
    simp only [dws]
    split at h
    · rename_i o ho
      simp only [ho]
      exact gwq_gws h (fun h => ows_mono h fun _ _ h => ⟨h.1, dwq_dws h.2⟩) (fun h => dwq_dws h)
    · cases h
  | .alloc i :: r, tr, env, s, h => by
    simp only [dwq] at h
    simp only [dws]
    split at h
    · rename_i o ho
      simp only [ho]
      split at h
      · rename_i v s' hx
        simp only [hx]
        exact dwq_dws h
      · cases h
    · cases h

/-- A step with its operation. -/
structure DI where
  st : Step
  ins : Option Ins
  slots : List Nat

def mkD0 (l : List Oper) : List Step → List DI
  | [] => []
  | st :: r => ⟨st, (l[st.idx]?).map (insOf l), (match l[st.idx]? with | some o => slotsI o | none => [])⟩ :: mkD0 l r

def findD : List (Nat × Op × Env × AV) → Nat → Option (Op × Env × AV)
  | [], _ => none
  | (k, x) :: r, i => if k = i then some x else findD r i

def chkD (P : Program) (tr : List (Nat × Op × Env × AV)) (s : St) : List Nat → Prop
  | [] => True
  | j :: r => (match findD tr j with
    | some (op, e, v) => aop P op e s = some (v, s)
    | none => True) ∧ chkD P tr s r

def dq (P : Program) (K : Env → St → Prop) : List DI → List (Nat × Op × Env × AV) → Env → St → Prop
  | [], _, env, s => K env s
  | ⟨.light i note, some n, sl⟩ :: r, tr, env, s => gwq n.guard env (fun env => match aop P n.op (envOf sl env) s with
      | some (v, _) => dq P K r (if note then (i, n.op, envOf sl env, v) :: tr else tr) (eput n.dst v env) s
      | none => False) (fun env => dq P K r tr (eput n.dst (.tup []) env) s)
  | ⟨.heavy _ chk, some n, sl⟩ :: r, tr, env, s => gwq n.guard env (fun env => ows P n.op (fun v s' => chkD P tr s' chk ∧ dq P K r tr (eput n.dst v env) s') (envOf sl env) s) (fun env => dq P K r tr (eput n.dst (.tup []) env) s)
  | ⟨.alloc _, some n, _⟩ :: r, tr, env, s => match aop P n.op [] s with
    | some (v, s') => dq P K r tr (eput n.dst v env) s'
    | none => False
  | ⟨_, none, _⟩ :: _, _, _, _ => False

def opAt (l : List Oper) (i : Nat) : Op := match l[i]? with
  | some o => o.op
  | none => .move (.const undef)

def trD (l : List Oper) (tr : List (Nat × Env × AV)) : List (Nat × Op × Env × AV) := tr.map fun p => (p.1, opAt l p.1, p.2.1, p.2.2)

theorem findD_tr (l : List Oper) : ∀ (tr : List (Nat × Env × AV)) (j : Nat), findD (trD l tr) j = (findT tr j).map fun p => (opAt l j, p.1, p.2)
  | [], j => rfl
  | (k, e, v) :: r, j => by
    have ih := findD_tr l r j
    unfold trD at ih
    simp only [trD, List.map_cons, findD, findT]
    split
    · rename_i h; subst h; rfl
    · exact ih

theorem chkD_all {P : Program} {l : List Oper} {tr : List (Nat × Env × AV)} {s : St} : ∀ {chk : List Nat}, chkD P (trD l tr) s chk → chkAll P l tr s chk
  | [], _ => trivial
  | j :: r, ⟨h1, h2⟩ => by
    refine ⟨?_, chkD_all h2⟩
    rw [findD_tr] at h1
    split
    · rename_i e v o hf hl
      simp only [hf, Option.map_some, opAt, hl] at h1
      exact h1
    · trivial

theorem dq_dwq {P : Program} {l : List Oper} {K : Env → St → Prop} : ∀ {steps : List Step} {tr : List (Nat × Env × AV)} {env : Env} {s : St}, dq P K (mkD0 l steps) (trD l tr) env s → dwq P l K steps tr env s
  | [], _, _, _, h => h
  | st :: r, tr, env, s, h => by
    simp only [mkD0] at h
    cases ho : l[st.idx]? with
    | none =>
      simp only [ho, Option.map_none] at h
      cases st <;> exact h.elim
    | some o =>
      simp only [ho, Option.map_some] at h
      cases st with
      | light i note =>
        simp only [Step.idx] at ho
        simp only [dq] at h
        simp only [dwq, ho]
        have key : ∀ {env : Env}, (match aop P (insOf l o).op (envOf (slotsI o) env) s with
            | some (v, _) => dq P K (mkD0 l r) (if note then (i, (insOf l o).op, envOf (slotsI o) env, v) :: trD l tr else trD l tr) (eput (insOf l o).dst v env) s
            | none => False) → (match aop P o.op (envOf (slotsI o) env) s with
            | some (v, _) => dwq P l K r (if note then (i, envOf (slotsI o) env, v) :: tr else tr) (eput o.dst v env) s
            | none => False) := fun h => by
          have e : (insOf l o).op = o.op := rfl
          rw [e] at h
          split at h
          · rename_i v s1 hv
            try simp only [hv]
            refine dq_dwq ?_
            cases note
            · exact h
            · simp only [if_true] at h ⊢
              have : ∀ e, trD l ((i, e, v) :: tr) = (i, o.op, e, v) :: trD l tr := fun e => by simp [trD, opAt, ho]
              rw [this]; exact h
          · cases h
        unfold gwq at h ⊢
        split at h
        · exact key h
        · split at h
          · exact ⟨fun e => key (h.1 e), fun e => dq_dwq (h.2 e)⟩
          · exact dq_dwq h
          · cases h
      | heavy i chk =>
        simp only [Step.idx] at ho
        simp only [dq] at h
        simp only [dwq, ho]
        unfold gwq at h ⊢
        split at h
        · exact ows_mono h fun _ _ h => ⟨chkD_all h.1, dq_dwq h.2⟩
        · split at h
          · exact ⟨fun e => ows_mono (h.1 e) fun _ _ h => ⟨chkD_all h.1, dq_dwq h.2⟩, fun e => dq_dwq (h.2 e)⟩
          · exact dq_dwq h
          · cases h
      | alloc i =>
        simp only [Step.idx] at ho
        simp only [dq] at h
        simp only [dwq, ho]
        split at h
        · rename_i v s' hv
          have hv' : aop P o.op [] s = some (v, s') := hv
          rw [hv']
          exact dq_dwq h
        · cases h

def slotsOp (op : Op) : List Nat := op.operands.toList.flatMap slotO

def mkD (I : List Ins) : List Step → List DI
  | [] => []
  | st :: r => ⟨st, I[st.idx]?, (match I[st.idx]? with | some n => slotsOp n.op | none => [])⟩ :: mkD I r

theorem mkD_eq (l : List Oper) : ∀ steps, mkD (ins l) steps = mkD0 l steps
  | [] => rfl
  | st :: r => by
    have e : (ins l)[st.idx]? = (l[st.idx]?).map (insOf l) := by unfold ins; rw [List.getElem?_map]
    simp only [mkD, mkD0, mkD_eq l r, e]
    cases l[st.idx]? <;> rfl

/-! ### The same, for a simplifier that looks at arguments first: what follows is data -/

def rz (P : Program) (K : Env → St → Prop) : List Ins → Env → St → Prop
  | [], env, s => K env s
  | i :: r, env, s => gwq i.guard env (fun env => ows P i.op (fun v s' => rz P K r (eput i.dst v env) s') env s) (fun env => rz P K r (eput i.dst (.tup []) env) s)

theorem rz_eq {P : Program} {K : Env → St → Prop} : ∀ {l : List Ins} {env : Env} {s : St}, rz P K l env s → rwq P K l env s
  | [], _, _, h => h
  | i :: r, env, s, h => by
    simp only [rz] at h
    simp only [rwq]
    unfold gwq at h ⊢
    split at h
    · exact ows_mono h fun _ _ h => rz_eq h
    · split at h
      · exact ⟨fun e => ows_mono (h.1 e) fun _ _ h => rz_eq h, fun e => rz_eq (h.2 e)⟩
      · exact rz_eq h
      · cases h

/-- A call, and what follows it. -/
def CallK (P : Program) (K : Env → St → Prop) (f : Option AV) (l : Option (List AV)) (d : Option Nat) (r : List Ins) (env : Env) (s : St) : Prop := match f, l with
  | some (.fn g caps), some l => enters P g = true ∧ ACalls P g (l ++ caps) s fun v s' => rz P K r (eput d v env) s'
  | some (.yld id), some l => AYield P id l s fun v s' => rz P K r (eput d v env) s'
  | _, _ => False

section
variable {P : Program} {K : Env → St → Prop} {d : Option Nat} {op : Op} {r : List Ins} {env : Env} {s : St} {t : Nat} {w : Bool}

theorem rz_nil : rz P K [] env s = K env s := rfl

theorem rz_none : rz P K (⟨d, op, none⟩ :: r) env s = (match callOf op with
    | some (f, a) => CallK P K (oper env f) (opers env a) d r env s
    | none => match aop P op env s with
      | some (v, s') => rz P K r (eput d v env) s'
      | none => False) := by
  simp only [rz, gwq, ows]
  cases callOf op with
  | none => rfl
  | some p => rfl

theorem rz_gT (h : eget env t = some (.bool w)) : rz P K (⟨d, op, some (t, w)⟩ :: r) env s = rz P K (⟨d, op, none⟩ :: r) env s := by
  simp only [rz, gwq, h, eset_self h]
  cases w <;> simp

theorem rz_gF (h : eget env t = some (.bool (!w))) : rz P K (⟨d, op, some (t, w)⟩ :: r) env s = rz P K r (eput d (.tup []) env) s := by
  simp only [rz, gwq, h, eset_self h]
  cases w <;> simp

theorem rz_gU (h : eget env t = some (.tup [])) : rz P K (⟨d, op, some (t, w)⟩ :: r) env s = rz P K r (eput d (.tup []) env) s := by
  simp only [rz, gwq, h]

theorem rz_gS : rz P K (⟨d, op, some (t, w)⟩ :: r) env s = (match eget env t with
    | some (.bool b) => (b = w → rz P K (⟨d, op, none⟩ :: r) (eset env t (.bool w)) s) ∧ (b = !w → rz P K r (eput d (.tup []) (eset env t (.bool (!w)))) s)
    | some (.tup []) => rz P K r (eput d (.tup []) env) s
    | _ => False) := by
  simp only [rz, gwq]
end

theorem APure.callK {P : Program} {K : Env → St → Prop} {f : FuncId} {caps args : List AV} {x : AV} {d : Option Nat} {r : List Ins} {env : Env} {s : St} (h : APure P f (args ++ caps) x) (he : enters P f = true)
    (hk : rz P K r (eput d x env) s) : CallK P K (some (.fn f caps)) (some args) d r env s :=
  ⟨he, (h s).mono fun _ _ ⟨e1, e2⟩ => by subst e1; subst e2; exact hk⟩

theorem callK {P : Program} {K : Env → St → Prop} {f : FuncId} {caps args : List AV} {d : Option Nat} {r : List Ins} {env : Env} {s : St} {A : AV → St → Prop} (h : ACalls P f (args ++ caps) s A) (he : enters P f = true)
    (hk : ∀ x s', A x s' → rz P K r (eput d x env) s') : CallK P K (some (.fn f caps)) (some args) d r env s :=
  ⟨he, h.mono hk⟩

theorem yieldK {P : Program} {K : Env → St → Prop} {id : Nat} {args : List AV} {d : Option Nat} {r : List Ins} {env : Env} {s : St} {A : AV → St → Prop} (h : AYield P id args s A)
    (hk : ∀ x s', A x s' → rz P K r (eput d x env) s') : CallK P K (some (.yld id)) (some args) d r env s := h.mono hk

/-! Likewise for a region that leaves its order open. -/

def dz (P : Program) (K : Env → St → Prop) : List DI → List (Nat × Op × Env × AV) → Env → St → Prop := dq P K

def CallD (P : Program) (K : Env → St → Prop) (f : Option AV) (l : Option (List AV)) (d : Option Nat) (chk : List Nat) (r : List DI) (tr : List (Nat × Op × Env × AV)) (env : Env) (s : St) : Prop := match f, l with
  | some (.fn g caps), some l => enters P g = true ∧ ACalls P g (l ++ caps) s fun v s' => chkD P tr s' chk ∧ dz P K r tr (eput d v env) s'
  | some (.yld id), some l => AYield P id l s fun v s' => chkD P tr s' chk ∧ dz P K r tr (eput d v env) s'
  | _, _ => False

section
variable {P : Program} {K : Env → St → Prop} {d : Option Nat} {op : Op} {r : List DI} {env : Env} {s : St} {t : Nat} {w : Bool} {i : Nat} {note : Bool} {sl chk : List Nat} {tr : List (Nat × Op × Env × AV)} {st : Step}

theorem dz_nil : dz P K [] tr env s = K env s := rfl

theorem dz_light : dz P K (⟨.light i note, some ⟨d, op, none⟩, sl⟩ :: r) tr env s = (match aop P op (envOf sl env) s with
    | some (v, _) => dz P K r (if note then (i, op, envOf sl env, v) :: tr else tr) (eput d v env) s
    | none => False) := rfl

theorem dz_heavy : dz P K (⟨.heavy i chk, some ⟨d, op, none⟩, sl⟩ :: r) tr env s = (match callOf op with
    | some (f, a) => CallD P K (oper (envOf sl env) f) (opers (envOf sl env) a) d chk r tr env s
    | none => match aop P op (envOf sl env) s with
      | some (v, s') => chkD P tr s' chk ∧ dz P K r tr (eput d v env) s'
      | none => False) := by
  simp only [dz, dq, gwq, ows]
  cases callOf op with
  | none => rfl
  | some p => rfl

theorem dz_alloc {g : Option (Nat × Bool)} : dz P K (⟨.alloc i, some ⟨d, op, g⟩, sl⟩ :: r) tr env s = (match aop P op [] s with
    | some (v, s') => dz P K r tr (eput d v env) s'
    | none => False) := rfl

theorem dz_lT (h : eget env t = some (.bool w)) : dz P K (⟨.light i note, some ⟨d, op, some (t, w)⟩, sl⟩ :: r) tr env s = dz P K (⟨.light i note, some ⟨d, op, none⟩, sl⟩ :: r) tr env s := by
  simp only [dz, dq, gwq, h, eset_self h]
  cases w <;> simp

theorem dz_hT (h : eget env t = some (.bool w)) : dz P K (⟨.heavy i chk, some ⟨d, op, some (t, w)⟩, sl⟩ :: r) tr env s = dz P K (⟨.heavy i chk, some ⟨d, op, none⟩, sl⟩ :: r) tr env s := by
  simp only [dz, dq, gwq, h, eset_self h]
  cases w <;> simp

theorem dz_lF (h : eget env t = some (.bool (!w))) : dz P K (⟨.light i note, some ⟨d, op, some (t, w)⟩, sl⟩ :: r) tr env s = dz P K r tr (eput d (.tup []) env) s := by
  simp only [dz, dq, gwq, h, eset_self h]
  cases w <;> simp

theorem dz_hF (h : eget env t = some (.bool (!w))) : dz P K (⟨.heavy i chk, some ⟨d, op, some (t, w)⟩, sl⟩ :: r) tr env s = dz P K r tr (eput d (.tup []) env) s := by
  simp only [dz, dq, gwq, h, eset_self h]
  cases w <;> simp

theorem dz_lU (h : eget env t = some (.tup [])) : dz P K (⟨.light i note, some ⟨d, op, some (t, w)⟩, sl⟩ :: r) tr env s = dz P K r tr (eput d (.tup []) env) s := by
  simp only [dz, dq, gwq, h]

theorem dz_hU (h : eget env t = some (.tup [])) : dz P K (⟨.heavy i chk, some ⟨d, op, some (t, w)⟩, sl⟩ :: r) tr env s = dz P K r tr (eput d (.tup []) env) s := by
  simp only [dz, dq, gwq, h]

theorem dz_lS : dz P K (⟨.light i note, some ⟨d, op, some (t, w)⟩, sl⟩ :: r) tr env s = (match eget env t with
    | some (.bool b) => (b = w → dz P K (⟨.light i note, some ⟨d, op, none⟩, sl⟩ :: r) tr (eset env t (.bool w)) s) ∧ (b = !w → dz P K r tr (eput d (.tup []) (eset env t (.bool (!w)))) s)
    | some (.tup []) => dz P K r tr (eput d (.tup []) env) s
    | _ => False) := by
  simp only [dz, dq, gwq]

theorem dz_hS : dz P K (⟨.heavy i chk, some ⟨d, op, some (t, w)⟩, sl⟩ :: r) tr env s = (match eget env t with
    | some (.bool b) => (b = w → dz P K (⟨.heavy i chk, some ⟨d, op, none⟩, sl⟩ :: r) tr (eset env t (.bool w)) s) ∧ (b = !w → dz P K r tr (eput d (.tup []) (eset env t (.bool (!w)))) s)
    | some (.tup []) => dz P K r tr (eput d (.tup []) env) s
    | _ => False) := by
  simp only [dz, dq, gwq]
end

theorem APure.callD {P : Program} {K : Env → St → Prop} {f : FuncId} {caps args : List AV} {x : AV} {d : Option Nat} {r : List DI} {chk : List Nat} {tr : List (Nat × Op × Env × AV)} {env : Env} {s : St} (h : APure P f (args ++ caps) x)
    (he : enters P f = true) (hk : chkD P tr s chk ∧ dz P K r tr (eput d x env) s) : CallD P K (some (.fn f caps)) (some args) d chk r tr env s :=
  ⟨he, (h s).mono fun _ _ ⟨e1, e2⟩ => by subst e1; subst e2; exact hk⟩

theorem callD {P : Program} {K : Env → St → Prop} {f : FuncId} {caps args : List AV} {d : Option Nat} {r : List DI} {chk : List Nat} {tr : List (Nat × Op × Env × AV)} {env : Env} {s : St} {A : AV → St → Prop} (h : ACalls P f (args ++ caps) s A)
    (he : enters P f = true) (hk : ∀ x s', A x s' → chkD P tr s' chk ∧ dz P K r tr (eput d x env) s') : CallD P K (some (.fn f caps)) (some args) d chk r tr env s :=
  ⟨he, h.mono hk⟩

section
variable {P : Program} {N : Nat} {ρ : Option Nat} {Q : Exit → Env → St → Prop} {env : Env} {s : St} {c : Code}

/-- A region, and what follows. -/
theorem awp_r {y : Code} {id : Nat} {ops : Array Oper} (hc : c = .seq (.region id ops false) y) (hg : guardsOk ops.toList = true) (hd : dstsOk N ops.toList = true)
    (h : rz P (AWp P N ρ y Q) (ins ops.toList) env s) : AWp P N ρ c Q env s := awp_sr ops.toList hc rfl hg hd (rwq_rws (rz_eq h))

/-- A region alone. -/
theorem awp_re {id : Nat} {ops : Array Oper} (hc : c = .region id ops false) (hg : guardsOk ops.toList = true) (hd : dstsOk N ops.toList = true)
    (h : rz P (fun env s => Q .normal env s) (ins ops.toList) env s) : AWp P N ρ c Q env s := by
  subst hc
  exact awp_reg (K := fun env s => Q .normal env s) ops.toList rfl hg hd (rwq_rws (rz_eq h))

/-- A region that leaves its order open. -/
theorem awp_de {id : Nat} {ops : Array Oper} {pre : List (List Nat)} {steps : List Step} (hc : c = .region id ops true) (hp : PlanOk P N ops.toList pre steps) (hm : P.follows .mixedOrders = true)
    (h : dz P (fun env s => Q .normal env s) (mkD (ins ops.toList) steps) [] env s) : AWp P N ρ c Q env s := by
  subst hc
  exact awp_draw pre steps ops.toList rfl hm hp (dwq_dws (dq_dwq (tr := []) (by rw [mkD_eq] at h; exact h)))

theorem awp_d {y : Code} {id : Nat} {ops : Array Oper} {pre : List (List Nat)} {steps : List Step} (hc : c = .seq (.region id ops true) y) (hp : PlanOk P N ops.toList pre steps) (hm : P.follows .mixedOrders = true)
    (h : dz P (AWp P N ρ y Q) (mkD (ins ops.toList) steps) [] env s) : AWp P N ρ c Q env s := by
  subst hc
  exact awp_seq (awp_de rfl hp hm h)

theorem awp_s {x y : Code} (hc : c = .seq x y) (h : AWp P N ρ x (Then (AWp P N ρ y Q) Q) env s) : AWp P N ρ c Q env s := by
  subst hc; exact awp_seq h

theorem awp_b {id : Nat} {x : Code} (hc : c = .block id x) (h : AWp P N ρ x (InBlock id Q) env s) : AWp P N ρ c Q env s := by
  subst hc; exact awp_block h

theorem awp_sb {id : Nat} {x y : Code} (hc : c = .seq (.block id x) y) (h : AWp P N ρ x (InBlock id (Then (AWp P N ρ y Q) Q)) env s) : AWp P N ρ c Q env s := by
  subst hc; exact awp_seq (awp_block h)

theorem awp_c {o : Operand} {x y : Code} {b : Bool} (hc : c = .cond o x y) (ho : oper env o = some (.bool b)) (ht : b = true → AWp P N ρ x Q env s) (hf : b = false → AWp P N ρ y Q env s) : AWp P N ρ c Q env s := by
  subst hc; exact awp_cond ho ht hf

theorem awp_k (hc : c = .skip) (h : Q .normal env s) : AWp P N ρ c Q env s := by subst hc; exact awp_skip h
theorem awp_x {id : Nat} (hc : c = .exit id) (h : Q (.exit id) env s) : AWp P N ρ c Q env s := by subst hc; exact awp_exit h
theorem awp_t (hc : c = .ret) (h : Q .ret env s) : AWp P N ρ c Q env s := by subst hc; exact awp_ret h

theorem awp_l {x : Code} (ks : List Nat) {α : Type} (R : α → Prop) (E : α → List AV) (S : α → St) (μ : α → Nat) (a0 : α) (hc : c = .loop x) (hR : R a0) (he : look env ks = some (E a0)) (hs : LeS (S a0) s)
    (round : ∀ a, R a → AWp P N ρ x (Then (fun env' s' => ∃ a', R a' ∧ μ a' < μ a ∧ look env' ks = some (E a') ∧ LeS (S a') s') Q) (zipE ks (E a)) (S a)) : AWp P N ρ c Q env s := by
  subst hc; exact awp_loopE ks R E S μ a0 hR he hs round

theorem rz_mono {K K' : Env → St → Prop} (hk : ∀ env s, K env s → K' env s) : ∀ {l : List Ins} {env : Env} {s : St}, rz P K l env s → rz P K' l env s
  | [], _, _, h => hk _ _ h
  | i :: r, env, s, h => by
    simp only [rz] at h ⊢
    unfold gwq at h ⊢
    split at h
    · exact ows_mono h fun _ _ h => rz_mono hk h
    · split at h
      · exact ⟨fun e => ows_mono (h.1 e) fun _ _ h => rz_mono hk h, fun e => rz_mono hk (h.2 e)⟩
      · exact rz_mono hk h
      · cases h

/-- A region whose paths are joined. -/
theorem awp_rj {y : Code} {id : Nat} {ops : Array Oper} (ks : List Nat) (E : List AV) (S : St) (hc : c = .seq (.region id ops false) y) (hg : guardsOk ops.toList = true) (hd : dstsOk N ops.toList = true)
    (h1 : rz P (fun env' s' => Am.look env' ks = some E ∧ LeS S s') (ins ops.toList) env s) (h2 : AWp P N ρ y Q (zipE ks E) S) : AWp P N ρ c Q env s :=
  awp_r hc hg hd (rz_mono (fun _ _ h => awp_look ks h.1 h.2 h2) h1)

theorem dq_mono {K K' : Env → St → Prop} (hk : ∀ env s, K env s → K' env s) : ∀ {D : List DI} {tr : List (Nat × Op × Env × AV)} {env : Env} {s : St}, dq P K D tr env s → dq P K' D tr env s
  | [], _, _, _, h => hk _ _ h
  | ⟨.light i note, some n, sl⟩ :: r, tr, env, s, h => by
    simp only [dq] at h ⊢
    have key : ∀ {env : Env}, (match aop P n.op (envOf sl env) s with
      | some (v, _) => dq P K r (if note then (i, n.op, envOf sl env, v) :: tr else tr) (eput n.dst v env) s
      | none => False) → (match aop P n.op (envOf sl env) s with
      | some (v, _) => dq P K' r (if note then (i, n.op, envOf sl env, v) :: tr else tr) (eput n.dst v env) s
      | none => False) := fun h => by
      split at h
      · exact dq_mono hk h
      · cases h
    unfold gwq at h ⊢
    split at h
    · exact key h
    · split at h
      · exact ⟨fun e => key (h.1 e), fun e => dq_mono hk (h.2 e)⟩
      · exact dq_mono hk h
      · cases h
  | ⟨.heavy i chk, some n, sl⟩ :: r, tr, env, s, h => by
    simp only [dq] at h ⊢
    unfold gwq at h ⊢
    split at h
    · exact ows_mono h fun _ _ h => ⟨h.1, dq_mono hk h.2⟩
    · split at h
      · exact ⟨fun e => ows_mono (h.1 e) fun _ _ h => ⟨h.1, dq_mono hk h.2⟩, fun e => dq_mono hk (h.2 e)⟩
      · exact dq_mono hk h
      · cases h
  | ⟨.alloc i, some n, sl⟩ :: r, tr, env, s, h => by
    simp only [dq] at h ⊢
    split at h
    · exact dq_mono hk h
    · cases h
  | ⟨.light _ _, none, _⟩ :: _, _, _, _, h => h.elim
  | ⟨.heavy _ _, none, _⟩ :: _, _, _, _, h => h.elim
  | ⟨.alloc _, none, _⟩ :: _, _, _, _, h => h.elim

theorem awp_dj {y : Code} {id : Nat} {ops : Array Oper} {pre : List (List Nat)} {steps : List Step} (ks : List Nat) (E : List AV) (S : St) (hc : c = .seq (.region id ops true) y) (hp : PlanOk P N ops.toList pre steps) (hm : P.follows .mixedOrders = true)
    (h1 : dz P (fun env' s' => Am.look env' ks = some E ∧ LeS S s') (mkD (ins ops.toList) steps) [] env s) (h2 : AWp P N ρ y Q (zipE ks E) S) : AWp P N ρ c Q env s :=
  awp_d hc hp hm (dq_mono (fun _ _ h => awp_look ks h.1 h.2 h2) h1)

end

theorem APure.call {P : Program} {f : FuncId} {args : List AV} {x : AV} {s : St} {K : AV → St → Prop} (h : APure P f args x) (hk : K x s) : ACalls P f args s K :=
  (h s).mono fun _ _ ⟨e1, e2⟩ => by subst e1; subst e2; exact hk

theorem Less.self {s : St} (h : ∀ id, eget s.heap id ≠ some .dfr) : Less s s := ⟨fun id b hg => ⟨hg, fun e => by subst e; exact h id hg⟩, Nat.le_refl _⟩

def isDfr : Blk → Bool
  | .dfr => true
  | .cells _ _ => false
  | .loop _ => false

def noDfr : List (Nat × Blk) → Bool
  | [] => true
  | (_, b) :: r => !isDfr b && noDfr r

theorem noDfr_iff : ∀ {l : List (Nat × Blk)}, noDfr l = true → ∀ id, eget l id ≠ some .dfr
  | [], _, id, h => by simp [egetN, egetC] at h
  | (k, b) :: r, hn, id, h => by
    simp only [egetN, egetC] at h
    split at h
    · cases h; simp [noDfr, isDfr] at hn
    · simp only [noDfr, Bool.and_eq_true] at hn
      exact noDfr_iff hn.2 id h

/-- The end of a body, with all of the state kept. -/
theorem finS {P : Program} {rs : Array ResultVar} {K : AV → St → Prop} {env : Env} {s : St} {x : AV} (hx : aResults P rs env s = some x) (hd : noDfr s.heap = true) (hk : K x s) : FinQ P rs K .ret env s :=
  ⟨x, s, hx, Less.self (noDfr_iff hd), hk⟩

theorem finN {P : Program} {rs : Array ResultVar} {K : AV → St → Prop} {env : Env} {s : St} {x : AV} (hx : aResults P rs env s = some x) (hd : noDfr s.heap = true) (hk : K x s) : FinQ P rs K .normal env s :=
  ⟨x, s, hx, Less.self (noDfr_iff hd), hk⟩

theorem w64 {n : Int} (h1 : -9223372036854775808 ≤ n) (h2 : n ≤ 9223372036854775807) : IntKind.i64.wrap n = n := by rw [IntKind.wrap_i64]; omega

abbrev hget (h h' : List (Nat × Blk)) : Prop := ∀ p ∈ h', eget h p.1 = some p.2

theorem eget_mem {β : Type} : ∀ {l : List (Nat × β)} {i : Nat} {x : β}, eget l i = some x → (i, x) ∈ l
  | [], i, x, h => by simp [egetN, egetC] at h
  | (k, y) :: r, i, x, h => by
    simp only [egetN, egetC] at h
    split at h
    · rename_i e; subst e; cases h; simp
    · exact List.mem_cons_of_mem _ (eget_mem h)

theorem hget_sub {h h' : List (Nat × Blk)} (hh : hget h h') (id : Nat) (b : Blk) (e : eget h' id = some b) : eget h id = some b := hh _ (eget_mem e)

theorem leS {h h' : List (Nat × Blk)} {c c' : Nat} (hh : hget h h') (hc : c ≤ c') (hd : noDfr h = true) : LeS ⟨h', c'⟩ ⟨h, c⟩ :=
  ⟨hget_sub hh, hc, fun id e => absurd e (noDfr_iff hd id)⟩

theorem leS0 {h : List (Nat × Blk)} {c c' : Nat} (hc : c ≤ c') (hd : noDfr h = true) : LeS ⟨[], c'⟩ ⟨h, c⟩ := leS (by simp) hc hd
theorem leS1 {h : List (Nat × Blk)} {k1 : Nat} {b1 : Blk} {c c' : Nat} (h1 : eget h k1 = some b1) (hc : c ≤ c') (hd : noDfr h = true) : LeS ⟨[(k1, b1)], c'⟩ ⟨h, c⟩ := leS (by simp [h1]) hc hd
theorem leS2 {h : List (Nat × Blk)} {k1 k2 : Nat} {b1 b2 : Blk} {c c' : Nat} (h1 : eget h k1 = some b1) (h2 : eget h k2 = some b2) (hc : c ≤ c') (hd : noDfr h = true) : LeS ⟨[(k1, b1), (k2, b2)], c'⟩ ⟨h, c⟩ := leS (by simp; rintro a b (⟨rfl, rfl⟩ | ⟨rfl, rfl⟩) <;> assumption) hc hd
theorem leS3 {h : List (Nat × Blk)} {k1 k2 k3 : Nat} {b1 b2 b3 : Blk} {c c' : Nat} (h1 : eget h k1 = some b1) (h2 : eget h k2 = some b2) (h3 : eget h k3 = some b3) (hc : c ≤ c') (hd : noDfr h = true) : LeS ⟨[(k1, b1), (k2, b2), (k3, b3)], c'⟩ ⟨h, c⟩ := leS (by simp; rintro a b (⟨rfl, rfl⟩ | ⟨rfl, rfl⟩ | ⟨rfl, rfl⟩) <;> assumption) hc hd
theorem leS4 {h : List (Nat × Blk)} {k1 k2 k3 k4 : Nat} {b1 b2 b3 b4 : Blk} {c c' : Nat} (h1 : eget h k1 = some b1) (h2 : eget h k2 = some b2) (h3 : eget h k3 = some b3) (h4 : eget h k4 = some b4) (hc : c ≤ c') (hd : noDfr h = true) : LeS ⟨[(k1, b1), (k2, b2), (k3, b3), (k4, b4)], c'⟩ ⟨h, c⟩ := leS (by simp; rintro a b (⟨rfl, rfl⟩ | ⟨rfl, rfl⟩ | ⟨rfl, rfl⟩ | ⟨rfl, rfl⟩) <;> assumption) hc hd

/-- A slice of one's own: nil, or a block. -/
def own (id : Nat) (l : List AV) : AV := if l.length = 0 then .sl true [] else .ms id 0 l.length
def ownS (id esz : Nat) (l : List AV) : List (Nat × Blk) := if l.length = 0 then [] else [(id, .cells esz l)]

/-- What an append to a slice of one's own does. -/
theorem own_append {P : Program} {t e : TypeId} {sz by_ : Nat} (he : elemT P t = some e) (hs : sizeT P e = some sz) (hb : bytesT P e = some by_) (h0 : 0 < sz) (hby : by_ ≤ 4096) (hz : zeroOk P e sz = true)
    {id c : Nat} {l new : List AV} {h : List (Nat × Blk)} (hn : new ≠ []) (hl : l.length + new.length ≤ maxElems) (hid : edel h id = h) :
    aAppend P t (own id l) new ⟨ownS id sz l ++ h, c⟩ = some (own c (l ++ new), ⟨ownS c sz (l ++ new) ++ h, c + 1⟩) := by
  have hnl : new.length ≠ 0 := by cases new <;> simp at hn ⊢
  have hne : ¬ (l ++ new).length = 0 := by rw [List.length_append]; omega
  unfold aAppend own ownS
  simp only [he, hs, hb]
  rw [if_pos ⟨h0, hby, hz⟩]
  by_cases hq : l.length = 0
  · have : l = [] := by cases l <;> simp at hq ⊢
    subst this
    simp only [List.length_nil, if_true, if_neg hn, List.nil_append, hnl, if_false]
    rw [if_pos ⟨trivial, by simpa using hl, by simp [fits]⟩]
    simp
  · rw [if_neg hq, if_neg hne]
    simp only [if_neg hq, if_neg hne, if_neg hn, List.cons_append, List.nil_append, egetN, egetC, if_true]
    rw [if_pos ⟨trivial, by omega, hl⟩]
    simp [edel, hid]

theorem own_frz (id sz c : Nat) (l : List AV) (h : List (Nat × Blk)) : (frz (own id l) ⟨ownS id sz l ++ h, c⟩).1 = .sl (decide (l.length = 0)) l := by
  unfold own ownS
  by_cases hq : l.length = 0
  · have : l = [] := by cases l <;> simp at hq ⊢
    subst this
    simp [frz, frz1, frz0]
  · simp [hq, frz, frz1, frz0, egetN, egetC]

theorem own_len {P : Program} {t : TypeId} (he : (elemT P t).isSome = true) (id : Nat) (l : List AV) : aLen P t (own id l) = some (.int .i64 l.length) := by
  unfold own
  split <;> simp_all [aLen]

section
@[simp] theorem cells_agg (l : List AV) : (AV.agg l).cells = l := rfl
@[simp] theorem cells_int (k : IntKind) (n : Int) : (AV.int k n).cells = [.int k n] := rfl
@[simp] theorem cells_bool (b : Bool) : (AV.bool b).cells = [.bool b] := rfl
@[simp] theorem cells_str (b : ByteArray) : (AV.str b).cells = [.str b] := rfl
@[simp] theorem cells_sl (b : Bool) (l : List AV) : (AV.sl b l).cells = [.sl b l] := rfl
@[simp] theorem cells_ms (i a b : Nat) : (AV.ms i a b).cells = [.ms i a b] := rfl
@[simp] theorem cells_mp (i a b : Nat) : (AV.mp i a b).cells = [.mp i a b] := rfl
@[simp] theorem cells_nilp : AV.nilp.cells = [.nilp] := rfl
@[simp] theorem cells_nilf : AV.nilf.cells = [.nilf] := rfl
@[simp] theorem cells_fn (f : FuncId) (l : List AV) : (AV.fn f l).cells = [.fn f l] := rfl
@[simp] theorem scalar_agg (l : List AV) : (AV.agg l).scalar = false := rfl
@[simp] theorem scalar_int (k : IntKind) (n : Int) : (AV.int k n).scalar = true := rfl
@[simp] theorem scalar_bool (b : Bool) : (AV.bool b).scalar = true := rfl
@[simp] theorem scalar_str (b : ByteArray) : (AV.str b).scalar = true := rfl
@[simp] theorem scalar_sl (b : Bool) (l : List AV) : (AV.sl b l).scalar = true := rfl
@[simp] theorem scalar_ms (i a b : Nat) : (AV.ms i a b).scalar = true := rfl
@[simp] theorem scalar_mp (i a b : Nat) : (AV.mp i a b).scalar = true := rfl
@[simp] theorem scalar_nilp : AV.nilp.scalar = true := rfl
@[simp] theorem scalar_nilf : AV.nilf.scalar = true := rfl
@[simp] theorem scalar_fn (f : FuncId) (l : List AV) : (AV.fn f l).scalar = true := rfl
end

theorem envOf_nil (env : Env) : envOf [] env = [] := rfl
theorem envOf_cons (t : Nat) (r : List Nat) (env : Env) : envOf (t :: r) env = (match eget env t with
    | some x => (t, x) :: envOf r env
    | none => envOf r env) := by
  simp only [envOf, List.filterMap_cons]
  cases eget env t <;> rfl

end Go.Am
