/-
  The logic AM, part 16: forms of the rules for walking through code.
  Own work. No Go text.
-/
import Derived.Test.YtpljabnngpnieaaAm15
namespace Go.Am
open Go.RowKit

/-! ### Pieces of code -/
def seqL : Code → Code
  | .seq a _ => a
  | _ => .skip
def seqR : Code → Code
  | .seq _ b => b
  | _ => .skip
def regArr : Code → Array Oper
  | .region _ ops _ => ops
  | _ => #[]
def cndT : Code → Code
  | .cond _ a _ => a
  | _ => .skip
def cndF : Code → Code
  | .cond _ _ b => b
  | _ => .skip
def inner : Code → Code
  | .block _ c => c
  | .loop c => c
  | .rangeFunc _ _ _ c => c
  | _ => .skip
def rfAssign : Code → Code
  | .rangeFunc _ _ a _ => a
  | _ => .skip

/-- An operation without what is not looked at. -/
structure Ins where
  dst : Option Nat
  op : Op
  guard : Option (Nat × Bool)

def insOf (ops : List Oper) (o : Oper) : Ins := ⟨o.dst, o.op, match o.guard with
  | none => none
  | some (j, want) => match (ops[j]?).bind (·.dst) with
    | some d => some (d, want)
    | none => some (0, want)⟩

def ins (ops : List Oper) : List Ins := ops.map (insOf ops)

def guardsOk (ops : List Oper) : Bool := ops.all fun o => match o.guard with
  | none => true
  | some (j, _) => ((ops[j]?).bind (·.dst)).isSome

def dstsOk (N : Nat) (ops : List Oper) : Bool := ops.all fun o => okDst N o.dst

def gws (g : Option (Nat × Bool)) (env : Env) (A B : Prop) : Prop := match g with
  | none => A
  | some (d, want) => match eget env d with
    | some (.bool b) => (b = want → A) ∧ (b = !want → B)
    | some (.tup []) => B
    | _ => False

def ows (P : Program) (op : Op) (K : AV → St → Prop) (env : Env) (s : St) : Prop :=
  match callOf op with
  | some (f, args) => match oper env f, opers env args with
    | some (.fn g caps), some l => enters P g = true ∧ ACalls P g (l ++ caps) s K
    | some (.yld id), some l => AYield P id l s K
    | _, _ => False
  | none => match aop P op env s with
    | some (v, s') => K v s'
    | none => False

def rws (P : Program) (K : Env → St → Prop) : List Ins → Env → St → Prop
  | [], env, s => K env s
  | i :: r, env, s => gws i.guard env (ows P i.op (fun v s' => rws P K r (eput i.dst v env) s') env s) (rws P K r (eput i.dst (.tup []) env) s)

section
variable {P : Program} {N : Nat} {ρ : Option Nat} {Q : Exit → Env → St → Prop} {env : Env} {s : St}

theorem rwp_of_rws {ops : Array Oper} {K : Env → St → Prop} (hg : guardsOk ops.toList = true) : ∀ {l : List Oper} {env : Env} {s : St}, (∀ o ∈ l, o ∈ ops.toList) → dstsOk N l = true →
    rws P K (l.map (insOf ops.toList)) env s → rwp P N ops K l env s
  | [], _, _, _, _, h => h
  | o :: r, env, s, hm, hd, h => by
    simp only [dstsOk, List.all_cons, Bool.and_eq_true] at hd
    have ih : ∀ {env : Env} {s : St}, rws P K (r.map (insOf ops.toList)) env s → rwp P N ops K r env s := rwp_of_rws hg (fun o ho => hm o (by simp [ho])) hd.2
    refine ⟨hd.1, ?_⟩
    simp only [List.map_cons, rws] at h
    have howp : ∀ {env : Env} {s : St}, ows P o.op (fun v s' => rws P K (r.map (insOf ops.toList)) (eput o.dst v env) s') env s → owp P o (fun v s' => rwp P N ops K r (eput o.dst v env) s') env s := by
      intro env s h
      unfold ows at h
      unfold owp
      split at h
      · rename_i f args hc
        simp only [hc]
        split at h
        · rename_i g caps l h1 h2
          simp only [h1, h2]
          exact ⟨h.1, h.2.mono fun _ _ hk => ih hk⟩
        · rename_i id l h1 h2
          simp only [h1, h2]
          exact h.mono fun _ _ hk => ih hk
        · cases h
      · rename_i hc
        simp only [hc]
        split at h
        · rename_i v s' hx
          simp only [hx]
          exact ih h
        · cases h
    have hgo := (List.all_eq_true.1 hg) o (hm o (by simp))
    unfold gwp
    unfold insOf gws at h
    cases hq : o.guard with
    | none => simp only [hq] at h ⊢; exact howp h
    | some jw =>
      obtain ⟨j, want⟩ := jw
      simp only [hq] at h hgo ⊢
      obtain ⟨d, hd'⟩ := Option.isSome_iff_exists.1 hgo
      rw [show ops[j]? = ops.toList[j]? from by simp]
      rw [hd'] at h ⊢
      simp only at h ⊢
      split at h
      · rename_i b hb
        simp only [hb]
        exact ⟨fun e => howp (h.1 e), fun e => ih (h.2 e)⟩
      · rename_i hb
        simp only [hb]
        exact ih h
      · cases h

theorem awp_reg {id : Nat} {ops : Array Oper} {K : Env → St → Prop} (l : List Oper) (hl : ops.toList = l) (hg : guardsOk l = true) (hd : dstsOk N l = true) (h : rws P (fun env s => Q .normal env s) (ins l) env s) :
    AWp P N ρ (.region id ops false) Q env s := by
  subst hl
  exact awp_region (rwp_of_rws hg (fun _ h => h) hd h)

theorem awp_sr {c y : Code} {id : Nat} {ops : Array Oper} (l : List Oper) (hc : c = .seq (.region id ops false) y) (hl : ops.toList = l) (hg : guardsOk l = true) (hd : dstsOk N l = true)
    (h : rws P (AWp P N ρ y Q) (ins l) env s) : AWp P N ρ c Q env s := by
  subst hc; subst hl
  exact awp_seq (awp_region (rwp_of_rws hg (fun _ h => h) hd h))

/-- What is in some slots. -/
def look (env : Env) : List Nat → Option (List AV)
  | [] => some []
  | k :: r => match eget env k, look env r with
    | some x, some l => some (x :: l)
    | _, _ => none

def zipE : List Nat → List AV → Env
  | k :: r, x :: l => (k, x) :: zipE r l
  | _, _ => []

theorem look_get : ∀ {ks : List Nat} {l : List AV} {env : Env}, look env ks = some l → ∀ t x, eget (zipE ks l) t = some x → eget env t = some x
  | [], l, env, h, t, x, hx => by simp [look] at h; subst h; simp [zipE, egetN, egetC] at hx
  | k :: r, l, env, h, t, x, hx => by
    simp only [look] at h
    split at h
    · rename_i y l' h1 h2
      cases h
      simp only [zipE, egetN, egetC] at hx
      split at hx
      · rename_i e; subst e; cases hx; exact h1
      · exact look_get h2 t x hx
    · cases h

/-- A state that says no more. -/
structure LeS (s' s : St) : Prop where
  heap : ∀ id b, eget s'.heap id = some b → eget s.heap id = some b
  cnt : s.cnt ≤ s'.cnt
  dfr : ∀ id, eget s.heap id = some .dfr → eget s'.heap id = some .dfr

theorem LeS.refl (s : St) : LeS s s := ⟨fun _ _ h => h, Nat.le_refl _, fun _ h => h⟩

theorem awp_look {c : Code} (ks : List Nat) {l : List AV} {s' : St} (he : look env ks = some l) (hs : LeS s' s) (h : AWp P N ρ c Q (zipE ks l) s') : AWp P N ρ c Q env s :=
  awp_weak h (look_get he) hs.heap hs.cnt hs.dfr

/-- A loop whose state is told by data. -/
theorem awp_loopE {c : Code} (ks : List Nat) {α : Type} (R : α → Prop) (E : α → List AV) (S : α → St) (μ : α → Nat) (a0 : α) (hR : R a0) (he : look env ks = some (E a0)) (hs : LeS (S a0) s)
    (round : ∀ a, R a → AWp P N ρ c (Then (fun env' s' => ∃ a', R a' ∧ μ a' < μ a ∧ look env' ks = some (E a') ∧ LeS (S a') s') Q) (zipE ks (E a)) (S a)) : AWp P N ρ (.loop c) Q env s := by
  refine awp_look ks he hs ?_
  refine awp_loop (fun k env s => ∃ a, R a ∧ μ a = k ∧ env = zipE ks (E a) ∧ s = S a) ⟨a0, hR, rfl, rfl, rfl⟩ ?_
  rintro k env s ⟨a, hRa, rfl, rfl, rfl⟩
  have := round a hRa
  intro G w act hn
  refine wpIn_mono (this G w act hn) ?_
  rintro e a' w' ⟨G', env', s', n', x', q'⟩
  cases e with
  | normal =>
    obtain ⟨a2, r2, m2, l2, s2⟩ := q'
    refine ⟨G', zipE ks (E a2), S a2, ⟨n'.sim.drop s2.heap s2.cnt, n'.env.sub (look_get l2), n'.size, n'.defs.drop s2.dfr, n'.known⟩, x'.trans hn.sim (Ext.drop s2.heap s2.cnt s2.dfr), μ a2, m2, a2, r2, rfl, rfl, rfl⟩
  | exit id => exact ⟨G', env', s', n', x', q'⟩
  | goto l => exact ⟨G', env', s', n', x', q'⟩
  | ret => exact ⟨G', env', s', n', x', q'⟩
  | panic ch => exact ⟨G', env', s', n', x', q'⟩
  | outgrown => exact ⟨G', env', s', n', x', q'⟩

end
end Go.Am
