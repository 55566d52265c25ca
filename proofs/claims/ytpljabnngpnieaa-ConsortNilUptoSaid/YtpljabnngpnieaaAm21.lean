/-
  The logic AM, part 21: what a plan must be, asked of the kernel.
  Own work. No Go text.
-/
import Derived.Test.YtpljabnngpnieaaAm20
namespace Go.Am
open Go.RowKit

def allR (n : Nat) (p : Nat → Bool) : Bool := (List.range n).all p

def optAll {α : Type} (o : Option α) (p : α → Bool) : Bool := match o with
  | some x => p x
  | none => true

theorem optAll_iff {α : Type} {o : Option α} {p : α → Bool} : optAll o p = true ↔ ∀ x ∈ o, p x = true := by
  cases o <;> simp [optAll]

def memB (x : Nat) (l : List Nat) : Bool := l.any fun y => Nat.beq x y

theorem memB_iff {x : Nat} {l : List Nat} : memB x l = true ↔ x ∈ l := by
  simp only [memB, List.any_eq_true]
  constructor
  · rintro ⟨y, h1, h2⟩; rw [Nat.eq_of_beq_eq_true h2]; exact h1
  · intro h; exact ⟨x, h, Nat.beq_refl x⟩

def edgesB (l : List Oper) (pre : List (List Nat)) : Bool := allR l.length fun i => optAll l[i]? fun o =>
  (direct o).all (fun p => decide (p < i)) && (preI pre i).all fun p => decide (p < i) && (memB p (direct o) || (direct o).any fun d => memB p (preI pre d))

def eqO (a b : Option Nat) : Bool := match a, b with
  | some x, some y => Nat.beq x y
  | _, _ => false

theorem eqO_some {a b : Option Nat} {t : Nat} (ha : a = some t) (hb : b = some t) : eqO a b = true := by subst ha; subst hb; exact Nat.beq_refl t

theorem eqO_iff {a b : Option Nat} : eqO a b = true → ∃ t, a = some t ∧ b = some t := by
  unfold eqO
  split
  · rename_i x y; intro h; exact ⟨x, rfl, by rw [Nat.eq_of_beq_eq_true h]⟩
  · intro h; cases h

def dstsB (l : List Oper) : Bool := allR l.length fun i => allR l.length fun j => !(eqO (dstI l i) (dstI l j)) || Nat.beq i j

def readsB (l : List Oper) (pre : List (List Nat)) : Bool := allR l.length fun i => optAll l[i]? fun o => (slotsI o ++ gslot l o).all fun t =>
  (preI pre i).any (fun u => eqO (dstI l u) (some t)) || allR l.length fun u => !(eqO (dstI l u) (some t)) || memB i (preI pre u)

def permB (l : List Oper) (steps : List Step) : Bool := steps.all (fun st => decide (st.idx < l.length)) && allR l.length (fun i => memB i (steps.map Step.idx)) && decide (steps.map Step.idx).Nodup

def linearB (pre : List (List Nat)) (steps : List Step) : Bool := allR steps.length fun k => optAll steps[k]? fun st => (preI pre st.idx).all fun p => memB p ((steps.take k).map Step.idx)

def waitsB (pre : List (List Nat)) (steps : List Step) : Bool := allR steps.length fun k => optAll steps[k]? fun st => !st.waits || (steps.drop (k + 1)).all fun st2 => st2.isAlloc || memB st.idx (preI pre st2.idx)

def kindsB (P : Program) (l : List Oper) (steps : List Step) : Bool := steps.all fun st => optAll l[st.idx]? fun o => match st with
  | .light _ _ => isLight o.op
  | .heavy _ _ => true
  | .alloc _ => (match o.op with | .alloc t => (zeroT P t).isSome | _ => false) && o.guard.isNone && o.dst.isSome

def checksB (l : List Oper) (pre : List (List Nat)) (steps : List Step) : Bool := allR steps.length fun k => optAll steps[k]? fun st => match st with
  | .heavy h chk => (steps.take k).all fun st2 => match st2 with
    | .light j note => optAll l[j]? fun o => stateless o.op || memB j (preI pre h) || (note && memB j chk)
    | _ => true
  | _ => true

def planB (P : Program) (N : Nat) (l : List Oper) (pre : List (List Nat)) (steps : List Step) : Bool :=
  edgesB l pre && dstsB l && dstsOk N l && guardsOk l && readsB l pre && permB l steps && linearB pre steps && waitsB pre steps && kindsB P l steps && checksB l pre steps

theorem allR_iff {n : Nat} {p : Nat → Bool} : allR n p = true ↔ ∀ i ∈ List.range n, p i = true := by simp [allR, List.all_eq_true]

theorem planB_ok {P : Program} {N : Nat} {l : List Oper} {pre : List (List Nat)} {steps : List Step} (h : planB P N l pre steps = true) : PlanOk P N l pre steps := by
  simp only [planB, Bool.and_eq_true] at h
  obtain ⟨⟨⟨⟨⟨⟨⟨⟨⟨h1, h2⟩, h3⟩, h4⟩, h5⟩, h6⟩, h7⟩, h8⟩, h9⟩, h10⟩ := h
  refine ⟨?_, ?_, h3, h4, ?_, ?_, ?_, ?_, ?_, ?_⟩
  · intro i hi o ho
    have := optAll_iff.1 (allR_iff.1 h1 i hi) o ho
    simp only [Bool.and_eq_true, List.all_eq_true, decide_eq_true_eq, Bool.or_eq_true, List.any_eq_true, memB_iff] at this
    exact ⟨this.1, fun p hp => ⟨(this.2 p hp).1, (this.2 p hp).2⟩⟩
  · intro i hi j hj t ht hjt
    have := allR_iff.1 (allR_iff.1 h2 i hi) j hj
    simp only [Bool.or_eq_true, Bool.not_eq_true'] at this
    rcases this with h | h
    · rw [eqO_some (show dstI l i = some t from ht) hjt] at h; cases h
    · exact Nat.eq_of_beq_eq_true h
  · intro i hi o ho t ht
    have := List.all_eq_true.1 (optAll_iff.1 (allR_iff.1 h5 i hi) o ho) t ht
    simp only [Bool.or_eq_true, List.any_eq_true] at this
    rcases this with ⟨u, hu, h⟩ | h
    · obtain ⟨t', e1, e2⟩ := eqO_iff h
      cases e2
      exact .inl ⟨u, hu, e1⟩
    · refine .inr fun u hu hd => ?_
      have := allR_iff.1 h u hu
      simp only [Bool.or_eq_true, Bool.not_eq_true'] at this
      rcases this with g | g
      · rw [eqO_some hd rfl] at g; cases g
      · exact memB_iff.1 g
  · simp only [permB, Bool.and_eq_true, List.all_eq_true, decide_eq_true_eq] at h6
    exact ⟨h6.1.1, fun i hi => memB_iff.1 (allR_iff.1 h6.1.2 i hi), h6.2⟩
  · intro k hk st hst p hp
    exact memB_iff.1 (List.all_eq_true.1 (optAll_iff.1 (allR_iff.1 h7 k hk) st hst) p hp)
  · intro k hk st hst hw st2 hst2
    have := optAll_iff.1 (allR_iff.1 h8 k hk) st hst
    simp only [hw, Bool.not_true, Bool.false_or, List.all_eq_true, Bool.or_eq_true, Bool.and_eq_true, Bool.not_eq_true', memB_iff] at this
    exact this st2 hst2
  · intro st hst o ho
    have := optAll_iff.1 (List.all_eq_true.1 h9 st hst) o ho
    cases st with
    | light i n => exact this
    | heavy i c => trivial
    | alloc i =>
      simp only [Bool.and_eq_true, Option.isNone_iff_eq_none] at this
      refine ⟨?_, this.1.2, this.2⟩
      have h := this.1.1
      show (match o.op with | .alloc t => (zeroT P t).isSome = true | _ => False)
      cases hop : o.op <;> simp only [hop] at h ⊢ <;> first | exact h | (cases h; done)
  · intro k hk st hst
    have := optAll_iff.1 (allR_iff.1 h10 k hk) st hst
    cases st with
    | light i n => trivial
    | alloc i => trivial
    | heavy h chk =>
      intro st2 hst2
      have := List.all_eq_true.1 this st2 hst2
      cases st2 with
      | light j note =>
        intro o ho
        have := optAll_iff.1 this o ho
        simp only [Bool.or_eq_true, Bool.and_eq_true, memB_iff] at this
        rcases this with (h | h) | h
        · exact .inl h
        · exact .inr (.inl h)
        · exact .inr (.inr h)
      | heavy i c => trivial
      | alloc i => trivial

end Go.Am
