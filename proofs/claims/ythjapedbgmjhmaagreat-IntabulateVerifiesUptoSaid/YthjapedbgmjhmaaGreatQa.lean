/-
 Parts: their check,the program's and the reference's. Plain law (from wip/XL1 by new numbers).
 Own work. No Go text.
-/
import Derived.Test.YthjapedbgmjhmaaGreatLq
import Derived.Test.YthjapedbgmjhmaaGreatTV
set_option linter.all false
namespace Go.Proofs.YthjapedbgmjhmaaGreat
open Go Go.Am
def inR (a lo hi : Int) : Bool := decide (lo ≤ a) && decide (a ≤ hi)
theorem f52_eq (a lo hi : Int) : f52 a lo hi = some (inR a lo hi) := by
 unfold f52 inR
 cases decide (lo ≤ a) <;> rfl
theorem f19_eq (a lo hi : Int) : f19 a lo hi = some (inR a lo hi) := f52_eq a lo hi
theorem orE (a b : Bool) : (bif a then some true else some b) = some (a || b) := by cases a <;> rfl
theorem notInR (x lo hi : Int) : (!(inR x lo hi)) = (decide (x < lo) || decide (hi < x)) := by
 unfold inR
 by_cases h1 : x < lo <;> by_cases h2 : hi < x <;> simp [h1,h2] <;> omega
theorem not_any {α : Type} (l : List α) (p : α → Bool) : l.any (fun x => !p x) = !(l.all p) := by simp [List.any_eq_not_all_not]
def badT (e : Int) (t : GTone) : Bool := !(inR t.pitch 0 127) || (decide (t.from_ < e) || (decide (t.to_ ≤ t.from_) || decide (262144 < t.to_)))
def okT : Int → List GTone → Bool
 | _,[] => true
 | e,t :: r => !(badT e t) && okT t.to_ r
def manyS (l : List (List GTone)) : Bool := decide (6 < l.length) || l.any fun p => decide (400 < p.length)
def partsS (l : List (List GTone)) : Int := if manyS l then 2 else if l.all (okT 0) then 0 else 80
theorem f93_eq (l : List (List GTone)) (hs : Small l) : f93 l = some (idxF (fun p => decide (400 < p.length)) l) := by
 unfold f93
 rw [loop_find l (fun p => decide (400 < p.length)) (fun i _ => (i : Int)) hs]
 ·simp only [Option.bind_some,findS_idx,idxF]
  cases l.findIdx? _ <;> simp
 ·intro i y hy
  have e : decide (400 < (y.length : Int)) = decide (400 < y.length) := by simp; omega
  simp only [dltLen hy,cond_true,ixNat hy,Option.bind_some,f51,e]
  cases decide (400 < y.length) <;> rfl
 ·simp
theorem f50_eq (l : List (List GTone)) (hs : Small l) : f50 l = some (l.any fun p => decide (400 < p.length)) := by
 unfold f50
 rw [f93_eq l hs]
 simp only [Option.bind_some,idxF_nonneg]
def stepT {τ : Type} (c : τ) : Nat → Int → GTone → Int ⊕ (Unit ⊕ τ) := fun _ e t => bif badT e t then .inr (.inr c) else .inl t.to_
theorem foldT {τ : Type} (c : τ) : ∀ (l : List GTone) (k : Nat) (e : Int),foldE (stepT c) (fun _ => .inl ()) k l e = bif okT e l then .inl () else .inr c
 | [],_,_ => rfl
 | t :: r,k,e => by
  simp only [foldE,stepT,okT]
  cases badT e t with
  | true => rfl
  | false => simp only [cond_false]; rw [foldT c r]; rfl
theorem f17_eq (l : List (List GTone)) (hs : Small l) : f17 l = some (partsS l) := by
 have hmany : ((bif (decide (6 < (l.length : Int))) then (some true) else ((f50 l).bind fun r2 => some r2)) : Option Bool) = some (manyS l) := by
  rw [f50_eq l hs]
  unfold manyS
  have e : decide (6 < (l.length : Int)) = decide (6 < l.length) := by simp; omega
  rw [e]
  cases decide (6 < l.length) <;> rfl
 unfold f17
 rw [hmany]
 simp only [Option.bind_some]
 cases hm : manyS l with
 | true => simp [partsS,hm]
 | false =>
  simp only [cond_false]
  have hlen : ∀ p ∈ l,p.length ≤ 400 := fun p hp => by
   simp only [manyS,Bool.or_eq_false_iff,List.any_eq_false,decide_eq_true_eq] at hm
   have := hm.2 p hp
   omega
  rw [loop_find l (fun p => !(okT 0 p)) (fun _ _ => 80) hs]
  ·simp only [Option.bind_some,findS_any,partsS,hm,not_any]
   cases l.all (okT 0) <;> rfl
  ·intro i p hp
   have hps : Small p := by have := hlen p (List.mem_of_getElem? hp); simp only [Small]; omega
   simp only [dltLen hp,cond_true,ixNat hp,Option.bind_some]
   rw [loop_fold (fun (e : Int) i => (e,i)) (stepT (τ := Int ⊕ (Unit ⊕ Int)) (.inr (.inr 80))) (fun _ => .inl ()) p (fun _ _ => True) 0 (small_fuel hps) trivial]
   ·rw [foldT]
    cases okT 0 p <;> rfl
   ·intro j e t ht _
    refine ⟨?_,fun _ _ => trivial⟩
    simp only [dltLen ht,cond_true,ixNat ht,Option.bind_some,f52_eq,stepT,badT,wrLen hps ht]
    cases inR t.pitch 0 127 <;> cases decide (t.from_ < e) <;> cases decide (t.to_ ≤ t.from_) <;> cases decide (262144 < t.to_) <;> rfl
   ·intro e _; simp
  ·simp
theorem f35_eq (l : List GTone) (hs : Small l) : f35 l = some (okT 0 l) := by
 unfold f35
 rw [loop_fold (fun (_ : Int) i => i) (stepT (τ := Bool) false) (fun _ => .inl ()) l (fun i e => 0 ≤ e ∧ (i = 0 → e = 0) ∧ ∀ j,i = j + 1 → ∃ p,l[j]? = some p ∧ e = p.to_) 0 (small_fuel hs) ⟨Int.le_refl _,fun _ => rfl,fun j h => by cases h⟩]
 ·rw [foldT]
  cases okT 0 l <;> rfl
 ·intro i e t ht ⟨h0,h1,h2⟩
  constructor
  ·have hb : ((bif (decide (t.pitch < 0)) then (some true) else (bif (decide (127 < t.pitch)) then (some true) else (bif (decide (t.from_ < 0)) then (some true) else (bif (decide (t.to_ ≤ t.from_)) then (some true) else (bif (decide (262144 < t.to_)) then (some true) else (bif (decide (0 < (i : Int))) then ((ix l (wr ((i : Int) - 1))).bind fun y9 => some (decide (t.from_ < y9.to_))) else (some false))))))) : Option Bool) = some (badT e t) := by
    cases i with
    | zero =>
     have := h1 rfl
     subst this
     have d6 : decide (0 < ((0 : Nat) : Int)) = false := by simp
     simp only [d6,cond_false,orE,badT,notInR,Bool.or_assoc]
     cases decide (t.pitch < 0) <;> cases decide (127 < t.pitch) <;> cases decide (t.from_ < 0) <;> cases decide (t.to_ ≤ t.from_) <;> cases decide (262144 < t.to_) <;> rfl
    | succ j =>
     obtain ⟨p,hp,rfl⟩ := h2 j rfl
     have hw : wr (((j + 1 : Nat) : Int) - 1) = (j : Int) := by
      have := (List.getElem?_eq_some_iff.1 hp).1
      simp only [Small] at hs
      rw [wr64 (by omega) (by omega)]; omega
     rw [hw,ixNat hp]
     have d6 : decide (0 < ((j + 1 : Nat) : Int)) = true := by simp <;> omega
     simp only [d6,cond_true,Option.bind_some,orE,badT,notInR,Bool.or_assoc]
     by_cases c3 : t.from_ < 0
     ·have c6 : t.from_ < p.to_ := by omega
      simp only [c3,c6,decide_true,Bool.true_or,Bool.or_true]
     ·have e3 : decide (t.from_ < 0) = false := by simpa using c3
      rw [e3]
      cases decide (t.pitch < 0) <;> cases decide (127 < t.pitch) <;> cases decide (t.from_ < p.to_) <;> cases decide (t.to_ ≤ t.from_) <;> cases decide (262144 < t.to_) <;> rfl
   simp only [dltLen ht,cond_true,ixNat ht,Option.bind_some]
   rw [hb]
   simp only [Option.bind_some,stepT,wrLen hs ht]
   cases badT e t <;> rfl
  ·intro e' he
   simp only [stepT] at he
   cases hb : badT e t with
   | true => rw [hb] at he; cases he
   | false =>
    rw [hb] at he
    cases he
    refine ⟨?_,(fun h => by cases h),(fun j hj => by cases hj; exact ⟨t,ht,rfl⟩)⟩
    simp only [badT,Bool.or_eq_false_iff,decide_eq_false_iff_not] at hb
    omega
 ·intro e _; simp
theorem f13_eq (l : List (List GTone)) (hs : Small l) : f13 l = some (partsS l) := by
 unfold f13
 rw [loop_fold (fun (b : Bool) i => (b,i)) (fun _ b (p : List GTone) => (.inl (b || decide (400 < p.length)) : Bool ⊕ Bool)) (fun b => b) l (fun _ _ => True) (decide (6 < (l.length : Int))) (small_fuel hs) trivial]
 ·have key : ∀ (r : List (List GTone)) (k : Nat) (b : Bool),foldE (fun _ b (p : List GTone) => (.inl (b || decide (400 < p.length)) : Bool ⊕ Bool)) (fun b => b) k r b = (b || r.any fun p => decide (400 < p.length)) := by
   intro r
   induction r with
   | nil => intro k b; simp [foldE]
   | cons p r ih => intro k b; simp only [foldE,ih,List.any_cons,Bool.or_assoc]
  rw [key]
  have e : decide (6 < (l.length : Int)) = decide (6 < l.length) := by simp; omega
  rw [e]
  show (Option.bind (some (manyS l)) _) = _
  simp only [Option.bind_some]
  cases hm : manyS l with
  | true => simp [partsS,hm]
  | false =>
   simp only [cond_false]
   have hp : ∀ p ∈ l,Small p := fun p hp => by
    simp only [manyS,Bool.or_eq_false_iff,List.any_eq_false,decide_eq_true_eq] at hm
    have := hm.2 p hp
    simp only [Small]; omega
   rw [loop_find l (fun p => !(okT 0 p)) (fun _ _ => 80) hs]
   ·simp only [Option.bind_some,findS_any,partsS,hm,not_any]
    cases l.all (okT 0) <;> rfl
   ·intro i p hpp
    simp only [dltLen hpp,cond_true,ixNat hpp,Option.bind_some,f35_eq p (hp p (List.mem_of_getElem? hpp))]
    cases okT 0 p <;> rfl
   ·simp
 ·intro i b p hpp _
  refine ⟨?_,fun _ _ => trivial⟩
  have e : decide (400 < (p.length : Int)) = decide (400 < p.length) := by simp; omega
  simp only [dltLen hpp,cond_true,ixNat hpp,Option.bind_some,wrLen hs hpp,e]
  cases b <;> rfl
 ·intro b _; simp
theorem partsS_ok {l : List (List GTone)} (h : partsS l = 0) : l.length ≤ 6 ∧ ∀ p ∈ l,p.length ≤ 400 ∧ okT 0 p = true := by
 unfold partsS at h
 split at h
 ·cases h
 ·rename_i h1
  split at h
  ·rename_i h2
   simp only [manyS,Bool.or_eq_true,decide_eq_true_eq,List.any_eq_true,not_or,not_exists,not_and] at h1
   exact ⟨by omega,fun p hp => ⟨by have := h1.2 p hp; omega,List.all_eq_true.1 h2 p hp⟩⟩
  ·cases h
end Go.Proofs.YthjapedbgmjhmaaGreat
