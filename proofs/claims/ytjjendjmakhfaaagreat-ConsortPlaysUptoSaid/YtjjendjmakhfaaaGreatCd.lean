/-
 Plain laws of ConsortChecks,part d: least and greatest numbers; the law of Check.
 Own work. No Go text.
-/
import Derived.Test.YtjjendjmakhfaaaGreatCc
set_option linter.all false
namespace Go.Proofs.YtjjendjmakhfaaaGreat
open Go Go.Am
theorem fold_at1 {body : Int × Int → Option ((Int × Int) ⊕ Int)} (f : Int → Int → Int) (x : Int) (r : List Int) (hs : Small (x :: r))
  (hb : ∀ (a : Int) (i : Nat) y,(x :: r)[i]? = some y → body (a,(i : Int)) = some (.inl (f a y,wr ((i : Int) + 1)))) (he : ∀ a,body (a,((x :: r).length : Int)) = some (.inr a)) :
  loopN body FUEL (x,1) = some (r.foldl f x) := by
 have h := loop_fold_at (body := body) (fun (a : Int) i => (a,i)) (fun _ (a : Int) y => (.inl (f a y) : Int ⊕ Int)) (fun a => a) (x :: r) (fun _ _ => True)
  (fun i a y hy _ => ⟨by rw [hb a i y hy,wrLen hs hy]; rfl,fun _ _ => trivial⟩) (fun a _ => he a) r 1 FUEL x rfl (by simp) (by simp only [Small,List.length_cons] at hs; unfold FUEL; omega) trivial
 rw [foldE_inl f (fun a => a)] at h
 exact h
theorem min_eq (x : Int) (r : List Int) (hs : Small (x :: r)) : f69 (x :: r) = some (r.foldl minI x) := by
 unfold f69
 have d1 : decide (((x :: r).length : Int) < 1) = false := decide_eq_false (by simp only [List.length_cons]; omega)
 have h0 : ix (x :: r) 0 = some x := rfl
 rw [d1]
 simp only [cond_false,Option.bind_some,h0]
 rw [fold_at1 minI x r hs (fun a i y hy => by simp only [dltLen hy,cond_true,ixNat hy,Option.bind_some]) (fun a => by simp)]
 rfl
theorem max_eq (x : Int) (r : List Int) (hs : Small (x :: r)) : f70 (x :: r) = some (r.foldl maxI x) := by
 unfold f70
 have d1 : decide (((x :: r).length : Int) < 1) = false := decide_eq_false (by simp only [List.length_cons]; omega)
 have h0 : ix (x :: r) 0 = some x := rfl
 rw [d1]
 simp only [cond_false,Option.bind_some,h0]
 rw [fold_at1 maxI x r hs (fun a i y hy => by simp only [dltLen hy,cond_true,ixNat hy,Option.bind_some]) (fun a => by simp)]
 rfl
theorem min_le : ∀ (r : List Int) (x : Int),r.foldl minI x ≤ x ∧ ∀ y ∈ r,r.foldl minI x ≤ y
 | [],x => by simp
 | z :: r,x => by
  obtain ⟨h1,h2⟩ := min_le r (minI x z)
  have h3 : minI x z ≤ x ∧ minI x z ≤ z := by unfold minI; split <;> omega
  refine ⟨by rw [List.foldl_cons]; omega,fun y hy => ?_⟩
  rw [List.foldl_cons]
  rcases List.mem_cons.1 hy with rfl | hy
  ·omega
  ·exact h2 y hy
theorem le_max : ∀ (r : List Int) (x : Int),x ≤ r.foldl maxI x ∧ ∀ y ∈ r,y ≤ r.foldl maxI x
 | [],x => by simp
 | z :: r,x => by
  obtain ⟨h1,h2⟩ := le_max r (maxI x z)
  have h3 : x ≤ maxI x z ∧ z ≤ maxI x z := by unfold maxI; split <;> omega
  refine ⟨by rw [List.foldl_cons]; omega,fun y hy => ?_⟩
  rw [List.foldl_cons]
  rcases List.mem_cons.1 hy with rfl | hy
  ·omega
  ·exact h2 y hy
theorem all_same (f : Int → Int → Int) (hf : ∀ x,f x x = x) : ∀ (r : List Int) (x : Int),(∀ y ∈ r,y = x) → r.foldl f x = x
 | [],x,_ => rfl
 | z :: r,x,h => by
  have : z = x := h z (by simp)
  subst this
  rw [List.foldl_cons,hf]
  exact all_same f hf r z fun y hy => h y (by simp [hy])
theorem min_ne_max (r : List Int) (x : Int) : decide (r.foldl minI x ≠ r.foldl maxI x) = (x :: r).any fun y => decide (y ≠ x) := by
 by_cases h : ∀ y ∈ r,y = x
 ·rw [all_same minI (fun x => by unfold minI; split <;> rfl) r x h,all_same maxI (fun x => by unfold maxI; split <;> rfl) r x h]
  have : ((x :: r).any fun y => decide (y ≠ x)) = false := by
   rw [List.any_eq_false]
   intro y hy
   rcases List.mem_cons.1 hy with rfl | hy
   ·simp
   ·simp [h y hy]
  rw [this]; simp
 ·have h2 : ∃ y,y ∈ r ∧ y ≠ x := Classical.byContradiction fun hn => h fun y hy => Classical.byContradiction fun hne => hn ⟨y,hy,hne⟩
  obtain ⟨y,hy,hne⟩ := h2
  have a := min_le r x
  have b := le_max r x
  have a2 := a.2 y hy
  have b2 := b.2 y hy
  have e1 : ((x :: r).any fun y => decide (y ≠ x)) = true := by
   rw [List.any_eq_true]
   exact ⟨y,by simp [hy],by simpa using hne⟩
  rw [e1]
  exact decide_eq_true (by omega)
def diffS (l : List Int) : Bool := match l with
 | [] => false
 | x :: r => (x :: r).any fun y => decide (y ≠ x)
def checkS (l : List GPiece) : Int := if (bandS l).2 ≠ 0 then (bandS l).2 else bif diffS (l.map endP) then 91 else 0
theorem ends_cons {l : List GPiece} (h : 0 < l.length) : ∃ x r,l.map endP = x :: r := by
 cases l with
 | nil => simp at h
 | cons p r => exact ⟨_,_,rfl⟩
theorem prog_length (c : GConsort) (hs : SizeC c.pieces) : f31 c = some (if checkS c.pieces = 0 then ((c.pieces.map endP).headD 0,0) else (0,checkS c.pieces)) := by
 unfold f31
 rw [prog_band c.pieces hs]
 simp only [Option.bind_some]
 by_cases h : (bandS c.pieces).2 = 0
 ·have d : decide ((bandS c.pieces).2 ≠ 0) = false := by simp [h]
  obtain ⟨h1,h2,h3,h4⟩ := band_ok h
  obtain ⟨x,r,hx⟩ := ends_cons h1
  have hsm : Small (x :: r) := by
   have : (x :: r).length = c.pieces.length := by rw [← hx]; simp
   simp only [Small]; omega
  rw [d,h3,hx]
  simp only [cond_false]
  rw [min_eq x r hsm,max_eq x r hsm]
  simp only [Option.bind_some,min_ne_max]
  have hc : checkS c.pieces = bif (x :: r).any fun y => decide (y ≠ x) then 91 else 0 := by
   unfold checkS
   rw [if_neg (by simp [h]),hx]; rfl
  have h0 : ix (x :: r) 0 = some x := rfl
  rw [hc,h0]
  cases (x :: r).any fun y => decide (y ≠ x) <;> rfl
 ·have d : decide ((bandS c.pieces).2 ≠ 0) = true := by simpa using h
  have hc : checkS c.pieces = (bandS c.pieces).2 := by unfold checkS; rw [if_pos h]
  rw [d,hc,if_neg h]; rfl
theorem ref_Check (c : GConsort) (hs : SizeC c.pieces) : f34 c = some (checkS c.pieces) := by
 unfold f34
 rw [ref_ends c.pieces hs]
 simp only [Option.bind_some]
 by_cases h : (bandS c.pieces).2 = 0
 ·obtain ⟨h1,h2,h3,h4⟩ := band_ok h
  obtain ⟨x,r,hx⟩ := ends_cons h1
  have hsm : Small (x :: r) := by
   have : (x :: r).length = c.pieces.length := by rw [← hx]; simp
   simp only [Small]; omega
  have h0 : ix (x :: r) 0 = some x := rfl
  have hc : checkS c.pieces = bif (x :: r).any fun y => decide (y ≠ x) then 91 else 0 := by
   unfold checkS
   rw [if_neg (by simp [h]),hx]; rfl
  rw [h3,hx,h,hc]
  rw [loop_find (x :: r) (fun y => decide (y ≠ x)) (fun _ _ => 91) hsm]
  ·rw [findS_any]
   cases (x :: r).any fun y => decide (y ≠ x) <;> rfl
  ·intro i y hy
   simp only [dltLen hy,cond_true,ixNat hy,Option.bind_some,h0]
   cases decide (y ≠ x) <;> rfl
  ·simp
 ·have hc : checkS c.pieces = (bandS c.pieces).2 := by unfold checkS; rw [if_pos h]
  rw [band_bad h,hc,loop_none ([] : List Int) (by simp [Small])]
  ·rfl
  ·intro i y hy; simp at hy
  ·rfl
end Go.Proofs.YtjjendjmakhfaaaGreat
