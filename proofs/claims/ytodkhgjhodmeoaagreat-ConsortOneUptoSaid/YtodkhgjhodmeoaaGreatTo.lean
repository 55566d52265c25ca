/-
 The order of tones: the comparison,the sort,and the reference's insertion. Plain law.
 Own work. No Go text.
-/
import Derived.Test.YtodkhgjhodmeoaaGreatSs
import Derived.Test.YtodkhgjhodmeoaaGreatV5
set_option linter.all false
namespace Go.Proofs.YtodkhgjhodmeoaaGreat
open Go Go.Am
def bT (x y : GTone) : Bool := decide (x.from_ < y.from_) || (decide (x.from_ = y.from_) && (decide (x.pitch < y.pitch) || (decide (x.pitch = y.pitch) && decide (x.to_ < y.to_))))
def leT (x y : GTone) : Prop := bT y x = false
theorem bT_iff (x y : GTone) : bT x y = true ↔ (x.from_ < y.from_ ∨ (x.from_ = y.from_ ∧ (x.pitch < y.pitch ∨ (x.pitch = y.pitch ∧ x.to_ < y.to_)))) := by
 unfold bT
 simp only [Bool.or_eq_true,Bool.and_eq_true,decide_eq_true_eq]
theorem bT_not (x y : GTone) : bT x y = false ↔ ¬ (x.from_ < y.from_ ∨ (x.from_ = y.from_ ∧ (x.pitch < y.pitch ∨ (x.pitch = y.pitch ∧ x.to_ < y.to_)))) := by
 rw [← bT_iff,Bool.not_eq_true]
theorem leT.trans {x y z : GTone} (h1 : leT x y) (h2 : leT y z) : leT x z := by
 unfold leT at *
 rw [bT_not] at *
 omega
theorem leT.of_lt {x y : GTone} (h : bT x y = true) : leT x y := by
 unfold leT
 rw [bT_iff] at h
 rw [bT_not]
 omega
theorem leT.antisymm {x y : GTone} (h1 : leT x y) (h2 : leT y x) : x = y := by
 unfold leT at *
 rw [bT_not] at *
 cases x; cases y
 simp only [GTone.mk.injEq] at *
 omega
theorem f92_three (a b c : Int) : f92 [a,b,c] = some (if a ≠ 0 then a else if b ≠ 0 then b else c) := by
 unfold f92
 rw [loop_find [a,b,c] (fun y => decide (y ≠ 0)) (fun _ y => y) (by simp [Small]) (fun i y hy => by
  simp only [dltLen hy,cond_true,ixNat hy,Option.bind_some]
  cases decide (y ≠ 0) <;> rfl) (by rfl)]
 simp only [Option.bind_some,findS]
 by_cases h1 : a = 0
 ·by_cases h2 : b = 0
  ·by_cases h3 : c = 0 <;> simp [h1,h2,h3]
  ·simp [h1,h2]
 ·simp [h1]
theorem cmp_lt (x y : GTone) : decide ((if cmpI x.from_ y.from_ ≠ 0 then cmpI x.from_ y.from_ else if cmpI x.pitch y.pitch ≠ 0 then cmpI x.pitch y.pitch else cmpI x.to_ y.to_) < 0) = bT x y := by
 have z : ∀ a b : Int,cmpI a b ≠ 0 ↔ a ≠ b := by
  intro a b
  unfold cmpI
  split
  ·simp; omega
  ·split
   ·simp; omega
   ·simp; omega
 simp only [z]
 unfold bT
 by_cases h1 : x.from_ = y.from_
 ·by_cases h2 : x.pitch = y.pitch
  ·simp [h1,h2,cmpI_lt]
  ·simp [h1,h2,cmpI_lt]
 ·simp [h1,cmpI_lt]
theorem f95_eq (x y : GTone) : ∃ r,f95 x y = some r ∧ decide (r < 0) = bT x y := by
 unfold f95
 simp only [f89_eq,Option.bind_some,f92_three]
 exact ⟨_,rfl,cmp_lt x y⟩
theorem f91_eq (x y : GTone) : ∃ r,f91 x y = some r ∧ decide (r < 0) = bT x y := f95_eq x y
theorem sortF_law (fg : GTone → GTone → Option Int) (hf : ∀ x y,∃ r,fg x y = some r ∧ decide (r < 0) = bT x y) (l : List GTone) (hl : l.length ≤ 4194304) : ∃ r,sortF fg l = some r ∧ r.Perm l ∧ r.Pairwise leT := by
 have hlt : (Go.Proofs.ltOf fun x y => (fg x y).getD 0) = bT := by
  funext x y
  obtain ⟨r,h1,h2⟩ := hf x y
  unfold Go.Proofs.ltOf
  simp only [h1,Option.getD_some]
  exact h2
 unfold sortF
 rw [hlt,if_pos ⟨fun x y => by obtain ⟨r,h1,_⟩ := hf x y; rw [h1]; simp,⟨fun x => by rw [bT_not]; omega,fun x y z h1 h2 => by rw [bT_iff] at *; omega,fun x y z h1 h2 => by rw [bT_not] at *; omega⟩,fun x y h1 h2 => leT.antisymm h2 h1,hl⟩]
 refine ⟨_,rfl,List.mergeSort_perm _ _,?_⟩
 refine (List.pairwise_mergeSort (fun a b c h1 h2 => ?_) (fun a b => ?_) l).imp (fun {a b} h => by simpa [leT] using h)
 ·simp only [Bool.not_eq_true'] at *
  exact leT.trans (x := a) (y := b) (z := c) h1 h2
 ·cases h : bT b a with
  | false => simp
  | true => simp [show bT a b = false from leT.of_lt h]
theorem permT_eq : ∀ {l r : List GTone},l.Perm r → l.Pairwise leT → r.Pairwise leT → l = r
 | [],r,h,_,_ => (List.Perm.nil_eq h)
 | x :: l,[],h,_,_ => by have := h.length_eq; simp at this
 | x :: l,y :: r,h,hl,hr => by
  obtain ⟨l1,l2⟩ := List.pairwise_cons.1 hl
  obtain ⟨r1,r2⟩ := List.pairwise_cons.1 hr
  have hxy : x = y := by
   have hx : x ∈ y :: r := h.mem_iff.1 (by simp)
   have hy : y ∈ x :: l := h.mem_iff.2 (by simp)
   rcases List.mem_cons.1 hx with e | hx
   ·exact e
   ·rcases List.mem_cons.1 hy with e | hy
    ·exact e.symm
    ·exact leT.antisymm (l1 y hy) (r1 x hx)
  subst hxy
  rw [permT_eq ((List.perm_cons x).1 h) l2 r2]
end Go.Proofs.YtodkhgjhodmeoaaGreat
