/-
 The order of tones: the comparison,the sort,and the reference's insertion. Plain law.
 Own work. No Go text.
-/
import Derived.Test.YtjjendjmakhfaaaGreatSs
import Derived.Test.YtjjendjmakhfaaaGreatTD
set_option linter.all false
namespace Go.Proofs.YtjjendjmakhfaaaGreat
open Go Go.Am
def bT (x y : GTone) : Bool := decide (x.from_ < y.from_) || (decide (x.from_ = y.from_) && (decide (x.pitch < y.pitch) || (decide (x.pitch = y.pitch) && decide (x.to_ < y.to_))))
def leT (x y : GTone) : Prop := bT y x = false
theorem bT_iff (x y : GTone) : bT x y = true ↔ (x.from_ < y.from_ ∨ (x.from_ = y.from_ ∧ (x.pitch < y.pitch ∨ (x.pitch = y.pitch ∧ x.to_ < y.to_)))) := by
 unfold bT
 simp only [Bool.or_eq_true,Bool.and_eq_true,decide_eq_true_eq]
theorem bT_not (x y : GTone) : bT x y = false ↔ ¬ (x.from_ < y.from_ ∨ (x.from_ = y.from_ ∧ (x.pitch < y.pitch ∨ (x.pitch = y.pitch ∧ x.to_ < y.to_)))) := by
 rw [← bT_iff,Bool.not_eq_true]
theorem leT.trans {x y z : GTone} (h1 : leT x y) (h2 : leT y z) : leT x z := by
 unfold leT at *
 rw [bT_not] at *
 omega
theorem leT.of_lt {x y : GTone} (h : bT x y = true) : leT x y := by
 unfold leT
 rw [bT_iff] at h
 rw [bT_not]
 omega
theorem leT.antisymm {x y : GTone} (h1 : leT x y) (h2 : leT y x) : x = y := by
 unfold leT at *
 rw [bT_not] at *
 cases x; cases y
 simp only [GTone.mk.injEq] at *
 omega
theorem f121_eq (x y : GTone) : f121 x y = some (bT x y) := by
 unfold f121 bT
 by_cases h1 : x.from_ = y.from_
 ·by_cases h2 : x.pitch = y.pitch
  ·simp [h1,h2]
  ·simp [h1,h2]
 ·simp [h1]
theorem f97_eq (x y : GTone) : f97 x y = some (bT x y) := f121_eq x y
theorem f92_three (a b c : Int) : f71 [a,b,c] = some (if a ≠ 0 then a else if b ≠ 0 then b else c) := by
 unfold f71
 rw [loop_find [a,b,c] (fun y => decide (y ≠ 0)) (fun _ y => y) (by simp [Small]) (fun i y hy => by
  simp only [dltLen hy,cond_true,ixNat hy,Option.bind_some]
  cases decide (y ≠ 0) <;> rfl) (by rfl)]
 simp only [Option.bind_some,findS]
 by_cases h1 : a = 0
 ·by_cases h2 : b = 0
  ·by_cases h3 : c = 0 <;> simp [h1,h2,h3]
  ·simp [h1,h2]
 ·simp [h1]
theorem cmp_lt (x y : GTone) : decide ((if cmpI x.from_ y.from_ ≠ 0 then cmpI x.from_ y.from_ else if cmpI x.pitch y.pitch ≠ 0 then cmpI x.pitch y.pitch else cmpI x.to_ y.to_) < 0) = bT x y := by
 have z : ∀ a b : Int,cmpI a b ≠ 0 ↔ a ≠ b := by
  intro a b
  unfold cmpI
  split
  ·simp; omega
  ·split
   ·simp; omega
   ·simp; omega
 simp only [z]
 unfold bT
 by_cases h1 : x.from_ = y.from_
 ·by_cases h2 : x.pitch = y.pitch
  ·simp [h1,h2,cmpI_lt]
  ·simp [h1,h2,cmpI_lt]
 ·simp [h1,cmpI_lt]
theorem f117_eq (x y : GTone) : ∃ r,f117 x y = some r ∧ decide (r < 0) = bT x y := by
 unfold f117
 simp only [f72_eq,Option.bind_some,f92_three]
 exact ⟨_,rfl,cmp_lt x y⟩
theorem f91_eq (x y : GTone) : ∃ r,f91 x y = some r ∧ decide (r < 0) = bT x y := f117_eq x y
theorem sortF_law (fg : GTone → GTone → Option Int) (hf : ∀ x y,∃ r,fg x y = some r ∧ decide (r < 0) = bT x y) (l : List GTone) (hl : l.length ≤ 4194304) : ∃ r,sortF fg l = some r ∧ r.Perm l ∧ r.Pairwise leT := by
 have hlt : (Go.Proofs.ltOf fun x y => (fg x y).getD 0) = bT := by
  funext x y
  obtain ⟨r,h1,h2⟩ := hf x y
  unfold Go.Proofs.ltOf
  simp only [h1,Option.getD_some]
  exact h2
 unfold sortF
 rw [hlt,if_pos ⟨fun x y => by obtain ⟨r,h1,_⟩ := hf x y; rw [h1]; simp,⟨fun x => by rw [bT_not]; omega,fun x y z h1 h2 => by rw [bT_iff] at *; omega,fun x y z h1 h2 => by rw [bT_not] at *; omega⟩,fun x y h1 h2 => leT.antisymm h2 h1,hl⟩]
 refine ⟨_,rfl,List.mergeSort_perm _ _,?_⟩
 refine (List.pairwise_mergeSort (fun a b c h1 h2 => ?_) (fun a b => ?_) l).imp (fun {a b} h => by simpa [leT] using h)
 ·simp only [Bool.not_eq_true'] at *
  exact leT.trans (x := a) (y := b) (z := c) h1 h2
 ·cases h : bT b a with
  | false => simp
  | true => simp [show bT a b = false from leT.of_lt h]
theorem permT_eq : ∀ {l r : List GTone},l.Perm r → l.Pairwise leT → r.Pairwise leT → l = r
 | [],r,h,_,_ => (List.Perm.nil_eq h)
 | x :: l,[],h,_,_ => by have := h.length_eq; simp at this
 | x :: l,y :: r,h,hl,hr => by
  obtain ⟨l1,l2⟩ := List.pairwise_cons.1 hl
  obtain ⟨r1,r2⟩ := List.pairwise_cons.1 hr
  have hxy : x = y := by
   have hx : x ∈ y :: r := h.mem_iff.1 (by simp)
   have hy : y ∈ x :: l := h.mem_iff.2 (by simp)
   rcases List.mem_cons.1 hx with e | hx
   ·exact e
   ·rcases List.mem_cons.1 hy with e | hy
    ·exact e.symm
    ·exact leT.antisymm (l1 y hy) (r1 x hx)
  subst hxy
  rw [permT_eq ((List.perm_cons x).1 h) l2 r2]
theorem insT_step (Z : List GTone) (y : GTone) (hn : Z.length + 1 ≤ 4194304) (hs : Z.Pairwise leT) {body : List GTone × Int → Option ((List GTone × Int) ⊕ List GTone)}
  (hb : ∀ l j,body (l,j) = (((bif (decide (0 < j)) then ((ix l j).bind fun y3 => (ix l (wr (j - 1))).bind fun y4 => some (bT y3 y4)) else (some false)) : Option Bool).bind fun (b : Bool) => bif b then ((ix l (wr (j - 1))).bind fun y7 => (ix l j).bind fun y8 => (ix (l.set j.toNat y7) (wr (j - 1))).bind fun y9 => some (.inl (((l.set j.toNat y7).set (wr (j - 1)).toNat y8),(wr (j - 1))))) else (some (.inr l)))) :
  ∃ r,loopN body FUEL (Z ++ [y],((Z.length : Nat) : Int)) = some r ∧ r.Perm (Z ++ [y]) ∧ r.Pairwise leT := by
 refine loop_mu (fun s => ∃ Z1 Z2,Z = Z1 ++ Z2 ∧ s.1 = Z1 ++ y :: Z2 ∧ s.2 = ((Z1.length : Nat) : Int) ∧ ∀ z ∈ Z2,leT y z) (fun s => s.2.toNat) _ ?_ FUEL _ ⟨Z,[],by simp,by simp,rfl,by simp⟩ (by
  show (((Z.length : Nat) : Int)).toNat < FUEL
  unfold FUEL
  omega)
 rintro ⟨l,j⟩ ⟨Z1,Z2,hZ,hl,hj,hR⟩
 simp only at hl hj
 subst hj
 have hZl : Z.length = Z1.length + Z2.length := by rw [hZ]; simp
 rw [hb]
 rcases List.eq_nil_or_concat Z1 with h0 | ⟨Z1',z,h0⟩
 ·right
  subst h0
  have : decide ((0 : Int) < ((([] : List GTone).length : Nat) : Int)) = false := by simp
  simp only [this,cond_false,Option.bind_some]
  refine ⟨_,rfl,?_,?_⟩
  ·rw [hl,hZ]
   exact (List.perm_append_comm (l₁ := [y]) (l₂ := Z2))
  ·rw [hl]
   rw [hZ] at hs
   exact List.pairwise_cons.2 ⟨hR,hs⟩
 ·rw [List.concat_eq_append] at h0
  subst h0
  have e0 : decide ((0 : Int) < (((Z1' ++ [z]).length : Nat) : Int)) = true := by simp; try omega
  have ew : wr ((((Z1' ++ [z]).length : Nat) : Int) - 1) = ((Z1'.length : Nat) : Int) := by
   rw [wrI (by omega) (by omega)]
   simp only [List.length_append,List.length_cons,List.length_nil]
   omega
  have i1 : ix l (((Z1' ++ [z]).length : Nat) : Int) = some y := ixAt hl rfl
  have i2 : ix l ((Z1'.length : Nat) : Int) = some z := ixAt (p := Z1') (q := y :: Z2) (by rw [hl]; simp) rfl
  simp only [e0,cond_true,ew,i1,i2,Option.bind_some]
  cases ht : bT y z with
  | true =>
   left
   have e1 : l.set ((((Z1' ++ [z]).length : Nat) : Int)).toNat z = Z1' ++ z :: (z :: Z2) := by
    rw [setAt hl (by omega)]
    simp
   have e2 : ix (Z1' ++ z :: (z :: Z2)) ((Z1'.length : Nat) : Int) = some z := ixAt rfl rfl
   have e3 : (Z1' ++ z :: (z :: Z2)).set (((Z1'.length : Nat) : Int)).toNat y = Z1' ++ y :: (z :: Z2) := setAt rfl (by omega)
   simp only [cond_true,e1,e2,e3,Option.bind_some]
   refine ⟨_,rfl,⟨Z1',z :: Z2,by rw [hZ]; simp,rfl,rfl,?_⟩,?_⟩
   ·intro w hw
    rcases List.mem_cons.1 hw with rfl | hw
    ·exact .of_lt ht
    ·exact hR w hw
   ·simp only [List.length_append,List.length_cons,List.length_nil]
    omega
  | false =>
   right
   simp only [cond_false]
   refine ⟨_,rfl,?_,?_⟩
   ·rw [hl,hZ,List.append_assoc (Z1' ++ [z])]
    exact List.Perm.append_left _ (List.perm_append_comm (l₁ := [y]) (l₂ := Z2))
   ·rw [hl]
    rw [hZ] at hs
    obtain ⟨s1,s2,s3⟩ := List.pairwise_append.1 hs
    have hzy : leT z y := ht
    refine List.pairwise_append.2 ⟨s1,List.pairwise_cons.2 ⟨hR,s2⟩,fun a ha b hb => ?_⟩
    have hay : leT a y := by
     rcases List.mem_append.1 ha with h | h
     ·obtain ⟨_,_,s4⟩ := List.pairwise_append.1 s1
      exact (s4 a h z (by simp)).trans hzy
     ·have : a = z := by simpa using h
      rw [this]; exact hzy
    rcases List.mem_cons.1 hb with rfl | hb
    ·exact hay
    ·exact s3 a ha b hb
end Go.Proofs.YtjjendjmakhfaaaGreat
