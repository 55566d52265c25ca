/-
 The stable sort of cues,part two: the merge of two ranges,and the whole. Plain law.
 Own work. No Go text.
-/
import Derived.Test.YtodkhgjhodmeoaaGreatSs
set_option linter.all false
namespace Go.Proofs.YtodkhgjhodmeoaaGreat
open Go Go.Am
theorem midI {i j : Nat} (h1 : i ≤ 4194304) (h2 : j ≤ 4194304) : wr (shrI (IntKind.wrap .u64 (wr ((i : Int) + (j : Int)))) 1) = (((i + j) / 2 : Nat) : Int) := by
 have w1 : wr ((i : Int) + (j : Int)) = ((i + j : Nat) : Int) := by rw [wr64 (by omega) (by omega)]; omega
 have w2 : IntKind.wrap .u64 ((i + j : Nat) : Int) = ((i + j : Nat) : Int) := by
  rw [IntKind.wrap_u64]; omega
 have w3 : shrI ((i + j : Nat) : Int) 1 = (((i + j) / 2 : Nat) : Int) := by
  unfold shrI
  have : (2 : Int) ^ (min (1 : Int).toNat 64) = 2 := by decide
  rw [this,Int.fdiv_eq_ediv_of_nonneg _ (by omega)]
  omega
 rw [w1,w2,w3]
 exact wr64 (by omega) (by omega)
theorem bsearch {body : Int × Int → Option ((Int × Int) ⊕ Int)} (P : Nat → Bool) (lo hi : Nat) (hh : hi ≤ 4194304) (hlo : lo ≤ hi)
  (hb : ∀ i j : Nat,lo ≤ i → i < j → j ≤ hi → body ((i : Int),(j : Int)) = bif P ((i + j) / 2) then some (.inl ((((i + j) / 2 + 1 : Nat) : Int),(j : Int))) else some (.inl ((i : Int),(((i + j) / 2 : Nat) : Int))))
  (he : ∀ i j : Nat,¬ i < j → body ((i : Int),(j : Int)) = some (.inr (i : Int))) :
  ∃ r,loopN body FUEL ((lo : Int),(hi : Int)) = some r ∧ ∃ k : Nat,r = (k : Int) ∧ lo ≤ k ∧ k ≤ hi ∧ (lo < k → P (k - 1) = true) ∧ (k < hi → P k = false) := by
 refine loop_mu (fun s => ∃ i j : Nat,s = ((i : Int),(j : Int)) ∧ lo ≤ i ∧ i ≤ j ∧ j ≤ hi ∧ (lo < i → P (i - 1) = true) ∧ (j < hi → P j = false)) (fun s => (s.2 - s.1).toNat) _ ?_ FUEL _ ⟨lo,hi,rfl,Nat.le_refl _,hlo,Nat.le_refl _,fun h => by omega,fun h => by omega⟩ (by
  show ((hi : Int) - (lo : Int)).toNat < FUEL
  unfold FUEL
  omega)
 rintro s ⟨i,j,rfl,h1,h2,h3,h4,h5⟩
 by_cases hij : i < j
 ·left
  rw [hb i j h1 hij h3]
  cases hP : P ((i + j) / 2) with
  | true =>
   simp only [cond_true]
   refine ⟨_,rfl,⟨(i + j) / 2 + 1,j,rfl,by omega,by omega,h3,fun _ => by simpa using hP,h5⟩,?_⟩
   show ((j : Int) - (((i + j) / 2 + 1 : Nat) : Int)).toNat < ((j : Int) - (i : Int)).toNat
   omega
  | false =>
   simp only [cond_false]
   refine ⟨_,rfl,⟨i,(i + j) / 2,rfl,h1,by omega,by omega,h4,fun _ => hP⟩,?_⟩
   show ((((i + j) / 2 : Nat) : Int) - (i : Int)).toNat < ((j : Int) - (i : Int)).toNat
   omega
 ·right
  rw [he i j hij]
  have : i = j := by omega
  subst this
  exact ⟨_,rfl,i,rfl,h1,h3,h4,h5⟩
theorem bub_right (p Y q : List GCue) (x : GCue) (L : Int) (s : List GCue × Int) (hs : s = (p ++ x :: Y ++ q,(p.length : Int))) (hL : L = ((p.length + Y.length : Nat) : Int)) (hn : (p ++ x :: Y ++ q).length ≤ 4194304)
  {body : List GCue × Int → Option ((List GCue × Int) ⊕ List GCue)}
  (hb : ∀ l k,body (l,k) = bif decide (k < L) then ((ix l (wr (k + 1))).bind fun y8 => (ix l k).bind fun y9 => (ix (l.set k.toNat y8) (wr (k + 1))).bind fun y10 => some (.inl (((l.set k.toNat y8).set (wr (k + 1)).toNat y9),(wr (k + 1))))) else some (.inr l)) :
  ∃ r,loopN body FUEL s = some r ∧ r = p ++ Y ++ x :: q := by
 subst hs; subst hL
 have hlen : p.length + Y.length + q.length + 1 ≤ 4194304 := by
  simp only [List.length_append,List.length_cons] at hn
  omega
 refine loop_mu (fun s => ∃ Y1 Y2,Y = Y1 ++ Y2 ∧ s.1 = p ++ Y1 ++ x :: (Y2 ++ q) ∧ s.2 = ((p.length + Y1.length : Nat) : Int)) (fun s => 4194305 - s.2.toNat) _ ?_ FUEL _ ⟨[],Y,rfl,by simp,rfl⟩ (by unfold FUEL; omega)
 rintro ⟨l,k⟩ ⟨Y1,Y2,hY,hl,hk⟩
 simp only at hl hk
 subst hk
 have hYl : Y.length = Y1.length + Y2.length := by rw [hY]; simp
 rw [hb]
 cases Y2 with
 | nil =>
  right
  have e0 : decide (((p.length + Y1.length : Nat) : Int) < ((p.length + Y.length : Nat) : Int)) = false := by simp [hYl]
  simp only [e0,cond_false]
  refine ⟨_,rfl,?_⟩
  rw [hl,hY]; simp
 | cons y Y2 =>
  left
  simp only [List.length_cons] at hYl
  have e0 : decide (((p.length + Y1.length : Nat) : Int) < ((p.length + Y.length : Nat) : Int)) = true := by simp; omega
  have w1 : wr (((p.length + Y1.length : Nat) : Int) + 1) = ((p.length + Y1.length + 1 : Nat) : Int) := by rw [wrI (by omega) (by omega)]; omega
  have i1 : ix l ((p.length + Y1.length + 1 : Nat) : Int) = some y := ixAt (p := p ++ Y1 ++ [x]) (q := Y2 ++ q) (by rw [hl]; simp) (by simp; omega)
  have i2 : ix l ((p.length + Y1.length : Nat) : Int) = some x := ixAt (p := p ++ Y1) hl (by simp)
  have s1 : l.set (((p.length + Y1.length : Nat) : Int)).toNat y = p ++ Y1 ++ y :: (y :: Y2 ++ q) := setAt hl (by simp only [List.length_append]; omega)
  have i3 : ix (p ++ Y1 ++ y :: (y :: Y2 ++ q)) ((p.length + Y1.length + 1 : Nat) : Int) = some y := ixAt (p := p ++ Y1 ++ [y]) (q := Y2 ++ q) (by simp) (by simp; omega)
  have s2 : (p ++ Y1 ++ y :: (y :: Y2 ++ q)).set (((p.length + Y1.length + 1 : Nat) : Int)).toNat x = p ++ Y1 ++ [y] ++ x :: (Y2 ++ q) := setAt (x := y) (by simp) (by simp only [List.length_append,List.length_cons,List.length_nil]; omega)
  simp only [e0,cond_true,w1,i1,i2,s1,i3,s2,Option.bind_some]
  refine ⟨_,rfl,⟨Y1 ++ [y],Y2,by rw [hY]; simp,by simp,by simp; omega⟩,?_⟩
  simp only [Int.toNat_natCast]
  omega
theorem bub_left (p X q : List GCue) (y : GCue) (L : Int) (s : List GCue × Int) (hs : s = (p ++ X ++ y :: q,((p.length + X.length : Nat) : Int))) (hL : L = (p.length : Int)) (hn : (p ++ X ++ y :: q).length ≤ 4194304)
  {body : List GCue × Int → Option ((List GCue × Int) ⊕ List GCue)}
  (hb : ∀ l k,body (l,k) = bif decide (L < k) then ((ix l (wr (k - 1))).bind fun y18 => (ix l k).bind fun y19 => (ix (l.set k.toNat y18) (wr (k - 1))).bind fun y20 => some (.inl (((l.set k.toNat y18).set (wr (k - 1)).toNat y19),(wr (k - 1))))) else some (.inr l)) :
  ∃ r,loopN body FUEL s = some r ∧ r = p ++ y :: X ++ q := by
 subst hs; subst hL
 have hlen : p.length + X.length + q.length + 1 ≤ 4194304 := by
  simp only [List.length_append,List.length_cons] at hn
  omega
 refine loop_mu (fun s => ∃ X1 X2,X = X1 ++ X2 ∧ s.1 = p ++ X1 ++ y :: (X2 ++ q) ∧ s.2 = ((p.length + X1.length : Nat) : Int)) (fun s => s.2.toNat) _ ?_ FUEL _ ⟨X,[],by simp,by simp,rfl⟩ (by
  show (((p.length + X.length : Nat) : Int)).toNat < FUEL
  unfold FUEL; omega)
 rintro ⟨l,k⟩ ⟨X1,X2,hX,hl,hk⟩
 simp only at hl hk
 subst hk
 have hXl : X.length = X1.length + X2.length := by rw [hX]; simp
 rw [hb]
 rcases List.eq_nil_or_concat X1 with h0 | ⟨X1',z,h0⟩
 ·right
  subst h0
  have e0 : decide ((p.length : Int) < ((p.length + ([] : List GCue).length : Nat) : Int)) = false := by simp
  simp only [e0,cond_false]
  refine ⟨_,rfl,?_⟩
  rw [hl,hX]; simp
 ·left
  rw [List.concat_eq_append] at h0
  subst h0
  simp only [List.length_append,List.length_cons,List.length_nil] at hXl
  have e0 : decide ((p.length : Int) < ((p.length + (X1' ++ [z]).length : Nat) : Int)) = true := by simp; omega
  have w1 : wr (((p.length + (X1' ++ [z]).length : Nat) : Int) - 1) = ((p.length + X1'.length : Nat) : Int) := by
   simp only [List.length_append,List.length_cons,List.length_nil]
   rw [wrI (by omega) (by omega)]; omega
  have i1 : ix l ((p.length + X1'.length : Nat) : Int) = some z := ixAt (p := p ++ X1') (q := y :: (X2 ++ q)) (by rw [hl]; simp) (by simp)
  have i2 : ix l ((p.length + (X1' ++ [z]).length : Nat) : Int) = some y := ixAt (p := p ++ (X1' ++ [z])) hl (by simp only [List.length_append])
  have s1 : l.set (((p.length + (X1' ++ [z]).length : Nat) : Int)).toNat z = p ++ X1' ++ z :: (z :: X2 ++ q) := by
   rw [setAt (p := p ++ (X1' ++ [z])) hl (by simp only [List.length_append]; omega)]
   simp
  have i3 : ix (p ++ X1' ++ z :: (z :: X2 ++ q)) ((p.length + X1'.length : Nat) : Int) = some z := ixAt rfl (by simp only [List.length_append])
  have s2 : (p ++ X1' ++ z :: (z :: X2 ++ q)).set (((p.length + X1'.length : Nat) : Int)).toNat y = p ++ X1' ++ y :: (z :: X2 ++ q) := setAt rfl (by simp only [List.length_append]; omega)
  simp only [e0,cond_true,w1,i1,i2,s1,i3,s2,Option.bind_some]
  refine ⟨_,rfl,⟨X1',z :: X2,by rw [hX]; simp,by simp,rfl⟩,?_⟩
  simp only [List.length_append,List.length_cons,List.length_nil]
  omega
def tm (l : List GCue) (i : Nat) : Int := ((l[i]?).map GCue.time).getD 0
theorem tmE {l : List GCue} {i : Nat} (h : i < l.length) : ∃ y,ix l (i : Int) = some y ∧ tm l i = y.time := ⟨l[i],ixNat (List.getElem?_eq_getElem h),by simp [tm,h]⟩
theorem tmAt {l p q : List GCue} {x : GCue} {i : Nat} (hl : l = p ++ x :: q) (hi : i = p.length) : tm l i = x.time := by
 subst hl; subst hi
 simp [tm]
theorem need_some {α : Type} {p : Prop} [Decidable p] {x : Option α} (h : p) : need p x = x := if_pos h
end Go.Proofs.YtodkhgjhodmeoaaGreat
