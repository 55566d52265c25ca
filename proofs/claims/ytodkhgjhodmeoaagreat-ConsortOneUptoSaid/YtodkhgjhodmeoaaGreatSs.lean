/-
 The stable sort of cues,part one: insertion,exchange of ranges,rotation. Plain law.
 Own work. No Go text.
-/
import Derived.Test.YtodkhgjhodmeoaaGreatV87
import Derived.Test.YtodkhgjhodmeoaaGreatLq
set_option linter.all false
namespace Go.Proofs.YtodkhgjhodmeoaaGreat
open Go Go.Am
theorem loop_mu {σ τ : Type} {body : σ → Option (σ ⊕ τ)} (Inv : σ → Prop) (μ : σ → Nat) (Post : τ → Prop)
  (hb : ∀ s,Inv s → (∃ s',body s = some (.inl s') ∧ Inv s' ∧ μ s' < μ s) ∨ ∃ r,body s = some (.inr r) ∧ Post r) :
  ∀ (n : Nat) (s : σ),Inv s → μ s < n → ∃ r,loopN body n s = some r ∧ Post r
 | 0,s,h,hm => by omega
 | n + 1,s,h,hm => by
  rcases hb s h with ⟨s',h1,h2,h3⟩ | ⟨r,h1,h2⟩
  ·obtain ⟨r,h4,h5⟩ := loop_mu Inv μ Post hb n s' h2 (by omega)
   exact ⟨r,by simp only [loopN,h1,h4],h5⟩
  ·exact ⟨r,by simp only [loopN,h1],h2⟩
theorem bind_ex {α β : Type} {x : Option α} {f : α → Option β} {P1 : α → Prop} {P : β → Prop} (h1 : ∃ r,x = some r ∧ P1 r) (h2 : ∀ r,P1 r → ∃ z,f r = some z ∧ P z) : ∃ z,x.bind f = some z ∧ P z := by
 obtain ⟨r,e,hr⟩ := h1
 subst e
 exact h2 r hr
theorem ixAt {α : Type} {l p q : List α} {x : α} {i : Int} (hl : l = p ++ x :: q) (hi : i = (p.length : Int)) : ix l i = some x := by
 subst hl; subst hi
 unfold ix
 rw [if_pos (by omega)]
 simp
theorem setAt {α : Type} {l p q : List α} {x y : α} {k : Nat} (hl : l = p ++ x :: q) (hk : k = p.length) : l.set k y = p ++ y :: q := by
 subst hl; subst hk
 simp
def cmpI (a b : Int) : Int := if a < b then -1 else if b < a then 1 else 0
theorem cmpI_lt (a b : Int) : decide (cmpI a b < 0) = decide (a < b) := by
 unfold cmpI
 split
 ·simp_all
 ·split <;> simp_all
theorem f89_eq (a b : Int) : f89 a b = some (cmpI a b) := by
 unfold f89 f141 cmpI
 simp only [ne_eq,not_true_eq_false,decide_false,Option.bind_some,cond_false]
 by_cases h : a < b
 ·simp [h]
 ·by_cases h2 : b < a <;> simp [h,h2]
theorem f88_eq (x y : GCue) : f88 x y = some (cmpI x.time y.time) := by
 unfold f88
 rw [f89_eq]
 rfl
def Dk (x y : GCue) : Prop := x.desk < y.desk ∨ (x.desk = y.desk ∧ x.event < y.event)
def Rk (x y : GCue) : Prop := x.time < y.time ∨ (x.time = y.time ∧ Dk x y)
theorem Rk.trans {x y z : GCue} (h1 : Rk x y) (h2 : Rk y z) : Rk x z := by
 unfold Rk Dk at *
 omega
theorem Rk.asymm {x y : GCue} (h1 : Rk x y) : ¬ Rk y x := by
 unfold Rk Dk at *
 omega
theorem Rk.of_ge {x y : GCue} (h : Dk x y) (ht : ¬ y.time < x.time) : Rk x y := by
 unfold Rk Dk at *
 omega
theorem Rk.of_lt {x y : GCue} (ht : y.time < x.time) : Rk y x := .inl ht
theorem wrI {n : Int} (h1 : -9223372036854775808 ≤ n) (h2 : n ≤ 9223372036854775807) : wr n = n := wr64 h1 h2
theorem ins_step (p Z T q : List GCue) (y : GCue) (hn : (p ++ Z ++ y :: T ++ q).length ≤ 4194304) (hs : Z.Pairwise Rk) (hD : ∀ z ∈ Z,Dk z y) {body : List GCue × Int → Option ((List GCue × Int) ⊕ List GCue)}
  (hb : ∀ l j,body (l,j) = (((bif (decide ((p.length : Int) < j)) then ((ix l j).bind fun y3 => (ix l (wr (j - 1))).bind fun y4 => some (decide (y3.time < y4.time))) else (some false)) : Option Bool).bind fun (b : Bool) => bif b then ((ix l (wr (j - 1))).bind fun y7 => (ix l j).bind fun y8 => (ix (l.set j.toNat y7) (wr (j - 1))).bind fun y9 => some (.inl (((l.set j.toNat y7).set (wr (j - 1)).toNat y8),(wr (j - 1))))) else (some (.inr l)))) :
  ∃ r,loopN body FUEL (p ++ Z ++ y :: T ++ q,((p.length + Z.length : Nat) : Int)) = some r ∧ ∃ Z',r = p ++ Z' ++ T ++ q ∧ Z'.Perm (Z ++ [y]) ∧ Z'.Pairwise Rk := by
 have hlen : p.length + Z.length + T.length + q.length + 1 ≤ 4194304 := by
  simp only [List.length_append,List.length_cons] at hn
  omega
 refine loop_mu (fun s => ∃ Z1 Z2,Z = Z1 ++ Z2 ∧ s.1 = p ++ Z1 ++ y :: (Z2 ++ T ++ q) ∧ s.2 = ((p.length + Z1.length : Nat) : Int) ∧ ∀ z ∈ Z2,Rk y z) (fun s => s.2.toNat) _ ?_ FUEL _ ⟨Z,[],by simp,by simp,rfl,by simp⟩ (by
  show (((p.length + Z.length : Nat) : Int)).toNat < FUEL
  unfold FUEL
  omega)
 rintro ⟨l,j⟩ ⟨Z1,Z2,hZ,hl,hj,hR⟩
 simp only at hl hj
 subst hj
 have hZl : Z.length = Z1.length + Z2.length := by rw [hZ]; simp
 rw [hb]
 rcases List.eq_nil_or_concat Z1 with h0 | ⟨Z1',z,h0⟩
 ·right
  subst h0
  have : decide ((p.length : Int) < ((p.length + ([] : List GCue).length : Nat) : Int)) = false := by simp
  simp only [this,cond_false,Option.bind_some]
  refine ⟨_,rfl,y :: Z2,by rw [hl]; simp,?_,?_⟩
  ·rw [hZ]
   simp only [List.nil_append]
   exact (List.perm_append_comm (l₁ := [y]) (l₂ := Z2))
  ·refine List.pairwise_cons.2 ⟨hR,?_⟩
   rw [hZ] at hs
   exact (List.pairwise_append.1 hs).2.1
 ·rw [List.concat_eq_append] at h0
  subst h0
  have e0 : decide ((p.length : Int) < ((p.length + (Z1' ++ [z]).length : Nat) : Int)) = true := by simp; omega
  have ew : wr (((p.length + (Z1' ++ [z]).length : Nat) : Int) - 1) = ((p.length + Z1'.length : Nat) : Int) := by
   rw [wrI (by omega) (by simp only [List.length_append,List.length_cons,List.length_nil] at hZl ⊢; omega)]
   simp only [List.length_append,List.length_cons,List.length_nil]
   omega
  have i1 : ix l (((p.length + (Z1' ++ [z]).length : Nat) : Int)) = some y := ixAt (p := p ++ (Z1' ++ [z])) hl (by simp only [List.length_append])
  have i2 : ix l ((p.length + Z1'.length : Nat) : Int) = some z := ixAt (p := p ++ Z1') (q := y :: (Z2 ++ T ++ q)) (by rw [hl]; simp) (by simp only [List.length_append])
  simp only [e0,cond_true,ew,i1,i2,Option.bind_some]
  by_cases ht : y.time < z.time
  ·left
   have e1 : l.set (((p.length + (Z1' ++ [z]).length : Nat) : Int)).toNat z = p ++ Z1' ++ z :: (z :: (Z2 ++ T ++ q)) := by
    rw [setAt (p := p ++ (Z1' ++ [z])) hl (by simp only [List.length_append]; omega)]
    simp
   have e2 : ix (p ++ Z1' ++ z :: (z :: (Z2 ++ T ++ q))) ((p.length + Z1'.length : Nat) : Int) = some z := ixAt rfl (by simp only [List.length_append])
   have e3 : (p ++ Z1' ++ z :: (z :: (Z2 ++ T ++ q))).set (((p.length + Z1'.length : Nat) : Int)).toNat y = p ++ Z1' ++ y :: (z :: (Z2 ++ T ++ q)) := setAt rfl (by simp only [List.length_append]; omega)
   simp only [ht,decide_true,cond_true,e1,e2,e3,Option.bind_some]
   refine ⟨_,rfl,⟨Z1',z :: Z2,by rw [hZ]; simp,by simp,rfl,?_⟩,?_⟩
   ·intro w hw
    rcases List.mem_cons.1 hw with rfl | hw
    ·exact .of_lt ht
    ·exact hR w hw
   ·simp only [List.length_append,List.length_cons,List.length_nil]
    omega
  ·right
   simp only [ht,decide_false,cond_false]
   refine ⟨_,rfl,Z1' ++ [z] ++ y :: Z2,by rw [hl]; simp,?_,?_⟩
   ·rw [hZ]
    rw [List.append_assoc (Z1' ++ [z])]
    exact List.Perm.append_left _ (List.perm_append_comm (l₁ := [y]) (l₂ := Z2))
   ·rw [hZ] at hs
    obtain ⟨s1,s2,s3⟩ := List.pairwise_append.1 hs
    have hzy : Rk z y := .of_ge (hD z (by rw [hZ]; simp)) ht
    refine List.pairwise_append.2 ⟨s1,List.pairwise_cons.2 ⟨hR,s2⟩,fun a ha b hb => ?_⟩
    have hay : Rk a y := by
     rcases List.mem_append.1 ha with h | h
     ·obtain ⟨_,_,s4⟩ := List.pairwise_append.1 s1
      exact (s4 a h z (by simp)).trans hzy
     ·have : a = z := by simpa using h
      rw [this]; exact hzy
    rcases List.mem_cons.1 hb with rfl | hb
    ·exact hay
    ·exact s3 a ha b hb
theorem ins_law (p X q : List GCue) (hn : (p ++ X ++ q).length ≤ 4194304) (hD : X.Pairwise Dk) :
  ∃ r,f182 (p ++ X ++ q) (p.length : Int) ((p.length + X.length : Nat) : Int) = some r ∧ ∃ Z,r = p ++ Z ++ q ∧ Z.Perm X ∧ Z.Pairwise Rk := by
 have hlen : p.length + X.length + q.length ≤ 4194304 := by
  simp only [List.length_append] at hn
  omega
 unfold f182
 refine bind_ex (P1 := fun r => ∃ Z,r = p ++ Z ++ q ∧ Z.Perm X ∧ Z.Pairwise Rk) ?_ fun r h => ⟨r,rfl,h⟩
 refine loop_mu (fun s => (X = [] ∧ s = (p ++ q,(p.length : Int) + 1)) ∨ ∃ W Z T,X = W ++ T ∧ Z.Perm W ∧ Z.Pairwise Rk ∧ s.1 = p ++ Z ++ T ++ q ∧ s.2 = ((p.length + Z.length : Nat) : Int)) (fun s => 4194305 - s.2.toNat) _ ?_ FUEL _ ?_ (by unfold FUEL; omega)
 ·rintro ⟨l,i⟩ (⟨h0,hs⟩ | ⟨W,Z,T,hX,hp,hs,hl,hi⟩)
  ·cases hs
   right
   subst h0
   have : decide ((p.length : Int) + 1 < ((p.length + ([] : List GCue).length : Nat) : Int)) = false := by simp; omega
   simp only [this,cond_false]
   exact ⟨_,rfl,[],by simp,.refl _,.nil⟩
  ·simp only at hl hi
   subst hi
   have hXl : X.length = Z.length + T.length := by rw [hX,List.length_append,hp.length_eq]
   cases T with
   | nil =>
    right
    have : decide (((p.length + Z.length : Nat) : Int) < ((p.length + X.length : Nat) : Int)) = false := by simp [hXl]
    simp only [this,cond_false]
    refine ⟨_,rfl,Z,by rw [hl]; simp,?_,hs⟩
    rw [hX]; simpa using hp
   | cons y T =>
    left
    have e0 : decide (((p.length + Z.length : Nat) : Int) < ((p.length + X.length : Nat) : Int)) = true := by simp [hXl]; omega
    simp only [e0,cond_true]
    rw [hX] at hD
    obtain ⟨d1,d2,d3⟩ := List.pairwise_append.1 hD
    obtain ⟨r,h1,Z',h2,h3,h4⟩ := ins_step p Z T q y (by rw [hX] at hn; simp only [List.length_append,List.length_cons] at hn ⊢; have := hp.length_eq; omega) hs (fun z hz => d3 z (hp.mem_iff.1 hz) y (by simp))
     (body := fun ((l2_0,l2_9) : (List GCue × Int)) => ((bif (decide ((p.length : Int) < l2_9)) then ((ix l2_0 l2_9).bind fun y3 => (ix l2_0 (wr (l2_9 - 1))).bind fun y4 => (f88 y3 y4).bind fun r5 => some (decide (r5 < 0))) else (some false)) : Option Bool).bind fun (j3_34 : Bool) => bif j3_34 then ((ix l2_0 (wr (l2_9 - 1))).bind fun y7 => (ix l2_0 l2_9).bind fun y8 => (ix (l2_0.set l2_9.toNat y7) (wr (l2_9 - 1))).bind fun y9 => some (.inl (((l2_0.set l2_9.toNat y7).set (wr (l2_9 - 1)).toNat y8),(wr (l2_9 - 1))))) else (some (.inr l2_0)))
     (fun l j => by simp only [f88_eq,Option.bind_some,cmpI_lt])
    rw [hl,h1]
    have ew : wr (((p.length + Z.length : Nat) : Int) + 1) = ((p.length + Z'.length : Nat) : Int) := by
     rw [wrI (by omega) (by omega),h3.length_eq]
     simp only [List.length_append,List.length_cons,List.length_nil]
     omega
    simp only [Option.bind_some,ew]
    refine ⟨_,rfl,.inr ⟨W ++ [y],Z',T,by rw [hX]; simp,h3.trans (hp.append_right _),h4,h2,rfl⟩,?_⟩
    have h5 := h3.length_eq
    simp only [List.length_append,List.length_cons,List.length_nil] at h5 hXl
    simp only [Int.toNat_natCast]
    omega
 ·cases X with
  | nil =>
   left
   refine ⟨rfl,?_⟩
   simp only [List.append_nil]
   rw [wrI (by omega) (by omega)]
  | cons x X =>
   right
   refine ⟨[x],[x],X,by simp,.refl _,List.pairwise_singleton _ _,by simp,?_⟩
   show wr ((p.length : Int) + 1) = _
   rw [wrI (by omega) (by omega)]
   simp
theorem swap_law (p U M V q : List GCue) (hn : (p ++ U ++ M ++ V ++ q).length ≤ 4194304) (hUV : U.length = V.length) :
  f243 (p ++ U ++ M ++ V ++ q) (p.length : Int) ((p.length + U.length + M.length : Nat) : Int) (U.length : Int) = some (p ++ V ++ M ++ U ++ q) := by
 have hlen : p.length + U.length + M.length + V.length + q.length ≤ 4194304 := by
  simp only [List.length_append] at hn
  omega
 suffices h : ∃ r,f243 (p ++ U ++ M ++ V ++ q) (p.length : Int) ((p.length + U.length + M.length : Nat) : Int) (U.length : Int) = some r ∧ r = p ++ V ++ M ++ U ++ q by
  obtain ⟨r,h1,h2⟩ := h
  rw [h1,h2]
 unfold f243
 refine bind_ex (P1 := fun r => r = p ++ V ++ M ++ U ++ q) ?_ fun r h => ⟨r,rfl,h⟩
 refine loop_mu (fun s => ∃ U1 U2 V1 V2,U = U1 ++ U2 ∧ V = V1 ++ V2 ∧ U1.length = V1.length ∧ s.1 = p ++ V1 ++ U2 ++ M ++ U1 ++ V2 ++ q ∧ s.2 = (U1.length : Int)) (fun s => 4194305 - s.2.toNat) _ ?_ FUEL _ ⟨[],U,[],V,by simp,by simp,rfl,by simp,rfl⟩ (by unfold FUEL; omega)
 rintro ⟨l,k⟩ ⟨U1,U2,V1,V2,hU,hV,hUV1,hl,hk⟩
 simp only at hl hk
 subst hk
 have hUl : U.length = U1.length + U2.length := by rw [hU]; simp
 have hVl : V.length = V1.length + V2.length := by rw [hV]; simp
 cases U2 with
 | nil =>
  right
  have : decide ((U1.length : Int) < (U.length : Int)) = false := by simp [hUl]
  simp only [this,cond_false]
  have hV2 : V2 = [] := List.length_eq_zero_iff.1 (by simp at hUl; omega)
  subst hV2
  refine ⟨_,rfl,?_⟩
  rw [hl,hU,hV]
  simp
 | cons u U2 =>
  left
  cases V2 with
  | nil => simp at hUl hVl; omega
  | cons v V2 =>
   simp only [List.length_cons] at hUl hVl
   have e0 : decide ((U1.length : Int) < (U.length : Int)) = true := by simp; omega
   have w1 : wr (((p.length + U.length + M.length : Nat) : Int) + (U1.length : Int)) = ((p.length + U.length + M.length + U1.length : Nat) : Int) := by
    rw [wrI (by omega) (by omega)]; omega
   have w2 : wr ((p.length : Int) + (U1.length : Int)) = ((p.length + U1.length : Nat) : Int) := by
    rw [wrI (by omega) (by omega)]; omega
   have w3 : wr ((U1.length : Int) + 1) = ((U1.length + 1 : Nat) : Int) := by
    rw [wrI (by omega) (by omega)]; omega
   have i1 : ix l ((p.length + U.length + M.length + U1.length : Nat) : Int) = some v := ixAt (p := p ++ V1 ++ u :: U2 ++ M ++ U1) (q := V2 ++ q) (by rw [hl]; simp) (by simp only [List.length_append,List.length_cons]; omega)
   have i2 : ix l ((p.length + U1.length : Nat) : Int) = some u := ixAt (p := p ++ V1) (q := U2 ++ M ++ U1 ++ v :: V2 ++ q) (by rw [hl]; simp) (by simp only [List.length_append]; omega)
   have s1 : l.set (((p.length + U1.length : Nat) : Int)).toNat v = p ++ V1 ++ v :: (U2 ++ M ++ U1 ++ v :: V2 ++ q) := setAt (x := u) (by rw [hl]; simp) (by simp only [List.length_append]; omega)
   have i3 : ix (p ++ V1 ++ v :: (U2 ++ M ++ U1 ++ v :: V2 ++ q)) ((p.length + U.length + M.length + U1.length : Nat) : Int) = some v := ixAt (p := p ++ V1 ++ v :: U2 ++ M ++ U1) (q := V2 ++ q) (by simp) (by simp only [List.length_append,List.length_cons]; omega)
   have s2 : (p ++ V1 ++ v :: (U2 ++ M ++ U1 ++ v :: V2 ++ q)).set (((p.length + U.length + M.length + U1.length : Nat) : Int)).toNat u = p ++ V1 ++ v :: U2 ++ M ++ U1 ++ u :: (V2 ++ q) := setAt (x := v) (by simp) (by simp only [List.length_append,List.length_cons]; omega)
   simp only [e0,cond_true,w1,w2,w3,i1,i2,s1,i3,s2,Option.bind_some]
   refine ⟨_,rfl,⟨U1 ++ [u],U2,V1 ++ [v],V2,by rw [hU]; simp,by rw [hV]; simp,by simp [hUV1],by simp,by simp⟩,?_⟩
   simp only [Int.toNat_natCast]
   omega
theorem rot_law (p U V q : List GCue) (hn : (p ++ U ++ V ++ q).length ≤ 4194304) (hU0 : U ≠ []) (hV0 : V ≠ []) :
  f211 (p ++ U ++ V ++ q) (p.length : Int) ((p.length + U.length : Nat) : Int) ((p.length + U.length + V.length : Nat) : Int) = some (p ++ V ++ U ++ q) := by
 have hlen : p.length + U.length + V.length + q.length ≤ 4194304 := by
  simp only [List.length_append] at hn
  omega
 suffices h : ∃ r,f211 (p ++ U ++ V ++ q) (p.length : Int) ((p.length + U.length : Nat) : Int) ((p.length + U.length + V.length : Nat) : Int) = some r ∧ r = p ++ V ++ U ++ q by
  obtain ⟨r,h1,h2⟩ := h
  rw [h1,h2]
 unfold f211
 have a1 : wr (((p.length + U.length : Nat) : Int) - (p.length : Int)) = (U.length : Int) := by rw [wrI (by omega) (by omega)]; omega
 have a2 : wr (((p.length + U.length + V.length : Nat) : Int) - ((p.length + U.length : Nat) : Int)) = (V.length : Int) := by rw [wrI (by omega) (by omega)]; omega
 rw [a1,a2]
 refine bind_ex (P1 := fun r => ∃ p' U' V' q',r.1 = p' ++ U' ++ V' ++ q' ∧ p' ++ V' ++ U' ++ q' = p ++ V ++ U ++ q ∧ U'.length = V'.length ∧ p'.length + U'.length = p.length + U.length ∧ r.2 = (U'.length : Int)) ?_ ?_
 ·refine loop_mu (fun s => ∃ p' U' V' q',s.1 = p' ++ U' ++ V' ++ q' ∧ p' ++ V' ++ U' ++ q' = p ++ V ++ U ++ q ∧ 0 < U'.length ∧ 0 < V'.length ∧ p'.length + U'.length = p.length + U.length ∧ s.2.1 = (U'.length : Int) ∧ s.2.2 = (V'.length : Int))
   (fun s => s.2.1.toNat + s.2.2.toNat) _ ?_ FUEL _ ⟨p,U,V,q,rfl,rfl,List.length_pos_iff.2 hU0,List.length_pos_iff.2 hV0,rfl,rfl,rfl⟩ (by
    show ((U.length : Int)).toNat + ((V.length : Int)).toNat < FUEL
    unfold FUEL
    omega)
  rintro ⟨l,i,j⟩ ⟨p',U',V',q',hl,hF,h1,h2,h3,hi,hj⟩
  simp only at hl hi hj
  subst hi; subst hj
  have hF' := congrArg List.length hF
  simp only [List.length_append] at hF'
  have b1 : wr (((p.length + U.length : Nat) : Int) - (U'.length : Int)) = (p'.length : Int) := by rw [wrI (by omega) (by omega)]; omega
  by_cases hne : U'.length = V'.length
  ·right
   have : decide ((U'.length : Int) ≠ (V'.length : Int)) = false := by simp [hne]
   simp only [this,cond_false]
   exact ⟨_,rfl,p',U',V',q',hl,hF,hne,h3,rfl⟩
  ·left
   have e0 : decide ((U'.length : Int) ≠ (V'.length : Int)) = true := by simp; omega
   simp only [e0,cond_true,b1]
   by_cases hlt : V'.length < U'.length
   ·have e1 : decide ((V'.length : Int) < (U'.length : Int)) = true := by simp; omega
    obtain ⟨U1,U2,hUU,hU1⟩ : ∃ U1 U2,U' = U1 ++ U2 ∧ U1.length = V'.length := ⟨U'.take V'.length,U'.drop V'.length,by simp,by simp; omega⟩
    have hU' : U'.length = U1.length + U2.length := by rw [hUU]; simp
    have hsw := swap_law p' U1 U2 V' q' (by simp only [List.length_append]; omega) hU1
    have g1 : l = p' ++ U1 ++ U2 ++ V' ++ q' := by rw [hl,hUU]; simp
    have g2 : ((p.length + U.length : Nat) : Int) = ((p'.length + U1.length + U2.length : Nat) : Int) := by omega
    have g3 : (V'.length : Int) = (U1.length : Int) := by omega
    have g4 : wr ((U'.length : Int) - (U1.length : Int)) = (U2.length : Int) := by rw [wrI (by omega) (by omega)]; omega
    simp only [e1,cond_true]
    rw [g2,g3,g1,hsw]
    simp only [Option.bind_some,g4]
    unfold need
    rw [if_pos (by simp only [List.length_append]; omega)]
    refine ⟨_,rfl,⟨p' ++ V',U2,U1,q',by simp,by rw [← hF,hUU]; simp,by omega,by omega,by simp only [List.length_append]; omega,rfl,rfl⟩,?_⟩
    simp only [Int.toNat_natCast]
    omega
   ·have e1 : decide ((V'.length : Int) < (U'.length : Int)) = false := by simp; omega
    obtain ⟨V1,V2,hVV,hV2⟩ : ∃ V1 V2,V' = V1 ++ V2 ∧ V2.length = U'.length := ⟨V'.take (V'.length - U'.length),V'.drop (V'.length - U'.length),by simp,by simp; omega⟩
    have hV' : V'.length = V1.length + V2.length := by rw [hVV]; simp
    have hsw := swap_law p' U' V1 V2 q' (by simp only [List.length_append]; omega) hV2.symm
    have g1 : l = p' ++ U' ++ V1 ++ V2 ++ q' := by rw [hl,hVV]; simp
    have g2 : wr (wr (((p.length + U.length : Nat) : Int) + (V'.length : Int)) - (U'.length : Int)) = ((p'.length + U'.length + V1.length : Nat) : Int) := by
     rw [wrI (n := ((p.length + U.length : Nat) : Int) + (V'.length : Int)) (by omega) (by omega),wrI (by omega) (by omega)]; omega
    have g4 : wr ((V'.length : Int) - (U'.length : Int)) = (V1.length : Int) := by rw [wrI (by omega) (by omega)]; omega
    simp only [e1,cond_false]
    rw [g2,g1,hsw]
    simp only [Option.bind_some,g4]
    unfold need
    rw [if_pos (by simp only [List.length_append]; omega)]
    refine ⟨_,rfl,⟨p',V2,V1,U' ++ q',by simp,by rw [← hF,hVV]; simp,by omega,by omega,by omega,by simp [hV2],rfl⟩,?_⟩
    simp only [Int.toNat_natCast]
    omega
 ·rintro ⟨l,i⟩ ⟨p',U',V',q',hl,hF,h1,h3,hi⟩
  simp only at hl hi
  subst hi
  have hF' := congrArg List.length hF
  simp only [List.length_append] at hF'
  have b1 : wr (((p.length + U.length : Nat) : Int) - (U'.length : Int)) = (p'.length : Int) := by rw [wrI (by omega) (by omega)]; omega
  have hsw := swap_law p' U' [] V' q' (by simp only [List.length_append,List.length_nil]; omega) h1
  have g2 : ((p.length + U.length : Nat) : Int) = ((p'.length + U'.length + ([] : List GCue).length : Nat) : Int) := by simp; omega
  have g1 : l = p' ++ U' ++ [] ++ V' ++ q' := by rw [hl]; simp
  simp only [b1]
  rw [g2,g1,hsw]
  simp only [Option.bind_some]
  unfold need
  rw [if_pos (by simp only [List.length_append]; omega)]
  exact ⟨_,rfl,by rw [← hF]; simp⟩
end Go.Proofs.YtodkhgjhodmeoaaGreat
