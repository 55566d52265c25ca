/-
 The stable sort of cues,part three: the merge of two ranges. Plain law.
 Own work. No Go text.
-/
import Derived.Test.YtodkhgjhodmeoaaGreatSy
set_option linter.all false
namespace Go.Proofs.YtodkhgjhodmeoaaGreat
open Go Go.Am
theorem seam {X1 U V Y2 : List GCue} (hX : (X1 ++ U).Pairwise Rk) (hY : (V ++ Y2).Pairwise Rk) (hD : ∀ x ∈ X1 ++ U,∀ y ∈ V ++ Y2,Dk x y)
  (h1 : ∀ X' x Y' y,X1 = X' ++ [x] → Y2 = y :: Y' → ¬ y.time < x.time) (h2 : ∀ V' v U' u,V = V' ++ [v] → U = u :: U' → v.time < u.time) :
  ∀ s ∈ X1 ++ V,∀ t ∈ U ++ Y2,Rk s t := by
 obtain ⟨x1,x2,x3⟩ := List.pairwise_append.1 hX
 obtain ⟨y1,y2,y3⟩ := List.pairwise_append.1 hY
 intro s hs t ht
 rcases List.mem_append.1 hs with hs | hs <;> rcases List.mem_append.1 ht with ht | ht
 ·exact x3 s hs t ht
 ·rcases List.eq_nil_or_concat X1 with h0 | ⟨X',x,h0⟩
  ·rw [h0] at hs; cases hs
  ·rw [List.concat_eq_append] at h0
   cases hY2 : Y2 with
   | nil => rw [hY2] at ht; cases ht
   | cons y Y' =>
    have hxy : Rk x y := .of_ge (hD x (by rw [h0]; simp) y (by rw [hY2]; simp)) (h1 X' x Y' y h0 hY2)
    have hsx : s = x ∨ Rk s x := by
     rw [h0] at hs x1
     rcases List.mem_append.1 hs with h | h
     ·exact .inr ((List.pairwise_append.1 x1).2.2 s h x (by simp))
     ·exact .inl (by simpa using h)
    have hyt : t = y ∨ Rk y t := by
     rw [hY2] at ht y2
     rcases List.mem_cons.1 ht with h | h
     ·exact .inl h
     ·exact .inr ((List.pairwise_cons.1 y2).1 t h)
    have hsy : Rk s y := by
     rcases hsx with rfl | h
     ·exact hxy
     ·exact h.trans hxy
    rcases hyt with rfl | h
    ·exact hsy
    ·exact hsy.trans h
 ·rcases List.eq_nil_or_concat V with h0 | ⟨V',v,h0⟩
  ·rw [h0] at hs; cases hs
  ·rw [List.concat_eq_append] at h0
   cases hU : U with
   | nil => rw [hU] at ht; cases ht
   | cons u U' =>
    have hvu : Rk v u := .of_lt (h2 V' v U' u h0 hU)
    have hsv : s = v ∨ Rk s v := by
     rw [h0] at hs y1
     rcases List.mem_append.1 hs with h | h
     ·exact .inr ((List.pairwise_append.1 y1).2.2 s h v (by simp))
     ·exact .inl (by simpa using h)
    have hut : t = u ∨ Rk u t := by
     rw [hU] at ht x2
     rcases List.mem_cons.1 ht with h | h
     ·exact .inl h
     ·exact .inr ((List.pairwise_cons.1 x2).1 t h)
    have hsu : Rk s u := by
     rcases hsv with rfl | h
     ·exact hvu
     ·exact h.trans hvu
    rcases hut with rfl | h
    ·exact hsu
    ·exact hsu.trans h
 ·exact y3 s hs t ht
set_option maxHeartbeats 4000000 in
theorem symm_law : ∀ (fu : Nat) (p X Y q : List GCue),(p ++ X ++ Y ++ q).length ≤ 4194304 → X ≠ [] → Y ≠ [] → X.length + Y.length ≤ fu → X.Pairwise Rk → Y.Pairwise Rk → (∀ x ∈ X,∀ y ∈ Y,Dk x y) →
  ∃ r,f183r fu (p ++ X ++ Y ++ q) (p.length : Int) ((p.length + X.length : Nat) : Int) ((p.length + X.length + Y.length : Nat) : Int) = some r ∧ ∃ Z,r = p ++ Z ++ q ∧ Z.Perm (X ++ Y) ∧ Z.Pairwise Rk := by
 intro fu
 induction fu with
 | zero =>
  intro p X Y q hn hX0 hY0 hf hX hY hD
  have := List.length_pos_iff.2 hX0
  omega
 | succ fu ih =>
  intro p X Y q hn hX0 hY0 hf hX hY hD
  have hX1 := List.length_pos_iff.2 hX0
  have hY1 := List.length_pos_iff.2 hY0
  have hlen : p.length + X.length + Y.length + q.length ≤ 4194304 := by
   simp only [List.length_append] at hn
   omega
  have hll : (p ++ X ++ Y ++ q).length = p.length + X.length + Y.length + q.length := by simp only [List.length_append]
  generalize ha : p.length = a at hlen hll ⊢
  generalize hm : a + X.length = m at hlen hll ⊢
  generalize hb : m + Y.length = b at hlen hll ⊢
  generalize hL : p ++ X ++ Y ++ q = l at hn hll ⊢
  rw [f183r]
  have c1 : wr ((m : Int) - (a : Int)) = (X.length : Int) := by rw [wrI (by omega) (by omega)]; omega
  have c2 : wr ((b : Int) - (m : Int)) = (Y.length : Int) := by rw [wrI (by omega) (by omega)]; omega
  rw [c1,c2]
  by_cases hx1 : X.length = 1
  ·have e1 : decide ((X.length : Int) = 1) = true := by simp [hx1]
   rw [e1,cond_true]
   obtain ⟨x,rfl⟩ : ∃ x,X = [x] := List.length_eq_one_iff.1 hx1
   simp only [List.length_cons,List.length_nil] at hm
   refine bind_ex (bsearch (fun c => decide (tm l c < x.time)) m b (by omega) (by omega) (fun i j h1 h2 h3 => ?_) (fun i j h => ?_)) ?_
   ·have e2 : decide ((i : Int) < (j : Int)) = true := by simp; omega
    obtain ⟨y,hy1,hy2⟩ := tmE (l := l) (i := (i + j) / 2) (by omega)
    have i2 : ix l (a : Int) = some x := ixAt (p := p) (q := Y ++ q) (by rw [← hL]; simp) (by rw [ha])
    simp only [e2,cond_true,midI (i := i) (j := j) (by omega) (by omega),hy1,i2,f88_eq,Option.bind_some,cmpI_lt,hy2]
    have w : wr ((((i + j) / 2 : Nat) : Int) + 1) = (((i + j) / 2 + 1 : Nat) : Int) := by rw [wrI (by omega) (by omega)]; omega
    rw [w]
   ·have e2 : decide ((i : Int) < (j : Int)) = false := by simp; omega
    simp only [e2,cond_false]
   ·rintro r ⟨k,rfl,k1,k2,k3,k4⟩
    obtain ⟨V,Y2,hVY,hV⟩ : ∃ V Y2,Y = V ++ Y2 ∧ V.length = k - m := ⟨Y.take (k - m),Y.drop (k - m),by simp,by simp; omega⟩
    have hLL : l = p ++ x :: V ++ (Y2 ++ q) := by rw [← hL,hVY]; simp
    have wk : wr ((k : Int) - 1) = ((p.length + V.length : Nat) : Int) := by rw [wrI (by omega) (by omega)]; omega
    refine bind_ex (bub_right p V (Y2 ++ q) x _ _ (by rw [hLL,ha]) wk (by rw [← hLL]; exact hn) (fun l k => rfl)) ?_
    rintro r rfl
    refine ⟨_,rfl,V ++ x :: Y2,by simp,?_,?_⟩
    ·rw [hVY]
     show (V ++ ([x] ++ Y2)).Perm ([x] ++ (V ++ Y2))
     rw [← List.append_assoc,← List.append_assoc]
     exact List.Perm.append_right _ List.perm_append_comm
    ·have hs := seam (X1 := []) (U := [x]) (V := V) (Y2 := Y2) (by simpa using hX) (by rw [← hVY]; exact hY) (by rw [← hVY]; simpa using hD)
      (fun X' x' Y' y' h _ => by simp at h) (fun V' v U' u h1 h2 => by
       injection h2 with h2 h3
       subst h2
       have hk : m < k := by
        rw [h1] at hV
        simp only [List.length_append,List.length_cons,List.length_nil] at hV
        omega
       have := k3 hk
       rw [tmAt (p := p ++ x :: V') (q := Y2 ++ q) (x := v) (by rw [hLL,h1]; simp) (by rw [h1] at hV; simp only [List.length_append,List.length_cons,List.length_nil] at hV ⊢; omega)] at this
       simpa using this)
     rw [hVY] at hY
     obtain ⟨y1,y2,y3⟩ := List.pairwise_append.1 hY
     have hxY : ∀ y ∈ Y2,Rk x y := by
      intro y hy
      cases hY2 : Y2 with
      | nil => rw [hY2] at hy; cases hy
      | cons y' Y' =>
       have hkb : k < b := by
        rw [hVY,hY2] at hb
        simp only [List.length_append,List.length_cons] at hb
        omega
       have h4 := k4 hkb
       rw [tmAt (p := p ++ x :: V) (q := Y' ++ q) (x := y') (by rw [hLL,hY2]; simp) (by simp only [List.length_append,List.length_cons]; omega)] at h4
       have hxy' : Rk x y' := .of_ge (hD x (by simp) y' (by rw [hVY,hY2]; simp)) (by simpa using h4)
       rw [hY2] at hy y2
       rcases List.mem_cons.1 hy with h | h
       ·rw [h]; exact hxy'
       ·exact hxy'.trans ((List.pairwise_cons.1 y2).1 y h)
     refine List.pairwise_append.2 ⟨y1,List.pairwise_cons.2 ⟨hxY,y2⟩,fun v hv w hw => ?_⟩
     exact hs v (by simpa using hv) w (by simpa using hw)
  ·have e1 : decide ((X.length : Int) = 1) = false := by simp; omega
   rw [e1,cond_false]
   by_cases hy1 : Y.length = 1
   ·have e1 : decide ((Y.length : Int) = 1) = true := by simp [hy1]
    rw [e1,cond_true]
    obtain ⟨y,rfl⟩ : ∃ y,Y = [y] := List.length_eq_one_iff.1 hy1
    simp only [List.length_cons,List.length_nil] at hb
    refine bind_ex (bsearch (fun c => !decide (y.time < tm l c)) a m (by omega) (by omega) (fun i j h1 h2 h3 => ?_) (fun i j h => ?_)) ?_
    ·have e2 : decide ((i : Int) < (j : Int)) = true := by simp; omega
     obtain ⟨z,hz1,hz2⟩ := tmE (l := l) (i := (i + j) / 2) (by omega)
     have i2 : ix l (m : Int) = some y := ixAt (p := p ++ X) (q := q) (by rw [← hL]; simp) (by simp only [List.length_append]; omega)
     simp only [e2,cond_true,midI (i := i) (j := j) (by omega) (by omega),hz1,i2,f88_eq,Option.bind_some,cmpI_lt,hz2]
     have w : wr ((((i + j) / 2 : Nat) : Int) + 1) = (((i + j) / 2 + 1 : Nat) : Int) := by rw [wrI (by omega) (by omega)]; omega
     rw [w]
    ·have e2 : decide ((i : Int) < (j : Int)) = false := by simp; omega
     simp only [e2,cond_false]
    ·rintro r ⟨k,rfl,k1,k2,k3,k4⟩
     obtain ⟨X1,U,hXU,hX1'⟩ : ∃ X1 U,X = X1 ++ U ∧ X1.length = k - a := ⟨X.take (k - a),X.drop (k - a),by simp,by simp; omega⟩
     have hXl : X.length = X1.length + U.length := by rw [hXU]; simp
     have hLL : l = p ++ X1 ++ U ++ y :: q := by rw [← hL,hXU]; simp
     refine bind_ex (bub_left (p ++ X1) U q y _ _ (by rw [hLL]; simp only [List.length_append]; rw [show p.length + X1.length + U.length = m by omega]) (by simp only [List.length_append]; omega) (by rw [← hLL]; exact hn) (fun l k => rfl)) ?_
     rintro r rfl
     refine ⟨_,rfl,X1 ++ y :: U,by simp,?_,?_⟩
     ·rw [hXU]
      show (X1 ++ ([y] ++ U)).Perm (X1 ++ U ++ [y])
      rw [List.append_assoc X1 U]
      exact List.Perm.append_left _ List.perm_append_comm
     ·rw [hXU] at hX
      obtain ⟨x1,x2,x3⟩ := List.pairwise_append.1 hX
      have hXy : ∀ x ∈ X1,Rk x y := by
       intro x hx
       rcases List.eq_nil_or_concat X1 with h0 | ⟨X',x',h0⟩
       ·rw [h0] at hx; cases hx
       ·rw [List.concat_eq_append] at h0
        have hak : a < k := by
         rw [h0] at hX1'
         simp only [List.length_append,List.length_cons,List.length_nil] at hX1'
         omega
        have h4 := k3 hak
        rw [tmAt (p := p ++ X') (q := U ++ y :: q) (x := x') (by rw [hLL,h0]; simp) (by rw [h0] at hX1'; simp only [List.length_append,List.length_cons,List.length_nil] at hX1' ⊢; omega)] at h4
        have hxy' : Rk x' y := .of_ge (hD x' (by rw [hXU,h0]; simp) y (by simp)) (by simpa using h4)
        rw [h0] at hx x1
        rcases List.mem_append.1 hx with h | h
        ·exact ((List.pairwise_append.1 x1).2.2 x h x' (by simp)).trans hxy'
        ·have : x = x' := by simpa using h
         rw [this]; exact hxy'
      have hyU : ∀ u ∈ U,Rk y u := by
       intro u hu
       cases hU : U with
       | nil => rw [hU] at hu; cases hu
       | cons u' U' =>
        have hkm : k < m := by
         rw [hU] at hXl
         simp only [List.length_cons] at hXl
         omega
        have h4 := k4 hkm
        rw [tmAt (p := p ++ X1) (q := U' ++ y :: q) (x := u') (by rw [hLL,hU]; simp) (by simp only [List.length_append]; omega)] at h4
        have hyu : Rk y u' := .of_lt (by simpa using h4)
        rw [hU] at hu x2
        rcases List.mem_cons.1 hu with h | h
        ·rw [h]; exact hyu
        ·exact hyu.trans ((List.pairwise_cons.1 x2).1 u h)
      refine List.pairwise_append.2 ⟨x1,List.pairwise_cons.2 ⟨hyU,x2⟩,fun v hv w hw => ?_⟩
      rcases List.mem_cons.1 hw with rfl | hw
      ·exact hXy v hv
      ·exact x3 v hv w hw
   ·have e1 : decide ((Y.length : Int) = 1) = false := by simp; omega
    rw [e1,cond_false]
    generalize hmid : (a + b) / 2 = mid
    have wmid : wr (shrI (IntKind.wrap .u64 (wr ((a : Int) + (b : Int)))) 1) = (mid : Int) := by rw [midI (by omega) (by omega),hmid]
    have wn : wr ((mid : Int) + (m : Int)) = ((mid + m : Nat) : Int) := by rw [wrI (by omega) (by omega)]; omega
    generalize hN : mid + m = n at wn
    have wp : wr ((n : Int) - 1) = ((n - 1 : Nat) : Int) := by rw [wrI (by omega) (by omega)]; omega
    simp only [wmid,wn,wp]
    refine bind_ex (P1 := fun r => ∃ lo hi : Nat,r = ((lo : Int),(hi : Int)) ∧ a ≤ lo ∧ lo ≤ hi ∧ hi ≤ m ∧ (∀ c,lo ≤ c → c < hi → c + m + 1 ≤ n ∧ n ≤ b + c) ∧ (lo = a ∨ lo + b = n) ∧ (hi = m ∨ hi = mid) ∧ hi + m ≤ n ∧ n ≤ b + lo) ?_ ?_
    ·by_cases hmm : mid < m
     ·have e3 : decide ((mid : Int) < (m : Int)) = true := by simp; omega
      rw [e3,cond_true]
      refine ⟨_,rfl,n - b,mid,?_,by omega,by omega,by omega,fun c h1 h2 => by omega,.inr (by omega),.inr rfl,by omega,by omega⟩
      rw [wrI (by omega) (by omega)]
      congr 1
      omega
     ·have e3 : decide ((mid : Int) < (m : Int)) = false := by simp; omega
      rw [e3,cond_false]
      exact ⟨_,rfl,a,m,rfl,Nat.le_refl _,by omega,Nat.le_refl _,fun c h1 h2 => by omega,.inl rfl,.inl rfl,by omega,by omega⟩
    rintro r ⟨lo,hi,rfl,l1,l2,l3,l4,l5,l6,l7,l8⟩
    refine bind_ex (bsearch (fun c => !decide (tm l (n - 1 - c) < tm l c)) lo hi (by omega) l2 (fun i j h1 h2 h3 => ?_) (fun i j h => ?_)) ?_
    ·have e2 : decide ((i : Int) < (j : Int)) = true := by simp; omega
     have hc := l4 ((i + j) / 2) (by omega) (by omega)
     obtain ⟨z,hz1,hz2⟩ := tmE (l := l) (i := (i + j) / 2) (by omega)
     obtain ⟨z',hz1',hz2'⟩ := tmE (l := l) (i := n - 1 - (i + j) / 2) (by omega)
     have w0 : wr (((n - 1 : Nat) : Int) - (((i + j) / 2 : Nat) : Int)) = ((n - 1 - (i + j) / 2 : Nat) : Int) := by rw [wrI (by omega) (by omega)]; omega
     have w : wr ((((i + j) / 2 : Nat) : Int) + 1) = (((i + j) / 2 + 1 : Nat) : Int) := by rw [wrI (by omega) (by omega)]; omega
     simp only [e2,cond_true,midI (i := i) (j := j) (by omega) (by omega),w0,w,hz1,hz1',f88_eq,Option.bind_some,cmpI_lt,hz2,hz2']
    ·have e2 : decide ((i : Int) < (j : Int)) = false := by simp; omega
     simp only [e2,cond_false]
    rintro r ⟨k,rfl,k1,k2,k3,k4⟩
    have we : wr ((n : Int) - (k : Int)) = ((n - k : Nat) : Int) := by rw [wrI (by omega) (by omega)]; omega
    have hnk : m ≤ n - k ∧ n - k ≤ b := by omega
    simp only [we]
    obtain ⟨X1,U,hXU,hX1'⟩ : ∃ X1 U,X = X1 ++ U ∧ X1.length = k - a := ⟨X.take (k - a),X.drop (k - a),by simp,by simp; omega⟩
    obtain ⟨V,Y2,hVY,hV⟩ : ∃ V Y2,Y = V ++ Y2 ∧ V.length = n - k - m := ⟨Y.take (n - k - m),Y.drop (n - k - m),by simp,by simp; omega⟩
    have hXl : X.length = X1.length + U.length := by rw [hXU]; simp
    have hYl : Y.length = V.length + Y2.length := by rw [hVY]; simp
    have hLL : l = p ++ X1 ++ U ++ V ++ (Y2 ++ q) := by rw [← hL,hXU,hVY]; simp
    rw [hXU] at hX
    rw [hVY] at hY
    have hD' := hD
    rw [hXU,hVY] at hD'
    have hsel := seam hX hY hD' (fun X' x Y' y h1 h2 => by
      have q1 : X1.length = X'.length + 1 := by rw [h1]; simp
      have q2 : Y2.length = Y'.length + 1 := by rw [h2]; simp
      have hlk : lo < k := by
       rcases l5 with l5 | l5 <;> omega
      have h4 := k3 hlk
      rw [tmAt (i := k - 1) (p := p ++ X') (q := U ++ V ++ (Y2 ++ q)) (x := x) (by rw [hLL,h1]; simp) (by simp only [List.length_append]; omega),
       tmAt (i := n - 1 - (k - 1)) (p := p ++ X1 ++ U ++ V) (q := Y' ++ q) (x := y) (by rw [hLL,h2]; simp) (by simp only [List.length_append]; omega)] at h4
      simpa using h4)
     (fun V' v U' u h1 h2 => by
      have q1 : V.length = V'.length + 1 := by rw [h1]; simp
      have q2 : U.length = U'.length + 1 := by rw [h2]; simp
      have hkh : k < hi := by
       rcases l6 with l6 | l6 <;> omega
      have h4 := k4 hkh
      rw [tmAt (i := k) (p := p ++ X1) (q := U' ++ V ++ (Y2 ++ q)) (x := u) (by rw [hLL,h2]; simp) (by simp only [List.length_append]; omega),
       tmAt (i := n - 1 - k) (p := p ++ X1 ++ U ++ V') (q := Y2 ++ q) (x := v) (by rw [hLL,h1]; simp) (by simp only [List.length_append]; omega)] at h4
      simpa using h4)
    obtain ⟨x1,x2,x3⟩ := List.pairwise_append.1 hX
    obtain ⟨y1,y2,y3⟩ := List.pairwise_append.1 hY
    refine bind_ex (P1 := fun r => r = p ++ X1 ++ V ++ U ++ (Y2 ++ q)) ?_ ?_
    ·by_cases h1 : k < m
     ·have e4 : decide ((k : Int) < (m : Int)) = true := by simp; omega
      simp only [e4,cond_true,Option.bind_some]
      by_cases h2 : m < n - k
      ·have e5 : decide ((m : Int) < ((n - k : Nat) : Int)) = true := by simp; omega
       simp only [e5,cond_true]
       have hr := rot_law (p ++ X1) U V (Y2 ++ q) (by rw [← hLL]; exact hn) (List.length_pos_iff.1 (by omega)) (List.length_pos_iff.1 (by omega))
       simp only [List.length_append] at hr
       rw [show p.length + X1.length + U.length = m by omega,show p.length + X1.length = k by omega,show m + V.length = n - k by omega,← hLL] at hr
       rw [hr]
       simp only [Option.bind_some]
       rw [need_some (by rw [hLL]; simp only [List.length_append]; omega)]
       exact ⟨_,rfl,rfl⟩
      ·have e5 : decide ((m : Int) < ((n - k : Nat) : Int)) = false := by simp; omega
       simp only [e5,cond_false]
       have hV0 : V = [] := List.length_eq_zero_iff.1 (by omega)
       refine ⟨_,rfl,?_⟩
       rw [hLL,hV0]; simp
     ·have e4 : decide ((k : Int) < (m : Int)) = false := by simp; omega
      simp only [e4,cond_false,Option.bind_some]
      have hU0 : U = [] := List.length_eq_zero_iff.1 (by omega)
      refine ⟨_,rfl,?_⟩
      rw [hLL,hU0]; simp
    rintro r rfl
    refine bind_ex (P1 := fun r => ∃ Z1,r = p ++ Z1 ++ U ++ (Y2 ++ q) ∧ Z1.Perm (X1 ++ V) ∧ Z1.Pairwise Rk) ?_ ?_
    ·by_cases h1 : a < k
     ·have e4 : decide ((a : Int) < (k : Int)) = true := by simp; omega
      simp only [e4,cond_true,Option.bind_some]
      by_cases h2 : k < mid
      ·have e5 : decide ((k : Int) < (mid : Int)) = true := by simp; omega
       simp only [e5,cond_true]
       obtain ⟨r,hr,Z,z1,z2,z3⟩ := ih p X1 V (U ++ (Y2 ++ q)) (by simp only [List.length_append]; omega) (List.length_pos_iff.1 (by omega)) (List.length_pos_iff.1 (by omega)) (by omega) x1 y1 (fun x hx y hy => hD' x (by simp [hx]) y (by simp [hy]))
       rw [show p.length + X1.length + V.length = mid by omega,show p.length + X1.length = k by omega,ha,← List.append_assoc _ U] at hr
       rw [hr]
       simp only [Option.bind_some]
       have zl := z2.length_eq
       rw [need_some (by rw [z1]; simp only [List.length_append] at zl ⊢; omega)]
       exact ⟨_,rfl,Z,by rw [z1]; simp,z2,z3⟩
      ·have e5 : decide ((k : Int) < (mid : Int)) = false := by simp; omega
       simp only [e5,cond_false]
       have hV0 : V = [] := List.length_eq_zero_iff.1 (by omega)
       exact ⟨_,rfl,X1,by rw [hV0]; simp,by rw [hV0]; simp,x1⟩
     ·have e4 : decide ((a : Int) < (k : Int)) = false := by simp; omega
      simp only [e4,cond_false,Option.bind_some]
      have hX0 : X1 = [] := List.length_eq_zero_iff.1 (by omega)
      exact ⟨_,rfl,V,by rw [hX0]; simp,by rw [hX0]; simp,y1⟩
    rintro r ⟨Z1,rfl,z1,z2⟩
    have zl := z1.length_eq
    simp only [List.length_append] at zl
    have fin : ∀ Z2 : List GCue,Z2.Perm (U ++ Y2) → Z2.Pairwise Rk → ∃ Z,p ++ Z1 ++ Z2 ++ q = p ++ Z ++ q ∧ Z.Perm (X ++ Y) ∧ Z.Pairwise Rk := by
     intro Z2 w1 w2
     refine ⟨Z1 ++ Z2,by simp,?_,List.pairwise_append.2 ⟨z2,w2,fun s hs t ht => hsel s (z1.mem_iff.1 hs) t (w1.mem_iff.1 ht)⟩⟩
     refine (z1.append w1).trans ?_
     rw [hXU,hVY,List.append_assoc,List.append_assoc]
     refine List.Perm.append_left _ ?_
     rw [← List.append_assoc,← List.append_assoc]
     exact List.Perm.append_right _ List.perm_append_comm
    by_cases h1 : mid < n - k
    ·have e4 : decide ((mid : Int) < ((n - k : Nat) : Int)) = true := by simp; omega
     simp only [e4,cond_true,Option.bind_some]
     by_cases h2 : n - k < b
     ·have e5 : decide (((n - k : Nat) : Int) < (b : Int)) = true := by simp; omega
      simp only [e5,cond_true]
      obtain ⟨r,hr,Z,w1,w2,w3⟩ := ih (p ++ Z1) U Y2 q (by simp only [List.length_append]; omega) (List.length_pos_iff.1 (by omega)) (List.length_pos_iff.1 (by omega)) (by omega) x2 y2 (fun x hx y hy => hD' x (by simp [hx]) y (by simp [hy]))
      simp only [List.length_append] at hr
      rw [show p.length + Z1.length + U.length = n - k by omega,show p.length + Z1.length = mid by omega,show n - k + Y2.length = b by omega,List.append_assoc _ Y2] at hr
      rw [hr]
      simp only [Option.bind_some]
      have wl := w2.length_eq
      rw [need_some (by rw [w1]; simp only [List.length_append] at wl ⊢; omega)]
      refine ⟨_,rfl,?_⟩
      rw [w1]
      exact fin Z w2 w3
     ·have e5 : decide (((n - k : Nat) : Int) < (b : Int)) = false := by simp; omega
      simp only [e5,cond_false]
      have hY20 : Y2 = [] := List.length_eq_zero_iff.1 (by omega)
      refine ⟨_,rfl,?_⟩
      have := fin U (by rw [hY20]; simp) x2
      rw [hY20]
      simpa using this
    ·have e4 : decide ((mid : Int) < ((n - k : Nat) : Int)) = false := by simp; omega
     simp only [e4,cond_false,Option.bind_some]
     have hU0 : U = [] := List.length_eq_zero_iff.1 (by omega)
     refine ⟨_,rfl,?_⟩
     have := fin Y2 (by rw [hU0]; simp) y2
     rw [hU0]
     simpa using this
end Go.Proofs.YtodkhgjhodmeoaaGreat
