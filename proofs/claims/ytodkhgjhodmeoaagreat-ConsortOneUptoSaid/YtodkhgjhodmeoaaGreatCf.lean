/-
 Plain laws of ConsortChecks,part f: the program and the reference choose the same signs.
 Own work. No Go text.
-/
import Derived.Test.YtodkhgjhodmeoaaGreatCe
set_option linter.all false
namespace Go.Proofs.YtodkhgjhodmeoaaGreat
open Go Go.Am
section
variable {L : List Int} {n : Nat} {v : Int} {R : List Int}
theorem mid_ix (h : L.length = n) : ix (L ++ v :: R) (n : Int) = some v := by
 refine ixNat ?_
 rw [List.getElem?_append_right (by omega),h]; simp
theorem mid_set (h : L.length = n) (w : Int) : (L ++ v :: R).set n w = L ++ w :: R := by
 subst h
 simp
theorem low_ix (h : L.length = n) {t : Nat} (h0 : 0 < t) (ht : t ≤ n) : ix (L ++ v :: R) ((n - t : Nat) : Int) = some (atL L (n - t)) := by
 refine ixNat ?_
 rw [List.getElem?_append_left (by omega)]
 have : L[n - t]? = some (L[n - t]'(by omega)) := List.getElem?_eq_getElem (by omega)
 rw [this]; simp [atL,this]
end
theorem low_bound {k : Nat} {t : Nat} (h0 : 0 < t) : -1 ≤ atL (Fl k) (k + 1 - t) ∧ atL (Fl k) (k + 1 - t) ≤ k := by
 by_cases h : k + 1 - t ≤ k
 ·rw [Fl_at k _ h]
  have := V_le (k + 1 - t)
  omega
 ·omega
theorem step_bound {k : Nat} {v : Int} {y : GSign} (hy : 0 < tk y) (h : -1 ≤ v ∧ v ≤ k + 1) : -1 ≤ stepV (Fl k) (k + 1) v y ∧ stepV (Fl k) (k + 1) v y ≤ k + 1 := by
 unfold stepV
 have := low_bound (k := k) hy
 split <;> omega
theorem table_loop {body : List Int × Int → Option ((List Int × Int) ⊕ List Int)} (a : Nat) (ha : a ≤ 4608)
  (hb : ∀ k,k < a → body (Fl k ++ List.replicate (a - k) 0,((k + 1 : Nat) : Int)) = some (.inl (Fl k ++ nextV (Fl k) :: List.replicate (a - k - 1) 0,((k + 2 : Nat) : Int)))) (he : body (Fl a,((a + 1 : Nat) : Int)) = some (.inr (Fl a))) :
  loopN body FUEL (List.replicate (a + 1) 0,1) = some (Fl a) := by
 refine loop_all (fun k => (Fl k ++ List.replicate (a - k) 0,((k + 1 : Nat) : Int))) a (by omega) ?_ ?_ ?_
 ·rfl
 ·intro k hk
  rw [hb k hk]
  have : a - k - 1 = a - (k + 1) := by omega
  rw [this]
  simp only [Fl]
  rw [List.append_assoc]; rfl
 ·have h0 : a - a = 0 := by omega
  simp only [h0,List.replicate_zero,List.append_nil]
  exact he
theorem table_round {body : List Int × Int → Option ((List Int × Int) ⊕ List Int)} (k : Nat) (R : List Int)
  (hb : ∀ (v : Int) (j : Nat) y,signsL[j]? = some y → -1 ≤ v → v ≤ k + 1 → body (Fl k ++ v :: R,(j : Int)) = some (.inl (Fl k ++ stepV (Fl k) (k + 1) v y :: R,wr ((j : Int) + 1)))) (he : ∀ v,body (Fl k ++ v :: R,(signsL.length : Int)) = some (.inr (Fl k ++ v :: R))) :
  loopN body FUEL (Fl k ++ (-1) :: R,0) = some (Fl k ++ nextV (Fl k) :: R) := by
 have h := loop_fold (body := body) (fun (v : Int) j => (Fl k ++ v :: R,j)) (fun _ v y => (.inl (stepV (Fl k) (k + 1) v y) : Int ⊕ List Int)) (fun v => Fl k ++ v :: R) signsL (fun _ v => -1 ≤ v ∧ v ≤ k + 1) (-1) (small_fuel small_signs) (by omega)
  (fun j v y hy hv => ⟨by rw [hb v j y hy hv.1 hv.2,wrLen small_signs hy]; rfl,fun a' ha => by cases ha; exact step_bound (tk_pos y (List.mem_of_getElem? hy)).1 hv⟩) (fun v _ => he v)
 rw [h,foldE_inl (stepV (Fl k) (k + 1))]
 unfold nextV
 rw [Fl_len]
theorem prog_cell (k : Nat) (hk : k < 4608) (R : List Int) (v : Int) (y : GSign) (hy : y ∈ signsL) (hv : -1 ≤ v ∧ v ≤ k + 1) (w : Int) :
  (((bif (decide (0 ≤ (wr (((k + 1 : Nat) : Int) - tickS y)))) then ((ix (Fl k ++ v :: R) (wr (((k + 1 : Nat) : Int) - tickS y))).bind fun y12 => bif (decide (0 ≤ y12)) then ((ix (Fl k ++ v :: R) ((k + 1 : Nat) : Int)).bind fun y14 => bif (decide (y14 < 0)) then (some true) else (some (decide ((wr (y12 + 1)) < y14)))) else (some false)) else (some false)) : Option Bool).bind fun (j5_67 : Bool) => bif j5_67 then ((ix (Fl k ++ v :: R) (wr (((k + 1 : Nat) : Int) - tickS y))).bind fun y17 => (ix (Fl k ++ v :: R) ((k + 1 : Nat) : Int)).bind fun y18 => some ((Fl k ++ v :: R).set (k + 1) (wr (y17 + 1)))) else (some (Fl k ++ v :: R))) = some (Fl k ++ stepV (Fl k) (k + 1) v y :: R) := by
 obtain ⟨t0,t1,t2⟩ := tk_pos y hy
 have hw : wr (((k + 1 : Nat) : Int) - tickS y) = ((k + 1 : Nat) : Int) - (tk y : Int) := by rw [t2,wr64 (by omega) (by omega)]
 rw [hw,mid_ix (Fl_len k)]
 simp only [mid_set (Fl_len k)]
 unfold stepV
 by_cases ht : tk y ≤ k + 1
 ·have d1 : decide (0 ≤ ((k + 1 : Nat) : Int) - (tk y : Int)) = true := decide_eq_true (by omega)
  have e1 : ((k + 1 : Nat) : Int) - (tk y : Int) = ((k + 1 - tk y : Nat) : Int) := by omega
  have hb := low_bound (k := k) t0
  have hw1 : wr (atL (Fl k) (k + 1 - tk y) + 1) = atL (Fl k) (k + 1 - tk y) + 1 := wr64 (by omega) (by omega)
  rw [d1,e1,low_ix (Fl_len k) t0 ht]
  simp only [cond_true,Option.bind_some,hw1,orP]
  by_cases h2 : 0 ≤ atL (Fl k) (k + 1 - tk y)
  ·have d2 : decide (0 ≤ atL (Fl k) (k + 1 - tk y)) = true := decide_eq_true h2
   rw [d2]
   simp only [cond_true,Option.bind_some]
   by_cases h3 : v < 0 ∨ atL (Fl k) (k + 1 - tk y) + 1 < v
   ·have d3 : (decide (v < 0) || decide (atL (Fl k) (k + 1 - tk y) + 1 < v)) = true := by simpa using h3
    rw [d3,if_pos ⟨ht,h2,h3⟩]; rfl
   ·have d3 : (decide (v < 0) || decide (atL (Fl k) (k + 1 - tk y) + 1 < v)) = false := by
     simp only [Bool.or_eq_false_iff,decide_eq_false_iff_not]; exact ⟨fun h => h3 (.inl h),fun h => h3 (.inr h)⟩
    rw [d3,if_neg (fun h => h3 h.2.2)]; rfl
  ·have d2 : decide (0 ≤ atL (Fl k) (k + 1 - tk y)) = false := decide_eq_false h2
   rw [d2,if_neg (fun h => h2 h.2.1)]; rfl
 ·have d1 : decide (0 ≤ ((k + 1 : Nat) : Int) - (tk y : Int)) = false := decide_eq_false (by omega)
  rw [d1,if_neg (fun h => ht h.1)]; rfl
theorem F_ix {a n : Nat} (h : n ≤ a) : ix (Fl a) (n : Int) = some (V n) := by
 refine ixNat ?_
 have h1 : (Fl a)[n]? = some ((Fl a)[n]'(by rw [Fl_len]; omega)) := List.getElem?_eq_getElem _
 have h2 := Fl_at a n h
 unfold atL at h2
 rw [h1] at h2 ⊢
 rw [← h2]; rfl
theorem pick_cond {a n : Nat} (hn : n ≤ a) (ha : a ≤ 4608) {y : GSign} (hy : y ∈ signsL) :
  (decide (tickS y ≤ (n : Int)) = decide (tk y ≤ n)) ∧ (tk y ≤ n → wr ((n : Int) - tickS y) = ((n - tk y : Nat) : Int)) ∧ wr (V n - 1) = V n - 1 := by
 obtain ⟨t0,t1,t2⟩ := tk_pos y hy
 have hV := V_le n
 refine ⟨?_,fun h => ?_,wr64 (by omega) (by omega)⟩
 ·by_cases h : tk y ≤ n
  ·rw [decide_eq_true h,decide_eq_true (by omega)]
  ·rw [decide_eq_false h,decide_eq_false (by omega)]
 ·rw [t2,wr64 (by omega) (by omega)]; omega
def signsR (a : Nat) : List GSign × Int := if V a < 0 then ([],25) else (greedy (V a).toNat a,0)
def signsS (a : Int) : List GSign × Int := if a < 0 ∨ 4608 < a then ([],1) else signsR a.toNat
theorem split_eq (a : Nat) (ha : a ≤ 4608) : ∀ (v n : Nat) (most : Int) (out : List GSign) (fu : Nat),V n = (v : Int) → n ≤ a → (∀ y,pick n = some y → tickS y ≤ most) → out.length + v ≤ 5000 → v < fu →
  f130r fu (n : Int) most signsL (Fl a) out = some (true,out ++ greedy v n)
 | v,n,most,out,0,_,_,_,_,h => by omega
 | 0,n,most,out,fu + 1,hv,hn,_,ho,_ => by
  have h0 : n = 0 := by
   by_cases h : n = 0
   ·exact h
   ·have := V_pos (n := n) (by omega) (by omega); omega
  subst h0
  rw [f130r]
  simp [greedy]
 | v + 1,n,most,out,fu + 1,hv,hn,hmost,ho,hf => by
  obtain ⟨y0,h1,h2,h3,h4⟩ := pick_some (n := n) (by omega)
  have hn0 : 0 < n := by
   by_cases h : n = 0
   ·subst h; rw [V_zero] at hv; omega
   ·omega
  have dn : decide ((n : Int) = 0) = false := decide_eq_false (by omega)
  rw [f130r,dn]
  simp only [cond_false]
  have hI0 : ∀ (j : Nat) z,j < 0 → signsL[j]? = some z → pickB n z = false := fun j z h => by omega
  rw [loop_fold (τ := List GSign ⊕ (Bool × List GSign)) (fun (_ : Unit) j => (out,j)) (fun _ _ z => bif pickB n z then .inr (.inr (true,out ++ greedy (v + 1) n)) else .inl ()) (fun _ => .inl out) signsL (fun j _ => ∀ (i : Nat) z,i < j → signsL[i]? = some z → pickB n z = false) () (small_fuel small_signs) hI0]
  ·rw [fold_find]
   unfold pick at h1
   rw [h1]; rfl
  ·intro j _ z hz hI
   have hzm := List.mem_of_getElem? hz
   obtain ⟨t0,t1,t2⟩ := tk_pos z hzm
   obtain ⟨c1,c2,c3⟩ := pick_cond hn ha hzm
   constructor
   ·have hnt : decide ((n : Int) < tickS z) = !(decide (tk z ≤ n)) := by
     by_cases h : tk z ≤ n
     ·rw [decide_eq_true h,decide_eq_false (by omega)]; rfl
     ·rw [decide_eq_false h,decide_eq_true (by omega)]; rfl
    simp only [dltLen hz,cond_true,ixNat hz,Option.bind_some,(tick_ok z).1,hnt,orP,F_ix hn,c3]
    cases hp : pickB n z with
    | true =>
     have hpick : pick n = some z := find_first hz hp hI
     rw [h1] at hpick; cases hpick
     have hm := hmost y0 h1
     have dm : decide (most < tickS y0) = false := decide_eq_false (by omega)
     have dv : decide (V (n - tk y0) ≠ V n - 1) = false := by simpa using h4
     have hmm : out.length + 1 ≤ maxElems := by unfold maxElems; omega
     rw [dm,decide_eq_true h3,c2 h3,F_ix (show n - tk y0 ≤ a by omega)]
     simp only [Bool.not_true,cond_false,Option.bind_some,Bool.false_or,dv,need,if_pos hmm]
     rw [split_eq a ha v (n - tk y0) (tickS y0) (out ++ [y0]) fu (by omega) (by omega) (fun z hz => by
      by_cases hv2 : 1 ≤ V (n - tk y0)
      ·exact pick_desc h1 (by omega) hz hv2
      ·have h5 := List.find?_some hz
       unfold pickB at h5
       simp only [Bool.and_eq_true,decide_eq_true_eq] at h5
       have := V_le (n - tk y0 - tk z)
       have h0 : n - tk y0 = 0 := by
        by_cases hq : n - tk y0 = 0
        ·exact hq
        ·exact absurd (V_pos (n := n - tk y0) (by omega) (by omega)) hv2
       have hzm2 := (tk_pos z (List.mem_of_find?_eq_some hz)).1
       omega) (by simp; omega) (by omega)]
     simp only [Option.bind_some,cond_true,greedy,h1,List.append_assoc]; rfl
    | false =>
     have hj : (((bif (decide (most < tickS z)) then (some true) else (bif (!(decide (tk z ≤ n))) then (some true) else ((ix (Fl a) (wr ((n : Int) - tickS z))).bind fun y7 => some (decide (y7 ≠ V n - 1))))) : Option Bool)) = some true := by
      cases decide (most < tickS z) with
      | true => rfl
      | false =>
       simp only [cond_false]
       by_cases ht : tk z ≤ n
       ·rw [decide_eq_true ht,c2 ht,F_ix (show n - tk z ≤ a by omega)]
        unfold pickB at hp
        rw [decide_eq_true ht,Bool.true_and] at hp
        simp only [Bool.not_true,cond_false,Option.bind_some]
        have : V (n - tk z) ≠ V n - 1 := by simpa using hp
        rw [decide_eq_true this]
       ·rw [decide_eq_false ht]; rfl
     rw [hj]
     simp only [Option.bind_some,cond_true,Sum.elim_inl,cond_false]
     rw [wrLen small_signs hz]; rfl
   ·intro a' hh i z' hi hz'
    cases hp : pickB n z with
    | true => rw [hp] at hh; cases hh
    | false =>
     by_cases hij : i = j
     ·subst hij; rw [hz] at hz'; cases hz'; exact hp
     ·exact hI i z' (by omega) hz'
  ·intro _ _; simp
theorem prog_signs (a : Int) : f81 a = some (signsS a) := by
 unfold f81 signsS
 simp only [orP,Option.bind_some]
 by_cases h0 : a < 0 ∨ 4608 < a
 ·have d : (decide (a < 0) || decide (4608 < a)) = true := by simpa using h0
  rw [d,if_pos h0]; rfl
 ·have d : (decide (a < 0) || decide (4608 < a)) = false := by simp only [Bool.or_eq_false_iff,decide_eq_false_iff_not]; omega
  rw [d,if_neg h0]
  obtain ⟨n,rfl⟩ : ∃ n : Nat,a = (n : Int) := ⟨a.toNat,by omega⟩
  have hn : n ≤ 4608 := by omega
  have hw : wr ((n : Int) + 1) = ((n + 1 : Nat) : Int) := wrNat (by omega)
  have n1 : (0 : Int) ≤ ((n + 1 : Nat) : Int) := by omega
  have n2 : ((n + 1 : Nat) : Int) ≤ (maxElems : Int) := by unfold maxElems; omega
  simp only [cond_false,prog_all,Option.bind_some,hw,need,if_pos n1,if_pos n2,Int.toNat_natCast]
  rw [table_loop n hn]
  ·simp only [Option.bind_some,F_ix (Nat.le_refl n)]
   unfold signsR
   by_cases hv : V n < 0
   ·rw [decide_eq_true hv,if_pos hv]; rfl
   ·have hVl := V_le n
    rw [decide_eq_false hv,if_neg hv]
    simp only [cond_false,f130]
    rw [split_eq n hn (V n).toNat n 768 [] FUEL (by omega) (Nat.le_refl n) (fun y _ => by have := (tick_ok y).2.2; omega) (by simp; omega) (by unfold FUEL; omega)]
    rfl
  ·intro k hk
   have d1 : decide (((k + 1 : Nat) : Int) ≤ (n : Int)) = true := decide_eq_true (by omega)
   have hr : List.replicate (n - k) (0 : Int) = 0 :: List.replicate (n - k - 1) 0 := by rw [← List.replicate_succ]; congr 1; omega
   simp only [d1,cond_true,hr,mid_ix (Fl_len k),Option.bind_some,Int.toNat_natCast,mid_set (Fl_len k)]
   rw [table_round k (List.replicate (n - k - 1) 0)]
   ·simp only [Option.bind_some]
    rw [wrNat (i := k + 1) (by omega)]
   ·intro v j y hy hv1 hv2
    have hym := List.mem_of_getElem? hy
    have hc := prog_cell k (by omega) (List.replicate (n - k - 1) 0) v y hym ⟨hv1,hv2⟩ 0
    simp only [orP] at hc
    simp only [dltLen hy,cond_true,ixNat hy,Option.bind_some,(tick_ok y).1]
    rw [hc]; rfl
   ·intro v; simp
  ·have d1 : decide (((n + 1 : Nat) : Int) ≤ (n : Int)) = false := decide_eq_false (by omega)
   simp only [d1,cond_false]
end Go.Proofs.YtodkhgjhodmeoaaGreat
