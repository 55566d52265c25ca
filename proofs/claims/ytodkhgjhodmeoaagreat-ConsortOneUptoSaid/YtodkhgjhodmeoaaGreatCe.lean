/-
 Plain laws of ConsortChecks,part e: the fewest signs that add up to a duration: what they are.
 Own work. No Go text.
-/
import Derived.Test.YtodkhgjhodmeoaaGreatCd
import Derived.Test.YtodkhgjhodmeoaaGreatV4
set_option linter.all false
namespace Go.Proofs.YtodkhgjhodmeoaaGreat
open Go Go.Am
def signsL : List GSign := [⟨1,true,false⟩,⟨1,false,false⟩,⟨2,true,false⟩,⟨1,false,true⟩,⟨2,false,false⟩,⟨3,true,false⟩,⟨2,false,true⟩,⟨3,false,false⟩,⟨4,true,false⟩,⟨3,false,true⟩,⟨4,false,false⟩,⟨5,true,false⟩,⟨4,false,true⟩,⟨5,false,false⟩,⟨6,true,false⟩,⟨5,false,true⟩,⟨6,false,false⟩,⟨7,true,false⟩,⟨6,false,true⟩,⟨7,false,false⟩,⟨7,false,true⟩]
theorem prog_all : f128 = some signsL := rfl
theorem small_signs : Small signsL := by decide
def tk (y : GSign) : Nat := (tickS y).toNat
theorem tk_pos : ∀ y ∈ signsL,0 < tk y ∧ tk y ≤ 576 ∧ tickS y = (tk y : Int) := by
 have h : (signsL.all fun y => decide (0 < tickS y)) = true := by unfold tickS; decide +kernel
 intro y hy
 have h1 : 0 < tickS y := by simpa using List.all_eq_true.1 h y hy
 have h2 := (tick_ok y).2.2
 unfold tk
 omega
def descB : List GSign → Bool
 | [] => true
 | x :: r => (r.all fun y => decide (tickS y ≤ tickS x)) && descB r
theorem signs_desc : descB signsL = true := by decide +kernel
theorem find_desc {p : GSign → Bool} {y z : GSign} : ∀ {l : List GSign},descB l = true → l.find? p = some y → z ∈ l → p z = true → tickS z ≤ tickS y
 | [],_,h,_,_ => by simp at h
 | x :: r,hd,h,hz,hp => by
  simp only [descB,Bool.and_eq_true] at hd
  rw [List.find?_cons] at h
  cases hx : p x with
  | true =>
   rw [hx] at h; cases h
   rcases List.mem_cons.1 hz with rfl | hz
   ·omega
   ·simpa using List.all_eq_true.1 hd.1 z hz
  | false =>
   rw [hx] at h
   rcases List.mem_cons.1 hz with rfl | hz
   ·rw [hx] at hp; cases hp
   ·exact find_desc hd.2 h hz hp
theorem find_first {α : Type} {p : α → Bool} {y : α} : ∀ {l : List α} {j : Nat},l[j]? = some y → p y = true → (∀ (i : Nat) z,i < j → l[i]? = some z → p z = false) → l.find? p = some y
 | [],j,h,_,_ => by simp at h
 | x :: r,0,h,hp,_ => by simp at h; subst h; rw [List.find?_cons,hp]
 | x :: r,j + 1,h,hp,hn => by
  have hx : p x = false := hn 0 x (by omega) rfl
  rw [List.find?_cons,hx]
  exact find_first (by simpa using h) hp fun i z hi hz => hn (i + 1) z (by omega) (by simpa using hz)
theorem fold_find {α τ : Type} (p : α → Bool) (R : α → τ) (d : τ) : ∀ (l : List α) (k : Nat),foldE (fun _ (_ : Unit) y => (bif p y then .inr (R y) else .inl () : Unit ⊕ τ)) (fun _ => d) k l () = match l.find? p with
  | some y => R y
  | none => d
 | [],_ => rfl
 | y :: r,k => by
  simp only [foldE,List.find?_cons]
  cases p y with
  | true => rfl
  | false => exact fold_find p R d r (k + 1)
def atL (L : List Int) (i : Nat) : Int := (L[i]?).getD 0
def stepV (L : List Int) (n : Nat) (v : Int) (y : GSign) : Int :=
 if tk y ≤ n ∧ 0 ≤ atL L (n - tk y) ∧ (v < 0 ∨ atL L (n - tk y) + 1 < v) then atL L (n - tk y) + 1 else v
def nextV (L : List Int) : Int := signsL.foldl (stepV L L.length) (-1)
def Fl : Nat → List Int
 | 0 => [0]
 | n + 1 => Fl n ++ [nextV (Fl n)]
theorem Fl_len : ∀ n,(Fl n).length = n + 1
 | 0 => rfl
 | n + 1 => by simp [Fl,Fl_len n]
def V (n : Nat) : Int := atL (Fl n) n
theorem Fl_at : ∀ (a i : Nat),i ≤ a → atL (Fl a) i = V i
 | 0,i,h => by
  have : i = 0 := by omega
  subst this; rfl
 | a + 1,i,h => by
  by_cases hi : i = a + 1
  ·subst hi; rfl
  ·have h1 : atL (Fl (a + 1)) i = atL (Fl a) i := by
    unfold atL
    rw [Fl,List.getElem?_append_left (by rw [Fl_len]; omega)]
   rw [h1]; exact Fl_at a i (by omega)
theorem V_next (n : Nat) : V (n + 1) = nextV (Fl n) := by
 unfold V atL
 rw [Fl,List.getElem?_append_right (by rw [Fl_len]; omega),Fl_len]
 simp
def feas (n : Nat) (y : GSign) : Prop := tk y ≤ n ∧ 0 ≤ V (n - tk y)
structure Best (n : Nat) (ys : List GSign) (v : Int) : Prop where
 b : (v = -1 ∧ ∀ y ∈ ys,¬ feas n y) ∨ (1 ≤ v ∧ (∃ y ∈ ys,feas n y ∧ V (n - tk y) + 1 = v) ∧ ∀ y ∈ ys,feas n y → v ≤ V (n - tk y) + 1)
theorem best_step {n : Nat} {ys : List GSign} {v : Int} {y : GSign} (hy : 0 < tk y) (h : Best (n + 1) ys v) : Best (n + 1) (ys ++ [y]) (stepV (Fl n) (n + 1) v y) := by
 have hat : tk y ≤ n + 1 → atL (Fl n) (n + 1 - tk y) = V (n + 1 - tk y) := fun h => Fl_at n _ (by omega)
 unfold stepV
 by_cases hc : tk y ≤ n + 1 ∧ 0 ≤ atL (Fl n) (n + 1 - tk y) ∧ (v < 0 ∨ atL (Fl n) (n + 1 - tk y) + 1 < v)
 ·rw [if_pos hc]
  obtain ⟨c1,c2,c3⟩ := hc
  rw [hat c1] at c2 c3 ⊢
  refine ⟨.inr ⟨by omega,⟨y,by simp,⟨c1,c2⟩,rfl⟩,fun z hz hf => ?_⟩⟩
  rcases List.mem_append.1 hz with hz | hz
  ·rcases h.b with ⟨h1,h2⟩ | ⟨h1,h2,h3⟩
   ·exact absurd hf (h2 z hz)
   ·have := h3 z hz hf
    rcases c3 with c3 | c3 <;> omega
  ·simp at hz; subst hz; omega
 ·rw [if_neg hc]
  have hnf : feas (n + 1) y → 0 ≤ v ∧ v ≤ V (n + 1 - tk y) + 1 := fun ⟨f1,f2⟩ => by
   rw [hat f1] at hc
   refine ⟨Int.not_lt.1 fun hv => hc ⟨f1,f2,.inl hv⟩,Int.not_lt.1 fun hv => hc ⟨f1,f2,.inr hv⟩⟩
  rcases h.b with ⟨h1,h2⟩ | ⟨h1,⟨z,hz,hz2⟩,h3⟩
  ·refine ⟨.inl ⟨h1,fun z hz hf => ?_⟩⟩
   rcases List.mem_append.1 hz with hz | hz
   ·exact h2 z hz hf
   ·simp at hz; subst hz
    have := (hnf hf).1
    omega
  ·refine ⟨.inr ⟨h1,⟨z,by simp [hz],hz2⟩,fun z hz hf => ?_⟩⟩
   rcases List.mem_append.1 hz with hz | hz
   ·exact h3 z hz hf
   ·simp at hz; subst hz; exact (hnf hf).2
theorem best_fold {n : Nat} : ∀ (ys pre : List GSign) (v : Int),(∀ y ∈ ys,0 < tk y) → Best (n + 1) pre v → Best (n + 1) (pre ++ ys) (ys.foldl (stepV (Fl n) (n + 1)) v)
 | [],pre,v,_,h => by simpa using h
 | y :: r,pre,v,hp,h => by
  rw [List.foldl_cons,show pre ++ y :: r = (pre ++ [y]) ++ r from by simp]
  exact best_fold r _ _ (fun z hz => hp z (by simp [hz])) (best_step (hp y (by simp)) h)
theorem V_best (n : Nat) : Best (n + 1) signsL (V (n + 1)) := by
 have h := best_fold (n := n) signsL [] (-1) (fun y hy => (tk_pos y hy).1) ⟨.inl ⟨rfl,fun y hy => by simp at hy⟩⟩
 rw [V_next]
 unfold nextV
 rw [Fl_len]
 simpa using h
theorem V_zero : V 0 = 0 := rfl
theorem V_le : ∀ (n : Nat),-1 ≤ V n ∧ V n ≤ n := by
 intro n
 induction n using Nat.strongRecOn with
 | _ n ih =>
  cases n with
  | zero => exact ⟨by decide,by decide⟩
  | succ n =>
   rcases (V_best n).b with ⟨h,_⟩ | ⟨h1,⟨y,hy,⟨f1,f2⟩,h3⟩,_⟩
   ·rw [h]; omega
   ·have ht := (tk_pos y hy).1
    have := ih (n + 1 - tk y) (by omega)
    omega
def pickB (n : Nat) (y : GSign) : Bool := decide (tk y ≤ n) && decide (V (n - tk y) = V n - 1)
def pick (n : Nat) : Option GSign := signsL.find? (pickB n)
def greedy : Nat → Nat → List GSign
 | 0,_ => []
 | v + 1,n => match pick n with
  | some y => y :: greedy v (n - tk y)
  | none => []
theorem pick_some {n : Nat} (h : 1 ≤ V n) : ∃ y,pick n = some y ∧ y ∈ signsL ∧ tk y ≤ n ∧ V (n - tk y) = V n - 1 := by
 cases n with
 | zero => rw [V_zero] at h; omega
 | succ n =>
  rcases (V_best n).b with ⟨h1,_⟩ | ⟨h1,⟨y,hy,⟨f1,f2⟩,h3⟩,_⟩
  ·omega
  ·have hp : pickB (n + 1) y = true := by
    unfold pickB
    rw [decide_eq_true f1,Bool.true_and]
    exact decide_eq_true (by omega)
   cases hq : pick (n + 1) with
   | none =>
    have := List.find?_eq_none.1 hq y hy
    exact absurd hp this
   | some z =>
    have hz := List.find?_some hq
    have hm := List.mem_of_find?_eq_some hq
    unfold pickB at hz
    simp only [Bool.and_eq_true,decide_eq_true_eq] at hz
    exact ⟨z,rfl,hm,hz.1,hz.2⟩
theorem V_pos {n : Nat} (h : 0 ≤ V n) (hn : 0 < n) : 1 ≤ V n := by
 cases n with
 | zero => omega
 | succ n =>
  rcases (V_best n).b with ⟨h1,_⟩ | ⟨h1,_⟩
  ·omega
  ·exact h1
theorem pick_desc {n : Nat} {y z : GSign} (hy : pick n = some y) (hv : 1 ≤ V n) (hz : pick (n - tk y) = some z) (hv2 : 1 ≤ V (n - tk y)) : tickS z ≤ tickS y := by
 obtain ⟨y',e1,hym,h1,h2⟩ := pick_some hv
 rw [hy] at e1; cases e1
 obtain ⟨z',e2,hzm,h3,h4⟩ := pick_some hv2
 rw [hz] at e2; cases e2
 have hty := (tk_pos y hym).1
 have htz := (tk_pos z hzm).1
 -- the rest behind z
 have hm : n - tk z = (n - tk z - 1) + 1 := by omega
 have hfy : feas (n - tk z) y := ⟨by omega,by rw [show n - tk z - tk y = n - tk y - tk z from by omega,h4]; omega⟩
 have hb := (V_best (n - tk z - 1)).b
 rw [← hm] at hb
 have hVm : 1 ≤ V (n - tk z) ∧ V (n - tk z) ≤ V n - 1 := by
  rcases hb with ⟨_,hb⟩ | ⟨hb1,_,hb2⟩
  ·exact absurd hfy (hb y hym)
  ·have := hb2 y hym hfy
   rw [show n - tk z - tk y = n - tk y - tk z from by omega,h4] at this
   omega
 have hn : n = (n - 1) + 1 := by omega
 have hbn := (V_best (n - 1)).b
 rw [← hn] at hbn
 have hfz : feas n z := ⟨by omega,by omega⟩
 have hVn : V n ≤ V (n - tk z) + 1 := by
  rcases hbn with ⟨_,hb⟩ | ⟨_,_,hb2⟩
  ·exact absurd hfz (hb z hzm)
  ·exact hb2 z hzm hfz
 have hp : pickB n z = true := by
  unfold pickB
  rw [decide_eq_true (show tk z ≤ n by omega),Bool.true_and]
  exact decide_eq_true (by omega)
 exact find_desc signs_desc hy hzm hp
end Go.Proofs.YtodkhgjhodmeoaaGreat
