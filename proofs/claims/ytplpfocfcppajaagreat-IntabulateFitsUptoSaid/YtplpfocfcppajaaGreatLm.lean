/-
 Plain laws,part 10: instruments,places,missing tones.
 Own work. No Go text.
-/
import Derived.Test.YtplpfocfcppajaaGreatL1
import Derived.Test.YtplpfocfcppajaaGreatV4
set_option linter.all false
set_option maxRecDepth 20000
namespace Go.Proofs.YtplpfocfcppajaaGreat
open Go Go.Am
theorem dltNat (a b : Nat) : decide ((a : Int) < (b : Int)) = decide (a < b) := by
 by_cases h : a < b
 ·have : (a : Int) < b := by omega
  simp [h,this]
 ·have : ¬ (a : Int) < b := by omega
  simp [h,this]
def stepsS : Int → List Int → Bool
 | _,[] => true
 | e,y :: r => !(decide (y ≤ e) || decide (127 < y)) && stepsS y r
def pitchS (s : List Int) (c : GCourse) : Int := bif decide (0 < c.frets) then wr (c.pitch + (s[(c.frets - 1).toNat]?).getD 0) else c.pitch
def topS (s : List Int) (c : GCourse) : Int := bif c.octave then wr (pitchS s c + 12) else pitchS s c
def courseS (s : List Int) (c : GCourse) : Int :=
 bif decide (c.frets < 0) || decide ((s.length : Int) < c.frets) then 13 else bif decide (c.pitch < 0) || (decide (127 < c.pitch) || decide (127 < topS s c)) then 10 else 0
def badC (s : List Int) (c : GCourse) : Bool := decide (courseS s c ≠ 0)
def instS (a : GInstrument) : Int :=
 bif decide (14 < a.courses.length) || decide (18 < a.steps.length) then 2 else bif decide (a.courses.length = 0) then 11 else bif stepsS 0 a.steps then
  (match a.courses.find? (badC a.steps) with
   | some c => courseS a.steps c
   | none => 0)
 else 11
theorem f119_eq (a : GInstrument) (c : GCourse) (h1 : c.frets ≤ (a.steps.length : Int)) (h2 : a.steps.length ≤ 18) : f119 a c = some (topS a.steps c) := by
 unfold f119 topS pitchS
 by_cases h : 0 < c.frets
 ·have hw : wr (c.frets - 1) = (((c.frets - 1).toNat : Nat) : Int) := by rw [wr64 (by omega) (by omega)]; omega
  have hl : (c.frets - 1).toNat < a.steps.length := by omega
  have hg : a.steps[(c.frets - 1).toNat]? = some a.steps[(c.frets - 1).toNat] := List.getElem?_eq_getElem hl
  have hd : decide (0 < c.frets) = true := by simpa using h
  simp only [hd,cond_true,hw,ixNat hg,hg,Option.bind_some,Option.getD_some]
  cases c.octave <;> rfl
 ·have hd : decide (0 < c.frets) = false := by simpa using h
  simp only [hd,cond_false,Option.bind_some]
  cases c.octave <;> rfl
theorem fold_steps : ∀ (l : List Int) (k : Nat) (e : Int),foldE (fun _ (e : Int) y => (bif decide (y ≤ e) || decide (127 < y) then .inr (.inr 11) else .inl y : Int ⊕ (Unit ⊕ Int))) (fun _ => .inl ()) k l e = bif stepsS e l then .inl () else .inr 11
 | [],_,_ => rfl
 | y :: r,k,e => by
  simp only [foldE,stepsS]
  cases (decide (y ≤ e) || decide (127 < y)) with
  | true => rfl
  | false => simp only [cond_false,Bool.not_false,Bool.true_and]; exact fold_steps r (k + 1) y
theorem many_c (a b : Nat) : ((bif (decide (14 < (a : Int))) then (some true) else (some (decide (18 < (b : Int))))) : Option Bool) = some (decide (14 < a) || decide (18 < b)) := by
 have e1 : decide (14 < (a : Int)) = decide (14 < a) := dltNat 14 a
 have e2 : decide (18 < (b : Int)) = decide (18 < b) := dltNat 18 b
 rw [e1,e2]
 cases decide (14 < a) <;> rfl
theorem len0 {α : Type} (l : List α) : decide ((l.length : Int) = 0) = decide (l.length = 0) := by
 by_cases h : l.length = 0
 ·simp [h]
 ·have : ¬ (l.length : Int) = 0 := by omega
  simp [h,this]
theorem f85_eq (a : GInstrument) : f85 a = some (instS a) := by
 unfold f85 instS
 rw [many_c,len0]
 simp only [Option.bind_some]
 cases hm : (decide (14 < a.courses.length) || decide (18 < a.steps.length)) with
 | true => rfl
 | false =>
  simp only [Bool.or_eq_false_iff,decide_eq_false_iff_not] at hm
  have hs : Small a.steps := by simp only [Small]; omega
  have hc : Small a.courses := by simp only [Small]; omega
  simp only [cond_false]
  cases decide (a.courses.length = 0) with
  | true => rfl
  | false =>
   simp only [cond_false]
   rw [loop_fold (fun (e : Int) i => (e,i)) (fun _ (e : Int) y => (bif decide (y ≤ e) || decide (127 < y) then .inr (.inr 11) else .inl y : Int ⊕ (Unit ⊕ Int))) (fun _ => .inl ()) a.steps (fun _ _ => True) 0 (small_fuel hs) trivial]
   ·rw [fold_steps]
    simp only [Option.bind_some]
    cases stepsS 0 a.steps with
    | false => rfl
    | true =>
     simp only [cond_true,Sum.elim_inl]
     rw [loop_find a.courses (badC a.steps) (fun _ c => courseS a.steps c) hc]
     ·simp only [Option.bind_some,findS_find]
      cases a.courses.find? (badC a.steps) <;> rfl
     ·intro i c hcc
      simp only [dltLen hcc,cond_true,ixNat hcc,Option.bind_some,orE,badC]
      cases hb : (decide (c.frets < 0) || decide ((a.steps.length : Int) < c.frets)) with
      | true =>
       have : courseS a.steps c = 13 := by unfold courseS; rw [hb]; rfl
       rw [this]; rfl
      | false =>
       have hb' := hb
       simp only [Bool.or_eq_false_iff,decide_eq_false_iff_not] at hb
       simp only [cond_false,f119_eq a c (by omega) (by omega),Option.bind_some,orE]
       cases hb2 : (decide (c.pitch < 0) || (decide (127 < c.pitch) || decide (127 < topS a.steps c))) with
       | true =>
        have : courseS a.steps c = 10 := by unfold courseS; rw [hb',hb2]; rfl
        rw [this]; rfl
       | false =>
        have : courseS a.steps c = 0 := by unfold courseS; rw [hb',hb2]; rfl
        rw [this]; rfl
     ·simp
   ·intro i e y hy _
    refine ⟨?_,fun _ _ => trivial⟩
    simp only [dltLen hy,cond_true,ixNat hy,Option.bind_some,orE,wrLen hs hy]
    cases (decide (y ≤ e) || decide (127 < y)) <;> rfl
   ·intro e _; simp
theorem instS_ok {a : GInstrument} (h : instS a = 0) : a.courses.length ≤ 14 ∧ a.steps.length ≤ 18 ∧ 0 < a.courses.length ∧ stepsS 0 a.steps = true ∧ ∀ c ∈ a.courses,courseS a.steps c = 0 := by
 unfold instS at h
 cases hm : (decide (14 < a.courses.length) || decide (18 < a.steps.length)) with
 | true => rw [hm] at h; cases h
 | false =>
  rw [hm] at h
  simp only [Bool.or_eq_false_iff,decide_eq_false_iff_not] at hm
  simp only [cond_false] at h
  cases h0 : decide (a.courses.length = 0) with
  | true => rw [h0] at h; cases h
  | false =>
   rw [h0] at h
   simp only [cond_false] at h
   cases hst : stepsS 0 a.steps with
   | false => rw [hst] at h; cases h
   | true =>
    rw [hst] at h
    simp only [cond_true] at h
    simp only [decide_eq_false_iff_not] at h0
    refine ⟨by omega,by omega,by omega,rfl,fun c hc => ?_⟩
    cases hf : a.courses.find? (badC a.steps) with
    | some d =>
     rw [hf] at h
     have := List.find?_some hf
     simp only [badC,decide_eq_true_eq] at this
     exact absurd h this
    | none =>
     have := List.find?_eq_none.1 hf c hc
     simpa [badC] using this
theorem courseS_ok {s : List Int} {c : GCourse} (h : courseS s c = 0) : 0 ≤ c.frets ∧ c.frets ≤ (s.length : Int) ∧ 0 ≤ c.pitch ∧ c.pitch ≤ 127 ∧ topS s c ≤ 127 := by
 unfold courseS at h
 cases hb : (decide (c.frets < 0) || decide ((s.length : Int) < c.frets)) with
 | true => rw [hb] at h; cases h
 | false =>
  rw [hb] at h
  cases hb2 : (decide (c.pitch < 0) || (decide (127 < c.pitch) || decide (127 < topS s c))) with
  | true => rw [hb2] at h; cases h
  | false =>
   simp only [Bool.or_eq_false_iff,decide_eq_false_iff_not] at hb hb2
   omega
def soundS (s : List Int) (c : GCourse) (k : Nat) : Int := if k = 0 then c.pitch else wr (c.pitch + (s[k - 1]?).getD 0)
def rowS (s : List Int) (p : Int) (i : Nat) (c : GCourse) (n : Nat) : List GPlace := ((List.range n).filter fun k => decide (soundS s c k = p)).map fun (k : Nat) => (⟨((i + 1 : Nat) : Int),(k : Int)⟩ : GPlace)
def placesL (s : List Int) (p : Int) : Nat → List GCourse → List GPlace
 | _,[] => []
 | i,c :: r => rowS s p i c (c.frets.toNat + 1) ++ placesL s p (i + 1) r
def placesS (a : GInstrument) (p : Int) : List GPlace × Int :=
 if instS a = 0 then (bif decide (p < 0) || decide (127 < p) then ([],10) else (placesL a.steps p 0 a.courses,0)) else ([],instS a)
theorem rowS_succ (s : List Int) (p : Int) (i : Nat) (c : GCourse) (n : Nat) : rowS s p i c (n + 1) = rowS s p i c n ++ (bif decide (soundS s c n = p) then [⟨((i + 1 : Nat) : Int),(n : Int)⟩] else []) := by
 unfold rowS
 rw [List.range_succ,List.filter_append,List.map_append]
 cases h : decide (soundS s c n = p) <;> simp [h]
theorem rowS_len (s : List Int) (p : Int) (i : Nat) (c : GCourse) (n : Nat) : (rowS s p i c n).length ≤ n := by
 unfold rowS
 rw [List.length_map]
 exact Nat.le_trans (List.length_filter_le _ _) (by simp)
theorem f120_eq (a : GInstrument) (c : GCourse) (k : Nat) (h : (k : Int) ≤ c.frets) (h1 : c.frets ≤ (a.steps.length : Int)) (h2 : a.steps.length ≤ 18) : f120 a c (k : Int) = some (soundS a.steps c k) := by
 unfold f120 soundS
 by_cases h0 : k = 0
 ·subst h0; rfl
 ·have hd : decide ((k : Int) = 0) = false := by simp; omega
  have hw : wr ((k : Int) - 1) = ((k - 1 : Nat) : Int) := by rw [wr64 (by omega) (by omega)]; omega
  have hg : a.steps[k - 1]? = some a.steps[k - 1] := List.getElem?_eq_getElem (by omega)
  rw [hd,cond_false,hw,ixNat hg,if_neg h0,hg]; rfl
theorem fold_places (s : List Int) (p : Int) : ∀ (l : List GCourse) (i : Nat) (a : List GPlace),foldE (fun i a (c : GCourse) => (.inl (a ++ rowS s p i c (c.frets.toNat + 1)) : List GPlace ⊕ List GPlace)) (fun a => a) i l a = a ++ placesL s p i l
 | [],_,_ => by simp [foldE,placesL]
 | c :: r,i,a => by simp only [foldE,fold_places s p r,placesL,List.append_assoc]
theorem f86_eq (a : GInstrument) (p : Int) : f86 a p = some (placesS a p) := by
 unfold f86 placesS
 rw [f85_eq]
 simp only [Option.bind_some,orE]
 by_cases hi : instS a = 0
 ·obtain ⟨i1,i2,i3,i4,i5⟩ := instS_ok hi
  have hd : decide (instS a ≠ 0) = false := by simpa using hi
  have hcs : Small a.courses := by simp only [Small]; omega
  rw [hd,cond_false,if_pos hi]
  cases (decide (p < 0) || decide (127 < p)) with
  | true => rfl
  | false =>
   simp only [cond_false]
   rw [loop_fold (fun (x : List GPlace) i => (x,i)) (fun i x (c : GCourse) => (.inl (x ++ rowS a.steps p i c (c.frets.toNat + 1)) : List GPlace ⊕ List GPlace)) (fun x => x) a.courses (fun i x => x.length ≤ 19 * i) [] (small_fuel hcs) (by simp)]
   ·rw [fold_places]; simp
   ·intro i x c hc hx
    have hil := (List.getElem?_eq_some_iff.1 hc).1
    obtain ⟨k1,k2,k3,k4,k5⟩ := courseS_ok (i5 c (List.mem_of_getElem? hc))
    constructor
    ·simp only [dltLen hc,cond_true,ixNat hc,Option.bind_some,wrLen hcs hc]
     rw [loop_all (fun k => (x ++ rowS a.steps p i c k,(k : Int))) (c.frets.toNat + 1) (by omega) (by simp [rowS]) (r := x ++ rowS a.steps p i c (c.frets.toNat + 1))]
     ·rfl
     ·intro k hk
      have hle : decide ((k : Int) ≤ c.frets) = true := by simp; omega
      have hl := rowS_len a.steps p i c k
      have hm : (x ++ rowS a.steps p i c k).length + 1 ≤ maxElems := by rw [List.length_append]; unfold maxElems; omega
      have hw : wr ((k : Int) + 1) = ((k + 1 : Nat) : Int) := wrNat (by omega)
      simp only [hle,cond_true,f120_eq a c k (by omega) k2 i2,Option.bind_some,hw,need,if_pos hm,rowS_succ]
      cases decide (soundS a.steps c k = p) with
      | true => simp
      | false => simp
     ·have hle : decide (((c.frets.toNat + 1 : Nat) : Int) ≤ c.frets) = false := by simp; omega
      simp only [hle,cond_false]
    ·intro x' he
     cases he
     have hl := rowS_len a.steps p i c (c.frets.toNat + 1)
     rw [List.length_append]
     omega
   ·intro x _; simp
 ·have hd : decide (instS a ≠ 0) = true := by simpa using hi
  rw [hd,if_neg hi]; rfl
def badS (a : GInstrument) (q : Int) : Bool := decide ((placesS a q).2 ≠ 0) || decide (((placesS a q).1.length : Int) = 0)
def missP (a : GInstrument) (s : Int) (n : Int) (p : List GTone) : Int := p.foldl (fun n t => bif badS a (wr (t.pitch + s)) then wr (n + 1) else n) n
def missS (l : List (List GTone)) (a : GInstrument) (s : Int) : Int := l.foldl (missP a s) 0
theorem f43_eq (l : List (List GTone)) (a : GInstrument) (s : Int) (hl : Small l) (hp : ∀ p ∈ l,Small p) : f43 l a s = some (missS l a s) := by
 unfold f43 missS
 rw [loop_fold (fun (n : Int) i => (n,i)) (fun _ n p => (.inl (missP a s n p) : Int ⊕ Int)) (fun n => n) l (fun _ _ => True) 0 (small_fuel hl) trivial]
 ·rw [foldE_inl (missP a s)]; rfl
 ·intro i n p hpp _
  refine ⟨?_,fun _ _ => trivial⟩
  have hps := hp p (List.mem_of_getElem? hpp)
  simp only [dltLen hpp,cond_true,ixNat hpp,Option.bind_some,wrLen hl hpp]
  rw [loop_fold (fun (n : Int) i => (n,i)) (fun _ n (t : GTone) => (.inl (bif badS a (wr (t.pitch + s)) then wr (n + 1) else n) : Int ⊕ Int)) (fun n => n) p (fun _ _ => True) n (small_fuel hps) trivial]
  ·rw [foldE_inl (fun n (t : GTone) => bif badS a (wr (t.pitch + s)) then wr (n + 1) else n)]; rfl
  ·intro j m t ht _
   refine ⟨?_,fun _ _ => trivial⟩
   simp only [dltLen ht,cond_true,ixNat ht,Option.bind_some,wrLen hps ht,f86_eq,orE,badS]
   cases (decide ((placesS a (wr (t.pitch + s))).2 ≠ 0) || decide (((placesS a (wr (t.pitch + s))).1.length : Int) = 0)) <;> rfl
  ·intro m _; simp
 ·intro n _; simp
def setupS (l : List (List GTone)) (a : GInstrument) : Int := if partsS l = 0 then instS a else partsS l
theorem f42_eq (l : List (List GTone)) (a : GInstrument) (hl : Small l) : f42 l a = some (setupS l a) := by
 unfold f42 setupS
 rw [f36_eq l hl,f85_eq]
 simp only [Option.bind_some]
 by_cases h : partsS l = 0 <;> simp [h]
theorem partsS_small {l : List (List GTone)} (h : partsS l = 0) : l.length ≤ 6 ∧ ∀ p ∈ l,p.length ≤ 400 := by
 unfold partsS at h
 split at h
 ·cases h
 ·rename_i h1
  simp only [manyS,Bool.or_eq_true,decide_eq_true_eq,List.any_eq_true,not_or,not_exists,not_and] at h1
  exact ⟨by omega,fun p hp => by have := h1.2 p hp; omega⟩
theorem setup_ok {l : List (List GTone)} {a : GInstrument} (h : setupS l a = 0) : partsS l = 0 ∧ instS a = 0 := by
 unfold setupS at h
 split at h
 ·rename_i h1; exact ⟨h1,h⟩
 ·rename_i h1; exact absurd h h1
theorem miss_eq {l : List (List GTone)} {a : GInstrument} (h : setupS l a = 0) (s : Int) : f43 l a s = some (missS l a s) := by
 obtain ⟨h1,h2⟩ := partsS_small (setup_ok h).1
 exact f43_eq l a s (by simp only [Small]; omega) fun p hp => by have := h2 p hp; simp only [Small]; omega
def betterS (m : Int → Int) (x : Int × Int) (by_ : Int) : Int × Int := bif decide (m by_ < x.2) then (by_,m by_) else x
def fitK (m : Int → Int) : Nat → Int × Int
 | 0 => (0,m 0)
 | k + 1 => betterS m (betterS m (fitK m k) ((k + 1 : Nat) : Int)) (-((k + 1 : Nat) : Int))
def fitR (l : List (List GTone)) (a : GInstrument) : Int × Int × Int := if setupS l a = 0 then ((fitK (missS l a) 24).1,(fitK (missS l a) 24).2,0) else (0,0,setupS l a)
theorem f14_eq (l : List (List GTone)) (a : GInstrument) (hl : Small l) : f14 l a = some (fitR l a) := by
 unfold f14 fitR
 rw [f42_eq l a hl]
 simp only [Option.bind_some]
 by_cases h : setupS l a = 0
 ·have hd : decide (setupS l a ≠ 0) = false := by simpa using h
  rw [hd,cond_false,if_pos h]
  simp only [miss_eq h,Option.bind_some]
  rw [loop_all (fun k => ((fitK (missS l a) k).1,(fitK (missS l a) k).2,((k + 1 : Nat) : Int))) 24 (by omega) (by rfl) (r := ((fitK (missS l a) 24).1,(fitK (missS l a) 24).2))]
  ·rfl
  ·intro k hk
   have hle : decide (((k + 1 : Nat) : Int) ≤ 24) = true := by simp; omega
   have hw0 : wr (0 - ((k + 1 : Nat) : Int)) = -((k + 1 : Nat) : Int) := by rw [wr64 (by omega) (by omega)]; omega
   have hw : wr (((k + 1 : Nat) : Int) + 1) = ((k + 1 + 1 : Nat) : Int) := wrNat (by omega)
   have w1 : wr (0 + 1) = 1 := wr64 (by omega) (by omega)
   have w2 : wr (1 + 1) = 2 := wr64 (by omega) (by omega)
   simp only [hle,cond_true,hw0,hw]
   rw [loop_all (fun j => if j = 0 then ((fitK (missS l a) k).1,(fitK (missS l a) k).2,(0 : Int)) else if j = 1 then ((betterS (missS l a) (fitK (missS l a) k) ((k + 1 : Nat) : Int)).1,(betterS (missS l a) (fitK (missS l a) k) ((k + 1 : Nat) : Int)).2,1) else ((fitK (missS l a) (k + 1)).1,(fitK (missS l a) (k + 1)).2,2)) 2 (by omega) (by rfl) (r := ((fitK (missS l a) (k + 1)).1,(fitK (missS l a) (k + 1)).2))]
   ·rfl
   ·intro j hj
    have : j = 0 ∨ j = 1 := by omega
    rcases this with rfl | rfl
    ·have e0 : decide ((0 : Int) < 2) = true := rfl
     have ex : ix ([((k + 1 : Nat) : Int),-((k + 1 : Nat) : Int)] : List Int) 0 = some ((k + 1 : Nat) : Int) := rfl
     simp only [if_true,e0,cond_true,ex,Option.bind_some,w1,betterS]
     cases decide (missS l a ((k + 1 : Nat) : Int) < (fitK (missS l a) k).2) <;> rfl
    ·have e0 : decide ((1 : Int) < 2) = true := rfl
     have ex : ix ([((k + 1 : Nat) : Int),-((k + 1 : Nat) : Int)] : List Int) 1 = some (-((k + 1 : Nat) : Int)) := rfl
     have n1 : ¬ (1 : Nat) = 0 := by omega
     have n2 : ¬ (1 + 1 : Nat) = 0 := by omega
     have n3 : ¬ (1 + 1 : Nat) = 1 := by omega
     simp only [if_neg n1,if_true,e0,cond_true,ex,Option.bind_some,w2,if_neg n2,if_neg n3,fitK]
     generalize betterS (missS l a) (fitK (missS l a) k) ((k + 1 : Nat) : Int) = b1
     simp only [betterS]
     cases decide (missS l a (-((k + 1 : Nat) : Int)) < b1.2) <;> rfl
   ·have n2 : ¬ (2 : Nat) = 0 := by omega
    have n3 : ¬ (2 : Nat) = 1 := by omega
    have e0 : decide ((2 : Int) < 2) = false := rfl
    simp only [if_neg n2,if_neg n3,e0,cond_false]
  ·have hle : decide (((24 + 1 : Nat) : Int) ≤ 24) = false := by simp
   simp only [hle,cond_false]
 ·have hd : decide (setupS l a ≠ 0) = true := by simpa using h
  rw [hd,if_neg h]; rfl
def toneW (l : List (List GTone)) : Int := l.foldl (fun n p => wr (n + (p.length : Int))) 0
def smallS (l : List (List GTone)) : Bool := decide (toneW l ≤ 64) || decide (partsS l ≠ 0)
theorem f12_eq (l : List (List GTone)) (hl : Small l) : f12 l = some (smallS l) := by
 unfold f12 smallS toneW
 rw [loop_fold (fun (n : Int) i => (n,i)) (fun _ n (p : List GTone) => (.inl (wr (n + (p.length : Int))) : Int ⊕ Int)) (fun n => n) l (fun _ _ => True) 0 (small_fuel hl) trivial]
 ·rw [foldE_inl (fun n (p : List GTone) => wr (n + (p.length : Int))),f38_eq l hl]
  simp only [Option.bind_some,orE]
 ·intro i n p hp _
  exact ⟨by simp only [dltLen hp,cond_true,ixNat hp,Option.bind_some,wrLen hl hp]; rfl,fun _ _ => trivial⟩
 ·intro n _; simp
end Go.Proofs.YtplpfocfcppajaaGreat
