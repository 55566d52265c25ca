/-
 Plain laws of the parts,instruments and missing tones (after those of another seat).
 Own work. No Go text.
-/
import Derived.Test.YtodkhgjhodmeoaaGreatLq
import Derived.Test.YtodkhgjhodmeoaaGreatVc
set_option linter.all false
set_option maxRecDepth 20000
namespace Go.Proofs.YtodkhgjhodmeoaaGreat
open Go Go.Am
def inR (a lo hi : Int) : Bool := decide (lo ≤ a) && decide (a ≤ hi)
theorem f161_eq (a lo hi : Int) : f161 a lo hi = some (inR a lo hi) := by
 unfold f161 inR
 cases decide (lo ≤ a) <;> rfl
theorem f158_eq (a lo hi : Int) : f158 a lo hi = some (inR a lo hi) := f161_eq a lo hi
theorem orE (a b : Bool) : (bif a then some true else some b) = some (a || b) := by cases a <;> rfl
theorem notInR (x lo hi : Int) : (!(inR x lo hi)) = (decide (x < lo) || decide (hi < x)) := by
 unfold inR
 by_cases h1 : x < lo <;> by_cases h2 : hi < x <;> simp [h1,h2] <;> omega
theorem not_any {α : Type} (l : List α) (p : α → Bool) : l.any (fun x => !p x) = !(l.all p) := by simp [List.any_eq_not_all_not]
def badT (e : Int) (t : GTone) : Bool := !(inR t.pitch 0 127) || (decide (t.from_ < e) || (decide (t.to_ ≤ t.from_) || decide (262144 < t.to_)))
def okT : Int → List GTone → Bool
 | _,[] => true
 | e,t :: r => !(badT e t) && okT t.to_ r
def manyS (l : List (List GTone)) : Bool := decide (6 < l.length) || l.any fun p => decide (400 < p.length)
def partsS (l : List (List GTone)) : Int := if manyS l then 2 else if l.all (okT 0) then 0 else 80
theorem f196_eq (l : List (List GTone)) (hs : Small l) : f196 l = some (idxF (fun p => decide (400 < p.length)) l) := by
 unfold f196
 rw [loop_find l (fun p => decide (400 < p.length)) (fun i _ => (i : Int)) hs]
 ·simp only [Option.bind_some,findS_idx,idxF]
  cases l.findIdx? _ <;> simp
 ·intro i y hy
  have e : decide (400 < (y.length : Int)) = decide (400 < y.length) := by simp; omega
  simp only [dltLen hy,cond_true,ixNat hy,Option.bind_some,f157,e]
  cases decide (400 < y.length) <;> rfl
 ·simp
theorem f156_eq (l : List (List GTone)) (hs : Small l) : f156 l = some (l.any fun p => decide (400 < p.length)) := by
 unfold f156
 rw [f196_eq l hs]
 simp only [Option.bind_some,idxF_nonneg]
def stepT {τ : Type} (c : τ) : Nat → Int → GTone → Int ⊕ (Unit ⊕ τ) := fun _ e t => bif badT e t then .inr (.inr c) else .inl t.to_
theorem foldT {τ : Type} (c : τ) : ∀ (l : List GTone) (k : Nat) (e : Int),foldE (stepT c) (fun _ => .inl ()) k l e = bif okT e l then .inl () else .inr c
 | [],_,_ => rfl
 | t :: r,k,e => by
  simp only [foldE,stepT,okT]
  cases badT e t with
  | true => rfl
  | false => simp only [cond_false]; rw [foldT c r]; rfl
theorem f103_eq (l : List (List GTone)) (hs : Small l) : f103 l = some (partsS l) := by
 have hmany : ((bif (decide (6 < (l.length : Int))) then (some true) else ((f156 l).bind fun r2 => some r2)) : Option Bool) = some (manyS l) := by
  rw [f156_eq l hs]
  unfold manyS
  have e : decide (6 < (l.length : Int)) = decide (6 < l.length) := by simp; omega
  rw [e]
  cases decide (6 < l.length) <;> rfl
 unfold f103
 rw [hmany]
 simp only [Option.bind_some]
 cases hm : manyS l with
 | true => simp [partsS,hm]
 | false =>
  simp only [cond_false]
  have hlen : ∀ p ∈ l,p.length ≤ 400 := fun p hp => by
   simp only [manyS,Bool.or_eq_false_iff,List.any_eq_false,decide_eq_true_eq] at hm
   have := hm.2 p hp
   omega
  rw [loop_find l (fun p => !(okT 0 p)) (fun _ _ => 80) hs]
  ·simp only [Option.bind_some,findS_any,partsS,hm,not_any]
   cases l.all (okT 0) <;> rfl
  ·intro i p hp
   have hps : Small p := by have := hlen p (List.mem_of_getElem? hp); simp only [Small]; omega
   simp only [dltLen hp,cond_true,ixNat hp,Option.bind_some]
   rw [loop_fold (fun (e : Int) i => (e,i)) (stepT (τ := Int ⊕ (Unit ⊕ Int)) (.inr (.inr 80))) (fun _ => .inl ()) p (fun _ _ => True) 0 (small_fuel hps) trivial]
   ·rw [foldT]
    cases okT 0 p <;> rfl
   ·intro j e t ht _
    refine ⟨?_,fun _ _ => trivial⟩
    simp only [dltLen ht,cond_true,ixNat ht,Option.bind_some,f158_eq,stepT,badT,wrLen hps ht]
    cases inR t.pitch 0 127 <;> cases decide (t.from_ < e) <;> cases decide (t.to_ ≤ t.from_) <;> cases decide (262144 < t.to_) <;> rfl
   ·intro e _; simp
  ·simp
theorem f155_eq (l : List GTone) (hs : Small l) : f155 l = some (okT 0 l) := by
 unfold f155
 rw [loop_fold (fun (_ : Int) i => i) (stepT (τ := Bool) false) (fun _ => .inl ()) l (fun i e => 0 ≤ e ∧ (i = 0 → e = 0) ∧ ∀ j,i = j + 1 → ∃ p,l[j]? = some p ∧ e = p.to_) 0 (small_fuel hs) ⟨Int.le_refl _,fun _ => rfl,fun j h => by cases h⟩]
 ·rw [foldT]
  cases okT 0 l <;> rfl
 ·intro i e t ht ⟨h0,h1,h2⟩
  constructor
  ·have hb : ((bif (decide (t.pitch < 0)) then (some true) else (bif (decide (127 < t.pitch)) then (some true) else (bif (decide (t.from_ < 0)) then (some true) else (bif (decide (t.to_ ≤ t.from_)) then (some true) else (bif (decide (262144 < t.to_)) then (some true) else (bif (decide (0 < (i : Int))) then ((ix l (wr ((i : Int) - 1))).bind fun y9 => some (decide (t.from_ < y9.to_))) else (some false))))))) : Option Bool) = some (badT e t) := by
    cases i with
    | zero =>
     have := h1 rfl
     subst this
     have d6 : decide (0 < ((0 : Nat) : Int)) = false := by simp
     simp only [d6,cond_false,orE,badT,notInR,Bool.or_assoc]
     cases decide (t.pitch < 0) <;> cases decide (127 < t.pitch) <;> cases decide (t.from_ < 0) <;> cases decide (t.to_ ≤ t.from_) <;> cases decide (262144 < t.to_) <;> rfl
    | succ j =>
     obtain ⟨p,hp,rfl⟩ := h2 j rfl
     have hw : wr (((j + 1 : Nat) : Int) - 1) = (j : Int) := by
      have := (List.getElem?_eq_some_iff.1 hp).1
      simp only [Small] at hs
      rw [wr64 (by omega) (by omega)]; omega
     rw [hw,ixNat hp]
     have d6 : decide (0 < ((j + 1 : Nat) : Int)) = true := by simp <;> omega
     simp only [d6,cond_true,Option.bind_some,orE,badT,notInR,Bool.or_assoc]
     by_cases c3 : t.from_ < 0
     ·have c6 : t.from_ < p.to_ := by omega
      simp only [c3,c6,decide_true,Bool.true_or,Bool.or_true]
     ·have e3 : decide (t.from_ < 0) = false := by simpa using c3
      rw [e3]
      cases decide (t.pitch < 0) <;> cases decide (127 < t.pitch) <;> cases decide (t.from_ < p.to_) <;> cases decide (t.to_ ≤ t.from_) <;> cases decide (262144 < t.to_) <;> rfl
   simp only [dltLen ht,cond_true,ixNat ht,Option.bind_some]
   rw [hb]
   simp only [Option.bind_some,stepT,wrLen hs ht]
   cases badT e t <;> rfl
  ·intro e' he
   simp only [stepT] at he
   cases hb : badT e t with
   | true => rw [hb] at he; cases he
   | false =>
    rw [hb] at he
    cases he
    refine ⟨?_,(fun h => by cases h),(fun j hj => by cases hj; exact ⟨t,ht,rfl⟩)⟩
    simp only [badT,Bool.or_eq_false_iff,decide_eq_false_iff_not] at hb
    omega
 ·intro e _; simp
theorem f102_eq (l : List (List GTone)) (hs : Small l) : f102 l = some (partsS l) := by
 unfold f102
 rw [loop_fold (fun (b : Bool) i => (b,i)) (fun _ b (p : List GTone) => (.inl (b || decide (400 < p.length)) : Bool ⊕ Bool)) (fun b => b) l (fun _ _ => True) (decide (6 < (l.length : Int))) (small_fuel hs) trivial]
 ·have key : ∀ (r : List (List GTone)) (k : Nat) (b : Bool),foldE (fun _ b (p : List GTone) => (.inl (b || decide (400 < p.length)) : Bool ⊕ Bool)) (fun b => b) k r b = (b || r.any fun p => decide (400 < p.length)) := by
   intro r
   induction r with
   | nil => intro k b; simp [foldE]
   | cons p r ih => intro k b; simp only [foldE,ih,List.any_cons,Bool.or_assoc]
  rw [key]
  have e : decide (6 < (l.length : Int)) = decide (6 < l.length) := by simp; omega
  rw [e]
  show (Option.bind (some (manyS l)) _) = _
  simp only [Option.bind_some]
  cases hm : manyS l with
  | true => simp [partsS,hm]
  | false =>
   simp only [cond_false]
   have hp : ∀ p ∈ l,Small p := fun p hp => by
    simp only [manyS,Bool.or_eq_false_iff,List.any_eq_false,decide_eq_true_eq] at hm
    have := hm.2 p hp
    simp only [Small]; omega
   rw [loop_find l (fun p => !(okT 0 p)) (fun _ _ => 80) hs]
   ·simp only [Option.bind_some,findS_any,partsS,hm,not_any]
    cases l.all (okT 0) <;> rfl
   ·intro i p hpp
    simp only [dltLen hpp,cond_true,ixNat hpp,Option.bind_some,f155_eq p (hp p (List.mem_of_getElem? hpp))]
    cases okT 0 p <;> rfl
   ·simp
 ·intro i b p hpp _
  refine ⟨?_,fun _ _ => trivial⟩
  have e : decide (400 < (p.length : Int)) = decide (400 < p.length) := by simp; omega
  simp only [dltLen hpp,cond_true,ixNat hpp,Option.bind_some,wrLen hs hpp,e]
  cases b <;> rfl
 ·intro b _; simp
theorem dltNat (a b : Nat) : decide ((a : Int) < (b : Int)) = decide (a < b) := by
 by_cases h : a < b
 ·have : (a : Int) < b := by omega
  simp [h,this]
 ·have : ¬ (a : Int) < b := by omega
  simp [h,this]
def stepsS : Int → List Int → Bool
 | _,[] => true
 | e,y :: r => !(decide (y ≤ e) || decide (127 < y)) && stepsS y r
def pitchS (s : List Int) (c : GCourse) : Int := bif decide (0 < c.frets) then wr (c.pitch + (s[(c.frets - 1).toNat]?).getD 0) else c.pitch
def topS (s : List Int) (c : GCourse) : Int := bif c.octave then wr (pitchS s c + 12) else pitchS s c
def courseS (s : List Int) (c : GCourse) : Int :=
 bif decide (c.frets < 0) || decide ((s.length : Int) < c.frets) then 13 else bif decide (c.pitch < 0) || (decide (127 < c.pitch) || decide (127 < topS s c)) then 10 else 0
def badC (s : List Int) (c : GCourse) : Bool := decide (courseS s c ≠ 0)
def instS (a : GInstrument) : Int :=
 bif decide (14 < a.courses.length) || decide (18 < a.steps.length) then 2 else bif decide (a.courses.length = 0) then 11 else bif stepsS 0 a.steps then
  (match a.courses.find? (badC a.steps) with
   | some c => courseS a.steps c
   | none => 0)
 else 11
theorem f159_eq (a : GInstrument) (c : GCourse) (h1 : c.frets ≤ (a.steps.length : Int)) (h2 : a.steps.length ≤ 18) : f159 a c = some (topS a.steps c) := by
 unfold f159 topS pitchS
 by_cases h : 0 < c.frets
 ·have hw : wr (c.frets - 1) = (((c.frets - 1).toNat : Nat) : Int) := by rw [wr64 (by omega) (by omega)]; omega
  have hl : (c.frets - 1).toNat < a.steps.length := by omega
  have hg : a.steps[(c.frets - 1).toNat]? = some a.steps[(c.frets - 1).toNat] := List.getElem?_eq_getElem hl
  have hd : decide (0 < c.frets) = true := by simpa using h
  simp only [hd,cond_true,hw,ixNat hg,hg,Option.bind_some,Option.getD_some]
  cases c.octave <;> rfl
 ·have hd : decide (0 < c.frets) = false := by simpa using h
  simp only [hd,cond_false,Option.bind_some]
  cases c.octave <;> rfl
theorem fold_steps : ∀ (l : List Int) (k : Nat) (e : Int),foldE (fun _ (e : Int) y => (bif decide (y ≤ e) || decide (127 < y) then .inr (.inr 11) else .inl y : Int ⊕ (Unit ⊕ Int))) (fun _ => .inl ()) k l e = bif stepsS e l then .inl () else .inr 11
 | [],_,_ => rfl
 | y :: r,k,e => by
  simp only [foldE,stepsS]
  cases (decide (y ≤ e) || decide (127 < y)) with
  | true => rfl
  | false => simp only [cond_false,Bool.not_false,Bool.true_and]; exact fold_steps r (k + 1) y
theorem many_c (a b : Nat) : ((bif (decide (14 < (a : Int))) then (some true) else (some (decide (18 < (b : Int))))) : Option Bool) = some (decide (14 < a) || decide (18 < b)) := by
 have e1 : decide (14 < (a : Int)) = decide (14 < a) := dltNat 14 a
 have e2 : decide (18 < (b : Int)) = decide (18 < b) := dltNat 18 b
 rw [e1,e2]
 cases decide (14 < a) <;> rfl
theorem len0 {α : Type} (l : List α) : decide ((l.length : Int) = 0) = decide (l.length = 0) := by
 by_cases h : l.length = 0
 ·simp [h]
 ·have : ¬ (l.length : Int) = 0 := by omega
  simp [h,this]
theorem f104_eq (a : GInstrument) : f104 a = some (instS a) := by
 unfold f104 instS
 rw [many_c,len0]
 simp only [Option.bind_some]
 cases hm : (decide (14 < a.courses.length) || decide (18 < a.steps.length)) with
 | true => rfl
 | false =>
  simp only [Bool.or_eq_false_iff,decide_eq_false_iff_not] at hm
  have hs : Small a.steps := by simp only [Small]; omega
  have hc : Small a.courses := by simp only [Small]; omega
  simp only [cond_false]
  cases decide (a.courses.length = 0) with
  | true => rfl
  | false =>
   simp only [cond_false]
   rw [loop_fold (fun (e : Int) i => (e,i)) (fun _ (e : Int) y => (bif decide (y ≤ e) || decide (127 < y) then .inr (.inr 11) else .inl y : Int ⊕ (Unit ⊕ Int))) (fun _ => .inl ()) a.steps (fun _ _ => True) 0 (small_fuel hs) trivial]
   ·rw [fold_steps]
    simp only [Option.bind_some]
    cases stepsS 0 a.steps with
    | false => rfl
    | true =>
     simp only [cond_true,Sum.elim_inl]
     rw [loop_find a.courses (badC a.steps) (fun _ c => courseS a.steps c) hc]
     ·simp only [Option.bind_some,findS_find]
      cases a.courses.find? (badC a.steps) <;> rfl
     ·intro i c hcc
      simp only [dltLen hcc,cond_true,ixNat hcc,Option.bind_some,orE,badC]
      cases hb : (decide (c.frets < 0) || decide ((a.steps.length : Int) < c.frets)) with
      | true =>
       have : courseS a.steps c = 13 := by unfold courseS; rw [hb]; rfl
       rw [this]; rfl
      | false =>
       have hb' := hb
       simp only [Bool.or_eq_false_iff,decide_eq_false_iff_not] at hb
       simp only [cond_false,f159_eq a c (by omega) (by omega),Option.bind_some,orE]
       cases hb2 : (decide (c.pitch < 0) || (decide (127 < c.pitch) || decide (127 < topS a.steps c))) with
       | true =>
        have : courseS a.steps c = 10 := by unfold courseS; rw [hb',hb2]; rfl
        rw [this]; rfl
       | false =>
        have : courseS a.steps c = 0 := by unfold courseS; rw [hb',hb2]; rfl
        rw [this]; rfl
     ·simp
   ·intro i e y hy _
    refine ⟨?_,fun _ _ => trivial⟩
    simp only [dltLen hy,cond_true,ixNat hy,Option.bind_some,orE,wrLen hs hy]
    cases (decide (y ≤ e) || decide (127 < y)) <;> rfl
   ·intro e _; simp
theorem instS_ok {a : GInstrument} (h : instS a = 0) : a.courses.length ≤ 14 ∧ a.steps.length ≤ 18 ∧ 0 < a.courses.length ∧ stepsS 0 a.steps = true ∧ ∀ c ∈ a.courses,courseS a.steps c = 0 := by
 unfold instS at h
 cases hm : (decide (14 < a.courses.length) || decide (18 < a.steps.length)) with
 | true => rw [hm] at h; cases h
 | false =>
  rw [hm] at h
  simp only [Bool.or_eq_false_iff,decide_eq_false_iff_not] at hm
  simp only [cond_false] at h
  cases h0 : decide (a.courses.length = 0) with
  | true => rw [h0] at h; cases h
  | false =>
   rw [h0] at h
   simp only [cond_false] at h
   cases hst : stepsS 0 a.steps with
   | false => rw [hst] at h; cases h
   | true =>
    rw [hst] at h
    simp only [cond_true] at h
    simp only [decide_eq_false_iff_not] at h0
    refine ⟨by omega,by omega,by omega,rfl,fun c hc => ?_⟩
    cases hf : a.courses.find? (badC a.steps) with
    | some d =>
     rw [hf] at h
     have := List.find?_some hf
     simp only [badC,decide_eq_true_eq] at this
     exact absurd h this
    | none =>
     have := List.find?_eq_none.1 hf c hc
     simpa [badC] using this
theorem courseS_ok {s : List Int} {c : GCourse} (h : courseS s c = 0) : 0 ≤ c.frets ∧ c.frets ≤ (s.length : Int) ∧ 0 ≤ c.pitch ∧ c.pitch ≤ 127 ∧ topS s c ≤ 127 := by
 unfold courseS at h
 cases hb : (decide (c.frets < 0) || decide ((s.length : Int) < c.frets)) with
 | true => rw [hb] at h; cases h
 | false =>
  rw [hb] at h
  cases hb2 : (decide (c.pitch < 0) || (decide (127 < c.pitch) || decide (127 < topS s c))) with
  | true => rw [hb2] at h; cases h
  | false =>
   simp only [Bool.or_eq_false_iff,decide_eq_false_iff_not] at hb hb2
   omega
def soundS (s : List Int) (c : GCourse) (k : Nat) : Int := if k = 0 then c.pitch else wr (c.pitch + (s[k - 1]?).getD 0)
def rowS (s : List Int) (p : Int) (i : Nat) (c : GCourse) (n : Nat) : List GPlace := ((List.range n).filter fun k => decide (soundS s c k = p)).map fun (k : Nat) => (⟨((i + 1 : Nat) : Int),(k : Int)⟩ : GPlace)
def placesL (s : List Int) (p : Int) : Nat → List GCourse → List GPlace
 | _,[] => []
 | i,c :: r => rowS s p i c (c.frets.toNat + 1) ++ placesL s p (i + 1) r
def placesS (a : GInstrument) (p : Int) : List GPlace × Int :=
 if instS a = 0 then (bif decide (p < 0) || decide (127 < p) then ([],10) else (placesL a.steps p 0 a.courses,0)) else ([],instS a)
theorem rowS_succ (s : List Int) (p : Int) (i : Nat) (c : GCourse) (n : Nat) : rowS s p i c (n + 1) = rowS s p i c n ++ (bif decide (soundS s c n = p) then [⟨((i + 1 : Nat) : Int),(n : Int)⟩] else []) := by
 unfold rowS
 rw [List.range_succ,List.filter_append,List.map_append]
 cases h : decide (soundS s c n = p) <;> simp [h]
theorem rowS_len (s : List Int) (p : Int) (i : Nat) (c : GCourse) (n : Nat) : (rowS s p i c n).length ≤ n := by
 unfold rowS
 rw [List.length_map]
 exact Nat.le_trans (List.length_filter_le _ _) (by simp)
theorem f204_eq (a : GInstrument) (c : GCourse) (k : Nat) (h : (k : Int) ≤ c.frets) (h1 : c.frets ≤ (a.steps.length : Int)) (h2 : a.steps.length ≤ 18) : f204 a c (k : Int) = some (soundS a.steps c k) := by
 unfold f204 soundS
 by_cases h0 : k = 0
 ·subst h0; rfl
 ·have hd : decide ((k : Int) = 0) = false := by simp; omega
  have hw : wr ((k : Int) - 1) = ((k - 1 : Nat) : Int) := by rw [wr64 (by omega) (by omega)]; omega
  have hg : a.steps[k - 1]? = some a.steps[k - 1] := List.getElem?_eq_getElem (by omega)
  rw [hd,cond_false,hw,ixNat hg,if_neg h0,hg]; rfl
theorem fold_places (s : List Int) (p : Int) : ∀ (l : List GCourse) (i : Nat) (a : List GPlace),foldE (fun i a (c : GCourse) => (.inl (a ++ rowS s p i c (c.frets.toNat + 1)) : List GPlace ⊕ List GPlace)) (fun a => a) i l a = a ++ placesL s p i l
 | [],_,_ => by simp [foldE,placesL]
 | c :: r,i,a => by simp only [foldE,fold_places s p r,placesL,List.append_assoc]
theorem f197_eq (a : GInstrument) (p : Int) : f197 a p = some (placesS a p) := by
 unfold f197 placesS
 rw [f104_eq]
 simp only [Option.bind_some,orE]
 by_cases hi : instS a = 0
 ·obtain ⟨i1,i2,i3,i4,i5⟩ := instS_ok hi
  have hd : decide (instS a ≠ 0) = false := by simpa using hi
  have hcs : Small a.courses := by simp only [Small]; omega
  rw [hd,cond_false,if_pos hi]
  cases (decide (p < 0) || decide (127 < p)) with
  | true => rfl
  | false =>
   simp only [cond_false]
   rw [loop_fold (fun (x : List GPlace) i => (x,i)) (fun i x (c : GCourse) => (.inl (x ++ rowS a.steps p i c (c.frets.toNat + 1)) : List GPlace ⊕ List GPlace)) (fun x => x) a.courses (fun i x => x.length ≤ 19 * i) [] (small_fuel hcs) (by simp)]
   ·rw [fold_places]; simp
   ·intro i x c hc hx
    have hil := (List.getElem?_eq_some_iff.1 hc).1
    obtain ⟨k1,k2,k3,k4,k5⟩ := courseS_ok (i5 c (List.mem_of_getElem? hc))
    constructor
    ·simp only [dltLen hc,cond_true,ixNat hc,Option.bind_some,wrLen hcs hc]
     rw [loop_all (fun k => (x ++ rowS a.steps p i c k,(k : Int))) (c.frets.toNat + 1) (by omega) (by simp [rowS]) (r := x ++ rowS a.steps p i c (c.frets.toNat + 1))]
     ·rfl
     ·intro k hk
      have hle : decide ((k : Int) ≤ c.frets) = true := by simp; omega
      have hl := rowS_len a.steps p i c k
      have hm : (x ++ rowS a.steps p i c k).length + 1 ≤ maxElems := by rw [List.length_append]; unfold maxElems; omega
      have hw : wr ((k : Int) + 1) = ((k + 1 : Nat) : Int) := wrNat (by omega)
      simp only [hle,cond_true,f204_eq a c k (by omega) k2 i2,Option.bind_some,hw,need,if_pos hm,rowS_succ]
      cases decide (soundS a.steps c k = p) with
      | true => simp
      | false => simp
     ·have hle : decide (((c.frets.toNat + 1 : Nat) : Int) ≤ c.frets) = false := by simp; omega
      simp only [hle,cond_false]
    ·intro x' he
     cases he
     have hl := rowS_len a.steps p i c (c.frets.toNat + 1)
     rw [List.length_append]
     omega
   ·intro x _; simp
 ·have hd : decide (instS a ≠ 0) = true := by simpa using hi
  rw [hd,if_neg hi]; rfl
def badS (a : GInstrument) (q : Int) : Bool := decide ((placesS a q).2 ≠ 0) || decide (((placesS a q).1.length : Int) = 0)
def missP (a : GInstrument) (s : Int) (n : Int) (p : List GTone) : Int := p.foldl (fun n t => bif badS a (wr (t.pitch + s)) then wr (n + 1) else n) n
def missS (l : List (List GTone)) (a : GInstrument) (s : Int) : Int := l.foldl (missP a s) 0
theorem f162_eq (l : List (List GTone)) (a : GInstrument) (s : Int) (hl : Small l) (hp : ∀ p ∈ l,Small p) : f162 l a s = some (missS l a s) := by
 unfold f162 missS
 rw [loop_fold (fun (n : Int) i => (n,i)) (fun _ n p => (.inl (missP a s n p) : Int ⊕ Int)) (fun n => n) l (fun _ _ => True) 0 (small_fuel hl) trivial]
 ·rw [foldE_inl (missP a s)]; rfl
 ·intro i n p hpp _
  refine ⟨?_,fun _ _ => trivial⟩
  have hps := hp p (List.mem_of_getElem? hpp)
  simp only [dltLen hpp,cond_true,ixNat hpp,Option.bind_some,wrLen hl hpp]
  rw [loop_fold (fun (n : Int) i => (n,i)) (fun _ n (t : GTone) => (.inl (bif badS a (wr (t.pitch + s)) then wr (n + 1) else n) : Int ⊕ Int)) (fun n => n) p (fun _ _ => True) n (small_fuel hps) trivial]
  ·rw [foldE_inl (fun n (t : GTone) => bif badS a (wr (t.pitch + s)) then wr (n + 1) else n)]; rfl
  ·intro j m t ht _
   refine ⟨?_,fun _ _ => trivial⟩
   simp only [dltLen ht,cond_true,ixNat ht,Option.bind_some,wrLen hps ht,f197_eq,orE,badS]
   cases (decide ((placesS a (wr (t.pitch + s))).2 ≠ 0) || decide (((placesS a (wr (t.pitch + s))).1.length : Int) = 0)) <;> rfl
  ·intro m _; simp
 ·intro n _; simp
def setupS (l : List (List GTone)) (a : GInstrument) : Int := if partsS l = 0 then instS a else partsS l
theorem f160_eq (l : List (List GTone)) (a : GInstrument) (hl : Small l) : f160 l a = some (setupS l a) := by
 unfold f160 setupS
 rw [f103_eq l hl,f104_eq]
 simp only [Option.bind_some]
 by_cases h : partsS l = 0 <;> simp [h]
theorem partsS_small {l : List (List GTone)} (h : partsS l = 0) : l.length ≤ 6 ∧ ∀ p ∈ l,p.length ≤ 400 := by
 unfold partsS at h
 split at h
 ·cases h
 ·rename_i h1
  simp only [manyS,Bool.or_eq_true,decide_eq_true_eq,List.any_eq_true,not_or,not_exists,not_and] at h1
  exact ⟨by omega,fun p hp => by have := h1.2 p hp; omega⟩
theorem setup_ok {l : List (List GTone)} {a : GInstrument} (h : setupS l a = 0) : partsS l = 0 ∧ instS a = 0 := by
 unfold setupS at h
 split at h
 ·rename_i h1; exact ⟨h1,h⟩
 ·rename_i h1; exact absurd h h1
theorem miss_eq {l : List (List GTone)} {a : GInstrument} (h : setupS l a = 0) (s : Int) : f162 l a s = some (missS l a s) := by
 obtain ⟨h1,h2⟩ := partsS_small (setup_ok h).1
 exact f162_eq l a s (by simp only [Small]; omega) fun p hp => by have := h2 p hp; simp only [Small]; omega
def missingR (l : List (List GTone)) (a : GInstrument) (s : Int) : Int × Int := if setupS l a = 0 then (bif inR s (-24) 24 then (missS l a s,0) else (0,1)) else (0,setupS l a)
theorem f105_eq (l : List (List GTone)) (a : GInstrument) (s : Int) (hl : Small l) : f105 l a s = some (missingR l a s) := by
 unfold f105 missingR
 rw [f160_eq l a hl]
 simp only [Option.bind_some]
 by_cases h : setupS l a = 0
 ·have hd : decide (setupS l a ≠ 0) = false := by simpa using h
  rw [hd,cond_false,if_pos h,f161_eq]
  simp only [Option.bind_some]
  cases inR s (-24) 24 with
  | false => rfl
  | true => simp only [Bool.not_true,cond_false,miss_eq h,Option.bind_some,cond_true]
 ·have hd : decide (setupS l a ≠ 0) = true := by simpa using h
  rw [hd,if_neg h]; rfl
theorem pitch_c (a : GInstrument) (c : GCourse) (h1 : c.frets ≤ (a.steps.length : Int)) (h2 : a.steps.length ≤ 18) :
  ((bif (decide (0 < c.frets)) then ((ix a.steps (wr (c.frets - 1))).bind fun y => some (wr (c.pitch + y))) else (some c.pitch)) : Option Int) = some (pitchS a.steps c) := by
 unfold pitchS
 by_cases h : 0 < c.frets
 ·have hw : wr (c.frets - 1) = (((c.frets - 1).toNat : Nat) : Int) := by rw [wr64 (by omega) (by omega)]; omega
  have hl : (c.frets - 1).toNat < a.steps.length := by omega
  have hg : a.steps[(c.frets - 1).toNat]? = some a.steps[(c.frets - 1).toNat] := List.getElem?_eq_getElem hl
  have hd : decide (0 < c.frets) = true := by simpa using h
  simp only [hd,cond_true,hw,ixNat hg,hg,Option.bind_some,Option.getD_some]
 ·have hd : decide (0 < c.frets) = false := by simpa using h
  simp only [hd,cond_false]
theorem f108_eq (a : GInstrument) : f108 a = some (instS a) := by
 unfold f108 instS
 rw [many_c,len0]
 simp only [Option.bind_some]
 cases hm : (decide (14 < a.courses.length) || decide (18 < a.steps.length)) with
 | true => rfl
 | false =>
  simp only [Bool.or_eq_false_iff,decide_eq_false_iff_not] at hm
  have hs : Small a.steps := by simp only [Small]; omega
  have hc : Small a.courses := by simp only [Small]; omega
  simp only [cond_false]
  cases decide (a.courses.length = 0) with
  | true => rfl
  | false =>
   simp only [cond_false]
   rw [loop_fold (fun (e : Int) i => (e,i)) (fun _ (e : Int) y => (bif decide (y ≤ e) || decide (127 < y) then .inr (.inr 11) else .inl y : Int ⊕ (Unit ⊕ Int))) (fun _ => .inl ()) a.steps (fun _ _ => True) 0 (small_fuel hs) trivial]
   ·rw [fold_steps]
    simp only [Option.bind_some]
    cases stepsS 0 a.steps with
    | false => rfl
    | true =>
     simp only [cond_true,Sum.elim_inl]
     rw [loop_find a.courses (badC a.steps) (fun _ c => courseS a.steps c) hc]
     ·simp only [Option.bind_some,findS_find]
      cases a.courses.find? (badC a.steps) <;> rfl
     ·intro i c hcc
      simp only [dltLen hcc,cond_true,ixNat hcc,Option.bind_some,orE,badC]
      cases hb : (decide (c.frets < 0) || decide ((a.steps.length : Int) < c.frets)) with
      | true =>
       have : courseS a.steps c = 13 := by unfold courseS; rw [hb]; rfl
       rw [this]; rfl
      | false =>
       have hb' := hb
       simp only [Bool.or_eq_false_iff,decide_eq_false_iff_not] at hb
       simp only [cond_false]
       have hco : courseS a.steps c = bif decide (c.pitch < 0) || (decide (127 < c.pitch) || decide (127 < topS a.steps c)) then 10 else 0 := by unfold courseS; rw [hb']; rfl
       rw [hco]
       cases h1 : decide (c.pitch < 0) with
       | true => rfl
       | false =>
        cases h2 : decide (127 < c.pitch) with
        | true => rfl
        | false =>
         simp only [Bool.or_false,cond_false,Bool.false_or,pitch_c a c (by omega) (by omega),Option.bind_some]
         have ht : ((bif c.octave then (some (wr (pitchS a.steps c + 12))) else (some (pitchS a.steps c))) : Option Int) = some (topS a.steps c) := by unfold topS; cases c.octave <;> rfl
         rw [ht]
         simp only [Option.bind_some]
         cases decide (127 < topS a.steps c) <;> rfl
     ·simp
   ·intro i e y hy _
    refine ⟨?_,fun _ _ => trivial⟩
    simp only [dltLen hy,cond_true,ixNat hy,Option.bind_some,orE,wrLen hs hy]
    cases (decide (y ≤ e) || decide (127 < y)) <;> rfl
   ·intro e _; simp
theorem f119_eq (a : GInstrument) (c : GCourse) (i k : Nat) (hi : a.courses[i]? = some c) (hi2 : i < 14) (h : (k : Int) ≤ c.frets) (h1 : c.frets ≤ (a.steps.length : Int)) (h2 : a.steps.length ≤ 18) :
  f119 a ⟨((i + 1 : Nat) : Int),(k : Int)⟩ = some (soundS a.steps c k) := by
 unfold f119 soundS
 have hw : wr (((i + 1 : Nat) : Int) - 1) = (i : Int) := by rw [wr64 (by omega) (by omega)]; omega
 simp only [hw,ixNat hi,Option.bind_some]
 by_cases h0 : k = 0
 ·subst h0; rfl
 ·have hd : decide (0 < (k : Int)) = true := by simp; omega
  have hw : wr ((k : Int) - 1) = ((k - 1 : Nat) : Int) := by rw [wr64 (by omega) (by omega)]; omega
  have hg : a.steps[k - 1]? = some a.steps[k - 1] := List.getElem?_eq_getElem (by omega)
  rw [hd,cond_true,hw,ixNat hg,if_neg h0,hg]; rfl
theorem placesL_snoc (s : List Int) (p : Int) (c : GCourse) : ∀ (l : List GCourse) (i : Nat),placesL s p i (l ++ [c]) = placesL s p i l ++ rowS s p (i + l.length) c (c.frets.toNat + 1)
 | [],i => by simp [placesL]
 | d :: r,i => by
  simp only [List.cons_append,placesL,placesL_snoc s p c r,List.append_assoc,List.length_cons]
  congr 3
  omega
theorem placesL_len (s : List Int) (p : Int) : ∀ (l : List GCourse) (i : Nat),(∀ c ∈ l,c.frets.toNat ≤ 18) → (placesL s p i l).length ≤ 19 * l.length
 | [],i,_ => by simp [placesL]
 | c :: r,i,h => by
  have h1 := placesL_len s p r (i + 1) fun d hd => h d (List.mem_cons_of_mem _ hd)
  have h2 := rowS_len s p i c (c.frets.toNat + 1)
  have h3 := h c (by simp)
  simp only [placesL,List.length_append,List.length_cons]
  omega
theorem f230_eq (a : GInstrument) (p : Int) : f230 a p = some (placesS a p) := by
 unfold f230 placesS
 rw [f108_eq]
 simp only [Option.bind_some,orE]
 by_cases hi : instS a = 0
 ·obtain ⟨i1,i2,i3,i4,i5⟩ := instS_ok hi
  have hfr : ∀ c ∈ a.courses,c.frets.toNat ≤ 18 := fun c hc => by
   have := courseS_ok (i5 c hc)
   omega
  have hd : decide (instS a ≠ 0) = false := by simpa using hi
  rw [hd,cond_false,if_pos hi]
  cases (decide (p < 0) || decide (127 < p)) with
  | true => rfl
  | false =>
   simp only [cond_false]
   rw [loop_all (fun i => (placesL a.steps p 0 (a.courses.take i),((i + 1 : Nat) : Int))) a.courses.length (by omega) (by simp [placesL]) (r := placesL a.steps p 0 a.courses)]
   ·rfl
   ·intro i hil
    obtain ⟨c,hc⟩ : ∃ c,a.courses[i]? = some c := ⟨_,List.getElem?_eq_getElem hil⟩
    obtain ⟨k1,k2,k3,k4,k5⟩ := courseS_ok (i5 c (List.mem_of_getElem? hc))
    have hle : decide (((i + 1 : Nat) : Int) ≤ (a.courses.length : Int)) = true := by simp; omega
    have hw0 : wr (((i + 1 : Nat) : Int) - 1) = (i : Int) := by rw [wr64 (by omega) (by omega)]; omega
    have hw1 : wr (((i + 1 : Nat) : Int) + 1) = ((i + 1 + 1 : Nat) : Int) := wrNat (by omega)
    have hlx : (placesL a.steps p 0 (a.courses.take i)).length ≤ 19 * i := by
     have := placesL_len a.steps p (a.courses.take i) 0 fun d hd => hfr d (List.mem_of_mem_take hd)
     rw [List.length_take] at this
     omega
    have htl : (a.courses.take i).length = i := by rw [List.length_take]; omega
    simp only [hle,cond_true,hw0,ixNat hc,Option.bind_some,hw1]
    rw [loop_all (fun k => (placesL a.steps p 0 (a.courses.take i) ++ rowS a.steps p i c k,(k : Int))) (c.frets.toNat + 1) (by omega) (by simp [rowS]) (r := placesL a.steps p 0 (a.courses.take (i + 1)))]
    ·rfl
    ·intro k hk
     have hle : decide ((k : Int) ≤ c.frets) = true := by simp; omega
     have hl := rowS_len a.steps p i c k
     have hm : (placesL a.steps p 0 (a.courses.take i) ++ rowS a.steps p i c k).length + 1 ≤ maxElems := by rw [List.length_append]; unfold maxElems; omega
     have hw : wr ((k : Int) + 1) = ((k + 1 : Nat) : Int) := wrNat (by omega)
     simp only [hle,cond_true,f119_eq a c i k hc (by omega) (by omega) k2 i2,Option.bind_some,hw,need,if_pos hm,rowS_succ]
     cases decide (soundS a.steps c k = p) with
     | true => simp
     | false => simp
    ·have hle : decide (((c.frets.toNat + 1 : Nat) : Int) ≤ c.frets) = false := by simp; omega
     simp only [hle,cond_false,take_snoc hc,placesL_snoc,htl,Nat.zero_add]
   ·have hle : decide (((a.courses.length + 1 : Nat) : Int) ≤ (a.courses.length : Int)) = false := by simp; omega
    simp only [hle,cond_false,List.take_length]
 ·have hd : decide (instS a ≠ 0) = true := by simpa using hi
  rw [hd,if_neg hi]; rfl
theorem bad_eq (a : GInstrument) (q : Int) : badS a q = decide (((placesS a q).1.length : Int) = 0) := by
 unfold badS
 by_cases h : (placesS a q).2 = 0
 ·simp [h]
 ·have : (placesS a q).1 = [] := by
   unfold placesS at h ⊢
   by_cases hi : instS a = 0
   ·rw [if_pos hi] at h ⊢
    cases hb : (decide (q < 0) || decide (127 < q)) with
    | true => rfl
    | false => rw [hb] at h; exact absurd rfl h
   ·rw [if_neg hi]
  rw [this]; simp
theorem f166_eq (l : List (List GTone)) (a : GInstrument) (s : Int) (hl : Small l) (hp : ∀ p ∈ l,Small p) : f166 l a s = some (missS l a s) := by
 unfold f166 missS
 rw [loop_fold (fun (n : Int) i => (n,i)) (fun _ n p => (.inl (missP a s n p) : Int ⊕ Int)) (fun n => n) l (fun _ _ => True) 0 (small_fuel hl) trivial]
 ·rw [foldE_inl (missP a s)]; rfl
 ·intro i n p hpp _
  refine ⟨?_,fun _ _ => trivial⟩
  have hps := hp p (List.mem_of_getElem? hpp)
  simp only [dltLen hpp,cond_true,ixNat hpp,Option.bind_some,wrLen hl hpp]
  rw [loop_fold (fun (n : Int) i => (n,i)) (fun _ n (t : GTone) => (.inl (bif badS a (wr (t.pitch + s)) then wr (n + 1) else n) : Int ⊕ Int)) (fun n => n) p (fun _ _ => True) n (small_fuel hps) trivial]
  ·rw [foldE_inl (fun n (t : GTone) => bif badS a (wr (t.pitch + s)) then wr (n + 1) else n)]; rfl
  ·intro j m t ht _
   refine ⟨?_,fun _ _ => trivial⟩
   simp only [dltLen ht,cond_true,ixNat ht,Option.bind_some,wrLen hps ht,f199,f230_eq,bad_eq]
   cases decide (((placesS a (wr (t.pitch + s))).1.length : Int) = 0) <;> rfl
  ·intro m _; simp
 ·intro n _; simp
theorem f165_eq (s : Int) : f165 s = some (!(inR s (-24) 24)) := by
 unfold f165 inR
 by_cases h1 : s < -24
 ·rw [decide_eq_true h1,decide_eq_false (show ¬ (-24 ≤ s) by omega)]; rfl
 ·rw [decide_eq_false h1,decide_eq_true (show -24 ≤ s by omega)]
  by_cases h2 : 24 < s
  ·rw [decide_eq_true h2,decide_eq_false (show ¬ (s ≤ 24) by omega)]; rfl
  ·rw [decide_eq_false h2,decide_eq_true (show s ≤ 24 by omega)]; rfl
theorem f109_eq (l : List (List GTone)) (a : GInstrument) (s : Int) (hl : Small l) : f109 l a s = some (missingR l a s) := by
 unfold f109 missingR setupS
 rw [f102_eq l hl,f108_eq]
 simp only [Option.bind_some]
 by_cases h : partsS l = 0
 ·obtain ⟨h1,h2⟩ := partsS_small h
  have hd : decide (partsS l ≠ 0) = false := by simpa using h
  rw [hd,cond_false,if_pos h]
  by_cases hi : instS a = 0
  ·have hd2 : decide (instS a ≠ 0) = false := by simpa using hi
   rw [hd2,cond_false,if_pos hi,f165_eq]
   simp only [Option.bind_some]
   cases inR s (-24) 24 with
   | false => rfl
   | true =>
    simp only [Bool.not_true,Bool.not_false,cond_false,cond_true,f166_eq l a s hl (fun p hp => by have := h2 p hp; simp only [Small]; omega),Option.bind_some]
  ·have hd2 : decide (instS a ≠ 0) = true := by simpa using hi
   rw [hd2,if_neg hi]; rfl
 ·have hd : decide (partsS l ≠ 0) = true := by simpa using h
  rw [hd,if_neg h,if_neg h]; rfl
end Go.Proofs.YtodkhgjhodmeoaaGreat
