/-
 Plain laws of ConsortChecks,part a: the program and the reference check a piece alike,and give the same onsets.
 Own work. No Go text.
-/
import Derived.Test.YtjjendjmakhfaaaGreatPn
set_option linter.all false
namespace Go.Proofs.YtjjendjmakhfaaaGreat
open Go Go.Am
theorem pitch_c (a : GInstrument) (c : GCourse) (h1 : c.frets ≤ (a.steps.length : Int)) (h2 : a.steps.length ≤ 18) :
  ((bif (decide (0 < c.frets)) then ((ix a.steps (wr (c.frets - 1))).bind fun y16 => some (wr (c.pitch + y16))) else (some c.pitch)) : Option Int) = some (pitchC a.steps c) := by
 unfold pitchC
 by_cases h : 0 < c.frets
 ·have hw : wr (c.frets - 1) = (((c.frets - 1).toNat : Nat) : Int) := by rw [wr64 (by omega) (by omega)]; omega
  have hl : (c.frets - 1).toNat < a.steps.length := by omega
  have hg : a.steps[(c.frets - 1).toNat]? = some a.steps[(c.frets - 1).toNat] := List.getElem?_eq_getElem hl
  have hd : decide (0 < c.frets) = true := by simpa using h
  simp only [hd,cond_true,hw,ixNat hg,hg,Option.bind_some,Option.getD_some]
 ·have hd : decide (0 < c.frets) = false := by simpa using h
  simp only [hd,cond_false,Option.bind_some]
theorem ref_icheck (a : GInstrument) : f130 a = some (instS a) := by
 unfold f130 instS
 rw [many_c,lenP]
 simp only [Option.bind_some]
 cases hm : (decide (14 < a.courses.length) || decide (18 < a.steps.length)) with
 | true => rfl
 | false =>
  simp only [Bool.or_eq_false_iff,decide_eq_false_iff_not] at hm
  have hs : Small a.steps := by simp only [Small]; omega
  have hc : Small a.courses := by simp only [Small]; omega
  simp only [cond_false]
  cases decide (a.courses.length = 0) with
  | true => rfl
  | false =>
   simp only [cond_false]
   rw [loop_fold (fun (e : Int) i => (e,i)) (fun _ (e : Int) y => (bif decide (y ≤ e) || decide (127 < y) then .inr (.inr 11) else .inl y : Int ⊕ (Unit ⊕ Int))) (fun _ => .inl ()) a.steps (fun _ _ => True) 0 (small_fuel hs) trivial]
   ·rw [fold_steps]
    simp only [Option.bind_some]
    cases stepsS 0 a.steps with
    | false => rfl
    | true =>
     simp only [cond_true,Sum.elim_inl]
     rw [loop_find a.courses (badC a.steps) (fun _ c => courseS a.steps c) hc]
     ·simp only [Option.bind_some,findS_find]
      cases a.courses.find? (badC a.steps) <;> rfl
     ·intro i c hcc
      simp only [dltLen hcc,cond_true,ixNat hcc,Option.bind_some,orP,badC]
      cases hb : (decide (c.frets < 0) || decide ((a.steps.length : Int) < c.frets)) with
      | true =>
       have : courseS a.steps c = 13 := by unfold courseS; rw [hb]; rfl
       rw [this]; rfl
      | false =>
       have hb' := hb
       simp only [Bool.or_eq_false_iff,decide_eq_false_iff_not] at hb
       simp only [cond_false]
       cases hb2 : (decide (c.pitch < 0) || decide (127 < c.pitch)) with
       | true =>
        have : courseS a.steps c = 10 := by unfold courseS; rw [hb',← Bool.or_assoc,hb2]; rfl
        rw [this]; rfl
       | false =>
        have e2 : ((bif c.octave then (some (wr (pitchC a.steps c + 12))) else (some (pitchC a.steps c))) : Option Int) = some (topS a.steps c) := by unfold topS; cases c.octave <;> rfl
        simp only [cond_false,pitch_c a c (by omega) (by omega),Option.bind_some,e2]
        cases hb3 : decide (127 < topS a.steps c) with
        | true =>
         have : courseS a.steps c = 10 := by unfold courseS; rw [hb',← Bool.or_assoc,hb2,hb3]; rfl
         rw [this]; rfl
        | false =>
         have : courseS a.steps c = 0 := by unfold courseS; rw [hb',← Bool.or_assoc,hb2,hb3]; rfl
         rw [this]; rfl
     ·simp
   ·intro i e y hy _
    refine ⟨?_,fun _ _ => trivial⟩
    simp only [dltLen hy,cond_true,ixNat hy,Option.bind_some,orP,wrLen hs hy]
    cases (decide (y ≤ e) || decide (127 < y)) <;> rfl
   ·intro e _; simp
theorem tick_out {v : Int} (d t : Bool) (h : v < 1 ∨ 7 < v) : tickS ⟨v,d,t⟩ = 0 := by
 have : f160 ⟨v,d,t⟩ = some 0 := by
  by_cases h1 : v < 1
  ·simp [f160,h1]
  ·have h2 : 7 < v := by omega
   simp [f160,h1,h2]
 simp [tickS,this]
theorem ref_right (s : GSign) : f110 s = some (signS s) := by
 obtain ⟨v,d,t⟩ := s
 by_cases h0 : v = 0
 ·subst h0
  have ht := tick_out (v := 0) d t (.inl (by decide))
  unfold signS
  rw [ht]
  cases d <;> cases t <;> rfl
 ·by_cases h1 : v < 1 ∨ 7 < v
  ·have ht := tick_out d t h1
   have e : signS ⟨v,d,t⟩ = false := by unfold signS eq_GSign; rw [ht]; simp [h0]
   rw [e]
   unfold f110
   have d0 : decide (v = 0) = false := by simpa using h0
   simp only [d0,cond_false]
   by_cases h2 : 1 ≤ v
   ·have d1 : decide (1 ≤ v) = true := by simpa using h2
    have d2 : decide (v ≤ 7) = false := by simp; omega
    simp [d1,d2]
   ·have d1 : decide (1 ≤ v) = false := by simpa using h2
    simp [d1]
  ·have h3 : v = 1 ∨ v = 2 ∨ v = 3 ∨ v = 4 ∨ v = 5 ∨ v = 6 ∨ v = 7 := by omega
   rcases h3 with rfl | rfl | rfl | rfl | rfl | rfl | rfl <;> cases d <;> cases t <;> (unfold signS tickS; decide +kernel)
theorem ref_tick (s : GSign) : f77 s = some (tickS s) := by
 obtain ⟨v,d,t⟩ := s
 by_cases h1 : v < 1 ∨ 7 < v
 ·have ht := tick_out d t h1
  unfold f77
  rw [ref_right,ht]
  by_cases h0 : v = 0
  ·subst h0
   cases signS ⟨0,d,t⟩ <;> rfl
  ·have e : signS ⟨v,d,t⟩ = false := by unfold signS eq_GSign; rw [ht]; simp [h0]
   rw [e]; rfl
 ·have h3 : v = 1 ∨ v = 2 ∨ v = 3 ∨ v = 4 ∨ v = 5 ∨ v = 6 ∨ v = 7 := by omega
  rcases h3 with rfl | rfl | rfl | rfl | rfl | rfl | rfl <;> cases d <;> cases t <;> (unfold tickS; decide +kernel)
theorem sign_zero {s : GSign} (h : signS s = true) : decide (s.value = 0) = eq_GSign s ⟨0,false,false⟩ := by
 obtain ⟨v,d,t⟩ := s
 by_cases h0 : v = 0
 ·subst h0
  unfold signS at h
  rw [tick_out (v := 0) d t (.inl (by decide))] at h
  simp only [Bool.or_eq_true] at h
  rcases h with h | h
  ·rw [h]; rfl
  ·cases h
 ·simp [eq_GSign,h0]
theorem ref_rest (e : GEvent) : f132 e = some (restS e) := by
 unfold f132 restS
 rw [andP,lenP]; rfl
theorem ref_has (e : GEvent) (c : Int) (hs : Small e.stops) : f133 e c = some (plucksS e c) := by
 unfold f133 plucksS
 rw [loop_find e.stops (fun s => decide (s.course = c)) (fun _ _ => true) hs]
 ·simp only [Option.bind_some,findS_any]
  cases e.stops.any _ <;> rfl
 ·intro i y hy
  simp only [dltLen hy,cond_true,ixNat hy,Option.bind_some]
  cases decide (y.course = c) <;> rfl
 ·simp
theorem ref_long (p : GPiece) (i : Nat) (c : Int) (hp : SmallP p) (hi : i < p.events.length) : f162 p (i : Int) c = some (longS p i c) := by
 obtain ⟨h1,h2⟩ := hp
 simp only [Small] at h1
 have d1 : decide ((i : Int) < 0) = false := by simp
 have d2 : decide ((p.events.length : Int) ≤ (i : Int)) = false := by simp; omega
 have hs : Small (p.events.drop (i + 1)) := by simp only [Small,List.length_drop]; omega
 unfold f162 longS
 simp only [d1,d2,cond_false,Option.bind_some]
 rw [loop_fold (fun (h : Int) _ => h) (longStep c) (fun h => h) (p.events.drop (i + 1)) (fun k h => h = (k : Int) ∧ k ≤ 15) 0 (small_fuel hs) ⟨rfl,by omega⟩]
 ·rfl
 ·intro j h e he hj
  obtain ⟨hj,hj15⟩ := hj
  subst hj
  have hjl := (List.getElem?_eq_some_iff.1 he).1
  have hd : (p.events.drop (i + 1)).length = p.events.length - (i + 1) := by simp
  have he' : p.events[i + 1 + j]? = some e := by rw [List.getElem?_drop] at he; exact he
  have hes := h2 e (List.mem_of_getElem? he')
  have hw : wr (wr ((i : Int) + (j : Int)) + 1) = ((i + 1 + j : Nat) : Int) := by rw [wr64 (n := (i : Int) + j) (by omega) (by omega),wr64 (by omega) (by omega)]; omega
  have d4 : decide (((i + 1 + j : Nat) : Int) < (p.events.length : Int)) = true := by simp; omega
  have hw2 : wr ((j : Int) + 1) = ((j + 1 : Nat) : Int) := wrNat (by omega)
  constructor
  ·simp only [andP,hw,d4,Bool.and_true,Option.bind_some,longStep]
   by_cases h15 : (j : Int) = 15
   ·have a1 : decide ((j : Int) < 15) = false := by simp; omega
    have a2 : decide ((j : Int) = 15) = true := by simpa using h15
    simp only [a1,a2,cond_false,Bool.true_or,cond_true]
    rfl
   ·have h16 : (j : Int) < 15 := by omega
    have a1 : decide ((j : Int) < 15) = true := by simpa using h16
    have a2 : decide ((j : Int) = 15) = false := by simpa using h15
    simp only [a1,a2,cond_true,Bool.false_or,ixNat he',Option.bind_some,ref_rest,ref_has e c hes,orP]
    cases (restS e || plucksS e c) with
    | true => rfl
    | false => simp only [cond_false]; rw [hw2]; rfl
  ·intro a' ha
   simp only [longStep] at ha
   cases hq : (decide ((j : Int) = 15) || (restS e || plucksS e c)) with
   | true => rw [hq] at ha; cases ha
   | false =>
    simp only [Bool.or_eq_false_iff,decide_eq_false_iff_not] at hq
    have hq' : (decide ((j : Int) = 15) || (restS e || plucksS e c)) = false := by simp [hq.1,hq.2.1,hq.2.2]
    rw [hq'] at ha; cases ha; exact ⟨hw2,by omega⟩
 ·intro h hh
  obtain ⟨hh,_⟩ := hh
  subst hh
  have hd : (p.events.drop (i + 1)).length = p.events.length - (i + 1) := by simp
  have hw : wr (wr ((i : Int) + ((p.events.drop (i + 1)).length : Int)) + 1) = (p.events.length : Int) := by
   rw [hd,wr64 (n := (i : Int) + ((p.events.length - (i + 1) : Nat) : Int)) (by omega) (by omega),wr64 (by omega) (by omega)]; omega
  have d4 : decide ((p.events.length : Int) < (p.events.length : Int)) = false := by simp
  simp only [andP,hw,d4,Bool.and_false,Option.bind_some,cond_false]
end Go.Proofs.YtjjendjmakhfaaaGreat
