/-
 Plain laws of ConsortChecks,part b: the check of a piece,and its onsets,in the program and in the reference.
 Own work. No Go text.
-/
import Derived.Test.YtjjendjmakhfaaaGreatCa
set_option linter.all false
namespace Go.Proofs.YtjjendjmakhfaaaGreat
open Go Go.Am
def fretsS (p : GPiece) (c : Int) : Int := ((p.instrument.courses[(c - 1).toNat]?).map (·.frets)).getD 0
def stopE (p : GPiece) (i : Nat) (last : Int) (s : GStop) : Int :=
 bif decide (s.course < 1) || decide ((p.instrument.courses.length : Int) < s.course) then 12 else
 bif decide (s.fret < 0) || decide (fretsS p s.course < s.fret) then 13 else
 bif decide (s.course ≤ last) then 22 else
 bif decide (s.right < 0) || (decide (3 < s.right) || (decide (s.grace < 0) || decide (4 < s.grace))) then 23 else
 bif decide (s.hold < 0) || (decide (longS p i s.course < s.hold) || (decide (0 < s.hold) && decide (s.fret = 0))) then 24 else 0
theorem frets_ix (p : GPiece) (s : GStop) (h : ¬ s.course < 1 ∧ ¬ (p.instrument.courses.length : Int) < s.course) (hc : p.instrument.courses.length ≤ 14) :
  ∃ c,ix p.instrument.courses (wr (s.course - 1)) = some c ∧ c.frets = fretsS p s.course := by
 have hw : wr (s.course - 1) = (((s.course - 1).toNat : Nat) : Int) := by rw [wr64 (by omega) (by omega)]; omega
 have hg : p.instrument.courses[(s.course - 1).toNat]? = some (p.instrument.courses[(s.course - 1).toNat]'(by omega)) := List.getElem?_eq_getElem (by omega)
 exact ⟨_,by rw [hw]; exact ixNat hg,by unfold fretsS; rw [hg]; rfl⟩
theorem stop_eq (p : GPiece) (i : Nat) (s : GStop) (last : Int) (hp : SmallP p) (hi : i < p.events.length) (hc : p.instrument.courses.length ≤ 14) : f158 p (i : Int) s last = some (stopE p i last s) := by
 unfold f158 stopE
 simp only [orP,Option.bind_some]
 cases h1 : (decide (s.course < 1) || decide ((p.instrument.courses.length : Int) < s.course)) with
 | true => rfl
 | false =>
  simp only [Bool.or_eq_false_iff,decide_eq_false_iff_not] at h1
  obtain ⟨c,hx,hf⟩ := frets_ix p s h1 hc
  simp only [cond_false,hx,Option.bind_some,orP,hf]
  cases (decide (s.fret < 0) || decide (fretsS p s.course < s.fret)) with
  | true => rfl
  | false =>
   simp only [cond_false]
   cases decide (s.course ≤ last) with
   | true => rfl
   | false =>
    simp only [cond_false]
    cases (decide (s.right < 0) || (decide (3 < s.right) || (decide (s.grace < 0) || decide (4 < s.grace)))) with
    | true => rfl
    | false =>
     simp only [cond_false,f175_eq p i s.course hp hi,Option.bind_some,orP,andP]
     cases (decide (s.hold < 0) || (decide (longS p i s.course < s.hold) || (decide (0 < s.hold) && decide (s.fret = 0)))) <;> rfl
def stopsE (p : GPiece) (i : Nat) : Int → List GStop → Int
 | _,[] => 0
 | last,s :: r => bif decide (stopE p i last s ≠ 0) then stopE p i last s else stopsE p i s.course r
def evE (p : GPiece) (i : Nat) (e : GEvent) : Int :=
 bif !(signS e.sign) || (decide (i = 0) && eq_GSign e.sign ⟨0,false,false⟩) then 20 else
 bif e.tie && (decide (i = 0) || decide (0 < e.stops.length)) then 21 else stopsE p i 0 e.stops
def evsE (p : GPiece) : Nat → List GEvent → Int
 | _,[] => 0
 | k,e :: r => bif decide (evE p k e ≠ 0) then evE p k e else evsE p (k + 1) r
def pieceS (p : GPiece) : Int := bif decide (instS p.instrument ≠ 0) then instS p.instrument else bif decide (400 < p.events.length) then 2 else evsE p 0 p.events
theorem fold_stops {τ : Type} (p : GPiece) (i : Nat) (f : Int → τ) (g : τ) : ∀ (l : List GStop) (k : Nat) (last : Int),
  foldE (fun _ (last : Int) s => (bif decide (stopE p i last s ≠ 0) then .inr (f (stopE p i last s)) else .inl s.course : Int ⊕ τ)) (fun _ => g) k l last =
   bif decide (stopsE p i last l ≠ 0) then f (stopsE p i last l) else g
 | [],_,_ => rfl
 | s :: r,k,last => by
  by_cases h : stopE p i last s = 0
  ·have d : decide (stopE p i last s ≠ 0) = false := by simp [h]
   simp only [foldE,stopsE,d,cond_false]; exact fold_stops p i f g r (k + 1) s.course
  ·have d : decide (stopE p i last s ≠ 0) = true := by simpa using h
   simp only [foldE,stopsE,d,cond_true]
theorem fold_evs {τ : Type} (p : GPiece) (f : Int → τ) (g : τ) : ∀ (l : List GEvent) (k : Nat),
  foldE (fun k (_ : Unit) e => (bif decide (evE p k e ≠ 0) then .inr (f (evE p k e)) else .inl () : Unit ⊕ τ)) (fun _ => g) k l () =
   bif decide (evsE p k l ≠ 0) then f (evsE p k l) else g
 | [],_ => rfl
 | s :: r,k => by
  by_cases h : evE p k s = 0
  ·have d : decide (evE p k s ≠ 0) = false := by simp [h]
   simp only [foldE,evsE,d,cond_false]; exact fold_evs p f g r (k + 1)
  ·have d : decide (evE p k s ≠ 0) = true := by simpa using h
   simp only [foldE,evsE,d,cond_true]
theorem pieceS_many {p : GPiece} {α : Type} (f : Int → α) : (bif decide (instS p.instrument ≠ 0) then f (instS p.instrument) else bif decide (400 < p.events.length) then f 2 else f (evsE p 0 p.events)) = f (pieceS p) := by
 unfold pieceS
 cases decide (instS p.instrument ≠ 0) <;> cases decide (400 < p.events.length) <;> rfl
theorem evs_out (x : Int) : (Option.bind (some (bif decide (x ≠ 0) then (.inr x : Unit ⊕ Int) else .inl ())) (Sum.elim (fun _ => some 0) some)) = some x := by
 by_cases h : x = 0
 ·subst h; rfl
 ·have : decide (x ≠ 0) = true := by simpa using h
  rw [this]; rfl
theorem prog_check (p : GPiece) (hp : SmallP p) : f126 p = some (pieceS p) := by
 unfold f126
 rw [icheck_eq]
 simp only [Option.bind_some]
 have e4 : decide (400 < (p.events.length : Int)) = decide (400 < p.events.length) := dltN 400 _
 rw [e4,← pieceS_many some]
 cases hz : decide (instS p.instrument ≠ 0) with
 | true => rfl
 | false =>
  have hc := (instS_ok (a := p.instrument) (by simpa using hz)).1
  simp only [cond_false]
  cases h4 : decide (400 < p.events.length) with
  | true => rfl
  | false =>
   simp only [cond_false]
   rw [loop_fold (τ := Unit ⊕ Int) (fun (_ : Unit) k => k) (fun k _ e => bif decide (evE p k e ≠ 0) then .inr (.inr (evE p k e)) else .inl ()) (fun _ => .inl ()) p.events (fun _ _ => True) () (small_fuel hp.1) trivial]
   ·rw [fold_evs (τ := Unit ⊕ Int) p (fun x => .inr x) (.inl ())]
    exact evs_out _
   ·intro i _ ev hev _
    refine ⟨?_,fun _ _ => trivial⟩
    have hil := (List.getElem?_eq_some_iff.1 hev).1
    have hss := hp.2 ev (List.mem_of_getElem? hev)
    have e0 : decide ((i : Int) = 0) = decide (i = 0) := by simp
    have e5 : decide (0 < (ev.stops.length : Int)) = decide (0 < ev.stops.length) := dltN 0 _
    simp only [dltLen hev,cond_true,ixNat hev,Option.bind_some,f157_eq,andP,orP,e0,e5]
    cases h1 : (!(signS ev.sign) || (decide (i = 0) && eq_GSign ev.sign ⟨0,false,false⟩)) with
    | true =>
     have : evE p i ev = 20 := by unfold evE; rw [h1]; rfl
     rw [this]; rfl
    | false =>
     simp only [cond_false]
     cases h2 : (ev.tie && (decide (i = 0) || decide (0 < ev.stops.length))) with
     | true =>
      have : evE p i ev = 21 := by unfold evE; rw [h1,h2]; rfl
      rw [this]; rfl
     | false =>
      have hE : evE p i ev = stopsE p i 0 ev.stops := by unfold evE; rw [h1,h2]; rfl
      rw [hE]
      simp only [cond_false]
      rw [loop_fold (τ := Unit ⊕ (Int ⊕ (Unit ⊕ Int))) (fun (last : Int) k => (last,k)) (fun _ (last : Int) s => bif decide (stopE p i last s ≠ 0) then .inr (.inr (.inr (.inr (stopE p i last s)))) else .inl s.course) (fun _ => .inl ()) ev.stops (fun _ _ => True) 0 (small_fuel hss) trivial]
      ·rw [fold_stops (τ := Unit ⊕ (Int ⊕ (Unit ⊕ Int))) p i (fun x => .inr (.inr (.inr x))) (.inl ())]
       simp only [Option.bind_some]
       cases decide (stopsE p i 0 ev.stops ≠ 0) with
       | true => rfl
       | false => simp only [cond_false,Sum.elim_inl]; rw [wrLen hp.1 hev]; rfl
      ·intro k last s hk _
       refine ⟨?_,fun _ _ => trivial⟩
       simp only [dltLen hk,cond_true,ixNat hk,Option.bind_some,stop_eq p i s last hp hil hc]
       cases decide (stopE p i last s ≠ 0) with
       | true => rfl
       | false => simp only [cond_false]; rw [wrLen hss hk]; rfl
      ·intro last _; simp
   ·intro _ _; simp
theorem ref_event (p : GPiece) (hp : SmallP p) (hc : p.instrument.courses.length ≤ 14) (i : Nat) (ev : GEvent) (hev : p.events[i]? = some ev) : f131 p (i : Int) = some (evE p i ev) := by
 have hil := (List.getElem?_eq_some_iff.1 hev).1
 have hss := hp.2 ev (List.mem_of_getElem? hev)
 have e0 : decide ((i : Int) = 0) = decide (i = 0) := by simp
 have e5 : decide (0 < (ev.stops.length : Int)) = decide (0 < ev.stops.length) := dltN 0 _
 unfold f131
 simp only [ixNat hev,Option.bind_some,ref_right,andP,orP,e0,e5]
 have e6 : (!(signS ev.sign) || (decide (i = 0) && decide (ev.sign.value = 0))) = (!(signS ev.sign) || (decide (i = 0) && eq_GSign ev.sign ⟨0,false,false⟩)) := by
  cases h : signS ev.sign with
  | false => rfl
  | true => rw [sign_zero h]
 have e7 : (ev.tie && (decide (0 < ev.stops.length) || decide (i = 0))) = (ev.tie && (decide (i = 0) || decide (0 < ev.stops.length))) := by rw [Bool.or_comm (decide (0 < ev.stops.length))]
 rw [e6,e7]
 cases h1 : (!(signS ev.sign) || (decide (i = 0) && eq_GSign ev.sign ⟨0,false,false⟩)) with
 | true => unfold evE; rw [h1]; rfl
 | false =>
  simp only [cond_false]
  cases h2 : (ev.tie && (decide (i = 0) || decide (0 < ev.stops.length))) with
  | true => unfold evE; rw [h1,h2]; rfl
  | false =>
   have hE : evE p i ev = stopsE p i 0 ev.stops := by unfold evE; rw [h1,h2]; rfl
   rw [hE]
   simp only [cond_false]
   rw [loop_fold (τ := Unit ⊕ Int) (fun (_ : Int) k => k) (fun _ (last : Int) s => bif decide (stopE p i last s ≠ 0) then .inr (.inr (stopE p i last s)) else .inl s.course) (fun _ => .inl ()) ev.stops (fun k a => a = lastC ev.stops k) 0 (small_fuel hss) rfl]
   ·rw [fold_stops (τ := Unit ⊕ Int) p i (fun x => .inr x) (.inl ())]
    exact evs_out _
   ·intro k last s hk hl
    subst hl
    constructor
    ·simp only [dltLen hk,cond_true,ixNat hk,Option.bind_some,orP]
     cases g1 : (decide (s.course < 1) || decide ((p.instrument.courses.length : Int) < s.course)) with
     | true =>
      have : stopE p i (lastC ev.stops k) s = 12 := by unfold stopE; rw [g1]; rfl
      rw [this]; rfl
     | false =>
      have g1' := g1
      simp only [Bool.or_eq_false_iff,decide_eq_false_iff_not] at g1'
      obtain ⟨c,hx,hf⟩ := frets_ix p s g1' hc
      simp only [cond_false,hx,Option.bind_some,orP,hf]
      cases g2 : (decide (s.fret < 0) || decide (fretsS p s.course < s.fret)) with
      | true =>
       have : stopE p i (lastC ev.stops k) s = 13 := by unfold stopE; rw [g1,g2]; rfl
       rw [this]; rfl
      | false =>
       have e8 : ((bif (decide (0 < (k : Int))) then ((ix ev.stops (wr ((k : Int) - 1))).bind fun y17 => some (decide (s.course ≤ y17.course))) else (some false)) : Option Bool) = some (decide (s.course ≤ lastC ev.stops k)) := by
        cases k with
        | zero =>
         have : decide (s.course ≤ 0) = false := by simp; omega
         have d9 : decide (0 < ((0 : Nat) : Int)) = false := rfl
         rw [d9,show lastC ev.stops 0 = 0 from rfl,this]; rfl
        | succ k =>
         have hkl := (List.getElem?_eq_some_iff.1 hk).1
         simp only [Small] at hss
         have hw : wr (((k + 1 : Nat) : Int) - 1) = (k : Int) := by rw [wr64 (by omega) (by omega)]; omega
         have hg : ev.stops[k]? = some (ev.stops[k]'(by omega)) := List.getElem?_eq_getElem (by omega)
         have d9 : decide (0 < ((k + 1 : Nat) : Int)) = true := decide_eq_true (by omega)
         simp only [d9,cond_true,hw,ixNat hg,Option.bind_some,lastC,hg,Option.map_some,Option.getD_some]
       simp only [cond_false,e8,Option.bind_some]
       cases g3 : decide (s.course ≤ lastC ev.stops k) with
       | true =>
        have : stopE p i (lastC ev.stops k) s = 22 := by unfold stopE; rw [g1,g2,g3]; rfl
        rw [this]; rfl
       | false =>
        simp only [cond_false]
        cases g4 : (decide (s.right < 0) || (decide (3 < s.right) || (decide (s.grace < 0) || decide (4 < s.grace)))) with
        | true =>
         have : stopE p i (lastC ev.stops k) s = 23 := by unfold stopE; rw [g1,g2,g3,g4]; rfl
         rw [this]; rfl
        | false =>
         simp only [cond_false,ref_long p i s.course hp hil,Option.bind_some,orP,andP]
         cases g5 : (decide (s.hold < 0) || (decide (longS p i s.course < s.hold) || (decide (0 < s.hold) && decide (s.fret = 0)))) with
         | true =>
          have : stopE p i (lastC ev.stops k) s = 24 := by unfold stopE; rw [g1,g2,g3,g4,g5]; rfl
          rw [this]; rfl
         | false =>
          have : stopE p i (lastC ev.stops k) s = 0 := by unfold stopE; rw [g1,g2,g3,g4,g5]; rfl
          rw [this]; simp only [cond_false]; rw [wrLen hss hk]; rfl
    ·intro a' ha
     cases hq : decide (stopE p i (lastC ev.stops k) s ≠ 0) with
     | true => rw [hq] at ha; cases ha
     | false => rw [hq] at ha; cases ha; simp [lastC,hk]
   ·intro last _; simp
theorem ref_check (p : GPiece) (hp : SmallP p) : f111 p = some (pieceS p) := by
 unfold f111
 rw [ref_icheck]
 simp only [Option.bind_some]
 have e4 : decide (400 < (p.events.length : Int)) = decide (400 < p.events.length) := dltN 400 _
 rw [e4,← pieceS_many some]
 cases hz : decide (instS p.instrument ≠ 0) with
 | true => rfl
 | false =>
  have hc := (instS_ok (a := p.instrument) (by simpa using hz)).1
  simp only [cond_false]
  cases h4 : decide (400 < p.events.length) with
  | true => rfl
  | false =>
   simp only [cond_false]
   rw [loop_fold (τ := Unit ⊕ Int) (fun (_ : Unit) k => k) (fun k _ e => bif decide (evE p k e ≠ 0) then .inr (.inr (evE p k e)) else .inl ()) (fun _ => .inl ()) p.events (fun _ _ => True) () (small_fuel hp.1) trivial]
   ·rw [fold_evs (τ := Unit ⊕ Int) p (fun x => .inr x) (.inl ())]
    exact evs_out _
   ·intro i _ ev hev _
    refine ⟨?_,fun _ _ => trivial⟩
    simp only [dltLen hev,cond_true,ref_event p hp hc i ev hev,Option.bind_some]
    cases decide (evE p i ev ≠ 0) with
    | true => rfl
    | false => simp only [cond_false]; rw [wrLen hp.1 hev]; rfl
   ·intro _ _; simp
end Go.Proofs.YtjjendjmakhfaaaGreat
