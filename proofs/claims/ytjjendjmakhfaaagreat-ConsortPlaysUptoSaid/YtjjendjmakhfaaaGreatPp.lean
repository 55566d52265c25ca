/-
 Plain laws of the player,part 2: pieces: their check,their times.
 Own work. No Go text.
-/
import Derived.Test.YtjjendjmakhfaaaGreatLq
import Derived.Test.YtjjendjmakhfaaaGreatTP
set_option linter.all false
namespace Go.Proofs.YtjjendjmakhfaaaGreat
open Go Go.Am
theorem orP (a b : Bool) : (bif a then some true else some b) = some (a || b) := by cases a <;> rfl
theorem andP (a b : Bool) : (bif a then some b else some false) = some (a && b) := by cases a <;> rfl
theorem dltN (a b : Nat) : decide ((a : Int) < (b : Int)) = decide (a < b) := by
 by_cases h : a < b
 ·have : (a : Int) < b := by omega
  simp [h,this]
 ·have : ¬ (a : Int) < b := by omega
  simp [h,this]
theorem lenP {α : Type} (l : List α) : decide ((l.length : Int) = 0) = decide (l.length = 0) := by
 by_cases h : l.length = 0
 ·simp [h]
 ·have : ¬ (l.length : Int) = 0 := by omega
  simp [h,this]
theorem loop_scan {α σ τ : Type} {body : σ → Option (σ ⊕ (Unit ⊕ τ))} (st : Nat → σ) (l : List α) (good : Nat → α → Prop) (bad : τ → Prop)
  (hb : ∀ (i : Nat) y,l[i]? = some y → (body (st i) = some (.inl (st (i + 1))) ∧ good i y) ∨ ∃ e,body (st i) = some (.inr (.inr e)) ∧ bad e)
  (he : body (st l.length) = some (.inr (.inl ()))) :
  ∀ (d k n : Nat),k + d = l.length → d < n → (loopN body n (st k) = some (.inl ()) ∧ ∀ (i : Nat) y,k ≤ i → l[i]? = some y → good i y) ∨ ∃ e,loopN body n (st k) = some (.inr e) ∧ bad e
 | 0,k,n,hk,hn => by
  have : k = l.length := by omega
  subst this
  cases n with
  | zero => omega
  | succ n =>
   refine .inl ⟨by simp only [loopN,he],fun i y hi hy => ?_⟩
   have := (List.getElem?_eq_some_iff.1 hy).1
   omega
 | d + 1,k,n,hk,hn => by
  cases n with
  | zero => omega
  | succ n =>
   have hg : l[k]? = some (l[k]'(by omega)) := List.getElem?_eq_getElem (by omega)
   rcases hb k _ hg with ⟨h1,h2⟩ | ⟨e,h1,h2⟩
   ·rcases loop_scan st l good bad hb he d (k + 1) n (by omega) (by omega) with ⟨h3,h4⟩ | ⟨e,h3,h4⟩
    ·refine .inl ⟨by simp only [loopN,h1]; exact h3,fun i y hi hy => ?_⟩
     by_cases hik : i = k
     ·subst hik
      rw [hg] at hy
      cases hy
      exact h2
     ·exact h4 i y (by omega) hy
    ·exact .inr ⟨e,by simp only [loopN,h1]; exact h3,h4⟩
   ·exact .inr ⟨e,by simp only [loopN,h1],h2⟩
def tickS (s : GSign) : Int := (f160 s).getD 0
theorem tick_ok (s : GSign) : f160 s = some (tickS s) ∧ 0 ≤ tickS s ∧ tickS s ≤ 576 := by
 obtain ⟨v,d,t⟩ := s
 by_cases h1 : v < 1
 ·have : f160 ⟨v,d,t⟩ = some 0 := by simp [f160,h1]
  simp [tickS,this]
 ·by_cases h2 : 7 < v
  ·have : f160 ⟨v,d,t⟩ = some 0 := by simp [f160,h1,h2]
   simp [tickS,this]
  ·have h3 : v = 1 ∨ v = 2 ∨ v = 3 ∨ v = 4 ∨ v = 5 ∨ v = 6 ∨ v = 7 := by omega
   rcases h3 with rfl | rfl | rfl | rfl | rfl | rfl | rfl <;> cases d <;> cases t <;> (unfold tickS; decide +kernel)
def signS (s : GSign) : Bool := eq_GSign s ⟨0,false,false⟩ || decide (0 < tickS s)
theorem f157_eq (s : GSign) : f157 s = some (signS s) := by
 unfold f157 signS
 rw [(tick_ok s).1]
 simp only [Option.bind_some,orP]
def restS (e : GEvent) : Bool := decide (e.stops.length = 0) && !e.tie
def plucksS (e : GEvent) (c : Int) : Bool := e.stops.any fun s => decide (s.course = c)
theorem f179_eq (e : GEvent) : f179 e = some (restS e) := by
 unfold f179 restS
 rw [andP,lenP]; rfl
theorem f180_eq (e : GEvent) (c : Int) (hs : Small e.stops) : f180 e c = some (plucksS e c) := by
 have h : f183 e.stops c = some (idxF (fun s => decide (s.course = c)) e.stops) := by
  unfold f183
  rw [loop_find e.stops (fun s => decide (s.course = c)) (fun i _ => (i : Int)) hs]
  ·simp only [Option.bind_some,findS_idx,idxF]
   cases e.stops.findIdx? _ <;> simp
  ·intro i y hy
   simp only [dltLen hy,cond_true,ixNat hy,Option.bind_some,f182]
   cases decide (y.course = c) <;> rfl
  ·simp
 unfold f180 f181
 rw [h]
 simp only [Option.bind_some,idxF_nonneg]
 rfl
def longStep (c : Int) (_ : Nat) (h : Int) (e : GEvent) : Int ⊕ Int := bif decide (h = 15) || (restS e || plucksS e c) then .inr h else .inl (wr (h + 1))
def longS (p : GPiece) (i : Nat) (c : Int) : Int := foldE (longStep c) (fun h => h) 0 (p.events.drop (i + 1)) 0
theorem long_bound (c : Int) : ∀ (l : List GEvent) (k : Nat) (h : Int),0 ≤ h → h ≤ 15 → h ≤ foldE (longStep c) (fun h => h) k l h ∧ foldE (longStep c) (fun h => h) k l h ≤ h + l.length ∧ foldE (longStep c) (fun h => h) k l h ≤ 15
 | [],k,h,h0,h1 => by simp [foldE]; omega
 | e :: r,k,h,h0,h1 => by
  simp only [foldE,longStep,List.length_cons]
  by_cases h15 : h = 15
  ·subst h15; simp; omega
  ·have hd : decide (h = 15) = false := by simpa using h15
   rw [hd,Bool.false_or]
   cases (restS e || plucksS e c) with
   | true => simp only [cond_true]; omega
   | false =>
    have hw : wr (h + 1) = h + 1 := wr64 (by omega) (by omega)
    simp only [cond_false,hw]
    have := long_bound c r (k + 1) (h + 1) (by omega) (by omega)
    omega
def SmallP (p : GPiece) : Prop := Small p.events ∧ ∀ e ∈ p.events,Small e.stops
theorem f175_eq (p : GPiece) (i : Nat) (c : Int) (hp : SmallP p) (hi : i < p.events.length) : f175 p (i : Int) c = some (longS p i c) := by
 obtain ⟨h1,h2⟩ := hp
 simp only [Small] at h1
 have hw : wr ((i : Int) + 1) = ((i + 1 : Nat) : Int) := wrNat (by omega)
 have d1 : decide ((i : Int) < 0) = false := by simp
 have d2 : decide ((p.events.length : Int) ≤ (i : Int)) = false := by simp; omega
 have n1 : (0 : Int) ≤ ((i + 1 : Nat) : Int) := by omega
 have n2 : (((i + 1 : Nat) : Int)).toNat ≤ p.events.length := by omega
 have e1 : (p.events.take p.events.length).drop (((i + 1 : Nat) : Int)).toNat = p.events.drop (i + 1) := by rw [List.take_length,Int.toNat_natCast]
 unfold f175 longS
 simp only [d1,d2,cond_false,Option.bind_some,hw,need,if_pos n1,if_pos n2,e1]
 have hs : Small (p.events.drop (i + 1)) := by simp only [Small,List.length_drop]; omega
 rw [loop_fold (fun (h : Int) i => (h,i)) (longStep c) (fun h => h) (p.events.drop (i + 1)) (fun _ _ => True) 0 (small_fuel hs) trivial]
 ·rfl
 ·intro j h e he _
  refine ⟨?_,fun _ _ => trivial⟩
  have hes := h2 e (List.mem_of_mem_drop (List.mem_of_getElem? he))
  simp only [dltLen he,cond_true,ixNat he,Option.bind_some,f179_eq,f180_eq e c hes,orP,longStep,wrLen hs he]
  cases (decide (h = 15) || (restS e || plucksS e c)) <;> rfl
 ·intro h _; simp
structure StopOk (p : GPiece) (i : Nat) (last : Int) (s : GStop) : Prop where
 course : 1 ≤ s.course ∧ s.course ≤ (p.instrument.courses.length : Int)
 after : last < s.course
 fret : 0 ≤ s.fret
 hold : 0 ≤ s.hold ∧ s.hold ≤ longS p i s.course
 top : ∀ c,p.instrument.courses[(s.course - 1).toNat]? = some c → s.fret ≤ c.frets
theorem stop_ok (p : GPiece) (i : Nat) (s : GStop) (last : Int) (hp : SmallP p) (hi : i < p.events.length) (hc : p.instrument.courses.length ≤ 14) : ∃ e,f158 p (i : Int) s last = some e ∧ (e = 0 → StopOk p i last s) := by
 unfold f158
 simp only [orP,Option.bind_some]
 cases h1 : (decide (s.course < 1) || decide ((p.instrument.courses.length : Int) < s.course)) with
 | true => exact ⟨12,rfl,fun h => by cases h⟩
 | false =>
  simp only [Bool.or_eq_false_iff,decide_eq_false_iff_not] at h1
  have hw : wr (s.course - 1) = (((s.course - 1).toNat : Nat) : Int) := by rw [wr64 (by omega) (by omega)]; omega
  have hg : p.instrument.courses[(s.course - 1).toNat]? = some (p.instrument.courses[(s.course - 1).toNat]'(by omega)) := List.getElem?_eq_getElem (by omega)
  simp only [cond_false,hw,ixNat hg,Option.bind_some,orP]
  cases h2 : (decide (s.fret < 0) || decide ((p.instrument.courses[(s.course - 1).toNat]'(by omega)).frets < s.fret)) with
  | true => exact ⟨13,rfl,fun h => by cases h⟩
  | false =>
   simp only [Bool.or_eq_false_iff,decide_eq_false_iff_not] at h2
   simp only [cond_false]
   cases h3 : decide (s.course ≤ last) with
   | true => exact ⟨22,rfl,fun h => by cases h⟩
   | false =>
    simp only [decide_eq_false_iff_not] at h3
    simp only [cond_false]
    cases (decide (s.right < 0) || (decide (3 < s.right) || (decide (s.grace < 0) || decide (4 < s.grace)))) with
    | true => exact ⟨23,rfl,fun h => by cases h⟩
    | false =>
     simp only [cond_false,f175_eq p i s.course hp hi,Option.bind_some,orP,andP]
     cases h5 : (decide (s.hold < 0) || (decide (longS p i s.course < s.hold) || (decide (0 < s.hold) && decide (s.fret = 0)))) with
     | true => exact ⟨24,rfl,fun h => by cases h⟩
     | false =>
      simp only [Bool.or_eq_false_iff,decide_eq_false_iff_not] at h5
      exact ⟨0,rfl,fun _ => ⟨by omega,by omega,by omega,by omega,fun c hq => by rw [hg] at hq; cases hq; omega⟩⟩
structure EvOk (p : GPiece) (i : Nat) (e : GEvent) : Prop where
 first : i = 0 → 0 < tickS e.sign
 tie : e.tie = true → i ≠ 0 ∧ e.stops = []
 stops : ∀ (k : Nat) s,e.stops[k]? = some s → StopOk p i (match k with | 0 => 0 | k + 1 => ((e.stops[k]?).map (·.course)).getD 0) s
def lastC (l : List GStop) : Nat → Int
 | 0 => 0
 | k + 1 => ((l[k]?).map (·.course)).getD 0
theorem check_ok (p : GPiece) (hp : SmallP p) (hin : ∃ e,f128 p.instrument = some e ∧ (e = 0 → p.instrument.courses.length ≤ 14)) :
  ∃ e,f126 p = some e ∧ (e = 0 → f128 p.instrument = some 0 ∧ p.instrument.courses.length ≤ 14 ∧ p.events.length ≤ 400 ∧ ∀ (i : Nat) e,p.events[i]? = some e → EvOk p i e) := by
 obtain ⟨e0,hin1,hin2⟩ := hin
 unfold f126
 rw [hin1]
 simp only [Option.bind_some]
 by_cases h0 : e0 = 0
 ·subst h0
  have hcl := hin2 rfl
  have d0 : decide ((0 : Int) ≠ 0) = false := rfl
  rw [d0,cond_false]
  by_cases h4 : 400 < p.events.length
  ·have d1 : decide (400 < (p.events.length : Int)) = true := by simp; omega
   rw [d1]
   exact ⟨2,rfl,fun h => by cases h⟩
  ·have d1 : decide (400 < (p.events.length : Int)) = false := by simp; omega
   rw [d1,cond_false]
   have hs := hp.1
   simp only [Small] at hs
   have := loop_scan (τ := Int) (body := (fun (l1_23 : Int) => bif (decide (l1_23 < (p.events.length : Int))) then ((ix p.events l1_23).bind fun y5 => (((f157 y5.sign).bind fun r6 => bif (!r6) then (some true) else (bif (decide (l1_23 = 0)) then (some (eq_GSign y5.sign (⟨0,false,false⟩ : GSign))) else (some false))) : Option Bool).bind fun (j2_41 : Bool) => bif j2_41 then (some (.inr (.inr 20))) else (((bif y5.tie then (bif (decide (l1_23 = 0)) then (some true) else (some (decide (0 < (y5.stops.length : Int))))) else (some false)) : Option Bool).bind fun (j3_53 : Bool) => bif j3_53 then (some (.inr (.inr 21))) else ((loopN (σ := (Int × Int)) (τ := (Unit ⊕ (Int ⊕ (Unit ⊕ Int)))) (fun ((l4_6,l4_57) : (Int × Int)) => bif (decide (l4_57 < (y5.stops.length : Int))) then ((ix y5.stops l4_57).bind fun y14 => (f158 p l1_23 y14 l4_6).bind fun r15 => bif (decide (r15 ≠ 0)) then (some (.inr (.inr (.inr (.inr r15))))) else (some (.inl (y14.course,(wr (l4_57 + 1)))))) else (some (.inr (.inl ())))) FUEL (0,0)).bind (Sum.elim (fun (_ : Unit) => some (.inl (wr (l1_23 + 1)))) some)))) else (some (.inr (.inl ())))))
    (fun i => (i : Int)) p.events (EvOk p) (fun e => e ≠ 0) ?_ ?_ p.events.length 0 FUEL (by omega) (by unfold FUEL; omega)
   rotate_left
   ·intro i ev hev
    have hil := (List.getElem?_eq_some_iff.1 hev).1
    have hss := hp.2 ev (List.mem_of_getElem? hev)
    simp only [dltLen hev,cond_true,ixNat hev,Option.bind_some,f157_eq]
    have e1 : ((bif (!(signS ev.sign)) then (some true) else (bif (decide ((i : Int) = 0)) then (some (eq_GSign ev.sign (⟨0,false,false⟩ : GSign))) else (some false))) : Option Bool) = some (!(signS ev.sign) || (decide (i = 0) && eq_GSign ev.sign ⟨0,false,false⟩)) := by
     have : decide ((i : Int) = 0) = decide (i = 0) := by simp
     rw [this,andP,orP]
    rw [e1]
    simp only [Option.bind_some]
    cases h1 : (!(signS ev.sign) || (decide (i = 0) && eq_GSign ev.sign ⟨0,false,false⟩)) with
    | true => exact .inr ⟨20,rfl,by decide⟩
    | false =>
     simp only [cond_false]
     have e2 : ((bif ev.tie then (bif (decide ((i : Int) = 0)) then (some true) else (some (decide (0 < (ev.stops.length : Int))))) else (some false)) : Option Bool) = some (ev.tie && (decide (i = 0) || decide (0 < ev.stops.length))) := by
      have : decide ((i : Int) = 0) = decide (i = 0) := by simp
      have h3 : decide (0 < (ev.stops.length : Int)) = decide (0 < ev.stops.length) := dltN 0 _
      rw [this,h3,orP,andP]
     rw [e2]
     simp only [Option.bind_some]
     cases h2 : (ev.tie && (decide (i = 0) || decide (0 < ev.stops.length))) with
     | true => exact .inr ⟨21,rfl,by decide⟩
     | false =>
      simp only [cond_false]
      have hst : ∀ k,(lastC ev.stops k,(k : Int)) = (fun k : Nat => (lastC ev.stops k,(k : Int))) k := fun _ => rfl
      have h00 : ((0 : Int),(0 : Int)) = (fun k : Nat => (lastC ev.stops k,(k : Int))) 0 := rfl
      have hsc := loop_scan (τ := Int ⊕ (Unit ⊕ Int)) (body := fun ((l4_6,l4_57) : (Int × Int)) => bif (decide (l4_57 < (ev.stops.length : Int))) then ((ix ev.stops l4_57).bind fun y14 => (f158 p (i : Int) y14 l4_6).bind fun r15 => bif (decide (r15 ≠ 0)) then (some (.inr (.inr (.inr (.inr r15))))) else (some (.inl (y14.course,(wr (l4_57 + 1)))))) else (some (.inr (.inl ()))))
       (fun k : Nat => (lastC ev.stops k,(k : Int))) ev.stops (fun k s => StopOk p i (lastC ev.stops k) s) (fun e => ∃ r : Int,e = .inr (.inr r) ∧ r ≠ 0) (by
        intro k s hk
        obtain ⟨e,he1,he2⟩ := stop_ok p i s (lastC ev.stops k) hp hil hcl
        simp only [dltLen hk,cond_true,ixNat hk,Option.bind_some,he1]
        by_cases hz : e = 0
        ·subst hz
         refine .inl ⟨?_,he2 rfl⟩
         have hlc : lastC ev.stops (k + 1) = s.course := by simp [lastC,hk]
         simp only [d0,cond_false,wrLen hss hk,hlc]
        ·have dz : decide (e ≠ 0) = true := by simpa using hz
         exact .inr ⟨.inr (.inr e),by rw [dz]; rfl,e,rfl,hz⟩) (by simp) ev.stops.length 0 FUEL (by omega) (by simp only [Small] at hss; unfold FUEL; omega)
      rw [h00]
      rcases hsc with ⟨h5,h6⟩ | ⟨e,h5,r,rfl,hr⟩
      ·rw [h5]
       simp only [Option.bind_some,Sum.elim_inl]
       refine .inl ⟨by rw [wrNat (by omega)],?_,?_,?_⟩
       ·intro hi0
        subst hi0
        simp only [decide_true,Bool.true_and,Bool.or_eq_false_iff,Bool.not_eq_false',signS] at h1
        have h7 := h1.1
        rw [h1.2,Bool.false_or] at h7
        simpa using h7
       ·intro ht
        rw [ht] at h2
        simp only [Bool.true_and,Bool.or_eq_false_iff,decide_eq_false_iff_not] at h2
        exact ⟨h2.1,List.eq_nil_of_length_eq_zero (by omega)⟩
       ·intro k s hk
        have := h6 k s (Nat.zero_le _) hk
        cases k <;> exact this
      ·rw [h5]
       exact .inr ⟨r,rfl,hr⟩
   ·simp
   rcases this with ⟨h1,h2⟩ | ⟨e,h1,h2⟩
   ·have h1' : loopN _ FUEL (0 : Int) = _ := h1
    rw [h1']
    exact ⟨0,rfl,fun _ => ⟨rfl,hcl,by omega,fun i e he => h2 i e (Nat.zero_le _) he⟩⟩
   ·have h1' : loopN _ FUEL (0 : Int) = _ := h1
    rw [h1']
    exact ⟨e,rfl,fun h => absurd h h2⟩
 ·have d0 : decide (e0 ≠ 0) = true := by simpa using h0
  rw [d0]
  exact ⟨e0,rfl,fun h => absurd h h0⟩
end Go.Proofs.YtjjendjmakhfaaaGreat
