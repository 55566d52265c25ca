/-
 Plain laws of the player,part 2: pieces: their check,their times.
 Own work. No Go text.
-/
import Derived.Test.YtodkhgjhodmeoaaGreatLq
import Derived.Test.YtodkhgjhodmeoaaGreatV4a
set_option linter.all false
namespace Go.Proofs.YtodkhgjhodmeoaaGreat
open Go Go.Am
theorem orP (a b : Bool) : (bif a then some true else some b) = some (a || b) := by cases a <;> rfl
theorem andP (a b : Bool) : (bif a then some b else some false) = some (a && b) := by cases a <;> rfl
theorem dltN (a b : Nat) : decide ((a : Int) < (b : Int)) = decide (a < b) := by
 by_cases h : a < b
 ·have : (a : Int) < b := by omega
  simp [h,this]
 ·have : ¬ (a : Int) < b := by omega
  simp [h,this]
theorem lenP {α : Type} (l : List α) : decide ((l.length : Int) = 0) = decide (l.length = 0) := by
 by_cases h : l.length = 0
 ·simp [h]
 ·have : ¬ (l.length : Int) = 0 := by omega
  simp [h,this]
def tickS (s : GSign) : Int := (f129 s).getD 0
theorem tick_ok (s : GSign) : f129 s = some (tickS s) ∧ 0 ≤ tickS s ∧ tickS s ≤ 576 := by
 obtain ⟨v,d,t⟩ := s
 by_cases h1 : v < 1
 ·have : f129 ⟨v,d,t⟩ = some 0 := by simp [f129,h1]
  simp [tickS,this]
 ·by_cases h2 : 7 < v
  ·have : f129 ⟨v,d,t⟩ = some 0 := by simp [f129,h1,h2]
   simp [tickS,this]
  ·have h3 : v = 1 ∨ v = 2 ∨ v = 3 ∨ v = 4 ∨ v = 5 ∨ v = 6 ∨ v = 7 := by omega
   rcases h3 with rfl | rfl | rfl | rfl | rfl | rfl | rfl <;> cases d <;> cases t <;> (unfold tickS; decide +kernel)
def signS (s : GSign) : Bool := eq_GSign s ⟨0,false,false⟩ || decide (0 < tickS s)
theorem f145_eq (s : GSign) : f145 s = some (signS s) := by
 unfold f145 signS
 rw [(tick_ok s).1]
 simp only [Option.bind_some,orP]
def restS (e : GEvent) : Bool := decide (e.stops.length = 0) && !e.tie
def plucksS (e : GEvent) (c : Int) : Bool := e.stops.any fun s => decide (s.course = c)
theorem f217_eq (e : GEvent) : f217 e = some (restS e) := by
 unfold f217 restS
 rw [andP,lenP]; rfl
theorem f218_eq (e : GEvent) (c : Int) (hs : Small e.stops) : f218 e c = some (plucksS e c) := by
 have h : f257 e.stops c = some (idxF (fun s => decide (s.course = c)) e.stops) := by
  unfold f257
  rw [loop_find e.stops (fun s => decide (s.course = c)) (fun i _ => (i : Int)) hs]
  ·simp only [Option.bind_some,findS_idx,idxF]
   cases e.stops.findIdx? _ <;> simp
  ·intro i y hy
   simp only [dltLen hy,cond_true,ixNat hy,Option.bind_some,f246]
   cases decide (y.course = c) <;> rfl
  ·simp
 unfold f218 f245
 rw [h]
 simp only [Option.bind_some,idxF_nonneg]
 rfl
def longStep (c : Int) (_ : Nat) (h : Int) (e : GEvent) : Int ⊕ Int := bif decide (h = 15) || (restS e || plucksS e c) then .inr h else .inl (wr (h + 1))
def longS (p : GPiece) (i : Nat) (c : Int) : Int := foldE (longStep c) (fun h => h) 0 (p.events.drop (i + 1)) 0
def SmallP (p : GPiece) : Prop := Small p.events ∧ ∀ e ∈ p.events,Small e.stops
theorem f194_eq (p : GPiece) (i : Nat) (c : Int) (hp : SmallP p) (hi : i < p.events.length) : f194 p (i : Int) c = some (longS p i c) := by
 obtain ⟨h1,h2⟩ := hp
 simp only [Small] at h1
 have hw : wr ((i : Int) + 1) = ((i + 1 : Nat) : Int) := wrNat (by omega)
 have d1 : decide ((i : Int) < 0) = false := by simp
 have d2 : decide ((p.events.length : Int) ≤ (i : Int)) = false := by simp; omega
 have n1 : (0 : Int) ≤ ((i + 1 : Nat) : Int) := by omega
 have n2 : (((i + 1 : Nat) : Int)).toNat ≤ p.events.length := by omega
 have e1 : (p.events.take p.events.length).drop (((i + 1 : Nat) : Int)).toNat = p.events.drop (i + 1) := by rw [List.take_length,Int.toNat_natCast]
 unfold f194 longS
 simp only [d1,d2,cond_false,Option.bind_some,hw,need,if_pos n1,if_pos n2,e1]
 have hs : Small (p.events.drop (i + 1)) := by simp only [Small,List.length_drop]; omega
 rw [loop_fold (fun (h : Int) i => (h,i)) (longStep c) (fun h => h) (p.events.drop (i + 1)) (fun _ _ => True) 0 (small_fuel hs) trivial]
 ·rfl
 ·intro j h e he _
  refine ⟨?_,fun _ _ => trivial⟩
  have hes := h2 e (List.mem_of_mem_drop (List.mem_of_getElem? he))
  simp only [dltLen he,cond_true,ixNat he,Option.bind_some,f217_eq,f218_eq e c hes,orP,longStep,wrLen hs he]
  cases (decide (h = 15) || (restS e || plucksS e c)) <;> rfl
 ·intro h _; simp
structure StopOk (p : GPiece) (i : Nat) (last : Int) (s : GStop) : Prop where
 course : 1 ≤ s.course ∧ s.course ≤ (p.instrument.courses.length : Int)
 after : last < s.course
 fret : 0 ≤ s.fret
 hold : 0 ≤ s.hold ∧ s.hold ≤ longS p i s.course
structure EvOk (p : GPiece) (i : Nat) (e : GEvent) : Prop where
 first : i = 0 → 0 < tickS e.sign
 tie : e.tie = true → i ≠ 0 ∧ e.stops = []
 stops : ∀ (k : Nat) s,e.stops[k]? = some s → StopOk p i (match k with | 0 => 0 | k + 1 => ((e.stops[k]?).map (·.course)).getD 0) s
def lastC (l : List GStop) : Nat → Int
 | 0 => 0
 | k + 1 => ((l[k]?).map (·.course)).getD 0
end Go.Proofs.YtodkhgjhodmeoaaGreat
