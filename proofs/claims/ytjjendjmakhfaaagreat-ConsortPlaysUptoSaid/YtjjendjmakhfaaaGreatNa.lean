/-
 The notes of a piece: that they are given,and how many. Plain law (from wip/rA/XPn by new numbers).
 Own work. No Go text.
-/
import Derived.Test.YtjjendjmakhfaaaGreatCa
import Derived.Test.YtjjendjmakhfaaaGreatTP
set_option linter.all false
namespace Go.Proofs.YtjjendjmakhfaaaGreat
open Go Go.Am
theorem at_ok (a : GInstrument) (pl : GPlace) (h : instS a = 0) : ∃ r,f107 a pl = some r := by
 obtain ⟨i1,i2,i3,i4,i5⟩ := instS_ok h
 unfold f107
 rw [icheck_eq,h]
 have d0 : decide ((0 : Int) ≠ 0) = false := rfl
 simp only [Option.bind_some,d0,cond_false,orP]
 cases h1 : (decide (pl.course < 1) || decide ((a.courses.length : Int) < pl.course)) with
 | true => exact ⟨_,rfl⟩
 | false =>
  simp only [Bool.or_eq_false_iff,decide_eq_false_iff_not] at h1
  have hw : wr (pl.course - 1) = (((pl.course - 1).toNat : Nat) : Int) := by rw [wr64 (by omega) (by omega)]; omega
  have hg : a.courses[(pl.course - 1).toNat]? = some (a.courses[(pl.course - 1).toNat]'(by omega)) := List.getElem?_eq_getElem (by omega)
  have hc := courseS_ok (i5 _ (List.mem_of_getElem? hg))
  generalize a.courses[(pl.course - 1).toNat]'(by omega) = c at hg hc
  simp only [cond_false,hw,ixNat hg,Option.bind_some,orP]
  cases h2 : (decide (pl.fret < 0) || decide (c.frets < pl.fret)) with
  | true => exact ⟨_,rfl⟩
  | false =>
   simp only [Bool.or_eq_false_iff,decide_eq_false_iff_not] at h2
   simp only [cond_false,f129]
   by_cases h3 : pl.fret = 0
   ·have d3 : decide (pl.fret = 0) = true := by simpa using h3
    rw [d3]; exact ⟨_,rfl⟩
   ·have d3 : decide (pl.fret = 0) = false := by simpa using h3
    have hw2 : wr (pl.fret - 1) = (((pl.fret - 1).toNat : Nat) : Int) := by rw [wr64 (by omega) (by omega)]; omega
    have hg2 : a.steps[(pl.fret - 1).toNat]? = some (a.steps[(pl.fret - 1).toNat]'(by omega)) := List.getElem?_eq_getElem (by omega)
    rw [d3,hw2,ixNat hg2]; exact ⟨_,rfl⟩
structure ValidP (p : GPiece) : Prop where
 inst : instS p.instrument = 0
 many : p.events.length ≤ 400
 ev : ∀ (i : Nat) e,p.events[i]? = some e → EvOk p i e
theorem stops_few {p : GPiece} (hv : ValidP p) {i : Nat} {e : GEvent} (he : p.events[i]? = some e) : e.stops.length ≤ 14 := by
 have hev := hv.ev i e he
 have hc := (instS_ok hv.inst).1
 have key : ∀ (k : Nat) s,e.stops[k]? = some s → (k : Int) + 1 ≤ s.course := by
  intro k
  induction k with
  | zero => intro s hs; exact (hev.stops 0 s hs).course.1
  | succ k ih =>
   intro s hs
   have hk : k < e.stops.length := by have := (List.getElem?_eq_some_iff.1 hs).1; omega
   have hg := List.getElem?_eq_getElem hk
   have h1 := ih _ hg
   have h2 := (hev.stops (k + 1) s hs).after
   simp only [hg,Option.map_some,Option.getD_some] at h2
   omega
 by_cases h14 : e.stops.length ≤ 14
 ·exact h14
 ·have hg : e.stops[14]? = some (e.stops[14]'(by omega)) := List.getElem?_eq_getElem (by omega)
  have h1 := key 14 _ hg
  have h2 := (hev.stops 14 _ hg).course.2
  omega
end Go.Proofs.YtjjendjmakhfaaaGreat
