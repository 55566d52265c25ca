/-
 The notes of a piece: the reference's. Plain law.
 Own work. No Go text.
-/
import Derived.Test.YtjjendjmakhfaaaGreatCd
import Derived.Test.YtjjendjmakhfaaaGreatNb
import Derived.Test.YtjjendjmakhfaaaGreatSs
import Derived.Test.YtjjendjmakhfaaaGreatTP
set_option linter.all false
namespace Go.Proofs.YtjjendjmakhfaaaGreat
open Go Go.Am
theorem need_one {α : Type} {p : Prop} [Decidable p] {x : Option α} (h : p) : need p x = x := if_pos h
theorem valid_of {p : GPiece} (hp : SmallP p) (h : pieceS p = 0) : ValidP p := by
 obtain ⟨e,h1,h2⟩ := check_ok p hp ⟨_,icheck_eq _,fun h => (instS_ok h).1⟩
 rw [prog_check p hp] at h1
 injection h1 with h1
 obtain ⟨a,b,c,d⟩ := h2 (by rw [← h1]; exact h)
 exact ⟨(pieceS_ok h).1,c,d⟩
theorem pit_ref {p : GPiece} (hv : ValidP p) {k : Nat} {last : Int} {s : GStop} (hs : StopOk p k last s) : f79 p.instrument ⟨s.course,s.fret⟩ = some (pitN p s) := by
 obtain ⟨i1,i2,i3,i4,i5⟩ := instS_ok hv.inst
 have hw : wr (s.course - 1) = (((s.course - 1).toNat : Nat) : Int) := by rw [wr64 (by have := hs.course; omega) (by have := hs.course; omega)]; have := hs.course; omega
 have hg : p.instrument.courses[(s.course - 1).toNat]? = some (p.instrument.courses[(s.course - 1).toNat]'(by have := hs.course; omega)) := List.getElem?_eq_getElem (by have := hs.course; omega)
 have hc := courseS_ok (i5 _ (List.mem_of_getElem? hg))
 have ht := hs.top _ hg
 have hf := hs.fret
 have hcs := hs.course
 generalize p.instrument.courses[(s.course - 1).toNat]'(by have := hs.course; omega) = c at hg hc ht
 have d0 : decide ((0 : Int) ≠ 0) = false := rfl
 have e1 : decide (s.course < 1) = false := decide_eq_false (by omega)
 have e2 : decide ((p.instrument.courses.length : Int) < s.course) = false := decide_eq_false (by omega)
 have e3 : decide (s.fret < 0) = false := decide_eq_false (by omega)
 have e4 : decide (c.frets < s.fret) = false := decide_eq_false (by omega)
 unfold pitN f79 f107 f129
 simp only [icheck_eq,hv.inst,Option.bind_some,d0,cond_false,e1,e2,e3,e4,hw,ixNat hg]
 by_cases h : s.fret = 0
 ·have g1 : decide (0 < s.fret) = false := decide_eq_false (by omega)
  have g2 : decide (s.fret = 0) = true := decide_eq_true h
  simp only [g1,g2,cond_false,cond_true,Option.bind_some,Option.getD_some]
 ·have g1 : decide (0 < s.fret) = true := decide_eq_true (by omega)
  have g2 : decide (s.fret = 0) = false := decide_eq_false h
  have hw2 : wr (s.fret - 1) = (((s.fret - 1).toNat : Nat) : Int) := by rw [wr64 (by omega) (by omega)]; omega
  have hg2 : p.instrument.steps[(s.fret - 1).toNat]? = some (p.instrument.steps[(s.fret - 1).toNat]'(by omega)) := List.getElem?_eq_getElem (by omega)
  simp only [g1,g2,cond_false,cond_true,hw2,ixNat hg2,Option.bind_some,Option.getD_some]
theorem open_ref (p : GPiece) (i : Nat) (c : Int) (hp : SmallP p) (hm : p.events.length ≤ 400) (hi : i < p.events.length) : f113 p (i : Int) c = some ((openN p i c : Nat) : Int) := by
 obtain ⟨h1,h2,h3⟩ := findIdx_get (endsC c) (p.events.drop (i + 1))
 rw [List.length_drop] at h3
 suffices hh : ∃ r,f113 p (i : Int) c = some r ∧ r = ((openN p i c : Nat) : Int) by
  obtain ⟨r,e1,e2⟩ := hh
  rw [e1,e2]
 unfold f113
 rw [wrNat (by omega)]
 have hO : openN p i c = i + 1 + (p.events.drop (i + 1)).findIdx (endsC c) := rfl
 generalize (p.events.drop (i + 1)).findIdx (endsC c) = f at h1 h2 h3 hO
 refine bind_ex (P1 := fun t => (t = .inl () ∧ openN p i c = p.events.length) ∨ t = .inr ((openN p i c : Nat) : Int)) ?_ ?_
 ·refine loop_mu (fun s => ∃ j,s = ((i + 1 + j : Nat) : Int) ∧ j ≤ f) (fun s => 4194305 - s.toNat) _ ?_ FUEL _ ⟨0,rfl,Nat.zero_le _⟩ (by unfold FUEL; omega)
  rintro s ⟨j,rfl,hj⟩
  by_cases hl : i + 1 + j < p.events.length
  ·have hd : decide (((i + 1 + j : Nat) : Int) < (p.events.length : Int)) = true := by simp; omega
   have hg : p.events[i + 1 + j]? = some p.events[i + 1 + j] := List.getElem?_eq_getElem hl
   generalize p.events[i + 1 + j] = e at hg
   have hgd : (p.events.drop (i + 1))[j]? = some e := by rw [List.getElem?_drop]; exact hg
   have hcond : ((((ix p.events ((i + 1 + j : Nat) : Int)).bind fun y2 => (f132 y2).bind fun r3 => bif r3 then (some true) else ((f133 y2 c).bind fun r5 => some r5)) : Option Bool)) = some (endsC c e) := by
    simp only [ixNat hg,Option.bind_some,ref_rest,ref_has e c (hp.2 e (List.mem_of_getElem? hg))]
    unfold endsC
    cases restS e <;> rfl
   simp only [hd,cond_true,hcond,Option.bind_some]
   by_cases hjf : j < f
   ·left
    have := h1 j e hgd hjf
    simp only [this,cond_false]
    rw [wrNat (by omega)]
    refine ⟨_,rfl,⟨j + 1,by rw [Nat.add_assoc],by omega⟩,?_⟩
    simp only [Int.toNat_natCast]
    omega
   ·right
    have hjf' : j = f := by omega
    subst hjf'
    have := h2 e hgd
    simp only [this,cond_true]
    exact ⟨_,rfl,.inr (by rw [hO])⟩
  ·right
   have hd : decide (((i + 1 + j : Nat) : Int) < (p.events.length : Int)) = false := by simp; omega
   simp only [hd,cond_false]
   exact ⟨_,rfl,.inl ⟨rfl,by omega⟩⟩
 ·rintro t (⟨rfl,h⟩ | rfl)
  ·exact ⟨_,rfl,by rw [h]⟩
  ·exact ⟨_,rfl,rfl⟩
theorem stay_ref {p : GPiece} (hv : ValidP p) (i : Nat) (h : Int) (h0 : 0 ≤ h) (hi : (i : Int) + h < (p.events.length : Int)) : f112 p (i : Int) h = some ((stayN p i h : Nat) : Int) := by
 have hm := hv.many
 obtain ⟨h1,h2,h3⟩ := findIdx_get (fun e : GEvent => !e.tie) (p.events.drop (i + h.toNat + 1))
 rw [List.length_drop] at h3
 suffices hh : ∃ r,f112 p (i : Int) h = some r ∧ r = ((stayN p i h : Nat) : Int) by
  obtain ⟨r,e1,e2⟩ := hh
  rw [e1,e2]
 unfold f112
 have w : wr (wr ((i : Int) + h) + 1) = ((i + h.toNat + 1 : Nat) : Int) := by
  rw [wr64 (n := (i : Int) + h) (by omega) (by omega),wr64 (by omega) (by omega)]
  omega
 rw [w]
 have hO : stayN p i h = i + h.toNat + 1 + (p.events.drop (i + h.toNat + 1)).findIdx (fun e : GEvent => !e.tie) := rfl
 generalize (p.events.drop (i + h.toNat + 1)).findIdx (fun e : GEvent => !e.tie) = f at h1 h2 h3 hO
 refine bind_ex (P1 := fun t => t = ((stayN p i h : Nat) : Int)) ?_ (fun t ht => ⟨_,rfl,ht⟩)
 refine loop_mu (fun s => ∃ j,s = ((i + h.toNat + 1 + j : Nat) : Int) ∧ j ≤ f) (fun s => 4194305 - s.toNat) _ ?_ FUEL _ ⟨0,rfl,Nat.zero_le _⟩ (by unfold FUEL; omega)
 rintro s ⟨j,rfl,hj⟩
 by_cases hl : i + h.toNat + 1 + j < p.events.length
 ·have hd : decide (((i + h.toNat + 1 + j : Nat) : Int) < (p.events.length : Int)) = true := by simp; omega
  have hg : p.events[i + h.toNat + 1 + j]? = some p.events[i + h.toNat + 1 + j] := List.getElem?_eq_getElem hl
  generalize p.events[i + h.toNat + 1 + j] = e at hg
  have hgd : (p.events.drop (i + h.toNat + 1))[j]? = some e := by rw [List.getElem?_drop]; exact hg
  have hev := hv.ev _ e hg
  have hcond : ((ix p.events ((i + h.toNat + 1 + j : Nat) : Int)).bind fun y2 => bif (decide ((y2.stops.length : Int) = 0)) then (some y2.tie) else (some false)) = some e.tie := by
   simp only [ixNat hg,Option.bind_some]
   cases ht : e.tie with
   | true =>
    rw [(hev.tie ht).2]
    rfl
   | false => cases decide ((e.stops.length : Int) = 0) <;> rfl
  simp only [hd,cond_true,hcond,Option.bind_some]
  by_cases hjf : j < f
  ·left
   have := h1 j e hgd hjf
   simp only [Bool.not_eq_false'] at this
   simp only [this,cond_true]
   rw [wrNat (by omega)]
   refine ⟨_,rfl,⟨j + 1,by rw [Nat.add_assoc (i + h.toNat + 1)],by omega⟩,?_⟩
   simp only [Int.toNat_natCast]
   omega
  ·right
   have hjf' : j = f := by omega
   subst hjf'
   have := h2 e hgd
   simp only [Bool.not_eq_true'] at this
   simp only [this,cond_false]
   exact ⟨_,rfl,by rw [hO]⟩
 ·right
  have hd : decide (((i + h.toNat + 1 + j : Nat) : Int) < (p.events.length : Int)) = false := by simp; omega
  simp only [hd,cond_false,Option.bind_some]
  exact ⟨_,rfl,by rw [hO]; congr 1; omega⟩
theorem end_ref {p : GPiece} (hp : SmallP p) (hv : ValidP p) {k : Nat} {last : Int} {s : GStop} (hk : k < p.events.length) (hs : StopOk p k last s) :
  f80 p (k : Int) s = some ((endN p (k,s) : Nat) : Int) ∧ endN p (k,s) ≤ p.events.length := by
 unfold f80 endN
 by_cases h : 0 < s.fret
 ·have hlb := long_bound s.course (p.events.drop (k + 1)) 0 0 (by omega) (by omega)
  have hh := hs.hold
  unfold longS at hh
  rw [List.length_drop] at hlb
  have hd : decide (0 < s.fret) = true := decide_eq_true h
  have hi : (k : Int) + s.hold < (p.events.length : Int) := by omega
  simp only [hd,cond_true,stay_ref hv k s.hold hh.1 hi,Option.bind_some]
  exact ⟨trivial,(stay_N p k s.hold (by omega)).2.1⟩
 ·have hd : decide (0 < s.fret) = false := decide_eq_false h
  simp only [hd,cond_false,open_ref p k s.course hp hv.many hk,Option.bind_some]
  exact ⟨trivial,(open_ok p k s.course hk).2.1⟩
theorem notes_ref (p : GPiece) (hp : SmallP p) (h : pieceS p = 0) : f36 p = some (notesN p,0) := by
 have hv := valid_of hp h
 have hm := hv.many
 have hol : (onsS p).length = p.events.length + 1 := by unfold onsS; rw [ons_len]; simp; omega
 have ho : onsetS p = (onsS p,0) := by unfold onsetS; rw [if_pos h]
 have d0 : decide ((0 : Int) ≠ 0) = false := rfl
 suffices hh : ∃ r,f36 p = some r ∧ r = (notesN p,0) by
  obtain ⟨r,e1,e2⟩ := hh
  rw [e1,e2]
 unfold f36
 rw [ref_onsets p hp,ho]
 simp only [Option.bind_some,d0,cond_false]
 refine bind_inv (fun k (s : List GNote × Int) => s = ((stopsN p k).map (noteN p),(k : Int))) (fun t : List GNote => t = notesN p) p.events.length (by omega) rfl ?_ ?_ (fun t ht => ⟨_,rfl,by rw [ht]⟩)
 ·rintro k _ hk rfl
  have hg : p.events[k]? = some p.events[k] := List.getElem?_eq_getElem hk
  generalize p.events[k] = e at hg
  have hev := hv.ev k e hg
  have hsl := stops_few hv hg
  have hnl := stopsN_len hv k
  have hsa : stopsAt p k = e.stops.map fun s => (k,s) := by unfold stopsAt; rw [hg]; rfl
  simp only [dltLen hg,cond_true]
  refine bind_invL (fun j (s : List GNote × Int) => s = (((stopsN p k) ++ (e.stops.take j).map fun s => (k,s)).map (noteN p),(j : Int))) (fun t : List GNote => t = (stopsN p (k + 1)).map (noteN p)) e.stops.length (by omega) (by simp) ?_ ?_ ?_
  ·rintro j _ hj rfl
   have hgs : e.stops[j]? = some e.stops[j] := List.getElem?_eq_getElem hj
   generalize e.stops[j] = st at hgs
   have hso := hev.stops j st hgs
   obtain ⟨q1,q2⟩ := end_ref hp hv hk hso
   simp only [ixNat hg,Option.bind_some,dltLen hgs,cond_true,ixNat hgs,pit_ref hv hso,ixNat (onN_get (p := p) (i := k) (by omega)),q1,ixNat (onN_get (p := p) (i := endN p (k,st)) (by omega))]
   rw [need_one (by rw [List.length_map,List.length_append,List.length_map,List.length_take]; unfold maxElems; omega)]
   refine ⟨_,rfl,?_⟩
   rw [take_snoc hgs,wrNat (by omega)]
   simp only [List.map_append,List.map_cons,List.map_nil,← List.append_assoc]
   rfl
  ·rintro _ rfl
   have hd : decide ((e.stops.length : Int) < (e.stops.length : Int)) = false := by simp
   simp only [ixNat hg,Option.bind_some,hd,cond_false]
   refine ⟨_,rfl,?_⟩
   rw [List.take_length]
   simp only [stopsN,hsa]
  ·rintro _ rfl
   exact ⟨_,rfl,by rw [wrNat (by omega)]⟩
 ·rintro _ rfl
  have hd : decide ((p.events.length : Int) < (p.events.length : Int)) = false := by simp
  simp only [hd,cond_false]
  exact ⟨_,rfl,rfl⟩
theorem notes_prog (p : GPiece) (hp : SmallP p) (h : pieceS p = 0) : f33 p = some (notesN p,0) := by
 obtain ⟨r,h1,h2⟩ := notes_exact p (valid_of hp h)
 have ho : onsetS p = (onsS p,0) := by unfold onsetS; rw [if_pos h]
 have d0 : decide ((0 : Int) ≠ 0) = false := rfl
 unfold f33 f73
 rw [prog_onsets p hp,ho]
 simp only [Option.bind_some,d0,cond_false,h1,h2]
end Go.Proofs.YtjjendjmakhfaaaGreat
