/-
 Strings,pitches at a time,concords: the program's and the reference's. Plain law.
 Own work. No Go text.
-/
import Derived.Test.YtjjendjmakhfaaaGreatSu
set_option linter.all false
namespace Go.Proofs.YtjjendjmakhfaaaGreat
open Go Go.Am
theorem steps_asc : ∀ (l : List Int) (e : Int),stepsS e l = true → (∀ (i : Nat) y,l[i]? = some y → e < y ∧ y ≤ 127) ∧ ∀ (i j : Nat) y z,i < j → l[i]? = some y → l[j]? = some z → y < z
 | [],e,_ => ⟨fun i y h => by simp at h,fun i j y z _ h => by simp at h⟩
 | x :: r,e,h => by
  simp only [stepsS,Bool.and_eq_true,Bool.not_eq_true',Bool.or_eq_false_iff,decide_eq_false_iff_not] at h
  obtain ⟨h1,h2⟩ := steps_asc r x h.2
  refine ⟨fun i y hy => ?_,fun i j y z hij hy hz => ?_⟩
  ·cases i with
   | zero =>
    simp only [List.getElem?_cons_zero,Option.some.injEq] at hy
    omega
   | succ i =>
    rw [List.getElem?_cons_succ] at hy
    have := h1 i y hy
    omega
  ·cases j with
   | zero => omega
   | succ j =>
    rw [List.getElem?_cons_succ] at hz
    cases i with
    | zero =>
     simp only [List.getElem?_cons_zero,Option.some.injEq] at hy
     have := h1 j z hz
     omega
    | succ i =>
     rw [List.getElem?_cons_succ] at hy
     exact h2 i j y z (by omega) hy hz
def fretS (a : GInstrument) (c : GCourse) (f : Int) : Int := if f = 0 then c.pitch else c.pitch + (a.steps[(f - 1).toNat]?).getD 0
def atS (a : GInstrument) (pl : GPlace) : Int × Int :=
 if pl.course < 1 ∨ (a.courses.length : Int) < pl.course then (0,12) else match a.courses[(pl.course - 1).toNat]? with
 | none => (0,12)
 | some c => if pl.fret < 0 ∨ c.frets < pl.fret then (0,13) else (fretS a c pl.fret,0)
theorem fret_get {a : GInstrument} (h : instS a = 0) {c : GCourse} (hc : c ∈ a.courses) {f : Int} (h0 : 0 ≤ f) (h1 : f ≤ c.frets) (hf : f ≠ 0) :
  ∃ y,a.steps[(f - 1).toNat]? = some y ∧ 0 < y ∧ y ≤ 127 ∧ ix a.steps (wr (f - 1)) = some y ∧ wr (c.pitch + y) = c.pitch + y := by
 obtain ⟨i1,i2,i3,i4,i5⟩ := instS_ok h
 have hk := courseS_ok (i5 c hc)
 have hg : a.steps[(f - 1).toNat]? = some (a.steps[(f - 1).toNat]'(by omega)) := List.getElem?_eq_getElem (by omega)
 have hb := (steps_asc _ _ i4).1 _ _ hg
 have hw : wr (f - 1) = (((f - 1).toNat : Nat) : Int) := by rw [wr64 (by omega) (by omega)]; omega
 exact ⟨_,hg,hb.1,hb.2,by rw [hw]; exact ixNat hg,wr64 (by omega) (by omega)⟩
theorem f107_eq (a : GInstrument) (pl : GPlace) (h : instS a = 0) : f107 a pl = some (atS a pl) := by
 obtain ⟨i1,i2,i3,i4,i5⟩ := instS_ok h
 unfold f107 atS
 rw [icheck_eq,h]
 have d0 : decide ((0 : Int) ≠ 0) = false := rfl
 simp only [Option.bind_some,d0,cond_false,orP]
 by_cases h1 : pl.course < 1 ∨ (a.courses.length : Int) < pl.course
 ·have : (decide (pl.course < 1) || decide ((a.courses.length : Int) < pl.course)) = true := by simpa using h1
  rw [this,if_pos h1]
  rfl
 ·have : (decide (pl.course < 1) || decide ((a.courses.length : Int) < pl.course)) = false := by simpa using h1
  rw [this,if_neg h1]
  have hw : wr (pl.course - 1) = (((pl.course - 1).toNat : Nat) : Int) := by rw [wr64 (by omega) (by omega)]; omega
  have hg : a.courses[(pl.course - 1).toNat]? = some (a.courses[(pl.course - 1).toNat]'(by omega)) := List.getElem?_eq_getElem (by omega)
  have hc := List.mem_of_getElem? hg
  generalize a.courses[(pl.course - 1).toNat]'(by omega) = c at hg hc
  simp only [cond_false,hw,ixNat hg,Option.bind_some,orP,hg]
  by_cases h2 : pl.fret < 0 ∨ c.frets < pl.fret
  ·have : (decide (pl.fret < 0) || decide (c.frets < pl.fret)) = true := by simpa using h2
   rw [this,if_pos h2]
   rfl
  ·have : (decide (pl.fret < 0) || decide (c.frets < pl.fret)) = false := by simpa using h2
   rw [this,if_neg h2]
   simp only [cond_false,f129,fretS]
   by_cases h3 : pl.fret = 0
   ·simp [h3]
   ·obtain ⟨y,g1,g2,g3,g4,g5⟩ := fret_get h hc (by omega) (by omega) h3
    rw [decide_eq_false h3]
    simp only [cond_false,g4,Option.bind_some,g5,if_neg h3,g1,Option.getD_some]
theorem notes_small {p : GPiece} (hv : ValidP p) : (notesN p).length ≤ 5600 := by
 have := stopsN_len hv p.events.length
 have := hv.many
 simp only [notesN,List.length_map]
 omega
theorem note_mem {p : GPiece} {x : GNote} (h : x ∈ notesN p) : ∃ (j : Nat) (e : GEvent) (s : GStop),x = noteN p (j,s) ∧ p.events[j]? = some e ∧ s ∈ e.stops := by
 obtain ⟨⟨j,s⟩,h1,rfl⟩ := List.mem_map.1 h
 obtain ⟨_,e,h2,h3⟩ := mem_stopsN h1
 exact ⟨j,e,s,rfl,h2,h3⟩
theorem at_stop {p : GPiece} (hv : ValidP p) {j : Nat} {e : GEvent} {s : GStop} (he : p.events[j]? = some e) (hs : s ∈ e.stops) :
  ∃ c,p.instrument.courses[(s.course - 1).toNat]? = some c ∧ c ∈ p.instrument.courses ∧ 1 ≤ s.course ∧ s.course ≤ (p.instrument.courses.length : Int) ∧ 0 ≤ s.fret ∧ s.fret ≤ c.frets ∧ pitN p s = fretS p.instrument c s.fret := by
 obtain ⟨k,hk⟩ := List.getElem?_of_mem hs
 have hst := (hv.ev j e he).stops k s hk
 have h1 := hst.course
 have h2 := hst.fret
 have hg : p.instrument.courses[(s.course - 1).toNat]? = some (p.instrument.courses[(s.course - 1).toNat]'(by omega)) := List.getElem?_eq_getElem (by omega)
 have h3 := hst.top _ hg
 refine ⟨_,hg,List.mem_of_getElem? hg,h1.1,h1.2,h2,h3,?_⟩
 unfold pitN
 rw [f107_eq _ _ hv.inst]
 unfold atS
 rw [if_neg (by simp only [not_or]; omega)]
 simp only [hg]
 rw [if_neg (by simp only [not_or]; omega)]
 rfl
theorem fret_top {a : GInstrument} (h : instS a = 0) {c : GCourse} (hc : c ∈ a.courses) {f : Int} (h0 : 0 ≤ f) (h1 : f ≤ c.frets) : 0 ≤ fretS a c f ∧ fretS a c f ≤ 127 ∧ (c.octave = true → fretS a c f + 12 ≤ 127) := by
 obtain ⟨i1,i2,i3,i4,i5⟩ := instS_ok h
 have hk := courseS_ok (i5 c hc)
 have key : fretS a c f ≤ pitchC a.steps c := by
  unfold fretS pitchC
  by_cases hf : f = 0
  ·rw [if_pos hf]
   by_cases hz : 0 < c.frets
   ·obtain ⟨y,g1,g2,g3,g4,g5⟩ := fret_get h hc (f := c.frets) (by omega) (Int.le_refl _) (by omega)
    rw [decide_eq_true hz,g1]
    simp only [cond_true,Option.getD_some,g5]
    omega
   ·rw [decide_eq_false hz]
    exact Int.le_refl _
  ·rw [if_neg hf]
   obtain ⟨x,k1,k2,k3,k4,k5⟩ := fret_get h hc h0 h1 hf
   obtain ⟨y,g1,g2,g3,g4,g5⟩ := fret_get h hc (f := c.frets) (by omega) (Int.le_refl _) (by omega)
   rw [decide_eq_true (by omega),g1,k1]
   simp only [cond_true,Option.getD_some,g5]
   have hs := (steps_asc _ _ i4).2
   rcases Nat.lt_or_ge (f - 1).toNat (c.frets - 1).toNat with hl | hl
   ·have := hs _ _ _ _ hl k1 g1; omega
   ·have e : (f - 1).toNat = (c.frets - 1).toNat := by omega
    rw [e,g1] at k1
    cases k1
    exact Int.le_refl _
 have hpos : 0 ≤ fretS a c f := by
  unfold fretS
  by_cases hf : f = 0
  ·rw [if_pos hf]; omega
  ·obtain ⟨x,k1,k2,k3,k4,k5⟩ := fret_get h hc h0 h1 hf
   rw [if_neg hf,k1]
   simp only [Option.getD_some]
   omega
 have htop := hk.2.2.2.2
 unfold topS at htop
 cases ho : c.octave with
 | false =>
  rw [ho] at htop
  simp only [cond_false] at htop
  exact ⟨hpos,by omega,fun e => by cases e⟩
 | true =>
  rw [ho] at htop
  simp only [cond_true] at htop
  have hb : pitchC a.steps c ≤ 1000 := by
   unfold pitchC
   by_cases hz : 0 < c.frets
   ·obtain ⟨y,g1,g2,g3,g4,g5⟩ := fret_get h hc (f := c.frets) (by omega) (Int.le_refl _) (by omega)
    rw [decide_eq_true hz,g1]
    simp only [cond_true,Option.getD_some,g5]
    omega
   ·rw [decide_eq_false hz]
    simp only [cond_false]
    omega
  rw [wr64 (by omega) (by omega)] at htop
  exact ⟨hpos,by omega,fun _ => by omega⟩
def strN (p : GPiece) (n : GNote) : List GNote := match p.instrument.courses[(n.course - 1).toNat]? with
 | some c => bif c.octave then [n,⟨n.event,n.course,wr (n.pitch + 12),n.from_,n.to_⟩] else [n]
 | none => [n]
def stringsF (p : GPiece) : List GNote := foldE (fun _ (a : List GNote) n => (.inl (a ++ strN p n) : List GNote ⊕ List GNote)) (fun a => a) 0 (notesN p) []
theorem str_fold (p : GPiece) : ∀ (l : List GNote) (k : Nat) (a : List GNote),foldE (fun _ (a : List GNote) n => (.inl (a ++ strN p n) : List GNote ⊕ List GNote)) (fun a => a) k l a = a ++ l.flatMap (strN p)
 | [],_,a => by simp [foldE]
 | n :: r,k,a => by simp only [foldE,str_fold p r,List.flatMap_cons,List.append_assoc]
theorem strings_eq (p : GPiece) : stringsF p = (notesN p).flatMap (strN p) := by unfold stringsF; rw [str_fold]; rfl
theorem str_note {p : GPiece} (hv : ValidP p) {n x : GNote} (hn : n ∈ notesN p) (hx : x ∈ strN p n) : 0 ≤ x.pitch ∧ x.pitch ≤ 127 := by
 obtain ⟨j,e,s,rfl,he,hs⟩ := note_mem hn
 obtain ⟨c,c1,c2,c3,c4,c5,c6,c7⟩ := at_stop hv he hs
 obtain ⟨b1,b2,b3⟩ := fret_top hv.inst c2 c5 c6
 unfold strN at hx
 have e1 : (noteN p (j,s)).course = s.course := rfl
 have e2 : (noteN p (j,s)).pitch = pitN p s := rfl
 rw [e1,c1] at hx
 simp only at hx
 cases ho : c.octave with
 | false =>
  rw [ho] at hx
  simp only [cond_false,List.mem_cons,List.not_mem_nil,or_false] at hx
  subst hx
  rw [e2,c7]
  exact ⟨b1,b2⟩
 | true =>
  rw [ho] at hx
  simp only [cond_true,List.mem_cons,List.not_mem_nil,or_false] at hx
  have := b3 ho
  rcases hx with rfl | rfl
  ·rw [e2,c7]
   exact ⟨b1,b2⟩
  ·simp only
   rw [e2,c7,wr64 (by omega) (by omega)]
   omega
theorem strings_pitch {p : GPiece} (hv : ValidP p) : ∀ x ∈ stringsF p,0 ≤ x.pitch ∧ x.pitch ≤ 127 := by
 intro x hx
 rw [strings_eq,List.mem_flatMap] at hx
 obtain ⟨n,hn,hx⟩ := hx
 exact str_note hv hn hx
theorem strN_len (p : GPiece) (n : GNote) : (strN p n).length ≤ 2 := by
 unfold strN
 split
 ·rename_i c _
  cases c.octave <;> simp
 ·simp
theorem flat_len {p : GPiece} : ∀ (l : List GNote),(l.flatMap (strN p)).length ≤ 2 * l.length
 | [] => by simp
 | n :: r => by
  have := flat_len (p := p) r
  have := strN_len p n
  simp only [List.flatMap_cons,List.length_append,List.length_cons]
  omega
theorem strings_len {p : GPiece} (hv : ValidP p) : (stringsF p).length ≤ 11200 := by
 rw [strings_eq]
 have := flat_len (p := p) (notesN p)
 have := notes_small hv
 omega
theorem course_at {p : GPiece} (hv : ValidP p) {n : GNote} (hn : n ∈ notesN p) : ∃ c,ix p.instrument.courses (wr (n.course - 1)) = some c ∧ p.instrument.courses[(n.course - 1).toNat]? = some c := by
 obtain ⟨j,e,s,rfl,he,hs⟩ := note_mem hn
 obtain ⟨c,c1,c2,c3,c4,_⟩ := at_stop hv he hs
 obtain ⟨i1,_⟩ := instS_ok hv.inst
 have e1 : (noteN p (j,s)).course = s.course := rfl
 rw [e1]
 have hw : wr (s.course - 1) = (((s.course - 1).toNat : Nat) : Int) := by rw [wr64 (by omega) (by omega)]; omega
 exact ⟨c,by rw [hw]; exact ixNat c1,c1⟩
theorem f93_eq (p : GPiece) (hp : SmallP p) (h : pieceS p = 0) : f93 p = some (stringsF p,0) := by
 have hv := valid_of hp h
 have hN := notes_small hv
 unfold f93
 rw [notes_prog p hp h]
 have d0 : decide ((0 : Int) ≠ 0) = false := rfl
 simp only [Option.bind_some,d0,cond_false]
 rw [loop_fold (fun (a : List GNote) i => (a,i)) (fun _ a n => .inl (a ++ strN p n)) (fun a => a) (notesN p) (fun k a => a.length ≤ 2 * k) [] (small_fuel (by simp only [Small]; omega)) (by simp)]
 ·rfl
 ·intro i a n hn ha
  have hi := (List.getElem?_eq_some_iff.1 hn).1
  refine ⟨?_,fun a' e => ?_⟩
  ·obtain ⟨c,c1,c2⟩ := course_at hv (List.mem_of_getElem? hn)
   simp only [dltLen hn,cond_true,ixNat hn,Option.bind_some]
   rw [need_one (by simp only [maxElems]; omega)]
   simp only [c1,Option.bind_some,strN,c2]
   cases c.octave with
   | false => simp only [cond_false,Option.bind_some,stepW,wrNat (show i ≤ 4194304 by omega)]
   | true =>
    simp only [cond_true]
    rw [need_one (by simp only [maxElems,List.length_append,List.length_cons,List.length_nil]; omega)]
    simp only [Option.bind_some,stepW,wrNat (show i ≤ 4194304 by omega),List.append_assoc,List.cons_append,List.nil_append]
  ·cases e
   have := strN_len p n
   simp only [List.length_append]
   omega
 ·intro a _; simp
theorem f98_eq (p : GPiece) (hp : SmallP p) (h : pieceS p = 0) : f98 p = some (stringsF p,0) := by
 have hv := valid_of hp h
 have hN := notes_small hv
 unfold f98
 rw [notes_ref p hp h]
 have d0 : decide ((0 : Int) ≠ 0) = false := rfl
 simp only [Option.bind_some,d0,cond_false]
 rw [loop_fold (fun (a : List GNote) i => (a,i)) (fun _ a n => .inl (a ++ strN p n)) (fun a => a) (notesN p) (fun k a => a.length ≤ 2 * k) [] (small_fuel (by simp only [Small]; omega)) (by simp)]
 ·rfl
 ·intro i a n hn ha
  have hi := (List.getElem?_eq_some_iff.1 hn).1
  refine ⟨?_,fun a' e => ?_⟩
  ·obtain ⟨c,c1,c2⟩ := course_at hv (List.mem_of_getElem? hn)
   simp only [dltLen hn,cond_true,ixNat hn,Option.bind_some]
   rw [need_one (by simp only [maxElems]; omega)]
   simp only [c1,Option.bind_some,strN,c2]
   cases c.octave with
   | false => simp only [cond_false,Option.bind_some,stepW,wrNat (show i ≤ 4194304 by omega)]
   | true =>
    simp only [cond_true]
    rw [need_one (by simp only [maxElems,List.length_append,List.length_cons,List.length_nil]; omega)]
    simp only [Option.bind_some,stepW,wrNat (show i ≤ 4194304 by omega),List.append_assoc,List.cons_append,List.nil_append]
  ·cases e
   have := strN_len p n
   simp only [List.length_append]
   omega
 ·intro a _; simp
end Go.Proofs.YtjjendjmakhfaaaGreat
