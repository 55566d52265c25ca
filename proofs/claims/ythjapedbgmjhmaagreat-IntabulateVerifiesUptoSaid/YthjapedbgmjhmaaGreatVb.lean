/-
 Verify of chapter 8: places,twins,the notes of tones. Plain law.
 Own work. No Go text.
-/
import Derived.Test.YthjapedbgmjhmaaGreatVa
set_option linter.all false
namespace Go.Proofs.YthjapedbgmjhmaaGreat
open Go Go.Am
structure Fit (P : List (List GTone)) (s : GSetting) : Prop where
 l6 : P.length ≤ 6
 row : ∀ q ∈ P,q.length ≤ 400
 place : ∀ (i : Nat) q,P[i]? = some q → ∃ w,s.where_[i]? = some w ∧ w.length = q.length
 losses : Small s.losses
def plAt (s : GSetting) (i k : Nat) : GPlace := ((s.where_[i]?).bind fun w => w[k]?).getD ⟨0,0⟩
theorem Fit.at {P : List (List GTone)} {s : GSetting} (h : Fit P s) {i k : Nat} {q : List GTone} {t : GTone} (hq : P[i]? = some q) (ht : q[k]? = some t) :
  ∃ w,s.where_[i]? = some w ∧ w[k]? = some (plAt s i k) := by
 obtain ⟨w,h1,h2⟩ := h.place i q hq
 have hk := (List.getElem?_eq_some_iff.1 ht).1
 have hg : w[k]? = some (w[k]'(by omega)) := List.getElem?_eq_getElem (by omega)
 exact ⟨w,h1,by unfold plAt; rw [h1,Option.bind_some,hg]; rfl⟩
def dropS (P : List (List GTone)) (s : GSetting) (i k : Nat) (t : GTone) : Bool :=
 !(lossR s.losses i k 2).2 && (!(lossR s.losses i k 3).2 && (decide ((lossR s.losses i k 1).1.time = t.from_) && eq_GPlace (plAt s i k) ⟨0,0⟩))
theorem f58_eq {P : List (List GTone)} {s : GSetting} (h : Fit P s) {i k : Nat} {q : List GTone} {t : GTone} (hq : P[i]? = some q) (ht : q[k]? = some t) (N : List GNote) (B : List Bool) :
  f58 ⟨P,s,N,B⟩ ⟨i,k⟩ (lossR s.losses i k 1).1 = some (dropS P s i k t) := by
 obtain ⟨w,hw,hp⟩ := h.at hq ht
 unfold f58 dropS
 simp only [f33_at _ _ _ _ _ _ h.losses,Option.bind_some,ixNat hq,ixNat ht,ixNat hw,ixNat hp]
 cases (lossR s.losses i k 2).2 <;> cases (lossR s.losses i k 3).2 <;> cases decide ((lossR s.losses i k 1).1.time = t.from_) <;> rfl
theorem f29_eq {P : List (List GTone)} {s : GSetting} (h : Fit P s) {i k : Nat} {q : List GTone} {t : GTone} (hq : P[i]? = some q) (ht : q[k]? = some t) :
  f29 t s i k = some (dropS P s i k t) := by
 obtain ⟨w,hw,hp⟩ := h.at hq ht
 unfold f29 dropS
 simp only [f28_eq _ _ _ _ h.losses,Option.bind_some,ixNat hw,ixNat hp]
 cases (lossR s.losses i k 2).2 <;> cases (lossR s.losses i k 3).2 <;> cases decide ((lossR s.losses i k 1).1.time = t.from_) <;> rfl
def twinAt (s : GSetting) (t : GTone) (pl : GPlace) (q : List GTone) (i k : Nat) : Bool := match q[k]? with
 | none => false
 | some x => decide (x.from_ = t.from_) && (eq_GPlace (plAt s i k) pl && !(lossR s.losses i k 1).2)
def twinRow (P : List (List GTone)) (s : GSetting) (t : GTone) (pl : GPlace) (i : Nat) : Bool := match P[i]? with
 | none => false
 | some q => (List.range q.length).any (twinAt s t pl q i)
def twinS (P : List (List GTone)) (s : GSetting) (t : GTone) (pl : GPlace) (i : Nat) : Bool := (List.range i).any (twinRow P s t pl)
theorem f59_eq {P : List (List GTone)} {s : GSetting} (h : Fit P s) {i k : Nat} {q : List GTone} {t : GTone} (hq : P[i]? = some q) (ht : q[k]? = some t) (N : List GNote) (B : List Bool) :
  f59 ⟨P,s,N,B⟩ ⟨i,k⟩ = some (twinS P s t (plAt s i k) i) := by
 obtain ⟨w,hw,hp⟩ := h.at hq ht
 have hi := (List.getElem?_eq_some_iff.1 hq).1
 have h6 := h.l6
 unfold f59
 simp only [ixNat hq,ixNat ht,ixNat hw,ixNat hp,Option.bind_some]
 rw [loop_find (List.range i) (twinRow P s t (plAt s i k)) (fun _ _ => true) (small_range (by omega))]
 ·rw [findS_any]
  unfold twinS
  cases (List.range i).any _ <;> rfl
 ·intro j y hy
  obtain ⟨rfl,hj⟩ := get_range hy
  have hg : P[y]? = some (P[y]'(by omega)) := List.getElem?_eq_getElem (by omega)
  have hrow : twinRow P s t (plAt s i k) y = (List.range (P[y]'(by omega)).length).any (twinAt s t (plAt s i k) (P[y]'(by omega)) y) := by unfold twinRow; rw [hg]
  rw [hrow]
  have h4 := h.row _ (List.mem_of_getElem? hg)
  generalize P[y]'(by omega) = q' at hg h4
  have d : decide ((y : Int) < (i : Int)) = true := decide_eq_true (by omega)
  simp only [d,cond_true,ixNat hg,Option.bind_some]
  rw [loop_find (List.range q'.length) (twinAt s t (plAt s i k) q' y) (fun _ _ => .inr (.inr true)) (small_range (by omega))]
  ·rw [findS_any]
   cases (List.range q'.length).any _ <;> rfl
  ·intro l z hz
   obtain ⟨rfl,hl⟩ := get_range hz
   have hx : q'[z]? = some q'[z] := List.getElem?_eq_getElem hl
   obtain ⟨w',hw',hp'⟩ := h.at hg hx
   have hat : twinAt s t (plAt s i k) q' y z = (decide (q'[z].from_ = t.from_) && (eq_GPlace (plAt s y z) (plAt s i k) && !(lossR s.losses y z 1).2)) := by unfold twinAt; rw [hx]
   rw [hat]
   generalize q'[z] = x at hx
   simp only [dltLen hx,cond_true,ixNat hx,Option.bind_some,ixNat hw',ixNat hp',f33_at _ _ _ _ _ _ h.losses]
   by_cases hd : x.from_ = t.from_
   ·have d1 : decide (x.from_ ≠ t.from_) = false := decide_eq_false (by simpa using hd)
    have d2 : decide (x.from_ = t.from_) = true := decide_eq_true hd
    simp only [d1,d2,cond_false,Option.bind_some,Bool.true_and]
    cases eq_GPlace (plAt s y z) (plAt s i k) with
    | false => rfl
    | true => cases (lossR s.losses y z 1).2 <;> rfl
   ·have d1 : decide (x.from_ ≠ t.from_) = true := decide_eq_true hd
    have d2 : decide (x.from_ = t.from_) = false := decide_eq_false hd
    simp only [d1,d2,cond_true,Option.bind_some,Bool.false_and,cond_false]
    rfl
  ·simp
 ·simp
theorem f32_eq {P : List (List GTone)} {s : GSetting} (h : Fit P s) {i k : Nat} {q : List GTone} {t : GTone} (hq : P[i]? = some q) (ht : q[k]? = some t) :
  f32 P s i k = some (twinS P s t (plAt s i k) i) := by
 obtain ⟨w,hw,hp⟩ := h.at hq ht
 have hi := (List.getElem?_eq_some_iff.1 hq).1
 have h6 := h.l6
 unfold f32
 rw [loop_find (List.range i) (twinRow P s t (plAt s i k)) (fun _ _ => true) (small_range (by omega))]
 ·rw [findS_any]
  unfold twinS
  cases (List.range i).any _ <;> rfl
 ·intro j y hy
  obtain ⟨rfl,hj⟩ := get_range hy
  have hg : P[y]? = some (P[y]'(by omega)) := List.getElem?_eq_getElem (by omega)
  have hrow : twinRow P s t (plAt s i k) y = (List.range (P[y]'(by omega)).length).any (twinAt s t (plAt s i k) (P[y]'(by omega)) y) := by unfold twinRow; rw [hg]
  rw [hrow]
  have h4 := h.row _ (List.mem_of_getElem? hg)
  generalize P[y]'(by omega) = q' at hg h4
  have d : decide ((y : Int) < (i : Int)) = true := decide_eq_true (by omega)
  simp only [d,cond_true]
  rw [loop_find (List.range q'.length) (twinAt s t (plAt s i k) q' y) (fun _ _ => .inr (.inr true)) (small_range (by omega))]
  ·rw [findS_any]
   cases (List.range q'.length).any _ <;> rfl
  ·intro l z hz
   obtain ⟨rfl,hl⟩ := get_range hz
   have hx : q'[z]? = some q'[z] := List.getElem?_eq_getElem hl
   obtain ⟨w',hw',hp'⟩ := h.at hg hx
   have hat : twinAt s t (plAt s i k) q' y z = (decide (q'[z].from_ = t.from_) && (eq_GPlace (plAt s y z) (plAt s i k) && !(lossR s.losses y z 1).2)) := by unfold twinAt; rw [hx]
   rw [hat]
   generalize q'[z] = x at hx
   simp only [ixNat hg,Option.bind_some,dltLen hx,cond_true,f28_eq _ _ _ _ h.losses,ixNat hx,ixNat hq,ixNat ht,ixNat hw',ixNat hp',ixNat hw,ixNat hp]
   cases (lossR s.losses y z 1).2 <;> cases decide (x.from_ = t.from_) <;> cases eq_GPlace (plAt s y z) (plAt s i k) <;> rfl
  ·simp [ixNat hg]
 ·simp
theorem steps_asc : ∀ (l : List Int) (e : Int),stepsS e l = true → (∀ (i : Nat) y,l[i]? = some y → e < y ∧ y ≤ 127) ∧ ∀ (i j : Nat) y z,i < j → l[i]? = some y → l[j]? = some z → y < z
 | [],e,_ => ⟨fun i y h => by simp at h,fun i j y z _ h => by simp at h⟩
 | x :: r,e,h => by
  simp only [stepsS,Bool.and_eq_true,Bool.not_eq_true',Bool.or_eq_false_iff,decide_eq_false_iff_not] at h
  obtain ⟨h1,h2⟩ := steps_asc r x h.2
  refine ⟨fun i y hy => ?_,fun i j y z hij hy hz => ?_⟩
  ·cases i with
   | zero =>
    simp only [List.getElem?_cons_zero,Option.some.injEq] at hy
    omega
   | succ i =>
    rw [List.getElem?_cons_succ] at hy
    have := h1 i y hy
    omega
  ·cases j with
   | zero => omega
   | succ j =>
    rw [List.getElem?_cons_succ] at hz
    cases i with
    | zero =>
     simp only [List.getElem?_cons_zero,Option.some.injEq] at hy
     have := h1 j z hz
     omega
    | succ i =>
     rw [List.getElem?_cons_succ] at hy
     exact h2 i j y z (by omega) hy hz
def fretS (a : GInstrument) (c : GCourse) (f : Int) : Int := if f = 0 then c.pitch else c.pitch + (a.steps[(f - 1).toNat]?).getD 0
def atS (a : GInstrument) (pl : GPlace) : Int × Int :=
 if pl.course < 1 ∨ (a.courses.length : Int) < pl.course then (0,12) else match a.courses[(pl.course - 1).toNat]? with
 | none => (0,12)
 | some c => if pl.fret < 0 ∨ c.frets < pl.fret then (0,13) else (fretS a c pl.fret,0)
theorem fret_get {a : GInstrument} (h : instS a = 0) {c : GCourse} (hc : c ∈ a.courses) {f : Int} (h0 : 0 ≤ f) (h1 : f ≤ c.frets) (hf : f ≠ 0) :
  ∃ y,a.steps[(f - 1).toNat]? = some y ∧ 0 < y ∧ y ≤ 127 ∧ ix a.steps (wr (f - 1)) = some y ∧ wr (c.pitch + y) = c.pitch + y := by
 obtain ⟨i1,i2,i3,i4,i5⟩ := instS_ok h
 have hk := courseS_ok (i5 c hc)
 have hg : a.steps[(f - 1).toNat]? = some (a.steps[(f - 1).toNat]'(by omega)) := List.getElem?_eq_getElem (by omega)
 have hb := (steps_asc _ _ i4).1 _ _ hg
 have hw : wr (f - 1) = (((f - 1).toNat : Nat) : Int) := by rw [wr64 (by omega) (by omega)]; omega
 exact ⟨_,hg,hb.1,hb.2,by rw [hw]; exact ixNat hg,wr64 (by omega) (by omega)⟩
theorem fret_inj {a : GInstrument} (h : instS a = 0) {c : GCourse} (hc : c ∈ a.courses) {f g : Int} (h0 : 0 ≤ f) (h1 : f ≤ c.frets) (g0 : 0 ≤ g) (g1 : g ≤ c.frets) (he : fretS a c f = fretS a c g) : f = g := by
 obtain ⟨i1,i2,i3,i4,i5⟩ := instS_ok h
 unfold fretS at he
 by_cases hf : f = 0
 ·by_cases hg : g = 0
  ·omega
  ·obtain ⟨y,h2,h3,_⟩ := fret_get h hc g0 g1 hg
   rw [if_pos hf,if_neg hg,h2] at he
   simp only [Option.getD_some] at he
   omega
 ·obtain ⟨x,k2,k3,_⟩ := fret_get h hc h0 h1 hf
  by_cases hg : g = 0
  ·rw [if_neg hf,if_pos hg,k2] at he
   simp only [Option.getD_some] at he
   omega
  ·obtain ⟨y,h2,h3,_⟩ := fret_get h hc g0 g1 hg
   rw [if_neg hf,if_neg hg,h2,k2] at he
   simp only [Option.getD_some] at he
   have hs := (steps_asc _ _ i4).2
   rcases Nat.lt_trichotomy (f - 1).toNat (g - 1).toNat with hl | hl | hl
   ·have := hs _ _ _ _ hl k2 h2; omega
   ·omega
   ·have := hs _ _ _ _ hl h2 k2; omega
theorem f98_eq (a : GInstrument) (pl : GPlace) (h : instS a = 0) : f98 a pl = some (atS a pl) := by
 obtain ⟨i1,i2,i3,i4,i5⟩ := instS_ok h
 unfold f98 atS
 rw [icheck_eq,h]
 have d0 : decide ((0 : Int) ≠ 0) = false := rfl
 simp only [Option.bind_some,d0,cond_false,orP]
 by_cases h1 : pl.course < 1 ∨ (a.courses.length : Int) < pl.course
 ·have : (decide (pl.course < 1) || decide ((a.courses.length : Int) < pl.course)) = true := by simpa using h1
  rw [this,if_pos h1]
  rfl
 ·have : (decide (pl.course < 1) || decide ((a.courses.length : Int) < pl.course)) = false := by simpa using h1
  rw [this,if_neg h1]
  have hw : wr (pl.course - 1) = (((pl.course - 1).toNat : Nat) : Int) := by rw [wr64 (by omega) (by omega)]; omega
  have hg : a.courses[(pl.course - 1).toNat]? = some (a.courses[(pl.course - 1).toNat]'(by omega)) := List.getElem?_eq_getElem (by omega)
  have hc := List.mem_of_getElem? hg
  generalize a.courses[(pl.course - 1).toNat]'(by omega) = c at hg hc
  simp only [cond_false,hw,ixNat hg,Option.bind_some,orP,hg]
  by_cases h2 : pl.fret < 0 ∨ c.frets < pl.fret
  ·have : (decide (pl.fret < 0) || decide (c.frets < pl.fret)) = true := by simpa using h2
   rw [this,if_pos h2]
   rfl
  ·have : (decide (pl.fret < 0) || decide (c.frets < pl.fret)) = false := by simpa using h2
   rw [this,if_neg h2]
   simp only [cond_false,f146,fretS]
   by_cases h3 : pl.fret = 0
   ·simp [h3]
   ·obtain ⟨y,g1,g2,g3,g4,g5⟩ := fret_get h hc (by omega) (by omega) h3
    rw [decide_eq_false h3]
    simp only [cond_false,g4,Option.bind_some,g5,if_neg h3,g1,Option.getD_some]
theorem f30_eq (a : GInstrument) (pl : GPlace) (h : instS a = 0) : f30 a pl = some (atS a pl) := by
 obtain ⟨i1,i2,i3,i4,i5⟩ := instS_ok h
 unfold f30 atS
 rw [ref_icheck,h]
 have d0 : decide ((0 : Int) ≠ 0) = false := rfl
 simp only [Option.bind_some,d0,cond_false,orP]
 by_cases h1 : pl.course < 1 ∨ (a.courses.length : Int) < pl.course
 ·have : (decide (pl.course < 1) || decide ((a.courses.length : Int) < pl.course)) = true := by simpa using h1
  rw [this,if_pos h1]
  rfl
 ·have : (decide (pl.course < 1) || decide ((a.courses.length : Int) < pl.course)) = false := by simpa using h1
  rw [this,if_neg h1]
  have hw : wr (pl.course - 1) = (((pl.course - 1).toNat : Nat) : Int) := by rw [wr64 (by omega) (by omega)]; omega
  have hg : a.courses[(pl.course - 1).toNat]? = some (a.courses[(pl.course - 1).toNat]'(by omega)) := List.getElem?_eq_getElem (by omega)
  have hc := List.mem_of_getElem? hg
  generalize a.courses[(pl.course - 1).toNat]'(by omega) = c at hg hc
  simp only [cond_false,hw,ixNat hg,Option.bind_some,orP,hg]
  by_cases h2 : pl.fret < 0 ∨ c.frets < pl.fret
  ·have : (decide (pl.fret < 0) || decide (c.frets < pl.fret)) = true := by simpa using h2
   rw [this,if_pos h2]
   rfl
  ·have : (decide (pl.fret < 0) || decide (c.frets < pl.fret)) = false := by simpa using h2
   rw [this,if_neg h2]
   simp only [cond_false,f66,hw,ixNat hg,Option.bind_some,fretS]
   by_cases h3 : pl.fret = 0
   ·simp [h3]
   ·have h4 : decide (0 < pl.fret) = true := decide_eq_true (by omega)
    obtain ⟨y,g1,g2,g3,g4,g5⟩ := fret_get h hc (by omega) (by omega) h3
    rw [h4]
    simp only [cond_true,g4,Option.bind_some,g5,if_neg h3,g1,Option.getD_some]
def hasS (a : GInstrument) (pl : GPlace) (n : Int) : Bool := decide ((atS a pl).2 = 0) && decide ((atS a pl).1 = n)
theorem f101_eq (a : GInstrument) (pl : GPlace) (n : Int) (h : instS a = 0) : f101 a pl n = some (hasS a pl n) := by
 unfold f101 hasS
 rw [f98_eq a pl h]
 simp only [Option.bind_some]
 cases decide ((atS a pl).2 = 0) <;> rfl
def noteP (t : GTone) (pl : GPlace) (n : Int) (x : GNote) : Bool := decide (x.from_ = t.from_) && (decide (x.course = pl.course) && decide (x.pitch = n))
theorem f102_eq (N : List GNote) (t : GTone) (pl : GPlace) (a : GNAudit) (hs : Small N) : f102 N t pl a = some (idxF (noteP t pl (wr (t.pitch + a.s.shift))) N) := by
 unfold f102
 rw [loop_find N (noteP t pl (wr (t.pitch + a.s.shift))) (fun i _ => (i : Int)) hs]
 ·simp only [Option.bind_some,findS_idx,idxF]
  cases N.findIdx? _ <;> simp
 ·intro i y hy
  simp only [dltLen hy,cond_true,ixNat hy,Option.bind_some,f103,noteP]
  cases decide (y.from_ = t.from_) <;> cases decide (y.course = pl.course) <;> cases decide (y.pitch = wr (t.pitch + a.s.shift)) <;> rfl
 ·simp
def stopP (pl : GPlace) (x : GStop) : Bool := decide (x.course = pl.course) && decide (x.fret = pl.fret)
def noteQ (p : GPiece) (t : GTone) (pl : GPlace) (x : GNote) : Bool := decide (x.from_ = t.from_) && (decide (x.course = pl.course) && (((p.events[x.event.toNat]?).map fun e => e.stops.any (stopP pl)).getD false))
theorem f31_eq (N : List GNote) (p : GPiece) (t : GTone) (pl : GPlace) (hs : Small N) (hp : SmallP p) (hN : ∀ n ∈ N,∃ (j : Nat) (e : GEvent),n.event = (j : Int) ∧ p.events[j]? = some e) :
  f31 N p t pl = some (idxF (noteQ p t pl) N) := by
 unfold f31
 rw [loop_find N (noteQ p t pl) (fun i _ => (i : Int)) hs]
 ·simp only [Option.bind_some,findS_idx,idxF]
  cases N.findIdx? _ <;> simp
 ·intro i y hy
  obtain ⟨j,e,h1,h2⟩ := hN y (List.mem_of_getElem? hy)
  have hes := hp.2 e (List.mem_of_getElem? h2)
  simp only [dltLen hy,cond_true,ixNat hy,Option.bind_some,noteQ,h1,ixNat h2,Int.toNat_natCast,h2,Option.map_some,Option.getD_some]
  rw [loop_find e.stops (stopP pl) (fun _ _ => .inr (.inr (.inr (i : Int)))) hes]
  ·rw [findS_any]
   by_cases h3 : y.from_ = t.from_
   ·by_cases h4 : y.course = pl.course
    ·have d1 : decide (y.from_ ≠ t.from_) = false := decide_eq_false (by simpa using h3)
     have d2 : decide (y.course ≠ pl.course) = false := decide_eq_false (by simpa using h4)
     have d3 := decide_eq_true h3
     have d4 := decide_eq_true h4
     simp only [d1,d2,d3,d4,cond_false,Option.bind_some,Bool.true_and]
     cases e.stops.any (stopP pl) <;> rfl
    ·have d1 : decide (y.from_ ≠ t.from_) = false := decide_eq_false (by simpa using h3)
     have d2 : decide (y.course ≠ pl.course) = true := decide_eq_true h4
     have d4 := decide_eq_false h4
     simp only [d1,d2,d4,cond_false,cond_true,Option.bind_some,Bool.false_and,Bool.and_false]
     rfl
   ·have d1 : decide (y.from_ ≠ t.from_) = true := decide_eq_true h3
    have d3 := decide_eq_false h3
    simp only [d1,d3,cond_true,Option.bind_some,Bool.false_and,cond_false]
    rfl
  ·intro k x hx
   simp only [dltLen hx,cond_true,ixNat hx,Option.bind_some,stopP]
   cases decide (x.course = pl.course) <;> cases decide (x.fret = pl.fret) <;> rfl
  ·simp
 ·simp
end Go.Proofs.YthjapedbgmjhmaaGreat
