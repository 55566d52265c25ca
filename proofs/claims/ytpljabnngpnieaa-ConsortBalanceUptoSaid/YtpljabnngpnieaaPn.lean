/-
 Plain laws of the player,part 3: instruments,times,notes.
 Own work. No Go text.
-/
import Derived.Test.YtpljabnngpnieaaPp
set_option linter.all false
namespace Go.Proofs.Ytpljabnngpnieaa
open Go Go.Am
def stepsS : Int → List Int → Bool
 | _,[] => true
 | e,y :: r => !(decide (y ≤ e) || decide (127 < y)) && stepsS y r
def pitchS (s : List Int) (c : GCourse) : Int := bif decide (0 < c.frets) then wr (c.pitch + (s[(c.frets - 1).toNat]?).getD 0) else c.pitch
def topS (s : List Int) (c : GCourse) : Int := bif c.octave then wr (pitchS s c + 12) else pitchS s c
def courseS (s : List Int) (c : GCourse) : Int :=
 bif decide (c.frets < 0) || decide ((s.length : Int) < c.frets) then 13 else bif decide (c.pitch < 0) || (decide (127 < c.pitch) || decide (127 < topS s c)) then 10 else 0
def badC (s : List Int) (c : GCourse) : Bool := decide (courseS s c ≠ 0)
def instS (a : GInstrument) : Int :=
 bif decide (14 < a.courses.length) || decide (18 < a.steps.length) then 2 else bif decide (a.courses.length = 0) then 11 else bif stepsS 0 a.steps then
  (match a.courses.find? (badC a.steps) with
   | some c => courseS a.steps c
   | none => 0)
 else 11
theorem highest_eq (a : GInstrument) (c : GCourse) (h1 : c.frets ≤ (a.steps.length : Int)) (h2 : a.steps.length ≤ 18) : f85 a c = some (topS a.steps c) := by
 unfold f85 topS pitchS
 by_cases h : 0 < c.frets
 ·have hw : wr (c.frets - 1) = (((c.frets - 1).toNat : Nat) : Int) := by rw [wr64 (by omega) (by omega)]; omega
  have hl : (c.frets - 1).toNat < a.steps.length := by omega
  have hg : a.steps[(c.frets - 1).toNat]? = some a.steps[(c.frets - 1).toNat] := List.getElem?_eq_getElem hl
  have hd : decide (0 < c.frets) = true := by simpa using h
  simp only [hd,cond_true,hw,ixNat hg,hg,Option.bind_some,Option.getD_some]
  cases c.octave <;> rfl
 ·have hd : decide (0 < c.frets) = false := by simpa using h
  simp only [hd,cond_false,Option.bind_some]
  cases c.octave <;> rfl
theorem fold_steps : ∀ (l : List Int) (k : Nat) (e : Int),foldE (fun _ (e : Int) y => (bif decide (y ≤ e) || decide (127 < y) then .inr (.inr 11) else .inl y : Int ⊕ (Unit ⊕ Int))) (fun _ => .inl ()) k l e = bif stepsS e l then .inl () else .inr 11
 | [],_,_ => rfl
 | y :: r,k,e => by
  simp only [foldE,stepsS]
  cases (decide (y ≤ e) || decide (127 < y)) with
  | true => rfl
  | false => simp only [cond_false,Bool.not_false,Bool.true_and]; exact fold_steps r (k + 1) y
theorem many_c (a b : Nat) : ((bif (decide (14 < (a : Int))) then (some true) else (some (decide (18 < (b : Int))))) : Option Bool) = some (decide (14 < a) || decide (18 < b)) := by
 have e1 : decide (14 < (a : Int)) = decide (14 < a) := dltN 14 a
 have e2 : decide (18 < (b : Int)) = decide (18 < b) := dltN 18 b
 rw [e1,e2]
 cases decide (14 < a) <;> rfl
theorem icheck_eq (a : GInstrument) : f73 a = some (instS a) := by
 unfold f73 instS
 rw [many_c,lenP]
 simp only [Option.bind_some]
 cases hm : (decide (14 < a.courses.length) || decide (18 < a.steps.length)) with
 | true => rfl
 | false =>
  simp only [Bool.or_eq_false_iff,decide_eq_false_iff_not] at hm
  have hs : Small a.steps := by simp only [Small]; omega
  have hc : Small a.courses := by simp only [Small]; omega
  simp only [cond_false]
  cases decide (a.courses.length = 0) with
  | true => rfl
  | false =>
   simp only [cond_false]
   rw [loop_fold (fun (e : Int) i => (e,i)) (fun _ (e : Int) y => (bif decide (y ≤ e) || decide (127 < y) then .inr (.inr 11) else .inl y : Int ⊕ (Unit ⊕ Int))) (fun _ => .inl ()) a.steps (fun _ _ => True) 0 (small_fuel hs) trivial]
   ·rw [fold_steps]
    simp only [Option.bind_some]
    cases stepsS 0 a.steps with
    | false => rfl
    | true =>
     simp only [cond_true,Sum.elim_inl]
     rw [loop_find a.courses (badC a.steps) (fun _ c => courseS a.steps c) hc]
     ·simp only [Option.bind_some,findS_find]
      cases a.courses.find? (badC a.steps) <;> rfl
     ·intro i c hcc
      simp only [dltLen hcc,cond_true,ixNat hcc,Option.bind_some,orP,badC]
      cases hb : (decide (c.frets < 0) || decide ((a.steps.length : Int) < c.frets)) with
      | true =>
       have : courseS a.steps c = 13 := by unfold courseS; rw [hb]; rfl
       rw [this]; rfl
      | false =>
       have hb' := hb
       simp only [Bool.or_eq_false_iff,decide_eq_false_iff_not] at hb
       simp only [cond_false,highest_eq a c (by omega) (by omega),Option.bind_some,orP]
       cases hb2 : (decide (c.pitch < 0) || (decide (127 < c.pitch) || decide (127 < topS a.steps c))) with
       | true =>
        have : courseS a.steps c = 10 := by unfold courseS; rw [hb',hb2]; rfl
        rw [this]; rfl
       | false =>
        have : courseS a.steps c = 0 := by unfold courseS; rw [hb',hb2]; rfl
        rw [this]; rfl
     ·simp
   ·intro i e y hy _
    refine ⟨?_,fun _ _ => trivial⟩
    simp only [dltLen hy,cond_true,ixNat hy,Option.bind_some,orP,wrLen hs hy]
    cases (decide (y ≤ e) || decide (127 < y)) <;> rfl
   ·intro e _; simp
theorem instS_ok {a : GInstrument} (h : instS a = 0) : a.courses.length ≤ 14 ∧ a.steps.length ≤ 18 ∧ 0 < a.courses.length ∧ stepsS 0 a.steps = true ∧ ∀ c ∈ a.courses,courseS a.steps c = 0 := by
 unfold instS at h
 cases hm : (decide (14 < a.courses.length) || decide (18 < a.steps.length)) with
 | true => rw [hm] at h; cases h
 | false =>
  rw [hm] at h
  simp only [Bool.or_eq_false_iff,decide_eq_false_iff_not] at hm
  simp only [cond_false] at h
  cases h0 : decide (a.courses.length = 0) with
  | true => rw [h0] at h; cases h
  | false =>
   rw [h0] at h
   simp only [cond_false] at h
   cases hst : stepsS 0 a.steps with
   | false => rw [hst] at h; cases h
   | true =>
    rw [hst] at h
    simp only [cond_true] at h
    simp only [decide_eq_false_iff_not] at h0
    refine ⟨by omega,by omega,by omega,rfl,fun c hc => ?_⟩
    cases hf : a.courses.find? (badC a.steps) with
    | some d =>
     rw [hf] at h
     have := List.find?_some hf
     simp only [badC,decide_eq_true_eq] at this
     exact absurd h this
    | none =>
     have := List.find?_eq_none.1 hf c hc
     simpa [badC] using this
theorem courseS_ok {s : List Int} {c : GCourse} (h : courseS s c = 0) : 0 ≤ c.frets ∧ c.frets ≤ (s.length : Int) ∧ 0 ≤ c.pitch ∧ c.pitch ≤ 127 ∧ topS s c ≤ 127 := by
 unfold courseS at h
 cases hb : (decide (c.frets < 0) || decide ((s.length : Int) < c.frets)) with
 | true => rw [hb] at h; cases h
 | false =>
  rw [hb] at h
  cases hb2 : (decide (c.pitch < 0) || (decide (127 < c.pitch) || decide (127 < topS s c))) with
  | true => rw [hb2] at h; cases h
  | false =>
   simp only [Bool.or_eq_false_iff,decide_eq_false_iff_not] at hb hb2
   omega
theorem at_ok (a : GInstrument) (pl : GPlace) (h : instS a = 0) : ∃ r,f68 a pl = some r := by
 obtain ⟨i1,i2,i3,i4,i5⟩ := instS_ok h
 unfold f68
 rw [icheck_eq,h]
 have d0 : decide ((0 : Int) ≠ 0) = false := rfl
 simp only [Option.bind_some,d0,cond_false,orP]
 cases h1 : (decide (pl.course < 1) || decide ((a.courses.length : Int) < pl.course)) with
 | true => exact ⟨_,rfl⟩
 | false =>
  simp only [Bool.or_eq_false_iff,decide_eq_false_iff_not] at h1
  have hw : wr (pl.course - 1) = (((pl.course - 1).toNat : Nat) : Int) := by rw [wr64 (by omega) (by omega)]; omega
  have hg : a.courses[(pl.course - 1).toNat]? = some (a.courses[(pl.course - 1).toNat]'(by omega)) := List.getElem?_eq_getElem (by omega)
  have hc := courseS_ok (i5 _ (List.mem_of_getElem? hg))
  generalize a.courses[(pl.course - 1).toNat]'(by omega) = c at hg hc
  simp only [cond_false,hw,ixNat hg,Option.bind_some,orP]
  cases h2 : (decide (pl.fret < 0) || decide (c.frets < pl.fret)) with
  | true => exact ⟨_,rfl⟩
  | false =>
   simp only [Bool.or_eq_false_iff,decide_eq_false_iff_not] at h2
   simp only [cond_false,f82]
   by_cases h3 : pl.fret = 0
   ·have d3 : decide (pl.fret = 0) = true := by simpa using h3
    rw [d3]; exact ⟨_,rfl⟩
   ·have d3 : decide (pl.fret = 0) = false := by simpa using h3
    have hw2 : wr (pl.fret - 1) = (((pl.fret - 1).toNat : Nat) : Int) := by rw [wr64 (by omega) (by omega)]; omega
    have hg2 : a.steps[(pl.fret - 1).toNat]? = some (a.steps[(pl.fret - 1).toNat]'(by omega)) := List.getElem?_eq_getElem (by omega)
    rw [d3,hw2,ixNat hg2]; exact ⟨_,rfl⟩
def onsStep (a : List Int × Int) (e : GEvent) : List Int × Int :=
 (a.1 ++ [wr ((a.1.getLast?).getD 0 + bif decide (0 < tickS e.sign) then tickS e.sign else a.2)],bif decide (0 < tickS e.sign) then tickS e.sign else a.2)
def onsS (p : GPiece) : List Int := (p.events.foldl onsStep ([0],0)).1
theorem ons_len : ∀ (l : List GEvent) (a : List Int × Int),(l.foldl onsStep a).1.length = a.1.length + l.length
 | [],a => by simp
 | e :: r,a => by
  rw [List.foldl_cons,ons_len r]
  simp [onsStep]; omega
theorem f76_eq (p : GPiece) (h : p.events.length ≤ 400) : f76 [0] p = some (onsS p) := by
 have hs : Small p.events := by simp only [Small]; omega
 unfold f76 onsS
 rw [loop_fold (fun (a : List Int × Int) i => (a.1,a.2,i)) (fun _ a (e : GEvent) => (.inl (onsStep a e) : (List Int × Int) ⊕ (List Int ⊕ List Int))) (fun a => .inl a.1) p.events (fun i a => a.1.length = i + 1) ([0],0) (small_fuel hs) (by simp)]
 ·rw [foldE_inl onsStep]; rfl
 ·intro i a e he ha
  have hil := (List.getElem?_eq_some_iff.1 he).1
  constructor
  ·have hg : a.1[i]? = some ((a.1.getLast?).getD 0) := by
    have h1 : a.1.getLast? = a.1[a.1.length - 1]? := List.getLast?_eq_getElem?
    rw [ha] at h1
    have h2 : a.1[i]? = some (a.1[i]'(by omega)) := List.getElem?_eq_getElem (by omega)
    simp only [Nat.add_sub_cancel] at h1
    rw [h1,h2]; rfl
   have hm : a.1.length + 1 ≤ maxElems := by unfold maxElems; omega
   have e1 : ((bif (decide (0 < tickS e.sign)) then (some (tickS e.sign)) else (some a.2)) : Option Int) = some (bif decide (0 < tickS e.sign) then tickS e.sign else a.2) := by cases decide (0 < tickS e.sign) <;> rfl
   simp only [dltLen he,cond_true,ixNat he,Option.bind_some,(tick_ok e.sign).1,e1,ixNat hg,need,if_pos hm,wrLen hs he]
   rfl
  ·intro a' hh
   cases hh
   simp [onsStep,ha]
 ·intro a _; simp
def ascF : Int → List Int → Prop
 | _,[] => True
 | x,y :: r => x < y ∧ y ≤ x + 576 ∧ ascF y r
theorem ons_asc : ∀ (l : List GEvent) (pre : List Int) (x f : Int),(0 < f ∨ ∀ e,l.head? = some e → 0 < tickS e.sign) → 0 ≤ f → f ≤ 576 → 0 ≤ x → x + 576 * l.length ≤ 10000000 →
  ∃ s,(l.foldl onsStep (pre ++ [x],f)).1 = pre ++ x :: s ∧ ascF x s ∧ s.length = l.length
 | [],pre,x,f,_,_,_,_,_ => ⟨[],rfl,trivial,rfl⟩
 | e :: r,pre,x,f,h,h0,h1,hx,hb => by
  obtain ⟨_,t0,t1⟩ := tick_ok e.sign
  simp only [List.length_cons] at hb
  have hf : 0 < (bif decide (0 < tickS e.sign) then tickS e.sign else f) ∧ (bif decide (0 < tickS e.sign) then tickS e.sign else f) ≤ 576 := by
   by_cases ht : 0 < tickS e.sign
   ·simp [ht]; omega
   ·have : decide (0 < tickS e.sign) = false := by simpa using ht
    rw [this,cond_false]
    rcases h with h | h
    ·omega
    ·exact absurd (h e rfl) ht
  have hl : ((pre ++ [x]).getLast?).getD 0 = x := by simp
  have hstep : onsStep (pre ++ [x],f) e = ((pre ++ [x]) ++ [x + (bif decide (0 < tickS e.sign) then tickS e.sign else f)],bif decide (0 < tickS e.sign) then tickS e.sign else f) := by
   unfold onsStep
   simp only [hl]
   rw [wr64 (by omega) (by omega)]
  obtain ⟨s,g1,g2,g3⟩ := ons_asc r (pre ++ [x]) (x + (bif decide (0 < tickS e.sign) then tickS e.sign else f)) (bif decide (0 < tickS e.sign) then tickS e.sign else f) (.inl hf.1) (by omega) hf.2 (by omega) (by omega)
  refine ⟨_ :: s,?_,⟨by omega,by omega,g2⟩,by simp [g3]⟩
  rw [List.foldl_cons,hstep,g1]
  simp
theorem asc_bounds : ∀ (s : List Int) (x : Int),ascF x s → ∀ (i : Nat) y,(x :: s)[i]? = some y → x ≤ y ∧ y ≤ x + 576 * i
 | s,x,h,0,y,hy => by simp at hy; omega
 | [],x,h,i + 1,y,hy => by simp at hy
 | z :: s,x,h,i + 1,y,hy => by
  have := asc_bounds s z h.2.2 i y (by simpa using hy)
  have h1 := h.1
  have h2 := h.2.1
  omega
theorem asc_lt : ∀ (s : List Int) (x : Int),ascF x s → ∀ (i j : Nat) y z,i < j → (x :: s)[i]? = some y → (x :: s)[j]? = some z → y < z
 | s,x,h,i,0,y,z,hij,_,_ => by omega
 | [],x,h,i,j + 1,y,z,hij,_,hz => by simp at hz
 | w :: s,x,h,0,j + 1,y,z,hij,hy,hz => by
  simp at hy
  have := (asc_bounds s w h.2.2 j z (by simpa using hz)).1
  have h1 := h.1
  omega
 | w :: s,x,h,i + 1,j + 1,y,z,hij,hy,hz => asc_lt s w h.2.2 i j y z (by omega) (by simpa using hy) (by simpa using hz)
theorem loop_inv {σ τ : Type} {body : σ → Option (σ ⊕ τ)} (I : Nat → σ → Prop) (T : τ → Prop) (m : Nat) (hb : ∀ k s,k < m → I k s → ∃ s',body s = some (.inl s') ∧ I (k + 1) s') (he : ∀ s,I m s → ∃ t,body s = some (.inr t) ∧ T t) :
  ∀ (d k n : Nat) s,k + d = m → d < n → I k s → ∃ t,loopN body n s = some t ∧ T t
 | 0,k,n,s,hk,hn,hi => by
  have : k = m := by omega
  subst this
  cases n with
  | zero => omega
  | succ n =>
   obtain ⟨t,h1,h2⟩ := he s hi
   exact ⟨t,by simp only [loopN,h1],h2⟩
 | d + 1,k,n,s,hk,hn,hi => by
  cases n with
  | zero => omega
  | succ n =>
   obtain ⟨s',h1,h2⟩ := hb k s (by omega) hi
   obtain ⟨t,h3,h4⟩ := loop_inv I T m hb he d (k + 1) n s' (by omega) (by omega) h2
   exact ⟨t,by simp only [loopN,h1]; exact h3,h4⟩
theorem bind_inv {σ τ R : Type} {body : σ → Option (σ ⊕ τ)} {s0 : σ} {f : τ → Option R} {Q : R → Prop} (I : Nat → σ → Prop) (T : τ → Prop) (m : Nat) (hm : m ≤ 4194304) (h0 : I 0 s0)
  (hb : ∀ k s,k < m → I k s → ∃ s',body s = some (.inl s') ∧ I (k + 1) s') (he : ∀ s,I m s → ∃ t,body s = some (.inr t) ∧ T t) (hf : ∀ t,T t → ∃ r,f t = some r ∧ Q r) : ∃ r,(loopN body FUEL s0).bind f = some r ∧ Q r := by
 obtain ⟨t,h1,h2⟩ := loop_inv I T m hb he m 0 FUEL s0 (by omega) (by unfold FUEL; omega) h0
 obtain ⟨r,h3,h4⟩ := hf t h2
 exact ⟨r,by rw [h1]; exact h3,h4⟩
def Rings (ring : List Int) (notes : List GNote) : Prop := ring.length = 15 ∧ ∀ v ∈ ring,0 ≤ v ∧ v ≤ (notes.length : Int)
theorem stop_one (c : Nat) (at_ : Int) (ring : List Int) (notes : List GNote) (hc : c < 15) (hr : Rings ring notes) (hn : notes.length ≤ 1000000) :
  ∃ n' r',f67 (c : Int) at_ ring notes = some (n',r') ∧ n'.length = notes.length ∧ Rings r' n' := by
 obtain ⟨h1,h2⟩ := hr
 have hg : ring[c]? = some (ring[c]'(by omega)) := List.getElem?_eq_getElem (by omega)
 have hv := h2 _ (List.mem_of_getElem? hg)
 have hc15 : (c : Int) < 15 := by omega
 generalize ring[c]'(by omega) = v at hg hv
 unfold f67
 simp only [need,if_pos hc15,ixNat hg,Option.bind_some]
 by_cases h0 : 0 < v
 ·have hd : decide (0 < v) = true := by simpa using h0
  have hw : wr (v - 1) = (((v - 1).toNat : Nat) : Int) := by rw [wr64 (by omega) (by omega)]; omega
  have hg2 : notes[(v - 1).toNat]? = some (notes[(v - 1).toNat]'(by omega)) := List.getElem?_eq_getElem (by omega)
  simp only [hd,cond_true,hw,ixNat hg2,Option.bind_some]
  refine ⟨_,_,rfl,by simp,by simp [h1],fun u hu => ?_⟩
  rw [List.length_set]
  rcases List.mem_or_eq_of_mem_set hu with hu | rfl
  ·exact h2 u hu
  ·omega
 ·have hd : decide (0 < v) = false := by simpa using h0
  simp only [hd,cond_false]
  exact ⟨_,_,rfl,rfl,h1,h2⟩
theorem stay_ok (p : GPiece) (ons : List Int) (i : Nat) (hold : Int) (h0 : 0 ≤ hold) (hi : (i : Int) + hold < (p.events.length : Int)) (hl : p.events.length ≤ 400) :
  ∃ r : Nat,f70 ⟨p,ons⟩ (i : Int) hold = some (r : Int) ∧ i + hold.toNat ≤ r ∧ r < p.events.length := by
 have key : ∀ (d k n : Nat),k + d = p.events.length → d < n → k < p.events.length → ∃ r : Nat,loopN (σ := Int) (τ := Int) (fun (l1_7 : Int) => ((bif (decide ((wr (l1_7 + 1)) < (p.events.length : Int))) then ((ix p.events (wr (l1_7 + 1))).bind fun y2 => some y2.tie) else (some false)) : Option Bool).bind fun (j2_27 : Bool) => bif j2_27 then (some (.inl (wr (l1_7 + 1)))) else (some (.inr l1_7))) n (k : Int) = some (r : Int) ∧ k ≤ r ∧ r < p.events.length := by
  intro d
  induction d with
  | zero => intro k n h1 h2 h3; omega
  | succ d ih =>
   intro k n h1 h2 h3
   cases n with
   | zero => omega
   | succ n =>
    have hw : wr ((k : Int) + 1) = ((k + 1 : Nat) : Int) := wrNat (by omega)
    by_cases hlt : k + 1 < p.events.length
    ·have hd : decide (((k + 1 : Nat) : Int) < (p.events.length : Int)) = true := by simp; omega
     have hg : p.events[k + 1]? = some (p.events[k + 1]'hlt) := List.getElem?_eq_getElem hlt
     simp only [loopN,hw,hd,cond_true,ixNat hg,Option.bind_some]
     cases (p.events[k + 1]'hlt).tie with
     | true =>
      obtain ⟨r,g1,g2,g3⟩ := ih (k + 1) n (by omega) (by omega) hlt
      exact ⟨r,by simpa only [cond_true,hw] using g1,by omega,g3⟩
     | false => exact ⟨k,rfl,by omega,h3⟩
    ·have hd : decide (((k + 1 : Nat) : Int) < (p.events.length : Int)) = false := by simp; omega
     simp only [loopN,hw,hd,cond_false,Option.bind_some]
     exact ⟨k,rfl,by omega,h3⟩
 have hw : wr ((i : Int) + hold) = ((i + hold.toNat : Nat) : Int) := by rw [wr64 (by omega) (by omega)]; omega
 obtain ⟨r,g1,g2,g3⟩ := key (p.events.length - (i + hold.toNat)) (i + hold.toNat) FUEL (by omega) (by unfold FUEL; omega) (by omega)
 unfold f70
 simp only [hw]
 exact ⟨r,by rw [g1]; rfl,g2,g3⟩
structure ValidP (p : GPiece) : Prop where
 inst : instS p.instrument = 0
 many : p.events.length ≤ 400
 ev : ∀ (i : Nat) e,p.events[i]? = some e → EvOk p i e
theorem stops_few {p : GPiece} (hv : ValidP p) {i : Nat} {e : GEvent} (he : p.events[i]? = some e) : e.stops.length ≤ 14 := by
 have hev := hv.ev i e he
 have hc := (instS_ok hv.inst).1
 have key : ∀ (k : Nat) s,e.stops[k]? = some s → (k : Int) + 1 ≤ s.course := by
  intro k
  induction k with
  | zero => intro s hs; exact (hev.stops 0 s hs).course.1
  | succ k ih =>
   intro s hs
   have hk : k < e.stops.length := by have := (List.getElem?_eq_some_iff.1 hs).1; omega
   have hg := List.getElem?_eq_getElem hk
   have h1 := ih _ hg
   have h2 := (hev.stops (k + 1) s hs).after
   simp only [hg,Option.map_some,Option.getD_some] at h2
   omega
 by_cases h14 : e.stops.length ≤ 14
 ·exact h14
 ·have hg : e.stops[14]? = some (e.stops[14]'(by omega)) := List.getElem?_eq_getElem (by omega)
  have h1 := key 14 _ hg
  have h2 := (hev.stops 14 _ hg).course.2
  omega
theorem notes_ok (p : GPiece) (hv : ValidP p) : ∃ r,f55 ⟨p,onsS p⟩ = some r ∧ r.1.length ≤ 14 * p.events.length := by
 have hc14 := (instS_ok hv.inst).1
 have hm := hv.many
 have hol : (onsS p).length = p.events.length + 1 := by unfold onsS; rw [ons_len]; simp; omega
 have hs : Small p.events := by simp only [Small]; omega
 have hend : ∃ x,f69 ⟨p,onsS p⟩ = some x := by
  have hw : wr (((onsS p).length : Int) - 1) = (p.events.length : Int) := by rw [hol,wr64 (by omega) (by omega)]; omega
  have hg : (onsS p)[p.events.length]? = some ((onsS p)[p.events.length]'(by omega)) := List.getElem?_eq_getElem (by omega)
  unfold f69
  simp only [hw,ixNat hg,Option.bind_some]
  exact ⟨_,rfl⟩
 obtain ⟨en,hend⟩ := hend
 unfold f55
 refine bind_inv (fun k (s : List GNote × List GSPress × List Int × Int) => s.2.2.2 = (k : Int) ∧ s.1.length ≤ 14 * k ∧ s.2.1.length ≤ 14 * k ∧ Rings s.2.2.1 s.1) (fun t : List GNote × List GSPress => t.1.length ≤ 14 * p.events.length) p.events.length (by omega) ⟨rfl,by simp,by simp,by simp,by simp⟩ ?_ ?_ (fun t ht => ⟨t,rfl,ht⟩)
 ·rintro k ⟨notes,presses,ring,i⟩ hk ⟨rfl,h1,h2,h3⟩
  have hg : p.events[k]? = some (p.events[k]'hk) := List.getElem?_eq_getElem hk
  have hev := hv.ev k _ hg
  have hfew := stops_few hv hg
  generalize p.events[k]'hk = e at hg hev hfew
  have hgo : (onsS p)[k]? = some ((onsS p)[k]'(by omega)) := List.getElem?_eq_getElem (by omega)
  generalize (onsS p)[k]'(by omega) = at_ at hgo
  simp only at h1 h2 h3
  simp only [dltLen hg,cond_true,ixNat hg,ixNat hgo,Option.bind_some,andP,lenP]
  have hrest : ∃ n' r',((bif (decide (e.stops.length = 0) && !e.tie) then ((loopN (σ := (List GNote × List Int × Int)) (τ := (List GNote × List Int)) (fun ((l4_h1,l4_h2,l4_41) : (List GNote × List Int × Int)) => bif (decide (l4_41 < 15)) then ((f67 l4_41 at_ l4_h2 l4_h1).bind fun r7 => some (.inl (r7.1,r7.2,(wr (l4_41 + 1))))) else (some (.inr (l4_h1,l4_h2)))) FUEL (notes,ring,0)).bind fun ((l4x_h1,l4x_h2) : (List GNote × List Int)) => some (l4x_h1,l4x_h2)) else (some (notes,ring))) : Option (List GNote × List Int)) = some (n',r') ∧ n'.length = notes.length ∧ Rings r' n' := by
   cases (decide (e.stops.length = 0) && !e.tie) with
   | false => exact ⟨notes,ring,rfl,rfl,h3⟩
   | true =>
    simp only [cond_true]
    have hl := loop_inv (body := fun ((l4_h1,l4_h2,l4_41) : (List GNote × List Int × Int)) => bif (decide (l4_41 < 15)) then ((f67 l4_41 at_ l4_h2 l4_h1).bind fun r7 => some (.inl (r7.1,r7.2,(wr (l4_41 + 1))))) else (some (.inr (l4_h1,l4_h2))))
     (fun c (s : List GNote × List Int × Int) => s.2.2 = (c : Int) ∧ s.1.length = notes.length ∧ Rings s.2.1 s.1) (fun t : List GNote × List Int => t.1.length = notes.length ∧ Rings t.2 t.1) 15
     (by
      rintro c ⟨n1,r1,i1⟩ hc ⟨rfl,g1,g2⟩
      obtain ⟨n',r',q1,q2,q3⟩ := stop_one c at_ r1 n1 hc g2 (by simp only at g1; omega)
      have hd : decide ((c : Int) < 15) = true := by simp; omega
      simp only [hd,cond_true,q1,Option.bind_some,wrNat (show c ≤ 4194304 by omega)]
      exact ⟨_,rfl,rfl,by simp only at g1 ⊢; omega,q3⟩)
     (by
      rintro ⟨n1,r1,i1⟩ ⟨rfl,g1,g2⟩
      exact ⟨(n1,r1),by simp,g1,g2⟩) 15 0 FUEL (notes,ring,0) (by omega) (by unfold FUEL; omega) ⟨rfl,rfl,h3⟩
    obtain ⟨⟨n',r'⟩,q1,q2,q3⟩ := hl
    exact ⟨n',r',by rw [q1]; rfl,q2,q3⟩
  obtain ⟨n2,r2,hq,hn2,hr2⟩ := hrest
  rw [hq]
  simp only [Option.bind_some]
  have hss : Small e.stops := by simp only [Small]; omega
  have hl := loop_inv (body := fun ((l5_h1,l5_5,l5_h2,l5_52) : (List GNote × List GSPress × List Int × Int)) => bif (decide (l5_52 < (e.stops.length : Int))) then ((ix e.stops l5_52).bind fun y9 => (f67 y9.course at_ l5_h2 l5_h1).bind fun r10 => (f68 p.instrument (⟨y9.course,y9.fret⟩ : GPlace)).bind fun r11 => (f69 ⟨p,onsS p⟩).bind fun r12 => ((bif (decide (0 < y9.fret)) then ((f70 ⟨p,onsS p⟩ (k : Int) y9.hold).bind fun r14 => (ix (onsS p) (wr (r14 + 1))).bind fun y15 => some (r10.2,y15)) else (need (y9.course < 15) <| (ix r10.2 y9.course).bind fun y17 => some ((r10.2.set y9.course.toNat (wr ((r10.1.length : Int) + 1))),r12))) : Option (List Int × Int)).bind fun ((j6_h2,j6_h9_4) : (List Int × Int)) => need (r10.1.length + 1 ≤ maxElems) <| need (l5_5.length + 1 ≤ maxElems) <| some (.inl ((r10.1 ++ [(⟨(k : Int),y9.course,r11.1,at_,j6_h9_4⟩ : GNote)]),(l5_5 ++ [(⟨(k : Int),y9.course,y9.fret,at_,j6_h9_4⟩ : GSPress)]),j6_h2,(wr (l5_52 + 1))))) else (some (.inr (l5_h1,l5_5,l5_h2))))
   (fun j (s : List GNote × List GSPress × List Int × Int) => s.2.2.2 = (j : Int) ∧ s.1.length ≤ 14 * k + j ∧ s.2.1.length ≤ 14 * k + j ∧ Rings s.2.2.1 s.1) (fun t : List GNote × List GSPress × List Int => t.1.length ≤ 14 * k + e.stops.length ∧ t.2.1.length ≤ 14 * k + e.stops.length ∧ Rings t.2.2 t.1) e.stops.length
   (by
    rintro j ⟨n3,p3,r3,i3⟩ hj ⟨rfl,g1,g2,g3⟩
    have hgs : e.stops[j]? = some (e.stops[j]'hj) := List.getElem?_eq_getElem hj
    have hso := hev.stops j _ hgs
    generalize e.stops[j]'hj = st at hgs hso
    simp only at g1 g2 g3
    obtain ⟨c1,c2⟩ := hso.course
    have hcn : ((st.course.toNat : Nat) : Int) = st.course := by omega
    obtain ⟨n4,r4,q1,q2,q3⟩ := stop_one st.course.toNat at_ r3 n3 (by omega) g3 (by omega)
    rw [hcn] at q1
    obtain ⟨pt,hpt⟩ := at_ok p.instrument ⟨st.course,st.fret⟩ hv.inst
    have hm1 : n4.length + 1 ≤ maxElems := by unfold maxElems; omega
    have hm2 : p3.length + 1 ≤ maxElems := by unfold maxElems; omega
    have hstep : ∃ r5 x5,((bif (decide (0 < st.fret)) then ((f70 ⟨p,onsS p⟩ (k : Int) st.hold).bind fun r14 => (ix (onsS p) (wr (r14 + 1))).bind fun y15 => some (r4,y15)) else (need (st.course < 15) <| (ix r4 st.course).bind fun y17 => some ((r4.set st.course.toNat (wr ((n4.length : Int) + 1))),en))) : Option (List Int × Int)) = some (r5,x5) ∧ r5.length = 15 ∧ ∀ v ∈ r5,0 ≤ v ∧ v ≤ (n4.length : Int) + 1 := by
     by_cases hf : 0 < st.fret
     ·have hd : decide (0 < st.fret) = true := by simpa using hf
      have hlb := long_bound st.course (p.events.drop (k + 1)) 0 0 (by omega) (by omega)
      have hh := hso.hold
      unfold longS at hh
      rw [List.length_drop] at hlb
      obtain ⟨r,s1,s2,s3⟩ := stay_ok p (onsS p) k st.hold hh.1 (by omega) hm
      have hw : wr ((r : Int) + 1) = ((r + 1 : Nat) : Int) := wrNat (by omega)
      have hgr : (onsS p)[r + 1]? = some ((onsS p)[r + 1]'(by omega)) := List.getElem?_eq_getElem (by omega)
      simp only [hd,cond_true,s1,Option.bind_some,hw,ixNat hgr]
      exact ⟨r4,_,rfl,q3.1,fun v hv' => by have := q3.2 v hv'; omega⟩
     ·have hd : decide (0 < st.fret) = false := by simpa using hf
      have h15 : st.course < 15 := by omega
      have hgr : r4[st.course.toNat]? = some (r4[st.course.toNat]'(by have := q3.1; omega)) := List.getElem?_eq_getElem (by have := q3.1; omega)
      have hgr' := ixNat hgr
      rw [hcn] at hgr'
      have hw : wr ((n4.length : Int) + 1) = (n4.length : Int) + 1 := wr64 (by omega) (by omega)
      simp only [hd,cond_false,need,if_pos h15,hgr',Option.bind_some,hw]
      refine ⟨_,_,rfl,by simp [q3.1],fun v hv' => ?_⟩
      rcases List.mem_or_eq_of_mem_set hv' with h | rfl
      ·have := q3.2 v h; omega
      ·omega
    obtain ⟨r5,x5,w1,w2,w3⟩ := hstep
    simp only [dltLen hgs,cond_true,ixNat hgs,Option.bind_some,q1,hpt,hend]
    rw [w1]
    simp only [Option.bind_some,need,if_pos hm1,if_pos hm2,wrLen hss hgs]
    refine ⟨_,rfl,rfl,by simp only [List.length_append,List.length_cons,List.length_nil]; omega,by simp only [List.length_append,List.length_cons,List.length_nil]; omega,w2,fun v hv' => ?_⟩
    have := w3 v hv'
    simp only [List.length_append,List.length_cons,List.length_nil]; omega)
   (by
    rintro ⟨n3,p3,r3,i3⟩ ⟨rfl,g1,g2,g3⟩
    exact ⟨(n3,p3,r3),by simp,g1,g2,g3⟩) e.stops.length 0 FUEL (n2,presses,r2,0) (by omega) (by unfold FUEL; omega) ⟨rfl,by simp only; omega,by simp only; omega,hr2⟩
  obtain ⟨⟨n6,p6,r6⟩,z1,z2,z3,z4⟩ := hl
  rw [z1]
  simp only [Option.bind_some,wrLen hs hg]
  exact ⟨_,rfl,rfl,by simp only at z2 ⊢; omega,by simp only at z3 ⊢; omega,z4⟩
 ·rintro ⟨notes,presses,ring,i⟩ ⟨rfl,h1,h2,h3⟩
  exact ⟨(notes,presses),by simp,h1⟩
end Go.Proofs.Ytpljabnngpnieaa
