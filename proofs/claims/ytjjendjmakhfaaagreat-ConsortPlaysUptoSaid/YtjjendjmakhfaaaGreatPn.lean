/-
 Plain laws of the player,part 3: instruments,times,notes.
 Own work. No Go text.
-/
import Derived.Test.YtjjendjmakhfaaaGreatPp
set_option linter.all false
namespace Go.Proofs.YtjjendjmakhfaaaGreat
open Go Go.Am
def stepsS : Int → List Int → Bool
 | _,[] => true
 | e,y :: r => !(decide (y ≤ e) || decide (127 < y)) && stepsS y r
def pitchC (s : List Int) (c : GCourse) : Int := bif decide (0 < c.frets) then wr (c.pitch + (s[(c.frets - 1).toNat]?).getD 0) else c.pitch
def topS (s : List Int) (c : GCourse) : Int := bif c.octave then wr (pitchC s c + 12) else pitchC s c
def courseS (s : List Int) (c : GCourse) : Int :=
 bif decide (c.frets < 0) || decide ((s.length : Int) < c.frets) then 13 else bif decide (c.pitch < 0) || (decide (127 < c.pitch) || decide (127 < topS s c)) then 10 else 0
def badC (s : List Int) (c : GCourse) : Bool := decide (courseS s c ≠ 0)
def instS (a : GInstrument) : Int :=
 bif decide (14 < a.courses.length) || decide (18 < a.steps.length) then 2 else bif decide (a.courses.length = 0) then 11 else bif stepsS 0 a.steps then
  (match a.courses.find? (badC a.steps) with
   | some c => courseS a.steps c
   | none => 0)
 else 11
theorem highest_eq (a : GInstrument) (c : GCourse) (h1 : c.frets ≤ (a.steps.length : Int)) (h2 : a.steps.length ≤ 18) : f161 a c = some (topS a.steps c) := by
 unfold f161 topS pitchC
 by_cases h : 0 < c.frets
 ·have hw : wr (c.frets - 1) = (((c.frets - 1).toNat : Nat) : Int) := by rw [wr64 (by omega) (by omega)]; omega
  have hl : (c.frets - 1).toNat < a.steps.length := by omega
  have hg : a.steps[(c.frets - 1).toNat]? = some a.steps[(c.frets - 1).toNat] := List.getElem?_eq_getElem hl
  have hd : decide (0 < c.frets) = true := by simpa using h
  simp only [hd,cond_true,hw,ixNat hg,hg,Option.bind_some,Option.getD_some]
  cases c.octave <;> rfl
 ·have hd : decide (0 < c.frets) = false := by simpa using h
  simp only [hd,cond_false,Option.bind_some]
  cases c.octave <;> rfl
theorem fold_steps : ∀ (l : List Int) (k : Nat) (e : Int),foldE (fun _ (e : Int) y => (bif decide (y ≤ e) || decide (127 < y) then .inr (.inr 11) else .inl y : Int ⊕ (Unit ⊕ Int))) (fun _ => .inl ()) k l e = bif stepsS e l then .inl () else .inr 11
 | [],_,_ => rfl
 | y :: r,k,e => by
  simp only [foldE,stepsS]
  cases (decide (y ≤ e) || decide (127 < y)) with
  | true => rfl
  | false => simp only [cond_false,Bool.not_false,Bool.true_and]; exact fold_steps r (k + 1) y
theorem many_c (a b : Nat) : ((bif (decide (14 < (a : Int))) then (some true) else (some (decide (18 < (b : Int))))) : Option Bool) = some (decide (14 < a) || decide (18 < b)) := by
 have e1 : decide (14 < (a : Int)) = decide (14 < a) := dltN 14 a
 have e2 : decide (18 < (b : Int)) = decide (18 < b) := dltN 18 b
 rw [e1,e2]
 cases decide (14 < a) <;> rfl
theorem icheck_eq (a : GInstrument) : f128 a = some (instS a) := by
 unfold f128 instS
 rw [many_c,lenP]
 simp only [Option.bind_some]
 cases hm : (decide (14 < a.courses.length) || decide (18 < a.steps.length)) with
 | true => rfl
 | false =>
  simp only [Bool.or_eq_false_iff,decide_eq_false_iff_not] at hm
  have hs : Small a.steps := by simp only [Small]; omega
  have hc : Small a.courses := by simp only [Small]; omega
  simp only [cond_false]
  cases decide (a.courses.length = 0) with
  | true => rfl
  | false =>
   simp only [cond_false]
   rw [loop_fold (fun (e : Int) i => (e,i)) (fun _ (e : Int) y => (bif decide (y ≤ e) || decide (127 < y) then .inr (.inr 11) else .inl y : Int ⊕ (Unit ⊕ Int))) (fun _ => .inl ()) a.steps (fun _ _ => True) 0 (small_fuel hs) trivial]
   ·rw [fold_steps]
    simp only [Option.bind_some]
    cases stepsS 0 a.steps with
    | false => rfl
    | true =>
     simp only [cond_true,Sum.elim_inl]
     rw [loop_find a.courses (badC a.steps) (fun _ c => courseS a.steps c) hc]
     ·simp only [Option.bind_some,findS_find]
      cases a.courses.find? (badC a.steps) <;> rfl
     ·intro i c hcc
      simp only [dltLen hcc,cond_true,ixNat hcc,Option.bind_some,orP,badC]
      cases hb : (decide (c.frets < 0) || decide ((a.steps.length : Int) < c.frets)) with
      | true =>
       have : courseS a.steps c = 13 := by unfold courseS; rw [hb]; rfl
       rw [this]; rfl
      | false =>
       have hb' := hb
       simp only [Bool.or_eq_false_iff,decide_eq_false_iff_not] at hb
       simp only [cond_false,highest_eq a c (by omega) (by omega),Option.bind_some,orP]
       cases hb2 : (decide (c.pitch < 0) || (decide (127 < c.pitch) || decide (127 < topS a.steps c))) with
       | true =>
        have : courseS a.steps c = 10 := by unfold courseS; rw [hb',hb2]; rfl
        rw [this]; rfl
       | false =>
        have : courseS a.steps c = 0 := by unfold courseS; rw [hb',hb2]; rfl
        rw [this]; rfl
     ·simp
   ·intro i e y hy _
    refine ⟨?_,fun _ _ => trivial⟩
    simp only [dltLen hy,cond_true,ixNat hy,Option.bind_some,orP,wrLen hs hy]
    cases (decide (y ≤ e) || decide (127 < y)) <;> rfl
   ·intro e _; simp
theorem instS_ok {a : GInstrument} (h : instS a = 0) : a.courses.length ≤ 14 ∧ a.steps.length ≤ 18 ∧ 0 < a.courses.length ∧ stepsS 0 a.steps = true ∧ ∀ c ∈ a.courses,courseS a.steps c = 0 := by
 unfold instS at h
 cases hm : (decide (14 < a.courses.length) || decide (18 < a.steps.length)) with
 | true => rw [hm] at h; cases h
 | false =>
  rw [hm] at h
  simp only [Bool.or_eq_false_iff,decide_eq_false_iff_not] at hm
  simp only [cond_false] at h
  cases h0 : decide (a.courses.length = 0) with
  | true => rw [h0] at h; cases h
  | false =>
   rw [h0] at h
   simp only [cond_false] at h
   cases hst : stepsS 0 a.steps with
   | false => rw [hst] at h; cases h
   | true =>
    rw [hst] at h
    simp only [cond_true] at h
    simp only [decide_eq_false_iff_not] at h0
    refine ⟨by omega,by omega,by omega,rfl,fun c hc => ?_⟩
    cases hf : a.courses.find? (badC a.steps) with
    | some d =>
     rw [hf] at h
     have := List.find?_some hf
     simp only [badC,decide_eq_true_eq] at this
     exact absurd h this
    | none =>
     have := List.find?_eq_none.1 hf c hc
     simpa [badC] using this
theorem courseS_ok {s : List Int} {c : GCourse} (h : courseS s c = 0) : 0 ≤ c.frets ∧ c.frets ≤ (s.length : Int) ∧ 0 ≤ c.pitch ∧ c.pitch ≤ 127 ∧ topS s c ≤ 127 := by
 unfold courseS at h
 cases hb : (decide (c.frets < 0) || decide ((s.length : Int) < c.frets)) with
 | true => rw [hb] at h; cases h
 | false =>
  rw [hb] at h
  cases hb2 : (decide (c.pitch < 0) || (decide (127 < c.pitch) || decide (127 < topS s c))) with
  | true => rw [hb2] at h; cases h
  | false =>
   simp only [Bool.or_eq_false_iff,decide_eq_false_iff_not] at hb hb2
   omega
def onsStep (a : List Int × Int) (e : GEvent) : List Int × Int :=
 (a.1 ++ [wr ((a.1.getLast?).getD 0 + bif decide (0 < tickS e.sign) then tickS e.sign else a.2)],bif decide (0 < tickS e.sign) then tickS e.sign else a.2)
def onsS (p : GPiece) : List Int := (p.events.foldl onsStep ([0],0)).1
theorem ons_len : ∀ (l : List GEvent) (a : List Int × Int),(l.foldl onsStep a).1.length = a.1.length + l.length
 | [],a => by simp
 | e :: r,a => by
  rw [List.foldl_cons,ons_len r]
  simp [onsStep]; omega
theorem f159_eq (p : GPiece) (h : p.events.length ≤ 400) : f159 [0] p = some (onsS p) := by
 have hs : Small p.events := by simp only [Small]; omega
 unfold f159 onsS
 rw [loop_fold (fun (a : List Int × Int) i => (a.1,a.2,i)) (fun _ a (e : GEvent) => (.inl (onsStep a e) : (List Int × Int) ⊕ (List Int ⊕ List Int))) (fun a => .inl a.1) p.events (fun i a => a.1.length = i + 1) ([0],0) (small_fuel hs) (by simp)]
 ·rw [foldE_inl onsStep]; rfl
 ·intro i a e he ha
  have hil := (List.getElem?_eq_some_iff.1 he).1
  constructor
  ·have hg : a.1[i]? = some ((a.1.getLast?).getD 0) := by
    have h1 : a.1.getLast? = a.1[a.1.length - 1]? := List.getLast?_eq_getElem?
    rw [ha] at h1
    have h2 : a.1[i]? = some (a.1[i]'(by omega)) := List.getElem?_eq_getElem (by omega)
    simp only [Nat.add_sub_cancel] at h1
    rw [h1,h2]; rfl
   have hm : a.1.length + 1 ≤ maxElems := by unfold maxElems; omega
   have e1 : ((bif (decide (0 < tickS e.sign)) then (some (tickS e.sign)) else (some a.2)) : Option Int) = some (bif decide (0 < tickS e.sign) then tickS e.sign else a.2) := by cases decide (0 < tickS e.sign) <;> rfl
   simp only [dltLen he,cond_true,ixNat he,Option.bind_some,(tick_ok e.sign).1,e1,ixNat hg,need,if_pos hm,wrLen hs he]
   rfl
  ·intro a' hh
   cases hh
   simp [onsStep,ha]
 ·intro a _; simp
def ascF : Int → List Int → Prop
 | _,[] => True
 | x,y :: r => x < y ∧ y ≤ x + 576 ∧ ascF y r
theorem ons_asc : ∀ (l : List GEvent) (pre : List Int) (x f : Int),(0 < f ∨ ∀ e,l.head? = some e → 0 < tickS e.sign) → 0 ≤ f → f ≤ 576 → 0 ≤ x → x + 576 * l.length ≤ 10000000 →
  ∃ s,(l.foldl onsStep (pre ++ [x],f)).1 = pre ++ x :: s ∧ ascF x s ∧ s.length = l.length
 | [],pre,x,f,_,_,_,_,_ => ⟨[],rfl,trivial,rfl⟩
 | e :: r,pre,x,f,h,h0,h1,hx,hb => by
  obtain ⟨_,t0,t1⟩ := tick_ok e.sign
  simp only [List.length_cons] at hb
  have hf : 0 < (bif decide (0 < tickS e.sign) then tickS e.sign else f) ∧ (bif decide (0 < tickS e.sign) then tickS e.sign else f) ≤ 576 := by
   by_cases ht : 0 < tickS e.sign
   ·simp [ht]; omega
   ·have : decide (0 < tickS e.sign) = false := by simpa using ht
    rw [this,cond_false]
    rcases h with h | h
    ·omega
    ·exact absurd (h e rfl) ht
  have hl : ((pre ++ [x]).getLast?).getD 0 = x := by simp
  have hstep : onsStep (pre ++ [x],f) e = ((pre ++ [x]) ++ [x + (bif decide (0 < tickS e.sign) then tickS e.sign else f)],bif decide (0 < tickS e.sign) then tickS e.sign else f) := by
   unfold onsStep
   simp only [hl]
   rw [wr64 (by omega) (by omega)]
  obtain ⟨s,g1,g2,g3⟩ := ons_asc r (pre ++ [x]) (x + (bif decide (0 < tickS e.sign) then tickS e.sign else f)) (bif decide (0 < tickS e.sign) then tickS e.sign else f) (.inl hf.1) (by omega) hf.2 (by omega) (by omega)
  refine ⟨_ :: s,?_,⟨by omega,by omega,g2⟩,by simp [g3]⟩
  rw [List.foldl_cons,hstep,g1]
  simp
theorem asc_bounds : ∀ (s : List Int) (x : Int),ascF x s → ∀ (i : Nat) y,(x :: s)[i]? = some y → x ≤ y ∧ y ≤ x + 576 * i
 | s,x,h,0,y,hy => by simp at hy; omega
 | [],x,h,i + 1,y,hy => by simp at hy
 | z :: s,x,h,i + 1,y,hy => by
  have := asc_bounds s z h.2.2 i y (by simpa using hy)
  have h1 := h.1
  have h2 := h.2.1
  omega
theorem asc_lt : ∀ (s : List Int) (x : Int),ascF x s → ∀ (i j : Nat) y z,i < j → (x :: s)[i]? = some y → (x :: s)[j]? = some z → y < z
 | s,x,h,i,0,y,z,hij,_,_ => by omega
 | [],x,h,i,j + 1,y,z,hij,_,hz => by simp at hz
 | w :: s,x,h,0,j + 1,y,z,hij,hy,hz => by
  simp at hy
  have := (asc_bounds s w h.2.2 j z (by simpa using hz)).1
  have h1 := h.1
  omega
 | w :: s,x,h,i + 1,j + 1,y,z,hij,hy,hz => asc_lt s w h.2.2 i j y z (by omega) (by simpa using hy) (by simpa using hz)
theorem loop_inv {σ τ : Type} {body : σ → Option (σ ⊕ τ)} (I : Nat → σ → Prop) (T : τ → Prop) (m : Nat) (hb : ∀ k s,k < m → I k s → ∃ s',body s = some (.inl s') ∧ I (k + 1) s') (he : ∀ s,I m s → ∃ t,body s = some (.inr t) ∧ T t) :
  ∀ (d k n : Nat) s,k + d = m → d < n → I k s → ∃ t,loopN body n s = some t ∧ T t
 | 0,k,n,s,hk,hn,hi => by
  have : k = m := by omega
  subst this
  cases n with
  | zero => omega
  | succ n =>
   obtain ⟨t,h1,h2⟩ := he s hi
   exact ⟨t,by simp only [loopN,h1],h2⟩
 | d + 1,k,n,s,hk,hn,hi => by
  cases n with
  | zero => omega
  | succ n =>
   obtain ⟨s',h1,h2⟩ := hb k s (by omega) hi
   obtain ⟨t,h3,h4⟩ := loop_inv I T m hb he d (k + 1) n s' (by omega) (by omega) h2
   exact ⟨t,by simp only [loopN,h1]; exact h3,h4⟩
theorem bind_inv {σ τ R : Type} {body : σ → Option (σ ⊕ τ)} {s0 : σ} {f : τ → Option R} {Q : R → Prop} (I : Nat → σ → Prop) (T : τ → Prop) (m : Nat) (hm : m ≤ 4194304) (h0 : I 0 s0)
  (hb : ∀ k s,k < m → I k s → ∃ s',body s = some (.inl s') ∧ I (k + 1) s') (he : ∀ s,I m s → ∃ t,body s = some (.inr t) ∧ T t) (hf : ∀ t,T t → ∃ r,f t = some r ∧ Q r) : ∃ r,(loopN body FUEL s0).bind f = some r ∧ Q r := by
 obtain ⟨t,h1,h2⟩ := loop_inv I T m hb he m 0 FUEL s0 (by omega) (by unfold FUEL; omega) h0
 obtain ⟨r,h3,h4⟩ := hf t h2
 exact ⟨r,by rw [h1]; exact h3,h4⟩
end Go.Proofs.YtjjendjmakhfaaaGreat
