/-
 Plain laws of ConsortChecks,part c: onsets and lengths,in the program and in the reference; the law of Check.
 Own work. No Go text.
-/
import Derived.Test.YtjjendjmakhfaaaGreatCb
import Derived.Test.YtjjendjmakhfaaaGreatTP
set_option linter.all false
namespace Go.Proofs.YtjjendjmakhfaaaGreat
open Go Go.Am
theorem evs_all (p : GPiece) : ∀ (l : List GEvent) (k : Nat),evsE p k l = 0 → ∀ (i : Nat) e,l[i]? = some e → evE p (k + i) e = 0
 | [],_,_,i,e,he => by simp at he
 | x :: r,k,h,i,e,he => by
  simp only [evsE] at h
  by_cases hx : evE p k x = 0
  ·have d : decide (evE p k x ≠ 0) = false := by simp [hx]
   rw [d] at h
   cases i with
   | zero => simp at he; subst he; exact hx
   | succ i =>
    have := evs_all p r (k + 1) h i e (by simpa using he)
    rw [show k + (i + 1) = k + 1 + i from by omega]; exact this
  ·have d : decide (evE p k x ≠ 0) = true := by simpa using hx
   rw [d] at h
   exact absurd h hx
theorem ev_sign {p : GPiece} {i : Nat} {e : GEvent} (h : evE p i e = 0) : signS e.sign = true ∧ (i = 0 → 0 < tickS e.sign) := by
 unfold evE at h
 cases h1 : (!(signS e.sign) || (decide (i = 0) && eq_GSign e.sign ⟨0,false,false⟩)) with
 | true => rw [h1] at h; cases h
 | false =>
  simp only [Bool.or_eq_false_iff,Bool.not_eq_false'] at h1
  refine ⟨h1.1,fun hi => ?_⟩
  have h2 := h1.2
  subst hi
  simp only [decide_true,Bool.true_and] at h2
  have h3 := h1.1
  unfold signS at h3
  rw [h2,Bool.false_or] at h3
  simpa using h3
theorem pieceS_ok {p : GPiece} (h : pieceS p = 0) : instS p.instrument = 0 ∧ p.events.length ≤ 400 ∧ ∀ (i : Nat) e,p.events[i]? = some e → signS e.sign = true ∧ (i = 0 → 0 < tickS e.sign) := by
 unfold pieceS at h
 by_cases h1 : instS p.instrument = 0
 ·have d : decide (instS p.instrument ≠ 0) = false := by simp [h1]
  rw [d] at h
  by_cases h2 : 400 < p.events.length
  ·have d : decide (400 < p.events.length) = true := by simpa using h2
   rw [d] at h; cases h
  ·have d : decide (400 < p.events.length) = false := by simpa using h2
   rw [d] at h
   refine ⟨h1,by omega,fun i e he => ?_⟩
   have := evs_all p p.events 0 h i e he
   rw [Nat.zero_add] at this
   exact ev_sign this
 ·have d : decide (instS p.instrument ≠ 0) = true := by simpa using h1
  rw [d] at h
  exact absurd h h1
def onsetS (p : GPiece) : List Int × Int := if pieceS p = 0 then (onsS p,0) else ([],pieceS p)
theorem prog_onsets (p : GPiece) (hp : SmallP p) : f104 p = some (onsetS p) := by
 unfold f104 onsetS
 rw [prog_check p hp]
 simp only [Option.bind_some]
 by_cases h : pieceS p = 0
 ·have d : decide (pieceS p ≠ 0) = false := by simp [h]
  rw [d,if_pos h]
  simp only [cond_false,f127,Option.bind_some,f159_eq p (pieceS_ok h).2.1]
 ·have d : decide (pieceS p ≠ 0) = true := by simpa using h
  rw [d,if_neg h]; rfl
def forceS (s : GSign) (e : GEvent) : GSign := if e.sign.value ≠ 0 then e.sign else s
def forcesS : GSign → List GEvent → List GSign
 | _,[] => []
 | s,e :: r => forceS s e :: forcesS (forceS s e) r
theorem forces_fold : ∀ (l : List GEvent) (a : List GSign × GSign),(l.foldl (fun (a : List GSign × GSign) e => (a.1 ++ [forceS a.2 e],forceS a.2 e)) a).1 = a.1 ++ forcesS a.2 l
 | [],a => by simp [forcesS]
 | e :: r,a => by rw [List.foldl_cons,forces_fold r]; simp [forcesS]
theorem forces_len : ∀ (l : List GEvent) (a : List GSign × GSign),(l.foldl (fun (a : List GSign × GSign) e => (a.1 ++ [forceS a.2 e],forceS a.2 e)) a).1.length = a.1.length + l.length
 | [],a => by simp
 | e :: r,a => by rw [List.foldl_cons,forces_len r]; simp; omega
theorem ref_forces (p : GPiece) (h : p.events.length ≤ 400) : f76 p = some (forcesS ⟨0,false,false⟩ p.events) := by
 have hs : Small p.events := by simp only [Small]; omega
 unfold f76
 rw [loop_fold (fun (a : List GSign × GSign) i => (a.1,a.2,i)) (fun _ a (e : GEvent) => (.inl (a.1 ++ [forceS a.2 e],forceS a.2 e) : (List GSign × GSign) ⊕ List GSign)) (fun a => a.1) p.events (fun i a => a.1.length = i) ([],⟨0,false,false⟩) (small_fuel hs) rfl]
 ·rw [foldE_inl (fun (a : List GSign × GSign) e => (a.1 ++ [forceS a.2 e],forceS a.2 e)),forces_fold]; rfl
 ·intro i a e he ha
  have hil := (List.getElem?_eq_some_iff.1 he).1
  constructor
  ·have hm : a.1.length + 1 ≤ maxElems := by unfold maxElems; omega
   have e1 : ((bif (decide (e.sign.value ≠ 0)) then (some e.sign) else (some a.2)) : Option GSign) = some (forceS a.2 e) := by
    unfold forceS
    by_cases hv : e.sign.value = 0
    ·simp [hv]
    ·simp [hv]
   simp only [dltLen he,cond_true,ixNat he,Option.bind_some,e1,need,if_pos hm,wrLen hs he]
   rfl
  ·intro a' hh
   cases hh
   simp [ha]
 ·intro a _; simp
theorem tick_value {s : GSign} (h : signS s = true) : (s.value ≠ 0) ↔ 0 < tickS s := by
 obtain ⟨v,d,t⟩ := s
 constructor
 ·intro hv
  unfold signS eq_GSign at h
  simpa [hv] using h
 ·intro ht hv
  subst hv
  rw [tick_out d t (.inl (by decide))] at ht
  omega
theorem force_tick {s : GSign} {f : Int} {e : GEvent} (h : signS e.sign = true) (hf : tickS s = f) : tickS (forceS s e) = bif decide (0 < tickS e.sign) then tickS e.sign else f := by
 unfold forceS
 by_cases hv : e.sign.value ≠ 0
 ·have := (tick_value h).1 hv
  simp [hv,this]
 ·have : ¬ 0 < tickS e.sign := fun hh => hv ((tick_value h).2 hh)
  simp [hv,this,hf]
theorem times_eq : ∀ (l : List GEvent) (a : List Int) (s : GSign) (f : Int),(∀ e ∈ l,signS e.sign = true) → tickS s = f →
  (forcesS s l).foldl (fun (a : List Int) y => a ++ [wr ((a.getLast?).getD 0 + tickS y)]) a = (l.foldl onsStep (a,f)).1
 | [],_,_,_,_,_ => rfl
 | e :: r,a,s,f,h,hf => by
  have h1 := force_tick (h e (by simp)) hf
  simp only [forcesS,List.foldl_cons]
  rw [times_eq r _ (forceS s e) _ (fun x hx => h x (by simp [hx])) h1]
  simp only [onsStep,h1]
theorem ref_times (p : GPiece) (h : p.events.length ≤ 400) (hs' : ∀ e ∈ p.events,signS e.sign = true) : f35 p = some (onsS p) := by
 unfold f35
 rw [ref_forces p h]
 simp only [Option.bind_some]
 have hlen : (forcesS ⟨0,false,false⟩ p.events).length = p.events.length := by
  have h1 := forces_fold p.events ([],⟨0,false,false⟩)
  have h2 := forces_len p.events ([],⟨0,false,false⟩)
  rw [h1] at h2
  simpa using h2
 have hs : Small (forcesS ⟨0,false,false⟩ p.events) := by simp only [Small]; omega
 rw [loop_fold (fun (a : List Int) i => (a,i)) (fun _ a (y : GSign) => (.inl (a ++ [wr ((a.getLast?).getD 0 + tickS y)]) : List Int ⊕ List Int)) (fun a => a) (forcesS ⟨0,false,false⟩ p.events) (fun i a => a.length = i + 1) [0] (small_fuel hs) rfl]
 ·rw [foldE_inl (fun (a : List Int) y => a ++ [wr ((a.getLast?).getD 0 + tickS y)]),times_eq p.events [0] ⟨0,false,false⟩ 0 hs' (tick_out _ _ (.inl (by decide)))]
  rfl
 ·intro i a y hy ha
  have hil := (List.getElem?_eq_some_iff.1 hy).1
  constructor
  ·have hg : a[i]? = some ((a.getLast?).getD 0) := by
    have h1 : a.getLast? = a[a.length - 1]? := List.getLast?_eq_getElem?
    rw [ha] at h1
    have h2 : a[i]? = some (a[i]'(by omega)) := List.getElem?_eq_getElem (by omega)
    simp only [Nat.add_sub_cancel] at h1
    rw [h1,h2]; rfl
   have hm : a.length + 1 ≤ maxElems := by unfold maxElems; omega
   simp only [dltLen hy,cond_true,ixNat hy,Option.bind_some,ixNat hg,ref_tick,need,if_pos hm,wrLen hs hy]
   rfl
  ·intro a' hh
   cases hh
   simp [ha]
 ·intro a _; simp
theorem ref_onsets (p : GPiece) (hp : SmallP p) : f78 p = some (onsetS p) := by
 unfold f78 onsetS
 rw [ref_check p hp]
 simp only [Option.bind_some]
 by_cases h : pieceS p = 0
 ·have d : decide (pieceS p ≠ 0) = false := by simp [h]
  obtain ⟨_,h2,h3⟩ := pieceS_ok h
  rw [d,if_pos h]
  simp only [cond_false]
  rw [ref_times p h2 (fun e he => by obtain ⟨i,hi⟩ := List.getElem?_of_mem he; exact (h3 i e hi).1)]
  rfl
 ·have d : decide (pieceS p ≠ 0) = true := by simpa using h
  rw [d,if_neg h]; rfl
theorem ons_shape {p : GPiece} (h : pieceS p = 0) : ∃ s,onsS p = 0 :: s ∧ ascF 0 s ∧ s.length = p.events.length := by
 obtain ⟨_,h2,h3⟩ := pieceS_ok h
 obtain ⟨s,a1,a2,a3⟩ := ons_asc p.events [] 0 0 (.inr fun e he => by
  have : p.events[0]? = some e := by rw [← List.head?_eq_getElem?]; exact he
  exact (h3 0 e this).2 rfl) (by omega) (by omega) (by omega) (by omega)
 exact ⟨s,a1,a2,a3⟩
def endP (p : GPiece) : Int := ((onsS p).getLast?).getD 0
theorem last_ok {p : GPiece} (h : pieceS p = 0) : ix (onsS p) (wr (((onsS p).length : Int) - 1)) = some (endP p) ∧ 0 ≤ endP p ∧ endP p ≤ 230400 := by
 obtain ⟨s,h1,h2,h3⟩ := ons_shape h
 have hm := (pieceS_ok h).2.1
 have hl : (onsS p).length = s.length + 1 := by rw [h1]; simp
 have hw : wr (((onsS p).length : Int) - 1) = (s.length : Int) := by rw [hl,wr64 (by omega) (by omega)]; omega
 have hg : (onsS p)[s.length]? = some (endP p) := by
  have h4 : (onsS p)[s.length]? = some ((onsS p)[s.length]'(by omega)) := List.getElem?_eq_getElem (by omega)
  have h5 : (onsS p).getLast? = (onsS p)[(onsS p).length - 1]? := List.getLast?_eq_getElem?
  rw [hl,Nat.add_sub_cancel,h4] at h5
  unfold endP
  rw [h5,h4]; rfl
 have hb := asc_bounds s 0 h2 s.length (endP p) (by rw [← h1]; exact hg)
 exact ⟨by rw [hw]; exact ixNat hg,hb.1,by omega⟩
def SizeC (l : List GPiece) : Prop := Small l ∧ ∀ p ∈ l,SmallP p
def lensS : List Int → List GPiece → List Int × Int
 | a,[] => (a,0)
 | a,p :: r => if pieceS p = 0 then lensS (a ++ [endP p]) r else ([],pieceS p)
def bandS (l : List GPiece) : List Int × Int := if l.length = 0 then ([],90) else if 6 < l.length then ([],2) else lensS [] l
theorem fold_lens : ∀ (l : List GPiece) (k : Nat) (a : List Int),
  foldE (fun _ (a : List Int) p => (if pieceS p = 0 then .inl (a ++ [endP p]) else .inr (.inr ([],pieceS p)) : List Int ⊕ (List Int ⊕ (List Int × Int)))) (fun a => .inl a) k l a = if (lensS a l).2 = 0 then .inl (lensS a l).1 else .inr (lensS a l)
 | [],k,a => by simp [foldE,lensS]
 | p :: r,k,a => by
  by_cases h : pieceS p = 0
  ·simp only [foldE,lensS,if_pos h]; exact fold_lens r (k + 1) _
  ·simp only [foldE,lensS,if_neg h]
theorem band_loop {body : List Int × Int → Option ((List Int × Int) ⊕ (List Int ⊕ (List Int × Int)))} (l : List GPiece) (hs : Small l) (h6 : l.length ≤ 6)
  (hb : ∀ (a : List Int) (i : Nat) p,l[i]? = some p → a.length = i → body (a,(i : Int)) = some (if pieceS p = 0 then .inl (a ++ [endP p],wr ((i : Int) + 1)) else .inr (.inr ([],pieceS p)))) (he : ∀ a,body (a,(l.length : Int)) = some (.inr (.inl a))) :
  (loopN body FUEL ([],0)).bind (Sum.elim (fun l1x_2 => some (l1x_2,0)) some) = some (lensS [] l) := by
 rw [loop_fold (body := body) (fun (a : List Int) i => (a,i)) (fun _ (a : List Int) p => (if pieceS p = 0 then .inl (a ++ [endP p]) else .inr (.inr ([],pieceS p)) : List Int ⊕ (List Int ⊕ (List Int × Int)))) (fun a => .inl a) l (fun i a => a.length = i) [] (small_fuel hs) rfl]
 ·rw [fold_lens]
  simp only [Option.bind_some]
  by_cases h : (lensS [] l).2 = 0
  ·rw [if_pos h]; simp only [Sum.elim_inl]; rw [← h]
  ·rw [if_neg h]; rfl
 ·intro i a p hp ha
  constructor
  ·rw [hb a i p hp ha]
   by_cases h : pieceS p = 0
   ·simp only [if_pos h]; rw [wrLen hs hp]; rfl
   ·simp only [if_neg h]; rfl
  ·intro a' hh
   by_cases h : pieceS p = 0
   ·simp only [if_pos h] at hh; cases hh; simp [ha]
   ·simp only [if_neg h] at hh; cases hh
 ·intro a _; exact he a
theorem band_step (p : GPiece) (a : List Int) (w : Int) (ha : a.length ≤ 6) : (bif (decide ((onsetS p).2 ≠ 0)) then (some (.inr (.inr (([] : List Int),(onsetS p).2))) : Option ((List Int × Int) ⊕ (List Int ⊕ (List Int × Int)))) else ((ix (onsetS p).1 (wr (((onsetS p).1.length : Int) - 1))).bind fun y7 => need (a.length + 1 ≤ maxElems) <| some (.inl ((a ++ [y7]),w)))) =
  some (if pieceS p = 0 then .inl (a ++ [endP p],w) else .inr (.inr ([],pieceS p))) := by
 have hm : a.length + 1 ≤ maxElems := by unfold maxElems; omega
 unfold onsetS
 by_cases h : pieceS p = 0
 ·simp only [if_pos h]
  have d : decide ((0 : Int) ≠ 0) = false := rfl
  rw [d,(last_ok h).1]
  simp only [cond_false,Option.bind_some,need,if_pos hm]
 ·simp only [if_neg h]
  have d : decide (pieceS p ≠ 0) = true := by simpa using h
  rw [d]; rfl
theorem prog_band (l : List GPiece) (hs : SizeC l) : f68 l = some (bandS l) := by
 unfold f68 bandS
 rw [lenP]
 by_cases h0 : l.length = 0
 ·simp [h0]
 ·have hd : decide (l.length = 0) = false := by simpa using h0
  rw [hd,cond_false,if_neg h0]
  by_cases h6 : 6 < l.length
  ·have hd6 : decide (6 < (l.length : Int)) = true := decide_eq_true (by omega)
   rw [hd6,if_pos h6]; rfl
  ·have hd6 : decide (6 < (l.length : Int)) = false := decide_eq_false (by omega)
   rw [hd6,if_neg h6]
   simp only [cond_false]
   refine band_loop l hs.1 (by omega) (fun a i p hp ha => ?_) (fun a => by simp)
   have hil := (List.getElem?_eq_some_iff.1 hp).1
   simp only [dltLen hp,cond_true,ixNat hp,Option.bind_some,prog_onsets p (hs.2 p (List.mem_of_getElem? hp))]
   exact band_step p a _ (by omega)
theorem ref_ends (l : List GPiece) (hs : SizeC l) : f75 l = some (bandS l) := by
 unfold f75 bandS f109
 by_cases h0 : l.length = 0
 ·simp [h0]
 ·have hd : decide ((l.length : Int) = 0) = false := decide_eq_false (by omega)
  rw [hd,cond_false,if_neg h0]
  by_cases h6 : 6 < l.length
  ·have hd6 : decide (6 < (l.length : Int)) = true := decide_eq_true (by omega)
   rw [hd6,if_pos h6]; rfl
  ·have hd6 : decide (6 < (l.length : Int)) = false := decide_eq_false (by omega)
   have d0 : decide ((0 : Int) ≠ 0) = false := rfl
   rw [hd6,if_neg h6]
   simp only [cond_false,Option.bind_some,d0]
   refine band_loop l hs.1 (by omega) (fun a i p hp ha => ?_) (fun a => by simp)
   have hil := (List.getElem?_eq_some_iff.1 hp).1
   simp only [dltLen hp,cond_true,ixNat hp,Option.bind_some,ref_onsets p (hs.2 p (List.mem_of_getElem? hp))]
   exact band_step p a _ (by omega)
theorem lens_ok : ∀ (l : List GPiece) (a : List Int),(lensS a l).2 = 0 → (lensS a l).1 = a ++ l.map endP ∧ ∀ p ∈ l,pieceS p = 0
 | [],a,_ => by simp [lensS]
 | p :: r,a,h => by
  by_cases hp : pieceS p = 0
  ·simp only [lensS,if_pos hp] at h ⊢
   obtain ⟨h1,h2⟩ := lens_ok r _ h
   refine ⟨by rw [h1]; simp,fun q hq => ?_⟩
   rcases List.mem_cons.1 hq with rfl | hq
   ·exact hp
   ·exact h2 q hq
  ·simp only [lensS,if_neg hp] at h
   exact absurd h hp
theorem lens_bad : ∀ (l : List GPiece) (a : List Int),(lensS a l).2 ≠ 0 → (lensS a l).1 = []
 | [],a,h => by simp [lensS] at h
 | p :: r,a,h => by
  by_cases hp : pieceS p = 0
  ·simp only [lensS,if_pos hp] at h ⊢; exact lens_bad r _ h
  ·simp only [lensS,if_neg hp]
theorem band_ok {l : List GPiece} (h : (bandS l).2 = 0) : 0 < l.length ∧ l.length ≤ 6 ∧ (bandS l).1 = l.map endP ∧ ∀ p ∈ l,pieceS p = 0 := by
 unfold bandS at h ⊢
 by_cases h0 : l.length = 0
 ·simp [h0] at h
 ·rw [if_neg h0] at h ⊢
  by_cases h6 : 6 < l.length
  ·simp [h6] at h
  ·rw [if_neg h6] at h ⊢
   obtain ⟨h1,h2⟩ := lens_ok l [] h
   exact ⟨by omega,by omega,by simpa using h1,h2⟩
theorem band_bad {l : List GPiece} (h : (bandS l).2 ≠ 0) : (bandS l).1 = [] := by
 unfold bandS at h ⊢
 by_cases h0 : l.length = 0
 ·simp [h0]
 ·rw [if_neg h0] at h ⊢
  by_cases h6 : 6 < l.length
  ·simp [h6]
  ·rw [if_neg h6] at h ⊢
   exact lens_bad l [] h
end Go.Proofs.YtjjendjmakhfaaaGreat
