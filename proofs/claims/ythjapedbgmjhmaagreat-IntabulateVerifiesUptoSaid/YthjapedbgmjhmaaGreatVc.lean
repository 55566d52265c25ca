/-
 Verify of chapter 8: the program and the reference give the same. Plain law.
 Own work. No Go text.
-/
import Derived.Test.YthjapedbgmjhmaaGreatVb
set_option linter.all false
namespace Go.Proofs.YthjapedbgmjhmaaGreat
open Go Go.Am
theorem notes_small {p : GPiece} (hv : ValidP p) : (notesN p).length ≤ 5600 := by
 have := stopsN_len hv p.events.length
 have := hv.many
 simp only [notesN,List.length_map]
 omega
theorem note_mem {p : GPiece} {x : GNote} (h : x ∈ notesN p) : ∃ (j : Nat) (e : GEvent) (s : GStop),x = noteN p (j,s) ∧ p.events[j]? = some e ∧ s ∈ e.stops := by
 obtain ⟨⟨j,s⟩,h1,rfl⟩ := List.mem_map.1 h
 obtain ⟨_,e,h2,h3⟩ := mem_stopsN h1
 exact ⟨j,e,s,rfl,h2,h3⟩
theorem notes_ev {p : GPiece} : ∀ n ∈ notesN p,∃ (j : Nat) (e : GEvent),n.event = (j : Int) ∧ p.events[j]? = some e := by
 intro n hn
 obtain ⟨j,e,s,rfl,h2,_⟩ := note_mem hn
 exact ⟨j,e,rfl,h2⟩
theorem at_stop {p : GPiece} (hv : ValidP p) {j : Nat} {e : GEvent} {s : GStop} (he : p.events[j]? = some e) (hs : s ∈ e.stops) :
  ∃ c,p.instrument.courses[(s.course - 1).toNat]? = some c ∧ c ∈ p.instrument.courses ∧ 1 ≤ s.course ∧ s.course ≤ (p.instrument.courses.length : Int) ∧ 0 ≤ s.fret ∧ s.fret ≤ c.frets ∧ pitN p s = fretS p.instrument c s.fret := by
 obtain ⟨k,hk⟩ := List.getElem?_of_mem hs
 have hst := (hv.ev j e he).stops k s hk
 have h1 := hst.course
 have h2 := hst.fret
 have hg : p.instrument.courses[(s.course - 1).toNat]? = some (p.instrument.courses[(s.course - 1).toNat]'(by omega)) := List.getElem?_eq_getElem (by omega)
 have h3 := hst.top _ hg
 refine ⟨_,hg,List.mem_of_getElem? hg,h1.1,h1.2,h2,h3,?_⟩
 unfold pitN
 rw [f98_eq _ _ hv.inst]
 unfold atS
 rw [if_neg (by simp only [not_or]; omega)]
 simp only [hg]
 rw [if_neg (by simp only [not_or]; omega)]
 rfl
theorem note_same {p : GPiece} (hv : ValidP p) (t : GTone) (pl : GPlace) (n : Int) (hh : hasS p.instrument pl n = true) : ∀ x ∈ notesN p,noteP t pl n x = noteQ p t pl x := by
 intro x hx
 obtain ⟨j,e,s,rfl,he,hs⟩ := note_mem hx
 unfold noteP noteQ
 have h1 : (noteN p (j,s)).event.toNat = j := by simp [noteN]
 rw [h1,he]
 simp only [Option.map_some,Option.getD_some]
 congr 1
 have h2 : (noteN p (j,s)).course = s.course := rfl
 have h3 : (noteN p (j,s)).pitch = pitN p s := rfl
 rw [h2,h3]
 by_cases hc : s.course = pl.course
 ·rw [decide_eq_true hc,Bool.true_and,Bool.true_and]
  obtain ⟨c,c1,c2,c3,c4,c5,c6,c7⟩ := at_stop hv he hs
  unfold hasS atS at hh
  rw [if_neg (by simp only [not_or]; omega),← hc] at hh
  simp only [c1] at hh
  by_cases hf : pl.fret < 0 ∨ c.frets < pl.fret
  ·rw [if_pos hf] at hh
   simp at hh
  ·rw [if_neg hf] at hh
   simp only [decide_true,Bool.true_and,decide_eq_true_eq] at hh
   rw [c7,← hh]
   by_cases hq : s.fret = pl.fret
   ·rw [hq,decide_eq_true rfl]
    symm
    rw [List.any_eq_true]
    exact ⟨s,hs,by simp [stopP,hc,hq]⟩
   ·have : ¬ fretS p.instrument c s.fret = fretS p.instrument c pl.fret := fun h => hq (fret_inj hv.inst c2 c5 c6 (by omega) (by omega) h)
    rw [decide_eq_false this]
    symm
    rw [List.any_eq_false]
    intro y hy hb
    simp only [stopP,Bool.and_eq_true,decide_eq_true_eq] at hb
    obtain ⟨k,hk⟩ := List.getElem?_of_mem hs
    obtain ⟨l,hl⟩ := List.getElem?_of_mem hy
    rcases Nat.lt_trichotomy k l with h | h | h
    ·have := stops_asc hv he l k s y h hk hl
     omega
    ·subst h
     rw [hk] at hl
     cases hl
     exact hq hb.2
    ·have := stops_asc hv he k l y s h hl hk
     omega
 ·rw [decide_eq_false hc,Bool.false_and,Bool.false_and]
def endS (L : List GLoss) (i k : Nat) (t : GTone) (x : GNote) : Bool := bif (lossR L i k 3).2 then decide ((lossR L i k 3).1.time < t.to_) && decide (x.to_ = (lossR L i k 3).1.time) else decide (t.to_ ≤ x.to_)
def twoS (P : List (List GTone)) (s : GSetting) (i k : Nat) (t : GTone) : Bool := !((lossR s.losses i k 2).2 == twinS P s t (plAt s i k) i) || ((lossR s.losses i k 2).2 && decide ((lossR s.losses i k 2).1.time ≠ t.from_))
def toneS (P : List (List GTone)) (s : GSetting) (N : List GNote) (i k : Nat) (t : GTone) (B : List Bool) : Option (List Bool) :=
 bif (lossR s.losses i k 1).2 then (bif dropS P s i k t then some B else none)
 else bif twoS P s i k t then none
 else bif !(hasS s.piece.instrument (plAt s i k) (wr (t.pitch + s.shift))) then none
 else match N.findIdx? (noteP t (plAt s i k) (wr (t.pitch + s.shift))) with
 | none => none
 | some j => match N[j]? with
  | none => none
  | some x => bif endS s.losses i k t x then some (B.set j true) else none
theorem idx_get {α : Type} {p : α → Bool} {l : List α} {j : Nat} (h : l.findIdx? p = some j) : ∃ x,l[j]? = some x := by
 obtain ⟨hlt,_⟩ := List.findIdx?_eq_some_iff_getElem.1 h
 exact ⟨_,List.getElem?_eq_getElem hlt⟩
theorem f22_eq {P : List (List GTone)} {s : GSetting} (h : Fit P s) (hp : SmallP s.piece) (hv : ValidP s.piece) {i k : Nat} {q : List GTone} {t : GTone} (hq : P[i]? = some q) (ht : q[k]? = some t) (B : List Bool) (hB : B.length = (notesN s.piece).length) :
  ∃ r,f22 ⟨P,s,notesN s.piece,B⟩ ⟨i,k⟩ = some r ∧ (match toneS P s (notesN s.piece) i k t B with | some B' => r = (true,B') | none => r.1 = false) := by
 obtain ⟨w,hw,hpl⟩ := h.at hq ht
 have hN := notes_small hv
 have hsN : Small (notesN s.piece) := by simp only [Small]; omega
 unfold f22 toneS
 simp only [f33_at _ _ _ _ _ _ h.losses,Option.bind_some]
 cases hd : (lossR s.losses i k 1).2 with
 | true =>
  simp only [cond_true]
  rw [f58_eq h hq ht]
  simp only [Option.bind_some]
  cases dropS P s i k t with
  | true => exact ⟨_,rfl,rfl⟩
  | false => exact ⟨_,rfl,rfl⟩
 | false =>
  simp only [cond_false,f59_eq h hq ht,Option.bind_some,ixNat hq,ixNat ht]
  have htwo : ((bif !((lossR s.losses i k 2).2 == twinS P s t (plAt s i k) i) then some true else bif (lossR s.losses i k 2).2 then some (decide ((lossR s.losses i k 2).1.time ≠ t.from_)) else some false) : Option Bool) = some (twoS P s i k t) := by
   unfold twoS
   cases (!((lossR s.losses i k 2).2 == twinS P s t (plAt s i k) i)) <;> cases (lossR s.losses i k 2).2 <;> rfl
  rw [htwo]
  simp only [Option.bind_some]
  cases twoS P s i k t with
  | true => exact ⟨_,rfl,rfl⟩
  | false =>
   simp only [cond_false]
   unfold f60
   simp only [ixNat hq,ixNat ht,ixNat hw,ixNat hpl,Option.bind_some,f101_eq _ _ _ hv.inst]
   cases hasS s.piece.instrument (plAt s i k) (wr (t.pitch + s.shift)) with
   | false => exact ⟨_,rfl,rfl⟩
   | true =>
    simp only [Bool.not_true,cond_false,f102_eq _ _ _ _ hsN,Option.bind_some]
    unfold idxF
    cases hf : (notesN s.piece).findIdx? (noteP t (plAt s i k) (wr (t.pitch + s.shift))) with
    | none => exact ⟨_,rfl,rfl⟩
    | some j =>
     obtain ⟨x,hx⟩ := idx_get hf
     have hj := (List.getElem?_eq_some_iff.1 hx).1
     have hb : B[j]? = some (B[j]'(by omega)) := List.getElem?_eq_getElem (by omega)
     have d : decide ((j : Int) < 0) = false := decide_eq_false (by omega)
     simp only [d,cond_false,ixNat hb,Option.bind_some,f33_at _ _ _ _ _ _ h.losses,ixNat hx,hx,endS,Int.toNat_natCast]
     cases (lossR s.losses i k 3).2 with
     | false =>
      simp only [cond_false]
      cases decide (t.to_ ≤ x.to_) <;> exact ⟨_,rfl,rfl⟩
     | true =>
      simp only [cond_true]
      cases decide ((lossR s.losses i k 3).1.time < t.to_) <;> cases decide (x.to_ = (lossR s.losses i k 3).1.time) <;> exact ⟨_,rfl,rfl⟩
def rowS {α A : Type} (f : Nat → α → A → Option A) : Nat → List α → A → Option A
 | _,[],a => some a
 | k,y :: r,a => (f k y a).bind (rowS f (k + 1) r)
def optE {A τ : Type} (c : τ) : Option A → A ⊕ τ
 | some a => .inl a
 | none => .inr c
def outE {A τ : Type} (fin : A → τ) (c : τ) : Option A → τ
 | some a => fin a
 | none => c
theorem fold_row {α A τ : Type} (f : Nat → α → A → Option A) (fin : A → τ) (c : τ) : ∀ (l : List α) (k : Nat) (a : A),foldE (fun k a y => optE c (f k y a)) fin k l a = outE fin c (rowS f k l a)
 | [],_,_ => rfl
 | y :: r,k,a => by
  simp only [foldE,rowS]
  cases f k y a with
  | none => rfl
  | some a' => simp only [optE,Option.bind_some]; exact fold_row f fin c r (k + 1) a'
theorem row_len {α A : Type} {f : Nat → α → A → Option A} {I : A → Prop} {l : List α} : ∀ {k : Nat} {a a' : A},(∀ j y a a',l[j]? = some y → I a → f (k + j) y a = some a' → I a') → I a → rowS f k l a = some a' → I a' := by
 induction l with
 | nil =>
  intro k a a' _ h e
  cases e
  exact h
 | cons y r ih =>
  intro k a a' hf h e
  simp only [rowS] at e
  cases h1 : f k y a with
  | none => rw [h1] at e; cases e
  | some b =>
   rw [h1] at e
   refine ih (k := k + 1) (a := b) (fun j z c c' hz hc hh => hf (j + 1) z c c' (by rw [List.getElem?_cons_succ]; exact hz) hc (by rw [← hh]; congr 1; omega)) (hf 0 y a b rfl h h1) e
theorem toneS_len {P : List (List GTone)} {s : GSetting} {N : List GNote} {i k : Nat} {t : GTone} {B B' : List Bool} (h : toneS P s N i k t B = some B') : B'.length = B.length := by
 unfold toneS at h
 cases hl : (lossR s.losses i k 1).2 with
 | true =>
  rw [hl] at h
  simp only [cond_true] at h
  cases hd : dropS P s i k t with
  | true => rw [hd] at h; cases h; rfl
  | false => rw [hd] at h; cases h
 | false =>
  rw [hl] at h
  simp only [cond_false] at h
  cases h1 : twoS P s i k t with
  | true => rw [h1] at h; cases h
  | false =>
   rw [h1] at h
   simp only [cond_false] at h
   cases h2 : hasS s.piece.instrument (plAt s i k) (wr (t.pitch + s.shift)) with
   | false => rw [h2] at h; cases h
   | true =>
    rw [h2] at h
    simp only [Bool.not_true,cond_false] at h
    split at h
    ·cases h
    ·split at h
     ·cases h
     ·rename_i x _
      cases h3 : endS s.losses i k t x with
      | false => rw [h3] at h; cases h
      | true => rw [h3] at h; cases h; simp
def partS (P : List (List GTone)) (s : GSetting) (N : List GNote) (i : Nat) (q : List GTone) (B : List Bool) : Option (List Bool) := rowS (fun k t B => toneS P s N i k t B) 0 q B
def tonesS (P : List (List GTone)) (s : GSetting) (N : List GNote) (B : List Bool) : Option (List Bool) := rowS (fun i q B => partS P s N i q B) 0 P B
theorem partS_len {P : List (List GTone)} {s : GSetting} {N : List GNote} {i : Nat} {q : List GTone} {B B' : List Bool} (h : partS P s N i q B = some B') : B'.length = B.length :=
 row_len (I := fun b => b.length = B.length) (fun j y a a' _ ha hh => (toneS_len hh).trans ha) rfl h
theorem tonesS_len {P : List (List GTone)} {s : GSetting} {N : List GNote} {B B' : List Bool} (h : tonesS P s N B = some B') : B'.length = B.length :=
 row_len (I := fun b => b.length = B.length) (fun j y a a' _ ha hh => (partS_len hh).trans ha) rfl h
def wholeS (P : List (List GTone)) (s : GSetting) : Int := match tonesS P s (notesN s.piece) (List.replicate (notesN s.piece).length false) with
 | none => 82
 | some B => bif B.any (fun y => !y) then 82 else 0
def rowsS (P : List (List GTone)) (s : GSetting) : Bool := (List.range P.length).any fun i => decide (((s.where_[i]?).getD []).length ≠ ((P[i]?).getD []).length)
def verS (P : List (List GTone)) (s : GSetting) : Int :=
 if partsS P ≠ 0 then partsS P else if pieceS s.piece ≠ 0 then pieceS s.piece
 else if (!(inR s.shift (-24) 24) || decide ((s.where_.length : Int) ≠ (P.length : Int))) = true then 1
 else if rowsS P s = true then 1
 else if listedS P s.losses = false then 82 else wholeS P s
theorem fit_of {P : List (List GTone)} {s : GSetting} (h1 : partsS P = 0) (h2 : s.where_.length = P.length) (h3 : rowsS P s = false) (h4 : Small s.losses) : Fit P s := by
 obtain ⟨a,b⟩ := partsS_ok h1
 refine ⟨a,fun q hq => (b q hq).1,fun i q hq => ?_,h4⟩
 have hi := (List.getElem?_eq_some_iff.1 hq).1
 have hg : s.where_[i]? = some (s.where_[i]'(by omega)) := List.getElem?_eq_getElem (by omega)
 refine ⟨_,hg,?_⟩
 unfold rowsS at h3
 rw [List.any_eq_false] at h3
 have := h3 i (List.mem_range.2 hi)
 simpa [hg,hq] using this
theorem decN (a b : Nat) : decide ((a : Int) ≠ (b : Int)) = decide (a ≠ b) := by
 by_cases h : a = b
 ·simp [h]
 ·have : ¬ (a : Int) = b := by omega
  simp [h,this]
theorem idx_false (B : List Bool) (h : Small B) : f23 B false = some (B.any fun y => !y) := by
 have h1 : f61 B false = some (idxF (fun y => !y) B) := by
  unfold f61
  rw [loop_find B (fun y => !y) (fun i _ => (i : Int)) h]
  ·simp only [Option.bind_some,findS_idx,idxF]
   cases B.findIdx? _ <;> simp
  ·intro i y hy
   simp only [dltLen hy,cond_true,ixNat hy,Option.bind_some]
   cases y <;> rfl
  ·simp
 unfold f23
 rw [h1]
 simp only [Option.bind_some,idxF_nonneg]
theorem f6_eq (P : List (List GTone)) (s : GSetting) (hsP : Small P) (hp : SmallP s.piece) (hL : Small s.losses) : f6 P s = some (verS P s) := by
 unfold f6 verS
 simp only [f17_eq P hsP,Option.bind_some]
 by_cases h1 : partsS P ≠ 0
 ·rw [decide_eq_true h1,if_pos h1]; rfl
 rw [decide_eq_false h1,if_neg h1]
 simp only [cond_false,prog_check _ hp,Option.bind_some]
 by_cases h2 : pieceS s.piece ≠ 0
 ·rw [decide_eq_true h2,if_pos h2]; rfl
 rw [decide_eq_false h2,if_neg h2]
 simp only [cond_false,f19_eq,Option.bind_some,orE]
 cases h3 : (!(inR s.shift (-24) 24) || decide ((s.where_.length : Int) ≠ (P.length : Int))) with
 | true => rfl
 | false =>
 have h3' : s.where_.length = P.length := by
  simp only [Bool.or_eq_false_iff,decide_eq_false_iff_not,ne_eq,Decidable.not_not] at h3
  omega
 simp only [cond_false,if_neg (Bool.false_ne_true)]
 have h1' : partsS P = 0 := by omega
 obtain ⟨p6,p4⟩ := partsS_ok h1'
 rw [loop_find (List.range P.length) (fun i => decide (((s.where_[i]?).getD []).length ≠ ((P[i]?).getD []).length)) (fun _ _ => (1 : Int)) (small_range (by omega))]
 rotate_left
 ·intro i y hy
  obtain ⟨rfl,hi⟩ := get_range hy
  have hg : P[y]? = some P[y] := List.getElem?_eq_getElem hi
  have hw : s.where_[y]? = some (s.where_[y]'(by omega)) := List.getElem?_eq_getElem (by omega)
  simp only [dltLen hg,cond_true,ixNat hg,ixNat hw,Option.bind_some,hg,hw,Option.getD_some,decN]
  cases decide ((s.where_[y]'(by omega)).length ≠ P[y].length) <;> rfl
 ·simp
 rw [findS_any]
 change Option.bind (some (bif rowsS P s then Sum.inr 1 else Sum.inl () : Unit ⊕ Int)) _ = _
 cases h4 : rowsS P s with
 | true => rfl
 | false =>
 have hfit := fit_of h1' h3' h4 hL
 have h2' : pieceS s.piece = 0 := by omega
 have hv := valid_of hp h2'
 have hN := notes_small hv
 simp only [cond_false,Option.bind_some,Sum.elim_inl,notes_prog _ hp h2',if_neg (Bool.false_ne_true)]
 have d0 : decide ((0 : Int) ≠ 0) = false := rfl
 rw [d0]
 simp only [cond_false]
 rw [need_one (by omega),need_one (by simp only [maxElems]; omega),f21_at _ _ _ _ ⟨by omega,fun q hq => by have := (p4 q hq).1; omega⟩ hL]
 simp only [Option.bind_some,Int.toNat_natCast]
 cases h5 : listedS P s.losses with
 | false => rfl
 | true =>
 rw [if_neg (by decide)]
 simp only [Bool.not_true,cond_false]
 rw [loop_fold (fun (B : List Bool) i => (B,i)) (fun i B q => optE (.inr 82) (partS P s (notesN s.piece) i q B)) (fun B => .inl B) P (fun _ B => B.length = (notesN s.piece).length) (List.replicate (notesN s.piece).length false) (small_fuel hsP) (List.length_replicate)]
 ·rw [fold_row]
  rw [show rowS (fun i q B => partS P s (notesN s.piece) i q B) 0 P (List.replicate (notesN s.piece).length false) = tonesS P s (notesN s.piece) (List.replicate (notesN s.piece).length false) from rfl]
  unfold wholeS
  cases hT : tonesS P s (notesN s.piece) (List.replicate (notesN s.piece).length false) with
  | none => rfl
  | some B =>
   have hB := tonesS_len hT
   rw [List.length_replicate] at hB
   simp only [Option.bind_some,outE,Sum.elim_inl,idx_false B (by simp only [Small]; omega)]
   cases B.any fun y => !y <;> rfl
 ·intro i B q hq hB
  refine ⟨?_,fun B' e => ?_⟩
  ·have hs4 : Small q := by have := (p4 q (List.mem_of_getElem? hq)).1; simp only [Small]; omega
   simp only [dltLen hq,cond_true,ixNat hq,Option.bind_some]
   rw [loop_fold (fun (B : List Bool) k => (B,k)) (fun k B t => optE (.inr (.inr (.inr 82))) (toneS P s (notesN s.piece) i k t B)) (fun B => .inl B) q (fun _ B => B.length = (notesN s.piece).length) B (small_fuel hs4) hB]
   ·rw [fold_row]
    rw [show rowS (fun k t B => toneS P s (notesN s.piece) i k t B) 0 q B = partS P s (notesN s.piece) i q B from rfl]
    cases partS P s (notesN s.piece) i q B with
    | none => rfl
    | some B' => simp only [Option.bind_some,outE,Sum.elim_inl,optE,stepW,wrLen hsP hq]
   ·intro k B t ht hB
    refine ⟨?_,fun B' e => ?_⟩
    ·simp only [dltLen ht,cond_true]
     obtain ⟨r,hr,hm⟩ := f22_eq hfit hp hv hq ht B hB
     rw [hr]
     cases hT : toneS P s (notesN s.piece) i k t B with
     | none =>
      rw [hT] at hm
      simp only at hm
      simp only [Option.bind_some,hm,Bool.not_false,cond_true]
      rfl
     | some B' =>
      rw [hT] at hm
      simp only at hm
      subst hm
      simp only [Option.bind_some,Bool.not_true,cond_false,wrLen hs4 ht]
      rfl
    ·cases hT : toneS P s (notesN s.piece) i k t B with
     | none => rw [hT] at e; cases e
     | some B'' => rw [hT] at e; cases e; exact (toneS_len hT).trans hB
   ·intro B hB; simp
  ·cases hT : partS P s (notesN s.piece) i q B with
   | none => rw [hT] at e; cases e
   | some B'' => rw [hT] at e; cases e; exact (partS_len hT).trans hB
 ·intro B hB; simp
end Go.Proofs.YthjapedbgmjhmaaGreat
