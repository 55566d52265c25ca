/-
 Verify of chapter 8: the reference's gives what the program's gives. Plain law.
 Own work. No Go text.
-/
import Derived.Test.YthjapedbgmjhmaaGreatVc
set_option linter.all false
namespace Go.Proofs.YthjapedbgmjhmaaGreat
open Go Go.Am
theorem f25_eq (x : Int) : f25 x = some (!(inR x (-24) 24)) := by
 unfold f25 inR
 by_cases h1 : x < -24
 ·have : ¬ (-24 : Int) ≤ x := by omega
  simp [h1,this]
 ·have h2 : (-24 : Int) ≤ x := by omega
  by_cases h3 : 24 < x
  ·have : ¬ x ≤ (24 : Int) := by omega
   simp [h1,h2,h3,this]
  ·have : x ≤ (24 : Int) := by omega
   simp [h1,h2,h3,this]
theorem endS_ref (L : List GLoss) (i k : Nat) (t : GTone) (x : GNote) (N : List GNote) (j : Nat) (hx : N[j]? = some x) :
  ((bif (lossR L i k 3).2 then ((ix N (j : Int)).bind fun y35 => bif (decide ((lossR L i k 3).1.time ≠ y35.to_)) then (some true) else (bif (decide (t.to_ ≤ (lossR L i k 3).1.time)) then (some true) else (bif (!(lossR L i k 3).2) then (some (decide (y35.to_ < t.to_))) else (some false)))) else (bif (!(lossR L i k 3).2) then ((ix N (j : Int)).bind fun y40 => some (decide (y40.to_ < t.to_))) else (some false))) : Option Bool) = some (!(endS L i k t x)) := by
 rw [ixNat hx]
 unfold endS
 cases (lossR L i k 3).2 with
 | false =>
  simp only [cond_false,Bool.not_false,cond_true,Option.bind_some]
  by_cases h : x.to_ < t.to_
  ·have : ¬ t.to_ ≤ x.to_ := by omega
   simp [h,this]
  ·have : t.to_ ≤ x.to_ := by omega
   simp [h,this]
 | true =>
  simp only [cond_true,Option.bind_some,Bool.not_true,cond_false]
  by_cases h : x.to_ = (lossR L i k 3).1.time
  ·by_cases h2 : t.to_ ≤ (lossR L i k 3).1.time
   ·have : ¬ (lossR L i k 3).1.time < t.to_ := by omega
    simp [h,h2,this]
   ·have : (lossR L i k 3).1.time < t.to_ := by omega
    simp [h,h2,this]
  ·have h' : ¬ (lossR L i k 3).1.time = x.to_ := fun e => h e.symm
   simp [h,h']
theorem twoS_ref (P : List (List GTone)) (s : GSetting) (i k : Nat) (t : GTone) :
  ((bif (!((lossR s.losses i k 2).2 == twinS P s t (plAt s i k) i)) then (some true) else (bif (lossR s.losses i k 2).2 then (some (decide ((lossR s.losses i k 2).1.time ≠ t.from_))) else (some false))) : Option Bool) = some (twoS P s i k t) := by
 unfold twoS
 cases (!((lossR s.losses i k 2).2 == twinS P s t (plAt s i k) i)) <;> cases (lossR s.losses i k 2).2 <;> rfl
theorem has_ref (a : GInstrument) (pl : GPlace) (n : Int) (r : Int) :
  (decide ((atS a pl).2 ≠ 0) || (decide ((atS a pl).1 ≠ n) || decide (r < 0))) = (!(hasS a pl n) || decide (r < 0)) := by
 unfold hasS
 by_cases h1 : (atS a pl).2 = 0
 ·by_cases h2 : (atS a pl).1 = n
  ·simp [h1,h2]
  ·simp [h1,h2]
 ·simp [h1]
theorem f7_eq (P : List (List GTone)) (s : GSetting) (hsP : Small P) (hp : SmallP s.piece) (hL : Small s.losses) : f7 P s = some (verS P s) := by
 unfold f7 verS
 simp only [f13_eq P hsP,Option.bind_some]
 by_cases h1 : partsS P ≠ 0
 ·rw [decide_eq_true h1,if_pos h1]; rfl
 rw [decide_eq_false h1,if_neg h1]
 simp only [cond_false,ref_check _ hp,Option.bind_some]
 by_cases h2 : pieceS s.piece ≠ 0
 ·rw [decide_eq_true h2,if_pos h2]; rfl
 rw [decide_eq_false h2,if_neg h2]
 simp only [cond_false,f25_eq,Option.bind_some,orE]
 cases h3 : (!(inR s.shift (-24) 24) || decide ((s.where_.length : Int) ≠ (P.length : Int))) with
 | true => rfl
 | false =>
 have h3' : s.where_.length = P.length := by
  simp only [Bool.or_eq_false_iff,decide_eq_false_iff_not,ne_eq,Decidable.not_not] at h3
  omega
 simp only [cond_false,if_neg (Bool.false_ne_true)]
 have h1' : partsS P = 0 := by omega
 obtain ⟨p6,p4⟩ := partsS_ok h1'
 rw [loop_find (List.range P.length) (fun i => decide (((s.where_[i]?).getD []).length ≠ ((P[i]?).getD []).length)) (fun _ _ => (1 : Int)) (small_range (by omega))]
 rotate_left
 ·intro i y hy
  obtain ⟨rfl,hi⟩ := get_range hy
  have hg : P[y]? = some P[y] := List.getElem?_eq_getElem hi
  have hw : s.where_[y]? = some (s.where_[y]'(by omega)) := List.getElem?_eq_getElem (by omega)
  simp only [dltLen hg,cond_true,ixNat hg,ixNat hw,Option.bind_some,hg,hw,Option.getD_some,decN]
  cases decide ((s.where_[y]'(by omega)).length ≠ P[y].length) <;> rfl
 ·simp
 rw [findS_any]
 change Option.bind (some (bif rowsS P s then Sum.inr 1 else Sum.inl () : Unit ⊕ Int)) _ = _
 cases h4 : rowsS P s with
 | true => rfl
 | false =>
 have hfit := fit_of h1' h3' h4 hL
 have h2' : pieceS s.piece = 0 := by omega
 have hv := valid_of hp h2'
 have hN := notes_small hv
 simp only [cond_false,Option.bind_some,Sum.elim_inl,if_neg (Bool.false_ne_true)]
 rw [f26_eq P s ⟨by omega,fun q hq => by have := (p4 q hq).1; omega⟩ hL]
 simp only [Option.bind_some]
 cases h5 : listedS P s.losses with
 | false => rfl
 | true =>
 simp only [Bool.not_true,cond_false,notes_ref _ hp h2',Option.bind_some]
 rw [if_neg (by simp),need_one (by omega),need_one (by simp only [maxElems]; omega)]
 simp only [Int.toNat_natCast]
 rw [loop_fold (fun (B : List Bool) i => (B,i)) (fun i B q => optE (.inr 82) (partS P s (notesN s.piece) i q B)) (fun B => .inl B) P (fun _ B => B.length = (notesN s.piece).length) (List.replicate (notesN s.piece).length false) (small_fuel hsP) (List.length_replicate)]
 ·rw [fold_row]
  rw [show rowS (fun i q B => partS P s (notesN s.piece) i q B) 0 P (List.replicate (notesN s.piece).length false) = tonesS P s (notesN s.piece) (List.replicate (notesN s.piece).length false) from rfl]
  unfold wholeS
  cases hT : tonesS P s (notesN s.piece) (List.replicate (notesN s.piece).length false) with
  | none => rfl
  | some B =>
   have hB := tonesS_len hT
   rw [List.length_replicate] at hB
   simp only [Option.bind_some,outE,Sum.elim_inl]
   rw [loop_find B (fun y => !y) (fun _ _ => (82 : Int)) (by simp only [Small]; omega)]
   ·rw [findS_any]
    cases B.any fun y => !y <;> rfl
   ·intro i y hy
    simp only [dltLen hy,cond_true,ixNat hy,Option.bind_some]
    cases y <;> rfl
   ·simp
 ·intro i B q hq hB
  refine ⟨?_,fun B' e => ?_⟩
  ·have hs4 : Small q := by have := (p4 q (List.mem_of_getElem? hq)).1; simp only [Small]; omega
   simp only [dltLen hq,cond_true]
   rw [loop_fold (fun (B : List Bool) k => (B,k)) (fun k B t => optE (.inr (.inr (.inr 82))) (toneS P s (notesN s.piece) i k t B)) (fun B => .inl B) q (fun _ B => B.length = (notesN s.piece).length) B (small_fuel hs4) hB]
   ·rw [fold_row]
    rw [show rowS (fun k t B => toneS P s (notesN s.piece) i k t B) 0 q B = partS P s (notesN s.piece) i q B from rfl]
    cases partS P s (notesN s.piece) i q B with
    | none => rfl
    | some B' => simp only [Option.bind_some,outE,Sum.elim_inl,optE,stepW,wrLen hsP hq]
   ·intro k B t ht hB
    refine ⟨?_,fun B' e => ?_⟩
    ·obtain ⟨w,hw,hpl⟩ := hfit.at hq ht
     have hsN : Small (notesN s.piece) := by simp only [Small]; omega
     simp only [ixNat hq,Option.bind_some,dltLen ht,cond_true,ixNat ht,ixNat hw,ixNat hpl,f28_eq _ _ _ _ hL]
     unfold toneS
     cases hd : (lossR s.losses i k 1).2 with
     | true =>
      simp only [cond_true,f29_eq hfit hq ht,Option.bind_some]
      cases dropS P s i k t with
      | false => rfl
      | true => simp only [Bool.not_true,cond_false,cond_true,Option.bind_some,Sum.elim_inl,optE,stepW,wrLen hs4 ht]
     | false =>
      simp only [cond_false,f30_eq _ _ hv.inst,f31_eq _ _ _ _ hsN hp notes_ev,Option.bind_some,has_ref]
      cases hh : hasS s.piece.instrument (plAt s i k) (wr (t.pitch + s.shift)) with
      | false =>
       simp only [Bool.not_false,Bool.true_or,cond_true]
       cases twoS P s i k t <;> rfl
      | true =>
       rw [← idxF_congr (note_same hv t (plAt s i k) _ hh)]
       simp only [Bool.not_true,Bool.false_or,cond_false]
       unfold idxF
       cases hf : (notesN s.piece).findIdx? (noteP t (plAt s i k) (wr (t.pitch + s.shift))) with
       | none => cases twoS P s i k t <;> rfl
       | some j =>
        obtain ⟨x,hx⟩ := idx_get hf
        have hj := (List.getElem?_eq_some_iff.1 hx).1
        have hb : B[j]? = some (B[j]'(by omega)) := List.getElem?_eq_getElem (by omega)
        have d : decide ((j : Int) < 0) = false := decide_eq_false (by omega)
        simp only [d,cond_false,ixNat hb,Option.bind_some,hx]
        rw [endS_ref s.losses i k t x (notesN s.piece) j hx]
        simp only [Option.bind_some,f32_eq hfit hq ht,twoS_ref,Int.toNat_natCast]
        cases endS s.losses i k t x <;> cases twoS P s i k t
        ·rfl
        ·rfl
        ·simp only [Bool.not_true,cond_false,cond_true,Option.bind_some,Sum.elim_inl,optE,stepW,wrLen hs4 ht]
        ·rfl
    ·cases hT : toneS P s (notesN s.piece) i k t B with
     | none => rw [hT] at e; cases e
     | some B'' => rw [hT] at e; cases e; exact (toneS_len hT).trans hB
   ·intro B hB; simp [ixNat hq]
  ·cases hT : partS P s (notesN s.piece) i q B with
   | none => rw [hT] at e; cases e
   | some B'' => rw [hT] at e; cases e; exact (partS_len hT).trans hB
 ·intro B hB; simp
end Go.Proofs.YthjapedbgmjhmaaGreat
