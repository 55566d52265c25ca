/-
 Plain laws,part 11: the statement on Transpose and Missing.
 Own work. No Go text.
-/
import Derived.Test.YtplpfocfcppajaaGreatLm
import Derived.Test.YtplpfocfcppajaaGreatV5
set_option linter.all false
namespace Go.Proofs.YtplpfocfcppajaaGreat
open Go Go.Am
theorem pitch_c (a : GInstrument) (c : GCourse) (h1 : c.frets ≤ (a.steps.length : Int)) (h2 : a.steps.length ≤ 18) :
  ((bif (decide (0 < c.frets)) then ((ix a.steps (wr (c.frets - 1))).bind fun y => some (wr (c.pitch + y))) else (some c.pitch)) : Option Int) = some (pitchS a.steps c) := by
 unfold pitchS
 by_cases h : 0 < c.frets
 ·have hw : wr (c.frets - 1) = (((c.frets - 1).toNat : Nat) : Int) := by rw [wr64 (by omega) (by omega)]; omega
  have hl : (c.frets - 1).toNat < a.steps.length := by omega
  have hg : a.steps[(c.frets - 1).toNat]? = some a.steps[(c.frets - 1).toNat] := List.getElem?_eq_getElem hl
  have hd : decide (0 < c.frets) = true := by simpa using h
  simp only [hd,cond_true,hw,ixNat hg,hg,Option.bind_some,Option.getD_some]
 ·have hd : decide (0 < c.frets) = false := by simpa using h
  simp only [hd,cond_false]
theorem f44_eq (a : GInstrument) : f44 a = some (instS a) := by
 unfold f44 instS
 rw [many_c,len0]
 simp only [Option.bind_some]
 cases hm : (decide (14 < a.courses.length) || decide (18 < a.steps.length)) with
 | true => rfl
 | false =>
  simp only [Bool.or_eq_false_iff,decide_eq_false_iff_not] at hm
  have hs : Small a.steps := by simp only [Small]; omega
  have hc : Small a.courses := by simp only [Small]; omega
  simp only [cond_false]
  cases decide (a.courses.length = 0) with
  | true => rfl
  | false =>
   simp only [cond_false]
   rw [loop_fold (fun (e : Int) i => (e,i)) (fun _ (e : Int) y => (bif decide (y ≤ e) || decide (127 < y) then .inr (.inr 11) else .inl y : Int ⊕ (Unit ⊕ Int))) (fun _ => .inl ()) a.steps (fun _ _ => True) 0 (small_fuel hs) trivial]
   ·rw [fold_steps]
    simp only [Option.bind_some]
    cases stepsS 0 a.steps with
    | false => rfl
    | true =>
     simp only [cond_true,Sum.elim_inl]
     rw [loop_find a.courses (badC a.steps) (fun _ c => courseS a.steps c) hc]
     ·simp only [Option.bind_some,findS_find]
      cases a.courses.find? (badC a.steps) <;> rfl
     ·intro i c hcc
      simp only [dltLen hcc,cond_true,ixNat hcc,Option.bind_some,orE,badC]
      cases hb : (decide (c.frets < 0) || decide ((a.steps.length : Int) < c.frets)) with
      | true =>
       have : courseS a.steps c = 13 := by unfold courseS; rw [hb]; rfl
       rw [this]; rfl
      | false =>
       have hb' := hb
       simp only [Bool.or_eq_false_iff,decide_eq_false_iff_not] at hb
       simp only [cond_false]
       have hco : courseS a.steps c = bif decide (c.pitch < 0) || (decide (127 < c.pitch) || decide (127 < topS a.steps c)) then 10 else 0 := by unfold courseS; rw [hb']; rfl
       rw [hco]
       cases h1 : decide (c.pitch < 0) with
       | true => rfl
       | false =>
        cases h2 : decide (127 < c.pitch) with
        | true => rfl
        | false =>
         simp only [Bool.or_false,cond_false,Bool.false_or,pitch_c a c (by omega) (by omega),Option.bind_some]
         have ht : ((bif c.octave then (some (wr (pitchS a.steps c + 12))) else (some (pitchS a.steps c))) : Option Int) = some (topS a.steps c) := by unfold topS; cases c.octave <;> rfl
         rw [ht]
         simp only [Option.bind_some]
         cases decide (127 < topS a.steps c) <;> rfl
     ·simp
   ·intro i e y hy _
    refine ⟨?_,fun _ _ => trivial⟩
    simp only [dltLen hy,cond_true,ixNat hy,Option.bind_some,orE,wrLen hs hy]
    cases (decide (y ≤ e) || decide (127 < y)) <;> rfl
   ·intro e _; simp
theorem f156_eq (a : GInstrument) (c : GCourse) (i k : Nat) (hi : a.courses[i]? = some c) (hi2 : i < 14) (h : (k : Int) ≤ c.frets) (h1 : c.frets ≤ (a.steps.length : Int)) (h2 : a.steps.length ≤ 18) :
  f156 a ⟨((i + 1 : Nat) : Int),(k : Int)⟩ = some (soundS a.steps c k) := by
 unfold f156 soundS
 have hw : wr (((i + 1 : Nat) : Int) - 1) = (i : Int) := by rw [wr64 (by omega) (by omega)]; omega
 simp only [hw,ixNat hi,Option.bind_some]
 by_cases h0 : k = 0
 ·subst h0; rfl
 ·have hd : decide (0 < (k : Int)) = true := by simp; omega
  have hw : wr ((k : Int) - 1) = ((k - 1 : Nat) : Int) := by rw [wr64 (by omega) (by omega)]; omega
  have hg : a.steps[k - 1]? = some a.steps[k - 1] := List.getElem?_eq_getElem (by omega)
  rw [hd,cond_true,hw,ixNat hg,if_neg h0,hg]; rfl
theorem placesL_snoc (s : List Int) (p : Int) (c : GCourse) : ∀ (l : List GCourse) (i : Nat),placesL s p i (l ++ [c]) = placesL s p i l ++ rowS s p (i + l.length) c (c.frets.toNat + 1)
 | [],i => by simp [placesL]
 | d :: r,i => by
  simp only [List.cons_append,placesL,placesL_snoc s p c r,List.append_assoc,List.length_cons]
  congr 3
  omega
theorem placesL_len (s : List Int) (p : Int) : ∀ (l : List GCourse) (i : Nat),(∀ c ∈ l,c.frets.toNat ≤ 18) → (placesL s p i l).length ≤ 19 * l.length
 | [],i,_ => by simp [placesL]
 | c :: r,i,h => by
  have h1 := placesL_len s p r (i + 1) fun d hd => h d (List.mem_cons_of_mem _ hd)
  have h2 := rowS_len s p i c (c.frets.toNat + 1)
  have h3 := h c (by simp)
  simp only [placesL,List.length_append,List.length_cons]
  omega
theorem f121_eq (a : GInstrument) (p : Int) : f121 a p = some (placesS a p) := by
 unfold f121 placesS
 rw [f44_eq]
 simp only [Option.bind_some,orE]
 by_cases hi : instS a = 0
 ·obtain ⟨i1,i2,i3,i4,i5⟩ := instS_ok hi
  have hfr : ∀ c ∈ a.courses,c.frets.toNat ≤ 18 := fun c hc => by
   have := courseS_ok (i5 c hc)
   omega
  have hd : decide (instS a ≠ 0) = false := by simpa using hi
  rw [hd,cond_false,if_pos hi]
  cases (decide (p < 0) || decide (127 < p)) with
  | true => rfl
  | false =>
   simp only [cond_false]
   rw [loop_all (fun i => (placesL a.steps p 0 (a.courses.take i),((i + 1 : Nat) : Int))) a.courses.length (by omega) (by simp [placesL]) (r := placesL a.steps p 0 a.courses)]
   ·rfl
   ·intro i hil
    obtain ⟨c,hc⟩ : ∃ c,a.courses[i]? = some c := ⟨_,List.getElem?_eq_getElem hil⟩
    obtain ⟨k1,k2,k3,k4,k5⟩ := courseS_ok (i5 c (List.mem_of_getElem? hc))
    have hle : decide (((i + 1 : Nat) : Int) ≤ (a.courses.length : Int)) = true := by simp; omega
    have hw0 : wr (((i + 1 : Nat) : Int) - 1) = (i : Int) := by rw [wr64 (by omega) (by omega)]; omega
    have hw1 : wr (((i + 1 : Nat) : Int) + 1) = ((i + 1 + 1 : Nat) : Int) := wrNat (by omega)
    have hlx : (placesL a.steps p 0 (a.courses.take i)).length ≤ 19 * i := by
     have := placesL_len a.steps p (a.courses.take i) 0 fun d hd => hfr d (List.mem_of_mem_take hd)
     rw [List.length_take] at this
     omega
    have htl : (a.courses.take i).length = i := by rw [List.length_take]; omega
    simp only [hle,cond_true,hw0,ixNat hc,Option.bind_some,hw1]
    rw [loop_all (fun k => (placesL a.steps p 0 (a.courses.take i) ++ rowS a.steps p i c k,(k : Int))) (c.frets.toNat + 1) (by omega) (by simp [rowS]) (r := placesL a.steps p 0 (a.courses.take (i + 1)))]
    ·rfl
    ·intro k hk
     have hle : decide ((k : Int) ≤ c.frets) = true := by simp; omega
     have hl := rowS_len a.steps p i c k
     have hm : (placesL a.steps p 0 (a.courses.take i) ++ rowS a.steps p i c k).length + 1 ≤ maxElems := by rw [List.length_append]; unfold maxElems; omega
     have hw : wr ((k : Int) + 1) = ((k + 1 : Nat) : Int) := wrNat (by omega)
     simp only [hle,cond_true,f156_eq a c i k hc (by omega) (by omega) k2 i2,Option.bind_some,hw,need,if_pos hm,rowS_succ]
     cases decide (soundS a.steps c k = p) with
     | true => simp
     | false => simp
    ·have hle : decide (((c.frets.toNat + 1 : Nat) : Int) ≤ c.frets) = false := by simp; omega
     simp only [hle,cond_false,take_snoc hc,placesL_snoc,htl,Nat.zero_add]
   ·have hle : decide (((a.courses.length + 1 : Nat) : Int) ≤ (a.courses.length : Int)) = false := by simp; omega
    simp only [hle,cond_false,List.take_length]
 ·have hd : decide (instS a ≠ 0) = true := by simpa using hi
  rw [hd,if_neg hi]; rfl
theorem bad_eq (a : GInstrument) (q : Int) : badS a q = decide (((placesS a q).1.length : Int) = 0) := by
 unfold badS
 by_cases h : (placesS a q).2 = 0
 ·simp [h]
 ·have : (placesS a q).1 = [] := by
   unfold placesS at h ⊢
   by_cases hi : instS a = 0
   ·rw [if_pos hi] at h ⊢
    cases hb : (decide (q < 0) || decide (127 < q)) with
    | true => rfl
    | false => rw [hb] at h; exact absurd rfl h
   ·rw [if_neg hi]
  rw [this]; simp
theorem f45_eq (l : List (List GTone)) (a : GInstrument) (s : Int) (hl : Small l) (hp : ∀ p ∈ l,Small p) : f45 l a s = some (missS l a s) := by
 unfold f45 missS
 rw [loop_fold (fun (n : Int) i => (n,i)) (fun _ n p => (.inl (missP a s n p) : Int ⊕ Int)) (fun n => n) l (fun _ _ => True) 0 (small_fuel hl) trivial]
 ·rw [foldE_inl (missP a s)]; rfl
 ·intro i n p hpp _
  refine ⟨?_,fun _ _ => trivial⟩
  have hps := hp p (List.mem_of_getElem? hpp)
  simp only [dltLen hpp,cond_true,ixNat hpp,Option.bind_some,wrLen hl hpp]
  rw [loop_fold (fun (n : Int) i => (n,i)) (fun _ n (t : GTone) => (.inl (bif badS a (wr (t.pitch + s)) then wr (n + 1) else n) : Int ⊕ Int)) (fun n => n) p (fun _ _ => True) n (small_fuel hps) trivial]
  ·rw [foldE_inl (fun n (t : GTone) => bif badS a (wr (t.pitch + s)) then wr (n + 1) else n)]; rfl
  ·intro j m t ht _
   refine ⟨?_,fun _ _ => trivial⟩
   simp only [dltLen ht,cond_true,ixNat ht,Option.bind_some,wrLen hps ht,f87,f121_eq,bad_eq]
   cases decide (((placesS a (wr (t.pitch + s))).1.length : Int) = 0) <;> rfl
  ·intro m _; simp
 ·intro n _; simp
end Go.Proofs.YtplpfocfcppajaaGreat
