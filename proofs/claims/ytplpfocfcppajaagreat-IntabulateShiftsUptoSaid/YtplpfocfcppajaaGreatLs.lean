/-
  Plain laws, part 11: the statement on Transpose and Missing.
  Own work. No Go text.
-/
import Derived.Test.YtplpfocfcppajaaGreatLm
import Derived.Test.YtplpfocfcppajaaGreatV5
set_option linter.all false
namespace Go.Proofs.YtplpfocfcppajaaGreat
open Go Go.Am

theorem fold_map {α β τ : Type} (g : α → β) (fin : List β → τ) : ∀ (l : List α) (k : Nat) (a : List β), foldE (fun _ a y => (.inl (a ++ [g y]) : List β ⊕ τ)) fin k l a = fin (a ++ l.map g)
  | [], _, a => by simp [foldE]
  | y :: r, k, a => by simp only [foldE, fold_map g fin r, List.map_cons, List.append_assoc, List.singleton_append]

theorem fold_mapE {α β τ : Type} (b : α → Bool) (g : α → β) (c : τ) (fin : List β → τ) : ∀ (l : List α) (k : Nat) (a : List β), foldE (fun _ a y => (bif b y then .inr c else .inl (a ++ [g y]) : List β ⊕ τ)) fin k l a = bif l.any b then c else fin (a ++ l.map g)
  | [], _, a => by simp [foldE]
  | y :: r, k, a => by
    simp only [foldE, List.any_cons, List.map_cons]
    cases b y with
    | true => rfl
    | false => simp only [cond_false, fold_mapE b g c fin r, Bool.false_or, List.append_assoc, List.singleton_append]

def moveT (s : Int) (t : GTone) : GTone := ⟨wr (t.pitch + s), t.from_, t.to_⟩
def outT (s : Int) (t : GTone) : Bool := !(inR (wr (t.pitch + s)) 0 127)
def transS (l : List (List GTone)) (s : Int) : List (List GTone) × Int :=
  if partsS l = 0 then (bif inR s (-24) 24 then (bif l.any (fun p => p.any (outT s)) then ([], 80) else (l.map (fun p => p.map (moveT s)), 0)) else ([], 1)) else ([], partsS l)

theorem f51_eq (p : List GTone) (s : Int) (h : p.length ≤ 400) : f51 p s = some (p.map (moveT s)) := by
  have hs : Small p := by simp only [Small]; omega
  have n1 : (0 : Int) ≤ (p.length : Int) := Int.natCast_nonneg _
  have n2 : (p.length : Int) ≤ (maxElems : Int) := by unfold maxElems; omega
  unfold f51
  simp only [need, if_pos n1, if_pos n2]
  rw [loop_fold (fun (a : List GTone) i => (a, i)) (fun _ a t => (.inl (a ++ [moveT s t]) : List GTone ⊕ List GTone)) (fun a => a) p (fun i a => a.length ≤ i) [] (small_fuel hs) (by simp)]
  · rw [fold_map (moveT s)]; simp
  · intro i a t ht ha
    have hil := (List.getElem?_eq_some_iff.1 ht).1
    have hm : a.length + 1 ≤ maxElems := by unfold maxElems; omega
    refine ⟨?_, fun a' he => by cases he; simp; omega⟩
    simp only [dltLen ht, cond_true, ixNat ht, Option.bind_some, f52, need, if_pos hm, wrLen hs ht]
    rfl
  · intro a _; simp

theorem f49_eq (l : List (List GTone)) (s : Int) (h : l.length ≤ 6) (hp : ∀ p ∈ l, p.length ≤ 400) : f49 l s = some (l.map fun p => p.map (moveT s)) := by
  have hs : Small l := by simp only [Small]; omega
  have n1 : (0 : Int) ≤ (l.length : Int) := Int.natCast_nonneg _
  have n2 : (l.length : Int) ≤ (maxElems : Int) := by unfold maxElems; omega
  unfold f49
  simp only [need, if_pos n1, if_pos n2]
  rw [loop_fold (fun (a : List (List GTone)) i => (a, i)) (fun _ a (p : List GTone) => (.inl (a ++ [p.map (moveT s)]) : List (List GTone) ⊕ List (List GTone))) (fun a => a) l (fun i a => a.length ≤ i) [] (small_fuel hs) (by simp)]
  · rw [fold_map (fun p : List GTone => p.map (moveT s))]; simp
  · intro i a t ht ha
    have hil := (List.getElem?_eq_some_iff.1 ht).1
    have hm : a.length + 1 ≤ maxElems := by unfold maxElems; omega
    refine ⟨?_, fun a' he => by cases he; simp; omega⟩
    simp only [dltLen ht, cond_true, ixNat ht, Option.bind_some, f50, f51_eq t s (hp t (List.mem_of_getElem? ht)), need, if_pos hm, wrLen hs ht]
    rfl
  · intro a _; simp

def badPitch (t : GTone) : Bool := !(inR t.pitch 0 127)

theorem f53_1_eq (p : List GTone) (hs : Small p) : f53_1 p = some (p.any badPitch) := by
  have h : f94_1 p = some (idxF badPitch p) := by
    unfold f94_1
    rw [loop_find p badPitch (fun i _ => (i : Int)) hs]
    · simp only [Option.bind_some, findS_idx, idxF]
      cases p.findIdx? _ <;> simp
    · intro i y hy
      simp only [dltLen hy, cond_true, ixNat hy, Option.bind_some, f54, f48_eq, badPitch]
      cases inR y.pitch 0 127 <;> rfl
    · simp
  unfold f53_1
  rw [h]
  simp only [Option.bind_some, idxF_nonneg]

theorem any_move (l : List (List GTone)) (s : Int) : (l.map fun p => p.map (moveT s)).any (fun p => p.any badPitch) = l.any (fun p => p.any (outT s)) := by
  rw [List.any_map]
  congr 1
  funext p
  simp only [Function.comp, List.any_map]
  rfl

theorem f21_eq (l : List (List GTone)) (s : Int) (hl : Small l) : f21 l s = some (transS l s) := by
  unfold f21 transS
  rw [f36_eq l hl]
  simp only [Option.bind_some]
  by_cases h : partsS l = 0
  · obtain ⟨h1, h2⟩ := partsS_small h
    have hd : decide (partsS l ≠ 0) = false := by simpa using h
    rw [hd, cond_false, if_pos h, f48_eq]
    simp only [Option.bind_some]
    cases inR s (-24) 24 with
    | false => rfl
    | true =>
      simp only [Bool.not_true, cond_false, cond_true, f49_eq l s h1 h2, Option.bind_some]
      rw [loop_find (l.map fun p => p.map (moveT s)) (fun p => p.any badPitch) (fun _ _ => (([], 80) : List (List GTone) × Int)) (by simp only [Small, List.length_map]; omega)]
      · simp only [Option.bind_some, findS_any, any_move]
        cases l.any (fun p => p.any (outT s)) <;> rfl
      · intro i q hq
        have hqs : Small q := by
          obtain ⟨p, hp, rfl⟩ := List.mem_map.1 (List.mem_of_getElem? hq)
          have := h2 p hp
          simp only [Small, List.length_map]; omega
        simp only [dltLen hq, cond_true, ixNat hq, Option.bind_some, f53_1_eq q hqs]
        cases q.any badPitch <;> rfl
      · simp
  · have hd : decide (partsS l ≠ 0) = true := by simpa using h
    rw [hd, if_neg h]; rfl

theorem f55_eq (s : Int) : f55 s = some (!(inR s (-24) 24)) := by
  unfold f55
  rw [notInR, orE]
  cases (decide (s < -24) || decide (24 < s)) <;> rfl

theorem f22_eq (l : List (List GTone)) (s : Int) (hl : Small l) : f22 l s = some (transS l s) := by
  unfold f22 transS
  rw [f38_eq l hl]
  simp only [Option.bind_some]
  by_cases h : partsS l = 0
  · obtain ⟨h1, h2⟩ := partsS_small h
    have hd : decide (partsS l ≠ 0) = false := by simpa using h
    rw [hd, cond_false, if_pos h, f55_eq]
    simp only [Option.bind_some]
    cases inR s (-24) 24 with
    | false => rfl
    | true =>
      simp only [Bool.not_true, cond_false, cond_true]
      rw [loop_fold (fun (a : List (List GTone)) i => (a, i)) (fun _ a (p : List GTone) => (bif p.any (outT s) then .inr (.inr ([], 80)) else .inl (a ++ [p.map (moveT s)]) : List (List GTone) ⊕ (List (List GTone) ⊕ (List (List GTone) × Int)))) (fun a => .inl a) l (fun i a => a.length ≤ i) [] (small_fuel hl) (by simp)]
      · rw [fold_mapE (fun p : List GTone => p.any (outT s)) (fun p : List GTone => p.map (moveT s))]
        simp only [Option.bind_some]
        cases l.any (fun p => p.any (outT s)) <;> simp
      · intro i a p hp ha
        have hil := (List.getElem?_eq_some_iff.1 hp).1
        have hpl := h2 p (List.mem_of_getElem? hp)
        have hps : Small p := by simp only [Small]; omega
        constructor
        · simp only [dltLen hp, cond_true, ixNat hp, Option.bind_some]
          rw [loop_fold (fun (b : List GTone) i => (b, i)) (fun _ b (t : GTone) => (bif outT s t then .inr (.inr (.inr (.inr ([], 80)))) else .inl (b ++ [moveT s t]) : List GTone ⊕ (List GTone ⊕ ((List (List GTone) × Int) ⊕ (List (List GTone) ⊕ (List (List GTone) × Int)))))) (fun b => .inl b) p (fun i b => b.length ≤ i) [] (small_fuel hps) (by simp)]
          · rw [fold_mapE (outT s) (moveT s)]
            have hm : a.length + 1 ≤ maxElems := by unfold maxElems; omega
            simp only [Option.bind_some]
            cases p.any (outT s) with
            | true => rfl
            | false => simp only [cond_false, Sum.elim_inl, List.nil_append, need, if_pos hm, wrLen hl hp]; rfl
          · intro j b t ht hb
            have hjl := (List.getElem?_eq_some_iff.1 ht).1
            have hm : b.length + 1 ≤ maxElems := by unfold maxElems; omega
            constructor
            · simp only [dltLen ht, cond_true, ixNat ht, Option.bind_some, orE, outT, notInR, need, if_pos hm, wrLen hps ht]
              cases (decide (wr (t.pitch + s) < 0) || decide (127 < wr (t.pitch + s))) <;> rfl
            · intro b' he
              cases ho : outT s t with
              | true => rw [ho] at he; cases he
              | false => rw [ho] at he; cases he; simp; omega
          · intro b _; simp
        · intro a' he
          cases ho : p.any (outT s) with
          | true => rw [ho] at he; cases he
          | false => rw [ho] at he; cases he; simp; omega
      · intro a _; simp
  · have hd : decide (partsS l ≠ 0) = true := by simpa using h
    rw [hd, if_neg h]; rfl

theorem f33_same (l : List GTone) (hs : Small l) : f33 l l = some true := by
  unfold f33
  have hd : decide ((l.length : Int) ≠ (l.length : Int)) = false := by simp
  rw [hd, cond_false, loop_none l hs]
  · rfl
  · intro i y hy
    have : eq_GTone y y = true := by simp [eq_GTone]
    simp only [dltLen hy, cond_true, ixNat hy, Option.bind_some, this, Bool.not_true, cond_false]
  · simp

theorem f23_refl (l : List (List GTone)) (hl : Small l) (hp : ∀ p ∈ l, Small p) : f23 l l = some true := by
  unfold f23
  have hd : decide ((l.length : Int) ≠ (l.length : Int)) = false := by simp
  rw [hd, cond_false, loop_none l hl]
  · rfl
  · intro i p hpp
    simp only [dltLen hpp, cond_true, ixNat hpp, Option.bind_some, f33_same p (hp p (List.mem_of_getElem? hpp)), Bool.not_true, cond_false]
  · simp

theorem transS_small (l : List (List GTone)) (s : Int) : Small (transS l s).1 ∧ ∀ p ∈ (transS l s).1, Small p := by
  unfold transS
  by_cases h : partsS l = 0
  · obtain ⟨h1, h2⟩ := partsS_small h
    rw [if_pos h]
    cases inR s (-24) 24 with
    | false => simp [Small]
    | true =>
      cases l.any (fun p => p.any (outT s)) with
      | true => simp [Small]
      | false =>
        simp only [cond_true, cond_false]
        refine ⟨by simp only [Small, List.length_map]; omega, fun q hq => ?_⟩
        obtain ⟨p, hp, rfl⟩ := List.mem_map.1 hq
        have := h2 p hp
        simp only [Small, List.length_map]; omega
  · rw [if_neg h]; simp [Small]

/-! ### The reference's instruments and places -/

theorem pitch_c (a : GInstrument) (c : GCourse) (h1 : c.frets ≤ (a.steps.length : Int)) (h2 : a.steps.length ≤ 18) :
    ((bif (decide (0 < c.frets)) then ((ix a.steps (wr (c.frets - 1))).bind fun y => some (wr (c.pitch + y))) else (some c.pitch)) : Option Int) = some (pitchS a.steps c) := by
  unfold pitchS
  by_cases h : 0 < c.frets
  · have hw : wr (c.frets - 1) = (((c.frets - 1).toNat : Nat) : Int) := by rw [wr64 (by omega) (by omega)]; omega
    have hl : (c.frets - 1).toNat < a.steps.length := by omega
    have hg : a.steps[(c.frets - 1).toNat]? = some a.steps[(c.frets - 1).toNat] := List.getElem?_eq_getElem hl
    have hd : decide (0 < c.frets) = true := by simpa using h
    simp only [hd, cond_true, hw, ixNat hg, hg, Option.bind_some, Option.getD_some]
  · have hd : decide (0 < c.frets) = false := by simpa using h
    simp only [hd, cond_false]

theorem f44_eq (a : GInstrument) : f44 a = some (instS a) := by
  unfold f44 instS
  rw [many_c, len0]
  simp only [Option.bind_some]
  cases hm : (decide (14 < a.courses.length) || decide (18 < a.steps.length)) with
  | true => rfl
  | false =>
    simp only [Bool.or_eq_false_iff, decide_eq_false_iff_not] at hm
    have hs : Small a.steps := by simp only [Small]; omega
    have hc : Small a.courses := by simp only [Small]; omega
    simp only [cond_false]
    cases decide (a.courses.length = 0) with
    | true => rfl
    | false =>
      simp only [cond_false]
      rw [loop_fold (fun (e : Int) i => (e, i)) (fun _ (e : Int) y => (bif decide (y ≤ e) || decide (127 < y) then .inr (.inr 11) else .inl y : Int ⊕ (Unit ⊕ Int))) (fun _ => .inl ()) a.steps (fun _ _ => True) 0 (small_fuel hs) trivial]
      · rw [fold_steps]
        simp only [Option.bind_some]
        cases stepsS 0 a.steps with
        | false => rfl
        | true =>
          simp only [cond_true, Sum.elim_inl]
          rw [loop_find a.courses (badC a.steps) (fun _ c => courseS a.steps c) hc]
          · simp only [Option.bind_some, findS_find]
            cases a.courses.find? (badC a.steps) <;> rfl
          · intro i c hcc
            simp only [dltLen hcc, cond_true, ixNat hcc, Option.bind_some, orE, badC]
            cases hb : (decide (c.frets < 0) || decide ((a.steps.length : Int) < c.frets)) with
            | true =>
              have : courseS a.steps c = 13 := by unfold courseS; rw [hb]; rfl
              rw [this]; rfl
            | false =>
              have hb' := hb
              simp only [Bool.or_eq_false_iff, decide_eq_false_iff_not] at hb
              simp only [cond_false]
              have hco : courseS a.steps c = bif decide (c.pitch < 0) || (decide (127 < c.pitch) || decide (127 < topS a.steps c)) then 10 else 0 := by unfold courseS; rw [hb']; rfl
              rw [hco]
              cases h1 : decide (c.pitch < 0) with
              | true => rfl
              | false =>
                cases h2 : decide (127 < c.pitch) with
                | true => rfl
                | false =>
                  simp only [Bool.or_false, cond_false, Bool.false_or, pitch_c a c (by omega) (by omega), Option.bind_some]
                  have ht : ((bif c.octave then (some (wr (pitchS a.steps c + 12))) else (some (pitchS a.steps c))) : Option Int) = some (topS a.steps c) := by unfold topS; cases c.octave <;> rfl
                  rw [ht]
                  simp only [Option.bind_some]
                  cases decide (127 < topS a.steps c) <;> rfl
          · simp
      · intro i e y hy _
        refine ⟨?_, fun _ _ => trivial⟩
        simp only [dltLen hy, cond_true, ixNat hy, Option.bind_some, orE, wrLen hs hy]
        cases (decide (y ≤ e) || decide (127 < y)) <;> rfl
      · intro e _; simp

theorem f156_eq (a : GInstrument) (c : GCourse) (i k : Nat) (hi : a.courses[i]? = some c) (hi2 : i < 14) (h : (k : Int) ≤ c.frets) (h1 : c.frets ≤ (a.steps.length : Int)) (h2 : a.steps.length ≤ 18) :
    f156 a ⟨((i + 1 : Nat) : Int), (k : Int)⟩ = some (soundS a.steps c k) := by
  unfold f156 soundS
  have hw : wr (((i + 1 : Nat) : Int) - 1) = (i : Int) := by rw [wr64 (by omega) (by omega)]; omega
  simp only [hw, ixNat hi, Option.bind_some]
  by_cases h0 : k = 0
  · subst h0; rfl
  · have hd : decide (0 < (k : Int)) = true := by simp; omega
    have hw : wr ((k : Int) - 1) = ((k - 1 : Nat) : Int) := by rw [wr64 (by omega) (by omega)]; omega
    have hg : a.steps[k - 1]? = some a.steps[k - 1] := List.getElem?_eq_getElem (by omega)
    rw [hd, cond_true, hw, ixNat hg, if_neg h0, hg]; rfl

theorem placesL_snoc (s : List Int) (p : Int) (c : GCourse) : ∀ (l : List GCourse) (i : Nat), placesL s p i (l ++ [c]) = placesL s p i l ++ rowS s p (i + l.length) c (c.frets.toNat + 1)
  | [], i => by simp [placesL]
  | d :: r, i => by
    simp only [List.cons_append, placesL, placesL_snoc s p c r, List.append_assoc, List.length_cons]
    congr 3
    omega

theorem placesL_len (s : List Int) (p : Int) : ∀ (l : List GCourse) (i : Nat), (∀ c ∈ l, c.frets.toNat ≤ 18) → (placesL s p i l).length ≤ 19 * l.length
  | [], i, _ => by simp [placesL]
  | c :: r, i, h => by
    have h1 := placesL_len s p r (i + 1) fun d hd => h d (List.mem_cons_of_mem _ hd)
    have h2 := rowS_len s p i c (c.frets.toNat + 1)
    have h3 := h c (by simp)
    simp only [placesL, List.length_append, List.length_cons]
    omega

theorem f121_eq (a : GInstrument) (p : Int) : f121 a p = some (placesS a p) := by
  unfold f121 placesS
  rw [f44_eq]
  simp only [Option.bind_some, orE]
  by_cases hi : instS a = 0
  · obtain ⟨i1, i2, i3, i4, i5⟩ := instS_ok hi
    have hfr : ∀ c ∈ a.courses, c.frets.toNat ≤ 18 := fun c hc => by
      have := courseS_ok (i5 c hc)
      omega
    have hd : decide (instS a ≠ 0) = false := by simpa using hi
    rw [hd, cond_false, if_pos hi]
    cases (decide (p < 0) || decide (127 < p)) with
    | true => rfl
    | false =>
      simp only [cond_false]
      rw [loop_all (fun i => (placesL a.steps p 0 (a.courses.take i), ((i + 1 : Nat) : Int))) a.courses.length (by omega) (by simp [placesL]) (r := placesL a.steps p 0 a.courses)]
      · rfl
      · intro i hil
        obtain ⟨c, hc⟩ : ∃ c, a.courses[i]? = some c := ⟨_, List.getElem?_eq_getElem hil⟩
        obtain ⟨k1, k2, k3, k4, k5⟩ := courseS_ok (i5 c (List.mem_of_getElem? hc))
        have hle : decide (((i + 1 : Nat) : Int) ≤ (a.courses.length : Int)) = true := by simp; omega
        have hw0 : wr (((i + 1 : Nat) : Int) - 1) = (i : Int) := by rw [wr64 (by omega) (by omega)]; omega
        have hw1 : wr (((i + 1 : Nat) : Int) + 1) = ((i + 1 + 1 : Nat) : Int) := wrNat (by omega)
        have hlx : (placesL a.steps p 0 (a.courses.take i)).length ≤ 19 * i := by
          have := placesL_len a.steps p (a.courses.take i) 0 fun d hd => hfr d (List.mem_of_mem_take hd)
          rw [List.length_take] at this
          omega
        have htl : (a.courses.take i).length = i := by rw [List.length_take]; omega
        simp only [hle, cond_true, hw0, ixNat hc, Option.bind_some, hw1]
        rw [loop_all (fun k => (placesL a.steps p 0 (a.courses.take i) ++ rowS a.steps p i c k, (k : Int))) (c.frets.toNat + 1) (by omega) (by simp [rowS]) (r := placesL a.steps p 0 (a.courses.take (i + 1)))]
        · rfl
        · intro k hk
          have hle : decide ((k : Int) ≤ c.frets) = true := by simp; omega
          have hl := rowS_len a.steps p i c k
          have hm : (placesL a.steps p 0 (a.courses.take i) ++ rowS a.steps p i c k).length + 1 ≤ maxElems := by rw [List.length_append]; unfold maxElems; omega
          have hw : wr ((k : Int) + 1) = ((k + 1 : Nat) : Int) := wrNat (by omega)
          simp only [hle, cond_true, f156_eq a c i k hc (by omega) (by omega) k2 i2, Option.bind_some, hw, need, if_pos hm, rowS_succ]
          cases decide (soundS a.steps c k = p) with
          | true => simp
          | false => simp
        · have hle : decide (((c.frets.toNat + 1 : Nat) : Int) ≤ c.frets) = false := by simp; omega
          simp only [hle, cond_false, take_snoc hc, placesL_snoc, htl, Nat.zero_add]
      · have hle : decide (((a.courses.length + 1 : Nat) : Int) ≤ (a.courses.length : Int)) = false := by simp; omega
        simp only [hle, cond_false, List.take_length]
  · have hd : decide (instS a ≠ 0) = true := by simpa using hi
    rw [hd, if_neg hi]; rfl

theorem bad_eq (a : GInstrument) (q : Int) : badS a q = decide (((placesS a q).1.length : Int) = 0) := by
  unfold badS
  by_cases h : (placesS a q).2 = 0
  · simp [h]
  · have : (placesS a q).1 = [] := by
      unfold placesS at h ⊢
      by_cases hi : instS a = 0
      · rw [if_pos hi] at h ⊢
        cases hb : (decide (q < 0) || decide (127 < q)) with
        | true => rfl
        | false => rw [hb] at h; exact absurd rfl h
      · rw [if_neg hi]
    rw [this]; simp

theorem f45_eq (l : List (List GTone)) (a : GInstrument) (s : Int) (hl : Small l) (hp : ∀ p ∈ l, Small p) : f45 l a s = some (missS l a s) := by
  unfold f45 missS
  rw [loop_fold (fun (n : Int) i => (n, i)) (fun _ n p => (.inl (missP a s n p) : Int ⊕ Int)) (fun n => n) l (fun _ _ => True) 0 (small_fuel hl) trivial]
  · rw [foldE_inl (missP a s)]; rfl
  · intro i n p hpp _
    refine ⟨?_, fun _ _ => trivial⟩
    have hps := hp p (List.mem_of_getElem? hpp)
    simp only [dltLen hpp, cond_true, ixNat hpp, Option.bind_some, wrLen hl hpp]
    rw [loop_fold (fun (n : Int) i => (n, i)) (fun _ n (t : GTone) => (.inl (bif badS a (wr (t.pitch + s)) then wr (n + 1) else n) : Int ⊕ Int)) (fun n => n) p (fun _ _ => True) n (small_fuel hps) trivial]
    · rw [foldE_inl (fun n (t : GTone) => bif badS a (wr (t.pitch + s)) then wr (n + 1) else n)]; rfl
    · intro j m t ht _
      refine ⟨?_, fun _ _ => trivial⟩
      simp only [dltLen ht, cond_true, ixNat ht, Option.bind_some, wrLen hps ht, f87, f121_eq, bad_eq]
      cases decide (((placesS a (wr (t.pitch + s))).1.length : Int) = 0) <;> rfl
    · intro m _; simp
  · intro n _; simp

theorem f24_eq (l : List (List GTone)) (a : GInstrument) (s : Int) (hl : Small l) : f24 l a s = some (missingR l a s) := by
  unfold f24 missingR setupS
  rw [f38_eq l hl, f44_eq]
  simp only [Option.bind_some]
  by_cases h : partsS l = 0
  · obtain ⟨h1, h2⟩ := partsS_small h
    have hd : decide (partsS l ≠ 0) = false := by simpa using h
    rw [hd, cond_false, if_pos h]
    by_cases hi : instS a = 0
    · have hd2 : decide (instS a ≠ 0) = false := by simpa using hi
      rw [hd2, cond_false, if_pos hi, f55_eq]
      simp only [Option.bind_some]
      cases inR s (-24) 24 with
      | false => rfl
      | true =>
        simp only [Bool.not_true, cond_false, cond_true, f45_eq l a s hl (fun p hp => by have := h2 p hp; simp only [Small]; omega), Option.bind_some]
    · have hd2 : decide (instS a ≠ 0) = true := by simpa using hi
      rw [hd2, if_neg hi]; rfl
  · have hd : decide (partsS l ≠ 0) = true := by simpa using h
    rw [hd, if_neg h, if_neg h]; rfl

/-- **IntabulateShifts.** -/
theorem f5_eq (l : List (List GTone)) (a : GInstrument) (s : Int) (hl : Small l) : f5 l a s = some true := by
  obtain ⟨h1, h2⟩ := transS_small l s
  unfold f5
  rw [f21_eq l s hl, f22_eq l s hl, f19_eq l a s hl, f24_eq l a s hl]
  simp [f23_refl _ h1 h2, f13]
end Go.Proofs.YtplpfocfcppajaaGreat
