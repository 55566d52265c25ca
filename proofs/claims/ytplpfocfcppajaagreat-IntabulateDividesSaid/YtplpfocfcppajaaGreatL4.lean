/-
  Plain laws, part 5: the tones of picks (the statement on Divide).
  Own work. No Go text.
-/
import Derived.Test.YtplpfocfcppajaaGreatL3
import Derived.Test.YtplpfocfcppajaaGreatV8
namespace Go.Proofs.YtplpfocfcppajaaGreat
open Go Go.Am
set_option linter.all false

def offS (l : List GFigure) (y : Int) : Bool := !(inR y 0 (l.length : Int))

theorem f99_eq (y : Int) (l : List GFigure) : f99 y l = some (offS l y) := by
  unfold f99
  rw [f48_eq]; rfl

theorem f124_1_eq (l : List Int) (t : List GFigure) (hs : Small l) : f124_1 l t = some (idxF (offS t) l) := by
  unfold f124_1
  rw [loop_find l (offS t) (fun i _ => (i : Int)) hs]
  · simp only [Option.bind_some, findS_idx, idxF]
    cases l.findIdx? _ <;> simp
  · intro i y hy
    simp only [dltLen hy, cond_true, ixNat hy, Option.bind_some, f99_eq]
    cases offS t y <;> rfl
  · simp

theorem f67_eq (t : List GFigure) (l : List Int) (hs : Small l) : f67 t l = some (!(l.any (offS t))) := by
  unfold f67 f96_1
  rw [f124_1_eq l t hs]
  simp only [Option.bind_some, idxF_nonneg]

/-- What one pick comes to. -/
def pieceS (p : List GTone) (l : List GFigure) (i : Nat) (t : GTone) (c : Int) : Option (List GTone) :=
  if c = 0 then some [t] else match l[(c - 1).toNat]? with
    | some f => bif fitsS p f i then some (tonesS t f) else none
    | none => none

def divStep (p : List GTone) (l : List GFigure) (i : Nat) (acc : List GTone) (x : Int × GTone) : List GTone ⊕ (List GTone ⊕ (List GTone × Int)) :=
  match pieceS p l i x.2 x.1 with
  | some q => .inl (acc ++ q)
  | none => .inr (.inr ([], 81))

def divF (p : List GTone) (l : List GFigure) (c : List Int) : List GTone ⊕ (List GTone × Int) := foldE (divStep p l) (fun a => .inl a) 0 (c.zip p) []

def divS (p : List GTone) (l : List GFigure) (c : List Int) : List GTone × Int :=
  if checkS p l = 0 then
    (if c.length = p.length ∧ c.any (offS l) = false then
      (match divF p l c with
        | .inl a => if 400 < a.length then ([], 2) else (a, 0)
        | .inr e => e)
    else ([], 1))
  else ([], checkS p l)

theorem off_ok {l : List GFigure} {c : List Int} (h : c.any (offS l) = false) : ∀ y ∈ c, 0 ≤ y ∧ y ≤ (l.length : Int) := fun y hy => by
  have := List.any_eq_false.1 h y hy
  simpa [offS, inR] using this

theorem piece_len {p : List GTone} {l : List GFigure} (hl : ∀ f ∈ l, rightS f = true) {i : Nat} {t : GTone} {c : Int} {q : List GTone} (h : pieceS p l i t c = some q) : q.length ≤ 32 ∧ q ≠ [] := by
  unfold pieceS at h
  split at h
  · cases h; simp
  · split at h
    · rename_i f hf
      cases hfit : fitsS p f i with
      | false => rw [hfit] at h; cases h
      | true =>
        rw [hfit] at h
        cases h
        have := tonesS_len (t := t) (hl f (List.mem_of_getElem? hf))
        refine ⟨this.2.1, fun e => ?_⟩
        rw [e] at this
        simp at this
    · cases h

theorem decNil {α : Type} [DecidableEq α] {q : List α} (h : q ≠ []) : decide (q = []) = false := by simpa using h

theorem f31_eq0 (p : List GTone) (l : List GFigure) (c : List Int) (hc : Small c) : f31 p l c = some (divS p l c) := by
  unfold f31 divS
  rw [f58_eq]
  simp only [Option.bind_some]
  by_cases hck : checkS p l = 0
  · obtain ⟨c1, c2, c3, c4⟩ := checkS_ok hck
    have hd : decide (checkS p l ≠ 0) = false := by simpa using hck
    rw [hd, cond_false, if_pos hck, f67_eq l c hc]
    simp only [Option.bind_some, orE, Bool.not_not]
    by_cases hb : c.length = p.length ∧ c.any (offS l) = false
    · rw [if_pos hb]
      obtain ⟨hb1, hb2⟩ := hb
      have e1 : (decide ((c.length : Int) ≠ (p.length : Int)) || c.any (offS l)) = false := by rw [hb2]; simp; omega
      rw [e1, cond_false]
      have hoff := off_ok hb2
      have hz : (c.zip p).length = c.length := by rw [List.length_zip]; omega
      have hzs : Small (c.zip p) := by simp only [Small] at hc ⊢; omega
      rw [loop_fold (fun (a : List GTone) i => (a, i)) (divStep p l) (fun a => .inl a) (c.zip p) (fun i a => a.length ≤ 32 * i) [] (small_fuel hzs) (by simp)]
      · simp only [Option.bind_some]
        unfold divF
        cases foldE (divStep p l) (fun a => .inl a) 0 (c.zip p) [] with
        | inl a =>
          simp only [Sum.elim_inl]
          have e : decide (400 < (a.length : Int)) = decide (400 < a.length) := by simp; omega
          rw [e]
          by_cases h4 : 400 < a.length <;> simp [h4]
        | inr e => rfl
      · intro i a x hx ha
        obtain ⟨x1, x2⟩ := zip_get hx
        have hilt := (List.getElem?_eq_some_iff.1 hx).1
        have hi4 : i < 400 := by omega
        have hip : i < p.length := by omega
        constructor
        · have hw : wr ((i : Int) + 1) = ((i + 1 : Nat) : Int) := wrNat (by omega)
          simp only [dltLen x1, cond_true, ixNat x1, ixNat x2, Option.bind_some, divStep]
          by_cases h0 : x.1 = 0
          · have hm : a.length + 1 ≤ maxElems := by unfold maxElems; omega
            have e0 : decide (x.1 = 0) = true := by simpa using h0
            simp only [e0, cond_true, pieceS, if_pos h0, need, if_pos hm, Option.bind_some, Sum.elim_inl, hw]
            rfl
          · have e0 : decide (x.1 = 0) = false := by simpa using h0
            have hr := hoff x.1 (List.mem_of_getElem? x1)
            have hw1 : wr (x.1 - 1) = (((x.1 - 1).toNat : Nat) : Int) := by rw [wr64 (by omega) (by omega)]; omega
            have hjl : (x.1 - 1).toNat < l.length := by omega
            have hf : l[(x.1 - 1).toNat]? = some l[(x.1 - 1).toNat] := List.getElem?_eq_getElem hjl
            have hrt := c4 _ (List.getElem_mem hjl)
            simp only [e0, cond_false, hw1, ixNat hf, Option.bind_some, f59_eq p _ i (by simp only [Small]; omega) hrt hip, pieceS, if_neg h0, hf]
            cases hfit : fitsS p l[(x.1 - 1).toNat] i with
            | false => rfl
            | true =>
              have htl := tonesS_len (t := x.2) hrt
              have hne : tonesS x.2 l[(x.1 - 1).toNat] ≠ [] := fun e => by rw [e] at htl; simp at htl
              have hm : a.length + (tonesS x.2 l[(x.1 - 1).toNat]).length ≤ maxElems := by unfold maxElems; omega
              simp only [Bool.not_true, cond_false, f64_eq _ _ hrt, Option.bind_some, decNil hne, need, if_pos hm, Sum.elim_inl, hw, cond_true]
              rfl
        · intro a' he
          simp only [divStep] at he
          cases hp : pieceS p l i x.2 x.1 with
          | none => rw [hp] at he; cases he
          | some q =>
            rw [hp] at he
            cases he
            have := (piece_len c4 hp).1
            simp only [List.length_append]; omega
      · intro a _
        simp only [hz]; simp
    · rw [if_neg hb]
      have e1 : (decide ((c.length : Int) ≠ (p.length : Int)) || c.any (offS l)) = true := by
        by_cases hq : c.length = p.length
        · have : c.any (offS l) = true := by
            cases hz : c.any (offS l) with
            | true => rfl
            | false => exact absurd ⟨hq, hz⟩ hb
          rw [this]; simp
        · simp; omega
      rw [e1]; rfl
  · have hd : decide (checkS p l ≠ 0) = true := by simpa using hck
    rw [hd, if_neg hck]; rfl

theorem f31_eq (p : List GTone) (l : List GFigure) (c : List Int) : f31 p l c = some (divS p l c) := by
  by_cases hck : checkS p l = 0
  · obtain ⟨c1, _⟩ := checkS_ok hck
    by_cases hlen : c.length = p.length
    · exact f31_eq0 p l c (by simp only [Small]; omega)
    · unfold f31 divS
      rw [f58_eq]
      simp only [Option.bind_some]
      have hd : decide (checkS p l ≠ 0) = false := by simpa using hck
      have e0 : decide ((c.length : Int) ≠ (p.length : Int)) = true := by simp; omega
      have hn : ¬ (c.length = p.length ∧ c.any (offS l) = false) := fun h => hlen h.1
      rw [hd, cond_false, if_pos hck, e0, if_neg hn]; rfl
  · unfold f31 divS
    rw [f58_eq]
    simp only [Option.bind_some]
    have hd : decide (checkS p l ≠ 0) = true := by simpa using hck
    rw [hd, if_neg hck]; rfl

theorem offD (l : List GFigure) (y : Int) : (decide (y < 0) || decide ((l.length : Int) < y)) = offS l y := by
  unfold offS; rw [notInR]

theorem f32_eq (p : List GTone) (l : List GFigure) (c : List Int) : f32 p l c = some (divS p l c) := by
  unfold f32 divS
  rw [f60_eq p l]
  simp only [Option.bind_some]
  by_cases hck : checkS p l = 0
  · obtain ⟨c1, c2, c3, c4⟩ := checkS_ok hck
    have hd : decide (checkS p l ≠ 0) = false := by simpa using hck
    rw [hd, cond_false, if_pos hck]
    by_cases hlen : c.length = p.length
    · have e0 : decide ((c.length : Int) ≠ (p.length : Int)) = false := by simp; omega
      have hp : Small p := by simp only [Small]; omega
      have hc : Small c := by simp only [Small]; omega
      rw [e0, cond_false, loop_find c (offS l) (fun _ _ => (([], 1) : List GTone × Int)) hc]
      · simp only [Option.bind_some, findS_any]
        cases hb2 : c.any (offS l) with
        | true =>
          have hn : ¬ (c.length = p.length ∧ true = false) := by simp
          rw [if_neg hn]; rfl
        | false =>
          have hb : c.length = p.length ∧ false = false := ⟨hlen, rfl⟩
          rw [if_pos hb]
          simp only [cond_false, Sum.elim_inl]
          have hoff := off_ok hb2
          have hz : (c.zip p).length = p.length := by rw [List.length_zip]; omega
          have hzs : Small (c.zip p) := by simp only [Small] at hc ⊢; omega
          rw [loop_fold (fun (a : List GTone) i => (a, i)) (divStep p l) (fun a => .inl a) (c.zip p) (fun i a => a.length ≤ 32 * i) [] (small_fuel hzs) (by simp)]
          · simp only [Option.bind_some]
            unfold divF
            cases foldE (divStep p l) (fun a => .inl a) 0 (c.zip p) [] with
            | inl a =>
              simp only [Sum.elim_inl]
              have e : decide (400 < (a.length : Int)) = decide (400 < a.length) := by simp; omega
              rw [e]
              by_cases h4 : 400 < a.length <;> simp [h4]
            | inr e => rfl
          · intro i a x hx ha
            obtain ⟨x1, x2⟩ := zip_get hx
            have hilt := (List.getElem?_eq_some_iff.1 hx).1
            have hi4 : i < 400 := by omega
            have hip : i < p.length := by omega
            constructor
            · have hw : wr ((i : Int) + 1) = ((i + 1 : Nat) : Int) := wrNat (by omega)
              simp only [dltLen x2, cond_true, ixNat x1, ixNat x2, Option.bind_some, divStep]
              by_cases h0 : x.1 = 0
              · have hm : a.length + 1 ≤ maxElems := by unfold maxElems; omega
                have e0 : decide (x.1 = 0) = true := by simpa using h0
                simp only [e0, cond_true, pieceS, if_pos h0, need, if_pos hm, Option.bind_some, Sum.elim_inl, hw]
                rfl
              · have e0 : decide (x.1 = 0) = false := by simpa using h0
                have hr := hoff x.1 (List.mem_of_getElem? x1)
                have hw1 : wr (x.1 - 1) = (((x.1 - 1).toNat : Nat) : Int) := by rw [wr64 (by omega) (by omega)]; omega
                have hjl : (x.1 - 1).toNat < l.length := by omega
                have hf : l[(x.1 - 1).toNat]? = some l[(x.1 - 1).toNat] := List.getElem?_eq_getElem hjl
                have hrt := c4 _ (List.getElem_mem hjl)
                simp only [e0, cond_false, hw1, ixNat hf, Option.bind_some, f61_eq p _ i hp hrt hip, pieceS, if_neg h0, hf]
                cases hfit : fitsS p l[(x.1 - 1).toNat] i with
                | false => rfl
                | true =>
                  have htl := tonesS_len (t := x.2) hrt
                  have hne : tonesS x.2 l[(x.1 - 1).toNat] ≠ [] := fun e => by rw [e] at htl; simp at htl
                  have hm : a.length + (tonesS x.2 l[(x.1 - 1).toNat]).length ≤ maxElems := by unfold maxElems; omega
                  simp only [Bool.not_true, cond_false, f66_eq _ _ hrt, Option.bind_some, decNil hne, need, if_pos hm, Sum.elim_inl, hw, cond_true]
                  rfl
            · intro a' he
              simp only [divStep] at he
              cases hpp : pieceS p l i x.2 x.1 with
              | none => rw [hpp] at he; cases he
              | some q =>
                rw [hpp] at he
                cases he
                have := (piece_len c4 hpp).1
                simp only [List.length_append]; omega
          · intro a _
            simp only [hz]; simp
      · intro i y hy
        simp only [dltLen hy, cond_true, ixNat hy, Option.bind_some, orE, offD]
        cases offS l y <;> rfl
      · simp
    · have e0 : decide ((c.length : Int) ≠ (p.length : Int)) = true := by simp; omega
      have hn : ¬ (c.length = p.length ∧ c.any (offS l) = false) := fun h => hlen h.1
      rw [e0, if_neg hn]; rfl
  · have hd : decide (checkS p l ≠ 0) = true := by simpa using hck
    rw [hd, if_neg hck]; rfl

theorem eq_tone_refl (t : GTone) : eq_GTone t t = true := by simp [eq_GTone]

theorem f33_refl (l : List GTone) (hs : Small l) : f33 l l = some true := by
  unfold f33
  have hd : decide ((l.length : Int) ≠ (l.length : Int)) = false := by simp
  rw [hd, cond_false, loop_find l (fun _ => false) (fun _ _ => false) hs]
  · simp only [Option.bind_some, findS_any]
    have : (l.any fun _ => false) = false := by simp
    rw [this]; rfl
  · intro i y hy
    simp only [dltLen hy, cond_true, ixNat hy, Option.bind_some, eq_tone_refl]
    rfl
  · simp

theorem foldE_err {p : List GTone} {l : List GFigure} {e : List GTone × Int} : ∀ (r : List (Int × GTone)) (k : Nat) (a : List GTone), foldE (divStep p l) (fun a => .inl a) k r a = (.inr e : List GTone ⊕ (List GTone × Int)) → e = ([], 81)
  | [], _, _, h => by cases h
  | x :: r, k, a, h => by
    simp only [foldE, divStep] at h
    cases hp : pieceS p l k x.2 x.1 with
    | none => rw [hp] at h; cases h; rfl
    | some q => rw [hp] at h; exact foldE_err r (k + 1) (a ++ q) h

theorem divS_len (p : List GTone) (l : List GFigure) (c : List Int) : (divS p l c).1.length ≤ 400 := by
  unfold divS
  split
  · split
    · split
      · split
        · simp
        · simpa using by omega
      · rename_i e h
        rw [foldE_err _ _ _ h]; simp
    · simp
  · simp

theorem divS_small (p : List GTone) (l : List GFigure) (c : List Int) : Small (divS p l c).1 := by
  have := divS_len p l c
  simp only [Small]; omega

/-- **IntabulateDivides.** -/
theorem f8_eq (p : List GTone) (l : List GFigure) (c : List Int) : f8 p l c = some true := by
  unfold f8
  rw [f31_eq p l c, f32_eq p l c]
  simp [f33_refl _ (divS_small p l c), f13]
end Go.Proofs.YtplpfocfcppajaaGreat
