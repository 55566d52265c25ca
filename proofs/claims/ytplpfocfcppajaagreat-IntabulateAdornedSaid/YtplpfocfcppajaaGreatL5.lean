/-
  Plain laws, part 6: the picks undone (the statement on Undivide).
  Own work. No Go text.
-/
import Derived.Test.YtplpfocfcppajaaGreatL4
import Derived.Test.YtplpfocfcppajaaGreatV10
namespace Go.Proofs.YtplpfocfcppajaaGreat
open Go Go.Am
set_option linter.all false

def cntS (l : List GFigure) (c : Int) : Nat := if 0 < c then (match l[(c - 1).toNat]? with
  | some f => f.moves.length
  | none => 1) else 1

def undStep (p : List GTone) (l : List GFigure) (_ : Nat) (a : List GTone × Nat) (c : Int) : (List GTone × Nat) ⊕ ((List GTone × Nat) ⊕ (List GTone × Int)) :=
  match p[a.2]?, p[a.2 + cntS l c - 1]? with
  | some y, some z => bif decide (p.length < a.2 + cntS l c) then .inr (.inr ([], 81)) else .inl (a.1 ++ [⟨y.pitch, y.from_, z.to_⟩], a.2 + cntS l c)
  | _, _ => .inr (.inr ([], 81))

def undF (p : List GTone) (l : List GFigure) (c : List Int) : (List GTone × Nat) ⊕ (List GTone × Int) := foldE (undStep p l) (fun a => .inl a) 0 c ([], 0)

def difS (x : GTone × GTone) : Bool := !(eq_GTone x.1 x.2)
def sameS (a b : List GTone) : Bool := decide (a.length = b.length) && !((a.zip b).any difS)

def undS (p : List GTone) (l : List GFigure) (c : List Int) : List GTone × Int :=
  if checkS p l = 0 then
    (bif decide (400 < c.length) || c.any (offS l) then ([], 1) else
      (match undF p l c with
        | .inl a => bif decide (a.2 ≠ p.length) || (decide ((divS a.1 l c).2 ≠ 0) || !(sameS (divS a.1 l c).1 p)) then ([], 81) else (a.1, 0)
        | .inr e => e))
  else ([], checkS p l)

theorem f68_eq (a b : List GTone) (ha : Small a) : f68 a b = some (sameS a b) := by
  unfold f68 sameS
  by_cases h : a.length = b.length
  · have hd : decide ((a.length : Int) ≠ (b.length : Int)) = false := by simp; omega
    have hz : (a.zip b).length = a.length := by rw [List.length_zip]; omega
    rw [hd, cond_false, loop_find (a.zip b) difS (fun _ _ => false) (by simp only [Small] at ha ⊢; omega)]
    · simp only [Option.bind_some, findS_any, h, decide_true, Bool.true_and]
      cases (a.zip b).any difS <;> rfl
    · intro i x hx
      obtain ⟨x1, x2⟩ := zip_get hx
      simp only [dltLen x1, cond_true, ixNat x1, ixNat x2, Option.bind_some, difS]
      cases eq_GTone x.1 x.2 <;> rfl
    · simp only [hz]; simp
  · have hd : decide ((a.length : Int) ≠ (b.length : Int)) = true := by simp; omega
    rw [hd]; simp [h]

theorem cnt_pos {l : List GFigure} (hl : ∀ f ∈ l, rightS f = true) (c : Int) : 1 ≤ cntS l c ∧ cntS l c ≤ 32 := by
  unfold cntS
  split
  · split
    · rename_i f hf
      have := rightS_ok (hl f (List.mem_of_getElem? hf))
      omega
    · omega
  · omega

theorem cnt_eq {l : List GFigure} {c : Int} (h0 : 0 ≤ c) (h1 : c ≤ l.length) (h64 : l.length ≤ 64) :
    ((bif decide (0 < c) then ((ix l (wr (c - 1))).bind fun y => some (y.moves.length : Int)) else some 1) : Option Int) = some (cntS l c : Int) := by
  unfold cntS
  by_cases h : 0 < c
  · have hw1 : wr (c - 1) = (((c - 1).toNat : Nat) : Int) := by rw [wr64 (by omega) (by omega)]; omega
    have hjl : (c - 1).toNat < l.length := by omega
    have hf : l[(c - 1).toNat]? = some l[(c - 1).toNat] := List.getElem?_eq_getElem hjl
    rw [if_pos h, hf, hw1, ixNat hf]
    simp [h]
  · rw [if_neg h]; simp [h]

theorem und_inv {p : List GTone} {l : List GFigure} {i : Nat} {a a' : List GTone × Nat} {c : Int} (h : undStep p l i a c = .inl a') : a'.1.length = a.1.length + 1 ∧ a'.2 = a.2 + cntS l c ∧ a.2 + cntS l c ≤ p.length := by
  unfold undStep at h
  split at h
  · by_cases hq : p.length < a.2 + cntS l c
    · rw [decide_eq_true hq] at h; cases h
    · rw [decide_eq_false hq] at h
      cases h
      exact ⟨by simp, rfl, by omega⟩
  · cases h

theorem off64 {c : List Int} {l : List GFigure} (h : (decide (400 < c.length) || c.any (offS l)) = false) : c.length ≤ 400 ∧ c.any (offS l) = false := by
  simp only [Bool.or_eq_false_iff, decide_eq_false_iff_not] at h
  exact ⟨by omega, h.2⟩

theorem f34_eq0 (p : List GTone) (l : List GFigure) (c : List Int) (hc : Small c) : f34 p l c = some (undS p l c) := by
  unfold f34 undS
  rw [f58_eq]
  simp only [Option.bind_some]
  by_cases hck : checkS p l = 0
  · obtain ⟨c1, c2, c3, c4⟩ := checkS_ok hck
    have hd : decide (checkS p l ≠ 0) = false := by simpa using hck
    rw [hd, cond_false, if_pos hck, f67_eq l c hc]
    simp only [Option.bind_some, orE, Bool.not_not]
    have e4 : decide (400 < (c.length : Int)) = decide (400 < c.length) := by simp; omega
    rw [e4]
    cases hb : (decide (400 < c.length) || c.any (offS l)) with
    | true => rfl
    | false =>
      obtain ⟨hb1, hb2⟩ := off64 hb
      have hoff := off_ok hb2
      simp only [cond_false]
      rw [show (([] : List GTone), p, (0 : Int)) = (fun (a : List GTone × Nat) (i : Int) => (a.1, p.drop a.2, i)) ([], 0) 0 from rfl,
        loop_fold (fun (a : List GTone × Nat) (i : Int) => (a.1, p.drop a.2, i)) (fun i a y => match undStep p l i a y with
          | .inl a' => .inl a'
          | .inr (.inl a') => .inr (.inl (a'.1, p.drop a'.2))
          | .inr (.inr e) => .inr (.inr e)) (fun a => .inl (a.1, p.drop a.2)) c (fun i a => a.1.length ≤ i ∧ a.2 ≤ p.length) ([], 0) (small_fuel hc) ⟨by simp, by simp⟩]
      · have key : ∀ (r : List Int) (k : Nat) (a : List GTone × Nat), foldE (fun i a y => match undStep p l i a y with
            | .inl a' => (.inl a' : (List GTone × Nat) ⊕ ((List GTone × List GTone) ⊕ (List GTone × Int)))
            | .inr (.inl a') => .inr (.inl (a'.1, p.drop a'.2))
            | .inr (.inr e) => .inr (.inr e)) (fun a => .inl (a.1, p.drop a.2)) k r a = match foldE (undStep p l) (fun a => .inl a) k r a with
            | .inl a' => .inl (a'.1, p.drop a'.2)
            | .inr e => .inr e := by
          intro r
          induction r with
          | nil => intro k a; rfl
          | cons y r ih =>
            intro k a
            simp only [foldE]
            cases undStep p l k a y with
            | inl a' => exact ih _ _
            | inr s => cases s <;> rfl
        rw [key]
        have inv : ∀ (r : List Int) (k : Nat) (a a' : List GTone × Nat), a.1.length ≤ k → a.2 ≤ p.length → foldE (undStep p l) (fun a => (.inl a : (List GTone × Nat) ⊕ (List GTone × Int))) k r a = .inl a' → a'.1.length ≤ k + r.length ∧ a'.2 ≤ p.length := by
          intro r
          induction r with
          | nil => intro k a a' h1 h2 h; cases h; exact ⟨by simpa using h1, h2⟩
          | cons y r ih =>
            intro k a a' h1 h2 h
            simp only [foldE] at h
            cases hs : undStep p l k a y with
            | inl b =>
              rw [hs] at h
              obtain ⟨q1, q2, q3⟩ := und_inv hs
              have := ih (k + 1) b a' (by omega) (by omega) h
              simp only [List.length_cons]; omega
            | inr s =>
              rw [hs] at h
              have : ∀ b, s ≠ .inl b := by
                intro b e
                subst e
                unfold undStep at hs
                split at hs
                · cases hq : decide (p.length < a.2 + cntS l y) <;> rw [hq] at hs <;> cases hs
                · cases hs
              simp only at h
              exact absurd h (this a')
        unfold undF
        cases hf : foldE (undStep p l) (fun a => (.inl a : (List GTone × Nat) ⊕ (List GTone × Int))) 0 c ([], 0) with
        | inl a =>
          have hi := inv c 0 ([], 0) a (by simp) (by simp) hf
          simp only [Option.bind_some, Sum.elim_inl, f31_eq a.1 l c, f68_eq _ p (divS_small a.1 l c), orE]
          have e : decide (0 < ((p.drop a.2).length : Int)) = decide (a.2 ≠ p.length) := by
            rw [List.length_drop]
            by_cases hq : a.2 = p.length
            · simp [hq]
            · have h1 : 0 < ((p.length - a.2 : Nat) : Int) := by omega
              rw [decide_eq_true h1, decide_eq_true hq]
          rw [e]
          cases (decide (a.2 ≠ p.length) || (decide ((divS a.1 l c).2 ≠ 0) || !(sameS (divS a.1 l c).1 p))) <;> rfl
        | inr e => rfl
      · intro i a y hy ⟨ha1, ha2⟩
        have hr := hoff y (List.mem_of_getElem? hy)
        have hil := (List.getElem?_eq_some_iff.1 hy).1
        obtain ⟨n1, n2⟩ := cnt_pos c4 y
        constructor
        · simp only [dltLen hy, cond_true, ixNat hy, Option.bind_some, cnt_eq hr.1 hr.2 c3]
          have hdl : (p.drop a.2).length = p.length - a.2 := List.length_drop
          by_cases hq : p.length < a.2 + cntS l y
          · have e : decide (((p.drop a.2).length : Int) < (cntS l y : Int)) = true := by rw [hdl]; simp; omega
            rw [e]
            have hu : undStep p l i a y = .inr (.inr ([], 81)) := by
              unfold undStep
              rw [decide_eq_true hq]
              split <;> rfl
            rw [hu]; rfl
          · have e : decide (((p.drop a.2).length : Int) < (cntS l y : Int)) = false := by rw [hdl]; simp; omega
            have g1 : p[a.2]? = some p[a.2] := List.getElem?_eq_getElem (by omega)
            have g2 : p[a.2 + cntS l y - 1]? = some p[a.2 + cntS l y - 1] := List.getElem?_eq_getElem (by omega)
            have d1 : (p.drop a.2)[0]? = some p[a.2] := by rw [List.getElem?_drop]; simpa using g1
            have d2 : (p.drop a.2)[cntS l y - 1]? = some p[a.2 + cntS l y - 1] := by
              rw [List.getElem?_drop]
              have : a.2 + (cntS l y - 1) = a.2 + cntS l y - 1 := by omega
              rw [this]; exact g2
            have hu : undStep p l i a y = .inl (a.1 ++ [⟨p[a.2].pitch, p[a.2].from_, p[a.2 + cntS l y - 1].to_⟩], a.2 + cntS l y) := by
              unfold undStep
              rw [decide_eq_false hq, g1, g2]; rfl
            have hw1 : wr ((cntS l y : Int) - 1) = ((cntS l y - 1 : Nat) : Int) := by rw [wr64 (by omega) (by omega)]; omega
            have hm : a.1.length + 1 ≤ maxElems := by unfold maxElems; omega
            have hw : wr ((i : Int) + 1) = ((i + 1 : Nat) : Int) := wrNat (by omega)
            have i0 : ix (p.drop a.2) 0 = some p[a.2] := ixNat (i := 0) d1
            have p0 : (0 : Int) ≤ (cntS l y : Int) := Int.natCast_nonneg _
            have p1 : (cntS l y : Int).toNat ≤ (p.drop a.2).length := by rw [hdl]; omega
            rw [e, hu]
            simp only [cond_false, i0, Option.bind_some, hw1, ixNat d2, need, if_pos hm, if_pos p0, if_pos p1, hw, stepO]
            have ed : ((p.drop a.2).take (p.drop a.2).length).drop (cntS l y : Int).toNat = p.drop (a.2 + cntS l y) := by
              rw [List.take_length, List.drop_drop]; simp
            rw [ed]
        · intro a' he
          cases hs : undStep p l i a y with
          | inl b =>
            rw [hs] at he
            cases he
            obtain ⟨q1, q2, q3⟩ := und_inv hs
            omega
          | inr s => rw [hs] at he; cases s <;> cases he
      · intro a _; simp
  · have hd : decide (checkS p l ≠ 0) = true := by simpa using hck
    rw [hd, if_neg hck]; rfl

theorem f34_eq (p : List GTone) (l : List GFigure) (c : List Int) : f34 p l c = some (undS p l c) := by
  by_cases hlen : c.length ≤ 400
  · exact f34_eq0 p l c (by simp only [Small]; omega)
  · unfold f34 undS
    rw [f58_eq]
    simp only [Option.bind_some]
    have e4 : decide (400 < (c.length : Int)) = true := by simp; omega
    have e5 : decide (400 < c.length) = true := by simp; omega
    by_cases hck : checkS p l = 0
    · have hd : decide (checkS p l ≠ 0) = false := by simpa using hck
      rw [hd, cond_false, if_pos hck, e4, e5]; rfl
    · have hd : decide (checkS p l ≠ 0) = true := by simpa using hck
      rw [hd, if_neg hck]; rfl

theorem f35_eq (p : List GTone) (l : List GFigure) (c : List Int) : f35 p l c = some (undS p l c) := by
  unfold f35 undS
  rw [f60_eq p l]
  simp only [Option.bind_some]
  by_cases hck : checkS p l = 0
  · obtain ⟨c1, c2, c3, c4⟩ := checkS_ok hck
    have hd : decide (checkS p l ≠ 0) = false := by simpa using hck
    rw [hd, cond_false, if_pos hck]
    have e4 : decide (400 < (c.length : Int)) = decide (400 < c.length) := by simp; omega
    rw [e4]
    cases hb0 : decide (400 < c.length) with
    | true => rfl
    | false =>
      have hp : Small p := by simp only [Small]; omega
      have hc : Small c := by have : c.length ≤ 400 := by simpa using hb0
                              simp only [Small]; omega
      simp only [cond_false, Bool.false_or]
      rw [loop_find c (offS l) (fun _ _ => (([], 1) : List GTone × Int)) hc]
      · simp only [Option.bind_some, findS_any]
        cases hb2 : c.any (offS l) with
        | true => rfl
        | false =>
          have hb1 : c.length ≤ 400 := by simpa using hb0
          have hoff := off_ok hb2
          simp only [cond_false, Sum.elim_inl]
          rw [show (([] : List GTone), (0 : Int), (0 : Int)) = (fun (a : List GTone × Nat) (i : Int) => (a.1, (a.2 : Int), i)) ([], 0) 0 from rfl,
            loop_fold (fun (a : List GTone × Nat) (i : Int) => (a.1, (a.2 : Int), i)) (fun i a y => match undStep p l i a y with
              | .inl a' => .inl a'
              | .inr (.inl a') => .inr (.inl (a'.1, (a'.2 : Int)))
              | .inr (.inr e) => .inr (.inr e)) (fun a => .inl (a.1, (a.2 : Int))) c (fun i a => a.1.length ≤ i ∧ a.2 ≤ p.length) ([], 0) (small_fuel hc) ⟨by simp, by simp⟩]
          · have key : ∀ (r : List Int) (k : Nat) (a : List GTone × Nat), foldE (fun i a y => match undStep p l i a y with
                | .inl a' => (.inl a' : (List GTone × Nat) ⊕ ((List GTone × Int) ⊕ (List GTone × Int)))
                | .inr (.inl a') => .inr (.inl (a'.1, (a'.2 : Int)))
                | .inr (.inr e) => .inr (.inr e)) (fun a => .inl (a.1, (a.2 : Int))) k r a = match foldE (undStep p l) (fun a => .inl a) k r a with
                | .inl a' => .inl (a'.1, (a'.2 : Int))
                | .inr e => .inr e := by
              intro r
              induction r with
              | nil => intro k a; rfl
              | cons y r ih =>
                intro k a
                simp only [foldE]
                cases undStep p l k a y with
                | inl a' => exact ih _ _
                | inr s => cases s <;> rfl
            rw [key]
            have inv : ∀ (r : List Int) (k : Nat) (a a' : List GTone × Nat), a.1.length ≤ k → foldE (undStep p l) (fun a => (.inl a : (List GTone × Nat) ⊕ (List GTone × Int))) k r a = .inl a' → a'.1.length ≤ k + r.length := by
              intro r
              induction r with
              | nil => intro k a a' h1 h; cases h; simpa using h1
              | cons y r ih =>
                intro k a a' h1 h
                simp only [foldE] at h
                cases hs : undStep p l k a y with
                | inl b =>
                  rw [hs] at h
                  obtain ⟨q1, q2, q3⟩ := und_inv hs
                  have := ih (k + 1) b a' (by omega) h
                  simp only [List.length_cons]; omega
                | inr s =>
                  rw [hs] at h
                  have : ∀ b, s ≠ .inl b := by
                    intro b e
                    subst e
                    unfold undStep at hs
                    split at hs
                    · cases hq : decide (p.length < a.2 + cntS l y) <;> rw [hq] at hs <;> cases hs
                    · cases hs
                  simp only at h
                  exact absurd h (this a')
            unfold undF
            cases hf : foldE (undStep p l) (fun a => (.inl a : (List GTone × Nat) ⊕ (List GTone × Int))) 0 c ([], 0) with
            | inl a =>
              have hi := inv c 0 ([], 0) a (by simp) hf
              have has : Small a.1 := by simp only [Small]; omega
              simp only [Option.bind_some, Sum.elim_inl, f32_eq a.1 l c, orE]
              have e : decide ((a.2 : Int) ≠ (p.length : Int)) = decide (a.2 ≠ p.length) := by
                by_cases hq : a.2 = p.length
                · simp [hq]
                · have h1 : (a.2 : Int) ≠ (p.length : Int) := by omega
                  simp [hq, h1]
              rw [e]
              unfold sameS
              cases decide (a.2 ≠ p.length) with
              | true => rfl
              | false =>
                cases decide ((divS a.1 l c).2 ≠ 0) with
                | true => rfl
                | false =>
                  by_cases hl : (divS a.1 l c).1.length = p.length
                  · have hd1 : decide (((divS a.1 l c).1.length : Int) ≠ (p.length : Int)) = false := by simp; omega
                    have hz : ((divS a.1 l c).1.zip p).length = p.length := by rw [List.length_zip]; omega
                    rw [hd1, decide_eq_true hl]
                    simp only [Bool.false_or, cond_false, Bool.true_and, Bool.not_not]
                    rw [loop_find ((divS a.1 l c).1.zip p) difS (fun _ _ => (([], 81) : List GTone × Int)) (by simp only [Small] at hp ⊢; omega)]
                    · simp only [Option.bind_some, findS_any]
                      cases ((divS a.1 l c).1.zip p).any difS <;> rfl
                    · intro i x hx
                      obtain ⟨x1, x2⟩ := zip_get hx
                      simp only [dltLen x2, cond_true, ixNat x1, ixNat x2, Option.bind_some, difS]
                      cases eq_GTone x.1 x.2 <;> rfl
                    · simp only [hz]; simp
                  · have hd1 : decide (((divS a.1 l c).1.length : Int) ≠ (p.length : Int)) = true := by simp; omega
                    rw [hd1, decide_eq_false hl]; rfl
            | inr e => rfl
          · intro i a y hy ⟨ha1, ha2⟩
            have hr := hoff y (List.mem_of_getElem? hy)
            have hil := (List.getElem?_eq_some_iff.1 hy).1
            obtain ⟨n1, n2⟩ := cnt_pos c4 y
            have hwn : wr ((a.2 : Int) + (cntS l y : Int)) = ((a.2 + cntS l y : Nat) : Int) := by rw [wr64 (by omega) (by omega)]; omega
            constructor
            · simp only [dltLen hy, cond_true, ixNat hy, Option.bind_some, cnt_eq hr.1 hr.2 c3, hwn]
              by_cases hq : p.length < a.2 + cntS l y
              · have e : decide ((p.length : Int) < ((a.2 + cntS l y : Nat) : Int)) = true := by simp; omega
                rw [e]
                have hu : undStep p l i a y = .inr (.inr ([], 81)) := by
                  unfold undStep
                  rw [decide_eq_true hq]
                  split <;> rfl
                rw [hu]; rfl
              · have e : decide ((p.length : Int) < ((a.2 + cntS l y : Nat) : Int)) = false := by simp; omega
                have g1 : p[a.2]? = some p[a.2] := List.getElem?_eq_getElem (by omega)
                have g2 : p[a.2 + cntS l y - 1]? = some p[a.2 + cntS l y - 1] := List.getElem?_eq_getElem (by omega)
                have hu : undStep p l i a y = .inl (a.1 ++ [⟨p[a.2].pitch, p[a.2].from_, p[a.2 + cntS l y - 1].to_⟩], a.2 + cntS l y) := by
                  unfold undStep
                  rw [decide_eq_false hq, g1, g2]; rfl
                have hw1 : wr (((a.2 + cntS l y : Nat) : Int) - 1) = ((a.2 + cntS l y - 1 : Nat) : Int) := by rw [wr64 (by omega) (by omega)]; omega
                have hm : a.1.length + 1 ≤ maxElems := by unfold maxElems; omega
                have hw : wr ((i : Int) + 1) = ((i + 1 : Nat) : Int) := wrNat (by omega)
                rw [e, hu]
                simp only [cond_false, ixNat g1, Option.bind_some, hw1, ixNat g2, need, if_pos hm, hw, stepO]
            · intro a' he
              cases hs : undStep p l i a y with
              | inl b =>
                rw [hs] at he
                cases he
                obtain ⟨q1, q2, q3⟩ := und_inv hs
                omega
              | inr s => rw [hs] at he; cases s <;> cases he
          · intro a _; simp
      · intro i y hy
        simp only [dltLen hy, cond_true, ixNat hy, Option.bind_some, orE, offD]
        cases offS l y <;> rfl
      · simp
  · have hd : decide (checkS p l ≠ 0) = true := by simpa using hck
    rw [hd, if_neg hck]; rfl

theorem und_err {p : List GTone} {l : List GFigure} : ∀ (r : List Int) (k : Nat) (a : List GTone × Nat) (e : List GTone × Int), foldE (undStep p l) (fun a => (.inl a : (List GTone × Nat) ⊕ (List GTone × Int))) k r a = .inr e → e = ([], 81)
  | [], _, _, _, h => by cases h
  | y :: r, k, a, e, h => by
    simp only [foldE] at h
    cases hs : undStep p l k a y with
    | inl b => rw [hs] at h; exact und_err r (k + 1) b e h
    | inr s =>
      rw [hs] at h
      unfold undStep at hs
      split at hs
      · cases hq : decide (p.length < a.2 + cntS l y) <;> rw [hq] at hs <;> cases hs
        cases h; rfl
      · cases hs; cases h; rfl

theorem und_len {p : List GTone} {l : List GFigure} : ∀ (r : List Int) (k : Nat) (a a' : List GTone × Nat), foldE (undStep p l) (fun a => (.inl a : (List GTone × Nat) ⊕ (List GTone × Int))) k r a = .inl a' → a'.1.length = a.1.length + r.length
  | [], _, _, _, h => by cases h; simp
  | y :: r, k, a, a', h => by
    simp only [foldE] at h
    cases hs : undStep p l k a y with
    | inl b =>
      rw [hs] at h
      obtain ⟨q1, q2, q3⟩ := und_inv hs
      have := und_len r (k + 1) b a' h
      simp only [List.length_cons]; omega
    | inr s =>
      rw [hs] at h
      unfold undStep at hs
      split at hs
      · cases hq : decide (p.length < a.2 + cntS l y) <;> rw [hq] at hs <;> cases hs
        cases h
      · cases hs; cases h

theorem undS_small (p : List GTone) (l : List GFigure) (c : List Int) : Small (undS p l c).1 := by
  unfold undS
  split
  · cases hb : (decide (400 < c.length) || c.any (offS l)) with
    | true => simp [Small]
    | false =>
      obtain ⟨hc, _⟩ := off64 hb
      simp only [cond_false]
      split
      · rename_i a h
        have := und_len _ _ _ _ h
        cases (decide (a.2 ≠ p.length) || (decide ((divS a.1 l c).2 ≠ 0) || !(sameS (divS a.1 l c).1 p))) with
        | true => simp [Small]
        | false => simp only [Small, cond_false]; simp at this; omega
      · rename_i e h
        rw [und_err _ _ _ _ h]; simp [Small]
  · simp [Small]

/-- **IntabulateUndivides.** -/
theorem f10_eq (p : List GTone) (l : List GFigure) (c : List Int) : f10 p l c = some true := by
  unfold f10
  rw [f34_eq p l c, f35_eq p l c]
  simp [f33_refl _ (undS_small p l c), f13]
end Go.Proofs.YtplpfocfcppajaaGreat
