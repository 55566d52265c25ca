/-
  Plain laws, part 2: tables of figures, parts, what fits. The functions are those of the generated texts.
  Own work. No Go text.
-/
import Derived.Test.YtplpfocfcppajaaGreatLq
import Derived.Test.YtplpfocfcppajaaGreatV6
namespace Go.Proofs.YtplpfocfcppajaaGreat
open Go Go.Am
set_option linter.all false

def inR (a lo hi : Int) : Bool := decide (lo ≤ a) && decide (a ≤ hi)

theorem f48_eq (a lo hi : Int) : f48 a lo hi = some (inR a lo hi) := by
  unfold f48 inR
  cases decide (lo ≤ a) <;> rfl
theorem f71_eq (a lo hi : Int) : f71 a lo hi = some (inR a lo hi) := f48_eq a lo hi

theorem orE (a b : Bool) : (bif a then some true else some b) = some (a || b) := by cases a <;> rfl
theorem notInR (x lo hi : Int) : (!(inR x lo hi)) = (decide (x < lo) || decide (hi < x)) := by
  unfold inR
  by_cases h1 : x < lo <;> by_cases h2 : hi < x <;> simp [h1, h2] <;> omega

/-! ### Figures -/

def badM (p : Int × Int) : Bool := !(inR p.1 (-24) 24) || !(inR p.2 1 64)
def headBad (a : GFigure) : Bool := !(inR a.interval (-24) 24) || (!(inR a.moves.length 1 32) || (decide ((a.shares.length : Int) ≠ a.moves.length) || decide (a.moves.head? ≠ some 0)))
def rightS (a : GFigure) : Bool := !(headBad a) && !((a.moves.zip a.shares).any badM)

theorem zip_get {α β : Type} {l : List α} {m : List β} {i : Nat} {p : α × β} (h : (l.zip m)[i]? = some p) : l[i]? = some p.1 ∧ m[i]? = some p.2 := by
  rw [List.getElem?_zip_eq_some] at h; exact h

theorem head_bad {a : GFigure} (h : headBad a = false) : inR a.interval (-24) 24 = true ∧ inR a.moves.length 1 32 = true ∧ a.shares.length = a.moves.length ∧ ∃ r, a.moves = 0 :: r := by
  simp only [headBad, Bool.or_eq_false_iff, Bool.not_eq_false', decide_eq_false_iff_not, ne_eq, Decidable.not_not] at h
  obtain ⟨h1, h2, h3, h4⟩ := h
  refine ⟨h1, h2, by omega, ?_⟩
  cases hm : a.moves with
  | nil => rw [hm] at h4; cases h4
  | cons x r => rw [hm] at h4; cases h4; exact ⟨r, rfl⟩

theorem small_moves {a : GFigure} (h : headBad a = false) : a.moves.length ≤ 32 := by
  have := (head_bad h).2.1
  simp only [inR, Bool.and_eq_true, decide_eq_true_eq] at this
  omega

theorem f56_eq (a : GFigure) : f56 a = some (rightS a) := by
  have hhead : ((f48 a.interval (-24) 24).bind fun r1 => bif (!r1) then (some true) else ((f48 (a.moves.length : Int) 1 32).bind fun r3 => bif (!r3) then (some true) else (bif (decide ((a.shares.length : Int) ≠ (a.moves.length : Int))) then (some true) else ((ix a.moves 0).bind fun y6 => some (decide (y6 ≠ 0)))))) = some (headBad a) := by
    simp only [f48_eq, Option.bind_some, headBad]
    cases inR a.interval (-24) 24 with
    | false => rfl
    | true =>
      cases h2 : inR a.moves.length 1 32 with
      | false => rfl
      | true =>
        cases decide ((a.shares.length : Int) ≠ a.moves.length) with
        | true => rfl
        | false =>
          cases hm : a.moves with
          | nil => rw [hm] at h2; simp [inR] at h2
          | cons x r => simp [ix]
  unfold f56
  rw [hhead]
  simp only [Option.bind_some]
  cases hb : headBad a with
  | true => simp [rightS, hb]
  | false =>
    simp only [cond_false]
    obtain ⟨_, _, h3, _⟩ := head_bad hb
    have h5 := small_moves hb
    have hl : (a.moves.zip a.shares).length = a.moves.length := by rw [List.length_zip, h3]; simp
    have hs : Small (a.moves.zip a.shares) := by simp only [Small]; omega
    rw [loop_find (a.moves.zip a.shares) badM (fun _ _ => false) hs]
    · simp only [Option.bind_some, findS_any, rightS, hb]
      cases (a.moves.zip a.shares).any badM <;> rfl
    · intro i p hp
      obtain ⟨e1, e2⟩ := zip_get hp
      have hlt := dltLen hp
      rw [hl] at hlt
      simp only [hlt, cond_true, ixNat e1, ixNat e2, Option.bind_some, f48_eq, badM]
      cases inR p.1 (-24) 24 <;> cases inR p.2 1 64 <;> rfl
    · simp [hl]

theorem f57_eq (a : GFigure) : f57 a = some (rightS a) := by
  have hhead : ((bif (decide (a.interval < -24)) then (some true) else (bif (decide (24 < a.interval)) then (some true) else (bif (decide ((a.moves.length : Int) ≠ (a.shares.length : Int))) then (some true) else (bif (decide ((a.moves.length : Int) < 1)) then (some true) else (bif (decide (32 < (a.moves.length : Int))) then (some true) else ((ix a.moves 0).bind fun y6 => some (decide (y6 ≠ 0)))))))) : Option Bool) = some (headBad a) := by
    by_cases c1 : a.interval < -24
    · have : headBad a = true := by simp [headBad, inR]; omega
      simp [c1, this]
    · by_cases c2 : 24 < a.interval
      · have : headBad a = true := by simp [headBad, inR]; omega
        simp [c1, c2, this]
      · by_cases c3 : (a.moves.length : Int) ≠ a.shares.length
        · have : headBad a = true := by simp [headBad, inR]; omega
          simp [c1, c2, c3, this]
        · by_cases c4 : (a.moves.length : Int) < 1
          · have : headBad a = true := by simp [headBad, inR]; omega
            simp only [c1, c2, c3, c4, this]; rfl
          · by_cases c5 : 32 < (a.moves.length : Int)
            · have : headBad a = true := by simp [headBad, inR]; omega
              simp only [c1, c2, c3, c4, c5, this]; rfl
            · have e1 : inR a.interval (-24) 24 = true := by simp [inR]; omega
              have e2 : inR a.moves.length 1 32 = true := by simp [inR]; omega
              have e3 : decide ((a.shares.length : Int) ≠ a.moves.length) = false := by simp at c3 ⊢; omega
              cases hm : a.moves with
              | nil => rw [hm] at c4; simp at c4
              | cons x r =>
                simp only [hm] at c3 c4 c5 e2 e3
                simp only [c1, c2, c3, c4, c5, headBad, e1, e2, e3, hm]
                simp [ix]
  unfold f57
  rw [hhead]
  simp only [Option.bind_some]
  cases hb : headBad a with
  | true => simp [rightS, hb]
  | false =>
    simp only [cond_false]
    obtain ⟨_, _, h3, _⟩ := head_bad hb
    have h5 := small_moves hb
    have hl : (a.moves.zip a.shares).length = a.moves.length := by rw [List.length_zip, h3]; simp
    have hs : Small (a.moves.zip a.shares) := by simp only [Small]; omega
    rw [loop_find (a.moves.zip a.shares) badM (fun _ _ => false) hs]
    · simp only [Option.bind_some, findS_any, rightS, hb]
      cases (a.moves.zip a.shares).any badM <;> rfl
    · intro i p hp
      obtain ⟨e1, e2⟩ := zip_get hp
      have hlt := dltLen hp
      rw [hl] at hlt
      simp only [hlt, cond_true, ixNat e1, ixNat e2, Option.bind_some, orE, badM, notInR, Bool.or_assoc]
      cases decide (p.1 < -24) <;> cases decide (24 < p.1) <;> cases decide (p.2 < 1) <;> cases decide (64 < p.2) <;> rfl
    · simp [hl]

def tableS (l : List GFigure) : Int := if 64 < l.length then 2 else if l.all rightS then 0 else 81

theorem not_any {α : Type} (l : List α) (p : α → Bool) : l.any (fun x => !p x) = !(l.all p) := by simp [List.any_eq_not_all_not]

theorem f25_eq (l : List GFigure) : f25 l = some (tableS l) := by
  unfold f25 tableS
  by_cases h : 64 < l.length
  · have h' : 64 < (l.length : Int) := by omega
    simp [h, h']
  · have hs : Small l := by simp only [Small]; omega
    rw [loop_find l (fun y => !rightS y) (fun _ _ => 81) hs]
    · have : ¬ (64 < (l.length : Int)) := by omega
      simp only [Option.bind_some, findS_any, h, this, not_any]
      cases l.all rightS <;> rfl
    · intro i y hy
      simp only [dltLen hy, cond_true, ixNat hy, Option.bind_some, f56_eq]
      cases rightS y <;> rfl
    · simp

theorem f26_eq (l : List GFigure) : f26 l = some (tableS l) := by
  unfold f26 tableS
  by_cases h : 64 < l.length
  · have h' : 64 < (l.length : Int) := by omega
    simp [h, h']
  · have hs : Small l := by simp only [Small]; omega
    rw [loop_find l (fun y => !rightS y) (fun _ _ => 81) hs]
    · have : ¬ (64 < (l.length : Int)) := by omega
      simp only [Option.bind_some, findS_any, h, this, not_any]
      cases l.all rightS <;> rfl
    · intro i y hy
      simp only [dltLen hy, cond_true, ixNat hy, Option.bind_some, f57_eq]
      cases rightS y <;> rfl
    · simp

theorem tableS_ok {l : List GFigure} (h : tableS l = 0) : l.length ≤ 64 ∧ ∀ f ∈ l, rightS f = true := by
  unfold tableS at h
  split at h
  · cases h
  · split at h
    · rename_i h1 h2; exact ⟨by omega, by simpa using h2⟩
    · cases h

/-! ### Parts -/

def badT (e : Int) (t : GTone) : Bool := !(inR t.pitch 0 127) || (decide (t.from_ < e) || (decide (t.to_ ≤ t.from_) || decide (262144 < t.to_)))
def okT : Int → List GTone → Bool
  | _, [] => true
  | e, t :: r => !(badT e t) && okT t.to_ r

def manyS (l : List (List GTone)) : Bool := decide (6 < l.length) || l.any fun p => decide (400 < p.length)
def partsS (l : List (List GTone)) : Int := if manyS l then 2 else if l.all (okT 0) then 0 else 80

theorem f100_eq (l : List (List GTone)) (hs : Small l) : f100 l = some (idxF (fun p => decide (400 < p.length)) l) := by
  unfold f100
  rw [loop_find l (fun p => decide (400 < p.length)) (fun i _ => (i : Int)) hs]
  · simp only [Option.bind_some, findS_idx, idxF]
    cases l.findIdx? _ <;> simp
  · intro i y hy
    have e : decide (400 < (y.length : Int)) = decide (400 < y.length) := by simp; omega
    simp only [dltLen hy, cond_true, ixNat hy, Option.bind_some, f70, e]
    cases decide (400 < y.length) <;> rfl
  · simp

theorem f69_eq (l : List (List GTone)) (hs : Small l) : f69 l = some (l.any fun p => decide (400 < p.length)) := by
  unfold f69
  rw [f100_eq l hs]
  simp only [Option.bind_some, idxF_nonneg]

/-- The tones of a part, one after another. -/
def stepT {τ : Type} (c : τ) : Nat → Int → GTone → Int ⊕ (Unit ⊕ τ) := fun _ e t => bif badT e t then .inr (.inr c) else .inl t.to_

theorem foldT {τ : Type} (c : τ) : ∀ (l : List GTone) (k : Nat) (e : Int), foldE (stepT c) (fun _ => .inl ()) k l e = bif okT e l then .inl () else .inr c
  | [], _, _ => rfl
  | t :: r, k, e => by
    simp only [foldE, stepT, okT]
    cases badT e t with
    | true => rfl
    | false => simp only [cond_false]; rw [foldT c r]; rfl

theorem f36_eq (l : List (List GTone)) (hs : Small l) : f36 l = some (partsS l) := by
  have hmany : ((bif (decide (6 < (l.length : Int))) then (some true) else ((f69 l).bind fun r2 => some r2)) : Option Bool) = some (manyS l) := by
    rw [f69_eq l hs]
    unfold manyS
    have e : decide (6 < (l.length : Int)) = decide (6 < l.length) := by simp; omega
    rw [e]
    cases decide (6 < l.length) <;> rfl
  unfold f36
  rw [hmany]
  simp only [Option.bind_some]
  cases hm : manyS l with
  | true => simp [partsS, hm]
  | false =>
    simp only [cond_false]
    have hlen : ∀ p ∈ l, p.length ≤ 400 := fun p hp => by
      simp only [manyS, Bool.or_eq_false_iff, List.any_eq_false, decide_eq_true_eq] at hm
      have := hm.2 p hp
      omega
    rw [loop_find l (fun p => !(okT 0 p)) (fun _ _ => 80) hs]
    · simp only [Option.bind_some, findS_any, partsS, hm, not_any]
      cases l.all (okT 0) <;> rfl
    · intro i p hp
      have hps : Small p := by have := hlen p (List.mem_of_getElem? hp); simp only [Small]; omega
      simp only [dltLen hp, cond_true, ixNat hp, Option.bind_some]
      rw [loop_fold (fun (e : Int) i => (e, i)) (stepT (τ := Int ⊕ (Unit ⊕ Int)) (.inr (.inr 80))) (fun _ => .inl ()) p (fun _ _ => True) 0 (small_fuel hps) trivial]
      · rw [foldT]
        cases okT 0 p <;> rfl
      · intro j e t ht _
        refine ⟨?_, fun _ _ => trivial⟩
        simp only [dltLen ht, cond_true, ixNat ht, Option.bind_some, f71_eq, stepT, badT, wrLen hps ht]
        cases inR t.pitch 0 127 <;> cases decide (t.from_ < e) <;> cases decide (t.to_ ≤ t.from_) <;> cases decide (262144 < t.to_) <;> rfl
      · intro e _; simp
    · simp

theorem f72_eq (l : List GTone) (hs : Small l) : f72 l = some (okT 0 l) := by
  unfold f72
  rw [loop_fold (fun (_ : Int) i => i) (stepT (τ := Bool) false) (fun _ => .inl ()) l (fun i e => 0 ≤ e ∧ (i = 0 → e = 0) ∧ ∀ j, i = j + 1 → ∃ p, l[j]? = some p ∧ e = p.to_) 0 (small_fuel hs) ⟨Int.le_refl _, fun _ => rfl, fun j h => by cases h⟩]
  · rw [foldT]
    cases okT 0 l <;> rfl
  · intro i e t ht ⟨h0, h1, h2⟩
    constructor
    · have hb : ((bif (decide (t.pitch < 0)) then (some true) else (bif (decide (127 < t.pitch)) then (some true) else (bif (decide (t.from_ < 0)) then (some true) else (bif (decide (t.to_ ≤ t.from_)) then (some true) else (bif (decide (262144 < t.to_)) then (some true) else (bif (decide (0 < (i : Int))) then ((ix l (wr ((i : Int) - 1))).bind fun y9 => some (decide (t.from_ < y9.to_))) else (some false))))))) : Option Bool) = some (badT e t) := by
        cases i with
        | zero =>
          have := h1 rfl
          subst this
          have d6 : decide (0 < ((0 : Nat) : Int)) = false := by simp
          simp only [d6, cond_false, orE, badT, notInR, Bool.or_assoc]
          cases decide (t.pitch < 0) <;> cases decide (127 < t.pitch) <;> cases decide (t.from_ < 0) <;> cases decide (t.to_ ≤ t.from_) <;> cases decide (262144 < t.to_) <;> rfl
        | succ j =>
          obtain ⟨p, hp, rfl⟩ := h2 j rfl
          have hw : wr (((j + 1 : Nat) : Int) - 1) = (j : Int) := by
            have := (List.getElem?_eq_some_iff.1 hp).1
            simp only [Small] at hs
            rw [wr64 (by omega) (by omega)]; omega
          rw [hw, ixNat hp]
          have d6 : decide (0 < ((j + 1 : Nat) : Int)) = true := by simp <;> omega
          simp only [d6, cond_true, Option.bind_some, orE, badT, notInR, Bool.or_assoc]
          by_cases c3 : t.from_ < 0
          · have c6 : t.from_ < p.to_ := by omega
            simp only [c3, c6, decide_true, Bool.true_or, Bool.or_true]
          · have e3 : decide (t.from_ < 0) = false := by simpa using c3
            rw [e3]
            cases decide (t.pitch < 0) <;> cases decide (127 < t.pitch) <;> cases decide (t.from_ < p.to_) <;> cases decide (t.to_ ≤ t.from_) <;> cases decide (262144 < t.to_) <;> rfl
      simp only [dltLen ht, cond_true, ixNat ht, Option.bind_some]
      rw [hb]
      simp only [Option.bind_some, stepT, wrLen hs ht]
      cases badT e t <;> rfl
    · intro e' he
      simp only [stepT] at he
      cases hb : badT e t with
      | true => rw [hb] at he; cases he
      | false =>
        rw [hb] at he
        cases he
        refine ⟨?_, (fun h => by cases h), (fun j hj => by cases hj; exact ⟨t, ht, rfl⟩)⟩
        simp only [badT, Bool.or_eq_false_iff, decide_eq_false_iff_not] at hb
        omega
  · intro e _; simp

theorem f38_eq (l : List (List GTone)) (hs : Small l) : f38 l = some (partsS l) := by
  unfold f38
  rw [loop_fold (fun (b : Bool) i => (b, i)) (fun _ b (p : List GTone) => (.inl (b || decide (400 < p.length)) : Bool ⊕ Bool)) (fun b => b) l (fun _ _ => True) (decide (6 < (l.length : Int))) (small_fuel hs) trivial]
  · have key : ∀ (r : List (List GTone)) (k : Nat) (b : Bool), foldE (fun _ b (p : List GTone) => (.inl (b || decide (400 < p.length)) : Bool ⊕ Bool)) (fun b => b) k r b = (b || r.any fun p => decide (400 < p.length)) := by
      intro r
      induction r with
      | nil => intro k b; simp [foldE]
      | cons p r ih => intro k b; simp only [foldE, ih, List.any_cons, Bool.or_assoc]
    rw [key]
    have e : decide (6 < (l.length : Int)) = decide (6 < l.length) := by simp; omega
    rw [e]
    show (Option.bind (some (manyS l)) _) = _
    simp only [Option.bind_some]
    cases hm : manyS l with
    | true => simp [partsS, hm]
    | false =>
      simp only [cond_false]
      have hp : ∀ p ∈ l, Small p := fun p hp => by
        simp only [manyS, Bool.or_eq_false_iff, List.any_eq_false, decide_eq_true_eq] at hm
        have := hm.2 p hp
        simp only [Small]; omega
      rw [loop_find l (fun p => !(okT 0 p)) (fun _ _ => 80) hs]
      · simp only [Option.bind_some, findS_any, partsS, hm, not_any]
        cases l.all (okT 0) <;> rfl
      · intro i p hpp
        simp only [dltLen hpp, cond_true, ixNat hpp, Option.bind_some, f72_eq p (hp p (List.mem_of_getElem? hpp))]
        cases okT 0 p <;> rfl
      · simp
  · intro i b p hpp _
    refine ⟨?_, fun _ _ => trivial⟩
    have e : decide (400 < (p.length : Int)) = decide (400 < p.length) := by simp; omega
    simp only [dltLen hpp, cond_true, ixNat hpp, Option.bind_some, wrLen hs hpp, e]
    cases b <;> rfl
  · intro b _; simp

end Go.Proofs.YtplpfocfcppajaaGreat
