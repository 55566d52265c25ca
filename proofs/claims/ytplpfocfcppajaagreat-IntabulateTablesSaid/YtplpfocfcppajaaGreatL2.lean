/-
  Plain laws, part 3: figures that fit; the statement on tables.
  Own work. No Go text.
-/
import Derived.Test.YtplpfocfcppajaaGreatL1
namespace Go.Proofs.YtplpfocfcppajaaGreat
open Go Go.Am
set_option linter.all false

theorem small_one {α : Type} (x : α) : Small [x] := by simp [Small]

def checkS (p : List GTone) (t : List GFigure) : Int := if partsS [p] = 0 then tableS t else partsS [p]

theorem f58_eq (p : List GTone) (t : List GFigure) : f58 p t = some (checkS p t) := by
  unfold f58 checkS
  rw [f36_eq [p] (small_one p), f25_eq]
  simp only [Option.bind_some]
  by_cases h : partsS [p] = 0 <;> simp [h]

theorem f60_eq (p : List GTone) (t : List GFigure) : f60 p t = some (checkS p t) := by
  unfold f60 checkS
  rw [f38_eq [p] (small_one p), f26_eq]
  simp only [Option.bind_some]
  by_cases h : partsS [p] = 0 <;> simp [h]

theorem partsS_ok {l : List (List GTone)} (h : partsS l = 0) : l.length ≤ 6 ∧ ∀ p ∈ l, p.length ≤ 400 ∧ okT 0 p = true := by
  unfold partsS at h
  split at h
  · cases h
  · rename_i h1
    split at h
    · rename_i h2
      simp only [manyS, Bool.or_eq_true, decide_eq_true_eq, List.any_eq_true, not_or, not_exists, not_and] at h1
      exact ⟨by omega, fun p hp => ⟨by have := h1.2 p hp; omega, List.all_eq_true.1 h2 p hp⟩⟩
    · cases h

theorem checkS_ok {p : List GTone} {t : List GFigure} (h : checkS p t = 0) : p.length ≤ 400 ∧ okT 0 p = true ∧ t.length ≤ 64 ∧ ∀ f ∈ t, rightS f = true := by
  unfold checkS at h
  split at h
  · rename_i h1
    obtain ⟨_, h2⟩ := partsS_ok h1
    obtain ⟨a, b⟩ := h2 p (by simp)
    obtain ⟨c, d⟩ := tableS_ok h
    exact ⟨a, b, c, d⟩
  · rename_i h1; exact absurd h h1

/-! ### Sums of shares -/

def sumW (l : List Int) : Int := l.foldl (fun a x => wr (a + x)) 0

theorem f95_eq (l : List Int) (hs : Small l) : f95 l = some (sumW l) := by
  unfold f95
  rw [loop_fold (fun (a : Int) i => (a, i)) (fun _ a x => (.inl (wr (a + x)) : Int ⊕ Int)) (fun a => a) l (fun _ _ => True) 0 (small_fuel hs) trivial]
  · have key : ∀ (r : List Int) (k : Nat) (a : Int), foldE (fun _ a x => (.inl (wr (a + x)) : Int ⊕ Int)) (fun a => a) k r a = r.foldl (fun a x => wr (a + x)) a := by
      intro r
      induction r with
      | nil => intro k a; rfl
      | cons x r ih => intro k a; simp only [foldE, ih, List.foldl_cons]
    rw [key]; rfl
  · intro i a x hx _
    exact ⟨by simp only [dltLen hx, cond_true, ixNat hx, Option.bind_some, wrLen hs hx]; rfl, fun _ _ => trivial⟩
  · intro a _; simp

theorem f98_eq (f : GFigure) (hs : Small f.shares) : f98 f = some (sumW f.shares) := f95_eq f.shares hs

theorem sumW_bound : ∀ (l : List Int) (a : Int), (∀ x ∈ l, 1 ≤ x ∧ x ≤ 64) → 0 ≤ a → a + 64 * l.length ≤ 1000000 → a + l.length ≤ l.foldl (fun a x => wr (a + x)) a ∧ l.foldl (fun a x => wr (a + x)) a ≤ a + 64 * l.length
  | [], a, _, _, _ => by simp
  | x :: r, a, h, h0, hb => by
    have hx := h x (by simp)
    simp only [List.length_cons] at hb
    have hw : wr (a + x) = a + x := wr64 (by omega) (by omega)
    simp only [List.foldl_cons, hw, List.length_cons]
    have := sumW_bound r (a + x) (fun y hy => h y (by simp [hy])) (by omega) (by omega)
    omega

theorem rightS_ok {f : GFigure} (h : rightS f = true) : f.moves.length = f.shares.length ∧ 1 ≤ f.moves.length ∧ f.moves.length ≤ 32 ∧ (-24 ≤ f.interval ∧ f.interval ≤ 24) ∧ (∃ r, f.moves = 0 :: r) ∧
    (∀ m ∈ f.moves, -24 ≤ m ∧ m ≤ 24) ∧ (∀ s ∈ f.shares, 1 ≤ s ∧ s ≤ 64) := by
  simp only [rightS, Bool.and_eq_true, Bool.not_eq_true'] at h
  obtain ⟨h1, h2⟩ := h
  obtain ⟨a, b, c, d⟩ := head_bad h1
  simp only [inR, Bool.and_eq_true, decide_eq_true_eq] at a b
  have key : ∀ (i : Nat) (m s : Int), f.moves[i]? = some m → f.shares[i]? = some s → (-24 ≤ m ∧ m ≤ 24) ∧ 1 ≤ s ∧ s ≤ 64 := fun i m s hm hs => by
    have hz : (f.moves.zip f.shares)[i]? = some (m, s) := by rw [List.getElem?_zip_eq_some]; exact ⟨hm, hs⟩
    have := List.any_eq_false.1 h2 _ (List.mem_of_getElem? hz)
    simp only [badM, inR, Bool.or_eq_true, Bool.not_eq_true', Bool.and_eq_false_iff, decide_eq_false_iff_not, not_or] at this
    omega
  refine ⟨c.symm, by omega, by omega, a, d, fun m hm => ?_, fun s hs => ?_⟩
  · obtain ⟨i, hi, rfl⟩ := List.getElem_of_mem hm
    have hi' : i < f.shares.length := by omega
    exact (key i _ _ (List.getElem?_eq_getElem hi) (List.getElem?_eq_getElem hi')).1
  · obtain ⟨i, hi, rfl⟩ := List.getElem_of_mem hs
    have hi' : i < f.moves.length := by omega
    exact (key i _ _ (List.getElem?_eq_getElem hi') (List.getElem?_eq_getElem hi)).2

theorem small_shares {f : GFigure} (h : rightS f = true) : Small f.shares ∧ Small f.moves := by
  obtain ⟨a, _, b, _⟩ := rightS_ok h
  simp only [Small]; omega

theorem sumW_pos {f : GFigure} (h : rightS f = true) : 1 ≤ sumW f.shares ∧ sumW f.shares ≤ 2048 := by
  obtain ⟨a, b, c, _, _, _, d⟩ := rightS_ok h
  have := sumW_bound f.shares 0 d (by omega) (by omega)
  unfold sumW
  omega

/-! ### A figure fits a tone -/

def highS (t : GTone) (m : Int) : Bool := !(inR (wr (t.pitch + m)) 0 127)

def fitsS (p : List GTone) (f : GFigure) (k : Nat) : Bool := match p[k]?, p[k + 1]? with
  | some t, some n => !(decide (n.from_ ≠ t.to_) || (decide (wr (n.pitch - t.pitch) ≠ f.interval) || decide (Int.tmod (wr (t.to_ - t.from_)) (sumW f.shares) ≠ 0))) && !(f.moves.any (highS t))
  | _, _ => false

theorem f124_eq (l : List Int) (t : GTone) (hs : Small l) : f124 l t = some (idxF (highS t) l) := by
  unfold f124
  rw [loop_find l (highS t) (fun i _ => (i : Int)) hs]
  · simp only [Option.bind_some, findS_idx, idxF]
    cases l.findIdx? _ <;> simp
  · intro i y hy
    simp only [dltLen hy, cond_true, ixNat hy, Option.bind_some, f97, f48_eq, highS]
    cases inR (wr (t.pitch + y)) 0 127 <;> rfl
  · simp

theorem f96_eq (l : List Int) (t : GTone) (hs : Small l) : f96 l t = some (l.any (highS t)) := by
  unfold f96
  rw [f124_eq l t hs]
  simp only [Option.bind_some, idxF_nonneg]

theorem f59_eq (p : List GTone) (f : GFigure) (k : Nat) (hp : Small p) (hf : rightS f = true) (hk : k < p.length) : f59 p f (k : Int) = some (fitsS p f k) := by
  obtain ⟨s1, s2⟩ := small_shares hf
  have hs0 : sumW f.shares ≠ 0 := by have := sumW_pos hf; omega
  have hw : wr ((k : Int) + 1) = ((k + 1 : Nat) : Int) := wrNat (by simp only [Small] at hp; omega)
  have ht : p[k]? = some p[k] := List.getElem?_eq_getElem hk
  unfold f59 fitsS
  rw [hw, ht]
  by_cases h : p.length ≤ k + 1
  · have hn : p[k + 1]? = none := List.getElem?_eq_none h
    have hd : decide ((p.length : Int) ≤ ((k + 1 : Nat) : Int)) = true := by simp; omega
    rw [hd, hn]; rfl
  · have hk2 : k + 1 < p.length := by omega
    have hn : p[k + 1]? = some p[k + 1] := List.getElem?_eq_getElem hk2
    have hd : decide ((p.length : Int) ≤ ((k + 1 : Nat) : Int)) = false := by simp; omega
    rw [hd, hn]
    simp only [cond_false, ixNat ht, ixNat hn, Option.bind_some, f95_eq f.shares s1, f96_eq f.moves _ s2, need, if_pos hs0, orE]
    cases (decide (p[k + 1].from_ ≠ p[k].to_) || (decide (wr (p[k + 1].pitch - p[k].pitch) ≠ f.interval) || decide (Int.tmod (wr (p[k].to_ - p[k].from_)) (sumW f.shares) ≠ 0))) <;> rfl

theorem f61_eq (p : List GTone) (f : GFigure) (k : Nat) (hp : Small p) (hf : rightS f = true) (hk : k < p.length) : f61 p f (k : Int) = some (fitsS p f k) := by
  obtain ⟨s1, s2⟩ := small_shares hf
  have hs0 : sumW f.shares ≠ 0 := by have := sumW_pos hf; omega
  have hw : wr ((k : Int) + 1) = ((k + 1 : Nat) : Int) := wrNat (by simp only [Small] at hp; omega)
  have ht : p[k]? = some p[k] := List.getElem?_eq_getElem hk
  unfold f61 fitsS
  rw [hw, ht]
  by_cases h : p.length ≤ k + 1
  · have hn : p[k + 1]? = none := List.getElem?_eq_none h
    have hd : decide ((p.length : Int) ≤ ((k + 1 : Nat) : Int)) = true := by simp; omega
    rw [hd, hn]; rfl
  · have hk2 : k + 1 < p.length := by omega
    have hn : p[k + 1]? = some p[k + 1] := List.getElem?_eq_getElem hk2
    have hd : decide ((p.length : Int) ≤ ((k + 1 : Nat) : Int)) = false := by simp; omega
    rw [hd, hn]
    simp only [cond_false, ixNat ht, ixNat hn, Option.bind_some, f98_eq f s1, need, if_pos hs0, orE]
    cases (decide (p[k + 1].from_ ≠ p[k].to_) || (decide (wr (p[k + 1].pitch - p[k].pitch) ≠ f.interval) || decide (Int.tmod (wr (p[k].to_ - p[k].from_)) (sumW f.shares) ≠ 0))) with
    | true => rfl
    | false =>
      simp only [cond_false]
      rw [loop_find f.moves (highS p[k]) (fun _ _ => false) s2]
      · simp only [Option.bind_some, findS_any]
        cases f.moves.any (highS p[k]) <;> rfl
      · intro i m hm
        simp only [dltLen hm, cond_true, ixNat hm, Option.bind_some, orE, highS, notInR]
        cases (decide (wr (p[k].pitch + m) < 0) || decide (127 < wr (p[k].pitch + m))) <;> rfl
      · simp

/-! ### All that fit -/

def fitsL (p : List GTone) (t : List GFigure) (k : Nat) : List Int := foldE (fun i acc f => (.inl (bif fitsS p f k then acc ++ [((i + 1 : Nat) : Int)] else acc) : List Int ⊕ List Int)) (fun a => a) 0 t []

def fitsR (p : List GTone) (t : List GFigure) (k : Int) : List Int × Int := if checkS p t = 0 then (if 0 ≤ k ∧ k < p.length then (fitsL p t k.toNat, 0) else ([], 1)) else ([], checkS p t)

theorem f27_eq (p : List GTone) (t : List GFigure) (k : Int) : f27 p t k = some (fitsR p t k) := by
  unfold f27 fitsR
  rw [f58_eq]
  simp only [Option.bind_some]
  by_cases hc : checkS p t = 0
  · obtain ⟨c1, c2, c3, c4⟩ := checkS_ok hc
    have hp : Small p := by simp only [Small]; omega
    have hw : wr ((p.length : Int) - 1) = (p.length : Int) - 1 := wr64 (by omega) (by omega)
    simp only [hc, hw, f48_eq, Option.bind_some]
    have hd : decide ((0 : Int) ≠ 0) = false := by simp
    rw [hd, cond_false]
    by_cases hk : 0 ≤ k ∧ k < p.length
    · have hi : inR k 0 ((p.length : Int) - 1) = true := by simp [inR]; omega
      rw [if_pos hk, hi]
      simp only [Bool.not_true, cond_false]
      obtain ⟨n, rfl⟩ : ∃ n : Nat, k = (n : Int) := ⟨k.toNat, by omega⟩
      have hn : n < p.length := by omega
      have hst : Small t := by simp only [Small]; omega
      rw [loop_fold (fun (a : List Int) i => (a, i)) (fun i acc f => (.inl (bif fitsS p f n then acc ++ [((i + 1 : Nat) : Int)] else acc) : List Int ⊕ List Int)) (fun a => a) t (fun i a => a.length ≤ i) [] (small_fuel hst) (by simp)]
      · simp only [Option.bind_some]; rfl
      · intro i a f hf ha
        have hil := (List.getElem?_eq_some_iff.1 hf).1
        constructor
        · have hmx : a.length + 1 ≤ maxElems := by unfold maxElems; omega
          simp only [dltLen hf, cond_true, ixNat hf, Option.bind_some, f59_eq p f n hp (c4 f (List.mem_of_getElem? hf)) hn, wrLen hst hf, need, if_pos hmx]
          cases fitsS p f n <;> rfl
        · intro a' he
          cases he
          cases fitsS p f n <;> simp <;> omega
      · intro a _; simp
    · have hi : inR k 0 ((p.length : Int) - 1) = false := by
        cases hq : inR k 0 ((p.length : Int) - 1) with
        | false => rfl
        | true => simp [inR] at hq; omega
      rw [if_neg hk, hi]; rfl
  · have hd : decide (checkS p t ≠ 0) = true := by simpa using hc
    rw [hd, if_neg hc]; rfl

theorem f28_eq (p : List GTone) (t : List GFigure) (k : Int) : f28 p t k = some (fitsR p t k) := by
  unfold f28 fitsR
  rw [f60_eq p t]
  simp only [Option.bind_some]
  by_cases hc : checkS p t = 0
  · obtain ⟨c1, c2, c3, c4⟩ := checkS_ok hc
    have hp : Small p := by simp only [Small]; omega
    simp only [hc, orE, Option.bind_some]
    have hd : decide ((0 : Int) ≠ 0) = false := by simp
    rw [hd, cond_false]
    by_cases hk : 0 ≤ k ∧ k < p.length
    · have hi : (decide (k < 0) || decide ((p.length : Int) ≤ k)) = false := by simp; omega
      rw [if_pos hk, hi]
      simp only [cond_false]
      obtain ⟨n, rfl⟩ : ∃ n : Nat, k = (n : Int) := ⟨k.toNat, by omega⟩
      have hn : n < p.length := by omega
      have hst : Small t := by simp only [Small]; omega
      rw [loop_fold (fun (a : List Int) i => (a, i)) (fun i acc f => (.inl (bif fitsS p f n then acc ++ [((i + 1 : Nat) : Int)] else acc) : List Int ⊕ List Int)) (fun a => a) t (fun i a => a.length ≤ i) [] (small_fuel hst) (by simp)]
      · simp only [Option.bind_some]; rfl
      · intro i a f hf ha
        have hil := (List.getElem?_eq_some_iff.1 hf).1
        constructor
        · have hmx : a.length + 1 ≤ maxElems := by unfold maxElems; omega
          simp only [dltLen hf, cond_true, ixNat hf, Option.bind_some, f61_eq p f n hp (c4 f (List.mem_of_getElem? hf)) hn, wrLen hst hf, need, if_pos hmx]
          cases fitsS p f n <;> rfl
        · intro a' he
          cases he
          cases fitsS p f n <;> simp <;> omega
      · intro a _; simp
    · have hi : (decide (k < 0) || decide ((p.length : Int) ≤ k)) = true := by simp; omega
      rw [if_neg hk, hi]; rfl
  · have hd : decide (checkS p t ≠ 0) = true := by simpa using hc
    rw [hd, if_neg hc]; rfl

theorem f18_refl (l : List Int) (hs : Small l) : f18 l l = some true := by
  unfold f18
  have hd : decide ((l.length : Int) ≠ (l.length : Int)) = false := by simp
  rw [hd, cond_false, loop_find l (fun _ => false) (fun _ _ => false) hs]
  · simp only [Option.bind_some, findS_any]
    have : (l.any fun _ => false) = false := by simp
    rw [this]; rfl
  · intro i y hy
    simp only [dltLen hy, cond_true, ixNat hy, Option.bind_some]
    have : decide (y ≠ y) = false := by simp
    rw [this]; rfl
  · simp

theorem fitsR_small (p : List GTone) (t : List GFigure) (k : Int) : Small (fitsR p t k).1 := by
  unfold fitsR
  split
  · rename_i hc
    obtain ⟨_, _, c3, _⟩ := checkS_ok hc
    split
    · have key : ∀ (r : List GFigure) (i : Nat) (a : List Int), (foldE (fun i acc f => (.inl (bif fitsS p f k.toNat then acc ++ [((i + 1 : Nat) : Int)] else acc) : List Int ⊕ List Int)) (fun a => a) i r a).length ≤ a.length + r.length := by
        intro r
        induction r with
        | nil => intro i a; simp [foldE]
        | cons f r ih =>
          intro i a
          simp only [foldE, List.length_cons]
          have := ih (i + 1) (bif fitsS p f k.toNat then a ++ [((i + 1 : Nat) : Int)] else a)
          have hl : (bif fitsS p f k.toNat then a ++ [((i + 1 : Nat) : Int)] else a).length ≤ a.length + 1 := by cases fitsS p f k.toNat <;> simp
          omega
      have := key t 0 []
      have e : ([] : List Int).length = 0 := rfl
      simp only [Small, fitsL]
      omega
    · simp [Small]
  · simp [Small]

/-- **IntabulateTables.** -/
theorem f6_eq (p : List GTone) (t : List GFigure) (k : Int) : f6 p t k = some true := by
  unfold f6
  rw [f25_eq, f26_eq, f27_eq p t k, f28_eq p t k]
  simp [f18_refl _ (fitsR_small p t k), f13]
end Go.Proofs.YtplpfocfcppajaaGreat
