/-
  Plain laws, part 7: what a divided part is (for the statements on Divided and Adorned).
  Own work. No Go text.
-/
import Derived.Test.YtplpfocfcppajaaGreatL5
namespace Go.Proofs.YtplpfocfcppajaaGreat
open Go Go.Am
set_option linter.all false

theorem badT_iff {e : Int} {t : GTone} : badT e t = false ↔ 0 ≤ t.pitch ∧ t.pitch ≤ 127 ∧ e ≤ t.from_ ∧ t.from_ < t.to_ ∧ t.to_ ≤ 262144 := by
  simp only [badT, inR, Bool.or_eq_false_iff, Bool.not_eq_false', Bool.and_eq_true, decide_eq_true_eq, decide_eq_false_iff_not]
  omega

theorem okT_cons {e : Int} {t : GTone} {r : List GTone} : okT e (t :: r) = true ↔ (0 ≤ t.pitch ∧ t.pitch ≤ 127 ∧ e ≤ t.from_ ∧ t.from_ < t.to_ ∧ t.to_ ≤ 262144) ∧ okT t.to_ r = true := by
  simp only [okT, Bool.and_eq_true, Bool.not_eq_true', badT_iff]

theorem okT_mono {b e : Int} (h : b ≤ e) : ∀ {r : List GTone}, okT e r = true → okT b r = true
  | [], _ => rfl
  | t :: r, ht => by
    rw [okT_cons] at ht ⊢
    exact ⟨by omega, ht.2⟩

theorem okT_mem : ∀ {r : List GTone} {e : Int}, okT e r = true → ∀ t ∈ r, 0 ≤ t.pitch ∧ t.pitch ≤ 127 ∧ e ≤ t.from_ ∧ t.from_ < t.to_ ∧ t.to_ ≤ 262144
  | t :: r, e, h, x, hx => by
    rw [okT_cons] at h
    rcases List.mem_cons.1 hx with rfl | hx
    · exact h.1
    · have := okT_mem h.2 x hx
      omega

/-- Tones one behind the other, from s to e. -/
def chainT : Int → List GTone → Int → Prop
  | s, [], e => s = e
  | s, x :: r, e => x.from_ = s ∧ s < x.to_ ∧ 0 ≤ x.pitch ∧ x.pitch ≤ 127 ∧ chainT x.to_ r e

theorem chain_le : ∀ {q : List GTone} {s e : Int}, chainT s q e → s ≤ e
  | [], s, e, h => Int.le_of_eq h
  | x :: r, s, e, h => by
    have := chain_le h.2.2.2.2
    have := h.2.1
    omega

theorem chain_mem : ∀ {q : List GTone} {s e : Int}, chainT s q e → ∀ x ∈ q, s ≤ x.from_ ∧ x.from_ < x.to_ ∧ x.to_ ≤ e
  | y :: r, s, e, h, x, hx => by
    have h1 := chain_le h.2.2.2.2
    have h2 := h.1
    have h3 := h.2.1
    rcases List.mem_cons.1 hx with rfl | hx
    · omega
    · have := chain_mem h.2.2.2.2 x hx
      omega

theorem chain_ok : ∀ {q : List GTone} {s e b : Int} {r : List GTone}, chainT s q e → b ≤ s → e ≤ 262144 → okT e r = true → okT b (q ++ r) = true
  | [], s, e, b, r, h, h1, h2, h3 => by
    have : s = e := h
    exact okT_mono (by omega) h3
  | x :: q, s, e, b, r, h, h1, h2, h3 => by
    obtain ⟨g1, g2, g3, g4, g5⟩ := h
    have := chain_le g5
    rw [List.cons_append, okT_cons]
    exact ⟨by omega, chain_ok g5 (Int.le_refl _) h2 h3⟩

theorem chain_last : ∀ {q : List GTone} {s e : Int}, chainT s q e → q ≠ [] → ∃ y, q[q.length - 1]? = some y ∧ y.to_ = e
  | [x], s, e, h, _ => ⟨x, rfl, h.2.2.2.2⟩
  | x :: y :: r, s, e, h, _ => by
    obtain ⟨z, h1, h2⟩ := chain_last h.2.2.2.2 (by simp)
    refine ⟨z, ?_, h2⟩
    simpa using h1

/-! ### Sums -/

def durS (l : List GTone) : Int := (l.map fun t => t.to_ - t.from_).sum

theorem chain_dur : ∀ {q : List GTone} {s e : Int}, chainT s q e → durS q = e - s
  | [], s, e, h => by
    have : s = e := h
    simp [durS]; omega
  | x :: r, s, e, h => by
    have := chain_dur h.2.2.2.2
    have := h.1
    simp only [durS, List.map_cons, List.sum_cons] at *
    omega

theorem dur_append (a b : List GTone) : durS (a ++ b) = durS a + durS b := by simp [durS]

theorem dur_bound : ∀ {r : List GTone} {e : Int}, okT e r = true → 0 ≤ durS r ∧ (e ≤ 262144 → durS r ≤ 262144 - e)
  | [], e, _ => ⟨by simp [durS], fun h => by simp only [durS, List.map_nil, List.sum_nil]; omega⟩
  | t :: r, e, h => by
    rw [okT_cons] at h
    have := dur_bound h.2
    have := h.1
    simp only [durS, List.map_cons, List.sum_cons] at *
    omega

/-! ### The tones of a figure that fits -/

def sumP (l : List (Int × Int)) : Int := (l.map (·.2)).sum

theorem sumP_nonneg : ∀ {l : List (Int × Int)}, (∀ x ∈ l, 1 ≤ x.2 ∧ x.2 ≤ 64) → 0 ≤ sumP l
  | [], _ => by simp [sumP]
  | x :: r, h => by
    have h1 := sumP_nonneg fun y hy => h y (List.mem_cons_of_mem _ hy)
    have h2 := h x (by simp)
    simp only [sumP, List.map_cons, List.sum_cons] at *
    omega

theorem tonesK_chain (t : GTone) (u : Int) (hu : 1 ≤ u) : ∀ (l : List (Int × Int)) (a : List GTone × Int), (∀ x ∈ l, (0 ≤ wr (t.pitch + x.1) ∧ wr (t.pitch + x.1) ≤ 127) ∧ 1 ≤ x.2 ∧ x.2 ≤ 64) → 0 ≤ a.2 → a.2 + u * sumP l ≤ 262144 →
    ∃ q, (tonesK t u l a).1 = a.1 ++ q ∧ chainT a.2 q (a.2 + u * sumP l) ∧ ∀ x, l[0]? = some x → ∃ y r, q = y :: r ∧ y.pitch = wr (t.pitch + x.1)
  | [], a, _, _, _ => ⟨[], by simp [tonesK], by simp [chainT, sumP], fun x h => by cases h⟩
  | x :: r, a, hl, h0, hb => by
    obtain ⟨⟨p1, p2⟩, s1, s2⟩ := hl x (by simp)
    have hn := sumP_nonneg (l := r) fun y hy => (hl y (by simp [hy])).2
    have e1 : u * sumP (x :: r) = u * x.2 + u * sumP r := by simp only [sumP, List.map_cons, List.sum_cons]; exact Int.mul_add _ _ _
    have e2 : u * 1 ≤ u * x.2 := Int.mul_le_mul_of_nonneg_left s1 (by omega)
    have e3 : 0 ≤ u * sumP r := Int.mul_nonneg (by omega) hn
    rw [e1] at hb
    have w1 : wr (u * x.2) = u * x.2 := wr64 (by omega) (by omega)
    have w2 : wr (a.2 + wr (u * x.2)) = a.2 + u * x.2 := by rw [w1]; exact wr64 (by omega) (by omega)
    obtain ⟨q, h1, h2, _⟩ := tonesK_chain t u hu r (a.1 ++ [⟨wr (t.pitch + x.1), a.2, wr (a.2 + wr (u * x.2))⟩], wr (a.2 + wr (u * x.2))) (fun y hy => hl y (by simp [hy])) (by show 0 ≤ wr (a.2 + wr (u * x.2)); rw [w2]; omega) (by show wr (a.2 + wr (u * x.2)) + _ ≤ _; rw [w2]; omega)
    simp only at h1 h2
    refine ⟨⟨wr (t.pitch + x.1), a.2, wr (a.2 + wr (u * x.2))⟩ :: q, ?_, ⟨rfl, ?_, p1, p2, ?_⟩, fun y hy => ?_⟩
    · simp only [tonesK]; rw [h1]; simp
    · show a.2 < wr (a.2 + wr (u * x.2)); rw [w2]; omega
    · have e4 : a.2 + u * sumP (x :: r) = wr (a.2 + wr (u * x.2)) + u * sumP r := by rw [w2, e1]; omega
      rw [e4]; exact h2
    · simp only [List.getElem?_cons_zero, Option.some.injEq] at hy
      subst hy
      exact ⟨_, _, rfl, rfl⟩

theorem sumW_exact : ∀ (l : List Int) (a : Int), (∀ x ∈ l, 1 ≤ x ∧ x ≤ 64) → 0 ≤ a → a + 64 * l.length ≤ 1000000 → l.foldl (fun a x => wr (a + x)) a = a + l.sum
  | [], a, _, _, _ => by simp
  | x :: r, a, h, h0, hb => by
    have hx := h x (by simp)
    simp only [List.length_cons] at hb
    have hw : wr (a + x) = a + x := wr64 (by omega) (by omega)
    simp only [List.foldl_cons, hw, List.sum_cons]
    rw [sumW_exact r (a + x) (fun y hy => h y (by simp [hy])) (by omega) (by omega)]
    omega

theorem sumP_zip {f : GFigure} (h : rightS f = true) : sumP (f.moves.zip f.shares) = sumW f.shares := by
  obtain ⟨a, b, c, _, _, _, d⟩ := rightS_ok h
  unfold sumW sumP
  rw [sumW_exact f.shares 0 d (by omega) (by omega)]
  have : (f.moves.zip f.shares).map (·.2) = f.shares := List.map_snd_zip (by omega)
  rw [this]; omega

theorem fits_ok {p : List GTone} {f : GFigure} {k : Nat} {t : GTone} (ht : p[k]? = some t) (h : fitsS p f k = true) : (∃ n, p[k + 1]? = some n ∧ n.from_ = t.to_) ∧ Int.tmod (wr (t.to_ - t.from_)) (sumW f.shares) = 0 ∧ ∀ m ∈ f.moves, 0 ≤ wr (t.pitch + m) ∧ wr (t.pitch + m) ≤ 127 := by
  unfold fitsS at h
  rw [ht] at h
  cases hn : p[k + 1]? with
  | none => rw [hn] at h; cases h
  | some n =>
    rw [hn] at h
    simp only [Bool.and_eq_true, Bool.not_eq_true', Bool.or_eq_false_iff, decide_eq_false_iff_not, ne_eq, Decidable.not_not] at h
    obtain ⟨⟨h1, _, h3⟩, h4⟩ := h
    refine ⟨⟨n, rfl, h1⟩, h3, fun m hm => ?_⟩
    have := List.any_eq_false.1 h4 m hm
    simp only [highS, inR, Bool.not_eq_true, Bool.not_eq_false', Bool.and_eq_true, decide_eq_true_eq] at this
    exact this

/-- What a tone is replaced by: n tones, one behind the other, as long as it, the first one of its pitch. -/
def PieceOk (t : GTone) (q : List GTone) (n : Nat) : Prop := q.length = n ∧ chainT t.from_ q t.to_ ∧ ∃ x r, q = x :: r ∧ x.pitch = t.pitch

theorem tones_ok {p : List GTone} {f : GFigure} {k : Nat} {t : GTone} (hf : rightS f = true) (ht : p[k]? = some t) (hv : 0 ≤ t.pitch ∧ t.pitch ≤ 127 ∧ 0 ≤ t.from_ ∧ t.from_ < t.to_ ∧ t.to_ ≤ 262144) (h : fitsS p f k = true) : PieceOk t (tonesS t f) f.moves.length := by
  obtain ⟨_, hmod, hm⟩ := fits_ok ht h
  obtain ⟨a, b, c, _, ⟨rr, hr⟩, hmv, d⟩ := rightS_ok hf
  have hs := sumW_pos hf
  have hd : wr (t.to_ - t.from_) = t.to_ - t.from_ := wr64 (by omega) (by omega)
  rw [hd] at hmod
  have hdiv := Int.mul_tdiv_add_tmod (t.to_ - t.from_) (sumW f.shares)
  rw [hmod, Int.add_zero] at hdiv
  have hu : 1 ≤ Int.tdiv (t.to_ - t.from_) (sumW f.shares) := by
    by_cases h0 : 1 ≤ Int.tdiv (t.to_ - t.from_) (sumW f.shares)
    · exact h0
    · have := Int.mul_le_mul_of_nonneg_left (show Int.tdiv (t.to_ - t.from_) (sumW f.shares) ≤ 0 by omega) (show 0 ≤ sumW f.shares by omega)
      omega
  have hu2 : Int.tdiv (t.to_ - t.from_) (sumW f.shares) ≤ 262144 := by
    have := Int.mul_le_mul_of_nonneg_right (show 1 ≤ sumW f.shares by omega) (show 0 ≤ Int.tdiv (t.to_ - t.from_) (sumW f.shares) by omega)
    omega
  have hunit : unitS t f = Int.tdiv (t.to_ - t.from_) (sumW f.shares) := by unfold unitS; rw [hd]; exact wr64 (by omega) (by omega)
  have hspan : unitS t f * sumP (f.moves.zip f.shares) = t.to_ - t.from_ := by rw [hunit, sumP_zip hf, Int.mul_comm]; exact hdiv
  obtain ⟨q, h1, h2, h3⟩ := tonesK_chain t (unitS t f) (by rw [hunit]; exact hu) (f.moves.zip f.shares) ([], t.from_) (fun x hx => by
      obtain ⟨m1, m2⟩ := List.of_mem_zip (show (x.1, x.2) ∈ _ from hx)
      exact ⟨hm _ m1, d _ m2⟩) (by show 0 ≤ t.from_; omega) (by show t.from_ + _ ≤ _; rw [hspan]; omega)
  have hq : tonesS t f = q := by unfold tonesS; rw [h1]; rfl
  have hl := (tonesS_len (t := t) hf).1
  simp only at h2
  rw [hspan] at h2
  refine ⟨hl, ?_, ?_⟩
  · rw [hq]
    have : t.from_ + (t.to_ - t.from_) = t.to_ := by omega
    rw [this] at h2; exact h2
  · have hne : 0 < (f.moves.zip f.shares).length := by rw [List.length_zip]; omega
    obtain ⟨y, r, e1, e2⟩ := h3 _ (List.getElem?_eq_getElem hne)
    refine ⟨y, r, by rw [hq, e1], ?_⟩
    rw [e2]
    have : (f.moves.zip f.shares)[0].1 = 0 := by
      rw [List.getElem_zip]; simp [hr]
    rw [this, Int.add_zero]
    exact wr64 (by omega) (by omega)

theorem piece_ok {p : List GTone} {l : List GFigure} {k : Nat} {t : GTone} {c : Int} {q : List GTone} (hl : ∀ f ∈ l, rightS f = true) (ht : p[k]? = some t) (hv : 0 ≤ t.pitch ∧ t.pitch ≤ 127 ∧ 0 ≤ t.from_ ∧ t.from_ < t.to_ ∧ t.to_ ≤ 262144) (hc : 0 ≤ c) (h : pieceS p l k t c = some q) :
    PieceOk t q (cntS l c) := by
  unfold pieceS at h
  by_cases h0 : c = 0
  · rw [if_pos h0] at h
    cases h
    subst h0
    refine ⟨by simp [cntS], ⟨rfl, by omega, by omega, by omega, rfl⟩, t, [], rfl, rfl⟩
  · rw [if_neg h0] at h
    cases hf : l[(c - 1).toNat]? with
    | none => rw [hf] at h; cases h
    | some f =>
      rw [hf] at h
      have h : (bif fitsS p f k then some (tonesS t f) else none) = some q := h
      cases hfit : fitsS p f k with
      | false => rw [hfit] at h; cases h
      | true =>
        rw [hfit] at h
        cases h
        have hcnt : cntS l c = f.moves.length := by unfold cntS; rw [if_pos (by omega), hf]
        rw [hcnt]
        exact tones_ok (hl f (List.mem_of_getElem? hf)) ht hv hfit

/-! ### All pieces -/

def AllP (l : List GFigure) : List GTone → List Int → List (List GTone) → Prop
  | [], [], [] => True
  | t :: p, c :: cs, q :: qs => PieceOk t q (cntS l c) ∧ AllP l p cs qs
  | _, _, _ => False

theorem div_allP {p : List GTone} {l : List GFigure} (hl : ∀ f ∈ l, rightS f = true) (hp : okT 0 p = true) : ∀ (r : List GTone) (cs : List Int) (k : Nat) (a a' : List GTone), p.drop k = r → cs.length = r.length → (∀ c ∈ cs, 0 ≤ c) →
    foldE (divStep p l) (fun a => .inl a) k (cs.zip r) a = (.inl a' : List GTone ⊕ (List GTone × Int)) → ∃ qs, a' = a ++ qs.flatten ∧ AllP l r cs qs
  | [], [], k, a, a', _, _, _, h => ⟨[], by cases h; simp, trivial⟩
  | [], c :: cs, _, _, _, _, hlen, _, _ => by simp at hlen
  | t :: r, [], _, _, _, _, hlen, _, _ => by simp at hlen
  | t :: r, c :: cs, k, a, a', hd, hlen, hc, h => by
    have ht : p[k]? = some t := by
      have := congrArg (·[0]?) hd
      simpa using this
    have hd' : p.drop (k + 1) = r := by
      have := congrArg (List.drop 1) hd
      simpa [List.drop_drop] using this
    simp only [List.zip_cons_cons, foldE, divStep] at h
    cases hq : pieceS p l k t c with
    | none => rw [hq] at h; cases h
    | some q =>
      rw [hq] at h
      obtain ⟨qs, h1, h2⟩ := div_allP hl hp r cs (k + 1) (a ++ q) a' hd' (by simpa using hlen) (fun c hc' => hc c (by simp [hc'])) h
      refine ⟨q :: qs, by rw [h1]; simp, piece_ok hl ht ?_ (hc c (by simp)) hq, h2⟩
      have := okT_mem hp t (List.mem_of_getElem? ht)
      omega

theorem allP_ok {l : List GFigure} : ∀ {p : List GTone} {cs : List Int} {qs : List (List GTone)} {e : Int}, AllP l p cs qs → okT e p = true → okT e qs.flatten = true
  | [], [], [], _, _, _ => rfl
  | t :: p, c :: cs, q :: qs, e, h, ho => by
    rw [okT_cons] at ho
    rw [List.flatten_cons]
    exact chain_ok h.1.2.1 (by omega) (by omega) (allP_ok h.2 ho.2)
  | [], [], _ :: _, _, h, _ => h.elim
  | [], _ :: _, _, _, h, _ => h.elim
  | _ :: _, [], _, _, h, _ => h.elim
  | _ :: _, _ :: _, [], _, h, _ => h.elim

theorem allP_len {l : List GFigure} : ∀ {p : List GTone} {cs : List Int} {qs : List (List GTone)}, AllP l p cs qs → p.length ≤ qs.flatten.length
  | [], [], [], _ => by simp
  | t :: p, c :: cs, q :: qs, h => by
    obtain ⟨_, _, x, r, rfl, _⟩ := h.1
    have := allP_len h.2
    simp only [List.flatten_cons, List.length_append, List.length_cons]
    omega
  | [], [], _ :: _, h => h.elim
  | [], _ :: _, _, h => h.elim
  | _ :: _, [], _, h => h.elim
  | _ :: _, _ :: _, [], h => h.elim

theorem allP_dur {l : List GFigure} : ∀ {p : List GTone} {cs : List Int} {qs : List (List GTone)}, AllP l p cs qs → durS qs.flatten = durS p
  | [], [], [], _ => rfl
  | t :: p, c :: cs, q :: qs, h => by
    have h1 := chain_dur h.1.2.1
    have h2 := allP_dur h.2
    rw [List.flatten_cons, dur_append, h1, h2]
    simp [durS]
  | [], [], _ :: _, h => h.elim
  | [], _ :: _, _, h => h.elim
  | _ :: _, [], _, h => h.elim
  | _ :: _, _ :: _, [], h => h.elim

theorem allP_mem {l : List GFigure} : ∀ {p : List GTone} {cs : List Int} {qs : List (List GTone)}, AllP l p cs qs → ∀ x ∈ qs.flatten, ∃ t ∈ p, t.from_ ≤ x.from_ ∧ x.from_ < x.to_ ∧ x.to_ ≤ t.to_
  | [], [], [], _, x, hx => by simp at hx
  | t :: p, c :: cs, q :: qs, h, x, hx => by
    rw [List.flatten_cons] at hx
    rcases List.mem_append.1 hx with hx | hx
    · have := chain_mem h.1.2.1 x hx
      exact ⟨t, by simp, this⟩
    · obtain ⟨s, h1, h2⟩ := allP_mem h.2 x hx
      exact ⟨s, by simp [h1], h2⟩
  | [], [], _ :: _, h, _, _ => h.elim
  | [], _ :: _, _, h, _, _ => h.elim
  | _ :: _, [], _, h, _, _ => h.elim
  | _ :: _, _ :: _, [], h, _, _ => h.elim

/-! ### The pitch at a time -/

def hitT (τ : Int) (t : GTone) : Bool := decide (t.from_ ≤ τ) && decide (τ < t.to_)
def atS (l : List GTone) (τ : Int) : Int := match l.find? (hitT τ) with
  | some t => t.pitch
  | none => -1

theorem at_cons_hit {t : GTone} {r : List GTone} {τ : Int} (h1 : t.from_ ≤ τ) (h2 : τ < t.to_) : atS (t :: r) τ = t.pitch := by
  have : hitT τ t = true := by simp [hitT, h1, h2]
  simp [atS, List.find?_cons, this]
theorem at_cons_miss {t : GTone} {r : List GTone} {τ : Int} (h : ¬ (t.from_ ≤ τ ∧ τ < t.to_)) : atS (t :: r) τ = atS r τ := by
  have : hitT τ t = false := by
    cases hq : hitT τ t with
    | false => rfl
    | true => simp [hitT] at hq; exact absurd hq h
  simp [atS, List.find?_cons, this]

theorem at_skip : ∀ {q : List GTone} {s e τ : Int} {r : List GTone}, chainT s q e → e ≤ τ → atS (q ++ r) τ = atS r τ
  | [], _, _, _, _, _, _ => rfl
  | x :: q, s, e, τ, r, h, ht => by
    have h1 := chain_le h.2.2.2.2
    rw [List.cons_append, at_cons_miss (by omega)]
    exact at_skip h.2.2.2.2 ht

theorem allP_at {l : List GFigure} : ∀ {p : List GTone} {cs : List Int} {qs : List (List GTone)} {e : Int}, AllP l p cs qs → okT e p = true → ∀ t ∈ p, atS qs.flatten t.from_ = t.pitch
  | t :: p, c :: cs, q :: qs, e, h, ho, x, hx => by
    rw [okT_cons] at ho
    rw [List.flatten_cons]
    obtain ⟨⟨_, h1, y, r, h2, h3⟩, hr⟩ := h
    rcases List.mem_cons.1 hx with rfl | hx
    · subst h2
      have g1 := h1.1
      have g2 := h1.2.1
      rw [List.cons_append, at_cons_hit (by omega) (by omega)]
      exact h3
    · have := okT_mem ho.2 x hx
      rw [at_skip h1 (by omega)]
      exact allP_at hr ho.2 x hx
  | _ :: _, [], _, _, h, _, _, _ => h.elim
  | _ :: _, _ :: _, [], _, h, _, _, _ => h.elim

theorem at_nonneg {p : List GTone} {e τ : Int} (ho : okT e p = true) {t : GTone} (ht : t ∈ p) (h1 : t.from_ ≤ τ) (h2 : τ < t.to_) : 0 ≤ atS p τ := by
  unfold atS
  cases hf : p.find? (hitT τ) with
  | some x =>
    have := okT_mem ho x (List.mem_of_find?_eq_some hf)
    simp only; omega
  | none =>
    have := List.find?_eq_none.1 hf t ht
    simp [hitT] at this
    omega

/-! ### Undone -/

theorem und_allP {l : List GFigure} {d : List GTone} : ∀ {p : List GTone} {cs : List Int} {qs : List (List GTone)} (k : Nat) (acc : List GTone) (n : Nat), AllP l p cs qs → d.drop n = qs.flatten → n ≤ d.length →
    foldE (undStep d l) (fun a => (.inl a : (List GTone × Nat) ⊕ (List GTone × Int))) k cs (acc, n) = .inl (acc ++ p, d.length)
  | [], [], [], k, acc, n, _, hd, hn => by
    have : d.length = n := by
      have := congrArg List.length hd
      simp at this; omega
    simp [foldE, this]
  | t :: p, c :: cs, q :: qs, k, acc, n, h, hd, hn => by
    obtain ⟨⟨hlen, hch, x, r, hq, hx⟩, hr⟩ := h
    have hne : q ≠ [] := by rw [hq]; simp
    obtain ⟨z, hz, hzt⟩ := chain_last hch hne
    have hdl : d.length - n = q.length + qs.flatten.length := by
      have := congrArg List.length hd
      simpa using this
    have hq1 : 1 ≤ q.length := by rw [hq]; simp
    have g1 : d[n]? = some x := by
      have := congrArg (·[0]?) hd
      simp only [List.getElem?_drop, List.flatten_cons, hq] at this
      simpa using this
    have g2 : d[n + cntS l c - 1]? = some z := by
      have := congrArg (·[q.length - 1]?) hd
      simp only [List.getElem?_drop, List.flatten_cons] at this
      rw [List.getElem?_append_left (by omega), hz] at this
      rw [← hlen]
      have e : n + q.length - 1 = n + (q.length - 1) := by omega
      rw [e]; exact this
    have hfrom : x.from_ = t.from_ := by rw [hq] at hch; exact hch.1
    have e0 : decide (d.length < n + cntS l c) = false := by simp; omega
    simp only [foldE, undStep, g1, g2, e0, cond_false]
    have hstep := und_allP (l := l) (d := d) (k + 1) (acc ++ [t]) (n + cntS l c) hr (by
      have := congrArg (List.drop q.length) hd
      simp only [List.drop_drop, List.flatten_cons, List.drop_left'] at this
      rw [← hlen]; exact this) (by omega)
    have ht : (⟨x.pitch, x.from_, z.to_⟩ : GTone) = t := by rw [hx, hfrom, hzt]
    rw [ht, hstep]
    simp
  | [], [], _ :: _, _, _, _, h, _, _ => h.elim
  | [], _ :: _, _, _, _, _, h, _, _ => h.elim
  | _ :: _, [], _, _, _, _, h, _, _ => h.elim
  | _ :: _, _ :: _, [], _, _, _, h, _, _ => h.elim

theorem sameS_refl (a : List GTone) : sameS a a = true := by
  unfold sameS
  have : (a.zip a).any difS = false := by
    rw [List.any_eq_false]
    intro x hx
    have : x.1 = x.2 := by
      obtain ⟨i, hi, rfl⟩ := List.getElem_of_mem hx
      simp
    simp [difS, this, eq_tone_refl]
  simp [this]

/-- What is known of a part that was divided without an error. -/
theorem divS_ok {p : List GTone} {l : List GFigure} {c : List Int} (h : (divS p l c).2 = 0) : checkS p l = 0 ∧ c.length = p.length ∧ c.any (offS l) = false ∧ (divS p l c).1.length ≤ 400 ∧ ∃ qs, (divS p l c).1 = qs.flatten ∧ AllP l p c qs := by
  by_cases hck : checkS p l = 0
  · obtain ⟨c1, c2, c3, c4⟩ := checkS_ok hck
    by_cases hb : c.length = p.length ∧ c.any (offS l) = false
    · refine ⟨hck, hb.1, hb.2, divS_len p l c, ?_⟩
      unfold divS at h ⊢
      rw [if_pos hck, if_pos hb] at h ⊢
      cases hf : divF p l c with
      | inl a =>
        rw [hf] at h
        simp only at h ⊢
        by_cases h4 : 400 < a.length
        · rw [if_pos h4] at h; cases h
        · rw [if_neg h4]
          obtain ⟨qs, h1, h2⟩ := div_allP c4 c2 p c 0 [] a (by simp) hb.1 (fun y hy => (off_ok hb.2 y hy).1) hf
          exact ⟨qs, by simpa using h1, h2⟩
      | inr e =>
        rw [hf] at h
        rw [foldE_err _ _ _ hf] at h
        cases h
    · unfold divS at h
      rw [if_pos hck, if_neg hb] at h
      cases h
  · unfold divS at h
    rw [if_neg hck] at h
    exact absurd h hck

theorem partsS_one {p : List GTone} (h1 : p.length ≤ 400) (h2 : okT 0 p = true) : partsS [p] = 0 := by
  unfold partsS manyS
  have : decide (400 < p.length) = false := by simp; omega
  simp [this, h2]

theorem undS_div {p : List GTone} {l : List GFigure} {c : List Int} (h : (divS p l c).2 = 0) : undS (divS p l c).1 l c = (p, 0) := by
  obtain ⟨hck, hlen, hoff, h4, qs, hqs, hall⟩ := divS_ok h
  obtain ⟨c1, c2, c3, c4⟩ := checkS_ok hck
  have hck2 : checkS (divS p l c).1 l = 0 := by
    unfold checkS
    have hp := partsS_one h4 (by rw [hqs]; exact allP_ok hall c2)
    rw [if_pos hp]
    unfold checkS at hck
    rw [if_pos (partsS_one c1 c2)] at hck
    exact hck
  have hund : undF (divS p l c).1 l c = .inl (p, (divS p l c).1.length) := by
    unfold undF
    rw [und_allP 0 [] 0 hall (by simpa using hqs) (Nat.zero_le _)]
    simp
  unfold undS
  have e1 : (decide (400 < c.length) || c.any (offS l)) = false := by rw [hoff]; simp; omega
  rw [if_pos hck2, e1, hund]
  simp only [cond_false, ne_eq, not_true_eq_false, decide_false, Bool.false_or, h, sameS_refl, Bool.not_true]
end Go.Proofs.YtplpfocfcppajaaGreat
