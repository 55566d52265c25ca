/-
  Plain laws, part 9: the statement on the picks of Adorn.
  Own work. No Go text.
-/
import Derived.Test.YtplpfocfcppajaaGreatL11
import Derived.Test.YtplpfocfcppajaaGreatV9
namespace Go.Proofs.YtplpfocfcppajaaGreat
open Go Go.Am
set_option linter.all false

theorem pick_ok {p : List GTone} {l : List GFigure} {least : Int} {k : Nat} {t : GTone} (ht : p[k]? = some t) : pickS p l least k = 0 ∨ ∃ i f, l[i]? = some f ∧ pickS p l least k = ((i + 1 : Nat) : Int) ∧ goodS p k t least f = true := by
  unfold pickS
  rw [ht]
  cases hq : l.findIdx? (goodS p k t least) with
  | none => exact .inl (by simp only [hq])
  | some i =>
    obtain ⟨h1, h2, _⟩ := List.findIdx?_eq_some_iff_getElem.1 hq
    exact .inr ⟨i, l[i], List.getElem?_eq_getElem h1, by simp only [hq], h2⟩

theorem good_ok {p : List GTone} {k : Nat} {t : GTone} {least : Int} {f : GFigure} (h : goodS p k t least f = true) : fitsS p f k = true ∧ ∀ x ∈ tonesS t f, shortS least x = false := by
  unfold goodS at h
  simp only [Bool.and_eq_true, Bool.not_eq_true'] at h
  exact ⟨h.1, fun x hx => by simpa using List.any_eq_false.1 h.2 x hx⟩

theorem pick_piece {p : List GTone} {l : List GFigure} {least : Int} {k : Nat} {t : GTone} (ht : p[k]? = some t) : ∃ q, pieceS p l k t (pickS p l least k) = some q ∧ ∀ x ∈ q, x = t ∨ shortS least x = false := by
  rcases pick_ok (l := l) (least := least) ht with h | ⟨i, f, h1, h2, h3⟩
  · refine ⟨[t], by unfold pieceS; rw [if_pos h], fun x hx => .inl (by simpa using hx)⟩
  · obtain ⟨g1, g2⟩ := good_ok h3
    refine ⟨tonesS t f, ?_, fun x hx => .inr (g2 x hx)⟩
    unfold pieceS
    have n0 : ¬ ((i + 1 : Nat) : Int) = 0 := by omega
    have n1 : (((i + 1 : Nat) : Int) - 1).toNat = i := by omega
    rw [h2, if_neg n0, n1, h1]
    simp only [g1, cond_true]

theorem div_go {p : List GTone} {l : List GFigure} {least : Int} : ∀ (r : List GTone) (cs : List Int) (k : Nat) (a : List GTone), p.drop k = r → cs.length = r.length → (∀ (j : Nat) c, cs[j]? = some c → c = pickS p l least (k + j)) →
    ∃ a', foldE (divStep p l) (fun a => .inl a) k (cs.zip r) a = (.inl a' : List GTone ⊕ (List GTone × Int)) ∧ ∀ x ∈ a', x ∈ a ∨ x ∈ p ∨ shortS least x = false
  | [], [], k, a, _, _, _ => ⟨a, rfl, fun x hx => .inl hx⟩
  | [], c :: cs, _, _, _, hlen, _ => by simp at hlen
  | t :: r, [], _, _, _, hlen, _ => by simp at hlen
  | t :: r, c :: cs, k, a, hd, hlen, hc => by
    have ht : p[k]? = some t := by
      have := congrArg (·[0]?) hd
      simpa using this
    have hd' : p.drop (k + 1) = r := by
      have := congrArg (List.drop 1) hd
      simpa [List.drop_drop] using this
    have hc0 : c = pickS p l least k := by have := hc 0 c rfl; simpa using this
    obtain ⟨q, h1, h2⟩ := pick_piece (l := l) (least := least) ht
    obtain ⟨a', h3, h4⟩ := div_go r cs (k + 1) (a ++ q) hd' (by simpa using hlen) (fun j c' h => by
      have := hc (j + 1) c' (by simpa using h)
      rw [this]; congr 1; omega)
    refine ⟨a', ?_, fun x hx => ?_⟩
    · simp only [List.zip_cons_cons, foldE, divStep]
      rw [hc0, h1]
      exact h3
    · rcases h4 x hx with h | h | h
      · rcases List.mem_append.1 h with h | h
        · exact .inl h
        · rcases h2 x h with rfl | h
          · exact .inr (.inl (List.mem_of_getElem? ht))
          · exact .inr (.inr h)
      · exact .inr (.inl h)
      · exact .inr (.inr h)

theorem fitsL_mem {p : List GTone} {k : Nat} : ∀ (l : List GFigure) (n : Nat) (a : List Int) (j : Nat) (f : GFigure), l[j]? = some f → fitsS p f k = true →
    ((n + j + 1 : Nat) : Int) ∈ foldE (fun i acc f => (.inl (bif fitsS p f k then acc ++ [((i + 1 : Nat) : Int)] else acc) : List Int ⊕ List Int)) (fun a => a) n l a := by
  have keep : ∀ (l : List GFigure) (n : Nat) (a : List Int) (y : Int), y ∈ a → y ∈ foldE (fun i acc f => (.inl (bif fitsS p f k then acc ++ [((i + 1 : Nat) : Int)] else acc) : List Int ⊕ List Int)) (fun a => a) n l a := by
    intro l
    induction l with
    | nil => intro n a y h; exact h
    | cons f l ih =>
      intro n a y h
      simp only [foldE]
      refine ih (n + 1) _ y ?_
      cases fitsS p f k <;> simp [h]
  intro l
  induction l with
  | nil => intro n a j f h; simp at h
  | cons g l ih =>
    intro n a j f h hf
    simp only [foldE]
    cases j with
    | zero =>
      simp only [List.getElem?_cons_zero, Option.some.injEq] at h
      subst h
      refine keep l (n + 1) _ _ ?_
      rw [hf]; simp
    | succ j =>
      have := ih (n + 1) (bif fitsS p g k then a ++ [((n + 1 : Nat) : Int)] else a) j f (by simpa using h) hf
      have e : n + 1 + j + 1 = n + (j + 1) + 1 := by omega
      rw [e] at this
      exact this

theorem adorn_ok {p : List GTone} {l : List GFigure} {least : Int} (h : (adornS p l least).2 = 0) : checkS p l = 0 ∧ (1 ≤ least ∧ least ≤ 262144) ∧ (adornS p l least).1 = (List.range p.length).map (pickS p l least) := by
  unfold adornS at h ⊢
  by_cases hc : checkS p l = 0
  · rw [if_pos hc] at h ⊢
    by_cases hb : 1 ≤ least ∧ least ≤ 262144
    · rw [if_pos hb] at h ⊢; exact ⟨hc, hb, rfl⟩
    · rw [if_neg hb] at h; cases h
  · rw [if_neg hc] at h; exact absurd h hc

/-- **IntabulateAdorned.** -/
theorem f9_eq (p : List GTone) (l : List GFigure) (least : Int) : f9 p l least = some true := by
  unfold f9
  by_cases h64 : 64 < p.length
  · have e : decide (64 < (p.length : Int)) = true := by simp; omega
    rw [e]; simp [f13]
  · have e : decide (64 < (p.length : Int)) = false := by simp; omega
    rw [e, cond_false, f29_eq]
    simp only [Option.bind_some]
    by_cases h : (adornS p l least).2 = 0
    · have e2 : decide ((adornS p l least).2 ≠ 0) = false := by simpa using h
      obtain ⟨hck, ⟨hb1, hb2⟩, hpk⟩ := adorn_ok h
      obtain ⟨c1, c2, c3, c4⟩ := checkS_ok hck
      have hps : Small p := by simp only [Small]; omega
      rw [e2, cond_false, hpk, f31_eq]
      simp only [Option.bind_some]
      have hgetP : ∀ (j : Nat) c, ((List.range p.length).map (pickS p l least))[j]? = some c → c = pickS p l least j ∧ j < p.length := fun j c hc => by
        rw [List.getElem?_map] at hc
        cases hr : (List.range p.length)[j]? with
        | none => rw [hr] at hc; cases hc
        | some n =>
          rw [hr] at hc
          have hj := (List.getElem?_eq_some_iff.1 hr)
          obtain ⟨h1, h2⟩ := hj
          simp at h1 h2
          subst h2
          simp at hc
          exact ⟨hc.symm, h1⟩
      have hplen : ((List.range p.length).map (pickS p l least)).length = p.length := by simp
      have hrange : ∀ (j : Nat), j < p.length → 0 ≤ pickS p l least j ∧ pickS p l least j ≤ l.length := fun j hj => by
        rcases pick_ok (l := l) (least := least) (List.getElem?_eq_getElem hj) with h | ⟨i, f, h1, h2, _⟩
        · rw [h]; omega
        · have := (List.getElem?_eq_some_iff.1 h1).1
          rw [h2]; omega
      have hoff : ((List.range p.length).map (pickS p l least)).any (offS l) = false := by
        rw [List.any_eq_false]
        intro y hy
        obtain ⟨j, hj⟩ := List.getElem?_of_mem hy
        obtain ⟨rfl, hj2⟩ := hgetP j y hj
        have := hrange j hj2
        simp [offS, inR]; omega
      obtain ⟨a, ha1, ha2⟩ := div_go (p := p) (l := l) (least := least) p ((List.range p.length).map (pickS p l least)) 0 [] (by simp) hplen (fun j c hc => by rw [Nat.zero_add]; exact (hgetP j c hc).1)
      have hdiv : divS p l ((List.range p.length).map (pickS p l least)) = if 400 < a.length then ([], 2) else (a, 0) := by
        unfold divS divF
        rw [if_pos hck, if_pos ⟨hplen, hoff⟩, ha1]
      rw [hdiv]
      by_cases h4 : 400 < a.length
      · rw [if_pos h4]; simp [f13]
      · rw [if_neg h4]
        have e3 : decide ((0 : Int) = 2) = false := rfl
        have e4 : decide ((0 : Int) ≠ 0) = false := rfl
        have e5 : decide ((((List.range p.length).map (pickS p l least)).length : Int) ≠ (p.length : Int)) = false := by rw [hplen]; simp
        have hpks : Small ((List.range p.length).map (pickS p l least)) := by simp only [Small]; omega
        have has : Small a := by simp only [Small]; omega
        simp only [e3, e4, e5, cond_false, Option.bind_some]
        rw [loop_none _ hpks]
        · simp only [Option.bind_some, Sum.elim_inl]
          rw [loop_none a has]
          · simp only [Option.bind_some, Sum.elim_inl, f13]
          · intro i x hx
            simp only [dltLen hx, cond_true, ixNat hx, Option.bind_some]
            rw [loop_fold (fun (b : Bool) i => (b, i)) (fun _ b (y : GTone) => (.inl (b || eq_GTone y x) : Bool ⊕ Bool)) (fun b => b) p (fun _ _ => True) false (small_fuel hps) trivial]
            · rw [foldE_or (fun y => eq_GTone y x)]
              simp only [Option.bind_some, Bool.false_or]
              have : p.any (fun y => eq_GTone y x) = true ∨ decide (wr (x.to_ - x.from_) < least) = false := by
                rcases ha2 x (List.mem_of_getElem? hx) with h | h | h
                · simp at h
                · exact .inl (List.any_eq_true.2 ⟨x, h, eq_tone_refl x⟩)
                · exact .inr h
              rcases this with h | h
              · rw [h]; rfl
              · rw [h]; cases p.any (fun y => eq_GTone y x) <;> rfl
            · intro j b y hy _
              refine ⟨?_, fun _ _ => trivial⟩
              simp only [dltLen hy, cond_true, ixNat hy, Option.bind_some, wrLen hps hy]
              cases b <;> rfl
            · intro b _; simp
          · simp
        · intro i y hy
          obtain ⟨rfl, hi⟩ := hgetP i y hy
          have hr := hrange i hi
          have hfit : fitsR p l (i : Int) = (fitsL p l i, 0) := by
            unfold fitsR
            rw [if_pos hck, if_pos (by omega)]
            simp
          have d1 : decide (pickS p l least i < 0) = false := by simp; omega
          have hfs : Small (fitsL p l i) := by have := fitsR_small p l (i : Int); rw [hfit] at this; exact this
          simp only [dltLen hy, cond_true, ixNat hy, Option.bind_some, f27_eq, hfit, e4, cond_false, d1]
          rw [loop_fold (fun (b : Bool) i => (b, i)) (fun _ b (n : Int) => (.inl (b || decide (n = pickS p l least i)) : Bool ⊕ Bool)) (fun b => b) (fitsL p l i) (fun _ _ => True) (decide (pickS p l least i = 0)) (small_fuel hfs) trivial]
          · rw [foldE_or (fun n => decide (n = pickS p l least i))]
            simp only [Option.bind_some]
            have : (decide (pickS p l least i = 0) || (fitsL p l i).any fun n => decide (n = pickS p l least i)) = true := by
              rcases pick_ok (l := l) (least := least) (List.getElem?_eq_getElem hi) with h | ⟨j, f, h1, h2, h3⟩
              · simp [h]
              · have hm := fitsL_mem (p := p) (k := i) l 0 [] j f h1 (good_ok h3).1
                rw [Nat.zero_add] at hm
                have : (fitsL p l i).any (fun n => decide (n = pickS p l least i)) = true := List.any_eq_true.2 ⟨_, hm, by simp [h2]⟩
                rw [this]; simp
            rw [this]; rfl
          · intro j b n hn _
            refine ⟨?_, fun _ _ => trivial⟩
            simp only [dltLen hn, cond_true, ixNat hn, Option.bind_some, wrLen hfs hn]
            cases b <;> rfl
          · intro b _; simp
        · simp
    · have e2 : decide ((adornS p l least).2 ≠ 0) = true := by simpa using h
      rw [e2]; simp [f13]
end Go.Proofs.YtplpfocfcppajaaGreat
