/-
  Plain laws, part 8: the statement on divided parts.
  Own work. No Go text.
-/
import Derived.Test.YtplpfocfcppajaaGreatL6
import Derived.Test.YtplpfocfcppajaaGreatV11
namespace Go.Proofs.YtplpfocfcppajaaGreat
open Go Go.Am
set_option linter.all false

theorem f37_eq (l : List GTone) (τ : Int) (hs : Small l) : f37 l τ = some (atS l τ) := by
  unfold f37
  rw [loop_find l (hitT τ) (fun _ y => y.pitch) hs]
  · simp only [Option.bind_some, findS_find, atS]
    cases l.find? (hitT τ) <;> rfl
  · intro i y hy
    simp only [dltLen hy, cond_true, ixNat hy, Option.bind_some, hitT]
    cases decide (y.from_ ≤ τ) <;> cases decide (τ < y.to_) <;> rfl
  · simp

def okSpan (t : GTone) : Prop := 0 ≤ t.from_ ∧ t.from_ < t.to_ ∧ t.to_ ≤ 262144

theorem dur_nonneg : ∀ {l : List GTone}, (∀ t ∈ l, okSpan t) → 0 ≤ durS l
  | [], _ => by simp [durS]
  | t :: r, h => by
    have h1 := dur_nonneg fun x hx => h x (List.mem_cons_of_mem _ hx)
    have h2 := h t (by simp)
    simp only [durS, List.map_cons, List.sum_cons, okSpan] at *
    omega

theorem sum_up : ∀ (l : List GTone) (a : Int), (∀ t ∈ l, okSpan t) → 0 ≤ a → a + durS l ≤ 1000000 → l.foldl (fun a t => wr (a + wr (t.to_ - t.from_))) a = a + durS l
  | [], a, _, _, _ => by simp [durS]
  | t :: r, a, h, h0, hb => by
    have h1 := dur_nonneg fun x hx => h x (List.mem_cons_of_mem _ hx)
    have h2 := h t (by simp)
    have e : durS (t :: r) = (t.to_ - t.from_) + durS r := by simp [durS]
    rw [e] at hb ⊢
    simp only [okSpan] at h2
    have w1 : wr (t.to_ - t.from_) = t.to_ - t.from_ := wr64 (by omega) (by omega)
    have w2 : wr (a + wr (t.to_ - t.from_)) = a + (t.to_ - t.from_) := by rw [w1]; exact wr64 (by omega) (by omega)
    rw [List.foldl_cons, w2, sum_up r _ (fun x hx => h x (List.mem_cons_of_mem _ hx)) (by omega) (by omega)]
    omega

theorem sum_down : ∀ (l : List GTone) (a : Int), (∀ t ∈ l, okSpan t) → a ≤ 1000000 → 0 ≤ a - durS l → l.foldl (fun a t => wr (a - wr (t.to_ - t.from_))) a = a - durS l
  | [], a, _, _, _ => by simp [durS]
  | t :: r, a, h, h0, hb => by
    have h1 := dur_nonneg fun x hx => h x (List.mem_cons_of_mem _ hx)
    have h2 := h t (by simp)
    have e : durS (t :: r) = (t.to_ - t.from_) + durS r := by simp [durS]
    rw [e] at hb ⊢
    simp only [okSpan] at h2
    have w1 : wr (t.to_ - t.from_) = t.to_ - t.from_ := wr64 (by omega) (by omega)
    have w2 : wr (a - wr (t.to_ - t.from_)) = a - (t.to_ - t.from_) := by rw [w1]; exact wr64 (by omega) (by omega)
    rw [List.foldl_cons, w2, sum_down r _ (fun x hx => h x (List.mem_cons_of_mem _ hx)) (by omega) (by omega)]
    omega

theorem okT_span {p : List GTone} (h : okT 0 p = true) : ∀ t ∈ p, okSpan t := fun t ht => by
  have := okT_mem h t ht
  simp only [okSpan]; omega

/-- **IntabulateDivided.** -/
theorem f11_eq (p : List GTone) (l : List GFigure) (c : List Int) : f11 p l c = some true := by
  unfold f11
  by_cases h64 : 64 < p.length
  · have e : decide (64 < (p.length : Int)) = true := by simp; omega
    rw [e]; simp [f13]
  · have e : decide (64 < (p.length : Int)) = false := by simp; omega
    rw [e, cond_false, f31_eq]
    simp only [Option.bind_some]
    by_cases h : (divS p l c).2 = 0
    · have e2 : decide ((divS p l c).2 ≠ 0) = false := by simpa using h
      obtain ⟨hck, hlen, hoff, h4, qs, hqs, hall⟩ := divS_ok h
      obtain ⟨c1, c2, c3, c4⟩ := checkS_ok hck
      have hps : Small p := by simp only [Small]; omega
      have hds : Small (divS p l c).1 := divS_small p l c
      have hdo : okT 0 (divS p l c).1 = true := by rw [hqs]; exact allP_ok hall c2
      have hle : p.length ≤ (divS p l c).1.length := by rw [hqs]; exact allP_len hall
      have e3 : decide (((divS p l c).1.length : Int) < (p.length : Int)) = false := by simp; omega
      have e4 : decide ((0 : Int) ≠ 0) = false := rfl
      rw [e2, cond_false, f34_eq, undS_div h]
      simp only [Option.bind_some, e4, cond_false, f33_refl p hps, Bool.not_true, f36_eq _ (small_one _), partsS_one h4 hdo, e3]
      rw [loop_none p hps]
      · simp only [Option.bind_some, Sum.elim_inl]
        rw [loop_none (divS p l c).1 hds]
        · simp only [Option.bind_some, Sum.elim_inl]
          have hb1 := dur_bound c2
          have hb2 : durS (divS p l c).1 = durS p := by rw [hqs]; exact allP_dur hall
          rw [loop_fold (fun (a : Int) i => (a, i)) (fun _ a (t : GTone) => (.inl (wr (a + wr (t.to_ - t.from_))) : Int ⊕ Int)) (fun a => a) p (fun _ _ => True) 0 (small_fuel hps) trivial]
          · rw [foldE_inl (fun a (t : GTone) => wr (a + wr (t.to_ - t.from_))), sum_up p 0 (okT_span c2) (by omega) (by omega)]
            simp only [Option.bind_some]
            rw [loop_fold (fun (a : Int) i => (a, i)) (fun _ a (t : GTone) => (.inl (wr (a - wr (t.to_ - t.from_))) : Int ⊕ Int)) (fun a => a) (divS p l c).1 (fun _ _ => True) (0 + durS p) (small_fuel hds) trivial]
            · rw [foldE_inl (fun a (t : GTone) => wr (a - wr (t.to_ - t.from_))), sum_down _ _ (okT_span hdo) (by omega) (by rw [hb2]; omega), hb2]
              have : decide (0 + durS p - durS p = 0) = true := by simp
              simp only [Option.bind_some, this, cond_true, f13]
            · intro i a t ht _
              exact ⟨by simp only [dltLen ht, cond_true, ixNat ht, Option.bind_some, wrLen hds ht]; rfl, fun _ _ => trivial⟩
            · intro a _; simp
          · intro i a t ht _
            exact ⟨by simp only [dltLen ht, cond_true, ixNat ht, Option.bind_some, wrLen hps ht]; rfl, fun _ _ => trivial⟩
          · intro a _; simp
        · intro i x hx
          obtain ⟨t, ht, g1, g2, g3⟩ := allP_mem hall x (by rw [← hqs]; exact List.mem_of_getElem? hx)
          have n1 := at_nonneg c2 ht (τ := x.from_) g1 (by omega)
          have n2 := at_nonneg c2 ht (τ := x.to_ - 1) (by omega) (by omega)
          have ho := okT_mem hdo x (List.mem_of_getElem? hx)
          have w1 : wr (x.to_ - 1) = x.to_ - 1 := wr64 (by omega) (by omega)
          have d1 : decide (atS p x.from_ < 0) = false := by simp; omega
          have d2 : decide (atS p (x.to_ - 1) < 0) = false := by simp; omega
          simp only [dltLen hx, cond_true, ixNat hx, Option.bind_some, f37_eq p _ hps, d1, w1, d2, cond_false]
        · simp
      · intro i t ht
        have hat := allP_at hall c2 t (List.mem_of_getElem? ht)
        rw [← hqs] at hat
        have d1 : decide (t.pitch ≠ t.pitch) = false := by simp
        simp only [dltLen ht, cond_true, ixNat ht, Option.bind_some, f37_eq _ _ hds, hat, d1, cond_false]
      · simp
    · have e2 : decide ((divS p l c).2 ≠ 0) = true := by simpa using h
      rw [e2]; simp [f13]
end Go.Proofs.YtplpfocfcppajaaGreat
