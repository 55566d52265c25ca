/-
  Plain laws of the player, part 6: the statement on Seek.
  Own work. No Go text.
-/
import Derived.Test.YtpljabnngpnieaaPv
import Derived.Test.YtpljabnngpnieaaV3
set_option linter.all false
namespace Go.Proofs.Ytpljabnngpnieaa
open Go Go.Am
theorem rest_ok (a n : Int) (h0 : 0 < n) (h1 : n ≤ 1000000) : ∃ r, f12 a n = some r ∧ 0 ≤ r ∧ r < n := by
  have g1 := Int.tmod_lt_of_pos a h0
  have g2 := Int.lt_tmod_of_pos a h0
  have hw : wr (Int.tmod a n + n) = Int.tmod a n + n := wr64 (by omega) (by omega)
  have hn : n ≠ 0 := by omega
  unfold f12
  simp only [need, if_pos hn, hw]
  exact ⟨_, rfl, Int.tmod_nonneg _ (by omega), Int.tmod_lt_of_pos _ h0⟩
theorem step_desks {p : GCPlayer} (h : p.times = 0) : (stepS p).2.2.desks = p.desks := by
  have ht : decide (0 < p.times) = false := by rw [h]; rfl
  unfold stepS
  cases doneS p with
  | true => rfl
  | false =>
    cases p.waiting with
    | true => rfl
    | false => simp only [cond_false, ht, Bool.false_and]; rfl
theorem keeps_mono {k m : Nat} {p : GCPlayer} (h : Keeps k p) (hm : k ≤ m) : Keeps m p := ⟨h.now, h.desks, h.notes, h.times, h.waits, h.live, h.mem, by have := h.takes; omega⟩
theorem step_any {k : Nat} {p : GCPlayer} (h : Keeps k p) : Keeps (k + 1) (stepS p).2.2 ∧ (stepS p).2.2.end_ = p.end_ ∧ (stepS p).2.2.from_ = p.from_ ∧ (stepS p).2.2.to_ = p.to_ ∧ (stepS p).2.2.desks = p.desks := by
  cases hd : doneS p with
  | true => rw [step_done hd]; exact ⟨keeps_mono h (by omega), rfl, rfl, rfl, rfl⟩
  | false =>
    obtain ⟨_, h2, _, h4, h5, h6⟩ := step_keeps h hd
    exact ⟨h2, h4, h5, h6, step_desks h.times⟩
end Go.Proofs.Ytpljabnngpnieaa
