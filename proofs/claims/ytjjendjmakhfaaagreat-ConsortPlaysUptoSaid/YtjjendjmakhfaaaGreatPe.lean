/-
 Plain laws of the player,part 8: what is played from the beginning to the end,without a repeat: every note once.
 Own work. No Go text.
-/
import Derived.Test.YtjjendjmakhfaaaGreatPb
import Derived.Test.YtjjendjmakhfaaaGreatNr
set_option linter.all false
namespace Go.Proofs.YtjjendjmakhfaaaGreat
open Go Go.Am
theorem later_le (now t x : Int) : laterS now t x ≤ t ∧ (now < x → laterS now t x ≤ x) := by
 unfold laterS minI
 by_cases h : now < x
 ·have hd : decide (now < x) = true := by simpa using h
  rw [hd,cond_true]
  split <;> constructor <;> (try intro _) <;> omega
 ·have hd : decide (now < x) = false := by simpa using h
  rw [hd,cond_false]
  exact ⟨Int.le_refl _,fun g => absurd g h⟩
theorem fold_first {α : Type} (f : Int → α → Int) (hf : ∀ t x,f t x ≤ t) : ∀ (l : List α) (t : Int),l.foldl f t ≤ t
 | [],t => Int.le_refl _
 | x :: r,t => by
  have := fold_first f hf r (f t x)
  have := hf t x
  simp only [List.foldl_cons]; omega
theorem fold_first_mem {α : Type} (f : Int → α → Int) (hf : ∀ t x,f t x ≤ t) (v : Int) : ∀ (l : List α) (t : Int),(∃ x ∈ l,∀ t,f t x ≤ v) → l.foldl f t ≤ v
 | x :: r,t,⟨y,hy,h⟩ => by
  simp only [List.foldl_cons]
  rcases List.mem_cons.1 hy with rfl | hy
  ·have := fold_first f hf r (f t y)
   have := h t
   omega
  ·exact fold_first_mem f hf v r (f t x) ⟨y,hy,h⟩
theorem noteStep_le (now : Int) (d : GCDesk) (t : Int) (n : GNote) : (bif canS d n then laterS now t n.from_ else t) ≤ t := by
 cases canS d n with
 | false => exact Int.le_refl _
 | true => exact (later_le now t n.from_).1
theorem nextD_le (now t : Int) (d : GCDesk) : nextD now t d ≤ t := fold_first _ (fun t n => noteStep_le now d t n) d.notes t
theorem next_live {p : GCPlayer} {x : GCLive} (hx : x ∈ p.sounding.l) (h : p.now < x.note.to_) : nextT p ≤ x.note.to_ := by
 unfold nextT
 have h1 := fold_first (nextD p.now) (fun t d => nextD_le p.now t d) p.desks (p.sounding.l.foldl (fun t x => laterS p.now t x.note.to_) (bif decide (0 < p.times) then laterS p.now p.end_ p.to_ else p.end_))
 have h2 := fold_first_mem (fun t (x : GCLive) => laterS p.now t x.note.to_) (fun t x => (later_le p.now t x.note.to_).1) x.note.to_ p.sounding.l (bif decide (0 < p.times) then laterS p.now p.end_ p.to_ else p.end_) ⟨x,hx,fun t => (later_le p.now t x.note.to_).2 h⟩
 omega
theorem put_perm (l : List GCLive) (x : GCLive) : (putS l x).Perm (x :: l) := by
 unfold putS
 refine List.perm_middle.trans (List.Perm.cons x ?_)
 rw [List.take_append_drop]
end Go.Proofs.YtjjendjmakhfaaaGreat
