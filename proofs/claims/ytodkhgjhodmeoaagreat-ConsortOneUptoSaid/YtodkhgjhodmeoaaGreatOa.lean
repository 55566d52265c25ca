/-
 ConsortOne,first part: a consort of one piece. Plain law.
 Own work. No Go text.
-/
import Derived.Test.YtodkhgjhodmeoaaGreatSw
set_option linter.all false
namespace Go.Proofs.YtodkhgjhodmeoaaGreat
open Go Go.Am
theorem check_one (p : GPiece) : checkS [p] = pieceS p := by
 by_cases h : pieceS p = 0
 ·simp [checkS,bandS,lensS,diffS,h]
 ·simp [checkS,bandS,lensS,h]
theorem sounds_one (p : GPiece) (hp : SmallP p) : ∃ r,f37 ⟨[p]⟩ = some r ∧ f40 p = some r ∧ Small r.1 ∧ (r.2 = 0 ↔ pieceS p = 0) := by
 have hs : SizeC [p] := ⟨by simp [Small],fun q hq => by rw [List.mem_singleton.1 hq]; exact hp⟩
 have d0 : decide ((0 : Int) ≠ 0) = false := rfl
 by_cases h : pieceS p = 0
 ·obtain ⟨r,a1,a2,a3⟩ := sounds_prog ⟨[p]⟩ hs (by rw [check_one]; exact h)
  obtain ⟨q,b1,b2,b3⟩ := tones_prog p hp h
  have ht : tonesP [p] ([p] : List GPiece).length = tonesS p := by simp [tonesP]
  rw [show (⟨[p]⟩ : GConsort).pieces = [p] from rfl,ht] at a2
  rw [permT_eq (b2.trans a2.symm) b3 a3] at b1
  refine ⟨_,a1,b1,?_,by simp [h]⟩
  have h1 := a2.length_eq
  have h2 := tonesS_len (valid_of hp h)
  simp only [Small]; omega
 ·have hd : decide (pieceS p ≠ 0) = true := by simpa using h
  refine ⟨([],pieceS p),?_,?_,by simp [Small],Iff.rfl⟩
  ·unfold f37
   rw [prog_Check ⟨[p]⟩ hs]
   simp only [check_one,Option.bind_some,hd,cond_true]
  ·have ho : onsetS p = ([],pieceS p) := by unfold onsetS; rw [if_neg h]
   unfold f40 f52 f114
   rw [prog_onsets p hp,ho]
   simp only [Option.bind_some,hd,cond_true]
theorem cues_asc {p : GPiece} (h : pieceS p = 0) : ∀ n,n ≤ p.events.length → (cuesAt 0 p n).Pairwise Rk
 | 0,_ => .nil
 | n + 1,hn => by
  rw [cuesAt_snoc]
  refine List.pairwise_append.2 ⟨cues_asc h n (by omega),List.pairwise_singleton _ _,fun a ha b hb => ?_⟩
  rw [List.mem_singleton.1 hb]
  obtain ⟨k,hk,rfl⟩ := List.mem_map.1 ha
  have hk := List.mem_range.1 hk
  obtain ⟨s,s1,s2,s3⟩ := ons_shape h
  have hm := (pieceS_ok h).2.1
  have g1 := ons_at hm (k := k) (by omega)
  have g2 := ons_at hm (k := n) (by omega)
  rw [s1] at g1 g2
  exact .inl (asc_lt s 0 s2 k n _ _ hk g1 g2)
theorem score_one (p : GPiece) (hp : SmallP p) (h : pieceS p = 0) : f35 ⟨[p]⟩ = some (cuesAt 0 p p.events.length,0) := by
 have hs : SizeC [p] := ⟨by simp [Small],fun q hq => by rw [List.mem_singleton.1 hq]; exact hp⟩
 obtain ⟨r,a1,a2,a3⟩ := score_prog ⟨[p]⟩ hs (by rw [check_one]; exact h)
 have ht : cuesP [p] ([p] : List GPiece).length = cuesAt 0 p p.events.length := by simp [cuesP]
 rw [show (⟨[p]⟩ : GConsort).pieces = [p] from rfl,ht] at a2
 rw [perm_eq a2 a3 (cues_asc h _ (Nat.le_refl _))] at a1
 exact a1
end Go.Proofs.YtodkhgjhodmeoaaGreat
