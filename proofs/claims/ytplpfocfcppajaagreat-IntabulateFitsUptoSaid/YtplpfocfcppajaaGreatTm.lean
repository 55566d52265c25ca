/-
 Ascending lists: sorting and dropping equal neighbours comes to putting in one by one.
 Own work. No Go text.
-/
import Derived.Test.YtplpfocfcppajaaGreatLq
import Derived.Lib.SlicesCompact
set_option linter.all false
namespace Go.Am
open Go.RowKit
def asc (l : List Int) : Prop := l.Pairwise (· < ·)
theorem asc_ext : ∀ {a b : List Int},asc a → asc b → (∀ x,x ∈ a ↔ x ∈ b) → a = b
 | [],[],_,_,_ => rfl
 | [],y :: b,_,_,h => by have := (h y).2 (by simp); cases this
 | x :: a,[],_,_,h => by have := (h x).1 (by simp); cases this
 | x :: a,y :: b,ha,hb,h => by
  obtain ⟨a1,a2⟩ := List.pairwise_cons.1 ha
  obtain ⟨b1,b2⟩ := List.pairwise_cons.1 hb
  have hxy : x = y := by
   rcases List.mem_cons.1 ((h x).1 (by simp)) with h1 | h1
   ·exact h1
   ·rcases List.mem_cons.1 ((h y).2 (by simp)) with h2 | h2
    ·exact h2.symm
    ·have := b1 x h1
     have := a1 y h2
     omega
  subst hxy
  congr 1
  refine asc_ext a2 b2 fun z => ⟨fun hz => ?_,fun hz => ?_⟩
  ·rcases List.mem_cons.1 ((h z).1 (by simp [hz])) with h1 | h1
   ·have := a1 z hz; omega
   ·exact h1
  ·rcases List.mem_cons.1 ((h z).2 (by simp [hz])) with h1 | h1
   ·have := b1 z hz; omega
   ·exact h1
theorem compact_mem (zs : List Int) (x : Int) : x ∈ Go.Lib.compact zs ↔ x ∈ zs := by
 unfold Go.Lib.compact Go.Lib.compactUpTo
 rw [List.mem_map]
 constructor
 ·rintro ⟨j,hj,rfl⟩
  have hjl := List.mem_range.1 (List.mem_filter.1 hj).1
  rw [getElem!_pos _ j (by simpa using hjl)]
  simp
 ·intro hx
  obtain ⟨j,hj⟩ := List.getElem?_of_mem hx
  have key : ∀ (j : Nat) (x : Int),zs[j]? = some x → ∃ i,i ∈ (List.range zs.length).filter (Go.Lib.keeps zs.toArray) ∧ zs.toArray[i]! = x := by
   intro j
   induction j with
   | zero =>
    intro x h
    obtain ⟨hl,h1⟩ := List.getElem?_eq_some_iff.1 h
    refine ⟨0,List.mem_filter.2 ⟨List.mem_range.2 hl,Go.Lib.keeps_lt_one _ 0 (by omega)⟩,?_⟩
    rw [getElem!_pos _ 0 (by simpa using hl)]
    simpa using h1
   | succ j ih =>
    intro x h
    obtain ⟨hl,h1⟩ := List.getElem?_eq_some_iff.1 h
    have e1 : zs.toArray[j + 1]! = x := by rw [getElem!_pos _ (j + 1) (by simpa using hl)]; simpa using h1
    by_cases hk : Go.Lib.keeps zs.toArray (j + 1) = true
    ·exact ⟨j + 1,List.mem_filter.2 ⟨List.mem_range.2 hl,hk⟩,e1⟩
    ·have he : zs.toArray[j + 1]! = zs.toArray[j]! := by
      unfold Go.Lib.keeps at hk
      simp only [decide_eq_true_eq,not_or,Decidable.not_not,Nat.add_sub_cancel] at hk
      exact hk.2
     have hl' : j < zs.length := by omega
     have e2 : zs.toArray[j]! = zs[j] := by rw [getElem!_pos _ j (by simpa using hl')]; simp
     exact ih x (by rw [List.getElem?_eq_getElem hl']; rw [← e2,← he,e1])
  obtain ⟨i,h1,h2⟩ := key j x hj
  exact ⟨i,h1,h2⟩
theorem compact_asc (zs : List Int) (h : zs.Pairwise (· ≤ ·)) : asc (Go.Lib.compact zs) := by
 unfold Go.Lib.compact Go.Lib.compactUpTo asc
 rw [List.pairwise_map]
 have hr : (List.range zs.length).Pairwise (· < ·) := List.pairwise_lt_range
 refine (List.Pairwise.filter _ hr).imp_of_mem fun {i j} hi hj hij => ?_
 have hjl := List.mem_range.1 (List.mem_filter.1 hj).1
 have hk := (List.mem_filter.1 hj).2
 unfold Go.Lib.keeps at hk
 simp only [decide_eq_true_eq] at hk
 have hne : zs.toArray[j]! ≠ zs.toArray[j - 1]! := by
  rcases hk with h1 | h1
  ·omega
  ·exact h1
 rw [getElem!_pos _ j (by simpa using hjl),getElem!_pos _ (j - 1) (by simp; omega)] at hne
 rw [getElem!_pos _ j (by simpa using hjl),getElem!_pos _ i (by simp; omega)]
 simp only [List.getElem_toArray] at hne ⊢
 have h1 := List.pairwise_iff_getElem.1 h (j - 1) j (by omega) hjl (by omega)
 by_cases hi1 : i = j - 1
 ·subst hi1; omega
 ·have h2 := List.pairwise_iff_getElem.1 h i (j - 1) (by omega) (by omega) (by omega)
  omega
theorem compact_len (zs : List Int) : (Go.Lib.compact zs).length ≤ zs.length := by
 unfold Go.Lib.compact Go.Lib.compactUpTo
 rw [List.length_map]
 exact Nat.le_trans (List.length_filter_le _ _) (by simp)
def sortS (l : List Int) : List Int := l.mergeSort fun x y => decide (x ≤ y)
theorem sortS_len (l : List Int) : (sortS l).length = l.length := List.length_mergeSort l
theorem sortS_mem (l : List Int) (x : Int) : x ∈ sortS l ↔ x ∈ l := (List.mergeSort_perm l _).mem_iff
theorem sortS_le (l : List Int) : (sortS l).Pairwise (· ≤ ·) := by
 have := List.pairwise_mergeSort (le := fun x y : Int => decide (x ≤ y)) (fun a b c h1 h2 => by simp at *; omega) (fun a b => by simp; omega) l
 exact this.imp fun h => by simpa using h
def putI (l : List Int) (n : Int) : List Int := bif l.any (fun x => decide (x = n)) then l else l.filter (fun x => decide (x < n)) ++ n :: l.filter fun x => !decide (x < n)
theorem putI_ok {l : List Int} (h : asc l) (n : Int) : asc (putI l n) ∧ ∀ x,x ∈ putI l n ↔ x = n ∨ x ∈ l := by
 unfold putI
 cases ha : l.any (fun x => decide (x = n)) with
 | true =>
  rw [cond_true]
  obtain ⟨y,h1,h2⟩ := List.any_eq_true.1 ha
  simp only [decide_eq_true_eq] at h2
  subst h2
  exact ⟨h,fun x => ⟨fun hx => .inr hx,fun hx => by rcases hx with rfl | hx <;> assumption⟩⟩
 | false =>
  rw [cond_false]
  have hn : ∀ x ∈ l,x ≠ n := fun x hx e => by
   have := List.any_eq_false.1 ha x hx
   simp [e] at this
  constructor
  ·refine List.pairwise_append.2 ⟨h.filter _,List.pairwise_cons.2 ⟨fun y hy => ?_,h.filter _⟩,fun a ha' b hb => ?_⟩
   ·obtain ⟨h1,h2⟩ := List.mem_filter.1 hy
    have := hn y h1
    simp at h2; omega
   ·obtain ⟨h1,h2⟩ := List.mem_filter.1 ha'
    simp only [decide_eq_true_eq] at h2
    rcases List.mem_cons.1 hb with rfl | hb
    ·exact h2
    ·obtain ⟨h3,h4⟩ := List.mem_filter.1 hb
     simp at h4; omega
  ·intro x
   simp only [List.mem_append,List.mem_cons,List.mem_filter]
   constructor
   ·rintro (h1 | h1 | h1)
    ·exact .inr h1.1
    ·exact .inl h1
    ·exact .inr h1.1
   ·rintro (h1 | h1)
    ·exact .inr (.inl h1)
    ·by_cases hx : x < n
     ·exact .inl ⟨h1,by simpa using hx⟩
     ·exact .inr (.inr ⟨h1,by simpa using hx⟩)
theorem putI_len {l : List Int} (n : Int) : (putI l n).length ≤ l.length + 1 := by
 unfold putI
 cases l.any (fun x => decide (x = n)) with
 | true => simp
 | false =>
  have := (List.filter_append_perm (fun x => decide (x < n)) l).length_eq
  simp only [cond_false,List.length_append,List.length_cons] at this ⊢
  omega
theorem foldl_put : ∀ (l a : List Int),asc a → asc (l.foldl putI a) ∧ ∀ x,x ∈ l.foldl putI a ↔ x ∈ l ∨ x ∈ a
 | [],a,h => ⟨h,fun x => by simp⟩
 | y :: l,a,h => by
  obtain ⟨h1,h2⟩ := putI_ok h y
  obtain ⟨h3,h4⟩ := foldl_put l (putI a y) h1
  refine ⟨h3,fun x => ?_⟩
  rw [List.foldl_cons,h4,h2]
  simp only [List.mem_cons]
  constructor
  ·rintro (h | h | h)
   ·exact .inl (.inr h)
   ·exact .inl (.inl h)
   ·exact .inr h
  ·rintro ((h | h) | h)
   ·exact .inr (.inl h)
   ·exact .inl h
   ·exact .inr (.inr h)
theorem put_all (l : List Int) (n : Int) : Go.Lib.compact (sortS (n :: l)) = l.foldl putI [n] := by
 obtain ⟨h1,h2⟩ := foldl_put l [n] (List.pairwise_singleton _ _)
 refine asc_ext (compact_asc _ (sortS_le _)) h1 fun x => ?_
 rw [compact_mem,sortS_mem,h2]
 simp only [List.mem_cons,List.not_mem_nil,or_false]
 exact or_comm
end Go.Am
