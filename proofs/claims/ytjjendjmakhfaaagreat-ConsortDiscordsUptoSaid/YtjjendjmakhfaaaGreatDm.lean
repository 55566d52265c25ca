/-
 Lists of pitches: sorted without repeats; concords. Plain law (no program in it).
 Own work. No Go text.
-/
import Derived.Test.YtjjendjmakhfaaaGreatLq
set_option linter.all false
namespace Go.Am
theorem asc_extI : ∀ {a b : List Int},a.Pairwise (· < ·) → b.Pairwise (· < ·) → (∀ x,x ∈ a ↔ x ∈ b) → a = b
 | [],[],_,_,_ => rfl
 | [],y :: s,_,_,h => by have := (h y).2 (List.mem_cons_self ..); cases this
 | x :: r,[],_,_,h => by have := (h x).1 (List.mem_cons_self ..); cases this
 | x :: r,y :: s,ha,hb,h => by
  obtain ⟨a1,a2⟩ := List.pairwise_cons.1 ha
  obtain ⟨b1,b2⟩ := List.pairwise_cons.1 hb
  have e : x = y := by
   rcases List.mem_cons.1 ((h x).1 (List.mem_cons_self ..)) with e | hx
   ·exact e
   ·rcases List.mem_cons.1 ((h y).2 (List.mem_cons_self ..)) with e | hy
    ·exact e.symm
    ·have := b1 x hx
     have := a1 y hy
     omega
  subst e
  have : r = s := asc_extI a2 b2 fun z => by
   constructor
   ·intro hz
    rcases List.mem_cons.1 ((h z).1 (List.mem_cons_of_mem _ hz)) with e | h1
    ·have := a1 z hz
     omega
    ·exact h1
   ·intro hz
    rcases List.mem_cons.1 ((h z).2 (List.mem_cons_of_mem _ hz)) with e | h1
    ·have := b1 z hz
     omega
    ·exact h1
  rw [this]
def sortI (l : List Int) : List Int := l.mergeSort fun x y => decide (x ≤ y)
theorem sortI_perm (l : List Int) : (sortI l).Perm l := List.mergeSort_perm l _
theorem sortI_asc (l : List Int) : (sortI l).Pairwise (· ≤ ·) := by
 have h := List.pairwise_mergeSort (le := fun x y : Int => decide (x ≤ y)) (fun a b c h1 h2 => by simp only [decide_eq_true_eq] at *; omega) (fun a b => by simp only [Bool.or_eq_true,decide_eq_true_eq]; omega) l
 exact h.imp fun h => by simpa using h
theorem asc_strict : ∀ {l : List Int},l.Pairwise (· ≤ ·) → l.Nodup → l.Pairwise (· < ·)
 | [],_,_ => .nil
 | x :: r,h,hn => by
  obtain ⟨a1,a2⟩ := List.pairwise_cons.1 h
  obtain ⟨b1,b2⟩ := List.nodup_cons.1 hn
  refine List.pairwise_cons.2 ⟨fun y hy => ?_,asc_strict a2 b2⟩
  have := a1 y hy
  have : x ≠ y := fun e => b1 (e ▸ hy)
  omega
theorem sortI_strict {l : List Int} (hn : l.Nodup) : (sortI l).Pairwise (· < ·) := asc_strict (sortI_asc l) ((sortI_perm l).nodup_iff.2 hn)
def upTo (p : Int → Bool) (n : Nat) : List Int := ((List.range n).map fun i : Nat => (i : Int)).filter p
theorem upTo_asc (p : Int → Bool) (n : Nat) : (upTo p n).Pairwise (· < ·) := by
 unfold upTo
 refine List.Pairwise.filter _ ?_
 rw [List.pairwise_map]
 exact List.pairwise_lt_range.imp fun h => by omega
theorem mem_upTo {p : Int → Bool} {n : Nat} {x : Int} : x ∈ upTo p n ↔ (0 ≤ x ∧ x < (n : Int)) ∧ p x = true := by
 unfold upTo
 rw [List.mem_filter,List.mem_map]
 constructor
 ·rintro ⟨⟨i,hi,rfl⟩,h⟩
  have := List.mem_range.1 hi
  exact ⟨⟨by omega,by omega⟩,h⟩
 ·rintro ⟨⟨h0,h1⟩,h⟩
  exact ⟨⟨x.toNat,List.mem_range.2 (by omega),by omega⟩,h⟩
def bad1 (c : Int) : Bool := decide (c = 1) || (decide (c = 2) || (decide (c = 10) || decide (c = 11)))
def bad2 (c : Int) : Bool := decide (c = 5) || decide (c = 6)
def cls (a b : Int) : Int := (b - a) % 12
theorem bad_self (a : Int) : bad1 (cls a a) = false ∧ bad2 (cls a a) = false := by
 unfold bad1 bad2 cls
 have : (a - a) % 12 = 0 := by omega
 rw [this]; decide
def DiscR (l : List Int) : Prop := ∃ x ∈ l,∃ y ∈ l,((∀ z ∈ l,x ≤ z) ∧ (bad1 (cls x y) = true ∨ bad2 (cls x y) = true)) ∨ (x < y ∧ bad1 (cls x y) = true)
def DiscP (s : List Int) : Prop := ∃ (i j : Nat) (x y : Int),i < j ∧ s[i]? = some x ∧ s[j]? = some y ∧ (bad1 (cls x y) = true ∨ (i = 0 ∧ bad2 (cls x y) = true))
theorem disc_same {l s : List Int} (hp : s.Perm l) (hs : s.Pairwise (· ≤ ·)) : DiscP s ↔ DiscR l := by
 have le_of : ∀ {i j : Nat} {x y : Int},i ≤ j → s[i]? = some x → s[j]? = some y → x ≤ y := by
  intro i j x y hij hx hy
  by_cases e : i = j
  ·subst e
   rw [hx] at hy
   cases hy
   exact Int.le_refl _
  ·obtain ⟨h1,h2⟩ := List.getElem?_eq_some_iff.1 hx
   obtain ⟨h3,h4⟩ := List.getElem?_eq_some_iff.1 hy
   have := List.pairwise_iff_getElem.1 hs i j h1 h3 (by omega)
   omega
 constructor
 ·rintro ⟨i,j,x,y,hij,hx,hy,h⟩
  have mx := hp.mem_iff.1 (List.mem_of_getElem? hx)
  have my := hp.mem_iff.1 (List.mem_of_getElem? hy)
  have hxy := le_of (by omega) hx hy
  rcases h with h | ⟨rfl,h⟩
  ·by_cases e : x = y
   ·subst e
    rw [(bad_self x).1] at h
    cases h
   ·exact ⟨x,mx,y,my,.inr ⟨by omega,h⟩⟩
  ·refine ⟨x,mx,y,my,.inl ⟨fun z hz => ?_,.inr h⟩⟩
   obtain ⟨k,hk⟩ := List.getElem?_of_mem (hp.mem_iff.2 hz)
   exact le_of (Nat.zero_le _) hx hk
 ·rintro ⟨x,mx,y,my,h⟩
  obtain ⟨i,hi⟩ := List.getElem?_of_mem (hp.mem_iff.2 mx)
  obtain ⟨j,hj⟩ := List.getElem?_of_mem (hp.mem_iff.2 my)
  have lt_of : x < y → i < j := fun hlt => by
   rcases Nat.lt_or_ge i j with h | h
   ·exact h
   ·have := le_of h hj hi
    omega
  rcases h with ⟨hmin,h⟩ | ⟨hlt,h⟩
  ·by_cases e : x = y
   ·subst e
    rcases h with h | h
    ·rw [(bad_self x).1] at h; cases h
    ·rw [(bad_self x).2] at h; cases h
   ·have hxy := hmin y my
    rcases h with h | h
    ·exact ⟨i,j,x,y,lt_of (by omega),hi,hj,.inl h⟩
    ·have hl : 0 < s.length := by have := (List.getElem?_eq_some_iff.1 hi).1; omega
     have h0 : s[0]? = some s[0] := List.getElem?_eq_getElem hl
     have h1 := le_of (Nat.zero_le _) h0 hi
     have h2 := hmin s[0] (hp.mem_iff.1 (List.mem_of_getElem? h0))
     have e0 : s[0] = x := by omega
     rw [e0] at h0
     refine ⟨0,j,x,y,?_,h0,hj,.inr ⟨rfl,h⟩⟩
     rcases Nat.eq_zero_or_pos j with hz | hz
     ·subst hz
      rw [h0] at hj
      cases hj
      exact absurd rfl e
     ·exact hz
  ·exact ⟨i,j,x,y,lt_of hlt,hi,hj,.inl h⟩
theorem wr_tmod {a b : Int} (h0 : 0 ≤ a ∧ a ≤ 200) (h1 : 0 ≤ b ∧ b ≤ 200) : ((b.tmod 12 - a.tmod 12).tmod 12 + 12).tmod 12 = cls a b := by
 unfold cls
 rw [Int.tmod_eq_emod_of_nonneg h0.1,Int.tmod_eq_emod_of_nonneg h1.1]
 have hb : 0 ≤ b % 12 ∧ b % 12 < 12 := ⟨by omega,by omega⟩
 have ha : 0 ≤ a % 12 ∧ a % 12 < 12 := ⟨by omega,by omega⟩
 have key : (b % 12 - a % 12).tmod 12 = b % 12 - a % 12 := by
  rcases Int.lt_or_le (b % 12 - a % 12) 0 with h | h
  ·have e : b % 12 - a % 12 = -(a % 12 - b % 12) := by omega
   rw [e,Int.neg_tmod,Int.tmod_eq_of_lt (by omega) (by omega)]
  ·exact Int.tmod_eq_of_lt h (by omega)
 rw [key,Int.tmod_eq_emod_of_nonneg (by omega)]
 omega
end Go.Am
