/-
 A table of rows that grow one after another: its cells.
 Own work. No Go text.
-/
import Derived.Test.YtodkhgjhodmeoaaGreatAm31
set_option linter.all false
namespace Go.Am
open Go.RowKit
theorem cleanRep (n : Nat) : cleanL (List.replicate n (AV.sl true [])) = true := by
 induction n with
 | zero => rfl
 | succ n ih => rw [List.replicate_succ]; exact clK rfl ih
theorem rowsNext {a n : Nat} (h : a < n) : List.replicate (n - a) (AV.sl true []) = AV.sl true [] :: List.replicate (n - a - 1) (AV.sl true []) := by
 obtain ⟨m,hm⟩ : ∃ m,n - a = m + 1 := ⟨n - a - 1,by omega⟩
 rw [hm]; rfl
section
variable {α : Type} (q : List α)
theorem rowsNn : (0 : Int) ≤ (q.length : Int) := by omega
theorem rowsLt {q : List α} {m : Nat} (h : q.length < m) : (q.length : Int) < (((m : Int).toNat : Nat) : Int) := by omega
theorem rowsGet {e : α → AV} (x : AV) (R : List AV) : (q.map e ++ x :: R)[(q.length : Int).toNat]? = some x := by
 have : (q.length : Int).toNat = (q.map e).length := by simp
 rw [this,List.getElem?_append_right (Nat.le_refl _)]; simp
theorem rowsSet {e : α → AV} (x y : AV) (R : List AV) : (q.map e ++ x :: R).set (q.length : Int).toNat y = q.map e ++ y :: R := by
 have : (q.length : Int).toNat = (q.map e).length := by simp
 rw [this,List.set_append_right _ _ (Nat.le_refl _),Nat.sub_self]; rfl
theorem rowsWr (q : List α) (w : α) {m : Nat} (h : q.length < m) (hm : (m : Int) ≤ (maxElems : Int)) : wr ((q.length : Int) + 1) = ((q ++ [w]).length : Int) := by
 have h2 : (maxElems : Int) ≤ 9223372036854775807 := by decide
 have : ((q ++ [w]).length : Int) = (q.length : Int) + 1 := by simp
 rw [this]
 exact w64 (by omega) (by omega)
theorem rowsSnoc (q : List (List Int)) (w : List Int) (n : Nat) (y : AV) : q.map (SL AV.i) ++ AV.sl false (w.map AV.i) :: List.replicate (n - q.length - 1) y = (q ++ [w]).map (SL AV.i) ++ List.replicate (n - (q ++ [w]).length) y := by
 have : n - (q ++ [w]).length = n - q.length - 1 := by simp; omega
 rw [this]
 simp [SL]
end
theorem fzRows {id : Nat} {el : List AV} : ∀ (a r : List AV) {x y : AV},Fz id el x y → FzL id el (a ++ x :: r) (a ++ y :: r)
 | [],r,_,_,h => .k h (.r r)
 | b :: a,r,_,_,h => .k (.r b) (fzRows a r h)
end Go.Am
