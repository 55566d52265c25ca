/-
 Known calls as contracts of the interpreter; loops carried out in pieces.
 Own work. No Go text.
-/
import Derived.Test.YtodkhgjhodmeoaaGreatAm31
set_option linter.all false
namespace Go.Am
open Go.RowKit
mutual
def fz1 (id : Nat) (elems : List AV) : AV → AV
 | .ms i st n => bif Nat.beq i id && Nat.ble (Nat.add st n) elems.length then .sl false ((elems.drop st).take n) else .ms i st n
 | .agg l => .agg (fzL id elems l)
 | .tup l => .tup (fzL id elems l)
 | v => v
def fzL (id : Nat) (elems : List AV) : List AV → List AV
 | [] => []
 | x :: r => fz1 id elems x :: fzL id elems r
end
mutual
theorem fz1_ok (id : Nat) (elems : List AV) : ∀ v,Fz id elems (fz1 id elems v) v
 | .ms i st n => by
  simp only [fz1]
  cases hb : (Nat.beq i id && Nat.ble (Nat.add st n) elems.length) with
  | false => exact .r _
  | true =>
   simp only [Bool.and_eq_true] at hb
   have e : i = id := Nat.eq_of_beq_eq_true hb.1
   subst e
   exact .m (Nat.le_of_ble_eq_true hb.2) rfl
 | .agg l => by simp only [fz1]; exact .a (fzL_ok id elems l)
 | .tup l => by simp only [fz1]; exact .t (fzL_ok id elems l)
 | .bool _ => .r _
 | .int _ _ => .r _
 | .str _ => .r _
 | .nilp => .r _
 | .nilf => .r _
 | .sl _ _ => .r _
 | .ip _ => .r _
 | .mp _ _ _ => .r _
 | .mc _ _ _ _ => .r _
 | .fn _ _ => .r _
 | .yld _ => .r _
 | .any => .r _
theorem fzL_ok (id : Nat) (elems : List AV) : ∀ l,FzL id elems (fzL id elems l) l
 | [] => .z
 | x :: r => by simp only [fzL]; exact .k (fz1_ok id elems x) (fzL_ok id elems r)
end
def sl : Code → Code
 | .seq a _ => a
 | c => c
def lp : Code → Code
 | .loop c => c
 | c => c
section
variable {P : Program} {N base fuel : Nat} {ρ : Option Nat} {call : Inv}
end
end Go.Am
