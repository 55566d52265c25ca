/- What is laid in package variables and stays there: nothing, here. -/
import Derived.Laws.Cells
set_option linter.all false
namespace Go.Am
def JY(ig:Nat->Nat->Option Value):Prop:=True
theorem JY.mono{i j:Nat->Nat->Option Value}(h: ∀b o v,i b o=some v->j b o=some v):JY i->JY j:=λh=>h
end Go.Am
