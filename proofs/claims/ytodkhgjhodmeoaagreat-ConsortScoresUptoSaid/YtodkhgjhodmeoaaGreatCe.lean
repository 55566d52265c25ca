/-
 Plain laws of ConsortChecks,part e: the fewest signs that add up to a duration: what they are.
 Own work. No Go text.
-/
import Derived.Test.YtodkhgjhodmeoaaGreatCd
import Derived.Test.YtodkhgjhodmeoaaGreatV4
set_option linter.all false
namespace Go.Proofs.YtodkhgjhodmeoaaGreat
open Go Go.Am
def signsL : List GSign := [⟨1,true,false⟩,⟨1,false,false⟩,⟨2,true,false⟩,⟨1,false,true⟩,⟨2,false,false⟩,⟨3,true,false⟩,⟨2,false,true⟩,⟨3,false,false⟩,⟨4,true,false⟩,⟨3,false,true⟩,⟨4,false,false⟩,⟨5,true,false⟩,⟨4,false,true⟩,⟨5,false,false⟩,⟨6,true,false⟩,⟨5,false,true⟩,⟨6,false,false⟩,⟨7,true,false⟩,⟨6,false,true⟩,⟨7,false,false⟩,⟨7,false,true⟩]
def tk (y : GSign) : Nat := (tickS y).toNat
def descB : List GSign → Bool
 | [] => true
 | x :: r => (r.all fun y => decide (tickS y ≤ tickS x)) && descB r
def atL (L : List Int) (i : Nat) : Int := (L[i]?).getD 0
def stepV (L : List Int) (n : Nat) (v : Int) (y : GSign) : Int :=
 if tk y ≤ n ∧ 0 ≤ atL L (n - tk y) ∧ (v < 0 ∨ atL L (n - tk y) + 1 < v) then atL L (n - tk y) + 1 else v
def nextV (L : List Int) : Int := signsL.foldl (stepV L L.length) (-1)
def Fl : Nat → List Int
 | 0 => [0]
 | n + 1 => Fl n ++ [nextV (Fl n)]
def V (n : Nat) : Int := atL (Fl n) n
def feas (n : Nat) (y : GSign) : Prop := tk y ≤ n ∧ 0 ≤ V (n - tk y)
structure Best (n : Nat) (ys : List GSign) (v : Int) : Prop where
 b : (v = -1 ∧ ∀ y ∈ ys,¬ feas n y) ∨ (1 ≤ v ∧ (∃ y ∈ ys,feas n y ∧ V (n - tk y) + 1 = v) ∧ ∀ y ∈ ys,feas n y → v ≤ V (n - tk y) + 1)
def pickB (n : Nat) (y : GSign) : Bool := decide (tk y ≤ n) && decide (V (n - tk y) = V n - 1)
def pick (n : Nat) : Option GSign := signsL.find? (pickB n)
end Go.Proofs.YtodkhgjhodmeoaaGreat
