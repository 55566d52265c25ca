/-
 The stable sort of cues,part one: insertion,exchange of ranges,rotation. Plain law.
 Own work. No Go text.
-/
import Derived.Test.YtjjendjmakhfaaaGreatTP
import Derived.Test.YtjjendjmakhfaaaGreatLq
set_option linter.all false
namespace Go.Proofs.YtjjendjmakhfaaaGreat
open Go Go.Am
theorem loop_mu {σ τ : Type} {body : σ → Option (σ ⊕ τ)} (Inv : σ → Prop) (μ : σ → Nat) (Post : τ → Prop)
  (hb : ∀ s,Inv s → (∃ s',body s = some (.inl s') ∧ Inv s' ∧ μ s' < μ s) ∨ ∃ r,body s = some (.inr r) ∧ Post r) :
  ∀ (n : Nat) (s : σ),Inv s → μ s < n → ∃ r,loopN body n s = some r ∧ Post r
 | 0,s,h,hm => by omega
 | n + 1,s,h,hm => by
  rcases hb s h with ⟨s',h1,h2,h3⟩ | ⟨r,h1,h2⟩
  ·obtain ⟨r,h4,h5⟩ := loop_mu Inv μ Post hb n s' h2 (by omega)
   exact ⟨r,by simp only [loopN,h1,h4],h5⟩
  ·exact ⟨r,by simp only [loopN,h1],h2⟩
theorem bind_ex {α β : Type} {x : Option α} {f : α → Option β} {P1 : α → Prop} {P : β → Prop} (h1 : ∃ r,x = some r ∧ P1 r) (h2 : ∀ r,P1 r → ∃ z,f r = some z ∧ P z) : ∃ z,x.bind f = some z ∧ P z := by
 obtain ⟨r,e,hr⟩ := h1
 subst e
 exact h2 r hr
theorem ixAt {α : Type} {l p q : List α} {x : α} {i : Int} (hl : l = p ++ x :: q) (hi : i = (p.length : Int)) : ix l i = some x := by
 subst hl; subst hi
 unfold ix
 rw [if_pos (by omega)]
 simp
theorem setAt {α : Type} {l p q : List α} {x y : α} {k : Nat} (hl : l = p ++ x :: q) (hk : k = p.length) : l.set k y = p ++ y :: q := by
 subst hl; subst hk
 simp
end Go.Proofs.YtjjendjmakhfaaaGreat
