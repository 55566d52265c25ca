/-
  Functions of the program as Lean functions, and the walks. Written by a program of ours.
-/
import Derived.Test.YtplpfocfcppajaaGreatV6
namespace Go.Proofs.YtplpfocfcppajaaGreat
open Go Go.Am
set_option maxRecDepth 100000
set_option linter.all false
noncomputable def c33 (k : Nat) : Code := nthC (subs (Tryz.f33.body.getD .skip)) k

/-- theorbo.theorbolaw08.SameTones -/
def f33 (a0 : List GTone) (a1 : List GTone) : Option Bool := bif (decide ((a0.length : Int) ≠ (a1.length : Int))) then (some false) else ((loopN (σ := Int) (τ := (Unit ⊕ Bool)) (fun (l1_5 : Int) => bif (decide (l1_5 < (a0.length : Int))) then ((ix a0 l1_5).bind fun y3 => (ix a1 l1_5).bind fun y4 => bif (!(eq_GTone y3 y4)) then (some (.inr (.inr false))) else (some (.inl (wr (l1_5 + 1))))) else (some (.inr (.inl ())))) FUEL 0).bind (Sum.elim (fun (_ : Unit) => some true) some))
theorem f33_ok (a0 : List GTone) (a1 : List GTone) (r : Bool) (h : f33 a0 a1 = some r) : APure Tryz.prog 33 [.sl false (a0.map E_GTone), .sl false (a1.map E_GTone)] (.bool r) := by
  refine apure (clK (cleanMap a0 _ cl_GTone) (clK (cleanMap a1 _ cl_GTone) clZ)) rfl ?_
  refine run_f 26 [.tmp 4] (c33 0) (zipE [0, 1] [.sl false (a0.map E_GTone), .sl false (a1.map E_GTone)]) (by kernel_rfl) (by kernel_rfl) (by kernel_rfl) rfl ?_
  unfold f33 at h
  refine run1 (c33 2) [] [0, 1] [] (zipE [0, 1] [.sl false (a0.map E_GTone), .sl false (a1.map E_GTone)]) ⟨[], 0⟩ _ (by kernel_rfl) cj0 ?_
  refine run_s (c33 3) (c33 10) (by kernel_rfl) ?_
  refine run1 (c33 5) [{}, { k := 1, n := a0.length }, {}, { k := 1, n := a1.length }] [0, 1, 10] [] (zipE [0, 1, 10] [.sl false (a0.map E_GTone), .sl false (a1.map E_GTone), .bool (decide ((a0.length : Int) ≠ (a1.length : Int)))]) ⟨[], 0⟩ _ (by kernel_rfl) (cjC (mapLen a0 E_GTone) (cj1 (mapLen a1 E_GTone))) ?_
  rcases iteE h with ⟨hc1, h⟩ | ⟨hc1, h⟩
  · refine run_cT 10 (c33 6) (c33 9) (decide ((a0.length : Int) ≠ (a1.length : Int))) hc1 (by kernel_rfl) (by kernel_rfl) ?_
    refine run1 (c33 8) [] [4] [] (zipE [4] [.bool false]) ⟨[], 0⟩ _ (by kernel_rfl) cj0 ?_
    refine run_t (by kernel_rfl) ?_
    refine thenR ?_
    replace h := Option.some.inj h; subst h
    exact fin_r (by kernel_rfl) rfl
  · refine run_cF 10 (c33 6) (c33 9) (decide ((a0.length : Int) ≠ (a1.length : Int))) hc1 (by kernel_rfl) (by kernel_rfl) ?_
    refine run_k (by kernel_rfl) ?_
    refine thenN ?_
    refine run_s (c33 11) (c33 31) (by kernel_rfl) ?_
    refine run1 (c33 13) [] [0, 1, 5] [] (zipE [0, 1, 5] [.sl false (a0.map E_GTone), .sl false (a1.map E_GTone), .i 0]) ⟨[], 0⟩ _ (by kernel_rfl) cj0 ?_
    obtain ⟨ol1x, hll1x, h⟩ := bindE h
    refine run_tq (fun (_ : Unit) => (zipE [] [])) (fun (_ : Unit) => ⟨[], 0⟩) (fun j => ol1x = .inl j) (fun kl1 => ?_) ?_
    · refine run_b 0 (c33 14) (by kernel_rfl) ?_
      refine run_l (c33 15) _ hll1x (fun (l1_5 : Int) => (zipE [0, 1, 5] [.sl false (a0.map E_GTone), .sl false (a1.map E_GTone), .i l1_5])) (fun (l1_5 : Int) => ⟨[], 0⟩) [] (by intro i e; cases e <;> exact Nat.le_of_ble_eq_true rfl) (by kernel_rfl) (mkInto (ks := [0, 1, 5]) (ys := [.sl false (a0.map E_GTone), .sl false (a1.map E_GTone), .i 0]) (by kernel_rfl) (by kernel_rfl) (.k (.c (cleanMap _ _ cl_GTone)) (.k (.c (cleanMap _ _ cl_GTone)) (.k (.c rfl) .z))) .z) ?_
      rintro l1_5 out hl1 rl1
      refine run_s (c33 16) (c33 21) (by kernel_rfl) ?_
      refine run1 (c33 18) [{}, {}, { k := 1, n := a0.length }] [0, 1, 5, 14] [] (zipE [0, 1, 5, 14] [.sl false (a0.map E_GTone), .sl false (a1.map E_GTone), .i l1_5, .bool (decide (l1_5 < (a0.length : Int)))]) ⟨[], 0⟩ _ (by kernel_rfl) (cj1 (mapLen a0 E_GTone)) ?_
      rcases iteE hl1 with ⟨hc2, hl1⟩ | ⟨hc2, hl1⟩
      · refine run_cT 14 (c33 19) (c33 20) (decide (l1_5 < (a0.length : Int))) hc2 (by kernel_rfl) (by kernel_rfl) ?_
        refine run_k (by kernel_rfl) ?_
        refine thenN ?_
        refine run_s (c33 22) (c33 30) (by kernel_rfl) ?_
        refine run_b 1 (c33 23) (by kernel_rfl) ?_
        obtain ⟨y3, hy3, hl1⟩ := bindE hl1
        obtain ⟨y4, hy4, hl1⟩ := bindE hl1
        refine yun1 (c33 25) [[], [], [0, 1], [0, 1, 2], [], [], [4, 5], [4, 5, 6], [0, 1, 2, 3, 4, 5, 6, 7]] [.light 0 false, .light 1 false, .light 2 false, .light 3 false, .light 4 false, .light 5 false, .light 6 false, .light 7 false, .light 8 false] [{}, {}, { k := 1, x := E_GTone y3 }, {}, {}, {}, { k := 1, x := E_GTone y4 }] [0, 1, 5, 25] [] (zipE [0, 1, 5, 25] [.sl false (a0.map E_GTone), .sl false (a1.map E_GTone), .i l1_5, .bool (!(eq_GTone y3 y4))]) ⟨[], 0⟩ _ (by kernel_rfl) (cjC ((ixE hy3).1) (cjC (mapGet E_GTone (ixE hy3).2) (cjC ((ixE hy4).1) (cj1 (mapGet E_GTone (ixE hy4).2))))) ?_
        rcases iteE hl1 with ⟨hc5, hl1⟩ | ⟨hc5, hl1⟩
        · refine run_cT 25 (c33 26) (c33 29) (!(eq_GTone y3 y4)) hc5 (by kernel_rfl) (by kernel_rfl) ?_
          refine run1 (c33 28) [] [4] [] (zipE [4] [.bool false]) ⟨[], 0⟩ _ (by kernel_rfl) cj0 ?_
          replace hl1 := Option.some.inj hl1; subst hl1
          have hr := rl1 _ rfl
          subst hr
          replace h := elimR h
          refine run_t (by kernel_rfl) ?_
          refine inbR ?_
          refine thenR ?_
          refine ⟨⟨_, rfl⟩, ?_⟩
          refine inbR ?_
          refine thenR ?_
          replace h := Option.some.inj h; subst h
          exact fin_r (by kernel_rfl) rfl
        · refine run_cF 25 (c33 26) (c33 29) (!(eq_GTone y3 y4)) hc5 (by kernel_rfl) (by kernel_rfl) ?_
          refine run_k (by kernel_rfl) ?_
          refine inbN ?_
          refine thenN ?_
          refine run0 [] [0, 1, 5] [] (zipE [0, 1, 5] [.sl false (a0.map E_GTone), .sl false (a1.map E_GTone), .i (wr (l1_5 + 1))]) ⟨[], 0⟩ _ (by kernel_rfl) cj0 ?_
          replace hl1 := Option.some.inj hl1; subst hl1
          exact ⟨_, rfl, pi [], mkInto (ks := [0, 1, 5]) (ys := [.sl false (a0.map E_GTone), .sl false (a1.map E_GTone), .i (wr (l1_5 + 1))]) (by kernel_rfl) (by kernel_rfl) (.k (.c (cleanMap _ _ cl_GTone)) (.k (.c (cleanMap _ _ cl_GTone)) (.k (.c rfl) .z))) .z⟩
      · refine run_cF 14 (c33 19) (c33 20) (decide (l1_5 < (a0.length : Int))) hc2 (by kernel_rfl) (by kernel_rfl) ?_
        replace hl1 := Option.some.inj hl1; subst hl1
        have hr := rl1 _ rfl
        subst hr
        refine awp_p [] [] (zipE [] []) ⟨[], 0⟩ (by kernel_rfl) (?_)
        refine run_e 0 (by kernel_rfl) ?_
        refine thenE ?_
        refine ⟨⟨_, rfl⟩, ?_⟩
        refine inbE ?_
        exact kl1 () rfl
    · rintro ⟨⟩ rfl
      replace h := elimL h
      refine thenN ?_
      refine run1 (c33 33) [] [4] [] (zipE [4] [.bool true]) ⟨[], 0⟩ _ (by kernel_rfl) cj0 ?_
      refine run_t (by kernel_rfl) ?_
      replace h := Option.some.inj h; subst h
      exact fin_r (by kernel_rfl) rfl

end Go.Proofs.YtplpfocfcppajaaGreat
