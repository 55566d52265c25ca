/-
  Functions of the program as Lean functions, and the walks. Written by a program of ours.
-/
import Derived.Test.YtplpfocfcppajaaGreatV6
import Derived.Test.YtplpfocfcppajaaGreatV7
namespace Go.Proofs.YtplpfocfcppajaaGreat
open Go Go.Am
set_option maxRecDepth 100000
set_option linter.all false
/-- theorbo.intabulate.picked$1 -/
def f99 (a0 : Int) (a1 : List GFigure) : Option Bool := (f48 a0 0 (a1.length : Int)).bind fun r1 => some (!r1)
theorem f99_ok (a0 : Int) (a1 : List GFigure) (r : Bool) (h : f99 a0 a1 = some r) : ACalls Tryz.prog 99 [.i a0, .mp 0 0 0] ⟨[(0, .cells 1 [.sl false (a1.map E_GFigure)])], 1⟩ (fun y t => y = .bool r ∧ t = ⟨[(0, .cells 1 [.sl false (a1.map E_GFigure)])], 1⟩) := by
  refine run_f 9 [.tmp 3] (c99 0) (zipE [0, 1] [.i a0, .mp 0 0 0]) (by kernel_rfl) (by kernel_rfl) (by kernel_rfl) rfl ?_
  unfold f99 at h
  refine run1 (c99 2) [] [0, 1] [0] (zipE [0, 1] [.i a0, .mp 0 0 0]) ⟨[(0, .cells 1 [.sl false (a1.map E_GFigure)])], 1⟩ _ (by kernel_rfl) cj0 ?_
  obtain ⟨r1, hr1, h⟩ := bindE h
  refine run1 (c99 4) [{}, {}, { k := 1, n := a1.length }, { c := some (.bool r1, ⟨[(0, .cells 1 [.sl false (a1.map E_GFigure)])], 1⟩) }] [3] [0] (zipE [3] [.bool (!r1)]) ⟨[(0, .cells 1 [.sl false (a1.map E_GFigure)])], 1⟩ _ (by kernel_rfl) (cjC (mapLen a1 E_GFigure) (cj1 (f48_ok a0 0 (a1.length : Int) _ hr1 ⟨[(0, .cells 1 [.sl false (a1.map E_GFigure)])], 1⟩))) ?_
  refine run_t (by kernel_rfl) ?_
  replace h := Option.some.inj h; subst h
  exact fin_p [0] ⟨[(0, .cells 1 [.sl false (a1.map E_GFigure)])], 1⟩ (by kernel_rfl) (by kernel_rfl) rfl ⟨rfl, rfl⟩

/-- slices.IndexFunc[[]int,int] -/
def f124_1 (a0 : List Int) (a1_0 : List GFigure) : Option Int := (loopN (σ := Int) (τ := (Unit ⊕ Int)) (fun (l1_8 : Int) => bif (decide (l1_8 < (a0.length : Int))) then ((ix a0 l1_8).bind fun y2 => (f99 y2 a1_0).bind fun r3 => bif r3 then (some (.inr (.inr l1_8))) else (some (.inl (wr (l1_8 + 1))))) else (some (.inr (.inl ())))) FUEL 0).bind (Sum.elim (fun (_ : Unit) => some (-1)) some)
theorem f124_1_ok (a0 : List Int) (a1_0 : List GFigure) (r : Int) (h : f124_1 a0 a1_0 = some r) : ACalls Tryz.prog 124 [.sl false (a0.map AV.i), .fn 99 [.mp 0 0 0]] ⟨[(0, .cells 1 [.sl false (a1_0.map E_GFigure)])], 1⟩ (fun y t => y = .i r ∧ t = ⟨[(0, .cells 1 [.sl false (a1_0.map E_GFigure)])], 1⟩) := by
  refine run_f 19 [.tmp 4] (c124 0) (zipE [0, 1] [.sl false (a0.map AV.i), .fn 99 [.mp 0 0 0]]) (by kernel_rfl) (by kernel_rfl) (by kernel_rfl) rfl ?_
  unfold f124_1 at h
  refine run1 (c124 2) [] [0, 1] [0] (zipE [0, 1] [.sl false (a0.map AV.i), .fn 99 [.mp 0 0 0]]) ⟨[(0, .cells 1 [.sl false (a1_0.map E_GFigure)])], 1⟩ _ (by kernel_rfl) cj0 ?_
  refine run_s (c124 3) (c124 25) (by kernel_rfl) ?_
  refine run1 (c124 5) [{}, { k := 1, n := a0.length }] [0, 1, 7, 8] [0] (zipE [0, 1, 7, 8] [.sl false (a0.map AV.i), .fn 99 [.mp 0 0 0], .i (a0.length : Int), .i 0]) ⟨[(0, .cells 1 [.sl false (a1_0.map E_GFigure)])], 1⟩ _ (by kernel_rfl) (cj1 (mapLen a0 AV.i)) ?_
  obtain ⟨ol1x, hll1x, h⟩ := bindE h
  refine run_tq (fun (_ : Unit) => (zipE [] [])) (fun (_ : Unit) => ⟨[(0, .cells 1 [.sl false (a1_0.map E_GFigure)])], 1⟩) (fun j => ol1x = .inl j) (fun kl1 => ?_) ?_
  · refine run_b 0 (c124 6) (by kernel_rfl) ?_
    refine run_l (c124 7) _ hll1x (fun (l1_8 : Int) => (zipE [0, 1, 7, 8] [.sl false (a0.map AV.i), .fn 99 [.mp 0 0 0], .i (a0.length : Int), .i l1_8])) (fun (l1_8 : Int) => ⟨[(0, .cells 1 [.sl false (a1_0.map E_GFigure)])], 1⟩) [] (by intro i e; cases e <;> exact Nat.le_of_ble_eq_true rfl) (by kernel_rfl) (mkInto (ks := [0, 1, 7, 8]) (ys := [.sl false (a0.map AV.i), .fn 99 [.mp 0 0 0], .i (a0.length : Int), .i 0]) (by kernel_rfl) (by kernel_rfl) (.k (.c (cleanMap _ _ cl_i)) (.k (.f (.k (.mp rfl rfl) .z)) (.k (.c rfl) (.k (.c rfl) .z)))) (.k (x' := .cells 1 [.sl false (a1_0.map E_GFigure)]) (by kernel_rfl) (.cells (.k (.c (cleanMap _ _ cl_GFigure)) .z)) .z)) ?_
    rintro l1_8 out hl1 rl1
    refine run1 (c124 9) [] [0, 1, 7, 8, 9] [0] (zipE [0, 1, 7, 8, 9] [.sl false (a0.map AV.i), .fn 99 [.mp 0 0 0], .i (a0.length : Int), .i l1_8, .bool (decide (l1_8 < (a0.length : Int)))]) ⟨[(0, .cells 1 [.sl false (a1_0.map E_GFigure)])], 1⟩ _ (by kernel_rfl) cj0 ?_
    refine run_s (c124 10) (c124 13) (by kernel_rfl) ?_
    rcases iteE hl1 with ⟨hc1, hl1⟩ | ⟨hc1, hl1⟩
    · refine run_cT 9 (c124 11) (c124 12) (decide (l1_8 < (a0.length : Int))) hc1 (by kernel_rfl) (by kernel_rfl) ?_
      refine run_k (by kernel_rfl) ?_
      refine thenN ?_
      refine run_s (c124 14) (c124 24) (by kernel_rfl) ?_
      refine run_b 1 (c124 15) (by kernel_rfl) ?_
      refine run1 (c124 17) [] [0, 1, 5, 7, 8] [0] (zipE [0, 1, 5, 7, 8] [.sl false (a0.map AV.i), .fn 99 [.mp 0 0 0], .i l1_8, .i (a0.length : Int), .i l1_8]) ⟨[(0, .cells 1 [.sl false (a1_0.map E_GFigure)])], 1⟩ _ (by kernel_rfl) cj0 ?_
      obtain ⟨y2, hy2, hl1⟩ := bindE hl1
      obtain ⟨r3, hr3, hl1⟩ := bindE hl1
      refine run1 (c124 19) [{}, {}, {}, { k := 1, x := AV.i y2 }, {}, { c := some (.bool r3, ⟨[(0, .cells 1 [.sl false (a1_0.map E_GFigure)])], 1⟩) }] [0, 1, 5, 7, 8, 16] [0] (zipE [0, 1, 5, 7, 8, 16] [.sl false (a0.map AV.i), .fn 99 [.mp 0 0 0], .i l1_8, .i (a0.length : Int), .i l1_8, .bool r3]) ⟨[(0, .cells 1 [.sl false (a1_0.map E_GFigure)])], 1⟩ _ (by kernel_rfl) (cjC ((ixE hy2).1) (cjC (mapGet AV.i (ixE hy2).2) (cj1 (callF (f99_ok y2 a1_0 _ hr3) [(0, 0)] [(0, 0)] [] [.i y2, .mp 0 0 0] ⟨[(0, .cells 1 [.sl false (a1_0.map E_GFigure)])], 1⟩ (.bool r3) ⟨[(0, .cells 1 [.sl false (a1_0.map E_GFigure)])], 1⟩ (by kernel_rfl) (.k (.c rfl) (.k (.mp rfl rfl) .z)) (.c rfl) (.k (x' := .cells 1 [.sl false (a1_0.map E_GFigure)]) (by kernel_rfl) (.cells (.k (.c (cleanMap _ _ cl_GFigure)) .z)) .z) (.d (x' := .cells 1 [.sl false (a1_0.map E_GFigure)]) rfl (by kernel_rfl) (.cells (.k (.c (cleanMap _ _ cl_GFigure)) .z)) .z))))) ?_
      rcases iteE hl1 with ⟨hc4, hl1⟩ | ⟨hc4, hl1⟩
      · refine run_cT 16 (c124 20) (c124 23) r3 hc4 (by kernel_rfl) (by kernel_rfl) ?_
        refine run1 (c124 22) [] [4] [0] (zipE [4] [.i l1_8]) ⟨[(0, .cells 1 [.sl false (a1_0.map E_GFigure)])], 1⟩ _ (by kernel_rfl) cj0 ?_
        replace hl1 := Option.some.inj hl1; subst hl1
        have hr := rl1 _ rfl
        subst hr
        replace h := elimR h
        refine run_t (by kernel_rfl) ?_
        refine inbR ?_
        refine thenR ?_
        refine ⟨⟨_, rfl⟩, ?_⟩
        refine inbR ?_
        refine thenR ?_
        replace h := Option.some.inj h; subst h
        exact fin_p [0] ⟨[(0, .cells 1 [.sl false (a1_0.map E_GFigure)])], 1⟩ (by kernel_rfl) (by kernel_rfl) rfl ⟨rfl, rfl⟩
      · refine run_cF 16 (c124 20) (c124 23) r3 hc4 (by kernel_rfl) (by kernel_rfl) ?_
        refine run_k (by kernel_rfl) ?_
        refine inbN ?_
        refine thenN ?_
        refine run0 [] [0, 1, 7, 8] [0] (zipE [0, 1, 7, 8] [.sl false (a0.map AV.i), .fn 99 [.mp 0 0 0], .i (a0.length : Int), .i (wr (l1_8 + 1))]) ⟨[(0, .cells 1 [.sl false (a1_0.map E_GFigure)])], 1⟩ _ (by kernel_rfl) cj0 ?_
        replace hl1 := Option.some.inj hl1; subst hl1
        exact ⟨_, rfl, pi [], mkInto (ks := [0, 1, 7, 8]) (ys := [.sl false (a0.map AV.i), .fn 99 [.mp 0 0 0], .i (a0.length : Int), .i (wr (l1_8 + 1))]) (by kernel_rfl) (by kernel_rfl) (.k (.c (cleanMap _ _ cl_i)) (.k (.f (.k (.mp rfl rfl) .z)) (.k (.c rfl) (.k (.c rfl) .z)))) (.k (x' := .cells 1 [.sl false (a1_0.map E_GFigure)]) (by kernel_rfl) (.cells (.k (.c (cleanMap _ _ cl_GFigure)) .z)) .z)⟩
    · refine run_cF 9 (c124 11) (c124 12) (decide (l1_8 < (a0.length : Int))) hc1 (by kernel_rfl) (by kernel_rfl) ?_
      replace hl1 := Option.some.inj hl1; subst hl1
      have hr := rl1 _ rfl
      subst hr
      refine awp_p [] [0] (zipE [] []) ⟨[(0, .cells 1 [.sl false (a1_0.map E_GFigure)])], 1⟩ (by kernel_rfl) (?_)
      refine run_e 0 (by kernel_rfl) ?_
      refine thenE ?_
      refine ⟨⟨_, rfl⟩, ?_⟩
      refine inbE ?_
      exact kl1 () rfl
  · rintro ⟨⟩ rfl
    replace h := elimL h
    refine thenN ?_
    refine run1 (c124 27) [] [4] [0] (zipE [4] [.i (-1)]) ⟨[(0, .cells 1 [.sl false (a1_0.map E_GFigure)])], 1⟩ _ (by kernel_rfl) cj0 ?_
    refine run_t (by kernel_rfl) ?_
    replace h := Option.some.inj h; subst h
    exact fin_p [0] ⟨[(0, .cells 1 [.sl false (a1_0.map E_GFigure)])], 1⟩ (by kernel_rfl) (by kernel_rfl) rfl ⟨rfl, rfl⟩

/-- slices.ContainsFunc[[]int,int] -/
def f96_1 (a0 : List Int) (a1_0 : List GFigure) : Option Bool := (f124_1 a0 a1_0).bind fun r1 => some (decide (0 ≤ r1))
theorem f96_1_ok (a0 : List Int) (a1_0 : List GFigure) (r : Bool) (h : f96_1 a0 a1_0 = some r) : ACalls Tryz.prog 96 [.sl false (a0.map AV.i), .fn 99 [.mp 0 0 0]] ⟨[(0, .cells 1 [.sl false (a1_0.map E_GFigure)])], 1⟩ (fun y t => y = .bool r ∧ t = ⟨[(0, .cells 1 [.sl false (a1_0.map E_GFigure)])], 1⟩) := by
  refine run_f 9 [.tmp 4] (c96 0) (zipE [0, 1] [.sl false (a0.map AV.i), .fn 99 [.mp 0 0 0]]) (by kernel_rfl) (by kernel_rfl) (by kernel_rfl) rfl ?_
  unfold f96_1 at h
  refine run1 (c96 2) [] [0, 1] [0] (zipE [0, 1] [.sl false (a0.map AV.i), .fn 99 [.mp 0 0 0]]) ⟨[(0, .cells 1 [.sl false (a1_0.map E_GFigure)])], 1⟩ _ (by kernel_rfl) cj0 ?_
  obtain ⟨r1, hr1, h⟩ := bindE h
  refine run1 (c96 4) [{}, {}, { c := some (.i r1, ⟨[(0, .cells 1 [.sl false (a1_0.map E_GFigure)])], 1⟩) }] [4] [0] (zipE [4] [.bool (decide (0 ≤ r1))]) ⟨[(0, .cells 1 [.sl false (a1_0.map E_GFigure)])], 1⟩ _ (by kernel_rfl) (cj1 (callF (f124_1_ok a0 a1_0 _ hr1) [(0, 0)] [(0, 0)] [] [.sl false (a0.map AV.i), .fn 99 [.mp 0 0 0]] ⟨[(0, .cells 1 [.sl false (a1_0.map E_GFigure)])], 1⟩ (.i r1) ⟨[(0, .cells 1 [.sl false (a1_0.map E_GFigure)])], 1⟩ (by kernel_rfl) (.k (.c (cleanMap _ _ cl_i)) (.k (.f (.k (.mp rfl rfl) .z)) .z)) (.c rfl) (.k (x' := .cells 1 [.sl false (a1_0.map E_GFigure)]) (by kernel_rfl) (.cells (.k (.c (cleanMap _ _ cl_GFigure)) .z)) .z) (.d (x' := .cells 1 [.sl false (a1_0.map E_GFigure)]) rfl (by kernel_rfl) (.cells (.k (.c (cleanMap _ _ cl_GFigure)) .z)) .z))) ?_
  refine run_t (by kernel_rfl) ?_
  replace h := Option.some.inj h; subst h
  exact fin_p [0] ⟨[(0, .cells 1 [.sl false (a1_0.map E_GFigure)])], 1⟩ (by kernel_rfl) (by kernel_rfl) rfl ⟨rfl, rfl⟩

/-- theorbo.intabulate.picked -/
def f67 (a0 : List GFigure) (a1 : List Int) : Option Bool := (f96_1 a1 a0).bind fun r1 => some (!r1)
theorem f67_ok (a0 : List GFigure) (a1 : List Int) (r : Bool) (h : f67 a0 a1 = some r) : APure Tryz.prog 67 [.sl false (a0.map E_GFigure), .sl false (a1.map AV.i)] (.bool r) := by
  refine apure (clK (cleanMap a0 _ cl_GFigure) (clK (cleanMap a1 _ cl_i) clZ)) rfl ?_
  refine run_f 9 [.tmp 4] (c67 0) (zipE [0, 1] [.sl false (a0.map E_GFigure), .sl false (a1.map AV.i)]) (by kernel_rfl) (by kernel_rfl) (by kernel_rfl) rfl ?_
  unfold f67 at h
  refine run1 (c67 2) [] [1, 2] [0] (zipE [1, 2] [.sl false (a1.map AV.i), .mp 0 0 0]) ⟨[(0, .cells 1 [.sl false (a0.map E_GFigure)])], 1⟩ _ (by kernel_rfl) cj0 ?_
  obtain ⟨r1, hr1, h⟩ := bindE h
  refine run1 (c67 4) [{}, {}, { c := some (.bool r1, ⟨[(0, .cells 1 [.sl false (a0.map E_GFigure)])], 1⟩) }] [4] [] (zipE [4] [.bool (!r1)]) ⟨[], 1⟩ _ (by kernel_rfl) (cj1 (callF (f96_1_ok a1 a0 _ hr1) [(0, 0)] [(0, 0)] [] [.sl false (a1.map AV.i), .fn 99 [.mp 0 0 0]] ⟨[(0, .cells 1 [.sl false (a0.map E_GFigure)])], 1⟩ (.bool r1) ⟨[(0, .cells 1 [.sl false (a0.map E_GFigure)])], 1⟩ (by kernel_rfl) (.k (.c (cleanMap _ _ cl_i)) (.k (.f (.k (.mp rfl rfl) .z)) .z)) (.c rfl) (.k (x' := .cells 1 [.sl false (a0.map E_GFigure)]) (by kernel_rfl) (.cells (.k (.c (cleanMap _ _ cl_GFigure)) .z)) .z) (.d (x' := .cells 1 [.sl false (a0.map E_GFigure)]) rfl (by kernel_rfl) (.cells (.k (.c (cleanMap _ _ cl_GFigure)) .z)) .z))) ?_
  refine run_t (by kernel_rfl) ?_
  replace h := Option.some.inj h; subst h
  exact fin_r (by kernel_rfl) rfl

/-- theorbo.intabulate.Divide -/
def f31 (a0 : List GTone) (a1 : List GFigure) (a2 : List Int) : Option (((List GTone)) × Int) := (f58 a0 a1).bind fun r1 => bif (decide (r1 ≠ 0)) then (some (([] : List GTone), r1)) else (((bif (decide ((a2.length : Int) ≠ (a0.length : Int))) then (some true) else ((f67 a1 a2).bind fun r4 => some (!r4))) : Option Bool).bind fun (j1_27 : Bool) => bif j1_27 then (some (([] : List GTone), 1)) else ((loopN (σ := (List GTone × Int)) (τ := ((List GTone) ⊕ (((List GTone)) × Int))) (fun ((l2_6, l2_30) : (List GTone × Int)) => bif (decide (l2_30 < (a2.length : Int))) then ((((ix a2 l2_30).bind fun y7 => bif (decide (y7 = 0)) then ((ix a0 l2_30).bind fun y9 => need (l2_6.length + 1 ≤ maxElems) <| some (.inl (l2_6 ++ [y9]))) else ((ix a1 (wr (y7 - 1))).bind fun y11 => (f59 a0 y11 l2_30).bind fun r12 => bif (!r12) then (some (.inr (.inr (.inr (([] : List GTone), 81))))) else ((((ix a0 l2_30).bind fun y14 => (f64 y14 y11).bind fun r15 => bif (decide (r15 = [])) then (some l2_6) else (need (l2_6.length + r15.length ≤ maxElems) <| some (l2_6 ++ r15))) : Option (List GTone)).bind fun (j4_6 : (List GTone)) => some (.inl j4_6)))) : Option ((List GTone) ⊕ ((List GTone × Int) ⊕ ((List GTone) ⊕ (((List GTone)) × Int))))).bind (Sum.elim (fun (j3_6 : (List GTone)) => some (.inl (j3_6, (wr (l2_30 + 1))))) some)) else (some (.inr (.inl l2_6)))) FUEL (([] : List GTone), 0)).bind (Sum.elim (fun (l2x_6 : (List GTone)) => bif (decide (400 < (l2x_6.length : Int))) then (some (([] : List GTone), 2)) else (some (l2x_6, 0))) some)))
theorem f31_ok (a0 : List GTone) (a1 : List GFigure) (a2 : List Int) (r : (((List GTone)) × Int)) (h : f31 a0 a1 a2 = some r) : APure Tryz.prog 31 [.sl false (a0.map E_GTone), .sl false (a1.map E_GFigure), .sl false (a2.map AV.i)] (.tup [.sl false (r.1.map E_GTone), .i r.2]) := by
  refine apure (clK (cleanMap a0 _ cl_GTone) (clK (cleanMap a1 _ cl_GFigure) (clK (cleanMap a2 _ cl_i) clZ))) (clK (cleanMap r.1 _ cl_GTone) (clK rfl clZ)) ?_
  refine run_f 72 [.tmp 6, .tmp 7] (c31 0) (zipE [0, 1, 2] [.sl false (a0.map E_GTone), .sl false (a1.map E_GFigure), .sl false (a2.map AV.i)]) (by kernel_rfl) (by kernel_rfl) (by kernel_rfl) rfl ?_
  unfold f31 at h
  refine run1 (c31 2) [] [0, 1, 2, 6] [] (zipE [0, 1, 2, 6] [.sl false (a0.map E_GTone), .sl false (a1.map E_GFigure), .sl false (a2.map AV.i), .sl true []]) ⟨[], 0⟩ _ (by kernel_rfl) cj0 ?_
  refine run_s (c31 3) (c31 12) (by kernel_rfl) ?_
  obtain ⟨r1, hr1, h⟩ := bindE h
  refine run1 (c31 5) [{}, {}, { c := some (.i r1, ⟨[], 0⟩) }] [0, 1, 2, 6, 8] [] (zipE [0, 1, 2, 6, 8] [.sl false (a0.map E_GTone), .sl false (a1.map E_GFigure), .sl false (a2.map AV.i), .sl true [], .i r1]) ⟨[], 0⟩ _ (by kernel_rfl) (cj1 (f58_ok a0 a1 _ hr1 ⟨[], 0⟩)) ?_
  refine run1 (c31 7) [] [0, 1, 2, 6, 8, 15] [] (zipE [0, 1, 2, 6, 8, 15] [.sl false (a0.map E_GTone), .sl false (a1.map E_GFigure), .sl false (a2.map AV.i), .sl true [], .i r1, .bool (decide (r1 ≠ 0))]) ⟨[], 0⟩ _ (by kernel_rfl) cj0 ?_
  rcases iteE h with ⟨hc2, h⟩ | ⟨hc2, h⟩
  · refine run_cT 15 (c31 8) (c31 11) (decide (r1 ≠ 0)) hc2 (by kernel_rfl) (by kernel_rfl) ?_
    refine run1 (c31 10) [] [6, 7] [] (zipE [6, 7] [.sl true [], .i r1]) ⟨[], 0⟩ _ (by kernel_rfl) cj0 ?_
    refine run_i 0 [] [6, 7] [.sl true [], .i r1] (xs := [.sl false (([] : List GTone).map E_GTone), .i r1]) (S2 := ⟨[], 0⟩) ?_ (by intro i e; cases e <;> exact Nat.le_of_ble_eq_true rfl) (by kernel_rfl) (by kernel_rfl) (by kernel_rfl) (.k (.s (cleanMap (([] : List GTone)) _ cl_GTone)) (.k (.c rfl) .z)) .z
    refine run_t (by kernel_rfl) ?_
    refine thenR ?_
    replace h := Option.some.inj h; subst h
    exact fin_r (by kernel_rfl) rfl
  · refine run_cF 15 (c31 8) (c31 11) (decide (r1 ≠ 0)) hc2 (by kernel_rfl) (by kernel_rfl) ?_
    refine run_k (by kernel_rfl) ?_
    refine thenN ?_
    refine run_s (c31 13) (c31 20) (by kernel_rfl) ?_
    obtain ⟨j1_27, hj1, h⟩ := bindE h
    refine run_gq (c31 15) (fun (j1_27 : Bool) => (zipE [0, 1, 2, 6, 27] [.sl false (a0.map E_GTone), .sl false (a1.map E_GFigure), .sl false (a2.map AV.i), .sl true [], .bool j1_27])) (fun (j1_27 : Bool) => ⟨[], 0⟩) (fun j => j1_27 = j) (fun kj1 => ?_) ?_
    · rcases iteE hj1 with ⟨hc3, hj1⟩ | ⟨hc3, hj1⟩
      · replace hj1 := Option.some.inj hj1; subst hj1
        exact run1 (c31 15) [{}, { k := 1, n := a2.length }, {}, { k := 1, n := a0.length }, {}, {}, { g := false }, { g := false }, { g := false }, { g := false }, { k := 1, b := true }] [0, 1, 2, 6, 27] [] (zipE [0, 1, 2, 6, 27] [.sl false (a0.map E_GTone), .sl false (a1.map E_GFigure), .sl false (a2.map AV.i), .sl true [], .bool true]) ⟨[], 0⟩ _ (by kernel_rfl) (cjC (mapLen a2 AV.i) (cjC (mapLen a0 E_GTone) (cjC (hc3) (cjC (hc3) (cjC (hc3) (cjC (hc3) (cj1 (hc3)))))))) (kj1 true rfl)
      · obtain ⟨r4, hr4, hj1⟩ := bindE hj1
        replace hj1 := Option.some.inj hj1; subst hj1
        exact run1 (c31 15) [{}, { k := 1, n := a2.length }, {}, { k := 1, n := a0.length }, {}, {}, {}, {}, { c := some (.bool r4, ⟨[], 0⟩) }, {}, { k := 1, b := false }] [0, 1, 2, 6, 27] [] (zipE [0, 1, 2, 6, 27] [.sl false (a0.map E_GTone), .sl false (a1.map E_GFigure), .sl false (a2.map AV.i), .sl true [], .bool (!r4)]) ⟨[], 0⟩ _ (by kernel_rfl) (cjC (mapLen a2 AV.i) (cjC (mapLen a0 E_GTone) (cjC (hc3) (cjC (hc3) (cjC (hc3) (cjC (f67_ok a1 a2 _ hr4 ⟨[], 0⟩) (cjC (hc3) (cj1 (hc3))))))))) (kj1 (!r4) rfl)
    · rintro _ rfl
      rcases iteE h with ⟨hc5, h⟩ | ⟨hc5, h⟩
      · refine run_cT 27 (c31 16) (c31 19) j1_27 hc5 (by kernel_rfl) (by kernel_rfl) ?_
        refine run1 (c31 18) [] [6, 7] [] (zipE [6, 7] [.sl true [], .i 1]) ⟨[], 0⟩ _ (by kernel_rfl) cj0 ?_
        refine run_i 0 [] [6, 7] [.sl true [], .i 1] (xs := [.sl false (([] : List GTone).map E_GTone), .i 1]) (S2 := ⟨[], 0⟩) ?_ (by intro i e; cases e <;> exact Nat.le_of_ble_eq_true rfl) (by kernel_rfl) (by kernel_rfl) (by kernel_rfl) (.k (.s (cleanMap (([] : List GTone)) _ cl_GTone)) (.k (.c rfl) .z)) .z
        refine run_t (by kernel_rfl) ?_
        refine thenR ?_
        replace h := Option.some.inj h; subst h
        exact fin_r (by kernel_rfl) rfl
      · refine run_cF 27 (c31 16) (c31 19) j1_27 hc5 (by kernel_rfl) (by kernel_rfl) ?_
        refine run_k (by kernel_rfl) ?_
        refine thenN ?_
        refine run_s (c31 21) (c31 48) (by kernel_rfl) ?_
        refine run1 (c31 23) [{}, { k := 1, n := a2.length }] [0, 1, 6, 28, 29, 30] [] (zipE [0, 1, 6, 28, 29, 30] [.sl false (a0.map E_GTone), .sl false (a1.map E_GFigure), .sl true [], .sl false (a2.map AV.i), .i (a2.length : Int), .i 0]) ⟨[], 0⟩ _ (by kernel_rfl) (cj1 (mapLen a2 AV.i)) ?_
        obtain ⟨ol2x, hll2x, h⟩ := bindE h
        refine run_tq (fun (l2x_6 : (List GTone)) => (zipE [6] [.ms 0 0 l2x_6.length])) (fun (l2x_6 : (List GTone)) => ⟨[(0, .cells 3 (l2x_6.map E_GTone))], 1⟩) (fun j => ol2x = .inl j) (fun kl2 => ?_) ?_
        · refine run_b 0 (c31 24) (by kernel_rfl) ?_
          refine run_l (c31 25) _ hll2x (fun ((l2_6, l2_30) : (List GTone × Int)) => (zipE [0, 1, 6, 28, 29, 30] [.sl false (a0.map E_GTone), .sl false (a1.map E_GFigure), .ms 0 0 l2_6.length, .sl false (a2.map AV.i), .i (a2.length : Int), .i l2_30])) (fun ((l2_6, l2_30) : (List GTone × Int)) => ⟨[(0, .cells 3 (l2_6.map E_GTone))], 1⟩) [(0, 1000000)] (by intro i e; cases e <;> exact Nat.le_of_ble_eq_true rfl) (by kernel_rfl) (mkInto (ks := [0, 1, 6, 28, 29, 30]) (ys := [.sl false (a0.map E_GTone), .sl false (a1.map E_GFigure), .sl true [], .sl false (a2.map AV.i), .i (a2.length : Int), .i 0]) (by kernel_rfl) (by kernel_rfl) (.k (.c (cleanMap _ _ cl_GTone)) (.k (.c (cleanMap _ _ cl_GFigure)) (.k (.n) (.k (.c (cleanMap _ _ cl_i)) (.k (.c rfl) (.k (.c rfl) .z)))))) (.n rfl rfl rfl .z)) ?_
          rintro ⟨l2_6, l2_30⟩ out hl2 rl2
          refine run1 (c31 27) [] [0, 1, 6, 28, 29, 30, 31] [0] (zipE [0, 1, 6, 28, 29, 30, 31] [.sl false (a0.map E_GTone), .sl false (a1.map E_GFigure), .ms 0 0 l2_6.length, .sl false (a2.map AV.i), .i (a2.length : Int), .i l2_30, .bool (decide (l2_30 < (a2.length : Int)))]) ⟨[(0, .cells 3 (l2_6.map E_GTone))], 1⟩ _ (by kernel_rfl) cj0 ?_
          refine run_s (c31 28) (c31 31) (by kernel_rfl) ?_
          rcases iteE hl2 with ⟨hc6, hl2⟩ | ⟨hc6, hl2⟩
          · refine run_cT 31 (c31 29) (c31 30) (decide (l2_30 < (a2.length : Int))) hc6 (by kernel_rfl) (by kernel_rfl) ?_
            refine run_k (by kernel_rfl) ?_
            refine thenN ?_
            obtain ⟨oj3, hj3, hl2⟩ := bindE hl2
            refine run_jq (c31 32) (c31 47) (fun (j3_6 : (List GTone)) => (zipE [0, 1, 6, 28, 29, 30] [.sl false (a0.map E_GTone), .sl false (a1.map E_GFigure), .ms 3 0 j3_6.length, .sl false (a2.map AV.i), .i (a2.length : Int), .i l2_30])) (fun (j3_6 : (List GTone)) => ⟨[(3, .cells 3 (j3_6.map E_GTone))], 4⟩) (fun j => oj3 = .inl j) (by kernel_rfl) (fun kj3 => ?_) ?_
            · refine run_b 1 (c31 33) (by kernel_rfl) ?_
              obtain ⟨y7, hy7, hj3⟩ := bindE hj3
              refine run1 (c31 35) [{}, { k := 1, x := AV.i y7 }] [0, 1, 6, 9, 10, 28, 29, 30] [0] (zipE [0, 1, 6, 9, 10, 28, 29, 30] [.sl false (a0.map E_GTone), .sl false (a1.map E_GFigure), .ms 0 0 l2_6.length, .i l2_30, .i y7, .sl false (a2.map AV.i), .i (a2.length : Int), .i l2_30]) ⟨[(0, .cells 3 (l2_6.map E_GTone))], 1⟩ _ (by kernel_rfl) (cjC ((ixE hy7).1) (cj1 (mapGet AV.i (ixE hy7).2))) ?_
              refine run_b 2 (c31 36) (by kernel_rfl) ?_
              refine run1 (c31 38) [] [0, 1, 6, 9, 10, 28, 29, 30, 47] [0] (zipE [0, 1, 6, 9, 10, 28, 29, 30, 47] [.sl false (a0.map E_GTone), .sl false (a1.map E_GFigure), .ms 0 0 l2_6.length, .i l2_30, .i y7, .sl false (a2.map AV.i), .i (a2.length : Int), .i l2_30, .bool (decide (y7 = 0))]) ⟨[(0, .cells 3 (l2_6.map E_GTone))], 1⟩ _ (by kernel_rfl) cj0 ?_
              rcases iteE hj3 with ⟨hc8, hj3⟩ | ⟨hc8, hj3⟩
              · refine run_cT 47 (c31 39) (c31 40) (decide (y7 = 0)) hc8 (by kernel_rfl) (by kernel_rfl) ?_
                obtain ⟨y9, hy9, hj3⟩ := bindE hj3
                obtain ⟨hn10, hj3⟩ := needE hj3
                refine run0 [{}, {}, {}, { k := 1, x := E_GTone y9 }, {}, {}, { k := 1, n := (l2_6 ++ [y9]).length, l := (l2_6 ++ [y9]).map E_GTone }] [0, 1, 6, 28, 29, 30] [1] (zipE [0, 1, 6, 28, 29, 30] [.sl false (a0.map E_GTone), .sl false (a1.map E_GFigure), .ms 1 0 (l2_6 ++ [y9]).length, .sl false (a2.map AV.i), .i (a2.length : Int), .i l2_30]) ⟨[(1, .cells 3 ((l2_6 ++ [y9]).map E_GTone))], 2⟩ _ (by kernel_rfl) (cjC ((ixE hy9).1) (cjC (mapGet E_GTone (ixE hy9).2) (cjC (@List.cons_ne_nil AV (E_GTone y9) []) (cjC (mLe l2_6 E_GTone) (cjC (hn10) (cjC (lenA l2_6 ([y9] : List GTone)) (cjC (appA l2_6 ([y9] : List GTone) E_GTone) (cj1 (fitsOne (P := Tryz.prog) (t := 53) (x := E_GTone y9) (r := []) (by kernel_rfl)))))))))) ?_
                replace hj3 := Option.some.inj hj3; subst hj3
                refine inbN ?_
                refine inbN ?_
                refine thenN ?_
                exact run_i 3 [(3, 1)] [0, 1, 6, 28, 29, 30] [.sl false (a0.map E_GTone), .sl false (a1.map E_GFigure), .ms 1 0 (l2_6 ++ [y9]).length, .sl false (a2.map AV.i), .i (a2.length : Int), .i l2_30] (kj3 (l2_6 ++ [y9]) rfl) (by intro i e; cases e <;> exact Nat.le_of_ble_eq_true rfl) (by kernel_rfl) (by kernel_rfl) (by kernel_rfl) (.k (.c (cleanMap _ _ cl_GTone)) (.k (.c (cleanMap _ _ cl_GFigure)) (.k (.ms rfl rfl) (.k (.c (cleanMap _ _ cl_i)) (.k (.c rfl) (.k (.c rfl) .z)))))) (.k (x' := .cells 3 ((l2_6 ++ [y9]).map E_GTone)) (by kernel_rfl) (.cells (.r (cleanMap _ _ cl_GTone))) .z)
              · refine run_cF 47 (c31 39) (c31 40) (decide (y7 = 0)) hc8 (by kernel_rfl) (by kernel_rfl) ?_
                obtain ⟨y11, hy11, hj3⟩ := bindE hj3
                obtain ⟨r12, hr12, hj3⟩ := bindE hj3
                refine run1 (c31 42) [{}, {}, {}, {}, { k := 1, x := E_GFigure y11 }, {}, {}, { c := some (.bool r12, ⟨[(0, .cells 3 (l2_6.map E_GTone))], 1⟩) }] [0, 1, 6, 9, 10, 28, 29, 30, 57] [0] (zipE [0, 1, 6, 9, 10, 28, 29, 30, 57] [.sl false (a0.map E_GTone), .sl false (a1.map E_GFigure), .ms 0 0 l2_6.length, .i l2_30, .i y7, .sl false (a2.map AV.i), .i (a2.length : Int), .i l2_30, .bool (!r12)]) ⟨[(0, .cells 3 (l2_6.map E_GTone))], 1⟩ _ (by kernel_rfl) (cjC ((ixE hy11).1) (cjC (mapGet E_GFigure (ixE hy11).2) (cj1 (f59_ok a0 y11 l2_30 _ hr12 ⟨[(0, .cells 3 (l2_6.map E_GTone))], 1⟩)))) ?_
                rcases iteE hj3 with ⟨hc13, hj3⟩ | ⟨hc13, hj3⟩
                · refine run_cT 57 (c31 43) (c31 46) (!r12) hc13 (by kernel_rfl) (by kernel_rfl) ?_
                  refine run1 (c31 45) [] [6, 7] [] (zipE [6, 7] [.sl true [], .i 81]) ⟨[], 1⟩ _ (by kernel_rfl) cj0 ?_
                  replace hj3 := Option.some.inj hj3; subst hj3
                  replace hl2 := elimR hl2
                  replace hl2 := Option.some.inj hl2; subst hl2
                  have hr := rl2 _ rfl
                  subst hr
                  replace h := elimR h
                  refine run_i 1 [] [6, 7] [.sl true [], .i 81] (xs := [.sl false (([] : List GTone).map E_GTone), .i 81]) (S2 := ⟨[], 1⟩) ?_ (by intro i e; cases e <;> exact Nat.le_of_ble_eq_true rfl) (by kernel_rfl) (by kernel_rfl) (by kernel_rfl) (.k (.s (cleanMap (([] : List GTone)) _ cl_GTone)) (.k (.c rfl) .z)) .z
                  refine run_t (by kernel_rfl) ?_
                  refine inbR ?_
                  refine inbR ?_
                  refine thenR ?_
                  refine ⟨⟨_, rfl⟩, ?_⟩
                  refine inbR ?_
                  refine thenR ?_
                  replace h := Option.some.inj h; subst h
                  exact fin_r (by kernel_rfl) rfl
                · refine run_cF 57 (c31 43) (c31 46) (!r12) hc13 (by kernel_rfl) (by kernel_rfl) ?_
                  obtain ⟨j4_6, hj4, hj3⟩ := bindE hj3
                  refine run_tq (fun (j4_6 : (List GTone)) => (zipE [0, 1, 6, 28, 29, 30] [.sl false (a0.map E_GTone), .sl false (a1.map E_GFigure), .ms 2 0 j4_6.length, .sl false (a2.map AV.i), .i (a2.length : Int), .i l2_30])) (fun (j4_6 : (List GTone)) => ⟨[(2, .cells 3 (j4_6.map E_GTone))], 3⟩) (fun j => j4_6 = j) (fun kj4 => ?_) ?_
                  · obtain ⟨y14, hy14, hj4⟩ := bindE hj4
                    obtain ⟨r15, hr15, hj4⟩ := bindE hj4
                    rcases iteE hj4 with ⟨hc16, hj4⟩ | ⟨hc16, hj4⟩
                    · replace hj4 := Option.some.inj hj4; subst hj4
                      refine awp_post (by intro i e; cases e <;> exact Nat.le_of_ble_eq_true rfl) ?_
                      exact yun0 [[], [], [], [1, 2], [1, 2, 3], [], [], [6], [5, 6, 7], [5, 6, 7, 8], [1, 2, 3, 4, 5, 6, 7, 8, 9], [0, 1, 2, 3, 4, 5, 6, 7, 8, 9, 10], [0, 1, 2, 3, 4, 5, 6, 7, 8, 9, 10, 11]] [.light 0 false, .light 1 false, .light 2 false, .light 3 false, .light 4 false, .light 5 false, .light 6 false, .light 7 false, .light 8 false, .light 9 false, .heavy 10 [], .heavy 11 [], .light 12 false] [{}, {}, {}, { k := 1, x := E_GTone y14 }, {}, {}, {}, {}, { k := 1, x := E_GFigure y11 }, {}, { c := some (.sl false (r15.map E_GTone), ⟨[(0, .cells 3 (l2_6.map E_GTone))], 1⟩) }, { k := 2 }] [0, 1, 6, 28, 29, 30] [0] (zipE [0, 1, 6, 28, 29, 30] [.sl false (a0.map E_GTone), .sl false (a1.map E_GFigure), .ms 0 0 l2_6.length, .sl false (a2.map AV.i), .i (a2.length : Int), .i l2_30]) ⟨[(0, .cells 3 (l2_6.map E_GTone))], 1⟩ _ (by kernel_rfl) (cjC ((ixE hy14).1) (cjC (mapGet E_GTone (ixE hy14).2) (cjC ((ixE hy11).1) (cjC (mapGet E_GFigure (ixE hy11).2) (cjC (f64_ok y14 y11 _ hr15 ⟨[(0, .cells 3 (l2_6.map E_GTone))], 1⟩) (cjC (mapNil E_GTone (of_decide_eq_true hc16)) (cj1 (fitsMap (P := Tryz.prog) (t := 53) (k := 3) r15 E_GTone (by kernel_rfl) sz_GTone)))))))) ⟨2, pi [(2, 0)], _, _, Nat.le_of_ble_eq_true rfl, mkInto (ks := [0, 1, 6, 28, 29, 30]) (ys := [.sl false (a0.map E_GTone), .sl false (a1.map E_GFigure), .ms 0 0 l2_6.length, .sl false (a2.map AV.i), .i (a2.length : Int), .i l2_30]) (by kernel_rfl) (by kernel_rfl) (.k (.c (cleanMap _ _ cl_GTone)) (.k (.c (cleanMap _ _ cl_GFigure)) (.k (.ms rfl rfl) (.k (.c (cleanMap _ _ cl_i)) (.k (.c rfl) (.k (.c rfl) .z)))))) (.k (x' := .cells 3 (l2_6.map E_GTone)) (by kernel_rfl) (.cells (.r (cleanMap _ _ cl_GTone))) .z), kj4 l2_6 rfl⟩
                    · obtain ⟨hn17, hj4⟩ := needE hj4
                      replace hj4 := Option.some.inj hj4; subst hj4
                      refine awp_post (by intro i e; cases e <;> exact Nat.le_of_ble_eq_true rfl) ?_
                      exact yun0 [[], [], [], [1, 2], [1, 2, 3], [], [], [6], [5, 6, 7], [5, 6, 7, 8], [1, 2, 3, 4, 5, 6, 7, 8, 9], [0, 1, 2, 3, 4, 5, 6, 7, 8, 9, 10], [0, 1, 2, 3, 4, 5, 6, 7, 8, 9, 10, 11]] [.light 0 false, .light 1 false, .light 2 false, .light 3 false, .light 4 false, .light 5 false, .light 6 false, .light 7 false, .light 8 false, .light 9 false, .heavy 10 [], .heavy 11 [], .light 12 false] [{}, {}, {}, { k := 1, x := E_GTone y14 }, {}, {}, {}, {}, { k := 1, x := E_GFigure y11 }, {}, { c := some (.sl false (r15.map E_GTone), ⟨[(0, .cells 3 (l2_6.map E_GTone))], 1⟩) }, { k := 1, n := (l2_6 ++ r15).length, l := (l2_6 ++ r15).map E_GTone }] [0, 1, 6, 28, 29, 30] [1] (zipE [0, 1, 6, 28, 29, 30] [.sl false (a0.map E_GTone), .sl false (a1.map E_GFigure), .ms 1 0 (l2_6 ++ r15).length, .sl false (a2.map AV.i), .i (a2.length : Int), .i l2_30]) ⟨[(1, .cells 3 ((l2_6 ++ r15).map E_GTone))], 2⟩ _ (by kernel_rfl) (cjC ((ixE hy14).1) (cjC (mapGet E_GTone (ixE hy14).2) (cjC ((ixE hy11).1) (cjC (mapGet E_GFigure (ixE hy11).2) (cjC (f64_ok y14 y11 _ hr15 ⟨[(0, .cells 3 (l2_6.map E_GTone))], 1⟩) (cjC (mapNe E_GTone (of_decide_eq_false hc16)) (cjC (mLe l2_6 E_GTone) (cjC (bnd1 E_GTone hn17) (cjC (len1 l2_6 r15 E_GTone) (cjC (app1 l2_6 r15 E_GTone) (cj1 (fitsMap (P := Tryz.prog) (t := 53) (k := 3) r15 E_GTone (by kernel_rfl) sz_GTone)))))))))))) ⟨2, pi [(2, 1)], _, _, Nat.le_of_ble_eq_true rfl, mkInto (ks := [0, 1, 6, 28, 29, 30]) (ys := [.sl false (a0.map E_GTone), .sl false (a1.map E_GFigure), .ms 1 0 (l2_6 ++ r15).length, .sl false (a2.map AV.i), .i (a2.length : Int), .i l2_30]) (by kernel_rfl) (by kernel_rfl) (.k (.c (cleanMap _ _ cl_GTone)) (.k (.c (cleanMap _ _ cl_GFigure)) (.k (.ms rfl rfl) (.k (.c (cleanMap _ _ cl_i)) (.k (.c rfl) (.k (.c rfl) .z)))))) (.k (x' := .cells 3 ((l2_6 ++ r15).map E_GTone)) (by kernel_rfl) (.cells (.r (cleanMap _ _ cl_GTone))) .z), kj4 (l2_6 ++ r15) rfl⟩
                  · rintro _ rfl
                    replace hj3 := Option.some.inj hj3; subst hj3
                    refine inbN ?_
                    refine inbN ?_
                    refine thenN ?_
                    exact run_i 3 [(3, 2)] [0, 1, 6, 28, 29, 30] [.sl false (a0.map E_GTone), .sl false (a1.map E_GFigure), .ms 2 0 j4_6.length, .sl false (a2.map AV.i), .i (a2.length : Int), .i l2_30] (kj3 j4_6 rfl) (by intro i e; cases e <;> exact Nat.le_of_ble_eq_true rfl) (by kernel_rfl) (by kernel_rfl) (by kernel_rfl) (.k (.c (cleanMap _ _ cl_GTone)) (.k (.c (cleanMap _ _ cl_GFigure)) (.k (.ms rfl rfl) (.k (.c (cleanMap _ _ cl_i)) (.k (.c rfl) (.k (.c rfl) .z)))))) (.k (x' := .cells 3 (j4_6.map E_GTone)) (by kernel_rfl) (.cells (.r (cleanMap _ _ cl_GTone))) .z)
            · rintro j3_6 rfl
              replace hl2 := elimL hl2
              refine run0 [] [0, 1, 6, 28, 29, 30] [3] (zipE [0, 1, 6, 28, 29, 30] [.sl false (a0.map E_GTone), .sl false (a1.map E_GFigure), .ms 3 0 j3_6.length, .sl false (a2.map AV.i), .i (a2.length : Int), .i (wr (l2_30 + 1))]) ⟨[(3, .cells 3 (j3_6.map E_GTone))], 4⟩ _ (by kernel_rfl) cj0 ?_
              replace hl2 := Option.some.inj hl2; subst hl2
              exact ⟨_, rfl, pi [(0, 3)], mkInto (ks := [0, 1, 6, 28, 29, 30]) (ys := [.sl false (a0.map E_GTone), .sl false (a1.map E_GFigure), .ms 3 0 j3_6.length, .sl false (a2.map AV.i), .i (a2.length : Int), .i (wr (l2_30 + 1))]) (by kernel_rfl) (by kernel_rfl) (.k (.c (cleanMap _ _ cl_GTone)) (.k (.c (cleanMap _ _ cl_GFigure)) (.k (.ms rfl rfl) (.k (.c (cleanMap _ _ cl_i)) (.k (.c rfl) (.k (.c rfl) .z)))))) (.k (x' := .cells 3 (j3_6.map E_GTone)) (by kernel_rfl) (.cells (.r (cleanMap _ _ cl_GTone))) .z)⟩
          · refine run_cF 31 (c31 29) (c31 30) (decide (l2_30 < (a2.length : Int))) hc6 (by kernel_rfl) (by kernel_rfl) ?_
            replace hl2 := Option.some.inj hl2; subst hl2
            have hr := rl2 _ rfl
            subst hr
            refine awp_p [6] [0] (zipE [6] [.ms 0 0 l2_6.length]) ⟨[(0, .cells 3 (l2_6.map E_GTone))], 1⟩ (by kernel_rfl) (?_)
            refine run_e 0 (by kernel_rfl) ?_
            refine thenE ?_
            refine ⟨⟨_, rfl⟩, ?_⟩
            refine inbE ?_
            exact kl2 l2_6 rfl
        · rintro l2x_6 rfl
          replace h := elimL h
          refine thenN ?_
          refine run_s (c31 49) (c31 56) (by kernel_rfl) ?_
          refine run1 (c31 51) [] [6, 70] [0] (zipE [6, 70] [.ms 0 0 l2x_6.length, .bool (decide (400 < (l2x_6.length : Int)))]) ⟨[(0, .cells 3 (l2x_6.map E_GTone))], 1⟩ _ (by kernel_rfl) cj0 ?_
          rcases iteE h with ⟨hc18, h⟩ | ⟨hc18, h⟩
          · refine run_cT 70 (c31 52) (c31 55) (decide (400 < (l2x_6.length : Int))) hc18 (by kernel_rfl) (by kernel_rfl) ?_
            refine run1 (c31 54) [] [6, 7] [] (zipE [6, 7] [.sl true [], .i 2]) ⟨[], 1⟩ _ (by kernel_rfl) cj0 ?_
            refine run_i 1 [] [6, 7] [.sl true [], .i 2] (xs := [.sl false (([] : List GTone).map E_GTone), .i 2]) (S2 := ⟨[], 1⟩) ?_ (by intro i e; cases e <;> exact Nat.le_of_ble_eq_true rfl) (by kernel_rfl) (by kernel_rfl) (by kernel_rfl) (.k (.s (cleanMap (([] : List GTone)) _ cl_GTone)) (.k (.c rfl) .z)) .z
            refine run_t (by kernel_rfl) ?_
            refine thenR ?_
            replace h := Option.some.inj h; subst h
            exact fin_r (by kernel_rfl) rfl
          · refine run_cF 70 (c31 52) (c31 55) (decide (400 < (l2x_6.length : Int))) hc18 (by kernel_rfl) (by kernel_rfl) ?_
            refine run_k (by kernel_rfl) ?_
            refine thenN ?_
            refine run1 (c31 58) [] [6, 7] [0] (zipE [6, 7] [.ms 0 0 l2x_6.length, .i 0]) ⟨[(0, .cells 3 (l2x_6.map E_GTone))], 1⟩ _ (by kernel_rfl) cj0 ?_
            refine run_z 0 3 (l2x_6.map E_GTone) [6, 7] [.ms 0 0 l2x_6.length, .i 0] (xs := [.sl false (l2x_6.map E_GTone), .i 0]) (S2 := ⟨[], 1⟩) ?_ (by kernel_rfl) (by kernel_rfl) (.k (.m (mLe l2x_6 E_GTone) (mapAll l2x_6 E_GTone)) (.k (.r _) .z)) .z rfl rfl
            refine run_t (by kernel_rfl) ?_
            replace h := Option.some.inj h; subst h
            exact fin_r (by kernel_rfl) rfl

/-- theorbo.theorboref08.Divide -/
def f32 (a0 : List GTone) (a1 : List GFigure) (a2 : List Int) : Option (((List GTone)) × Int) := (f60 a0 a1).bind fun r1 => bif (decide (r1 ≠ 0)) then (some (([] : List GTone), r1)) else (bif (decide ((a2.length : Int) ≠ (a0.length : Int))) then (some (([] : List GTone), 1)) else ((loopN (σ := Int) (τ := (Unit ⊕ (((List GTone)) × Int))) (fun (l1_9 : Int) => bif (decide (l1_9 < (a2.length : Int))) then ((((ix a2 l1_9).bind fun y5 => bif (decide (y5 < 0)) then (some true) else (some (decide ((a1.length : Int) < y5)))) : Option Bool).bind fun (j2_42 : Bool) => bif j2_42 then (some (.inr (.inr (([] : List GTone), 1)))) else (some (.inl (wr (l1_9 + 1))))) else (some (.inr (.inl ())))) FUEL 0).bind (Sum.elim (fun (_ : Unit) => (loopN (σ := (List GTone × Int)) (τ := ((List GTone) ⊕ (((List GTone)) × Int))) (fun ((l3_10, l3_11) : (List GTone × Int)) => bif (decide (l3_11 < (a0.length : Int))) then ((((ix a2 l3_11).bind fun y9 => bif (decide (y9 = 0)) then ((ix a0 l3_11).bind fun y11 => need (l3_10.length + 1 ≤ maxElems) <| some (.inl (l3_10 ++ [y11]))) else ((ix a1 (wr (y9 - 1))).bind fun y13 => (f61 a0 y13 l3_11).bind fun r14 => bif (!r14) then (some (.inr (.inr (.inr (([] : List GTone), 81))))) else ((((ix a0 l3_11).bind fun y16 => (f66 y16 y13).bind fun r17 => bif (decide (r17 = [])) then (some l3_10) else (need (l3_10.length + r17.length ≤ maxElems) <| some (l3_10 ++ r17))) : Option (List GTone)).bind fun (j5_10 : (List GTone)) => some (.inl j5_10)))) : Option ((List GTone) ⊕ ((List GTone × Int) ⊕ ((List GTone) ⊕ (((List GTone)) × Int))))).bind (Sum.elim (fun (j4_10 : (List GTone)) => some (.inl (j4_10, (wr (l3_11 + 1))))) some)) else (some (.inr (.inl l3_10)))) FUEL (([] : List GTone), 0)).bind (Sum.elim (fun (l3x_10 : (List GTone)) => bif (decide (400 < (l3x_10.length : Int))) then (some (([] : List GTone), 2)) else (some (l3x_10, 0))) some)) some)))
theorem f32_ok (a0 : List GTone) (a1 : List GFigure) (a2 : List Int) (r : (((List GTone)) × Int)) (h : f32 a0 a1 a2 = some r) : APure Tryz.prog 32 [.sl false (a0.map E_GTone), .sl false (a1.map E_GFigure), .sl false (a2.map AV.i)] (.tup [.sl false (r.1.map E_GTone), .i r.2]) := by
  refine apure (clK (cleanMap a0 _ cl_GTone) (clK (cleanMap a1 _ cl_GFigure) (clK (cleanMap a2 _ cl_i) clZ))) (clK (cleanMap r.1 _ cl_GTone) (clK rfl clZ)) ?_
  refine run_f 92 [.tmp 6, .tmp 7] (c32 0) (zipE [0, 1, 2] [.sl false (a0.map E_GTone), .sl false (a1.map E_GFigure), .sl false (a2.map AV.i)]) (by kernel_rfl) (by kernel_rfl) (by kernel_rfl) rfl ?_
  unfold f32 at h
  refine run1 (c32 2) [] [0, 1, 2] [] (zipE [0, 1, 2] [.sl false (a0.map E_GTone), .sl false (a1.map E_GFigure), .sl false (a2.map AV.i)]) ⟨[], 0⟩ _ (by kernel_rfl) cj0 ?_
  refine run_s (c32 3) (c32 12) (by kernel_rfl) ?_
  obtain ⟨r1, hr1, h⟩ := bindE h
  refine run1 (c32 5) [{}, {}, { c := some (.i r1, ⟨[], 0⟩) }] [0, 1, 2, 8] [] (zipE [0, 1, 2, 8] [.sl false (a0.map E_GTone), .sl false (a1.map E_GFigure), .sl false (a2.map AV.i), .i r1]) ⟨[], 0⟩ _ (by kernel_rfl) (cj1 (f60_ok a0 a1 _ hr1 ⟨[], 0⟩)) ?_
  refine run1 (c32 7) [] [0, 1, 2, 8, 16] [] (zipE [0, 1, 2, 8, 16] [.sl false (a0.map E_GTone), .sl false (a1.map E_GFigure), .sl false (a2.map AV.i), .i r1, .bool (decide (r1 ≠ 0))]) ⟨[], 0⟩ _ (by kernel_rfl) cj0 ?_
  rcases iteE h with ⟨hc2, h⟩ | ⟨hc2, h⟩
  · refine run_cT 16 (c32 8) (c32 11) (decide (r1 ≠ 0)) hc2 (by kernel_rfl) (by kernel_rfl) ?_
    refine run1 (c32 10) [] [6, 7] [] (zipE [6, 7] [.sl true [], .i r1]) ⟨[], 0⟩ _ (by kernel_rfl) cj0 ?_
    refine run_i 0 [] [6, 7] [.sl true [], .i r1] (xs := [.sl false (([] : List GTone).map E_GTone), .i r1]) (S2 := ⟨[], 0⟩) ?_ (by intro i e; cases e <;> exact Nat.le_of_ble_eq_true rfl) (by kernel_rfl) (by kernel_rfl) (by kernel_rfl) (.k (.s (cleanMap (([] : List GTone)) _ cl_GTone)) (.k (.c rfl) .z)) .z
    refine run_t (by kernel_rfl) ?_
    refine thenR ?_
    replace h := Option.some.inj h; subst h
    exact fin_r (by kernel_rfl) rfl
  · refine run_cF 16 (c32 8) (c32 11) (decide (r1 ≠ 0)) hc2 (by kernel_rfl) (by kernel_rfl) ?_
    refine run_k (by kernel_rfl) ?_
    refine thenN ?_
    refine run_s (c32 13) (c32 20) (by kernel_rfl) ?_
    refine run1 (c32 15) [{}, { k := 1, n := a2.length }, {}, { k := 1, n := a0.length }] [0, 1, 2, 22] [] (zipE [0, 1, 2, 22] [.sl false (a0.map E_GTone), .sl false (a1.map E_GFigure), .sl false (a2.map AV.i), .bool (decide ((a2.length : Int) ≠ (a0.length : Int)))]) ⟨[], 0⟩ _ (by kernel_rfl) (cjC (mapLen a2 AV.i) (cj1 (mapLen a0 E_GTone))) ?_
    rcases iteE h with ⟨hc3, h⟩ | ⟨hc3, h⟩
    · refine run_cT 22 (c32 16) (c32 19) (decide ((a2.length : Int) ≠ (a0.length : Int))) hc3 (by kernel_rfl) (by kernel_rfl) ?_
      refine run1 (c32 18) [] [6, 7] [] (zipE [6, 7] [.sl true [], .i 1]) ⟨[], 0⟩ _ (by kernel_rfl) cj0 ?_
      refine run_i 0 [] [6, 7] [.sl true [], .i 1] (xs := [.sl false (([] : List GTone).map E_GTone), .i 1]) (S2 := ⟨[], 0⟩) ?_ (by intro i e; cases e <;> exact Nat.le_of_ble_eq_true rfl) (by kernel_rfl) (by kernel_rfl) (by kernel_rfl) (.k (.s (cleanMap (([] : List GTone)) _ cl_GTone)) (.k (.c rfl) .z)) .z
      refine run_t (by kernel_rfl) ?_
      refine thenR ?_
      replace h := Option.some.inj h; subst h
      exact fin_r (by kernel_rfl) rfl
    · refine run_cF 22 (c32 16) (c32 19) (decide ((a2.length : Int) ≠ (a0.length : Int))) hc3 (by kernel_rfl) (by kernel_rfl) ?_
      refine run_k (by kernel_rfl) ?_
      refine thenN ?_
      refine run_s (c32 21) (c32 41) (by kernel_rfl) ?_
      refine run1 (c32 23) [] [0, 1, 2, 9] [] (zipE [0, 1, 2, 9] [.sl false (a0.map E_GTone), .sl false (a1.map E_GFigure), .sl false (a2.map AV.i), .i 0]) ⟨[], 0⟩ _ (by kernel_rfl) cj0 ?_
      obtain ⟨ol1x, hll1x, h⟩ := bindE h
      refine run_tq (fun (_ : Unit) => (zipE [0, 1, 2] [.sl false (a0.map E_GTone), .sl false (a1.map E_GFigure), .sl false (a2.map AV.i)])) (fun (_ : Unit) => ⟨[], 0⟩) (fun j => ol1x = .inl j) (fun kl1 => ?_) ?_
      · refine run_b 0 (c32 24) (by kernel_rfl) ?_
        refine run_l (c32 25) _ hll1x (fun (l1_9 : Int) => (zipE [0, 1, 2, 9] [.sl false (a0.map E_GTone), .sl false (a1.map E_GFigure), .sl false (a2.map AV.i), .i l1_9])) (fun (l1_9 : Int) => ⟨[], 0⟩) [] (by intro i e; cases e <;> exact Nat.le_of_ble_eq_true rfl) (by kernel_rfl) (mkInto (ks := [0, 1, 2, 9]) (ys := [.sl false (a0.map E_GTone), .sl false (a1.map E_GFigure), .sl false (a2.map AV.i), .i 0]) (by kernel_rfl) (by kernel_rfl) (.k (.c (cleanMap _ _ cl_GTone)) (.k (.c (cleanMap _ _ cl_GFigure)) (.k (.c (cleanMap _ _ cl_i)) (.k (.c rfl) .z)))) .z) ?_
        rintro l1_9 out hl1 rl1
        refine run_s (c32 26) (c32 31) (by kernel_rfl) ?_
        refine run1 (c32 28) [{}, {}, { k := 1, n := a2.length }] [0, 1, 2, 9, 26] [] (zipE [0, 1, 2, 9, 26] [.sl false (a0.map E_GTone), .sl false (a1.map E_GFigure), .sl false (a2.map AV.i), .i l1_9, .bool (decide (l1_9 < (a2.length : Int)))]) ⟨[], 0⟩ _ (by kernel_rfl) (cj1 (mapLen a2 AV.i)) ?_
        rcases iteE hl1 with ⟨hc4, hl1⟩ | ⟨hc4, hl1⟩
        · refine run_cT 26 (c32 29) (c32 30) (decide (l1_9 < (a2.length : Int))) hc4 (by kernel_rfl) (by kernel_rfl) ?_
          refine run_k (by kernel_rfl) ?_
          refine thenN ?_
          refine run_s (c32 32) (c32 40) (by kernel_rfl) ?_
          refine run_b 1 (c32 33) (by kernel_rfl) ?_
          obtain ⟨j2_42, hj2, hl1⟩ := bindE hl1
          refine run_gq (c32 35) (fun (j2_42 : Bool) => (zipE [0, 1, 2, 9, 42] [.sl false (a0.map E_GTone), .sl false (a1.map E_GFigure), .sl false (a2.map AV.i), .i l1_9, .bool j2_42])) (fun (j2_42 : Bool) => ⟨[], 0⟩) (fun j => j2_42 = j) (fun kj2 => ?_) ?_
          · obtain ⟨y5, hy5, hj2⟩ := bindE hj2
            rcases iteE hj2 with ⟨hc6, hj2⟩ | ⟨hc6, hj2⟩
            · replace hj2 := Option.some.inj hj2; subst hj2
              exact run1 (c32 35) [{}, {}, { k := 1, x := AV.i y5 }, {}, {}, {}, { g := false }, { g := false }, { g := false }, { g := false }, { g := false }, { g := false }, { g := false }, { k := 1, b := true }] [0, 1, 2, 9, 42] [] (zipE [0, 1, 2, 9, 42] [.sl false (a0.map E_GTone), .sl false (a1.map E_GFigure), .sl false (a2.map AV.i), .i l1_9, .bool true]) ⟨[], 0⟩ _ (by kernel_rfl) (cjC ((ixE hy5).1) (cjC (mapGet AV.i (ixE hy5).2) (cjC (hc6) (cjC (hc6) (cjC (hc6) (cjC (hc6) (cjC (hc6) (cjC (hc6) (cjC (hc6) (cj1 (hc6))))))))))) (kj2 true rfl)
            · replace hj2 := Option.some.inj hj2; subst hj2
              exact run1 (c32 35) [{}, {}, { k := 1, x := AV.i y5 }, {}, {}, {}, {}, {}, { k := 1, x := AV.i y5 }, {}, {}, { k := 1, n := a1.length }, {}, { k := 1, b := false }] [0, 1, 2, 9, 42] [] (zipE [0, 1, 2, 9, 42] [.sl false (a0.map E_GTone), .sl false (a1.map E_GFigure), .sl false (a2.map AV.i), .i l1_9, .bool (decide ((a1.length : Int) < y5))]) ⟨[], 0⟩ _ (by kernel_rfl) (cjC ((ixE hy5).1) (cjC (mapGet AV.i (ixE hy5).2) (cjC (hc6) (cjC (hc6) (cjC (hc6) (cjC ((ixE hy5).1) (cjC (mapGet AV.i (ixE hy5).2) (cjC (hc6) (cjC (hc6) (cjC (hc6) (cjC (mapLen a1 E_GFigure) (cjC (hc6) (cj1 (hc6)))))))))))))) (kj2 (decide ((a1.length : Int) < y5)) rfl)
          · rintro _ rfl
            rcases iteE hl1 with ⟨hc7, hl1⟩ | ⟨hc7, hl1⟩
            · refine run_cT 42 (c32 36) (c32 39) j2_42 hc7 (by kernel_rfl) (by kernel_rfl) ?_
              refine run1 (c32 38) [] [6, 7] [] (zipE [6, 7] [.sl true [], .i 1]) ⟨[], 0⟩ _ (by kernel_rfl) cj0 ?_
              replace hl1 := Option.some.inj hl1; subst hl1
              have hr := rl1 _ rfl
              subst hr
              replace h := elimR h
              refine run_i 0 [] [6, 7] [.sl true [], .i 1] (xs := [.sl false (([] : List GTone).map E_GTone), .i 1]) (S2 := ⟨[], 0⟩) ?_ (by intro i e; cases e <;> exact Nat.le_of_ble_eq_true rfl) (by kernel_rfl) (by kernel_rfl) (by kernel_rfl) (.k (.s (cleanMap (([] : List GTone)) _ cl_GTone)) (.k (.c rfl) .z)) .z
              refine run_t (by kernel_rfl) ?_
              refine inbR ?_
              refine thenR ?_
              refine ⟨⟨_, rfl⟩, ?_⟩
              refine inbR ?_
              refine thenR ?_
              replace h := Option.some.inj h; subst h
              exact fin_r (by kernel_rfl) rfl
            · refine run_cF 42 (c32 36) (c32 39) j2_42 hc7 (by kernel_rfl) (by kernel_rfl) ?_
              refine run_k (by kernel_rfl) ?_
              refine inbN ?_
              refine thenN ?_
              refine run0 [] [0, 1, 2, 9] [] (zipE [0, 1, 2, 9] [.sl false (a0.map E_GTone), .sl false (a1.map E_GFigure), .sl false (a2.map AV.i), .i (wr (l1_9 + 1))]) ⟨[], 0⟩ _ (by kernel_rfl) cj0 ?_
              replace hl1 := Option.some.inj hl1; subst hl1
              exact ⟨_, rfl, pi [], mkInto (ks := [0, 1, 2, 9]) (ys := [.sl false (a0.map E_GTone), .sl false (a1.map E_GFigure), .sl false (a2.map AV.i), .i (wr (l1_9 + 1))]) (by kernel_rfl) (by kernel_rfl) (.k (.c (cleanMap _ _ cl_GTone)) (.k (.c (cleanMap _ _ cl_GFigure)) (.k (.c (cleanMap _ _ cl_i)) (.k (.c rfl) .z)))) .z⟩
        · refine run_cF 26 (c32 29) (c32 30) (decide (l1_9 < (a2.length : Int))) hc4 (by kernel_rfl) (by kernel_rfl) ?_
          replace hl1 := Option.some.inj hl1; subst hl1
          have hr := rl1 _ rfl
          subst hr
          refine awp_p [0, 1, 2] [] (zipE [0, 1, 2] [.sl false (a0.map E_GTone), .sl false (a1.map E_GFigure), .sl false (a2.map AV.i)]) ⟨[], 0⟩ (by kernel_rfl) (?_)
          refine run_e 0 (by kernel_rfl) ?_
          refine thenE ?_
          refine ⟨⟨_, rfl⟩, ?_⟩
          refine inbE ?_
          exact kl1 () rfl
      · rintro ⟨⟩ rfl
        replace h := elimL h
        refine thenN ?_
        refine run1 (c32 43) [] [0, 1, 2, 10] [] (zipE [0, 1, 2, 10] [.sl false (a0.map E_GTone), .sl false (a1.map E_GFigure), .sl false (a2.map AV.i), .sl true []]) ⟨[], 0⟩ _ (by kernel_rfl) cj0 ?_
        refine run_s (c32 44) (c32 74) (by kernel_rfl) ?_
        refine run1 (c32 46) [] [0, 1, 2, 10, 11] [] (zipE [0, 1, 2, 10, 11] [.sl false (a0.map E_GTone), .sl false (a1.map E_GFigure), .sl false (a2.map AV.i), .sl true [], .i 0]) ⟨[], 0⟩ _ (by kernel_rfl) cj0 ?_
        obtain ⟨ol3x, hll3x, h⟩ := bindE h
        refine run_tq (fun (l3x_10 : (List GTone)) => (zipE [10] [.ms 0 0 l3x_10.length])) (fun (l3x_10 : (List GTone)) => ⟨[(0, .cells 3 (l3x_10.map E_GTone))], 1⟩) (fun j => ol3x = .inl j) (fun kl3 => ?_) ?_
        · refine run_b 2 (c32 47) (by kernel_rfl) ?_
          refine run_l (c32 48) _ hll3x (fun ((l3_10, l3_11) : (List GTone × Int)) => (zipE [0, 1, 2, 10, 11] [.sl false (a0.map E_GTone), .sl false (a1.map E_GFigure), .sl false (a2.map AV.i), .ms 0 0 l3_10.length, .i l3_11])) (fun ((l3_10, l3_11) : (List GTone × Int)) => ⟨[(0, .cells 3 (l3_10.map E_GTone))], 1⟩) [(0, 1000000)] (by intro i e; cases e <;> exact Nat.le_of_ble_eq_true rfl) (by kernel_rfl) (mkInto (ks := [0, 1, 2, 10, 11]) (ys := [.sl false (a0.map E_GTone), .sl false (a1.map E_GFigure), .sl false (a2.map AV.i), .sl true [], .i 0]) (by kernel_rfl) (by kernel_rfl) (.k (.c (cleanMap _ _ cl_GTone)) (.k (.c (cleanMap _ _ cl_GFigure)) (.k (.c (cleanMap _ _ cl_i)) (.k (.n) (.k (.c rfl) .z))))) (.n rfl rfl rfl .z)) ?_
          rintro ⟨l3_10, l3_11⟩ out hl3 rl3
          refine run_s (c32 49) (c32 54) (by kernel_rfl) ?_
          refine run1 (c32 51) [{}, {}, { k := 1, n := a0.length }] [0, 1, 2, 10, 11, 46] [0] (zipE [0, 1, 2, 10, 11, 46] [.sl false (a0.map E_GTone), .sl false (a1.map E_GFigure), .sl false (a2.map AV.i), .ms 0 0 l3_10.length, .i l3_11, .bool (decide (l3_11 < (a0.length : Int)))]) ⟨[(0, .cells 3 (l3_10.map E_GTone))], 1⟩ _ (by kernel_rfl) (cj1 (mapLen a0 E_GTone)) ?_
          rcases iteE hl3 with ⟨hc8, hl3⟩ | ⟨hc8, hl3⟩
          · refine run_cT 46 (c32 52) (c32 53) (decide (l3_11 < (a0.length : Int))) hc8 (by kernel_rfl) (by kernel_rfl) ?_
            refine run_k (by kernel_rfl) ?_
            refine thenN ?_
            obtain ⟨oj4, hj4, hl3⟩ := bindE hl3
            refine run_jq (c32 55) (c32 73) (fun (j4_10 : (List GTone)) => (zipE [0, 1, 2, 10, 11] [.sl false (a0.map E_GTone), .sl false (a1.map E_GFigure), .sl false (a2.map AV.i), .ms 3 0 j4_10.length, .i l3_11])) (fun (j4_10 : (List GTone)) => ⟨[(3, .cells 3 (j4_10.map E_GTone))], 4⟩) (fun j => oj4 = .inl j) (by kernel_rfl) (fun kj4 => ?_) ?_
            · refine run_b 3 (c32 56) (by kernel_rfl) ?_
              refine run_s (c32 57) (c32 64) (by kernel_rfl) ?_
              obtain ⟨y9, hy9, hj4⟩ := bindE hj4
              refine run1 (c32 59) [{}, {}, { k := 1, x := AV.i y9 }] [0, 1, 2, 10, 11, 53] [0] (zipE [0, 1, 2, 10, 11, 53] [.sl false (a0.map E_GTone), .sl false (a1.map E_GFigure), .sl false (a2.map AV.i), .ms 0 0 l3_10.length, .i l3_11, .bool (decide (y9 = 0))]) ⟨[(0, .cells 3 (l3_10.map E_GTone))], 1⟩ _ (by kernel_rfl) (cjC ((ixE hy9).1) (cj1 (mapGet AV.i (ixE hy9).2))) ?_
              rcases iteE hj4 with ⟨hc10, hj4⟩ | ⟨hc10, hj4⟩
              · refine run_cT 53 (c32 60) (c32 63) (decide (y9 = 0)) hc10 (by kernel_rfl) (by kernel_rfl) ?_
                obtain ⟨y11, hy11, hj4⟩ := bindE hj4
                obtain ⟨hn12, hj4⟩ := needE hj4
                refine run1 (c32 62) [{}, {}, {}, { k := 1, x := E_GTone y11 }, {}, {}, { k := 1, n := (l3_10 ++ [y11]).length, l := (l3_10 ++ [y11]).map E_GTone }] [0, 1, 2, 10, 11] [1] (zipE [0, 1, 2, 10, 11] [.sl false (a0.map E_GTone), .sl false (a1.map E_GFigure), .sl false (a2.map AV.i), .ms 1 0 (l3_10 ++ [y11]).length, .i l3_11]) ⟨[(1, .cells 3 ((l3_10 ++ [y11]).map E_GTone))], 2⟩ _ (by kernel_rfl) (cjC ((ixE hy11).1) (cjC (mapGet E_GTone (ixE hy11).2) (cjC (@List.cons_ne_nil AV (E_GTone y11) []) (cjC (mLe l3_10 E_GTone) (cjC (hn12) (cjC (lenA l3_10 ([y11] : List GTone)) (cjC (appA l3_10 ([y11] : List GTone) E_GTone) (cj1 (fitsOne (P := Tryz.prog) (t := 53) (x := E_GTone y11) (r := []) (by kernel_rfl)))))))))) ?_
                replace hj4 := Option.some.inj hj4; subst hj4
                refine run_i 3 [(3, 1)] [0, 1, 2, 10, 11] [.sl false (a0.map E_GTone), .sl false (a1.map E_GFigure), .sl false (a2.map AV.i), .ms 1 0 (l3_10 ++ [y11]).length, .i l3_11] (xs := [.sl false (a0.map E_GTone), .sl false (a1.map E_GFigure), .sl false (a2.map AV.i), .ms 3 0 (l3_10 ++ [y11]).length, .i l3_11]) (S2 := ⟨[(3, .cells 3 ((l3_10 ++ [y11]).map E_GTone))], 4⟩) ?_ (by intro i e; cases e <;> exact Nat.le_of_ble_eq_true rfl) (by kernel_rfl) (by kernel_rfl) (by kernel_rfl) (.k (.c (cleanMap _ _ cl_GTone)) (.k (.c (cleanMap _ _ cl_GFigure)) (.k (.c (cleanMap _ _ cl_i)) (.k (.ms rfl rfl) (.k (.c rfl) .z))))) (.k (x' := .cells 3 ((l3_10 ++ [y11]).map E_GTone)) (by kernel_rfl) (.cells (.r (cleanMap _ _ cl_GTone))) .z)
                refine run_e 3 (by kernel_rfl) ?_
                refine thenE ?_
                refine inbE ?_
                refine thenN ?_
                exact kj4 (l3_10 ++ [y11]) rfl
              · refine run_cF 53 (c32 60) (c32 63) (decide (y9 = 0)) hc10 (by kernel_rfl) (by kernel_rfl) ?_
                refine run_k (by kernel_rfl) ?_
                refine thenN ?_
                refine run_s (c32 65) (c32 72) (by kernel_rfl) ?_
                obtain ⟨y13, hy13, hj4⟩ := bindE hj4
                obtain ⟨r14, hr14, hj4⟩ := bindE hj4
                refine run1 (c32 67) [{}, {}, {}, {}, { k := 1, x := AV.i y9 }, {}, {}, { k := 1, x := E_GFigure y13 }, {}, {}, { c := some (.bool r14, ⟨[(0, .cells 3 (l3_10.map E_GTone))], 1⟩) }] [0, 1, 2, 10, 11, 72] [0] (zipE [0, 1, 2, 10, 11, 72] [.sl false (a0.map E_GTone), .sl false (a1.map E_GFigure), .sl false (a2.map AV.i), .ms 0 0 l3_10.length, .i l3_11, .bool (!r14)]) ⟨[(0, .cells 3 (l3_10.map E_GTone))], 1⟩ _ (by kernel_rfl) (cjC ((ixE hy9).1) (cjC (mapGet AV.i (ixE hy9).2) (cjC ((ixE hy13).1) (cjC (mapGet E_GFigure (ixE hy13).2) (cj1 (f61_ok a0 y13 l3_11 _ hr14 ⟨[(0, .cells 3 (l3_10.map E_GTone))], 1⟩)))))) ?_
                rcases iteE hj4 with ⟨hc15, hj4⟩ | ⟨hc15, hj4⟩
                · refine run_cT 72 (c32 68) (c32 71) (!r14) hc15 (by kernel_rfl) (by kernel_rfl) ?_
                  refine run1 (c32 70) [] [6, 7] [] (zipE [6, 7] [.sl true [], .i 81]) ⟨[], 1⟩ _ (by kernel_rfl) cj0 ?_
                  replace hj4 := Option.some.inj hj4; subst hj4
                  replace hl3 := elimR hl3
                  replace hl3 := Option.some.inj hl3; subst hl3
                  have hr := rl3 _ rfl
                  subst hr
                  replace h := elimR h
                  refine run_i 1 [] [6, 7] [.sl true [], .i 81] (xs := [.sl false (([] : List GTone).map E_GTone), .i 81]) (S2 := ⟨[], 1⟩) ?_ (by intro i e; cases e <;> exact Nat.le_of_ble_eq_true rfl) (by kernel_rfl) (by kernel_rfl) (by kernel_rfl) (.k (.s (cleanMap (([] : List GTone)) _ cl_GTone)) (.k (.c rfl) .z)) .z
                  refine run_t (by kernel_rfl) ?_
                  refine thenR ?_
                  refine inbR ?_
                  refine thenR ?_
                  refine ⟨⟨_, rfl⟩, ?_⟩
                  refine inbR ?_
                  refine thenR ?_
                  replace h := Option.some.inj h; subst h
                  exact fin_r (by kernel_rfl) rfl
                · refine run_cF 72 (c32 68) (c32 71) (!r14) hc15 (by kernel_rfl) (by kernel_rfl) ?_
                  refine run_k (by kernel_rfl) ?_
                  refine thenN ?_
                  obtain ⟨j5_10, hj5, hj4⟩ := bindE hj4
                  refine run_tq (fun (j5_10 : (List GTone)) => (zipE [0, 1, 2, 10, 11] [.sl false (a0.map E_GTone), .sl false (a1.map E_GFigure), .sl false (a2.map AV.i), .ms 2 0 j5_10.length, .i l3_11])) (fun (j5_10 : (List GTone)) => ⟨[(2, .cells 3 (j5_10.map E_GTone))], 3⟩) (fun j => j5_10 = j) (fun kj5 => ?_) ?_
                  · obtain ⟨y16, hy16, hj5⟩ := bindE hj5
                    obtain ⟨r17, hr17, hj5⟩ := bindE hj5
                    rcases iteE hj5 with ⟨hc18, hj5⟩ | ⟨hc18, hj5⟩
                    · replace hj5 := Option.some.inj hj5; subst hj5
                      refine awp_post (by intro i e; cases e <;> exact Nat.le_of_ble_eq_true rfl) ?_
                      exact yun0 [[], [], [], [1, 2], [1, 2, 3], [], [], [], [6, 7], [6, 7, 8], [6, 7, 8, 9], [5, 6, 7, 8, 9, 10], [5, 6, 7, 8, 9, 10, 11], [1, 2, 3, 4, 5, 6, 7, 8, 9, 10, 11, 12], [0, 1, 2, 3, 4, 5, 6, 7, 8, 9, 10, 11, 12, 13], [0, 1, 2, 3, 4, 5, 6, 7, 8, 9, 10, 11, 12, 13, 14]] [.light 0 false, .light 1 false, .light 2 false, .light 3 false, .light 4 false, .light 5 false, .light 6 false, .light 7 false, .light 8 false, .light 9 false, .light 10 false, .light 11 false, .light 12 false, .heavy 13 [], .heavy 14 [], .light 15 false] [{}, {}, {}, { k := 1, x := E_GTone y16 }, {}, {}, {}, {}, { k := 1, x := AV.i y9 }, {}, {}, { k := 1, x := E_GFigure y13 }, {}, { c := some (.sl false (r17.map E_GTone), ⟨[(0, .cells 3 (l3_10.map E_GTone))], 1⟩) }, { k := 2 }] [0, 1, 2, 10, 11] [0] (zipE [0, 1, 2, 10, 11] [.sl false (a0.map E_GTone), .sl false (a1.map E_GFigure), .sl false (a2.map AV.i), .ms 0 0 l3_10.length, .i l3_11]) ⟨[(0, .cells 3 (l3_10.map E_GTone))], 1⟩ _ (by kernel_rfl) (cjC ((ixE hy16).1) (cjC (mapGet E_GTone (ixE hy16).2) (cjC ((ixE hy9).1) (cjC (mapGet AV.i (ixE hy9).2) (cjC ((ixE hy13).1) (cjC (mapGet E_GFigure (ixE hy13).2) (cjC (f66_ok y16 y13 _ hr17 ⟨[(0, .cells 3 (l3_10.map E_GTone))], 1⟩) (cjC (mapNil E_GTone (of_decide_eq_true hc18)) (cj1 (fitsMap (P := Tryz.prog) (t := 53) (k := 3) r17 E_GTone (by kernel_rfl) sz_GTone)))))))))) ⟨2, pi [(2, 0)], _, _, Nat.le_of_ble_eq_true rfl, mkInto (ks := [0, 1, 2, 10, 11]) (ys := [.sl false (a0.map E_GTone), .sl false (a1.map E_GFigure), .sl false (a2.map AV.i), .ms 0 0 l3_10.length, .i l3_11]) (by kernel_rfl) (by kernel_rfl) (.k (.c (cleanMap _ _ cl_GTone)) (.k (.c (cleanMap _ _ cl_GFigure)) (.k (.c (cleanMap _ _ cl_i)) (.k (.ms rfl rfl) (.k (.c rfl) .z))))) (.k (x' := .cells 3 (l3_10.map E_GTone)) (by kernel_rfl) (.cells (.r (cleanMap _ _ cl_GTone))) .z), kj5 l3_10 rfl⟩
                    · obtain ⟨hn19, hj5⟩ := needE hj5
                      replace hj5 := Option.some.inj hj5; subst hj5
                      refine awp_post (by intro i e; cases e <;> exact Nat.le_of_ble_eq_true rfl) ?_
                      exact yun0 [[], [], [], [1, 2], [1, 2, 3], [], [], [], [6, 7], [6, 7, 8], [6, 7, 8, 9], [5, 6, 7, 8, 9, 10], [5, 6, 7, 8, 9, 10, 11], [1, 2, 3, 4, 5, 6, 7, 8, 9, 10, 11, 12], [0, 1, 2, 3, 4, 5, 6, 7, 8, 9, 10, 11, 12, 13], [0, 1, 2, 3, 4, 5, 6, 7, 8, 9, 10, 11, 12, 13, 14]] [.light 0 false, .light 1 false, .light 2 false, .light 3 false, .light 4 false, .light 5 false, .light 6 false, .light 7 false, .light 8 false, .light 9 false, .light 10 false, .light 11 false, .light 12 false, .heavy 13 [], .heavy 14 [], .light 15 false] [{}, {}, {}, { k := 1, x := E_GTone y16 }, {}, {}, {}, {}, { k := 1, x := AV.i y9 }, {}, {}, { k := 1, x := E_GFigure y13 }, {}, { c := some (.sl false (r17.map E_GTone), ⟨[(0, .cells 3 (l3_10.map E_GTone))], 1⟩) }, { k := 1, n := (l3_10 ++ r17).length, l := (l3_10 ++ r17).map E_GTone }] [0, 1, 2, 10, 11] [1] (zipE [0, 1, 2, 10, 11] [.sl false (a0.map E_GTone), .sl false (a1.map E_GFigure), .sl false (a2.map AV.i), .ms 1 0 (l3_10 ++ r17).length, .i l3_11]) ⟨[(1, .cells 3 ((l3_10 ++ r17).map E_GTone))], 2⟩ _ (by kernel_rfl) (cjC ((ixE hy16).1) (cjC (mapGet E_GTone (ixE hy16).2) (cjC ((ixE hy9).1) (cjC (mapGet AV.i (ixE hy9).2) (cjC ((ixE hy13).1) (cjC (mapGet E_GFigure (ixE hy13).2) (cjC (f66_ok y16 y13 _ hr17 ⟨[(0, .cells 3 (l3_10.map E_GTone))], 1⟩) (cjC (mapNe E_GTone (of_decide_eq_false hc18)) (cjC (mLe l3_10 E_GTone) (cjC (bnd1 E_GTone hn19) (cjC (len1 l3_10 r17 E_GTone) (cjC (app1 l3_10 r17 E_GTone) (cj1 (fitsMap (P := Tryz.prog) (t := 53) (k := 3) r17 E_GTone (by kernel_rfl) sz_GTone)))))))))))))) ⟨2, pi [(2, 1)], _, _, Nat.le_of_ble_eq_true rfl, mkInto (ks := [0, 1, 2, 10, 11]) (ys := [.sl false (a0.map E_GTone), .sl false (a1.map E_GFigure), .sl false (a2.map AV.i), .ms 1 0 (l3_10 ++ r17).length, .i l3_11]) (by kernel_rfl) (by kernel_rfl) (.k (.c (cleanMap _ _ cl_GTone)) (.k (.c (cleanMap _ _ cl_GFigure)) (.k (.c (cleanMap _ _ cl_i)) (.k (.ms rfl rfl) (.k (.c rfl) .z))))) (.k (x' := .cells 3 ((l3_10 ++ r17).map E_GTone)) (by kernel_rfl) (.cells (.r (cleanMap _ _ cl_GTone))) .z), kj5 (l3_10 ++ r17) rfl⟩
                  · rintro _ rfl
                    replace hj4 := Option.some.inj hj4; subst hj4
                    refine inbN ?_
                    refine thenN ?_
                    exact run_i 3 [(3, 2)] [0, 1, 2, 10, 11] [.sl false (a0.map E_GTone), .sl false (a1.map E_GFigure), .sl false (a2.map AV.i), .ms 2 0 j5_10.length, .i l3_11] (kj4 j5_10 rfl) (by intro i e; cases e <;> exact Nat.le_of_ble_eq_true rfl) (by kernel_rfl) (by kernel_rfl) (by kernel_rfl) (.k (.c (cleanMap _ _ cl_GTone)) (.k (.c (cleanMap _ _ cl_GFigure)) (.k (.c (cleanMap _ _ cl_i)) (.k (.ms rfl rfl) (.k (.c rfl) .z))))) (.k (x' := .cells 3 (j5_10.map E_GTone)) (by kernel_rfl) (.cells (.r (cleanMap _ _ cl_GTone))) .z)
            · rintro j4_10 rfl
              replace hl3 := elimL hl3
              refine run0 [] [0, 1, 2, 10, 11] [3] (zipE [0, 1, 2, 10, 11] [.sl false (a0.map E_GTone), .sl false (a1.map E_GFigure), .sl false (a2.map AV.i), .ms 3 0 j4_10.length, .i (wr (l3_11 + 1))]) ⟨[(3, .cells 3 (j4_10.map E_GTone))], 4⟩ _ (by kernel_rfl) cj0 ?_
              replace hl3 := Option.some.inj hl3; subst hl3
              exact ⟨_, rfl, pi [(0, 3)], mkInto (ks := [0, 1, 2, 10, 11]) (ys := [.sl false (a0.map E_GTone), .sl false (a1.map E_GFigure), .sl false (a2.map AV.i), .ms 3 0 j4_10.length, .i (wr (l3_11 + 1))]) (by kernel_rfl) (by kernel_rfl) (.k (.c (cleanMap _ _ cl_GTone)) (.k (.c (cleanMap _ _ cl_GFigure)) (.k (.c (cleanMap _ _ cl_i)) (.k (.ms rfl rfl) (.k (.c rfl) .z))))) (.k (x' := .cells 3 (j4_10.map E_GTone)) (by kernel_rfl) (.cells (.r (cleanMap _ _ cl_GTone))) .z)⟩
          · refine run_cF 46 (c32 52) (c32 53) (decide (l3_11 < (a0.length : Int))) hc8 (by kernel_rfl) (by kernel_rfl) ?_
            replace hl3 := Option.some.inj hl3; subst hl3
            have hr := rl3 _ rfl
            subst hr
            refine awp_p [10] [0] (zipE [10] [.ms 0 0 l3_10.length]) ⟨[(0, .cells 3 (l3_10.map E_GTone))], 1⟩ (by kernel_rfl) (?_)
            refine run_e 2 (by kernel_rfl) ?_
            refine thenE ?_
            refine ⟨⟨_, rfl⟩, ?_⟩
            refine inbE ?_
            exact kl3 l3_10 rfl
        · rintro l3x_10 rfl
          replace h := elimL h
          refine thenN ?_
          refine run_s (c32 75) (c32 82) (by kernel_rfl) ?_
          refine run1 (c32 77) [] [10, 90] [0] (zipE [10, 90] [.ms 0 0 l3x_10.length, .bool (decide (400 < (l3x_10.length : Int)))]) ⟨[(0, .cells 3 (l3x_10.map E_GTone))], 1⟩ _ (by kernel_rfl) cj0 ?_
          rcases iteE h with ⟨hc20, h⟩ | ⟨hc20, h⟩
          · refine run_cT 90 (c32 78) (c32 81) (decide (400 < (l3x_10.length : Int))) hc20 (by kernel_rfl) (by kernel_rfl) ?_
            refine run1 (c32 80) [] [6, 7] [] (zipE [6, 7] [.sl true [], .i 2]) ⟨[], 1⟩ _ (by kernel_rfl) cj0 ?_
            refine run_i 1 [] [6, 7] [.sl true [], .i 2] (xs := [.sl false (([] : List GTone).map E_GTone), .i 2]) (S2 := ⟨[], 1⟩) ?_ (by intro i e; cases e <;> exact Nat.le_of_ble_eq_true rfl) (by kernel_rfl) (by kernel_rfl) (by kernel_rfl) (.k (.s (cleanMap (([] : List GTone)) _ cl_GTone)) (.k (.c rfl) .z)) .z
            refine run_t (by kernel_rfl) ?_
            refine thenR ?_
            replace h := Option.some.inj h; subst h
            exact fin_r (by kernel_rfl) rfl
          · refine run_cF 90 (c32 78) (c32 81) (decide (400 < (l3x_10.length : Int))) hc20 (by kernel_rfl) (by kernel_rfl) ?_
            refine run_k (by kernel_rfl) ?_
            refine thenN ?_
            refine run1 (c32 84) [] [6, 7] [0] (zipE [6, 7] [.ms 0 0 l3x_10.length, .i 0]) ⟨[(0, .cells 3 (l3x_10.map E_GTone))], 1⟩ _ (by kernel_rfl) cj0 ?_
            refine run_z 0 3 (l3x_10.map E_GTone) [6, 7] [.ms 0 0 l3x_10.length, .i 0] (xs := [.sl false (l3x_10.map E_GTone), .i 0]) (S2 := ⟨[], 1⟩) ?_ (by kernel_rfl) (by kernel_rfl) (.k (.m (mLe l3x_10 E_GTone) (mapAll l3x_10 E_GTone)) (.k (.r _) .z)) .z rfl rfl
            refine run_t (by kernel_rfl) ?_
            replace h := Option.some.inj h; subst h
            exact fin_r (by kernel_rfl) rfl

/-- theorbo.theorbolaw08.SameTones -/
def f33 (a0 : List GTone) (a1 : List GTone) : Option Bool := bif (decide ((a0.length : Int) ≠ (a1.length : Int))) then (some false) else ((loopN (σ := Int) (τ := (Unit ⊕ Bool)) (fun (l1_5 : Int) => bif (decide (l1_5 < (a0.length : Int))) then ((ix a0 l1_5).bind fun y3 => (ix a1 l1_5).bind fun y4 => bif (!(eq_GTone y3 y4)) then (some (.inr (.inr false))) else (some (.inl (wr (l1_5 + 1))))) else (some (.inr (.inl ())))) FUEL 0).bind (Sum.elim (fun (_ : Unit) => some true) some))
theorem f33_ok (a0 : List GTone) (a1 : List GTone) (r : Bool) (h : f33 a0 a1 = some r) : APure Tryz.prog 33 [.sl false (a0.map E_GTone), .sl false (a1.map E_GTone)] (.bool r) := by
  refine apure (clK (cleanMap a0 _ cl_GTone) (clK (cleanMap a1 _ cl_GTone) clZ)) rfl ?_
  refine run_f 26 [.tmp 4] (c33 0) (zipE [0, 1] [.sl false (a0.map E_GTone), .sl false (a1.map E_GTone)]) (by kernel_rfl) (by kernel_rfl) (by kernel_rfl) rfl ?_
  unfold f33 at h
  refine run1 (c33 2) [] [0, 1] [] (zipE [0, 1] [.sl false (a0.map E_GTone), .sl false (a1.map E_GTone)]) ⟨[], 0⟩ _ (by kernel_rfl) cj0 ?_
  refine run_s (c33 3) (c33 10) (by kernel_rfl) ?_
  refine run1 (c33 5) [{}, { k := 1, n := a0.length }, {}, { k := 1, n := a1.length }] [0, 1, 10] [] (zipE [0, 1, 10] [.sl false (a0.map E_GTone), .sl false (a1.map E_GTone), .bool (decide ((a0.length : Int) ≠ (a1.length : Int)))]) ⟨[], 0⟩ _ (by kernel_rfl) (cjC (mapLen a0 E_GTone) (cj1 (mapLen a1 E_GTone))) ?_
  rcases iteE h with ⟨hc1, h⟩ | ⟨hc1, h⟩
  · refine run_cT 10 (c33 6) (c33 9) (decide ((a0.length : Int) ≠ (a1.length : Int))) hc1 (by kernel_rfl) (by kernel_rfl) ?_
    refine run1 (c33 8) [] [4] [] (zipE [4] [.bool false]) ⟨[], 0⟩ _ (by kernel_rfl) cj0 ?_
    refine run_t (by kernel_rfl) ?_
    refine thenR ?_
    replace h := Option.some.inj h; subst h
    exact fin_r (by kernel_rfl) rfl
  · refine run_cF 10 (c33 6) (c33 9) (decide ((a0.length : Int) ≠ (a1.length : Int))) hc1 (by kernel_rfl) (by kernel_rfl) ?_
    refine run_k (by kernel_rfl) ?_
    refine thenN ?_
    refine run_s (c33 11) (c33 31) (by kernel_rfl) ?_
    refine run1 (c33 13) [] [0, 1, 5] [] (zipE [0, 1, 5] [.sl false (a0.map E_GTone), .sl false (a1.map E_GTone), .i 0]) ⟨[], 0⟩ _ (by kernel_rfl) cj0 ?_
    obtain ⟨ol1x, hll1x, h⟩ := bindE h
    refine run_tq (fun (_ : Unit) => (zipE [] [])) (fun (_ : Unit) => ⟨[], 0⟩) (fun j => ol1x = .inl j) (fun kl1 => ?_) ?_
    · refine run_b 0 (c33 14) (by kernel_rfl) ?_
      refine run_l (c33 15) _ hll1x (fun (l1_5 : Int) => (zipE [0, 1, 5] [.sl false (a0.map E_GTone), .sl false (a1.map E_GTone), .i l1_5])) (fun (l1_5 : Int) => ⟨[], 0⟩) [] (by intro i e; cases e <;> exact Nat.le_of_ble_eq_true rfl) (by kernel_rfl) (mkInto (ks := [0, 1, 5]) (ys := [.sl false (a0.map E_GTone), .sl false (a1.map E_GTone), .i 0]) (by kernel_rfl) (by kernel_rfl) (.k (.c (cleanMap _ _ cl_GTone)) (.k (.c (cleanMap _ _ cl_GTone)) (.k (.c rfl) .z))) .z) ?_
      rintro l1_5 out hl1 rl1
      refine run_s (c33 16) (c33 21) (by kernel_rfl) ?_
      refine run1 (c33 18) [{}, {}, { k := 1, n := a0.length }] [0, 1, 5, 14] [] (zipE [0, 1, 5, 14] [.sl false (a0.map E_GTone), .sl false (a1.map E_GTone), .i l1_5, .bool (decide (l1_5 < (a0.length : Int)))]) ⟨[], 0⟩ _ (by kernel_rfl) (cj1 (mapLen a0 E_GTone)) ?_
      rcases iteE hl1 with ⟨hc2, hl1⟩ | ⟨hc2, hl1⟩
      · refine run_cT 14 (c33 19) (c33 20) (decide (l1_5 < (a0.length : Int))) hc2 (by kernel_rfl) (by kernel_rfl) ?_
        refine run_k (by kernel_rfl) ?_
        refine thenN ?_
        refine run_s (c33 22) (c33 30) (by kernel_rfl) ?_
        refine run_b 1 (c33 23) (by kernel_rfl) ?_
        obtain ⟨y3, hy3, hl1⟩ := bindE hl1
        obtain ⟨y4, hy4, hl1⟩ := bindE hl1
        refine yun1 (c33 25) [[], [], [0, 1], [0, 1, 2], [], [], [4, 5], [4, 5, 6], [0, 1, 2, 3, 4, 5, 6, 7]] [.light 0 false, .light 1 false, .light 2 false, .light 3 false, .light 4 false, .light 5 false, .light 6 false, .light 7 false, .light 8 false] [{}, {}, { k := 1, x := E_GTone y3 }, {}, {}, {}, { k := 1, x := E_GTone y4 }] [0, 1, 5, 25] [] (zipE [0, 1, 5, 25] [.sl false (a0.map E_GTone), .sl false (a1.map E_GTone), .i l1_5, .bool (!(eq_GTone y3 y4))]) ⟨[], 0⟩ _ (by kernel_rfl) (cjC ((ixE hy3).1) (cjC (mapGet E_GTone (ixE hy3).2) (cjC ((ixE hy4).1) (cj1 (mapGet E_GTone (ixE hy4).2))))) ?_
        rcases iteE hl1 with ⟨hc5, hl1⟩ | ⟨hc5, hl1⟩
        · refine run_cT 25 (c33 26) (c33 29) (!(eq_GTone y3 y4)) hc5 (by kernel_rfl) (by kernel_rfl) ?_
          refine run1 (c33 28) [] [4] [] (zipE [4] [.bool false]) ⟨[], 0⟩ _ (by kernel_rfl) cj0 ?_
          replace hl1 := Option.some.inj hl1; subst hl1
          have hr := rl1 _ rfl
          subst hr
          replace h := elimR h
          refine run_t (by kernel_rfl) ?_
          refine inbR ?_
          refine thenR ?_
          refine ⟨⟨_, rfl⟩, ?_⟩
          refine inbR ?_
          refine thenR ?_
          replace h := Option.some.inj h; subst h
          exact fin_r (by kernel_rfl) rfl
        · refine run_cF 25 (c33 26) (c33 29) (!(eq_GTone y3 y4)) hc5 (by kernel_rfl) (by kernel_rfl) ?_
          refine run_k (by kernel_rfl) ?_
          refine inbN ?_
          refine thenN ?_
          refine run0 [] [0, 1, 5] [] (zipE [0, 1, 5] [.sl false (a0.map E_GTone), .sl false (a1.map E_GTone), .i (wr (l1_5 + 1))]) ⟨[], 0⟩ _ (by kernel_rfl) cj0 ?_
          replace hl1 := Option.some.inj hl1; subst hl1
          exact ⟨_, rfl, pi [], mkInto (ks := [0, 1, 5]) (ys := [.sl false (a0.map E_GTone), .sl false (a1.map E_GTone), .i (wr (l1_5 + 1))]) (by kernel_rfl) (by kernel_rfl) (.k (.c (cleanMap _ _ cl_GTone)) (.k (.c (cleanMap _ _ cl_GTone)) (.k (.c rfl) .z))) .z⟩
      · refine run_cF 14 (c33 19) (c33 20) (decide (l1_5 < (a0.length : Int))) hc2 (by kernel_rfl) (by kernel_rfl) ?_
        replace hl1 := Option.some.inj hl1; subst hl1
        have hr := rl1 _ rfl
        subst hr
        refine awp_p [] [] (zipE [] []) ⟨[], 0⟩ (by kernel_rfl) (?_)
        refine run_e 0 (by kernel_rfl) ?_
        refine thenE ?_
        refine ⟨⟨_, rfl⟩, ?_⟩
        refine inbE ?_
        exact kl1 () rfl
    · rintro ⟨⟩ rfl
      replace h := elimL h
      refine thenN ?_
      refine run1 (c33 33) [] [4] [] (zipE [4] [.bool true]) ⟨[], 0⟩ _ (by kernel_rfl) cj0 ?_
      refine run_t (by kernel_rfl) ?_
      replace h := Option.some.inj h; subst h
      exact fin_r (by kernel_rfl) rfl

/-- theorbo.theorbolaw08.IntabulateDivides -/
def f8 (a0 : List GTone) (a1 : List GFigure) (a2 : List Int) : Option Bool := (f31 a0 a1 a2).bind fun r1 => (f32 a0 a1 a2).bind fun r2 => ((bif (decide (r1.2 = r2.2)) then ((f33 r1.1 r2.1).bind fun r4 => bif r4 then ((f13).bind fun r6 => some r6) else (some false)) else (some false)) : Option Bool).bind fun (j1_6 : Bool) => some j1_6
theorem f8_ok (a0 : List GTone) (a1 : List GFigure) (a2 : List Int) (r : Bool) (h : f8 a0 a1 a2 = some r) : APure Tryz.prog 8 [.sl false (a0.map E_GTone), .sl false (a1.map E_GFigure), .sl false (a2.map AV.i)] (.bool r) := by
  refine apure (clK (cleanMap a0 _ cl_GTone) (clK (cleanMap a1 _ cl_GFigure) (clK (cleanMap a2 _ cl_i) clZ))) rfl ?_
  refine run_f 36 [.tmp 6] (c8 0) (zipE [0, 1, 2] [.sl false (a0.map E_GTone), .sl false (a1.map E_GFigure), .sl false (a2.map AV.i)]) (by kernel_rfl) (by kernel_rfl) (by kernel_rfl) rfl ?_
  unfold f8 at h
  refine run1 (c8 2) [] [0, 1, 2] [] (zipE [0, 1, 2] [.sl false (a0.map E_GTone), .sl false (a1.map E_GFigure), .sl false (a2.map AV.i)]) ⟨[], 0⟩ _ (by kernel_rfl) cj0 ?_
  obtain ⟨r1, hr1, h⟩ := bindE h
  refine run1 (c8 4) [{}, {}, {}, { c := some (.tup [.sl false (r1.1.map E_GTone), .i r1.2], ⟨[], 0⟩) }] [0, 1, 2, 7, 8] [] (zipE [0, 1, 2, 7, 8] [.sl false (a0.map E_GTone), .sl false (a1.map E_GFigure), .sl false (a2.map AV.i), .sl false (r1.1.map E_GTone), .i r1.2]) ⟨[], 0⟩ _ (by kernel_rfl) (cj1 (f31_ok a0 a1 a2 _ hr1 ⟨[], 0⟩)) ?_
  obtain ⟨r2, hr2, h⟩ := bindE h
  refine run1 (c8 6) [{}, {}, {}, { c := some (.tup [.sl false (r2.1.map E_GTone), .i r2.2], ⟨[], 0⟩) }] [7, 8, 9, 10] [] (zipE [7, 8, 9, 10] [.sl false (r1.1.map E_GTone), .i r1.2, .sl false (r2.1.map E_GTone), .i r2.2]) ⟨[], 0⟩ _ (by kernel_rfl) (cj1 (f32_ok a0 a1 a2 _ hr2 ⟨[], 0⟩)) ?_
  obtain ⟨j1_6, hj1, h⟩ := bindE h
  refine run_gq (c8 8) (fun (j1_6 : Bool) => (zipE [6] [.bool j1_6])) (fun (j1_6 : Bool) => ⟨[], 0⟩) (fun j => j1_6 = j) (fun kj1 => ?_) ?_
  · rcases iteE hj1 with ⟨hc3, hj1⟩ | ⟨hc3, hj1⟩
    · obtain ⟨r4, hr4, hj1⟩ := bindE hj1
      rcases iteE hj1 with ⟨hc5, hj1⟩ | ⟨hc5, hj1⟩
      · obtain ⟨r6, hr6, hj1⟩ := bindE hj1
        replace hj1 := Option.some.inj hj1; subst hj1
        exact run1 (c8 8) [{}, {}, {}, {}, {}, {}, { c := some (.bool r4, ⟨[], 0⟩) }, { k := 1, b := true }, {}, { c := some (.bool r6, ⟨[], 0⟩) }, { k := 1, b := true }] [6] [] (zipE [6] [.bool r6]) ⟨[], 0⟩ _ (by kernel_rfl) (cjC (hc3) (cjC (hc3) (cjC (hc3) (cjC (f33_ok r1.1 r2.1 _ hr4 ⟨[], 0⟩) (cjC (hc3) (cjC (hc5) (cjC (f13_ok  _ hr6 ⟨[], 0⟩) (cj1 (hc5))))))))) (kj1 r6 rfl)
      · replace hj1 := Option.some.inj hj1; subst hj1
        exact run1 (c8 8) [{}, {}, {}, {}, {}, {}, { c := some (.bool r4, ⟨[], 0⟩) }, { k := 1, b := true }, {}, { g := false }, { k := 1, b := false }] [6] [] (zipE [6] [.bool false]) ⟨[], 0⟩ _ (by kernel_rfl) (cjC (hc3) (cjC (hc3) (cjC (hc3) (cjC (f33_ok r1.1 r2.1 _ hr4 ⟨[], 0⟩) (cjC (hc3) (cjC (hc5) (cj1 (hc5)))))))) (kj1 false rfl)
    · replace hj1 := Option.some.inj hj1; subst hj1
      exact run1 (c8 8) [{}, {}, {}, {}, { g := false }, { g := false }, { g := false }, { k := 1, b := false }, {}, { g := false }] [6] [] (zipE [6] [.bool false]) ⟨[], 0⟩ _ (by kernel_rfl) (cjC (hc3) (cjC (hc3) (cjC (hc3) (cjC (hc3) (cj1 (Eq.refl false)))))) (kj1 false rfl)
  · rintro _ rfl
    refine run_t (by kernel_rfl) ?_
    replace h := Option.some.inj h; subst h
    exact fin_r (by kernel_rfl) rfl

end Go.Proofs.YtplpfocfcppajaaGreat
