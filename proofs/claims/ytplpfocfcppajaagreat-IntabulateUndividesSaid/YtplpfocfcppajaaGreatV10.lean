/-
  Functions of the program as Lean functions, and the walks. Written by a program of ours.
-/
import Derived.Test.YtplpfocfcppajaaGreatV6
import Derived.Test.YtplpfocfcppajaaGreatV8
namespace Go.Proofs.YtplpfocfcppajaaGreat
open Go Go.Am
set_option maxRecDepth 100000
set_option linter.all false
/-- slices.Equal[[]theorbo.api.Tone,theorbo.api.Tone] -/
def f68 (a0 : List GTone) (a1 : List GTone) : Option Bool := bif (decide ((a0.length : Int) ≠ (a1.length : Int))) then (some false) else ((loopN (σ := Int) (τ := (Unit ⊕ Bool)) (fun (l1_13 : Int) => bif (decide (l1_13 < (a0.length : Int))) then ((ix a0 l1_13).bind fun y3 => (ix a1 l1_13).bind fun y4 => bif (!(eq_GTone y3 y4)) then (some (.inr (.inr false))) else (some (.inl (wr (l1_13 + 1))))) else (some (.inr (.inl ())))) FUEL 0).bind (Sum.elim (fun (_ : Unit) => some true) some))
theorem f68_ok (a0 : List GTone) (a1 : List GTone) (r : Bool) (h : f68 a0 a1 = some r) : APure Tryz.prog 68 [.sl false (a0.map E_GTone), .sl false (a1.map E_GTone)] (.bool r) := by
  refine apure (clK (cleanMap a0 _ cl_GTone) (clK (cleanMap a1 _ cl_GTone) clZ)) rfl ?_
  refine run_f 26 [.tmp 4] (c68 0) (zipE [0, 1] [.sl false (a0.map E_GTone), .sl false (a1.map E_GTone)]) (by kernel_rfl) (by kernel_rfl) (by kernel_rfl) rfl ?_
  unfold f68 at h
  refine run1 (c68 2) [] [0, 1] [] (zipE [0, 1] [.sl false (a0.map E_GTone), .sl false (a1.map E_GTone)]) ⟨[], 0⟩ _ (by kernel_rfl) cj0 ?_
  refine run_s (c68 3) (c68 10) (by kernel_rfl) ?_
  refine run1 (c68 5) [{}, { k := 1, n := a0.length }, {}, { k := 1, n := a1.length }] [0, 1, 10] [] (zipE [0, 1, 10] [.sl false (a0.map E_GTone), .sl false (a1.map E_GTone), .bool (decide ((a0.length : Int) ≠ (a1.length : Int)))]) ⟨[], 0⟩ _ (by kernel_rfl) (cjC (mapLen a0 E_GTone) (cj1 (mapLen a1 E_GTone))) ?_
  rcases iteE h with ⟨hc1, h⟩ | ⟨hc1, h⟩
  · refine run_cT 10 (c68 6) (c68 9) (decide ((a0.length : Int) ≠ (a1.length : Int))) hc1 (by kernel_rfl) (by kernel_rfl) ?_
    refine run1 (c68 8) [] [4] [] (zipE [4] [.bool false]) ⟨[], 0⟩ _ (by kernel_rfl) cj0 ?_
    refine run_t (by kernel_rfl) ?_
    refine thenR ?_
    replace h := Option.some.inj h; subst h
    exact fin_r (by kernel_rfl) rfl
  · refine run_cF 10 (c68 6) (c68 9) (decide ((a0.length : Int) ≠ (a1.length : Int))) hc1 (by kernel_rfl) (by kernel_rfl) ?_
    refine run_k (by kernel_rfl) ?_
    refine thenN ?_
    refine run_s (c68 11) (c68 33) (by kernel_rfl) ?_
    refine run1 (c68 13) [{}, { k := 1, n := a0.length }] [0, 1, 12, 13] [] (zipE [0, 1, 12, 13] [.sl false (a0.map E_GTone), .sl false (a1.map E_GTone), .i (a0.length : Int), .i 0]) ⟨[], 0⟩ _ (by kernel_rfl) (cj1 (mapLen a0 E_GTone)) ?_
    obtain ⟨ol1x, hll1x, h⟩ := bindE h
    refine run_tq (fun (_ : Unit) => (zipE [] [])) (fun (_ : Unit) => ⟨[], 0⟩) (fun j => ol1x = .inl j) (fun kl1 => ?_) ?_
    · refine run_b 0 (c68 14) (by kernel_rfl) ?_
      refine run_l (c68 15) _ hll1x (fun (l1_13 : Int) => (zipE [0, 1, 12, 13] [.sl false (a0.map E_GTone), .sl false (a1.map E_GTone), .i (a0.length : Int), .i l1_13])) (fun (l1_13 : Int) => ⟨[], 0⟩) [] (by intro i e; cases e <;> exact Nat.le_of_ble_eq_true rfl) (by kernel_rfl) (mkInto (ks := [0, 1, 12, 13]) (ys := [.sl false (a0.map E_GTone), .sl false (a1.map E_GTone), .i (a0.length : Int), .i 0]) (by kernel_rfl) (by kernel_rfl) (.k (.c (cleanMap _ _ cl_GTone)) (.k (.c (cleanMap _ _ cl_GTone)) (.k (.c rfl) (.k (.c rfl) .z)))) .z) ?_
      rintro l1_13 out hl1 rl1
      refine run1 (c68 17) [] [0, 1, 12, 13, 14] [] (zipE [0, 1, 12, 13, 14] [.sl false (a0.map E_GTone), .sl false (a1.map E_GTone), .i (a0.length : Int), .i l1_13, .bool (decide (l1_13 < (a0.length : Int)))]) ⟨[], 0⟩ _ (by kernel_rfl) cj0 ?_
      refine run_s (c68 18) (c68 21) (by kernel_rfl) ?_
      rcases iteE hl1 with ⟨hc2, hl1⟩ | ⟨hc2, hl1⟩
      · refine run_cT 14 (c68 19) (c68 20) (decide (l1_13 < (a0.length : Int))) hc2 (by kernel_rfl) (by kernel_rfl) ?_
        refine run_k (by kernel_rfl) ?_
        refine thenN ?_
        refine run_s (c68 22) (c68 32) (by kernel_rfl) ?_
        refine run_b 1 (c68 23) (by kernel_rfl) ?_
        refine run1 (c68 25) [] [0, 1, 5, 12, 13] [] (zipE [0, 1, 5, 12, 13] [.sl false (a0.map E_GTone), .sl false (a1.map E_GTone), .i l1_13, .i (a0.length : Int), .i l1_13]) ⟨[], 0⟩ _ (by kernel_rfl) cj0 ?_
        obtain ⟨y3, hy3, hl1⟩ := bindE hl1
        obtain ⟨y4, hy4, hl1⟩ := bindE hl1
        refine yun1 (c68 27) [[], [], [0, 1], [0, 1, 2], [], [], [4, 5], [4, 5, 6], [0, 1, 2, 3, 4, 5, 6, 7]] [.light 0 false, .light 1 false, .light 2 false, .light 3 false, .light 4 false, .light 5 false, .light 6 false, .light 7 false, .light 8 false] [{}, {}, { k := 1, x := E_GTone y3 }, {}, {}, {}, { k := 1, x := E_GTone y4 }] [0, 1, 12, 13, 24] [] (zipE [0, 1, 12, 13, 24] [.sl false (a0.map E_GTone), .sl false (a1.map E_GTone), .i (a0.length : Int), .i l1_13, .bool (!(eq_GTone y3 y4))]) ⟨[], 0⟩ _ (by kernel_rfl) (cjC ((ixE hy3).1) (cjC (mapGet E_GTone (ixE hy3).2) (cjC ((ixE hy4).1) (cj1 (mapGet E_GTone (ixE hy4).2))))) ?_
        rcases iteE hl1 with ⟨hc5, hl1⟩ | ⟨hc5, hl1⟩
        · refine run_cT 24 (c68 28) (c68 31) (!(eq_GTone y3 y4)) hc5 (by kernel_rfl) (by kernel_rfl) ?_
          refine run1 (c68 30) [] [4] [] (zipE [4] [.bool false]) ⟨[], 0⟩ _ (by kernel_rfl) cj0 ?_
          replace hl1 := Option.some.inj hl1; subst hl1
          have hr := rl1 _ rfl
          subst hr
          replace h := elimR h
          refine run_t (by kernel_rfl) ?_
          refine inbR ?_
          refine thenR ?_
          refine ⟨⟨_, rfl⟩, ?_⟩
          refine inbR ?_
          refine thenR ?_
          replace h := Option.some.inj h; subst h
          exact fin_r (by kernel_rfl) rfl
        · refine run_cF 24 (c68 28) (c68 31) (!(eq_GTone y3 y4)) hc5 (by kernel_rfl) (by kernel_rfl) ?_
          refine run_k (by kernel_rfl) ?_
          refine inbN ?_
          refine thenN ?_
          refine run0 [] [0, 1, 12, 13] [] (zipE [0, 1, 12, 13] [.sl false (a0.map E_GTone), .sl false (a1.map E_GTone), .i (a0.length : Int), .i (wr (l1_13 + 1))]) ⟨[], 0⟩ _ (by kernel_rfl) cj0 ?_
          replace hl1 := Option.some.inj hl1; subst hl1
          exact ⟨_, rfl, pi [], mkInto (ks := [0, 1, 12, 13]) (ys := [.sl false (a0.map E_GTone), .sl false (a1.map E_GTone), .i (a0.length : Int), .i (wr (l1_13 + 1))]) (by kernel_rfl) (by kernel_rfl) (.k (.c (cleanMap _ _ cl_GTone)) (.k (.c (cleanMap _ _ cl_GTone)) (.k (.c rfl) (.k (.c rfl) .z)))) .z⟩
      · refine run_cF 14 (c68 19) (c68 20) (decide (l1_13 < (a0.length : Int))) hc2 (by kernel_rfl) (by kernel_rfl) ?_
        replace hl1 := Option.some.inj hl1; subst hl1
        have hr := rl1 _ rfl
        subst hr
        refine awp_p [] [] (zipE [] []) ⟨[], 0⟩ (by kernel_rfl) (?_)
        refine run_e 0 (by kernel_rfl) ?_
        refine thenE ?_
        refine ⟨⟨_, rfl⟩, ?_⟩
        refine inbE ?_
        exact kl1 () rfl
    · rintro ⟨⟩ rfl
      replace h := elimL h
      refine thenN ?_
      refine run1 (c68 35) [] [4] [] (zipE [4] [.bool true]) ⟨[], 0⟩ _ (by kernel_rfl) cj0 ?_
      refine run_t (by kernel_rfl) ?_
      replace h := Option.some.inj h; subst h
      exact fin_r (by kernel_rfl) rfl

/-- theorbo.intabulate.Undivide -/
def f34 (a0 : List GTone) (a1 : List GFigure) (a2 : List Int) : Option (((List GTone)) × Int) := (f58 a0 a1).bind fun r1 => bif (decide (r1 ≠ 0)) then (some (([] : List GTone), r1)) else (((bif (decide (400 < (a2.length : Int))) then (some true) else ((f67 a1 a2).bind fun r4 => some (!r4))) : Option Bool).bind fun (j1_28 : Bool) => bif j1_28 then (some (([] : List GTone), 1)) else ((loopN (σ := (List GTone × List GTone × Int)) (τ := ((List GTone × List GTone) ⊕ (((List GTone)) × Int))) (fun ((l2_6, l2_9, l2_32) : (List GTone × List GTone × Int)) => bif (decide (l2_32 < (a2.length : Int))) then ((ix a2 l2_32).bind fun y7 => ((bif (decide (0 < y7)) then ((ix a1 (wr (y7 - 1))).bind fun y9 => some (y9.moves.length : Int)) else (some 1)) : Option Int).bind fun (j3_12 : Int) => bif (decide ((l2_9.length : Int) < j3_12)) then (some (.inr (.inr (([] : List GTone), 81)))) else ((ix l2_9 0).bind fun y11 => (ix l2_9 (wr (j3_12 - 1))).bind fun y12 => need (l2_6.length + 1 ≤ maxElems) <| need (0 ≤ j3_12) <| need (j3_12.toNat ≤ l2_9.length) <| some (.inl ((l2_6 ++ [(⟨y11.pitch, y11.from_, y12.to_⟩ : GTone)]), ((l2_9.take l2_9.length).drop j3_12.toNat), (wr (l2_32 + 1)))))) else (some (.inr (.inl (l2_6, l2_9))))) FUEL (([] : List GTone), a0, 0)).bind (Sum.elim (fun ((l2x_6, l2x_9) : (List GTone × List GTone)) => (f31 l2x_6 a1 a2).bind fun r16 => ((bif (decide (0 < (l2x_9.length : Int))) then (some true) else (bif (decide (r16.2 ≠ 0)) then (some true) else ((f68 r16.1 a0).bind fun r19 => some (!r19)))) : Option Bool).bind fun (j4_90 : Bool) => bif j4_90 then (some (([] : List GTone), 81)) else (some (l2x_6, 0))) some)))
theorem f34_ok (a0 : List GTone) (a1 : List GFigure) (a2 : List Int) (r : (((List GTone)) × Int)) (h : f34 a0 a1 a2 = some r) : APure Tryz.prog 34 [.sl false (a0.map E_GTone), .sl false (a1.map E_GFigure), .sl false (a2.map AV.i)] (.tup [.sl false (r.1.map E_GTone), .i r.2]) := by
  refine apure (clK (cleanMap a0 _ cl_GTone) (clK (cleanMap a1 _ cl_GFigure) (clK (cleanMap a2 _ cl_i) clZ))) (clK (cleanMap r.1 _ cl_GTone) (clK rfl clZ)) ?_
  refine run_f 92 [.tmp 6, .tmp 7] (c34 0) (zipE [0, 1, 2] [.sl false (a0.map E_GTone), .sl false (a1.map E_GFigure), .sl false (a2.map AV.i)]) (by kernel_rfl) (by kernel_rfl) (by kernel_rfl) rfl ?_
  unfold f34 at h
  refine run1 (c34 2) [] [0, 1, 2, 6] [] (zipE [0, 1, 2, 6] [.sl false (a0.map E_GTone), .sl false (a1.map E_GFigure), .sl false (a2.map AV.i), .sl true []]) ⟨[], 0⟩ _ (by kernel_rfl) cj0 ?_
  refine run_s (c34 3) (c34 12) (by kernel_rfl) ?_
  obtain ⟨r1, hr1, h⟩ := bindE h
  refine run1 (c34 5) [{}, {}, { c := some (.i r1, ⟨[], 0⟩) }] [0, 1, 2, 6, 8] [] (zipE [0, 1, 2, 6, 8] [.sl false (a0.map E_GTone), .sl false (a1.map E_GFigure), .sl false (a2.map AV.i), .sl true [], .i r1]) ⟨[], 0⟩ _ (by kernel_rfl) (cj1 (f58_ok a0 a1 _ hr1 ⟨[], 0⟩)) ?_
  refine run1 (c34 7) [] [0, 1, 2, 6, 8, 18] [] (zipE [0, 1, 2, 6, 8, 18] [.sl false (a0.map E_GTone), .sl false (a1.map E_GFigure), .sl false (a2.map AV.i), .sl true [], .i r1, .bool (decide (r1 ≠ 0))]) ⟨[], 0⟩ _ (by kernel_rfl) cj0 ?_
  rcases iteE h with ⟨hc2, h⟩ | ⟨hc2, h⟩
  · refine run_cT 18 (c34 8) (c34 11) (decide (r1 ≠ 0)) hc2 (by kernel_rfl) (by kernel_rfl) ?_
    refine run1 (c34 10) [] [6, 7] [] (zipE [6, 7] [.sl true [], .i r1]) ⟨[], 0⟩ _ (by kernel_rfl) cj0 ?_
    refine run_i 0 [] [6, 7] [.sl true [], .i r1] (xs := [.sl false (([] : List GTone).map E_GTone), .i r1]) (S2 := ⟨[], 0⟩) ?_ (by intro i e; cases e <;> exact Nat.le_of_ble_eq_true rfl) (by kernel_rfl) (by kernel_rfl) (by kernel_rfl) (.k (.s (cleanMap (([] : List GTone)) _ cl_GTone)) (.k (.c rfl) .z)) .z
    refine run_t (by kernel_rfl) ?_
    refine thenR ?_
    replace h := Option.some.inj h; subst h
    exact fin_r (by kernel_rfl) rfl
  · refine run_cF 18 (c34 8) (c34 11) (decide (r1 ≠ 0)) hc2 (by kernel_rfl) (by kernel_rfl) ?_
    refine run_k (by kernel_rfl) ?_
    refine thenN ?_
    refine run_s (c34 13) (c34 20) (by kernel_rfl) ?_
    obtain ⟨j1_28, hj1, h⟩ := bindE h
    refine run_gq (c34 15) (fun (j1_28 : Bool) => (zipE [0, 1, 2, 6, 28] [.sl false (a0.map E_GTone), .sl false (a1.map E_GFigure), .sl false (a2.map AV.i), .sl true [], .bool j1_28])) (fun (j1_28 : Bool) => ⟨[], 0⟩) (fun j => j1_28 = j) (fun kj1 => ?_) ?_
    · rcases iteE hj1 with ⟨hc3, hj1⟩ | ⟨hc3, hj1⟩
      · replace hj1 := Option.some.inj hj1; subst hj1
        exact run1 (c34 15) [{}, { k := 1, n := a2.length }, {}, {}, { g := false }, { g := false }, { g := false }, { g := false }, { k := 1, b := true }] [0, 1, 2, 6, 28] [] (zipE [0, 1, 2, 6, 28] [.sl false (a0.map E_GTone), .sl false (a1.map E_GFigure), .sl false (a2.map AV.i), .sl true [], .bool true]) ⟨[], 0⟩ _ (by kernel_rfl) (cjC (mapLen a2 AV.i) (cjC (hc3) (cjC (hc3) (cjC (hc3) (cjC (hc3) (cj1 (hc3))))))) (kj1 true rfl)
      · obtain ⟨r4, hr4, hj1⟩ := bindE hj1
        replace hj1 := Option.some.inj hj1; subst hj1
        exact run1 (c34 15) [{}, { k := 1, n := a2.length }, {}, {}, {}, {}, { c := some (.bool r4, ⟨[], 0⟩) }, {}, { k := 1, b := false }] [0, 1, 2, 6, 28] [] (zipE [0, 1, 2, 6, 28] [.sl false (a0.map E_GTone), .sl false (a1.map E_GFigure), .sl false (a2.map AV.i), .sl true [], .bool (!r4)]) ⟨[], 0⟩ _ (by kernel_rfl) (cjC (mapLen a2 AV.i) (cjC (hc3) (cjC (hc3) (cjC (hc3) (cjC (f67_ok a1 a2 _ hr4 ⟨[], 0⟩) (cjC (hc3) (cj1 (hc3)))))))) (kj1 (!r4) rfl)
    · rintro _ rfl
      rcases iteE h with ⟨hc5, h⟩ | ⟨hc5, h⟩
      · refine run_cT 28 (c34 16) (c34 19) j1_28 hc5 (by kernel_rfl) (by kernel_rfl) ?_
        refine run1 (c34 18) [] [6, 7] [] (zipE [6, 7] [.sl true [], .i 1]) ⟨[], 0⟩ _ (by kernel_rfl) cj0 ?_
        refine run_i 0 [] [6, 7] [.sl true [], .i 1] (xs := [.sl false (([] : List GTone).map E_GTone), .i 1]) (S2 := ⟨[], 0⟩) ?_ (by intro i e; cases e <;> exact Nat.le_of_ble_eq_true rfl) (by kernel_rfl) (by kernel_rfl) (by kernel_rfl) (.k (.s (cleanMap (([] : List GTone)) _ cl_GTone)) (.k (.c rfl) .z)) .z
        refine run_t (by kernel_rfl) ?_
        refine thenR ?_
        replace h := Option.some.inj h; subst h
        exact fin_r (by kernel_rfl) rfl
      · refine run_cF 28 (c34 16) (c34 19) j1_28 hc5 (by kernel_rfl) (by kernel_rfl) ?_
        refine run_k (by kernel_rfl) ?_
        refine thenN ?_
        refine run1 (c34 22) [] [0, 1, 2, 6, 9] [] (zipE [0, 1, 2, 6, 9] [.sl false (a0.map E_GTone), .sl false (a1.map E_GFigure), .sl false (a2.map AV.i), .sl true [], .sl false (a0.map E_GTone)]) ⟨[], 0⟩ _ (by kernel_rfl) cj0 ?_
        refine run_s (c34 23) (c34 57) (by kernel_rfl) ?_
        refine run1 (c34 25) [{}, { k := 1, n := a2.length }] [0, 1, 2, 6, 9, 30, 31, 32] [] (zipE [0, 1, 2, 6, 9, 30, 31, 32] [.sl false (a0.map E_GTone), .sl false (a1.map E_GFigure), .sl false (a2.map AV.i), .sl true [], .sl false (a0.map E_GTone), .sl false (a2.map AV.i), .i (a2.length : Int), .i 0]) ⟨[], 0⟩ _ (by kernel_rfl) (cj1 (mapLen a2 AV.i)) ?_
        obtain ⟨ol2x, hll2x, h⟩ := bindE h
        refine run_tq (fun ((l2x_6, l2x_9) : (List GTone × List GTone)) => (zipE [0, 1, 2, 6, 9] [.sl false (a0.map E_GTone), .sl false (a1.map E_GFigure), .sl false (a2.map AV.i), .ms 0 0 l2x_6.length, .sl false (l2x_9.map E_GTone)])) (fun ((l2x_6, l2x_9) : (List GTone × List GTone)) => ⟨[(0, .cells 3 (l2x_6.map E_GTone))], 1⟩) (fun j => ol2x = .inl j) (fun kl2 => ?_) ?_
        · refine run_b 0 (c34 26) (by kernel_rfl) ?_
          refine run_l (c34 27) _ hll2x (fun ((l2_6, l2_9, l2_32) : (List GTone × List GTone × Int)) => (zipE [0, 1, 2, 6, 9, 30, 31, 32] [.sl false (a0.map E_GTone), .sl false (a1.map E_GFigure), .sl false (a2.map AV.i), .ms 0 0 l2_6.length, .sl false (l2_9.map E_GTone), .sl false (a2.map AV.i), .i (a2.length : Int), .i l2_32])) (fun ((l2_6, l2_9, l2_32) : (List GTone × List GTone × Int)) => ⟨[(0, .cells 3 (l2_6.map E_GTone))], 1⟩) [(0, 1000000)] (by intro i e; cases e <;> exact Nat.le_of_ble_eq_true rfl) (by kernel_rfl) (mkInto (ks := [0, 1, 2, 6, 9, 30, 31, 32]) (ys := [.sl false (a0.map E_GTone), .sl false (a1.map E_GFigure), .sl false (a2.map AV.i), .sl true [], .sl false (a0.map E_GTone), .sl false (a2.map AV.i), .i (a2.length : Int), .i 0]) (by kernel_rfl) (by kernel_rfl) (.k (.c (cleanMap _ _ cl_GTone)) (.k (.c (cleanMap _ _ cl_GFigure)) (.k (.c (cleanMap _ _ cl_i)) (.k (.n) (.k (.c (cleanMap _ _ cl_GTone)) (.k (.c (cleanMap _ _ cl_i)) (.k (.c rfl) (.k (.c rfl) .z)))))))) (.n rfl rfl rfl .z)) ?_
          rintro ⟨l2_6, l2_9, l2_32⟩ out hl2 rl2
          refine run1 (c34 29) [] [0, 1, 2, 6, 9, 30, 31, 32, 33] [0] (zipE [0, 1, 2, 6, 9, 30, 31, 32, 33] [.sl false (a0.map E_GTone), .sl false (a1.map E_GFigure), .sl false (a2.map AV.i), .ms 0 0 l2_6.length, .sl false (l2_9.map E_GTone), .sl false (a2.map AV.i), .i (a2.length : Int), .i l2_32, .bool (decide (l2_32 < (a2.length : Int)))]) ⟨[(0, .cells 3 (l2_6.map E_GTone))], 1⟩ _ (by kernel_rfl) cj0 ?_
          refine run_s (c34 30) (c34 33) (by kernel_rfl) ?_
          rcases iteE hl2 with ⟨hc6, hl2⟩ | ⟨hc6, hl2⟩
          · refine run_cT 33 (c34 31) (c34 32) (decide (l2_32 < (a2.length : Int))) hc6 (by kernel_rfl) (by kernel_rfl) ?_
            refine run_k (by kernel_rfl) ?_
            refine thenN ?_
            refine run_s (c34 34) (c34 56) (by kernel_rfl) ?_
            refine run_b 1 (c34 35) (by kernel_rfl) ?_
            obtain ⟨y7, hy7, hl2⟩ := bindE hl2
            refine run1 (c34 37) [{ k := 1, x := AV.i y7 }] [0, 1, 2, 6, 9, 11, 30, 31, 32] [0] (zipE [0, 1, 2, 6, 9, 11, 30, 31, 32] [.sl false (a0.map E_GTone), .sl false (a1.map E_GFigure), .sl false (a2.map AV.i), .ms 0 0 l2_6.length, .sl false (l2_9.map E_GTone), .i y7, .sl false (a2.map AV.i), .i (a2.length : Int), .i l2_32]) ⟨[(0, .cells 3 (l2_6.map E_GTone))], 1⟩ _ (by kernel_rfl) (cjC ((ixE hy7).1) (cj1 (mapGet AV.i (ixE hy7).2))) ?_
            refine run1 (c34 39) [] [0, 1, 2, 6, 9, 11, 12, 30, 31, 32] [0] (zipE [0, 1, 2, 6, 9, 11, 12, 30, 31, 32] [.sl false (a0.map E_GTone), .sl false (a1.map E_GFigure), .sl false (a2.map AV.i), .ms 0 0 l2_6.length, .sl false (l2_9.map E_GTone), .i y7, .i 1, .sl false (a2.map AV.i), .i (a2.length : Int), .i l2_32]) ⟨[(0, .cells 3 (l2_6.map E_GTone))], 1⟩ _ (by kernel_rfl) cj0 ?_
            obtain ⟨j3_12, hj3, hl2⟩ := bindE hl2
            refine run_jq (c34 40) (c34 45) (fun (j3_12 : Int) => (zipE [0, 1, 2, 6, 9, 12, 30, 31, 32] [.sl false (a0.map E_GTone), .sl false (a1.map E_GFigure), .sl false (a2.map AV.i), .ms 0 0 l2_6.length, .sl false (l2_9.map E_GTone), .i j3_12, .sl false (a2.map AV.i), .i (a2.length : Int), .i l2_32])) (fun (j3_12 : Int) => ⟨[(0, .cells 3 (l2_6.map E_GTone))], 1⟩) (fun j => j3_12 = j) (by kernel_rfl) (fun kj3 => ?_) ?_
            · refine run1 (c34 42) [] [0, 1, 2, 6, 9, 11, 12, 30, 31, 32, 37] [0] (zipE [0, 1, 2, 6, 9, 11, 12, 30, 31, 32, 37] [.sl false (a0.map E_GTone), .sl false (a1.map E_GFigure), .sl false (a2.map AV.i), .ms 0 0 l2_6.length, .sl false (l2_9.map E_GTone), .i y7, .i 1, .sl false (a2.map AV.i), .i (a2.length : Int), .i l2_32, .bool (decide (0 < y7))]) ⟨[(0, .cells 3 (l2_6.map E_GTone))], 1⟩ _ (by kernel_rfl) cj0 ?_
              rcases iteE hj3 with ⟨hc8, hj3⟩ | ⟨hc8, hj3⟩
              · refine run_cT 37 (c34 43) (c34 44) (decide (0 < y7)) hc8 (by kernel_rfl) (by kernel_rfl) ?_
                obtain ⟨y9, hy9, hj3⟩ := bindE hj3
                refine run0 [{}, {}, {}, { k := 1, x := E_GFigure y9 }, {}, {}, { k := 1, n := y9.moves.length }] [0, 1, 2, 6, 9, 12, 30, 31, 32] [0] (zipE [0, 1, 2, 6, 9, 12, 30, 31, 32] [.sl false (a0.map E_GTone), .sl false (a1.map E_GFigure), .sl false (a2.map AV.i), .ms 0 0 l2_6.length, .sl false (l2_9.map E_GTone), .i (y9.moves.length : Int), .sl false (a2.map AV.i), .i (a2.length : Int), .i l2_32]) ⟨[(0, .cells 3 (l2_6.map E_GTone))], 1⟩ _ (by kernel_rfl) (cjC ((ixE hy9).1) (cjC (mapGet E_GFigure (ixE hy9).2) (cj1 (mapLen y9.moves AV.i)))) ?_
                replace hj3 := Option.some.inj hj3; subst hj3
                refine thenN ?_
                exact kj3 (y9.moves.length : Int) rfl
              · refine run_cF 37 (c34 43) (c34 44) (decide (0 < y7)) hc8 (by kernel_rfl) (by kernel_rfl) ?_
                replace hj3 := Option.some.inj hj3; subst hj3
                refine awp_p [0, 1, 2, 6, 9, 12, 30, 31, 32] [0] (zipE [0, 1, 2, 6, 9, 12, 30, 31, 32] [.sl false (a0.map E_GTone), .sl false (a1.map E_GFigure), .sl false (a2.map AV.i), .ms 0 0 l2_6.length, .sl false (l2_9.map E_GTone), .i 1, .sl false (a2.map AV.i), .i (a2.length : Int), .i l2_32]) ⟨[(0, .cells 3 (l2_6.map E_GTone))], 1⟩ (by kernel_rfl) (?_)
                refine run_k (by kernel_rfl) ?_
                refine thenN ?_
                exact kj3 1 rfl
            · rintro _ rfl
              refine run_s (c34 46) (c34 53) (by kernel_rfl) ?_
              refine run1 (c34 48) [{}, {}, { k := 1, n := l2_9.length }] [0, 1, 2, 6, 9, 12, 30, 31, 32, 48] [0] (zipE [0, 1, 2, 6, 9, 12, 30, 31, 32, 48] [.sl false (a0.map E_GTone), .sl false (a1.map E_GFigure), .sl false (a2.map AV.i), .ms 0 0 l2_6.length, .sl false (l2_9.map E_GTone), .i j3_12, .sl false (a2.map AV.i), .i (a2.length : Int), .i l2_32, .bool (decide ((l2_9.length : Int) < j3_12))]) ⟨[(0, .cells 3 (l2_6.map E_GTone))], 1⟩ _ (by kernel_rfl) (cj1 (mapLen l2_9 E_GTone)) ?_
              rcases iteE hl2 with ⟨hc10, hl2⟩ | ⟨hc10, hl2⟩
              · refine run_cT 48 (c34 49) (c34 52) (decide ((l2_9.length : Int) < j3_12)) hc10 (by kernel_rfl) (by kernel_rfl) ?_
                refine run1 (c34 51) [] [6, 7] [] (zipE [6, 7] [.sl true [], .i 81]) ⟨[], 1⟩ _ (by kernel_rfl) cj0 ?_
                replace hl2 := Option.some.inj hl2; subst hl2
                have hr := rl2 _ rfl
                subst hr
                replace h := elimR h
                refine run_i 1 [] [6, 7] [.sl true [], .i 81] (xs := [.sl false (([] : List GTone).map E_GTone), .i 81]) (S2 := ⟨[], 1⟩) ?_ (by intro i e; cases e <;> exact Nat.le_of_ble_eq_true rfl) (by kernel_rfl) (by kernel_rfl) (by kernel_rfl) (.k (.s (cleanMap (([] : List GTone)) _ cl_GTone)) (.k (.c rfl) .z)) .z
                refine run_t (by kernel_rfl) ?_
                refine thenR ?_
                refine inbR ?_
                refine thenR ?_
                refine ⟨⟨_, rfl⟩, ?_⟩
                refine inbR ?_
                refine thenR ?_
                replace h := Option.some.inj h; subst h
                exact fin_r (by kernel_rfl) rfl
              · refine run_cF 48 (c34 49) (c34 52) (decide ((l2_9.length : Int) < j3_12)) hc10 (by kernel_rfl) (by kernel_rfl) ?_
                refine run_k (by kernel_rfl) ?_
                refine thenN ?_
                obtain ⟨y11, hy11, hl2⟩ := bindE hl2
                obtain ⟨y12, hy12, hl2⟩ := bindE hl2
                obtain ⟨hn13, hl2⟩ := needE hl2
                refine yun1 (c34 55) [[], [], [1], [1, 2], [1, 2, 3], [], [5], [5, 6], [5, 6, 7], [], [], [10], [9, 10, 11], [9, 10, 11, 12], [9, 10, 11, 12, 13], [1, 2, 3, 4, 5, 6, 7, 8, 9, 10, 11, 12, 13, 14], [1, 2, 3, 4, 5, 6, 7, 8, 9, 10, 11, 12, 13, 14, 15], [0, 1, 2, 3, 4, 5, 6, 7, 8, 9, 10, 11, 12, 13, 14, 15, 16], [0, 1, 2, 3, 4, 5, 6, 7, 8, 9, 10, 11, 12, 13, 14, 15, 16, 17]] [.light 0 false, .light 1 false, .light 2 false, .light 3 false, .light 4 false, .light 5 false, .light 6 false, .light 7 false, .light 8 false, .light 9 false, .light 10 false, .light 11 false, .light 12 false, .light 13 false, .light 14 false, .light 15 false, .light 16 false, .heavy 17 [], .light 18 false] [{}, {}, { k := 1, x := E_GTone y11 }, {}, {}, {}, { k := 1, x := E_GTone y11 }, {}, {}, {}, {}, {}, { k := 1, x := E_GTone y12 }, {}, {}, {}, {}, { k := 1, n := (l2_6 ++ [(⟨y11.pitch, y11.from_, y12.to_⟩ : GTone)]).length, l := (l2_6 ++ [(⟨y11.pitch, y11.from_, y12.to_⟩ : GTone)]).map E_GTone }] [0, 1, 2, 6, 9, 12, 30, 31, 32] [1] (zipE [0, 1, 2, 6, 9, 12, 30, 31, 32] [.sl false (a0.map E_GTone), .sl false (a1.map E_GFigure), .sl false (a2.map AV.i), .ms 1 0 (l2_6 ++ [(⟨y11.pitch, y11.from_, y12.to_⟩ : GTone)]).length, .sl false (l2_9.map E_GTone), .i j3_12, .sl false (a2.map AV.i), .i (a2.length : Int), .i l2_32]) ⟨[(1, .cells 3 ((l2_6 ++ [(⟨y11.pitch, y11.from_, y12.to_⟩ : GTone)]).map E_GTone))], 2⟩ _ (by kernel_rfl) (cjC ((ixE hy11).1) (cjC (mapGet E_GTone (ixE hy11).2) (cjC ((ixE hy11).1) (cjC (mapGet E_GTone (ixE hy11).2) (cjC ((ixE hy12).1) (cjC (mapGet E_GTone (ixE hy12).2) (cjC (@List.cons_ne_nil AV (.agg [.i y11.pitch, .i y11.from_, .i y12.to_]) []) (cjC (mLe l2_6 E_GTone) (cjC (hn13) (cjC (lenA l2_6 ([(⟨y11.pitch, y11.from_, y12.to_⟩ : GTone)] : List GTone)) (cjC (appA l2_6 ([(⟨y11.pitch, y11.from_, y12.to_⟩ : GTone)] : List GTone) E_GTone) (cj1 (fitsOne (P := Tryz.prog) (t := 53) (x := .agg [.i y11.pitch, .i y11.from_, .i y12.to_]) (r := []) (by kernel_rfl)))))))))))))) ?_
                obtain ⟨hn14, hl2⟩ := needE hl2
                obtain ⟨hn15, hl2⟩ := needE hl2
                refine run0 [{}, {}, { k := 1, n := j3_12.toNat, m := l2_9.length, b := false, l := ((l2_9.take l2_9.length).drop j3_12.toNat).map E_GTone }] [0, 1, 2, 6, 9, 30, 31, 32] [1] (zipE [0, 1, 2, 6, 9, 30, 31, 32] [.sl false (a0.map E_GTone), .sl false (a1.map E_GFigure), .sl false (a2.map AV.i), .ms 1 0 (l2_6 ++ [(⟨y11.pitch, y11.from_, y12.to_⟩ : GTone)]).length, .sl false (((l2_9.take l2_9.length).drop j3_12.toNat).map E_GTone), .sl false (a2.map AV.i), .i (a2.length : Int), .i l2_32]) ⟨[(1, .cells 3 ((l2_6 ++ [(⟨y11.pitch, y11.from_, y12.to_⟩ : GTone)]).map E_GTone))], 2⟩ _ (by kernel_rfl) (cjC (hn15) (cjC (leMap E_GTone (Nat.le_refl l2_9.length)) (cjC (fitsMap (P := Tryz.prog) (t := 53) (k := 3) l2_9 E_GTone (by kernel_rfl) sz_GTone) (cjC (Eq.refl false) (cjC (mapSub l2_9 E_GTone j3_12.toNat l2_9.length) (cjC (hn14) (cjC (Eq.refl (j3_12.toNat)) (cj1 (mapLen l2_9 E_GTone))))))))) ?_
                refine inbN ?_
                refine thenN ?_
                refine run0 [] [0, 1, 2, 6, 9, 30, 31, 32] [1] (zipE [0, 1, 2, 6, 9, 30, 31, 32] [.sl false (a0.map E_GTone), .sl false (a1.map E_GFigure), .sl false (a2.map AV.i), .ms 1 0 (l2_6 ++ [(⟨y11.pitch, y11.from_, y12.to_⟩ : GTone)]).length, .sl false (((l2_9.take l2_9.length).drop j3_12.toNat).map E_GTone), .sl false (a2.map AV.i), .i (a2.length : Int), .i (wr (l2_32 + 1))]) ⟨[(1, .cells 3 ((l2_6 ++ [(⟨y11.pitch, y11.from_, y12.to_⟩ : GTone)]).map E_GTone))], 2⟩ _ (by kernel_rfl) cj0 ?_
                replace hl2 := Option.some.inj hl2; subst hl2
                exact ⟨_, rfl, pi [(0, 1)], mkInto (ks := [0, 1, 2, 6, 9, 30, 31, 32]) (ys := [.sl false (a0.map E_GTone), .sl false (a1.map E_GFigure), .sl false (a2.map AV.i), .ms 1 0 (l2_6 ++ [(⟨y11.pitch, y11.from_, y12.to_⟩ : GTone)]).length, .sl false (((l2_9.take l2_9.length).drop j3_12.toNat).map E_GTone), .sl false (a2.map AV.i), .i (a2.length : Int), .i (wr (l2_32 + 1))]) (by kernel_rfl) (by kernel_rfl) (.k (.c (cleanMap _ _ cl_GTone)) (.k (.c (cleanMap _ _ cl_GFigure)) (.k (.c (cleanMap _ _ cl_i)) (.k (.ms rfl rfl) (.k (.c (cleanMap _ _ cl_GTone)) (.k (.c (cleanMap _ _ cl_i)) (.k (.c rfl) (.k (.c rfl) .z)))))))) (.k (x' := .cells 3 ((l2_6 ++ [(⟨y11.pitch, y11.from_, y12.to_⟩ : GTone)]).map E_GTone)) (by kernel_rfl) (.cells (.r (cleanMap _ _ cl_GTone))) .z)⟩
          · refine run_cF 33 (c34 31) (c34 32) (decide (l2_32 < (a2.length : Int))) hc6 (by kernel_rfl) (by kernel_rfl) ?_
            replace hl2 := Option.some.inj hl2; subst hl2
            have hr := rl2 _ rfl
            subst hr
            refine awp_p [0, 1, 2, 6, 9] [0] (zipE [0, 1, 2, 6, 9] [.sl false (a0.map E_GTone), .sl false (a1.map E_GFigure), .sl false (a2.map AV.i), .ms 0 0 l2_6.length, .sl false (l2_9.map E_GTone)]) ⟨[(0, .cells 3 (l2_6.map E_GTone))], 1⟩ (by kernel_rfl) (?_)
            refine run_e 0 (by kernel_rfl) ?_
            refine thenE ?_
            refine ⟨⟨_, rfl⟩, ?_⟩
            refine inbE ?_
            exact kl2 (l2_6, l2_9) rfl
        · rintro ⟨l2x_6, l2x_9⟩ rfl
          replace h := elimL h
          refine thenN ?_
          refine run_z 0 3 (l2x_6.map E_GTone) [0, 1, 2, 6, 9] [.sl false (a0.map E_GTone), .sl false (a1.map E_GFigure), .sl false (a2.map AV.i), .ms 0 0 l2x_6.length, .sl false (l2x_9.map E_GTone)] (xs := [.sl false (a0.map E_GTone), .sl false (a1.map E_GFigure), .sl false (a2.map AV.i), .sl false (l2x_6.map E_GTone), .sl false (l2x_9.map E_GTone)]) (S2 := ⟨[], 1⟩) ?_ (by kernel_rfl) (by kernel_rfl) (.k (.r _) (.k (.r _) (.k (.r _) (.k (.m (mLe l2x_6 E_GTone) (mapAll l2x_6 E_GTone)) (.k (.r _) .z))))) .z rfl rfl
          obtain ⟨r16, hr16, h⟩ := bindE h
          refine run1 (c34 59) [{}, {}, {}, { c := some (.tup [.sl false (r16.1.map E_GTone), .i r16.2], ⟨[], 1⟩) }] [0, 6, 7, 9, 13] [] (zipE [0, 6, 7, 9, 13] [.sl false (a0.map E_GTone), .sl false (l2x_6.map E_GTone), .i r16.2, .sl false (l2x_9.map E_GTone), .sl false (r16.1.map E_GTone)]) ⟨[], 1⟩ _ (by kernel_rfl) (cj1 (f31_ok l2x_6 a1 a2 _ hr16 ⟨[], 1⟩)) ?_
          refine run_s (c34 60) (c34 67) (by kernel_rfl) ?_
          obtain ⟨j4_90, hj4, h⟩ := bindE h
          refine run_gq (c34 62) (fun (j4_90 : Bool) => (zipE [6, 90] [.sl false (l2x_6.map E_GTone), .bool j4_90])) (fun (j4_90 : Bool) => ⟨[], 1⟩) (fun j => j4_90 = j) (fun kj4 => ?_) ?_
          · rcases iteE hj4 with ⟨hc17, hj4⟩ | ⟨hc17, hj4⟩
            · replace hj4 := Option.some.inj hj4; subst hj4
              exact run1 (c34 62) [{}, { k := 1, n := l2x_9.length }, {}, {}, { g := false }, { g := false }, { k := 1, b := true }, {}, { g := false }, { g := false }, { g := false }, { g := false }] [6, 90] [] (zipE [6, 90] [.sl false (l2x_6.map E_GTone), .bool true]) ⟨[], 1⟩ _ (by kernel_rfl) (cjC (mapLen l2x_9 E_GTone) (cjC (hc17) (cjC (hc17) (cjC (hc17) (cjC (Eq.refl true) (cjC (Eq.refl true) (cjC (Eq.refl true) (cj1 (Eq.refl true))))))))) (kj4 true rfl)
            · rcases iteE hj4 with ⟨hc18, hj4⟩ | ⟨hc18, hj4⟩
              · replace hj4 := Option.some.inj hj4; subst hj4
                exact run1 (c34 62) [{}, { k := 1, n := l2x_9.length }, {}, {}, {}, {}, { k := 1, b := false }, {}, { g := false }, { g := false }, { g := false }, { g := false }, { k := 1, b := true }] [6, 90] [] (zipE [6, 90] [.sl false (l2x_6.map E_GTone), .bool true]) ⟨[], 1⟩ _ (by kernel_rfl) (cjC (mapLen l2x_9 E_GTone) (cjC (hc17) (cjC (hc17) (cjC (hc17) (cjC (hc18) (cjC (hc18) (cjC (hc18) (cjC (hc18) (cj1 (hc18)))))))))) (kj4 true rfl)
              · obtain ⟨r19, hr19, hj4⟩ := bindE hj4
                replace hj4 := Option.some.inj hj4; subst hj4
                exact run1 (c34 62) [{}, { k := 1, n := l2x_9.length }, {}, {}, {}, {}, { k := 1, b := false }, {}, {}, {}, { c := some (.bool r19, ⟨[], 1⟩) }, {}, { k := 1, b := false }] [6, 90] [] (zipE [6, 90] [.sl false (l2x_6.map E_GTone), .bool (!r19)]) ⟨[], 1⟩ _ (by kernel_rfl) (cjC (mapLen l2x_9 E_GTone) (cjC (hc17) (cjC (hc17) (cjC (hc17) (cjC (hc18) (cjC (hc18) (cjC (hc18) (cjC (f68_ok r16.1 a0 _ hr19 ⟨[], 1⟩) (cjC (hc18) (cj1 (hc18))))))))))) (kj4 (!r19) rfl)
          · rintro _ rfl
            rcases iteE h with ⟨hc20, h⟩ | ⟨hc20, h⟩
            · refine run_cT 90 (c34 63) (c34 66) j4_90 hc20 (by kernel_rfl) (by kernel_rfl) ?_
              refine run1 (c34 65) [] [6, 7] [] (zipE [6, 7] [.sl true [], .i 81]) ⟨[], 1⟩ _ (by kernel_rfl) cj0 ?_
              refine run_i 1 [] [6, 7] [.sl true [], .i 81] (xs := [.sl false (([] : List GTone).map E_GTone), .i 81]) (S2 := ⟨[], 1⟩) ?_ (by intro i e; cases e <;> exact Nat.le_of_ble_eq_true rfl) (by kernel_rfl) (by kernel_rfl) (by kernel_rfl) (.k (.s (cleanMap (([] : List GTone)) _ cl_GTone)) (.k (.c rfl) .z)) .z
              refine run_t (by kernel_rfl) ?_
              refine thenR ?_
              replace h := Option.some.inj h; subst h
              exact fin_r (by kernel_rfl) rfl
            · refine run_cF 90 (c34 63) (c34 66) j4_90 hc20 (by kernel_rfl) (by kernel_rfl) ?_
              refine run_k (by kernel_rfl) ?_
              refine thenN ?_
              refine run1 (c34 69) [] [6, 7] [] (zipE [6, 7] [.sl false (l2x_6.map E_GTone), .i 0]) ⟨[], 1⟩ _ (by kernel_rfl) cj0 ?_
              refine run_t (by kernel_rfl) ?_
              replace h := Option.some.inj h; subst h
              exact fin_r (by kernel_rfl) rfl

/-- theorbo.theorboref08.Undivide -/
def f35 (a0 : List GTone) (a1 : List GFigure) (a2 : List Int) : Option (((List GTone)) × Int) := (f60 a0 a1).bind fun r1 => bif (decide (r1 ≠ 0)) then (some (([] : List GTone), r1)) else (bif (decide (400 < (a2.length : Int))) then (some (([] : List GTone), 1)) else ((loopN (σ := Int) (τ := (Unit ⊕ (((List GTone)) × Int))) (fun (l1_9 : Int) => bif (decide (l1_9 < (a2.length : Int))) then ((((ix a2 l1_9).bind fun y5 => bif (decide (y5 < 0)) then (some true) else (some (decide ((a1.length : Int) < y5)))) : Option Bool).bind fun (j2_45 : Bool) => bif j2_45 then (some (.inr (.inr (([] : List GTone), 1)))) else (some (.inl (wr (l1_9 + 1))))) else (some (.inr (.inl ())))) FUEL 0).bind (Sum.elim (fun (_ : Unit) => (loopN (σ := (List GTone × Int × Int)) (τ := ((List GTone × Int) ⊕ (((List GTone)) × Int))) (fun ((l3_10, l3_11, l3_12) : (List GTone × Int × Int)) => bif (decide (l3_12 < (a2.length : Int))) then ((((ix a2 l3_12).bind fun y9 => bif (decide (0 < y9)) then ((ix a1 (wr (y9 - 1))).bind fun y11 => some (y11.moves.length : Int)) else (some 1)) : Option Int).bind fun (j4_13 : Int) => bif (decide ((a0.length : Int) < (wr (l3_11 + j4_13)))) then (some (.inr (.inr (([] : List GTone), 81)))) else ((ix a0 l3_11).bind fun y13 => (ix a0 (wr ((wr (l3_11 + j4_13)) - 1))).bind fun y14 => need (l3_10.length + 1 ≤ maxElems) <| some (.inl ((l3_10 ++ [(⟨y13.pitch, y13.from_, y14.to_⟩ : GTone)]), (wr (l3_11 + j4_13)), (wr (l3_12 + 1)))))) else (some (.inr (.inl (l3_10, l3_11))))) FUEL (([] : List GTone), 0, 0)).bind (Sum.elim (fun ((l3x_10, l3x_11) : (List GTone × Int)) => (f32 l3x_10 a1 a2).bind fun r16 => ((bif (decide (l3x_11 ≠ (a0.length : Int))) then (some true) else (bif (decide (r16.2 ≠ 0)) then (some true) else (some (decide ((r16.1.length : Int) ≠ (a0.length : Int)))))) : Option Bool).bind fun (j5_119 : Bool) => bif j5_119 then (some (([] : List GTone), 81)) else ((loopN (σ := Int) (τ := (Unit ⊕ (((List GTone)) × Int))) (fun (l6_16 : Int) => bif (decide (l6_16 < (a0.length : Int))) then ((ix r16.1 l6_16).bind fun y21 => (ix a0 l6_16).bind fun y22 => bif (!(eq_GTone y21 y22)) then (some (.inr (.inr (([] : List GTone), 81)))) else (some (.inl (wr (l6_16 + 1))))) else (some (.inr (.inl ())))) FUEL 0).bind (Sum.elim (fun (_ : Unit) => some (l3x_10, 0)) some))) some)) some)))
theorem f35_ok (a0 : List GTone) (a1 : List GFigure) (a2 : List Int) (r : (((List GTone)) × Int)) (h : f35 a0 a1 a2 = some r) : APure Tryz.prog 35 [.sl false (a0.map E_GTone), .sl false (a1.map E_GFigure), .sl false (a2.map AV.i)] (.tup [.sl false (r.1.map E_GTone), .i r.2]) := by
  refine apure (clK (cleanMap a0 _ cl_GTone) (clK (cleanMap a1 _ cl_GFigure) (clK (cleanMap a2 _ cl_i) clZ))) (clK (cleanMap r.1 _ cl_GTone) (clK rfl clZ)) ?_
  refine run_f 136 [.tmp 6, .tmp 7] (c35 0) (zipE [0, 1, 2] [.sl false (a0.map E_GTone), .sl false (a1.map E_GFigure), .sl false (a2.map AV.i)]) (by kernel_rfl) (by kernel_rfl) (by kernel_rfl) rfl ?_
  unfold f35 at h
  refine run1 (c35 2) [] [0, 1, 2] [] (zipE [0, 1, 2] [.sl false (a0.map E_GTone), .sl false (a1.map E_GFigure), .sl false (a2.map AV.i)]) ⟨[], 0⟩ _ (by kernel_rfl) cj0 ?_
  refine run_s (c35 3) (c35 12) (by kernel_rfl) ?_
  obtain ⟨r1, hr1, h⟩ := bindE h
  refine run1 (c35 5) [{}, {}, { c := some (.i r1, ⟨[], 0⟩) }] [0, 1, 2, 8] [] (zipE [0, 1, 2, 8] [.sl false (a0.map E_GTone), .sl false (a1.map E_GFigure), .sl false (a2.map AV.i), .i r1]) ⟨[], 0⟩ _ (by kernel_rfl) (cj1 (f60_ok a0 a1 _ hr1 ⟨[], 0⟩)) ?_
  refine run1 (c35 7) [] [0, 1, 2, 8, 21] [] (zipE [0, 1, 2, 8, 21] [.sl false (a0.map E_GTone), .sl false (a1.map E_GFigure), .sl false (a2.map AV.i), .i r1, .bool (decide (r1 ≠ 0))]) ⟨[], 0⟩ _ (by kernel_rfl) cj0 ?_
  rcases iteE h with ⟨hc2, h⟩ | ⟨hc2, h⟩
  · refine run_cT 21 (c35 8) (c35 11) (decide (r1 ≠ 0)) hc2 (by kernel_rfl) (by kernel_rfl) ?_
    refine run1 (c35 10) [] [6, 7] [] (zipE [6, 7] [.sl true [], .i r1]) ⟨[], 0⟩ _ (by kernel_rfl) cj0 ?_
    refine run_i 0 [] [6, 7] [.sl true [], .i r1] (xs := [.sl false (([] : List GTone).map E_GTone), .i r1]) (S2 := ⟨[], 0⟩) ?_ (by intro i e; cases e <;> exact Nat.le_of_ble_eq_true rfl) (by kernel_rfl) (by kernel_rfl) (by kernel_rfl) (.k (.s (cleanMap (([] : List GTone)) _ cl_GTone)) (.k (.c rfl) .z)) .z
    refine run_t (by kernel_rfl) ?_
    refine thenR ?_
    replace h := Option.some.inj h; subst h
    exact fin_r (by kernel_rfl) rfl
  · refine run_cF 21 (c35 8) (c35 11) (decide (r1 ≠ 0)) hc2 (by kernel_rfl) (by kernel_rfl) ?_
    refine run_k (by kernel_rfl) ?_
    refine thenN ?_
    refine run_s (c35 13) (c35 20) (by kernel_rfl) ?_
    refine run1 (c35 15) [{}, { k := 1, n := a2.length }] [0, 1, 2, 25] [] (zipE [0, 1, 2, 25] [.sl false (a0.map E_GTone), .sl false (a1.map E_GFigure), .sl false (a2.map AV.i), .bool (decide (400 < (a2.length : Int)))]) ⟨[], 0⟩ _ (by kernel_rfl) (cj1 (mapLen a2 AV.i)) ?_
    rcases iteE h with ⟨hc3, h⟩ | ⟨hc3, h⟩
    · refine run_cT 25 (c35 16) (c35 19) (decide (400 < (a2.length : Int))) hc3 (by kernel_rfl) (by kernel_rfl) ?_
      refine run1 (c35 18) [] [6, 7] [] (zipE [6, 7] [.sl true [], .i 1]) ⟨[], 0⟩ _ (by kernel_rfl) cj0 ?_
      refine run_i 0 [] [6, 7] [.sl true [], .i 1] (xs := [.sl false (([] : List GTone).map E_GTone), .i 1]) (S2 := ⟨[], 0⟩) ?_ (by intro i e; cases e <;> exact Nat.le_of_ble_eq_true rfl) (by kernel_rfl) (by kernel_rfl) (by kernel_rfl) (.k (.s (cleanMap (([] : List GTone)) _ cl_GTone)) (.k (.c rfl) .z)) .z
      refine run_t (by kernel_rfl) ?_
      refine thenR ?_
      replace h := Option.some.inj h; subst h
      exact fin_r (by kernel_rfl) rfl
    · refine run_cF 25 (c35 16) (c35 19) (decide (400 < (a2.length : Int))) hc3 (by kernel_rfl) (by kernel_rfl) ?_
      refine run_k (by kernel_rfl) ?_
      refine thenN ?_
      refine run_s (c35 21) (c35 41) (by kernel_rfl) ?_
      refine run1 (c35 23) [] [0, 1, 2, 9] [] (zipE [0, 1, 2, 9] [.sl false (a0.map E_GTone), .sl false (a1.map E_GFigure), .sl false (a2.map AV.i), .i 0]) ⟨[], 0⟩ _ (by kernel_rfl) cj0 ?_
      obtain ⟨ol1x, hll1x, h⟩ := bindE h
      refine run_tq (fun (_ : Unit) => (zipE [0, 1, 2] [.sl false (a0.map E_GTone), .sl false (a1.map E_GFigure), .sl false (a2.map AV.i)])) (fun (_ : Unit) => ⟨[], 0⟩) (fun j => ol1x = .inl j) (fun kl1 => ?_) ?_
      · refine run_b 0 (c35 24) (by kernel_rfl) ?_
        refine run_l (c35 25) _ hll1x (fun (l1_9 : Int) => (zipE [0, 1, 2, 9] [.sl false (a0.map E_GTone), .sl false (a1.map E_GFigure), .sl false (a2.map AV.i), .i l1_9])) (fun (l1_9 : Int) => ⟨[], 0⟩) [] (by intro i e; cases e <;> exact Nat.le_of_ble_eq_true rfl) (by kernel_rfl) (mkInto (ks := [0, 1, 2, 9]) (ys := [.sl false (a0.map E_GTone), .sl false (a1.map E_GFigure), .sl false (a2.map AV.i), .i 0]) (by kernel_rfl) (by kernel_rfl) (.k (.c (cleanMap _ _ cl_GTone)) (.k (.c (cleanMap _ _ cl_GFigure)) (.k (.c (cleanMap _ _ cl_i)) (.k (.c rfl) .z)))) .z) ?_
        rintro l1_9 out hl1 rl1
        refine run_s (c35 26) (c35 31) (by kernel_rfl) ?_
        refine run1 (c35 28) [{}, {}, { k := 1, n := a2.length }] [0, 1, 2, 9, 29] [] (zipE [0, 1, 2, 9, 29] [.sl false (a0.map E_GTone), .sl false (a1.map E_GFigure), .sl false (a2.map AV.i), .i l1_9, .bool (decide (l1_9 < (a2.length : Int)))]) ⟨[], 0⟩ _ (by kernel_rfl) (cj1 (mapLen a2 AV.i)) ?_
        rcases iteE hl1 with ⟨hc4, hl1⟩ | ⟨hc4, hl1⟩
        · refine run_cT 29 (c35 29) (c35 30) (decide (l1_9 < (a2.length : Int))) hc4 (by kernel_rfl) (by kernel_rfl) ?_
          refine run_k (by kernel_rfl) ?_
          refine thenN ?_
          refine run_s (c35 32) (c35 40) (by kernel_rfl) ?_
          refine run_b 1 (c35 33) (by kernel_rfl) ?_
          obtain ⟨j2_45, hj2, hl1⟩ := bindE hl1
          refine run_gq (c35 35) (fun (j2_45 : Bool) => (zipE [0, 1, 2, 9, 45] [.sl false (a0.map E_GTone), .sl false (a1.map E_GFigure), .sl false (a2.map AV.i), .i l1_9, .bool j2_45])) (fun (j2_45 : Bool) => ⟨[], 0⟩) (fun j => j2_45 = j) (fun kj2 => ?_) ?_
          · obtain ⟨y5, hy5, hj2⟩ := bindE hj2
            rcases iteE hj2 with ⟨hc6, hj2⟩ | ⟨hc6, hj2⟩
            · replace hj2 := Option.some.inj hj2; subst hj2
              exact run1 (c35 35) [{}, {}, { k := 1, x := AV.i y5 }, {}, {}, {}, { g := false }, { g := false }, { g := false }, { g := false }, { g := false }, { g := false }, { g := false }, { k := 1, b := true }] [0, 1, 2, 9, 45] [] (zipE [0, 1, 2, 9, 45] [.sl false (a0.map E_GTone), .sl false (a1.map E_GFigure), .sl false (a2.map AV.i), .i l1_9, .bool true]) ⟨[], 0⟩ _ (by kernel_rfl) (cjC ((ixE hy5).1) (cjC (mapGet AV.i (ixE hy5).2) (cjC (hc6) (cjC (hc6) (cjC (hc6) (cjC (hc6) (cjC (hc6) (cjC (hc6) (cjC (hc6) (cj1 (hc6))))))))))) (kj2 true rfl)
            · replace hj2 := Option.some.inj hj2; subst hj2
              exact run1 (c35 35) [{}, {}, { k := 1, x := AV.i y5 }, {}, {}, {}, {}, {}, { k := 1, x := AV.i y5 }, {}, {}, { k := 1, n := a1.length }, {}, { k := 1, b := false }] [0, 1, 2, 9, 45] [] (zipE [0, 1, 2, 9, 45] [.sl false (a0.map E_GTone), .sl false (a1.map E_GFigure), .sl false (a2.map AV.i), .i l1_9, .bool (decide ((a1.length : Int) < y5))]) ⟨[], 0⟩ _ (by kernel_rfl) (cjC ((ixE hy5).1) (cjC (mapGet AV.i (ixE hy5).2) (cjC (hc6) (cjC (hc6) (cjC (hc6) (cjC ((ixE hy5).1) (cjC (mapGet AV.i (ixE hy5).2) (cjC (hc6) (cjC (hc6) (cjC (hc6) (cjC (mapLen a1 E_GFigure) (cjC (hc6) (cj1 (hc6)))))))))))))) (kj2 (decide ((a1.length : Int) < y5)) rfl)
          · rintro _ rfl
            rcases iteE hl1 with ⟨hc7, hl1⟩ | ⟨hc7, hl1⟩
            · refine run_cT 45 (c35 36) (c35 39) j2_45 hc7 (by kernel_rfl) (by kernel_rfl) ?_
              refine run1 (c35 38) [] [6, 7] [] (zipE [6, 7] [.sl true [], .i 1]) ⟨[], 0⟩ _ (by kernel_rfl) cj0 ?_
              replace hl1 := Option.some.inj hl1; subst hl1
              have hr := rl1 _ rfl
              subst hr
              replace h := elimR h
              refine run_i 0 [] [6, 7] [.sl true [], .i 1] (xs := [.sl false (([] : List GTone).map E_GTone), .i 1]) (S2 := ⟨[], 0⟩) ?_ (by intro i e; cases e <;> exact Nat.le_of_ble_eq_true rfl) (by kernel_rfl) (by kernel_rfl) (by kernel_rfl) (.k (.s (cleanMap (([] : List GTone)) _ cl_GTone)) (.k (.c rfl) .z)) .z
              refine run_t (by kernel_rfl) ?_
              refine inbR ?_
              refine thenR ?_
              refine ⟨⟨_, rfl⟩, ?_⟩
              refine inbR ?_
              refine thenR ?_
              replace h := Option.some.inj h; subst h
              exact fin_r (by kernel_rfl) rfl
            · refine run_cF 45 (c35 36) (c35 39) j2_45 hc7 (by kernel_rfl) (by kernel_rfl) ?_
              refine run_k (by kernel_rfl) ?_
              refine inbN ?_
              refine thenN ?_
              refine run0 [] [0, 1, 2, 9] [] (zipE [0, 1, 2, 9] [.sl false (a0.map E_GTone), .sl false (a1.map E_GFigure), .sl false (a2.map AV.i), .i (wr (l1_9 + 1))]) ⟨[], 0⟩ _ (by kernel_rfl) cj0 ?_
              replace hl1 := Option.some.inj hl1; subst hl1
              exact ⟨_, rfl, pi [], mkInto (ks := [0, 1, 2, 9]) (ys := [.sl false (a0.map E_GTone), .sl false (a1.map E_GFigure), .sl false (a2.map AV.i), .i (wr (l1_9 + 1))]) (by kernel_rfl) (by kernel_rfl) (.k (.c (cleanMap _ _ cl_GTone)) (.k (.c (cleanMap _ _ cl_GFigure)) (.k (.c (cleanMap _ _ cl_i)) (.k (.c rfl) .z)))) .z⟩
        · refine run_cF 29 (c35 29) (c35 30) (decide (l1_9 < (a2.length : Int))) hc4 (by kernel_rfl) (by kernel_rfl) ?_
          replace hl1 := Option.some.inj hl1; subst hl1
          have hr := rl1 _ rfl
          subst hr
          refine awp_p [0, 1, 2] [] (zipE [0, 1, 2] [.sl false (a0.map E_GTone), .sl false (a1.map E_GFigure), .sl false (a2.map AV.i)]) ⟨[], 0⟩ (by kernel_rfl) (?_)
          refine run_e 0 (by kernel_rfl) ?_
          refine thenE ?_
          refine ⟨⟨_, rfl⟩, ?_⟩
          refine inbE ?_
          exact kl1 () rfl
      · rintro ⟨⟩ rfl
        replace h := elimL h
        refine thenN ?_
        refine run1 (c35 43) [] [0, 1, 2, 10] [] (zipE [0, 1, 2, 10] [.sl false (a0.map E_GTone), .sl false (a1.map E_GFigure), .sl false (a2.map AV.i), .sl true []]) ⟨[], 0⟩ _ (by kernel_rfl) cj0 ?_
        refine run1 (c35 45) [] [0, 1, 2, 10, 11] [] (zipE [0, 1, 2, 10, 11] [.sl false (a0.map E_GTone), .sl false (a1.map E_GFigure), .sl false (a2.map AV.i), .sl true [], .i 0]) ⟨[], 0⟩ _ (by kernel_rfl) cj0 ?_
        refine run_s (c35 46) (c35 78) (by kernel_rfl) ?_
        refine run1 (c35 48) [] [0, 1, 2, 10, 11, 12] [] (zipE [0, 1, 2, 10, 11, 12] [.sl false (a0.map E_GTone), .sl false (a1.map E_GFigure), .sl false (a2.map AV.i), .sl true [], .i 0, .i 0]) ⟨[], 0⟩ _ (by kernel_rfl) cj0 ?_
        obtain ⟨ol3x, hll3x, h⟩ := bindE h
        refine run_tq (fun ((l3x_10, l3x_11) : (List GTone × Int)) => (zipE [0, 1, 2, 10, 11] [.sl false (a0.map E_GTone), .sl false (a1.map E_GFigure), .sl false (a2.map AV.i), .ms 0 0 l3x_10.length, .i l3x_11])) (fun ((l3x_10, l3x_11) : (List GTone × Int)) => ⟨[(0, .cells 3 (l3x_10.map E_GTone))], 1⟩) (fun j => ol3x = .inl j) (fun kl3 => ?_) ?_
        · refine run_b 2 (c35 49) (by kernel_rfl) ?_
          refine run_l (c35 50) _ hll3x (fun ((l3_10, l3_11, l3_12) : (List GTone × Int × Int)) => (zipE [0, 1, 2, 10, 11, 12] [.sl false (a0.map E_GTone), .sl false (a1.map E_GFigure), .sl false (a2.map AV.i), .ms 0 0 l3_10.length, .i l3_11, .i l3_12])) (fun ((l3_10, l3_11, l3_12) : (List GTone × Int × Int)) => ⟨[(0, .cells 3 (l3_10.map E_GTone))], 1⟩) [(0, 1000000)] (by intro i e; cases e <;> exact Nat.le_of_ble_eq_true rfl) (by kernel_rfl) (mkInto (ks := [0, 1, 2, 10, 11, 12]) (ys := [.sl false (a0.map E_GTone), .sl false (a1.map E_GFigure), .sl false (a2.map AV.i), .sl true [], .i 0, .i 0]) (by kernel_rfl) (by kernel_rfl) (.k (.c (cleanMap _ _ cl_GTone)) (.k (.c (cleanMap _ _ cl_GFigure)) (.k (.c (cleanMap _ _ cl_i)) (.k (.n) (.k (.c rfl) (.k (.c rfl) .z)))))) (.n rfl rfl rfl .z)) ?_
          rintro ⟨l3_10, l3_11, l3_12⟩ out hl3 rl3
          refine run_s (c35 51) (c35 56) (by kernel_rfl) ?_
          refine run1 (c35 53) [{}, {}, { k := 1, n := a2.length }] [0, 1, 2, 10, 11, 12, 49] [0] (zipE [0, 1, 2, 10, 11, 12, 49] [.sl false (a0.map E_GTone), .sl false (a1.map E_GFigure), .sl false (a2.map AV.i), .ms 0 0 l3_10.length, .i l3_11, .i l3_12, .bool (decide (l3_12 < (a2.length : Int)))]) ⟨[(0, .cells 3 (l3_10.map E_GTone))], 1⟩ _ (by kernel_rfl) (cj1 (mapLen a2 AV.i)) ?_
          rcases iteE hl3 with ⟨hc8, hl3⟩ | ⟨hc8, hl3⟩
          · refine run_cT 49 (c35 54) (c35 55) (decide (l3_12 < (a2.length : Int))) hc8 (by kernel_rfl) (by kernel_rfl) ?_
            refine run_k (by kernel_rfl) ?_
            refine thenN ?_
            refine run_s (c35 57) (c35 77) (by kernel_rfl) ?_
            refine run_b 3 (c35 58) (by kernel_rfl) ?_
            refine run1 (c35 60) [] [0, 1, 2, 10, 11, 12, 13] [0] (zipE [0, 1, 2, 10, 11, 12, 13] [.sl false (a0.map E_GTone), .sl false (a1.map E_GFigure), .sl false (a2.map AV.i), .ms 0 0 l3_10.length, .i l3_11, .i l3_12, .i 1]) ⟨[(0, .cells 3 (l3_10.map E_GTone))], 1⟩ _ (by kernel_rfl) cj0 ?_
            obtain ⟨j4_13, hj4, hl3⟩ := bindE hl3
            refine run_jq (c35 61) (c35 66) (fun (j4_13 : Int) => (zipE [0, 1, 2, 10, 11, 12, 13] [.sl false (a0.map E_GTone), .sl false (a1.map E_GFigure), .sl false (a2.map AV.i), .ms 0 0 l3_10.length, .i l3_11, .i l3_12, .i j4_13])) (fun (j4_13 : Int) => ⟨[(0, .cells 3 (l3_10.map E_GTone))], 1⟩) (fun j => j4_13 = j) (by kernel_rfl) (fun kj4 => ?_) ?_
            · obtain ⟨y9, hy9, hj4⟩ := bindE hj4
              refine run1 (c35 63) [{}, {}, { k := 1, x := AV.i y9 }] [0, 1, 2, 10, 11, 12, 13, 56] [0] (zipE [0, 1, 2, 10, 11, 12, 13, 56] [.sl false (a0.map E_GTone), .sl false (a1.map E_GFigure), .sl false (a2.map AV.i), .ms 0 0 l3_10.length, .i l3_11, .i l3_12, .i 1, .bool (decide (0 < y9))]) ⟨[(0, .cells 3 (l3_10.map E_GTone))], 1⟩ _ (by kernel_rfl) (cjC ((ixE hy9).1) (cj1 (mapGet AV.i (ixE hy9).2))) ?_
              rcases iteE hj4 with ⟨hc10, hj4⟩ | ⟨hc10, hj4⟩
              · refine run_cT 56 (c35 64) (c35 65) (decide (0 < y9)) hc10 (by kernel_rfl) (by kernel_rfl) ?_
                obtain ⟨y11, hy11, hj4⟩ := bindE hj4
                refine run0 [{}, {}, {}, { k := 1, x := AV.i y9 }, {}, {}, { k := 1, x := E_GFigure y11 }, {}, {}, { k := 1, n := y11.moves.length }] [0, 1, 2, 10, 11, 12, 13] [0] (zipE [0, 1, 2, 10, 11, 12, 13] [.sl false (a0.map E_GTone), .sl false (a1.map E_GFigure), .sl false (a2.map AV.i), .ms 0 0 l3_10.length, .i l3_11, .i l3_12, .i (y11.moves.length : Int)]) ⟨[(0, .cells 3 (l3_10.map E_GTone))], 1⟩ _ (by kernel_rfl) (cjC ((ixE hy9).1) (cjC (mapGet AV.i (ixE hy9).2) (cjC ((ixE hy11).1) (cjC (mapGet E_GFigure (ixE hy11).2) (cj1 (mapLen y11.moves AV.i)))))) ?_
                replace hj4 := Option.some.inj hj4; subst hj4
                refine thenN ?_
                exact kj4 (y11.moves.length : Int) rfl
              · refine run_cF 56 (c35 64) (c35 65) (decide (0 < y9)) hc10 (by kernel_rfl) (by kernel_rfl) ?_
                replace hj4 := Option.some.inj hj4; subst hj4
                refine awp_p [0, 1, 2, 10, 11, 12, 13] [0] (zipE [0, 1, 2, 10, 11, 12, 13] [.sl false (a0.map E_GTone), .sl false (a1.map E_GFigure), .sl false (a2.map AV.i), .ms 0 0 l3_10.length, .i l3_11, .i l3_12, .i 1]) ⟨[(0, .cells 3 (l3_10.map E_GTone))], 1⟩ (by kernel_rfl) (?_)
                refine run_k (by kernel_rfl) ?_
                refine thenN ?_
                exact kj4 1 rfl
            · rintro _ rfl
              refine run_s (c35 67) (c35 74) (by kernel_rfl) ?_
              refine run1 (c35 69) [{}, {}, {}, {}, { k := 1, n := a0.length }] [0, 1, 2, 10, 11, 12, 13, 72] [0] (zipE [0, 1, 2, 10, 11, 12, 13, 72] [.sl false (a0.map E_GTone), .sl false (a1.map E_GFigure), .sl false (a2.map AV.i), .ms 0 0 l3_10.length, .i l3_11, .i l3_12, .i j4_13, .bool (decide ((a0.length : Int) < (wr (l3_11 + j4_13))))]) ⟨[(0, .cells 3 (l3_10.map E_GTone))], 1⟩ _ (by kernel_rfl) (cj1 (mapLen a0 E_GTone)) ?_
              rcases iteE hl3 with ⟨hc12, hl3⟩ | ⟨hc12, hl3⟩
              · refine run_cT 72 (c35 70) (c35 73) (decide ((a0.length : Int) < (wr (l3_11 + j4_13)))) hc12 (by kernel_rfl) (by kernel_rfl) ?_
                refine run1 (c35 72) [] [6, 7] [] (zipE [6, 7] [.sl true [], .i 81]) ⟨[], 1⟩ _ (by kernel_rfl) cj0 ?_
                replace hl3 := Option.some.inj hl3; subst hl3
                have hr := rl3 _ rfl
                subst hr
                replace h := elimR h
                refine run_i 1 [] [6, 7] [.sl true [], .i 81] (xs := [.sl false (([] : List GTone).map E_GTone), .i 81]) (S2 := ⟨[], 1⟩) ?_ (by intro i e; cases e <;> exact Nat.le_of_ble_eq_true rfl) (by kernel_rfl) (by kernel_rfl) (by kernel_rfl) (.k (.s (cleanMap (([] : List GTone)) _ cl_GTone)) (.k (.c rfl) .z)) .z
                refine run_t (by kernel_rfl) ?_
                refine thenR ?_
                refine inbR ?_
                refine thenR ?_
                refine ⟨⟨_, rfl⟩, ?_⟩
                refine inbR ?_
                refine thenR ?_
                replace h := Option.some.inj h; subst h
                exact fin_r (by kernel_rfl) rfl
              · refine run_cF 72 (c35 70) (c35 73) (decide ((a0.length : Int) < (wr (l3_11 + j4_13)))) hc12 (by kernel_rfl) (by kernel_rfl) ?_
                refine run_k (by kernel_rfl) ?_
                refine thenN ?_
                obtain ⟨y13, hy13, hl3⟩ := bindE hl3
                obtain ⟨y14, hy14, hl3⟩ := bindE hl3
                obtain ⟨hn15, hl3⟩ := needE hl3
                refine yun1 (c35 76) [[], [], [], [1, 2], [1, 2, 3], [1, 2, 3, 4], [], [], [6, 7], [6, 7, 8], [6, 7, 8, 9], [], [], [], [12, 13], [12, 13, 14], [11, 12, 13, 14, 15], [11, 12, 13, 14, 15, 16], [11, 12, 13, 14, 15, 16, 17], [1, 2, 3, 4, 5, 6, 7, 8, 9, 10, 11, 12, 13, 14, 15, 16, 17, 18], [1, 2, 3, 4, 5, 6, 7, 8, 9, 10, 11, 12, 13, 14, 15, 16, 17, 18, 19], [0, 1, 2, 3, 4, 5, 6, 7, 8, 9, 10, 11, 12, 13, 14, 15, 16, 17, 18, 19, 20], [0, 1, 2, 3, 4, 5, 6, 7, 8, 9, 10, 11, 12, 13, 14, 15, 16, 17, 18, 19, 20, 21]] [.light 0 false, .light 1 false, .light 2 false, .light 3 false, .light 4 false, .light 5 false, .light 6 false, .light 7 false, .light 8 false, .light 9 false, .light 10 false, .light 11 false, .light 12 false, .light 13 false, .light 14 false, .light 15 false, .light 16 false, .light 17 false, .light 18 false, .light 19 false, .light 20 false, .heavy 21 [], .light 22 false] [{}, {}, {}, { k := 1, x := E_GTone y13 }, {}, {}, {}, {}, { k := 1, x := E_GTone y13 }, {}, {}, {}, {}, {}, {}, {}, { k := 1, x := E_GTone y14 }, {}, {}, {}, {}, { k := 1, n := (l3_10 ++ [(⟨y13.pitch, y13.from_, y14.to_⟩ : GTone)]).length, l := (l3_10 ++ [(⟨y13.pitch, y13.from_, y14.to_⟩ : GTone)]).map E_GTone }] [0, 1, 2, 10, 11, 12, 13] [1] (zipE [0, 1, 2, 10, 11, 12, 13] [.sl false (a0.map E_GTone), .sl false (a1.map E_GFigure), .sl false (a2.map AV.i), .ms 1 0 (l3_10 ++ [(⟨y13.pitch, y13.from_, y14.to_⟩ : GTone)]).length, .i l3_11, .i l3_12, .i j4_13]) ⟨[(1, .cells 3 ((l3_10 ++ [(⟨y13.pitch, y13.from_, y14.to_⟩ : GTone)]).map E_GTone))], 2⟩ _ (by kernel_rfl) (cjC ((ixE hy13).1) (cjC (mapGet E_GTone (ixE hy13).2) (cjC ((ixE hy13).1) (cjC (mapGet E_GTone (ixE hy13).2) (cjC ((ixE hy14).1) (cjC (mapGet E_GTone (ixE hy14).2) (cjC (@List.cons_ne_nil AV (.agg [.i y13.pitch, .i y13.from_, .i y14.to_]) []) (cjC (mLe l3_10 E_GTone) (cjC (hn15) (cjC (lenA l3_10 ([(⟨y13.pitch, y13.from_, y14.to_⟩ : GTone)] : List GTone)) (cjC (appA l3_10 ([(⟨y13.pitch, y13.from_, y14.to_⟩ : GTone)] : List GTone) E_GTone) (cj1 (fitsOne (P := Tryz.prog) (t := 53) (x := .agg [.i y13.pitch, .i y13.from_, .i y14.to_]) (r := []) (by kernel_rfl)))))))))))))) ?_
                refine run0 [] [0, 1, 2, 10, 11, 12] [1] (zipE [0, 1, 2, 10, 11, 12] [.sl false (a0.map E_GTone), .sl false (a1.map E_GFigure), .sl false (a2.map AV.i), .ms 1 0 (l3_10 ++ [(⟨y13.pitch, y13.from_, y14.to_⟩ : GTone)]).length, .i (wr (l3_11 + j4_13)), .i l3_12]) ⟨[(1, .cells 3 ((l3_10 ++ [(⟨y13.pitch, y13.from_, y14.to_⟩ : GTone)]).map E_GTone))], 2⟩ _ (by kernel_rfl) cj0 ?_
                refine inbN ?_
                refine thenN ?_
                refine run0 [] [0, 1, 2, 10, 11, 12] [1] (zipE [0, 1, 2, 10, 11, 12] [.sl false (a0.map E_GTone), .sl false (a1.map E_GFigure), .sl false (a2.map AV.i), .ms 1 0 (l3_10 ++ [(⟨y13.pitch, y13.from_, y14.to_⟩ : GTone)]).length, .i (wr (l3_11 + j4_13)), .i (wr (l3_12 + 1))]) ⟨[(1, .cells 3 ((l3_10 ++ [(⟨y13.pitch, y13.from_, y14.to_⟩ : GTone)]).map E_GTone))], 2⟩ _ (by kernel_rfl) cj0 ?_
                replace hl3 := Option.some.inj hl3; subst hl3
                exact ⟨_, rfl, pi [(0, 1)], mkInto (ks := [0, 1, 2, 10, 11, 12]) (ys := [.sl false (a0.map E_GTone), .sl false (a1.map E_GFigure), .sl false (a2.map AV.i), .ms 1 0 (l3_10 ++ [(⟨y13.pitch, y13.from_, y14.to_⟩ : GTone)]).length, .i (wr (l3_11 + j4_13)), .i (wr (l3_12 + 1))]) (by kernel_rfl) (by kernel_rfl) (.k (.c (cleanMap _ _ cl_GTone)) (.k (.c (cleanMap _ _ cl_GFigure)) (.k (.c (cleanMap _ _ cl_i)) (.k (.ms rfl rfl) (.k (.c rfl) (.k (.c rfl) .z)))))) (.k (x' := .cells 3 ((l3_10 ++ [(⟨y13.pitch, y13.from_, y14.to_⟩ : GTone)]).map E_GTone)) (by kernel_rfl) (.cells (.r (cleanMap _ _ cl_GTone))) .z)⟩
          · refine run_cF 49 (c35 54) (c35 55) (decide (l3_12 < (a2.length : Int))) hc8 (by kernel_rfl) (by kernel_rfl) ?_
            replace hl3 := Option.some.inj hl3; subst hl3
            have hr := rl3 _ rfl
            subst hr
            refine awp_p [0, 1, 2, 10, 11] [0] (zipE [0, 1, 2, 10, 11] [.sl false (a0.map E_GTone), .sl false (a1.map E_GFigure), .sl false (a2.map AV.i), .ms 0 0 l3_10.length, .i l3_11]) ⟨[(0, .cells 3 (l3_10.map E_GTone))], 1⟩ (by kernel_rfl) (?_)
            refine run_e 2 (by kernel_rfl) ?_
            refine thenE ?_
            refine ⟨⟨_, rfl⟩, ?_⟩
            refine inbE ?_
            exact kl3 (l3_10, l3_11) rfl
        · rintro ⟨l3x_10, l3x_11⟩ rfl
          replace h := elimL h
          refine thenN ?_
          refine run_z 0 3 (l3x_10.map E_GTone) [0, 1, 2, 10, 11] [.sl false (a0.map E_GTone), .sl false (a1.map E_GFigure), .sl false (a2.map AV.i), .ms 0 0 l3x_10.length, .i l3x_11] (xs := [.sl false (a0.map E_GTone), .sl false (a1.map E_GFigure), .sl false (a2.map AV.i), .sl false (l3x_10.map E_GTone), .i l3x_11]) (S2 := ⟨[], 1⟩) ?_ (by kernel_rfl) (by kernel_rfl) (.k (.r _) (.k (.r _) (.k (.r _) (.k (.m (mLe l3x_10 E_GTone) (mapAll l3x_10 E_GTone)) (.k (.r _) .z))))) .z rfl rfl
          obtain ⟨r16, hr16, h⟩ := bindE h
          refine run1 (c35 80) [{}, {}, {}, { c := some (.tup [.sl false (r16.1.map E_GTone), .i r16.2], ⟨[], 1⟩) }] [0, 10, 11, 14, 15] [] (zipE [0, 10, 11, 14, 15] [.sl false (a0.map E_GTone), .sl false (l3x_10.map E_GTone), .i l3x_11, .sl false (r16.1.map E_GTone), .i r16.2]) ⟨[], 1⟩ _ (by kernel_rfl) (cj1 (f32_ok l3x_10 a1 a2 _ hr16 ⟨[], 1⟩)) ?_
          refine run_s (c35 81) (c35 88) (by kernel_rfl) ?_
          obtain ⟨j5_119, hj5, h⟩ := bindE h
          refine run_gq (c35 83) (fun (j5_119 : Bool) => (zipE [0, 10, 14, 119] [.sl false (a0.map E_GTone), .sl false (l3x_10.map E_GTone), .sl false (r16.1.map E_GTone), .bool j5_119])) (fun (j5_119 : Bool) => ⟨[], 1⟩) (fun j => j5_119 = j) (fun kj5 => ?_) ?_
          · rcases iteE hj5 with ⟨hc17, hj5⟩ | ⟨hc17, hj5⟩
            · replace hj5 := Option.some.inj hj5; subst hj5
              exact run1 (c35 83) [{}, {}, { k := 1, n := a0.length }, {}, {}, { g := false }, { g := false }, { k := 1, b := true }, {}, { g := false }, { g := false }, { g := false }, { g := false }, { g := false }] [0, 10, 14, 119] [] (zipE [0, 10, 14, 119] [.sl false (a0.map E_GTone), .sl false (l3x_10.map E_GTone), .sl false (r16.1.map E_GTone), .bool true]) ⟨[], 1⟩ _ (by kernel_rfl) (cjC (mapLen a0 E_GTone) (cjC (hc17) (cjC (hc17) (cjC (hc17) (cjC (Eq.refl true) (cjC (Eq.refl true) (cjC (Eq.refl true) (cjC (Eq.refl true) (cj1 (Eq.refl true)))))))))) (kj5 true rfl)
            · rcases iteE hj5 with ⟨hc18, hj5⟩ | ⟨hc18, hj5⟩
              · replace hj5 := Option.some.inj hj5; subst hj5
                exact run1 (c35 83) [{}, {}, { k := 1, n := a0.length }, {}, {}, {}, {}, { k := 1, b := false }, {}, { g := false }, { g := false }, { g := false }, { g := false }, { g := false }, { k := 1, b := true }] [0, 10, 14, 119] [] (zipE [0, 10, 14, 119] [.sl false (a0.map E_GTone), .sl false (l3x_10.map E_GTone), .sl false (r16.1.map E_GTone), .bool true]) ⟨[], 1⟩ _ (by kernel_rfl) (cjC (mapLen a0 E_GTone) (cjC (hc17) (cjC (hc17) (cjC (hc17) (cjC (hc18) (cjC (hc18) (cjC (hc18) (cjC (hc18) (cjC (hc18) (cj1 (hc18))))))))))) (kj5 true rfl)
              · replace hj5 := Option.some.inj hj5; subst hj5
                exact run1 (c35 83) [{}, {}, { k := 1, n := a0.length }, {}, {}, {}, {}, { k := 1, b := false }, {}, {}, { k := 1, n := r16.1.length }, {}, { k := 1, n := a0.length }, {}, { k := 1, b := false }] [0, 10, 14, 119] [] (zipE [0, 10, 14, 119] [.sl false (a0.map E_GTone), .sl false (l3x_10.map E_GTone), .sl false (r16.1.map E_GTone), .bool (decide ((r16.1.length : Int) ≠ (a0.length : Int)))]) ⟨[], 1⟩ _ (by kernel_rfl) (cjC (mapLen a0 E_GTone) (cjC (hc17) (cjC (hc17) (cjC (hc17) (cjC (hc18) (cjC (hc18) (cjC (mapLen r16.1 E_GTone) (cjC (hc18) (cjC (hc18) (cjC (mapLen a0 E_GTone) (cjC (hc18) (cj1 (hc18))))))))))))) (kj5 (decide ((r16.1.length : Int) ≠ (a0.length : Int))) rfl)
          · rintro _ rfl
            rcases iteE h with ⟨hc19, h⟩ | ⟨hc19, h⟩
            · refine run_cT 119 (c35 84) (c35 87) j5_119 hc19 (by kernel_rfl) (by kernel_rfl) ?_
              refine run1 (c35 86) [] [6, 7] [] (zipE [6, 7] [.sl true [], .i 81]) ⟨[], 1⟩ _ (by kernel_rfl) cj0 ?_
              refine run_i 1 [] [6, 7] [.sl true [], .i 81] (xs := [.sl false (([] : List GTone).map E_GTone), .i 81]) (S2 := ⟨[], 1⟩) ?_ (by intro i e; cases e <;> exact Nat.le_of_ble_eq_true rfl) (by kernel_rfl) (by kernel_rfl) (by kernel_rfl) (.k (.s (cleanMap (([] : List GTone)) _ cl_GTone)) (.k (.c rfl) .z)) .z
              refine run_t (by kernel_rfl) ?_
              refine thenR ?_
              replace h := Option.some.inj h; subst h
              exact fin_r (by kernel_rfl) rfl
            · refine run_cF 119 (c35 84) (c35 87) j5_119 hc19 (by kernel_rfl) (by kernel_rfl) ?_
              refine run_k (by kernel_rfl) ?_
              refine thenN ?_
              refine run_s (c35 89) (c35 109) (by kernel_rfl) ?_
              refine run1 (c35 91) [] [0, 10, 14, 16] [] (zipE [0, 10, 14, 16] [.sl false (a0.map E_GTone), .sl false (l3x_10.map E_GTone), .sl false (r16.1.map E_GTone), .i 0]) ⟨[], 1⟩ _ (by kernel_rfl) cj0 ?_
              obtain ⟨ol6x, hll6x, h⟩ := bindE h
              refine run_tq (fun (_ : Unit) => (zipE [10] [.sl false (l3x_10.map E_GTone)])) (fun (_ : Unit) => ⟨[], 1⟩) (fun j => ol6x = .inl j) (fun kl6 => ?_) ?_
              · refine run_b 4 (c35 92) (by kernel_rfl) ?_
                refine run_l (c35 93) _ hll6x (fun (l6_16 : Int) => (zipE [0, 10, 14, 16] [.sl false (a0.map E_GTone), .sl false (l3x_10.map E_GTone), .sl false (r16.1.map E_GTone), .i l6_16])) (fun (l6_16 : Int) => ⟨[], 1⟩) [] (by intro i e; cases e <;> exact Nat.le_of_ble_eq_true rfl) (by kernel_rfl) (mkInto (ks := [0, 10, 14, 16]) (ys := [.sl false (a0.map E_GTone), .sl false (l3x_10.map E_GTone), .sl false (r16.1.map E_GTone), .i 0]) (by kernel_rfl) (by kernel_rfl) (.k (.c (cleanMap _ _ cl_GTone)) (.k (.c (cleanMap _ _ cl_GTone)) (.k (.c (cleanMap _ _ cl_GTone)) (.k (.c rfl) .z)))) .z) ?_
                rintro l6_16 out hl6 rl6
                refine run_s (c35 94) (c35 99) (by kernel_rfl) ?_
                refine run1 (c35 96) [{}, {}, { k := 1, n := a0.length }] [0, 10, 14, 16, 123] [] (zipE [0, 10, 14, 16, 123] [.sl false (a0.map E_GTone), .sl false (l3x_10.map E_GTone), .sl false (r16.1.map E_GTone), .i l6_16, .bool (decide (l6_16 < (a0.length : Int)))]) ⟨[], 1⟩ _ (by kernel_rfl) (cj1 (mapLen a0 E_GTone)) ?_
                rcases iteE hl6 with ⟨hc20, hl6⟩ | ⟨hc20, hl6⟩
                · refine run_cT 123 (c35 97) (c35 98) (decide (l6_16 < (a0.length : Int))) hc20 (by kernel_rfl) (by kernel_rfl) ?_
                  refine run_k (by kernel_rfl) ?_
                  refine thenN ?_
                  refine run_s (c35 100) (c35 108) (by kernel_rfl) ?_
                  refine run_b 5 (c35 101) (by kernel_rfl) ?_
                  obtain ⟨y21, hy21, hl6⟩ := bindE hl6
                  obtain ⟨y22, hy22, hl6⟩ := bindE hl6
                  refine yun1 (c35 103) [[], [], [0, 1], [0, 1, 2], [], [], [4, 5], [4, 5, 6], [0, 1, 2, 3, 4, 5, 6, 7]] [.light 0 false, .light 1 false, .light 2 false, .light 3 false, .light 4 false, .light 5 false, .light 6 false, .light 7 false, .light 8 false] [{}, {}, { k := 1, x := E_GTone y21 }, {}, {}, {}, { k := 1, x := E_GTone y22 }] [0, 10, 14, 16, 134] [] (zipE [0, 10, 14, 16, 134] [.sl false (a0.map E_GTone), .sl false (l3x_10.map E_GTone), .sl false (r16.1.map E_GTone), .i l6_16, .bool (!(eq_GTone y21 y22))]) ⟨[], 1⟩ _ (by kernel_rfl) (cjC ((ixE hy21).1) (cjC (mapGet E_GTone (ixE hy21).2) (cjC ((ixE hy22).1) (cj1 (mapGet E_GTone (ixE hy22).2))))) ?_
                  rcases iteE hl6 with ⟨hc23, hl6⟩ | ⟨hc23, hl6⟩
                  · refine run_cT 134 (c35 104) (c35 107) (!(eq_GTone y21 y22)) hc23 (by kernel_rfl) (by kernel_rfl) ?_
                    refine run1 (c35 106) [] [6, 7] [] (zipE [6, 7] [.sl true [], .i 81]) ⟨[], 1⟩ _ (by kernel_rfl) cj0 ?_
                    replace hl6 := Option.some.inj hl6; subst hl6
                    have hr := rl6 _ rfl
                    subst hr
                    replace h := elimR h
                    refine run_i 1 [] [6, 7] [.sl true [], .i 81] (xs := [.sl false (([] : List GTone).map E_GTone), .i 81]) (S2 := ⟨[], 1⟩) ?_ (by intro i e; cases e <;> exact Nat.le_of_ble_eq_true rfl) (by kernel_rfl) (by kernel_rfl) (by kernel_rfl) (.k (.s (cleanMap (([] : List GTone)) _ cl_GTone)) (.k (.c rfl) .z)) .z
                    refine run_t (by kernel_rfl) ?_
                    refine inbR ?_
                    refine thenR ?_
                    refine ⟨⟨_, rfl⟩, ?_⟩
                    refine inbR ?_
                    refine thenR ?_
                    replace h := Option.some.inj h; subst h
                    exact fin_r (by kernel_rfl) rfl
                  · refine run_cF 134 (c35 104) (c35 107) (!(eq_GTone y21 y22)) hc23 (by kernel_rfl) (by kernel_rfl) ?_
                    refine run_k (by kernel_rfl) ?_
                    refine inbN ?_
                    refine thenN ?_
                    refine run0 [] [0, 10, 14, 16] [] (zipE [0, 10, 14, 16] [.sl false (a0.map E_GTone), .sl false (l3x_10.map E_GTone), .sl false (r16.1.map E_GTone), .i (wr (l6_16 + 1))]) ⟨[], 1⟩ _ (by kernel_rfl) cj0 ?_
                    replace hl6 := Option.some.inj hl6; subst hl6
                    exact ⟨_, rfl, pi [], mkInto (ks := [0, 10, 14, 16]) (ys := [.sl false (a0.map E_GTone), .sl false (l3x_10.map E_GTone), .sl false (r16.1.map E_GTone), .i (wr (l6_16 + 1))]) (by kernel_rfl) (by kernel_rfl) (.k (.c (cleanMap _ _ cl_GTone)) (.k (.c (cleanMap _ _ cl_GTone)) (.k (.c (cleanMap _ _ cl_GTone)) (.k (.c rfl) .z)))) .z⟩
                · refine run_cF 123 (c35 97) (c35 98) (decide (l6_16 < (a0.length : Int))) hc20 (by kernel_rfl) (by kernel_rfl) ?_
                  replace hl6 := Option.some.inj hl6; subst hl6
                  have hr := rl6 _ rfl
                  subst hr
                  refine awp_p [10] [] (zipE [10] [.sl false (l3x_10.map E_GTone)]) ⟨[], 1⟩ (by kernel_rfl) (?_)
                  refine run_e 4 (by kernel_rfl) ?_
                  refine thenE ?_
                  refine ⟨⟨_, rfl⟩, ?_⟩
                  refine inbE ?_
                  exact kl6 () rfl
              · rintro ⟨⟩ rfl
                replace h := elimL h
                refine thenN ?_
                refine run1 (c35 111) [] [6, 7] [] (zipE [6, 7] [.sl false (l3x_10.map E_GTone), .i 0]) ⟨[], 1⟩ _ (by kernel_rfl) cj0 ?_
                refine run_t (by kernel_rfl) ?_
                replace h := Option.some.inj h; subst h
                exact fin_r (by kernel_rfl) rfl

/-- theorbo.theorbolaw08.IntabulateUndivides -/
def f10 (a0 : List GTone) (a1 : List GFigure) (a2 : List Int) : Option Bool := (f34 a0 a1 a2).bind fun r1 => (f35 a0 a1 a2).bind fun r2 => ((bif (decide (r1.2 = r2.2)) then ((f33 r1.1 r2.1).bind fun r4 => bif r4 then ((f13).bind fun r6 => some r6) else (some false)) else (some false)) : Option Bool).bind fun (j1_6 : Bool) => some j1_6
theorem f10_ok (a0 : List GTone) (a1 : List GFigure) (a2 : List Int) (r : Bool) (h : f10 a0 a1 a2 = some r) : APure Tryz.prog 10 [.sl false (a0.map E_GTone), .sl false (a1.map E_GFigure), .sl false (a2.map AV.i)] (.bool r) := by
  refine apure (clK (cleanMap a0 _ cl_GTone) (clK (cleanMap a1 _ cl_GFigure) (clK (cleanMap a2 _ cl_i) clZ))) rfl ?_
  refine run_f 36 [.tmp 6] (c10 0) (zipE [0, 1, 2] [.sl false (a0.map E_GTone), .sl false (a1.map E_GFigure), .sl false (a2.map AV.i)]) (by kernel_rfl) (by kernel_rfl) (by kernel_rfl) rfl ?_
  unfold f10 at h
  refine run1 (c10 2) [] [0, 1, 2] [] (zipE [0, 1, 2] [.sl false (a0.map E_GTone), .sl false (a1.map E_GFigure), .sl false (a2.map AV.i)]) ⟨[], 0⟩ _ (by kernel_rfl) cj0 ?_
  obtain ⟨r1, hr1, h⟩ := bindE h
  refine run1 (c10 4) [{}, {}, {}, { c := some (.tup [.sl false (r1.1.map E_GTone), .i r1.2], ⟨[], 0⟩) }] [0, 1, 2, 7, 8] [] (zipE [0, 1, 2, 7, 8] [.sl false (a0.map E_GTone), .sl false (a1.map E_GFigure), .sl false (a2.map AV.i), .sl false (r1.1.map E_GTone), .i r1.2]) ⟨[], 0⟩ _ (by kernel_rfl) (cj1 (f34_ok a0 a1 a2 _ hr1 ⟨[], 0⟩)) ?_
  obtain ⟨r2, hr2, h⟩ := bindE h
  refine run1 (c10 6) [{}, {}, {}, { c := some (.tup [.sl false (r2.1.map E_GTone), .i r2.2], ⟨[], 0⟩) }] [7, 8, 9, 10] [] (zipE [7, 8, 9, 10] [.sl false (r1.1.map E_GTone), .i r1.2, .sl false (r2.1.map E_GTone), .i r2.2]) ⟨[], 0⟩ _ (by kernel_rfl) (cj1 (f35_ok a0 a1 a2 _ hr2 ⟨[], 0⟩)) ?_
  obtain ⟨j1_6, hj1, h⟩ := bindE h
  refine run_gq (c10 8) (fun (j1_6 : Bool) => (zipE [6] [.bool j1_6])) (fun (j1_6 : Bool) => ⟨[], 0⟩) (fun j => j1_6 = j) (fun kj1 => ?_) ?_
  · rcases iteE hj1 with ⟨hc3, hj1⟩ | ⟨hc3, hj1⟩
    · obtain ⟨r4, hr4, hj1⟩ := bindE hj1
      rcases iteE hj1 with ⟨hc5, hj1⟩ | ⟨hc5, hj1⟩
      · obtain ⟨r6, hr6, hj1⟩ := bindE hj1
        replace hj1 := Option.some.inj hj1; subst hj1
        exact run1 (c10 8) [{}, {}, {}, {}, {}, {}, { c := some (.bool r4, ⟨[], 0⟩) }, { k := 1, b := true }, {}, { c := some (.bool r6, ⟨[], 0⟩) }, { k := 1, b := true }] [6] [] (zipE [6] [.bool r6]) ⟨[], 0⟩ _ (by kernel_rfl) (cjC (hc3) (cjC (hc3) (cjC (hc3) (cjC (f33_ok r1.1 r2.1 _ hr4 ⟨[], 0⟩) (cjC (hc3) (cjC (hc5) (cjC (f13_ok  _ hr6 ⟨[], 0⟩) (cj1 (hc5))))))))) (kj1 r6 rfl)
      · replace hj1 := Option.some.inj hj1; subst hj1
        exact run1 (c10 8) [{}, {}, {}, {}, {}, {}, { c := some (.bool r4, ⟨[], 0⟩) }, { k := 1, b := true }, {}, { g := false }, { k := 1, b := false }] [6] [] (zipE [6] [.bool false]) ⟨[], 0⟩ _ (by kernel_rfl) (cjC (hc3) (cjC (hc3) (cjC (hc3) (cjC (f33_ok r1.1 r2.1 _ hr4 ⟨[], 0⟩) (cjC (hc3) (cjC (hc5) (cj1 (hc5)))))))) (kj1 false rfl)
    · replace hj1 := Option.some.inj hj1; subst hj1
      exact run1 (c10 8) [{}, {}, {}, {}, { g := false }, { g := false }, { g := false }, { k := 1, b := false }, {}, { g := false }] [6] [] (zipE [6] [.bool false]) ⟨[], 0⟩ _ (by kernel_rfl) (cjC (hc3) (cjC (hc3) (cjC (hc3) (cjC (hc3) (cj1 (Eq.refl false)))))) (kj1 false rfl)
  · rintro _ rfl
    refine run_t (by kernel_rfl) ?_
    replace h := Option.some.inj h; subst h
    exact fin_r (by kernel_rfl) rfl

end Go.Proofs.YtplpfocfcppajaaGreat
