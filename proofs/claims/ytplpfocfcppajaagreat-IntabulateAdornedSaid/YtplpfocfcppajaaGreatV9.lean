/-
  Functions of the program as Lean functions, and the walks. Written by a program of ours.
-/
import Derived.Test.YtplpfocfcppajaaGreatV6
import Derived.Test.YtplpfocfcppajaaGreatV7
import Derived.Test.YtplpfocfcppajaaGreatV8
namespace Go.Proofs.YtplpfocfcppajaaGreat
open Go Go.Am
set_option maxRecDepth 100000
set_option linter.all false
/-- theorbo.theorbolaw08.IntabulateAdorned -/
def f9 (a0 : List GTone) (a1 : List GFigure) (a2 : Int) : Option Bool := bif (decide (64 < (a0.length : Int))) then ((f13).bind fun r2 => some r2) else ((f29 a0 a1 a2).bind fun r3 => bif (decide (r3.2 ≠ 0)) then ((f13).bind fun r5 => some r5) else ((f31 a0 a1 r3.1).bind fun r6 => bif (decide (r6.2 = 2)) then ((f13).bind fun r8 => some r8) else (((bif (decide (r6.2 ≠ 0)) then (some true) else (some (decide ((r3.1.length : Int) ≠ (a0.length : Int))))) : Option Bool).bind fun (j1_54 : Bool) => bif j1_54 then (some false) else ((loopN (σ := Int) (τ := (Unit ⊕ Bool)) (fun (l2_57 : Int) => bif (decide (l2_57 < (r3.1.length : Int))) then ((ix r3.1 l2_57).bind fun y12 => (f27 a0 a1 l2_57).bind fun r13 => ((bif (decide (r13.2 ≠ 0)) then (some true) else (some (decide (y12 < 0)))) : Option Bool).bind fun (j3_74 : Bool) => bif j3_74 then (some (.inr (.inr false))) else ((loopN (σ := (Bool × Int)) (τ := Bool) (fun ((l4_14, l4_79) : (Bool × Int)) => bif (decide (l4_79 < (r13.1.length : Int))) then ((ix r13.1 l4_79).bind fun y17 => ((bif l4_14 then (some true) else (some (decide (y17 = y12)))) : Option Bool).bind fun (j5_14 : Bool) => some (.inl (j5_14, (wr (l4_79 + 1))))) else (some (.inr l4_14))) FUEL ((decide (y12 = 0)), 0)).bind fun (l4x_14 : Bool) => bif (!l4x_14) then (some (.inr (.inr false))) else (some (.inl (wr (l2_57 + 1)))))) else (some (.inr (.inl ())))) FUEL 0).bind (Sum.elim (fun (_ : Unit) => (loopN (σ := Int) (τ := (Unit ⊕ Bool)) (fun (l6_95 : Int) => bif (decide (l6_95 < (r6.1.length : Int))) then ((ix r6.1 l6_95).bind fun y21 => (loopN (σ := (Bool × Int)) (τ := Bool) (fun ((l7_19, l7_101) : (Bool × Int)) => bif (decide (l7_101 < (a0.length : Int))) then ((ix a0 l7_101).bind fun y23 => ((bif l7_19 then (some true) else (some (eq_GTone y23 y21))) : Option Bool).bind fun (j8_19 : Bool) => some (.inl (j8_19, (wr (l7_101 + 1))))) else (some (.inr l7_19))) FUEL (false, 0)).bind fun (l7x_19 : Bool) => ((bif (!l7x_19) then (some (decide ((wr (y21.to_ - y21.from_)) < a2))) else (some false)) : Option Bool).bind fun (j9_122 : Bool) => bif j9_122 then (some (.inr (.inr false))) else (some (.inl (wr (l6_95 + 1))))) else (some (.inr (.inl ())))) FUEL 0).bind (Sum.elim (fun (_ : Unit) => (f13).bind fun r27 => some r27) some)) some)))))
theorem f9_ok (a0 : List GTone) (a1 : List GFigure) (a2 : Int) (r : Bool) (h : f9 a0 a1 a2 = some r) : APure Tryz.prog 9 [.sl false (a0.map E_GTone), .sl false (a1.map E_GFigure), .i a2] (.bool r) := by
  refine apure (clK (cleanMap a0 _ cl_GTone) (clK (cleanMap a1 _ cl_GFigure) (clK rfl clZ))) rfl ?_
  refine run_f 125 [.tmp 6] (c9 0) (zipE [0, 1, 2] [.sl false (a0.map E_GTone), .sl false (a1.map E_GFigure), .i a2]) (by kernel_rfl) (by kernel_rfl) (by kernel_rfl) rfl ?_
  unfold f9 at h
  refine run1 (c9 2) [] [0, 1, 2] [] (zipE [0, 1, 2] [.sl false (a0.map E_GTone), .sl false (a1.map E_GFigure), .i a2]) ⟨[], 0⟩ _ (by kernel_rfl) cj0 ?_
  refine run_s (c9 3) (c9 10) (by kernel_rfl) ?_
  refine run1 (c9 5) [{}, { k := 1, n := a0.length }] [0, 1, 2, 24] [] (zipE [0, 1, 2, 24] [.sl false (a0.map E_GTone), .sl false (a1.map E_GFigure), .i a2, .bool (decide (64 < (a0.length : Int)))]) ⟨[], 0⟩ _ (by kernel_rfl) (cj1 (mapLen a0 E_GTone)) ?_
  rcases iteE h with ⟨hc1, h⟩ | ⟨hc1, h⟩
  · refine run_cT 24 (c9 6) (c9 9) (decide (64 < (a0.length : Int))) hc1 (by kernel_rfl) (by kernel_rfl) ?_
    obtain ⟨r2, hr2, h⟩ := bindE h
    refine run1 (c9 8) [{ c := some (.bool r2, ⟨[], 0⟩) }] [6] [] (zipE [6] [.bool r2]) ⟨[], 0⟩ _ (by kernel_rfl) (cj1 (f13_ok  _ hr2 ⟨[], 0⟩)) ?_
    refine run_t (by kernel_rfl) ?_
    refine thenR ?_
    replace h := Option.some.inj h; subst h
    exact fin_r (by kernel_rfl) rfl
  · refine run_cF 24 (c9 6) (c9 9) (decide (64 < (a0.length : Int))) hc1 (by kernel_rfl) (by kernel_rfl) ?_
    refine run_k (by kernel_rfl) ?_
    refine thenN ?_
    obtain ⟨r3, hr3, h⟩ := bindE h
    refine run1 (c9 12) [{}, {}, {}, { c := some (.tup [.sl false (r3.1.map AV.i), .i r3.2], ⟨[], 0⟩) }] [0, 1, 2, 7, 8] [] (zipE [0, 1, 2, 7, 8] [.sl false (a0.map E_GTone), .sl false (a1.map E_GFigure), .i a2, .sl false (r3.1.map AV.i), .i r3.2]) ⟨[], 0⟩ _ (by kernel_rfl) (cj1 (f29_ok a0 a1 a2 _ hr3 ⟨[], 0⟩)) ?_
    refine run_s (c9 13) (c9 20) (by kernel_rfl) ?_
    refine run1 (c9 15) [] [0, 1, 2, 7, 34] [] (zipE [0, 1, 2, 7, 34] [.sl false (a0.map E_GTone), .sl false (a1.map E_GFigure), .i a2, .sl false (r3.1.map AV.i), .bool (decide (r3.2 ≠ 0))]) ⟨[], 0⟩ _ (by kernel_rfl) cj0 ?_
    rcases iteE h with ⟨hc4, h⟩ | ⟨hc4, h⟩
    · refine run_cT 34 (c9 16) (c9 19) (decide (r3.2 ≠ 0)) hc4 (by kernel_rfl) (by kernel_rfl) ?_
      obtain ⟨r5, hr5, h⟩ := bindE h
      refine run1 (c9 18) [{ c := some (.bool r5, ⟨[], 0⟩) }] [6] [] (zipE [6] [.bool r5]) ⟨[], 0⟩ _ (by kernel_rfl) (cj1 (f13_ok  _ hr5 ⟨[], 0⟩)) ?_
      refine run_t (by kernel_rfl) ?_
      refine thenR ?_
      replace h := Option.some.inj h; subst h
      exact fin_r (by kernel_rfl) rfl
    · refine run_cF 34 (c9 16) (c9 19) (decide (r3.2 ≠ 0)) hc4 (by kernel_rfl) (by kernel_rfl) ?_
      refine run_k (by kernel_rfl) ?_
      refine thenN ?_
      obtain ⟨r6, hr6, h⟩ := bindE h
      refine run1 (c9 22) [{}, {}, {}, { c := some (.tup [.sl false (r6.1.map E_GTone), .i r6.2], ⟨[], 0⟩) }] [0, 1, 2, 7, 8, 9] [] (zipE [0, 1, 2, 7, 8, 9] [.sl false (a0.map E_GTone), .sl false (a1.map E_GFigure), .i a2, .sl false (r3.1.map AV.i), .i r6.2, .sl false (r6.1.map E_GTone)]) ⟨[], 0⟩ _ (by kernel_rfl) (cj1 (f31_ok a0 a1 r3.1 _ hr6 ⟨[], 0⟩)) ?_
      refine run_s (c9 23) (c9 30) (by kernel_rfl) ?_
      refine run1 (c9 25) [] [0, 1, 2, 7, 8, 9, 44] [] (zipE [0, 1, 2, 7, 8, 9, 44] [.sl false (a0.map E_GTone), .sl false (a1.map E_GFigure), .i a2, .sl false (r3.1.map AV.i), .i r6.2, .sl false (r6.1.map E_GTone), .bool (decide (r6.2 = 2))]) ⟨[], 0⟩ _ (by kernel_rfl) cj0 ?_
      rcases iteE h with ⟨hc7, h⟩ | ⟨hc7, h⟩
      · refine run_cT 44 (c9 26) (c9 29) (decide (r6.2 = 2)) hc7 (by kernel_rfl) (by kernel_rfl) ?_
        obtain ⟨r8, hr8, h⟩ := bindE h
        refine run1 (c9 28) [{ c := some (.bool r8, ⟨[], 0⟩) }] [6] [] (zipE [6] [.bool r8]) ⟨[], 0⟩ _ (by kernel_rfl) (cj1 (f13_ok  _ hr8 ⟨[], 0⟩)) ?_
        refine run_t (by kernel_rfl) ?_
        refine thenR ?_
        replace h := Option.some.inj h; subst h
        exact fin_r (by kernel_rfl) rfl
      · refine run_cF 44 (c9 26) (c9 29) (decide (r6.2 = 2)) hc7 (by kernel_rfl) (by kernel_rfl) ?_
        refine run_k (by kernel_rfl) ?_
        refine thenN ?_
        refine run_s (c9 31) (c9 38) (by kernel_rfl) ?_
        obtain ⟨j1_54, hj1, h⟩ := bindE h
        refine run_gq (c9 33) (fun (j1_54 : Bool) => (zipE [0, 1, 2, 7, 9, 54] [.sl false (a0.map E_GTone), .sl false (a1.map E_GFigure), .i a2, .sl false (r3.1.map AV.i), .sl false (r6.1.map E_GTone), .bool j1_54])) (fun (j1_54 : Bool) => ⟨[], 0⟩) (fun j => j1_54 = j) (fun kj1 => ?_) ?_
        · rcases iteE hj1 with ⟨hc9, hj1⟩ | ⟨hc9, hj1⟩
          · replace hj1 := Option.some.inj hj1; subst hj1
            exact run1 (c9 33) [{}, {}, {}, { g := false }, { g := false }, { g := false }, { g := false }, { g := false }, { k := 1, b := true }] [0, 1, 2, 7, 9, 54] [] (zipE [0, 1, 2, 7, 9, 54] [.sl false (a0.map E_GTone), .sl false (a1.map E_GFigure), .i a2, .sl false (r3.1.map AV.i), .sl false (r6.1.map E_GTone), .bool true]) ⟨[], 0⟩ _ (by kernel_rfl) (cjC (hc9) (cjC (hc9) (cjC (hc9) (cjC (hc9) (cjC (hc9) (cj1 (hc9))))))) (kj1 true rfl)
          · replace hj1 := Option.some.inj hj1; subst hj1
            exact run1 (c9 33) [{}, {}, {}, {}, { k := 1, n := r3.1.length }, {}, { k := 1, n := a0.length }, {}, { k := 1, b := false }] [0, 1, 2, 7, 9, 54] [] (zipE [0, 1, 2, 7, 9, 54] [.sl false (a0.map E_GTone), .sl false (a1.map E_GFigure), .i a2, .sl false (r3.1.map AV.i), .sl false (r6.1.map E_GTone), .bool (decide ((r3.1.length : Int) ≠ (a0.length : Int)))]) ⟨[], 0⟩ _ (by kernel_rfl) (cjC (hc9) (cjC (hc9) (cjC (mapLen r3.1 AV.i) (cjC (hc9) (cjC (hc9) (cjC (mapLen a0 E_GTone) (cjC (hc9) (cj1 (hc9))))))))) (kj1 (decide ((r3.1.length : Int) ≠ (a0.length : Int))) rfl)
        · rintro _ rfl
          rcases iteE h with ⟨hc10, h⟩ | ⟨hc10, h⟩
          · refine run_cT 54 (c9 34) (c9 37) j1_54 hc10 (by kernel_rfl) (by kernel_rfl) ?_
            refine run1 (c9 36) [] [6] [] (zipE [6] [.bool false]) ⟨[], 0⟩ _ (by kernel_rfl) cj0 ?_
            refine run_t (by kernel_rfl) ?_
            refine thenR ?_
            replace h := Option.some.inj h; subst h
            exact fin_r (by kernel_rfl) rfl
          · refine run_cF 54 (c9 34) (c9 37) j1_54 hc10 (by kernel_rfl) (by kernel_rfl) ?_
            refine run_k (by kernel_rfl) ?_
            refine thenN ?_
            refine run_s (c9 39) (c9 90) (by kernel_rfl) ?_
            refine run1 (c9 41) [{}, { k := 1, n := r3.1.length }] [0, 1, 2, 9, 55, 56, 57] [] (zipE [0, 1, 2, 9, 55, 56, 57] [.sl false (a0.map E_GTone), .sl false (a1.map E_GFigure), .i a2, .sl false (r6.1.map E_GTone), .sl false (r3.1.map AV.i), .i (r3.1.length : Int), .i 0]) ⟨[], 0⟩ _ (by kernel_rfl) (cj1 (mapLen r3.1 AV.i)) ?_
            obtain ⟨ol2x, hll2x, h⟩ := bindE h
            refine run_tq (fun (_ : Unit) => (zipE [0, 2, 9] [.sl false (a0.map E_GTone), .i a2, .sl false (r6.1.map E_GTone)])) (fun (_ : Unit) => ⟨[], 0⟩) (fun j => ol2x = .inl j) (fun kl2 => ?_) ?_
            · refine run_b 0 (c9 42) (by kernel_rfl) ?_
              refine run_l (c9 43) _ hll2x (fun (l2_57 : Int) => (zipE [0, 1, 2, 9, 55, 56, 57] [.sl false (a0.map E_GTone), .sl false (a1.map E_GFigure), .i a2, .sl false (r6.1.map E_GTone), .sl false (r3.1.map AV.i), .i (r3.1.length : Int), .i l2_57])) (fun (l2_57 : Int) => ⟨[], 0⟩) [] (by intro i e; cases e <;> exact Nat.le_of_ble_eq_true rfl) (by kernel_rfl) (mkInto (ks := [0, 1, 2, 9, 55, 56, 57]) (ys := [.sl false (a0.map E_GTone), .sl false (a1.map E_GFigure), .i a2, .sl false (r6.1.map E_GTone), .sl false (r3.1.map AV.i), .i (r3.1.length : Int), .i 0]) (by kernel_rfl) (by kernel_rfl) (.k (.c (cleanMap _ _ cl_GTone)) (.k (.c (cleanMap _ _ cl_GFigure)) (.k (.c rfl) (.k (.c (cleanMap _ _ cl_GTone)) (.k (.c (cleanMap _ _ cl_i)) (.k (.c rfl) (.k (.c rfl) .z))))))) .z) ?_
              rintro l2_57 out hl2 rl2
              refine run1 (c9 45) [] [0, 1, 2, 9, 55, 56, 57, 58] [] (zipE [0, 1, 2, 9, 55, 56, 57, 58] [.sl false (a0.map E_GTone), .sl false (a1.map E_GFigure), .i a2, .sl false (r6.1.map E_GTone), .sl false (r3.1.map AV.i), .i (r3.1.length : Int), .i l2_57, .bool (decide (l2_57 < (r3.1.length : Int)))]) ⟨[], 0⟩ _ (by kernel_rfl) cj0 ?_
              refine run_s (c9 46) (c9 49) (by kernel_rfl) ?_
              rcases iteE hl2 with ⟨hc11, hl2⟩ | ⟨hc11, hl2⟩
              · refine run_cT 58 (c9 47) (c9 48) (decide (l2_57 < (r3.1.length : Int))) hc11 (by kernel_rfl) (by kernel_rfl) ?_
                refine run_k (by kernel_rfl) ?_
                refine thenN ?_
                refine run_s (c9 50) (c9 89) (by kernel_rfl) ?_
                refine run_b 1 (c9 51) (by kernel_rfl) ?_
                obtain ⟨y12, hy12, hl2⟩ := bindE hl2
                refine run1 (c9 53) [{}, { k := 1, x := AV.i y12 }] [0, 1, 2, 9, 10, 11, 55, 56, 57] [] (zipE [0, 1, 2, 9, 10, 11, 55, 56, 57] [.sl false (a0.map E_GTone), .sl false (a1.map E_GFigure), .i a2, .sl false (r6.1.map E_GTone), .i l2_57, .i y12, .sl false (r3.1.map AV.i), .i (r3.1.length : Int), .i l2_57]) ⟨[], 0⟩ _ (by kernel_rfl) (cjC ((ixE hy12).1) (cj1 (mapGet AV.i (ixE hy12).2))) ?_
                obtain ⟨r13, hr13, hl2⟩ := bindE hl2
                refine run1 (c9 55) [{}, {}, {}, { c := some (.tup [.sl false (r13.1.map AV.i), .i r13.2], ⟨[], 0⟩) }] [0, 1, 2, 9, 11, 12, 13, 55, 56, 57] [] (zipE [0, 1, 2, 9, 11, 12, 13, 55, 56, 57] [.sl false (a0.map E_GTone), .sl false (a1.map E_GFigure), .i a2, .sl false (r6.1.map E_GTone), .i y12, .sl false (r13.1.map AV.i), .i r13.2, .sl false (r3.1.map AV.i), .i (r3.1.length : Int), .i l2_57]) ⟨[], 0⟩ _ (by kernel_rfl) (cj1 (f27_ok a0 a1 l2_57 _ hr13 ⟨[], 0⟩)) ?_
                refine run_s (c9 56) (c9 63) (by kernel_rfl) ?_
                obtain ⟨j3_74, hj3, hl2⟩ := bindE hl2
                refine run_gq (c9 58) (fun (j3_74 : Bool) => (zipE [0, 1, 2, 9, 11, 12, 55, 56, 57, 74] [.sl false (a0.map E_GTone), .sl false (a1.map E_GFigure), .i a2, .sl false (r6.1.map E_GTone), .i y12, .sl false (r13.1.map AV.i), .sl false (r3.1.map AV.i), .i (r3.1.length : Int), .i l2_57, .bool j3_74])) (fun (j3_74 : Bool) => ⟨[], 0⟩) (fun j => j3_74 = j) (fun kj3 => ?_) ?_
                · rcases iteE hj3 with ⟨hc14, hj3⟩ | ⟨hc14, hj3⟩
                  · replace hj3 := Option.some.inj hj3; subst hj3
                    exact run1 (c9 58) [{}, {}, {}, { g := false }, { g := false }, { k := 1, b := true }] [0, 1, 2, 9, 11, 12, 55, 56, 57, 74] [] (zipE [0, 1, 2, 9, 11, 12, 55, 56, 57, 74] [.sl false (a0.map E_GTone), .sl false (a1.map E_GFigure), .i a2, .sl false (r6.1.map E_GTone), .i y12, .sl false (r13.1.map AV.i), .sl false (r3.1.map AV.i), .i (r3.1.length : Int), .i l2_57, .bool true]) ⟨[], 0⟩ _ (by kernel_rfl) (cjC (hc14) (cjC (hc14) (cj1 (hc14)))) (kj3 true rfl)
                  · replace hj3 := Option.some.inj hj3; subst hj3
                    exact run1 (c9 58) [{}, {}, {}, {}, {}, { k := 1, b := false }] [0, 1, 2, 9, 11, 12, 55, 56, 57, 74] [] (zipE [0, 1, 2, 9, 11, 12, 55, 56, 57, 74] [.sl false (a0.map E_GTone), .sl false (a1.map E_GFigure), .i a2, .sl false (r6.1.map E_GTone), .i y12, .sl false (r13.1.map AV.i), .sl false (r3.1.map AV.i), .i (r3.1.length : Int), .i l2_57, .bool (decide (y12 < 0))]) ⟨[], 0⟩ _ (by kernel_rfl) (cjC (hc14) (cjC (hc14) (cj1 (hc14)))) (kj3 (decide (y12 < 0)) rfl)
                · rintro _ rfl
                  rcases iteE hl2 with ⟨hc15, hl2⟩ | ⟨hc15, hl2⟩
                  · refine run_cT 74 (c9 59) (c9 62) j3_74 hc15 (by kernel_rfl) (by kernel_rfl) ?_
                    refine run1 (c9 61) [] [6] [] (zipE [6] [.bool false]) ⟨[], 0⟩ _ (by kernel_rfl) cj0 ?_
                    replace hl2 := Option.some.inj hl2; subst hl2
                    have hr := rl2 _ rfl
                    subst hr
                    replace h := elimR h
                    refine run_t (by kernel_rfl) ?_
                    refine thenR ?_
                    refine inbR ?_
                    refine thenR ?_
                    refine ⟨⟨_, rfl⟩, ?_⟩
                    refine inbR ?_
                    refine thenR ?_
                    replace h := Option.some.inj h; subst h
                    exact fin_r (by kernel_rfl) rfl
                  · refine run_cF 74 (c9 59) (c9 62) j3_74 hc15 (by kernel_rfl) (by kernel_rfl) ?_
                    refine run_k (by kernel_rfl) ?_
                    refine thenN ?_
                    refine run1 (c9 65) [] [0, 1, 2, 9, 11, 12, 14, 55, 56, 57] [] (zipE [0, 1, 2, 9, 11, 12, 14, 55, 56, 57] [.sl false (a0.map E_GTone), .sl false (a1.map E_GFigure), .i a2, .sl false (r6.1.map E_GTone), .i y12, .sl false (r13.1.map AV.i), .bool (decide (y12 = 0)), .sl false (r3.1.map AV.i), .i (r3.1.length : Int), .i l2_57]) ⟨[], 0⟩ _ (by kernel_rfl) cj0 ?_
                    refine run_s (c9 66) (c9 82) (by kernel_rfl) ?_
                    refine run1 (c9 68) [{}, { k := 1, n := r13.1.length }] [0, 1, 2, 9, 11, 14, 55, 56, 57, 77, 78, 79] [] (zipE [0, 1, 2, 9, 11, 14, 55, 56, 57, 77, 78, 79] [.sl false (a0.map E_GTone), .sl false (a1.map E_GFigure), .i a2, .sl false (r6.1.map E_GTone), .i y12, .bool (decide (y12 = 0)), .sl false (r3.1.map AV.i), .i (r3.1.length : Int), .i l2_57, .sl false (r13.1.map AV.i), .i (r13.1.length : Int), .i 0]) ⟨[], 0⟩ _ (by kernel_rfl) (cj1 (mapLen r13.1 AV.i)) ?_
                    obtain ⟨l4x_14, hll4x, hl2⟩ := bindE hl2
                    refine run_tq (fun (l4x_14 : Bool) => (zipE [0, 1, 2, 9, 14, 55, 56, 57] [.sl false (a0.map E_GTone), .sl false (a1.map E_GFigure), .i a2, .sl false (r6.1.map E_GTone), .bool l4x_14, .sl false (r3.1.map AV.i), .i (r3.1.length : Int), .i l2_57])) (fun (l4x_14 : Bool) => ⟨[], 0⟩) (fun j => l4x_14 = j) (fun kl4 => ?_) ?_
                    · refine run_b 2 (c9 69) (by kernel_rfl) ?_
                      refine run_l (c9 70) _ hll4x (fun ((l4_14, l4_79) : (Bool × Int)) => (zipE [0, 1, 2, 9, 11, 14, 55, 56, 57, 77, 78, 79] [.sl false (a0.map E_GTone), .sl false (a1.map E_GFigure), .i a2, .sl false (r6.1.map E_GTone), .i y12, .bool l4_14, .sl false (r3.1.map AV.i), .i (r3.1.length : Int), .i l2_57, .sl false (r13.1.map AV.i), .i (r13.1.length : Int), .i l4_79])) (fun ((l4_14, l4_79) : (Bool × Int)) => ⟨[], 0⟩) [] (by intro i e; cases e <;> exact Nat.le_of_ble_eq_true rfl) (by kernel_rfl) (mkInto (ks := [0, 1, 2, 9, 11, 14, 55, 56, 57, 77, 78, 79]) (ys := [.sl false (a0.map E_GTone), .sl false (a1.map E_GFigure), .i a2, .sl false (r6.1.map E_GTone), .i y12, .bool (decide (y12 = 0)), .sl false (r3.1.map AV.i), .i (r3.1.length : Int), .i l2_57, .sl false (r13.1.map AV.i), .i (r13.1.length : Int), .i 0]) (by kernel_rfl) (by kernel_rfl) (.k (.c (cleanMap _ _ cl_GTone)) (.k (.c (cleanMap _ _ cl_GFigure)) (.k (.c rfl) (.k (.c (cleanMap _ _ cl_GTone)) (.k (.c rfl) (.k (.c rfl) (.k (.c (cleanMap _ _ cl_i)) (.k (.c rfl) (.k (.c rfl) (.k (.c (cleanMap _ _ cl_i)) (.k (.c rfl) (.k (.c rfl) .z)))))))))))) .z) ?_
                      rintro ⟨l4_14, l4_79⟩ out hl4 rl4
                      refine run1 (c9 72) [] [0, 1, 2, 9, 11, 14, 55, 56, 57, 77, 78, 79, 80] [] (zipE [0, 1, 2, 9, 11, 14, 55, 56, 57, 77, 78, 79, 80] [.sl false (a0.map E_GTone), .sl false (a1.map E_GFigure), .i a2, .sl false (r6.1.map E_GTone), .i y12, .bool l4_14, .sl false (r3.1.map AV.i), .i (r3.1.length : Int), .i l2_57, .sl false (r13.1.map AV.i), .i (r13.1.length : Int), .i l4_79, .bool (decide (l4_79 < (r13.1.length : Int)))]) ⟨[], 0⟩ _ (by kernel_rfl) cj0 ?_
                      refine run_s (c9 73) (c9 76) (by kernel_rfl) ?_
                      rcases iteE hl4 with ⟨hc16, hl4⟩ | ⟨hc16, hl4⟩
                      · refine run_cT 80 (c9 74) (c9 75) (decide (l4_79 < (r13.1.length : Int))) hc16 (by kernel_rfl) (by kernel_rfl) ?_
                        refine run_k (by kernel_rfl) ?_
                        refine thenN ?_
                        refine run_s (c9 77) (c9 81) (by kernel_rfl) ?_
                        refine run_b 3 (c9 78) (by kernel_rfl) ?_
                        obtain ⟨y17, hy17, hl4⟩ := bindE hl4
                        refine run1 (c9 80) [{ k := 1, x := AV.i y17 }] [0, 1, 2, 9, 11, 14, 16, 55, 56, 57, 77, 78, 79] [] (zipE [0, 1, 2, 9, 11, 14, 16, 55, 56, 57, 77, 78, 79] [.sl false (a0.map E_GTone), .sl false (a1.map E_GFigure), .i a2, .sl false (r6.1.map E_GTone), .i y12, .bool l4_14, .i y17, .sl false (r3.1.map AV.i), .i (r3.1.length : Int), .i l2_57, .sl false (r13.1.map AV.i), .i (r13.1.length : Int), .i l4_79]) ⟨[], 0⟩ _ (by kernel_rfl) (cjC ((ixE hy17).1) (cj1 (mapGet AV.i (ixE hy17).2))) ?_
                        obtain ⟨j5_14, hj5, hl4⟩ := bindE hl4
                        refine run_tq (fun (j5_14 : Bool) => (zipE [0, 1, 2, 9, 11, 14, 55, 56, 57, 77, 78, 79] [.sl false (a0.map E_GTone), .sl false (a1.map E_GFigure), .i a2, .sl false (r6.1.map E_GTone), .i y12, .bool j5_14, .sl false (r3.1.map AV.i), .i (r3.1.length : Int), .i l2_57, .sl false (r13.1.map AV.i), .i (r13.1.length : Int), .i l4_79])) (fun (j5_14 : Bool) => ⟨[], 0⟩) (fun j => j5_14 = j) (fun kj5 => ?_) ?_
                        · rcases iteE hj5 with ⟨hc18, hj5⟩ | ⟨hc18, hj5⟩
                          · replace hj5 := Option.some.inj hj5; subst hj5
                            exact run0 [{}, {}, { g := false }, { g := false }, { g := false }, { k := 1, b := true }] [0, 1, 2, 9, 11, 14, 55, 56, 57, 77, 78, 79] [] (zipE [0, 1, 2, 9, 11, 14, 55, 56, 57, 77, 78, 79] [.sl false (a0.map E_GTone), .sl false (a1.map E_GFigure), .i a2, .sl false (r6.1.map E_GTone), .i y12, .bool true, .sl false (r3.1.map AV.i), .i (r3.1.length : Int), .i l2_57, .sl false (r13.1.map AV.i), .i (r13.1.length : Int), .i l4_79]) ⟨[], 0⟩ _ (by kernel_rfl) (cjC (hc18) (cjC (hc18) (cjC (hc18) (cj1 (hc18))))) (kj5 true rfl)
                          · replace hj5 := Option.some.inj hj5; subst hj5
                            exact run0 [{}, {}, {}, {}, {}, { k := 1, b := false }] [0, 1, 2, 9, 11, 14, 55, 56, 57, 77, 78, 79] [] (zipE [0, 1, 2, 9, 11, 14, 55, 56, 57, 77, 78, 79] [.sl false (a0.map E_GTone), .sl false (a1.map E_GFigure), .i a2, .sl false (r6.1.map E_GTone), .i y12, .bool (decide (y17 = y12)), .sl false (r3.1.map AV.i), .i (r3.1.length : Int), .i l2_57, .sl false (r13.1.map AV.i), .i (r13.1.length : Int), .i l4_79]) ⟨[], 0⟩ _ (by kernel_rfl) (cjC (hc18) (cjC (hc18) (cjC (hc18) (cj1 (hc18))))) (kj5 (decide (y17 = y12)) rfl)
                        · rintro _ rfl
                          refine inbN ?_
                          refine thenN ?_
                          refine run0 [] [0, 1, 2, 9, 11, 14, 55, 56, 57, 77, 78, 79] [] (zipE [0, 1, 2, 9, 11, 14, 55, 56, 57, 77, 78, 79] [.sl false (a0.map E_GTone), .sl false (a1.map E_GFigure), .i a2, .sl false (r6.1.map E_GTone), .i y12, .bool j5_14, .sl false (r3.1.map AV.i), .i (r3.1.length : Int), .i l2_57, .sl false (r13.1.map AV.i), .i (r13.1.length : Int), .i (wr (l4_79 + 1))]) ⟨[], 0⟩ _ (by kernel_rfl) cj0 ?_
                          replace hl4 := Option.some.inj hl4; subst hl4
                          exact ⟨_, rfl, pi [], mkInto (ks := [0, 1, 2, 9, 11, 14, 55, 56, 57, 77, 78, 79]) (ys := [.sl false (a0.map E_GTone), .sl false (a1.map E_GFigure), .i a2, .sl false (r6.1.map E_GTone), .i y12, .bool j5_14, .sl false (r3.1.map AV.i), .i (r3.1.length : Int), .i l2_57, .sl false (r13.1.map AV.i), .i (r13.1.length : Int), .i (wr (l4_79 + 1))]) (by kernel_rfl) (by kernel_rfl) (.k (.c (cleanMap _ _ cl_GTone)) (.k (.c (cleanMap _ _ cl_GFigure)) (.k (.c rfl) (.k (.c (cleanMap _ _ cl_GTone)) (.k (.c rfl) (.k (.c rfl) (.k (.c (cleanMap _ _ cl_i)) (.k (.c rfl) (.k (.c rfl) (.k (.c (cleanMap _ _ cl_i)) (.k (.c rfl) (.k (.c rfl) .z)))))))))))) .z⟩
                      · refine run_cF 80 (c9 74) (c9 75) (decide (l4_79 < (r13.1.length : Int))) hc16 (by kernel_rfl) (by kernel_rfl) ?_
                        replace hl4 := Option.some.inj hl4; subst hl4
                        have hr := rl4 _ rfl
                        subst hr
                        refine awp_p [0, 1, 2, 9, 14, 55, 56, 57] [] (zipE [0, 1, 2, 9, 14, 55, 56, 57] [.sl false (a0.map E_GTone), .sl false (a1.map E_GFigure), .i a2, .sl false (r6.1.map E_GTone), .bool l4_14, .sl false (r3.1.map AV.i), .i (r3.1.length : Int), .i l2_57]) ⟨[], 0⟩ (by kernel_rfl) (?_)
                        refine run_e 2 (by kernel_rfl) ?_
                        refine thenE ?_
                        refine ⟨⟨_, rfl⟩, ?_⟩
                        refine inbE ?_
                        exact kl4 l4_14 rfl
                    · rintro _ rfl
                      refine thenN ?_
                      refine run1 (c9 84) [] [0, 1, 2, 9, 55, 56, 57, 91] [] (zipE [0, 1, 2, 9, 55, 56, 57, 91] [.sl false (a0.map E_GTone), .sl false (a1.map E_GFigure), .i a2, .sl false (r6.1.map E_GTone), .sl false (r3.1.map AV.i), .i (r3.1.length : Int), .i l2_57, .bool (!l4x_14)]) ⟨[], 0⟩ _ (by kernel_rfl) cj0 ?_
                      rcases iteE hl2 with ⟨hc19, hl2⟩ | ⟨hc19, hl2⟩
                      · refine run_cT 91 (c9 85) (c9 88) (!l4x_14) hc19 (by kernel_rfl) (by kernel_rfl) ?_
                        refine run1 (c9 87) [] [6] [] (zipE [6] [.bool false]) ⟨[], 0⟩ _ (by kernel_rfl) cj0 ?_
                        replace hl2 := Option.some.inj hl2; subst hl2
                        have hr := rl2 _ rfl
                        subst hr
                        replace h := elimR h
                        refine run_t (by kernel_rfl) ?_
                        refine inbR ?_
                        refine thenR ?_
                        refine ⟨⟨_, rfl⟩, ?_⟩
                        refine inbR ?_
                        refine thenR ?_
                        replace h := Option.some.inj h; subst h
                        exact fin_r (by kernel_rfl) rfl
                      · refine run_cF 91 (c9 85) (c9 88) (!l4x_14) hc19 (by kernel_rfl) (by kernel_rfl) ?_
                        refine run_k (by kernel_rfl) ?_
                        refine inbN ?_
                        refine thenN ?_
                        refine run0 [] [0, 1, 2, 9, 55, 56, 57] [] (zipE [0, 1, 2, 9, 55, 56, 57] [.sl false (a0.map E_GTone), .sl false (a1.map E_GFigure), .i a2, .sl false (r6.1.map E_GTone), .sl false (r3.1.map AV.i), .i (r3.1.length : Int), .i (wr (l2_57 + 1))]) ⟨[], 0⟩ _ (by kernel_rfl) cj0 ?_
                        replace hl2 := Option.some.inj hl2; subst hl2
                        exact ⟨_, rfl, pi [], mkInto (ks := [0, 1, 2, 9, 55, 56, 57]) (ys := [.sl false (a0.map E_GTone), .sl false (a1.map E_GFigure), .i a2, .sl false (r6.1.map E_GTone), .sl false (r3.1.map AV.i), .i (r3.1.length : Int), .i (wr (l2_57 + 1))]) (by kernel_rfl) (by kernel_rfl) (.k (.c (cleanMap _ _ cl_GTone)) (.k (.c (cleanMap _ _ cl_GFigure)) (.k (.c rfl) (.k (.c (cleanMap _ _ cl_GTone)) (.k (.c (cleanMap _ _ cl_i)) (.k (.c rfl) (.k (.c rfl) .z))))))) .z⟩
              · refine run_cF 58 (c9 47) (c9 48) (decide (l2_57 < (r3.1.length : Int))) hc11 (by kernel_rfl) (by kernel_rfl) ?_
                replace hl2 := Option.some.inj hl2; subst hl2
                have hr := rl2 _ rfl
                subst hr
                refine awp_p [0, 2, 9] [] (zipE [0, 2, 9] [.sl false (a0.map E_GTone), .i a2, .sl false (r6.1.map E_GTone)]) ⟨[], 0⟩ (by kernel_rfl) (?_)
                refine run_e 0 (by kernel_rfl) ?_
                refine thenE ?_
                refine ⟨⟨_, rfl⟩, ?_⟩
                refine inbE ?_
                exact kl2 () rfl
            · rintro ⟨⟩ rfl
              replace h := elimL h
              refine thenN ?_
              refine run_s (c9 91) (c9 132) (by kernel_rfl) ?_
              refine run1 (c9 93) [{}, { k := 1, n := r6.1.length }] [0, 2, 93, 94, 95] [] (zipE [0, 2, 93, 94, 95] [.sl false (a0.map E_GTone), .i a2, .sl false (r6.1.map E_GTone), .i (r6.1.length : Int), .i 0]) ⟨[], 0⟩ _ (by kernel_rfl) (cj1 (mapLen r6.1 E_GTone)) ?_
              obtain ⟨ol6x, hll6x, h⟩ := bindE h
              refine run_tq (fun (_ : Unit) => (zipE [] [])) (fun (_ : Unit) => ⟨[], 0⟩) (fun j => ol6x = .inl j) (fun kl6 => ?_) ?_
              · refine run_b 4 (c9 94) (by kernel_rfl) ?_
                refine run_l (c9 95) _ hll6x (fun (l6_95 : Int) => (zipE [0, 2, 93, 94, 95] [.sl false (a0.map E_GTone), .i a2, .sl false (r6.1.map E_GTone), .i (r6.1.length : Int), .i l6_95])) (fun (l6_95 : Int) => ⟨[], 0⟩) [] (by intro i e; cases e <;> exact Nat.le_of_ble_eq_true rfl) (by kernel_rfl) (mkInto (ks := [0, 2, 93, 94, 95]) (ys := [.sl false (a0.map E_GTone), .i a2, .sl false (r6.1.map E_GTone), .i (r6.1.length : Int), .i 0]) (by kernel_rfl) (by kernel_rfl) (.k (.c (cleanMap _ _ cl_GTone)) (.k (.c rfl) (.k (.c (cleanMap _ _ cl_GTone)) (.k (.c rfl) (.k (.c rfl) .z))))) .z) ?_
                rintro l6_95 out hl6 rl6
                refine run1 (c9 97) [] [0, 2, 93, 94, 95, 96] [] (zipE [0, 2, 93, 94, 95, 96] [.sl false (a0.map E_GTone), .i a2, .sl false (r6.1.map E_GTone), .i (r6.1.length : Int), .i l6_95, .bool (decide (l6_95 < (r6.1.length : Int)))]) ⟨[], 0⟩ _ (by kernel_rfl) cj0 ?_
                refine run_s (c9 98) (c9 101) (by kernel_rfl) ?_
                rcases iteE hl6 with ⟨hc20, hl6⟩ | ⟨hc20, hl6⟩
                · refine run_cT 96 (c9 99) (c9 100) (decide (l6_95 < (r6.1.length : Int))) hc20 (by kernel_rfl) (by kernel_rfl) ?_
                  refine run_k (by kernel_rfl) ?_
                  refine thenN ?_
                  refine run_s (c9 102) (c9 131) (by kernel_rfl) ?_
                  refine run_b 5 (c9 103) (by kernel_rfl) ?_
                  obtain ⟨y21, hy21, hl6⟩ := bindE hl6
                  refine run1 (c9 105) [{ k := 1, x := E_GTone y21 }] [0, 2, 18, 93, 94, 95] [0] (zipE [0, 2, 18, 93, 94, 95] [.sl false (a0.map E_GTone), .i a2, .mp 0 0 0, .sl false (r6.1.map E_GTone), .i (r6.1.length : Int), .i l6_95]) ⟨[(0, .cells 3 [E_GTone y21])], 1⟩ _ (by kernel_rfl) (cjC ((ixE hy21).1) (cj1 (mapGet E_GTone (ixE hy21).2))) ?_
                  refine run1 (c9 107) [] [0, 2, 18, 19, 93, 94, 95] [0] (zipE [0, 2, 18, 19, 93, 94, 95] [.sl false (a0.map E_GTone), .i a2, .mp 0 0 0, .bool false, .sl false (r6.1.map E_GTone), .i (r6.1.length : Int), .i l6_95]) ⟨[(0, .cells 3 [E_GTone y21])], 1⟩ _ (by kernel_rfl) cj0 ?_
                  refine run_s (c9 108) (c9 124) (by kernel_rfl) ?_
                  refine run1 (c9 110) [{}, { k := 1, n := a0.length }] [0, 2, 18, 19, 93, 94, 95, 99, 100, 101] [0] (zipE [0, 2, 18, 19, 93, 94, 95, 99, 100, 101] [.sl false (a0.map E_GTone), .i a2, .mp 0 0 0, .bool false, .sl false (r6.1.map E_GTone), .i (r6.1.length : Int), .i l6_95, .sl false (a0.map E_GTone), .i (a0.length : Int), .i 0]) ⟨[(0, .cells 3 [E_GTone y21])], 1⟩ _ (by kernel_rfl) (cj1 (mapLen a0 E_GTone)) ?_
                  obtain ⟨l7x_19, hll7x, hl6⟩ := bindE hl6
                  refine run_tq (fun (l7x_19 : Bool) => (zipE [0, 2, 18, 19, 93, 94, 95] [.sl false (a0.map E_GTone), .i a2, .mp 0 0 0, .bool l7x_19, .sl false (r6.1.map E_GTone), .i (r6.1.length : Int), .i l6_95])) (fun (l7x_19 : Bool) => ⟨[(0, .cells 3 [E_GTone y21])], 1⟩) (fun j => l7x_19 = j) (fun kl7 => ?_) ?_
                  · refine run_b 6 (c9 111) (by kernel_rfl) ?_
                    refine run_l (c9 112) _ hll7x (fun ((l7_19, l7_101) : (Bool × Int)) => (zipE [0, 2, 18, 19, 93, 94, 95, 99, 100, 101] [.sl false (a0.map E_GTone), .i a2, .mp 0 0 0, .bool l7_19, .sl false (r6.1.map E_GTone), .i (r6.1.length : Int), .i l6_95, .sl false (a0.map E_GTone), .i (a0.length : Int), .i l7_101])) (fun ((l7_19, l7_101) : (Bool × Int)) => ⟨[(0, .cells 3 [E_GTone y21])], 1⟩) [] (by intro i e; cases e <;> exact Nat.le_of_ble_eq_true rfl) (by kernel_rfl) (mkInto (ks := [0, 2, 18, 19, 93, 94, 95, 99, 100, 101]) (ys := [.sl false (a0.map E_GTone), .i a2, .mp 0 0 0, .bool false, .sl false (r6.1.map E_GTone), .i (r6.1.length : Int), .i l6_95, .sl false (a0.map E_GTone), .i (a0.length : Int), .i 0]) (by kernel_rfl) (by kernel_rfl) (.k (.c (cleanMap _ _ cl_GTone)) (.k (.c rfl) (.k (.mp rfl rfl) (.k (.c rfl) (.k (.c (cleanMap _ _ cl_GTone)) (.k (.c rfl) (.k (.c rfl) (.k (.c (cleanMap _ _ cl_GTone)) (.k (.c rfl) (.k (.c rfl) .z)))))))))) (.k (x' := .cells 3 [E_GTone y21]) (by kernel_rfl) (.cells (.k (.c (cl_GTone y21)) .z)) .z)) ?_
                    rintro ⟨l7_19, l7_101⟩ out hl7 rl7
                    refine run1 (c9 114) [] [0, 2, 18, 19, 93, 94, 95, 99, 100, 101, 102] [0] (zipE [0, 2, 18, 19, 93, 94, 95, 99, 100, 101, 102] [.sl false (a0.map E_GTone), .i a2, .mp 0 0 0, .bool l7_19, .sl false (r6.1.map E_GTone), .i (r6.1.length : Int), .i l6_95, .sl false (a0.map E_GTone), .i (a0.length : Int), .i l7_101, .bool (decide (l7_101 < (a0.length : Int)))]) ⟨[(0, .cells 3 [E_GTone y21])], 1⟩ _ (by kernel_rfl) cj0 ?_
                    refine run_s (c9 115) (c9 118) (by kernel_rfl) ?_
                    rcases iteE hl7 with ⟨hc22, hl7⟩ | ⟨hc22, hl7⟩
                    · refine run_cT 102 (c9 116) (c9 117) (decide (l7_101 < (a0.length : Int))) hc22 (by kernel_rfl) (by kernel_rfl) ?_
                      refine run_k (by kernel_rfl) ?_
                      refine thenN ?_
                      refine run_s (c9 119) (c9 123) (by kernel_rfl) ?_
                      refine run_b 7 (c9 120) (by kernel_rfl) ?_
                      obtain ⟨y23, hy23, hl7⟩ := bindE hl7
                      refine run1 (c9 122) [{ k := 1, x := E_GTone y23 }] [0, 2, 18, 19, 21, 93, 94, 95, 99, 100, 101] [1, 0] (zipE [0, 2, 18, 19, 21, 93, 94, 95, 99, 100, 101] [.sl false (a0.map E_GTone), .i a2, .mp 0 0 0, .bool l7_19, .mp 1 0 0, .sl false (r6.1.map E_GTone), .i (r6.1.length : Int), .i l6_95, .sl false (a0.map E_GTone), .i (a0.length : Int), .i l7_101]) ⟨[(1, .cells 3 [E_GTone y23]), (0, .cells 3 [E_GTone y21])], 2⟩ _ (by kernel_rfl) (cjC ((ixE hy23).1) (cj1 (mapGet E_GTone (ixE hy23).2))) ?_
                      obtain ⟨j8_19, hj8, hl7⟩ := bindE hl7
                      refine run_tq (fun (j8_19 : Bool) => (zipE [0, 2, 18, 19, 93, 94, 95, 99, 100, 101] [.sl false (a0.map E_GTone), .i a2, .mp 0 0 0, .bool j8_19, .sl false (r6.1.map E_GTone), .i (r6.1.length : Int), .i l6_95, .sl false (a0.map E_GTone), .i (a0.length : Int), .i l7_101])) (fun (j8_19 : Bool) => ⟨[(0, .cells 3 [E_GTone y21])], 2⟩) (fun j => j8_19 = j) (fun kj8 => ?_) ?_
                      · rcases iteE hj8 with ⟨hc24, hj8⟩ | ⟨hc24, hj8⟩
                        · replace hj8 := Option.some.inj hj8; subst hj8
                          exact run0 [{}, {}, { g := false }, { g := false }, { g := false }, { k := 1, b := true }] [0, 2, 18, 19, 93, 94, 95, 99, 100, 101] [0] (zipE [0, 2, 18, 19, 93, 94, 95, 99, 100, 101] [.sl false (a0.map E_GTone), .i a2, .mp 0 0 0, .bool true, .sl false (r6.1.map E_GTone), .i (r6.1.length : Int), .i l6_95, .sl false (a0.map E_GTone), .i (a0.length : Int), .i l7_101]) ⟨[(0, .cells 3 [E_GTone y21])], 2⟩ _ (by kernel_rfl) (cjC (hc24) (cjC (hc24) (cjC (hc24) (cj1 (hc24))))) (kj8 true rfl)
                        · replace hj8 := Option.some.inj hj8; subst hj8
                          exact run0 [{}, {}, {}, {}, {}, { k := 1, b := false }] [0, 2, 18, 19, 93, 94, 95, 99, 100, 101] [0] (zipE [0, 2, 18, 19, 93, 94, 95, 99, 100, 101] [.sl false (a0.map E_GTone), .i a2, .mp 0 0 0, .bool (eq_GTone y23 y21), .sl false (r6.1.map E_GTone), .i (r6.1.length : Int), .i l6_95, .sl false (a0.map E_GTone), .i (a0.length : Int), .i l7_101]) ⟨[(0, .cells 3 [E_GTone y21])], 2⟩ _ (by kernel_rfl) (cjC (hc24) (cjC (hc24) (cjC (hc24) (cj1 (hc24))))) (kj8 (eq_GTone y23 y21) rfl)
                      · rintro _ rfl
                        refine inbN ?_
                        refine thenN ?_
                        refine run0 [] [0, 2, 18, 19, 93, 94, 95, 99, 100, 101] [0] (zipE [0, 2, 18, 19, 93, 94, 95, 99, 100, 101] [.sl false (a0.map E_GTone), .i a2, .mp 0 0 0, .bool j8_19, .sl false (r6.1.map E_GTone), .i (r6.1.length : Int), .i l6_95, .sl false (a0.map E_GTone), .i (a0.length : Int), .i (wr (l7_101 + 1))]) ⟨[(0, .cells 3 [E_GTone y21])], 2⟩ _ (by kernel_rfl) cj0 ?_
                        replace hl7 := Option.some.inj hl7; subst hl7
                        exact ⟨_, rfl, pi [], mkInto (ks := [0, 2, 18, 19, 93, 94, 95, 99, 100, 101]) (ys := [.sl false (a0.map E_GTone), .i a2, .mp 0 0 0, .bool j8_19, .sl false (r6.1.map E_GTone), .i (r6.1.length : Int), .i l6_95, .sl false (a0.map E_GTone), .i (a0.length : Int), .i (wr (l7_101 + 1))]) (by kernel_rfl) (by kernel_rfl) (.k (.c (cleanMap _ _ cl_GTone)) (.k (.c rfl) (.k (.mp rfl rfl) (.k (.c rfl) (.k (.c (cleanMap _ _ cl_GTone)) (.k (.c rfl) (.k (.c rfl) (.k (.c (cleanMap _ _ cl_GTone)) (.k (.c rfl) (.k (.c rfl) .z)))))))))) (.k (x' := .cells 3 [E_GTone y21]) (by kernel_rfl) (.cells (.k (.c (cl_GTone y21)) .z)) .z)⟩
                    · refine run_cF 102 (c9 116) (c9 117) (decide (l7_101 < (a0.length : Int))) hc22 (by kernel_rfl) (by kernel_rfl) ?_
                      replace hl7 := Option.some.inj hl7; subst hl7
                      have hr := rl7 _ rfl
                      subst hr
                      refine awp_p [0, 2, 18, 19, 93, 94, 95] [0] (zipE [0, 2, 18, 19, 93, 94, 95] [.sl false (a0.map E_GTone), .i a2, .mp 0 0 0, .bool l7_19, .sl false (r6.1.map E_GTone), .i (r6.1.length : Int), .i l6_95]) ⟨[(0, .cells 3 [E_GTone y21])], 1⟩ (by kernel_rfl) (?_)
                      refine run_e 6 (by kernel_rfl) ?_
                      refine thenE ?_
                      refine ⟨⟨_, rfl⟩, ?_⟩
                      refine inbE ?_
                      exact kl7 l7_19 rfl
                  · rintro _ rfl
                    refine thenN ?_
                    obtain ⟨j9_122, hj9, hl6⟩ := bindE hl6
                    refine run_gq (c9 126) (fun (j9_122 : Bool) => (zipE [0, 2, 93, 94, 95, 122] [.sl false (a0.map E_GTone), .i a2, .sl false (r6.1.map E_GTone), .i (r6.1.length : Int), .i l6_95, .bool j9_122])) (fun (j9_122 : Bool) => ⟨[], 1⟩) (fun j => j9_122 = j) (fun kj9 => ?_) ?_
                    · rcases iteE hj9 with ⟨hc25, hj9⟩ | ⟨hc25, hj9⟩
                      · replace hj9 := Option.some.inj hj9; subst hj9
                        exact run1 (c9 126) [{}, {}, {}, {}, {}, {}, {}, {}, {}, {}, { k := 1, b := true }] [0, 2, 93, 94, 95, 122] [] (zipE [0, 2, 93, 94, 95, 122] [.sl false (a0.map E_GTone), .i a2, .sl false (r6.1.map E_GTone), .i (r6.1.length : Int), .i l6_95, .bool (decide ((wr (y21.to_ - y21.from_)) < a2))]) ⟨[], 1⟩ _ (by kernel_rfl) (cjC (hc25) (cjC (hc25) (cjC (hc25) (cjC (hc25) (cjC (hc25) (cjC (hc25) (cjC (hc25) (cj1 (hc25))))))))) (kj9 (decide ((wr (y21.to_ - y21.from_)) < a2)) rfl)
                      · replace hj9 := Option.some.inj hj9; subst hj9
                        exact run1 (c9 126) [{}, {}, {}, { g := false }, { g := false }, { g := false }, { g := false }, { g := false }, { g := false }, { g := false }, { k := 1, b := false }] [0, 2, 93, 94, 95, 122] [] (zipE [0, 2, 93, 94, 95, 122] [.sl false (a0.map E_GTone), .i a2, .sl false (r6.1.map E_GTone), .i (r6.1.length : Int), .i l6_95, .bool false]) ⟨[], 1⟩ _ (by kernel_rfl) (cjC (hc25) (cjC (hc25) (cjC (hc25) (cjC (hc25) (cjC (hc25) (cjC (hc25) (cjC (hc25) (cj1 (hc25))))))))) (kj9 false rfl)
                    · rintro _ rfl
                      rcases iteE hl6 with ⟨hc26, hl6⟩ | ⟨hc26, hl6⟩
                      · refine run_cT 122 (c9 127) (c9 130) j9_122 hc26 (by kernel_rfl) (by kernel_rfl) ?_
                        refine run1 (c9 129) [] [6] [] (zipE [6] [.bool false]) ⟨[], 1⟩ _ (by kernel_rfl) cj0 ?_
                        replace hl6 := Option.some.inj hl6; subst hl6
                        have hr := rl6 _ rfl
                        subst hr
                        replace h := elimR h
                        refine run_t (by kernel_rfl) ?_
                        refine inbR ?_
                        refine thenR ?_
                        refine ⟨⟨_, rfl⟩, ?_⟩
                        refine inbR ?_
                        refine thenR ?_
                        replace h := Option.some.inj h; subst h
                        exact fin_r (by kernel_rfl) rfl
                      · refine run_cF 122 (c9 127) (c9 130) j9_122 hc26 (by kernel_rfl) (by kernel_rfl) ?_
                        refine run_k (by kernel_rfl) ?_
                        refine inbN ?_
                        refine thenN ?_
                        refine run0 [] [0, 2, 93, 94, 95] [] (zipE [0, 2, 93, 94, 95] [.sl false (a0.map E_GTone), .i a2, .sl false (r6.1.map E_GTone), .i (r6.1.length : Int), .i (wr (l6_95 + 1))]) ⟨[], 1⟩ _ (by kernel_rfl) cj0 ?_
                        replace hl6 := Option.some.inj hl6; subst hl6
                        exact ⟨_, rfl, pi [], mkInto (ks := [0, 2, 93, 94, 95]) (ys := [.sl false (a0.map E_GTone), .i a2, .sl false (r6.1.map E_GTone), .i (r6.1.length : Int), .i (wr (l6_95 + 1))]) (by kernel_rfl) (by kernel_rfl) (.k (.c (cleanMap _ _ cl_GTone)) (.k (.c rfl) (.k (.c (cleanMap _ _ cl_GTone)) (.k (.c rfl) (.k (.c rfl) .z))))) .z⟩
                · refine run_cF 96 (c9 99) (c9 100) (decide (l6_95 < (r6.1.length : Int))) hc20 (by kernel_rfl) (by kernel_rfl) ?_
                  replace hl6 := Option.some.inj hl6; subst hl6
                  have hr := rl6 _ rfl
                  subst hr
                  refine awp_p [] [] (zipE [] []) ⟨[], 0⟩ (by kernel_rfl) (?_)
                  refine run_e 4 (by kernel_rfl) ?_
                  refine thenE ?_
                  refine ⟨⟨_, rfl⟩, ?_⟩
                  refine inbE ?_
                  exact kl6 () rfl
              · rintro ⟨⟩ rfl
                replace h := elimL h
                refine thenN ?_
                obtain ⟨r27, hr27, h⟩ := bindE h
                refine run1 (c9 134) [{ c := some (.bool r27, ⟨[], 0⟩) }] [6] [] (zipE [6] [.bool r27]) ⟨[], 0⟩ _ (by kernel_rfl) (cj1 (f13_ok  _ hr27 ⟨[], 0⟩)) ?_
                refine run_t (by kernel_rfl) ?_
                replace h := Option.some.inj h; subst h
                exact fin_r (by kernel_rfl) rfl

end Go.Proofs.YtplpfocfcppajaaGreat
