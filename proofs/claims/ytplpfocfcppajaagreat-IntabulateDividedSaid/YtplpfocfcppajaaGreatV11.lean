/-
  Functions of the program as Lean functions, and the walks. Written by a program of ours.
-/
import Derived.Test.YtplpfocfcppajaaGreatV6
import Derived.Test.YtplpfocfcppajaaGreatV8
import Derived.Test.YtplpfocfcppajaaGreatV10
namespace Go.Proofs.YtplpfocfcppajaaGreat
open Go Go.Am
set_option maxRecDepth 100000
set_option linter.all false
/-- theorbo.theorbolaw08.at -/
def f37 (a0 : List GTone) (a1 : Int) : Option Int := (loopN (σ := Int) (τ := (Unit ⊕ Int)) (fun (l1_9 : Int) => bif (decide (l1_9 < (a0.length : Int))) then ((ix a0 l1_9).bind fun y2 => ((bif (decide (y2.from_ ≤ a1)) then (some (decide (a1 < y2.to_))) else (some false)) : Option Bool).bind fun (j2_22 : Bool) => bif j2_22 then (some (.inr (.inr y2.pitch))) else (some (.inl (wr (l1_9 + 1))))) else (some (.inr (.inl ())))) FUEL 0).bind (Sum.elim (fun (_ : Unit) => some (-1)) some)
theorem f37_ok (a0 : List GTone) (a1 : Int) (r : Int) (h : f37 a0 a1 = some r) : APure Tryz.prog 37 [.sl false (a0.map E_GTone), .i a1] (.i r) := by
  refine apure (clK (cleanMap a0 _ cl_GTone) (clK rfl clZ)) rfl ?_
  refine run_f 26 [.tmp 4] (c37 0) (zipE [0, 1] [.sl false (a0.map E_GTone), .i a1]) (by kernel_rfl) (by kernel_rfl) (by kernel_rfl) rfl ?_
  unfold f37 at h
  refine run1 (c37 2) [] [0, 1] [] (zipE [0, 1] [.sl false (a0.map E_GTone), .i a1]) ⟨[], 0⟩ _ (by kernel_rfl) cj0 ?_
  refine run_s (c37 3) (c37 25) (by kernel_rfl) ?_
  refine run1 (c37 5) [{}, { k := 1, n := a0.length }] [1, 7, 8, 9] [] (zipE [1, 7, 8, 9] [.i a1, .sl false (a0.map E_GTone), .i (a0.length : Int), .i 0]) ⟨[], 0⟩ _ (by kernel_rfl) (cj1 (mapLen a0 E_GTone)) ?_
  obtain ⟨ol1x, hll1x, h⟩ := bindE h
  refine run_tq (fun (_ : Unit) => (zipE [] [])) (fun (_ : Unit) => ⟨[], 0⟩) (fun j => ol1x = .inl j) (fun kl1 => ?_) ?_
  · refine run_b 0 (c37 6) (by kernel_rfl) ?_
    refine run_l (c37 7) _ hll1x (fun (l1_9 : Int) => (zipE [1, 7, 8, 9] [.i a1, .sl false (a0.map E_GTone), .i (a0.length : Int), .i l1_9])) (fun (l1_9 : Int) => ⟨[], 0⟩) [] (by intro i e; cases e <;> exact Nat.le_of_ble_eq_true rfl) (by kernel_rfl) (mkInto (ks := [1, 7, 8, 9]) (ys := [.i a1, .sl false (a0.map E_GTone), .i (a0.length : Int), .i 0]) (by kernel_rfl) (by kernel_rfl) (.k (.c rfl) (.k (.c (cleanMap _ _ cl_GTone)) (.k (.c rfl) (.k (.c rfl) .z)))) .z) ?_
    rintro l1_9 out hl1 rl1
    refine run1 (c37 9) [] [1, 7, 8, 9, 10] [] (zipE [1, 7, 8, 9, 10] [.i a1, .sl false (a0.map E_GTone), .i (a0.length : Int), .i l1_9, .bool (decide (l1_9 < (a0.length : Int)))]) ⟨[], 0⟩ _ (by kernel_rfl) cj0 ?_
    refine run_s (c37 10) (c37 13) (by kernel_rfl) ?_
    rcases iteE hl1 with ⟨hc1, hl1⟩ | ⟨hc1, hl1⟩
    · refine run_cT 10 (c37 11) (c37 12) (decide (l1_9 < (a0.length : Int))) hc1 (by kernel_rfl) (by kernel_rfl) ?_
      refine run_k (by kernel_rfl) ?_
      refine thenN ?_
      refine run_s (c37 14) (c37 24) (by kernel_rfl) ?_
      refine run_b 1 (c37 15) (by kernel_rfl) ?_
      obtain ⟨y2, hy2, hl1⟩ := bindE hl1
      refine run1 (c37 17) [{ k := 1, x := E_GTone y2 }] [1, 6, 7, 8, 9] [0] (zipE [1, 6, 7, 8, 9] [.i a1, .mp 0 0 0, .sl false (a0.map E_GTone), .i (a0.length : Int), .i l1_9]) ⟨[(0, .cells 3 [E_GTone y2])], 1⟩ _ (by kernel_rfl) (cjC ((ixE hy2).1) (cj1 (mapGet E_GTone (ixE hy2).2))) ?_
      obtain ⟨j2_22, hj2, hl1⟩ := bindE hl1
      refine run_gq (c37 19) (fun (j2_22 : Bool) => (zipE [1, 6, 7, 8, 9, 22] [.i a1, .mp 0 0 0, .sl false (a0.map E_GTone), .i (a0.length : Int), .i l1_9, .bool j2_22])) (fun (j2_22 : Bool) => ⟨[(0, .cells 3 [E_GTone y2])], 1⟩) (fun j => j2_22 = j) (fun kj2 => ?_) ?_
      · rcases iteE hj2 with ⟨hc3, hj2⟩ | ⟨hc3, hj2⟩
        · replace hj2 := Option.some.inj hj2; subst hj2
          exact run1 (c37 19) [{}, {}, {}, {}, {}, {}, {}, {}, {}, { k := 1, b := true }] [1, 6, 7, 8, 9, 22] [0] (zipE [1, 6, 7, 8, 9, 22] [.i a1, .mp 0 0 0, .sl false (a0.map E_GTone), .i (a0.length : Int), .i l1_9, .bool (decide (a1 < y2.to_))]) ⟨[(0, .cells 3 [E_GTone y2])], 1⟩ _ (by kernel_rfl) (cjC (hc3) (cjC (hc3) (cjC (hc3) (cjC (hc3) (cj1 (hc3)))))) (kj2 (decide (a1 < y2.to_)) rfl)
        · replace hj2 := Option.some.inj hj2; subst hj2
          exact run1 (c37 19) [{}, {}, {}, {}, {}, { g := false }, { g := false }, { g := false }, { g := false }, { k := 1, b := false }] [1, 6, 7, 8, 9, 22] [0] (zipE [1, 6, 7, 8, 9, 22] [.i a1, .mp 0 0 0, .sl false (a0.map E_GTone), .i (a0.length : Int), .i l1_9, .bool false]) ⟨[(0, .cells 3 [E_GTone y2])], 1⟩ _ (by kernel_rfl) (cjC (hc3) (cjC (hc3) (cjC (hc3) (cjC (hc3) (cj1 (hc3)))))) (kj2 false rfl)
      · rintro _ rfl
        rcases iteE hl1 with ⟨hc4, hl1⟩ | ⟨hc4, hl1⟩
        · refine run_cT 22 (c37 20) (c37 23) j2_22 hc4 (by kernel_rfl) (by kernel_rfl) ?_
          refine run1 (c37 22) [] [4] [] (zipE [4] [.i y2.pitch]) ⟨[], 1⟩ _ (by kernel_rfl) cj0 ?_
          replace hl1 := Option.some.inj hl1; subst hl1
          have hr := rl1 _ rfl
          subst hr
          replace h := elimR h
          refine run_t (by kernel_rfl) ?_
          refine inbR ?_
          refine thenR ?_
          refine ⟨⟨_, rfl⟩, ?_⟩
          refine inbR ?_
          refine thenR ?_
          replace h := Option.some.inj h; subst h
          exact fin_r (by kernel_rfl) rfl
        · refine run_cF 22 (c37 20) (c37 23) j2_22 hc4 (by kernel_rfl) (by kernel_rfl) ?_
          refine run_k (by kernel_rfl) ?_
          refine inbN ?_
          refine thenN ?_
          refine run0 [] [1, 7, 8, 9] [] (zipE [1, 7, 8, 9] [.i a1, .sl false (a0.map E_GTone), .i (a0.length : Int), .i (wr (l1_9 + 1))]) ⟨[], 1⟩ _ (by kernel_rfl) cj0 ?_
          replace hl1 := Option.some.inj hl1; subst hl1
          exact ⟨_, rfl, pi [], mkInto (ks := [1, 7, 8, 9]) (ys := [.i a1, .sl false (a0.map E_GTone), .i (a0.length : Int), .i (wr (l1_9 + 1))]) (by kernel_rfl) (by kernel_rfl) (.k (.c rfl) (.k (.c (cleanMap _ _ cl_GTone)) (.k (.c rfl) (.k (.c rfl) .z)))) .z⟩
    · refine run_cF 10 (c37 11) (c37 12) (decide (l1_9 < (a0.length : Int))) hc1 (by kernel_rfl) (by kernel_rfl) ?_
      replace hl1 := Option.some.inj hl1; subst hl1
      have hr := rl1 _ rfl
      subst hr
      refine awp_p [] [] (zipE [] []) ⟨[], 0⟩ (by kernel_rfl) (?_)
      refine run_e 0 (by kernel_rfl) ?_
      refine thenE ?_
      refine ⟨⟨_, rfl⟩, ?_⟩
      refine inbE ?_
      exact kl1 () rfl
  · rintro ⟨⟩ rfl
    replace h := elimL h
    refine thenN ?_
    refine run1 (c37 27) [] [4] [] (zipE [4] [.i (-1)]) ⟨[], 0⟩ _ (by kernel_rfl) cj0 ?_
    refine run_t (by kernel_rfl) ?_
    replace h := Option.some.inj h; subst h
    exact fin_r (by kernel_rfl) rfl

/-- theorbo.theorbolaw08.IntabulateDivided -/
def f11 (a0 : List GTone) (a1 : List GFigure) (a2 : List Int) : Option Bool := bif (decide (64 < (a0.length : Int))) then ((f13).bind fun r2 => some r2) else ((f31 a0 a1 a2).bind fun r3 => bif (decide (r3.2 ≠ 0)) then ((f13).bind fun r5 => some r5) else ((f34 r3.1 a1 a2).bind fun r6 => ((bif (decide (r6.2 ≠ 0)) then (some true) else ((f33 r6.1 a0).bind fun r8 => bif (!r8) then (some true) else ((f36 ([r3.1] : List (List GTone))).bind fun r10 => bif (decide (r10 ≠ 0)) then (some true) else (some (decide ((r3.1.length : Int) < (a0.length : Int))))))) : Option Bool).bind fun (j1_60 : Bool) => bif j1_60 then (some false) else ((loopN (σ := Int) (τ := (Unit ⊕ Bool)) (fun (l2_63 : Int) => bif (decide (l2_63 < (a0.length : Int))) then ((ix a0 l2_63).bind fun y14 => (f37 r3.1 y14.from_).bind fun r15 => bif (decide (r15 ≠ y14.pitch)) then (some (.inr (.inr false))) else (some (.inl (wr (l2_63 + 1))))) else (some (.inr (.inl ())))) FUEL 0).bind (Sum.elim (fun (_ : Unit) => (loopN (σ := Int) (τ := (Unit ⊕ Bool)) (fun (l3_77 : Int) => bif (decide (l3_77 < (r3.1.length : Int))) then ((ix r3.1 l3_77).bind fun y18 => (((f37 a0 y18.from_).bind fun r19 => bif (decide (r19 < 0)) then (some true) else ((f37 a0 (wr (y18.to_ - 1))).bind fun r21 => some (decide (r21 < 0)))) : Option Bool).bind fun (j4_93 : Bool) => bif j4_93 then (some (.inr (.inr false))) else (some (.inl (wr (l3_77 + 1))))) else (some (.inr (.inl ())))) FUEL 0).bind (Sum.elim (fun (_ : Unit) => (loopN (σ := (Int × Int)) (τ := Int) (fun ((l5_14, l5_97) : (Int × Int)) => bif (decide (l5_97 < (a0.length : Int))) then ((ix a0 l5_97).bind fun y24 => some (.inl ((wr (l5_14 + (wr (y24.to_ - y24.from_)))), (wr (l5_97 + 1))))) else (some (.inr l5_14))) FUEL (0, 0)).bind fun (l5x_14 : Int) => (loopN (σ := (Int × Int)) (τ := Int) (fun ((l6_14, l6_111) : (Int × Int)) => bif (decide (l6_111 < (r3.1.length : Int))) then ((ix r3.1 l6_111).bind fun y26 => some (.inl ((wr (l6_14 - (wr (y26.to_ - y26.from_)))), (wr (l6_111 + 1))))) else (some (.inr l6_14))) FUEL (l5x_14, 0)).bind fun (l6x_14 : Int) => ((bif (decide (l6x_14 = 0)) then ((f13).bind fun r28 => some r28) else (some false)) : Option Bool).bind fun (j7_6 : Bool) => some j7_6) some)) some))))
theorem f11_ok (a0 : List GTone) (a1 : List GFigure) (a2 : List Int) (r : Bool) (h : f11 a0 a1 a2 = some r) : APure Tryz.prog 11 [.sl false (a0.map E_GTone), .sl false (a1.map E_GFigure), .sl false (a2.map AV.i)] (.bool r) := by
  refine apure (clK (cleanMap a0 _ cl_GTone) (clK (cleanMap a1 _ cl_GFigure) (clK (cleanMap a2 _ cl_i) clZ))) rfl ?_
  refine run_f 128 [.tmp 6] (c11 0) (zipE [0, 1, 2] [.sl false (a0.map E_GTone), .sl false (a1.map E_GFigure), .sl false (a2.map AV.i)]) (by kernel_rfl) (by kernel_rfl) (by kernel_rfl) rfl ?_
  unfold f11 at h
  refine run1 (c11 2) [] [0, 1, 2] [] (zipE [0, 1, 2] [.sl false (a0.map E_GTone), .sl false (a1.map E_GFigure), .sl false (a2.map AV.i)]) ⟨[], 0⟩ _ (by kernel_rfl) cj0 ?_
  refine run_s (c11 3) (c11 10) (by kernel_rfl) ?_
  refine run1 (c11 5) [{}, { k := 1, n := a0.length }] [0, 1, 2, 21] [] (zipE [0, 1, 2, 21] [.sl false (a0.map E_GTone), .sl false (a1.map E_GFigure), .sl false (a2.map AV.i), .bool (decide (64 < (a0.length : Int)))]) ⟨[], 0⟩ _ (by kernel_rfl) (cj1 (mapLen a0 E_GTone)) ?_
  rcases iteE h with ⟨hc1, h⟩ | ⟨hc1, h⟩
  · refine run_cT 21 (c11 6) (c11 9) (decide (64 < (a0.length : Int))) hc1 (by kernel_rfl) (by kernel_rfl) ?_
    obtain ⟨r2, hr2, h⟩ := bindE h
    refine run1 (c11 8) [{ c := some (.bool r2, ⟨[], 0⟩) }] [6] [] (zipE [6] [.bool r2]) ⟨[], 0⟩ _ (by kernel_rfl) (cj1 (f13_ok  _ hr2 ⟨[], 0⟩)) ?_
    refine run_t (by kernel_rfl) ?_
    refine thenR ?_
    replace h := Option.some.inj h; subst h
    exact fin_r (by kernel_rfl) rfl
  · refine run_cF 21 (c11 6) (c11 9) (decide (64 < (a0.length : Int))) hc1 (by kernel_rfl) (by kernel_rfl) ?_
    refine run_k (by kernel_rfl) ?_
    refine thenN ?_
    obtain ⟨r3, hr3, h⟩ := bindE h
    refine run1 (c11 12) [{}, {}, {}, { c := some (.tup [.sl false (r3.1.map E_GTone), .i r3.2], ⟨[], 0⟩) }] [0, 1, 2, 7, 8] [] (zipE [0, 1, 2, 7, 8] [.sl false (a0.map E_GTone), .sl false (a1.map E_GFigure), .sl false (a2.map AV.i), .sl false (r3.1.map E_GTone), .i r3.2]) ⟨[], 0⟩ _ (by kernel_rfl) (cj1 (f31_ok a0 a1 a2 _ hr3 ⟨[], 0⟩)) ?_
    refine run_s (c11 13) (c11 20) (by kernel_rfl) ?_
    refine run1 (c11 15) [] [0, 1, 2, 7, 31] [] (zipE [0, 1, 2, 7, 31] [.sl false (a0.map E_GTone), .sl false (a1.map E_GFigure), .sl false (a2.map AV.i), .sl false (r3.1.map E_GTone), .bool (decide (r3.2 ≠ 0))]) ⟨[], 0⟩ _ (by kernel_rfl) cj0 ?_
    rcases iteE h with ⟨hc4, h⟩ | ⟨hc4, h⟩
    · refine run_cT 31 (c11 16) (c11 19) (decide (r3.2 ≠ 0)) hc4 (by kernel_rfl) (by kernel_rfl) ?_
      obtain ⟨r5, hr5, h⟩ := bindE h
      refine run1 (c11 18) [{ c := some (.bool r5, ⟨[], 0⟩) }] [6] [] (zipE [6] [.bool r5]) ⟨[], 0⟩ _ (by kernel_rfl) (cj1 (f13_ok  _ hr5 ⟨[], 0⟩)) ?_
      refine run_t (by kernel_rfl) ?_
      refine thenR ?_
      replace h := Option.some.inj h; subst h
      exact fin_r (by kernel_rfl) rfl
    · refine run_cF 31 (c11 16) (c11 19) (decide (r3.2 ≠ 0)) hc4 (by kernel_rfl) (by kernel_rfl) ?_
      refine run_k (by kernel_rfl) ?_
      refine thenN ?_
      obtain ⟨r6, hr6, h⟩ := bindE h
      refine run1 (c11 22) [{}, {}, {}, { c := some (.tup [.sl false (r6.1.map E_GTone), .i r6.2], ⟨[], 0⟩) }] [0, 7, 8, 9] [] (zipE [0, 7, 8, 9] [.sl false (a0.map E_GTone), .sl false (r3.1.map E_GTone), .i r6.2, .sl false (r6.1.map E_GTone)]) ⟨[], 0⟩ _ (by kernel_rfl) (cj1 (f34_ok r3.1 a1 a2 _ hr6 ⟨[], 0⟩)) ?_
      refine run_s (c11 23) (c11 30) (by kernel_rfl) ?_
      obtain ⟨j1_60, hj1, h⟩ := bindE h
      refine run_gq (c11 25) (fun (j1_60 : Bool) => (zipE [0, 7, 60] [.sl false (a0.map E_GTone), .sl false (r3.1.map E_GTone), .bool j1_60])) (fun (j1_60 : Bool) => ⟨[], 0⟩) (fun j => j1_60 = j) (fun kj1 => ?_) ?_
      · rcases iteE hj1 with ⟨hc7, hj1⟩ | ⟨hc7, hj1⟩
        · replace hj1 := Option.some.inj hj1; subst hj1
          exact run1 (c11 25) [{}, {}, {}, { g := false }, { g := false }, { g := false }, { g := false }, { k := 1, b := true }, {}, { g := false }, { g := false }, { g := false }, { g := false }, {}, {}, { g := false }, { g := false }, { g := false }, { g := false }, { g := false }] [0, 7, 60] [] (zipE [0, 7, 60] [.sl false (a0.map E_GTone), .sl false (r3.1.map E_GTone), .bool true]) ⟨[], 0⟩ _ (by kernel_rfl) (cjC (hc7) (cjC (hc7) (cjC (hc7) (cjC (hc7) (cjC (hc7) (cjC (Eq.refl true) (cjC (Eq.refl true) (cjC (Eq.refl true) (cjC (Eq.refl true) (cjC (Eq.refl true) (cjC (Eq.refl true) (cjC (Eq.refl true) (cjC (Eq.refl true) (cj1 (Eq.refl true))))))))))))))) (kj1 true rfl)
        · obtain ⟨r8, hr8, hj1⟩ := bindE hj1
          rcases iteE hj1 with ⟨hc9, hj1⟩ | ⟨hc9, hj1⟩
          · replace hj1 := Option.some.inj hj1; subst hj1
            exact run1 (c11 25) [{}, {}, {}, {}, {}, { c := some (.bool r8, ⟨[], 0⟩) }, {}, { k := 1, b := false }, {}, { g := false }, { g := false }, { g := false }, { g := false }, { k := 1, b := true }, {}, { g := false }, { g := false }, { g := false }, { g := false }, { g := false }] [0, 7, 60] [] (zipE [0, 7, 60] [.sl false (a0.map E_GTone), .sl false (r3.1.map E_GTone), .bool true]) ⟨[], 0⟩ _ (by kernel_rfl) (cjC (hc7) (cjC (hc7) (cjC (hc7) (cjC (f33_ok r6.1 a0 _ hr8 ⟨[], 0⟩) (cjC (hc7) (cjC (hc7) (cjC (hc9) (cjC (hc9) (cjC (hc9) (cjC (hc9) (cjC (hc9) (cjC (Eq.refl true) (cjC (Eq.refl true) (cjC (Eq.refl true) (cjC (Eq.refl true) (cj1 (Eq.refl true))))))))))))))))) (kj1 true rfl)
          · obtain ⟨r10, hr10, hj1⟩ := bindE hj1
            rcases iteE hj1 with ⟨hc11, hj1⟩ | ⟨hc11, hj1⟩
            · replace hj1 := Option.some.inj hj1; subst hj1
              exact run1 (c11 25) [{}, {}, {}, {}, {}, { c := some (.bool r8, ⟨[], 0⟩) }, {}, { k := 1, b := false }, {}, {}, {}, { c := some (.i r10, ⟨[], 0⟩) }, {}, { k := 1, b := false }, {}, { g := false }, { g := false }, { g := false }, { g := false }, { g := false }, { k := 1, b := true }] [0, 7, 60] [] (zipE [0, 7, 60] [.sl false (a0.map E_GTone), .sl false (r3.1.map E_GTone), .bool true]) ⟨[], 0⟩ _ (by kernel_rfl) (cjC (hc7) (cjC (hc7) (cjC (hc7) (cjC (f33_ok r6.1 a0 _ hr8 ⟨[], 0⟩) (cjC (hc7) (cjC (hc7) (cjC (hc9) (cjC (hc9) (cjC (hc9) (cjC (APure.co (ok := fun _ => false) (π := id) (args := [.sl true [.sl false (r3.1.map E_GTone)]]) (f36_ok ([r3.1] : List (List GTone)) _ hr10) (.k (.s (cleanMap (([r3.1] : List (List GTone))) _ (cl_SL cl_GTone))) .z) ⟨[], 0⟩) (cjC (hc9) (cjC (hc9) (cjC (hc11) (cjC (hc11) (cjC (hc11) (cjC (hc11) (cjC (hc11) (cj1 (hc11))))))))))))))))))) (kj1 true rfl)
            · replace hj1 := Option.some.inj hj1; subst hj1
              exact run1 (c11 25) [{}, {}, {}, {}, {}, { c := some (.bool r8, ⟨[], 0⟩) }, {}, { k := 1, b := false }, {}, {}, {}, { c := some (.i r10, ⟨[], 0⟩) }, {}, { k := 1, b := false }, {}, {}, { k := 1, n := r3.1.length }, {}, { k := 1, n := a0.length }, {}, { k := 1, b := false }] [0, 7, 60] [] (zipE [0, 7, 60] [.sl false (a0.map E_GTone), .sl false (r3.1.map E_GTone), .bool (decide ((r3.1.length : Int) < (a0.length : Int)))]) ⟨[], 0⟩ _ (by kernel_rfl) (cjC (hc7) (cjC (hc7) (cjC (hc7) (cjC (f33_ok r6.1 a0 _ hr8 ⟨[], 0⟩) (cjC (hc7) (cjC (hc7) (cjC (hc9) (cjC (hc9) (cjC (hc9) (cjC (APure.co (ok := fun _ => false) (π := id) (args := [.sl true [.sl false (r3.1.map E_GTone)]]) (f36_ok ([r3.1] : List (List GTone)) _ hr10) (.k (.s (cleanMap (([r3.1] : List (List GTone))) _ (cl_SL cl_GTone))) .z) ⟨[], 0⟩) (cjC (hc9) (cjC (hc9) (cjC (hc11) (cjC (hc11) (cjC (mapLen r3.1 E_GTone) (cjC (hc11) (cjC (hc11) (cjC (mapLen a0 E_GTone) (cjC (hc11) (cj1 (hc11))))))))))))))))))))) (kj1 (decide ((r3.1.length : Int) < (a0.length : Int))) rfl)
      · rintro _ rfl
        rcases iteE h with ⟨hc12, h⟩ | ⟨hc12, h⟩
        · refine run_cT 60 (c11 26) (c11 29) j1_60 hc12 (by kernel_rfl) (by kernel_rfl) ?_
          refine run1 (c11 28) [] [6] [] (zipE [6] [.bool false]) ⟨[], 0⟩ _ (by kernel_rfl) cj0 ?_
          refine run_t (by kernel_rfl) ?_
          refine thenR ?_
          replace h := Option.some.inj h; subst h
          exact fin_r (by kernel_rfl) rfl
        · refine run_cF 60 (c11 26) (c11 29) j1_60 hc12 (by kernel_rfl) (by kernel_rfl) ?_
          refine run_k (by kernel_rfl) ?_
          refine thenN ?_
          refine run_s (c11 31) (c11 53) (by kernel_rfl) ?_
          refine run1 (c11 33) [{}, { k := 1, n := a0.length }] [0, 7, 61, 62, 63] [] (zipE [0, 7, 61, 62, 63] [.sl false (a0.map E_GTone), .sl false (r3.1.map E_GTone), .sl false (a0.map E_GTone), .i (a0.length : Int), .i 0]) ⟨[], 0⟩ _ (by kernel_rfl) (cj1 (mapLen a0 E_GTone)) ?_
          obtain ⟨ol2x, hll2x, h⟩ := bindE h
          refine run_tq (fun (_ : Unit) => (zipE [0, 7] [.sl false (a0.map E_GTone), .sl false (r3.1.map E_GTone)])) (fun (_ : Unit) => ⟨[], 0⟩) (fun j => ol2x = .inl j) (fun kl2 => ?_) ?_
          · refine run_b 0 (c11 34) (by kernel_rfl) ?_
            refine run_l (c11 35) _ hll2x (fun (l2_63 : Int) => (zipE [0, 7, 61, 62, 63] [.sl false (a0.map E_GTone), .sl false (r3.1.map E_GTone), .sl false (a0.map E_GTone), .i (a0.length : Int), .i l2_63])) (fun (l2_63 : Int) => ⟨[], 0⟩) [] (by intro i e; cases e <;> exact Nat.le_of_ble_eq_true rfl) (by kernel_rfl) (mkInto (ks := [0, 7, 61, 62, 63]) (ys := [.sl false (a0.map E_GTone), .sl false (r3.1.map E_GTone), .sl false (a0.map E_GTone), .i (a0.length : Int), .i 0]) (by kernel_rfl) (by kernel_rfl) (.k (.c (cleanMap _ _ cl_GTone)) (.k (.c (cleanMap _ _ cl_GTone)) (.k (.c (cleanMap _ _ cl_GTone)) (.k (.c rfl) (.k (.c rfl) .z))))) .z) ?_
            rintro l2_63 out hl2 rl2
            refine run1 (c11 37) [] [0, 7, 61, 62, 63, 64] [] (zipE [0, 7, 61, 62, 63, 64] [.sl false (a0.map E_GTone), .sl false (r3.1.map E_GTone), .sl false (a0.map E_GTone), .i (a0.length : Int), .i l2_63, .bool (decide (l2_63 < (a0.length : Int)))]) ⟨[], 0⟩ _ (by kernel_rfl) cj0 ?_
            refine run_s (c11 38) (c11 41) (by kernel_rfl) ?_
            rcases iteE hl2 with ⟨hc13, hl2⟩ | ⟨hc13, hl2⟩
            · refine run_cT 64 (c11 39) (c11 40) (decide (l2_63 < (a0.length : Int))) hc13 (by kernel_rfl) (by kernel_rfl) ?_
              refine run_k (by kernel_rfl) ?_
              refine thenN ?_
              refine run_s (c11 42) (c11 52) (by kernel_rfl) ?_
              refine run_b 1 (c11 43) (by kernel_rfl) ?_
              obtain ⟨y14, hy14, hl2⟩ := bindE hl2
              refine run1 (c11 45) [{ k := 1, x := E_GTone y14 }] [0, 7, 11, 61, 62, 63] [0] (zipE [0, 7, 11, 61, 62, 63] [.sl false (a0.map E_GTone), .sl false (r3.1.map E_GTone), .mp 0 0 0, .sl false (a0.map E_GTone), .i (a0.length : Int), .i l2_63]) ⟨[(0, .cells 3 [E_GTone y14])], 1⟩ _ (by kernel_rfl) (cjC ((ixE hy14).1) (cj1 (mapGet E_GTone (ixE hy14).2))) ?_
              obtain ⟨r15, hr15, hl2⟩ := bindE hl2
              refine yun1 (c11 47) [[], [], [1], [0, 1, 2], [], [4], [0, 1, 2, 3, 4, 5]] [.light 0 false, .light 1 false, .light 2 false, .light 4 false, .light 5 true, .heavy 3 [5], .light 6 false] [{}, {}, {}, {}, {}, { c := some (.i r15, ⟨[(0, .cells 3 [E_GTone y14])], 1⟩) }] [0, 7, 61, 62, 63, 73] [] (zipE [0, 7, 61, 62, 63, 73] [.sl false (a0.map E_GTone), .sl false (r3.1.map E_GTone), .sl false (a0.map E_GTone), .i (a0.length : Int), .i l2_63, .bool (decide (r15 ≠ y14.pitch))]) ⟨[], 1⟩ _ (by kernel_rfl) (cjC (f37_ok r3.1 y14.from_ _ hr15 ⟨[(0, .cells 3 [E_GTone y14])], 1⟩) (cj1 (@Eq.refl AV (.i y14.pitch)))) ?_
              rcases iteE hl2 with ⟨hc16, hl2⟩ | ⟨hc16, hl2⟩
              · refine run_cT 73 (c11 48) (c11 51) (decide (r15 ≠ y14.pitch)) hc16 (by kernel_rfl) (by kernel_rfl) ?_
                refine run1 (c11 50) [] [6] [] (zipE [6] [.bool false]) ⟨[], 1⟩ _ (by kernel_rfl) cj0 ?_
                replace hl2 := Option.some.inj hl2; subst hl2
                have hr := rl2 _ rfl
                subst hr
                replace h := elimR h
                refine run_t (by kernel_rfl) ?_
                refine inbR ?_
                refine thenR ?_
                refine ⟨⟨_, rfl⟩, ?_⟩
                refine inbR ?_
                refine thenR ?_
                replace h := Option.some.inj h; subst h
                exact fin_r (by kernel_rfl) rfl
              · refine run_cF 73 (c11 48) (c11 51) (decide (r15 ≠ y14.pitch)) hc16 (by kernel_rfl) (by kernel_rfl) ?_
                refine run_k (by kernel_rfl) ?_
                refine inbN ?_
                refine thenN ?_
                refine run0 [] [0, 7, 61, 62, 63] [] (zipE [0, 7, 61, 62, 63] [.sl false (a0.map E_GTone), .sl false (r3.1.map E_GTone), .sl false (a0.map E_GTone), .i (a0.length : Int), .i (wr (l2_63 + 1))]) ⟨[], 1⟩ _ (by kernel_rfl) cj0 ?_
                replace hl2 := Option.some.inj hl2; subst hl2
                exact ⟨_, rfl, pi [], mkInto (ks := [0, 7, 61, 62, 63]) (ys := [.sl false (a0.map E_GTone), .sl false (r3.1.map E_GTone), .sl false (a0.map E_GTone), .i (a0.length : Int), .i (wr (l2_63 + 1))]) (by kernel_rfl) (by kernel_rfl) (.k (.c (cleanMap _ _ cl_GTone)) (.k (.c (cleanMap _ _ cl_GTone)) (.k (.c (cleanMap _ _ cl_GTone)) (.k (.c rfl) (.k (.c rfl) .z))))) .z⟩
            · refine run_cF 64 (c11 39) (c11 40) (decide (l2_63 < (a0.length : Int))) hc13 (by kernel_rfl) (by kernel_rfl) ?_
              replace hl2 := Option.some.inj hl2; subst hl2
              have hr := rl2 _ rfl
              subst hr
              refine awp_p [0, 7] [] (zipE [0, 7] [.sl false (a0.map E_GTone), .sl false (r3.1.map E_GTone)]) ⟨[], 0⟩ (by kernel_rfl) (?_)
              refine run_e 0 (by kernel_rfl) ?_
              refine thenE ?_
              refine ⟨⟨_, rfl⟩, ?_⟩
              refine inbE ?_
              exact kl2 () rfl
          · rintro ⟨⟩ rfl
            replace h := elimL h
            refine thenN ?_
            refine run_s (c11 54) (c11 76) (by kernel_rfl) ?_
            refine run1 (c11 56) [{}, { k := 1, n := r3.1.length }] [0, 7, 75, 76, 77] [] (zipE [0, 7, 75, 76, 77] [.sl false (a0.map E_GTone), .sl false (r3.1.map E_GTone), .sl false (r3.1.map E_GTone), .i (r3.1.length : Int), .i 0]) ⟨[], 0⟩ _ (by kernel_rfl) (cj1 (mapLen r3.1 E_GTone)) ?_
            obtain ⟨ol3x, hll3x, h⟩ := bindE h
            refine run_tq (fun (_ : Unit) => (zipE [0, 7] [.sl false (a0.map E_GTone), .sl false (r3.1.map E_GTone)])) (fun (_ : Unit) => ⟨[], 0⟩) (fun j => ol3x = .inl j) (fun kl3 => ?_) ?_
            · refine run_b 2 (c11 57) (by kernel_rfl) ?_
              refine run_l (c11 58) _ hll3x (fun (l3_77 : Int) => (zipE [0, 7, 75, 76, 77] [.sl false (a0.map E_GTone), .sl false (r3.1.map E_GTone), .sl false (r3.1.map E_GTone), .i (r3.1.length : Int), .i l3_77])) (fun (l3_77 : Int) => ⟨[], 0⟩) [] (by intro i e; cases e <;> exact Nat.le_of_ble_eq_true rfl) (by kernel_rfl) (mkInto (ks := [0, 7, 75, 76, 77]) (ys := [.sl false (a0.map E_GTone), .sl false (r3.1.map E_GTone), .sl false (r3.1.map E_GTone), .i (r3.1.length : Int), .i 0]) (by kernel_rfl) (by kernel_rfl) (.k (.c (cleanMap _ _ cl_GTone)) (.k (.c (cleanMap _ _ cl_GTone)) (.k (.c (cleanMap _ _ cl_GTone)) (.k (.c rfl) (.k (.c rfl) .z))))) .z) ?_
              rintro l3_77 out hl3 rl3
              refine run1 (c11 60) [] [0, 7, 75, 76, 77, 78] [] (zipE [0, 7, 75, 76, 77, 78] [.sl false (a0.map E_GTone), .sl false (r3.1.map E_GTone), .sl false (r3.1.map E_GTone), .i (r3.1.length : Int), .i l3_77, .bool (decide (l3_77 < (r3.1.length : Int)))]) ⟨[], 0⟩ _ (by kernel_rfl) cj0 ?_
              refine run_s (c11 61) (c11 64) (by kernel_rfl) ?_
              rcases iteE hl3 with ⟨hc17, hl3⟩ | ⟨hc17, hl3⟩
              · refine run_cT 78 (c11 62) (c11 63) (decide (l3_77 < (r3.1.length : Int))) hc17 (by kernel_rfl) (by kernel_rfl) ?_
                refine run_k (by kernel_rfl) ?_
                refine thenN ?_
                refine run_s (c11 65) (c11 75) (by kernel_rfl) ?_
                refine run_b 3 (c11 66) (by kernel_rfl) ?_
                obtain ⟨y18, hy18, hl3⟩ := bindE hl3
                refine run1 (c11 68) [{ k := 1, x := E_GTone y18 }] [0, 7, 13, 75, 76, 77] [0] (zipE [0, 7, 13, 75, 76, 77] [.sl false (a0.map E_GTone), .sl false (r3.1.map E_GTone), .mp 0 0 0, .sl false (r3.1.map E_GTone), .i (r3.1.length : Int), .i l3_77]) ⟨[(0, .cells 3 [E_GTone y18])], 1⟩ _ (by kernel_rfl) (cjC ((ixE hy18).1) (cj1 (mapGet E_GTone (ixE hy18).2))) ?_
                obtain ⟨j4_93, hj4, hl3⟩ := bindE hl3
                refine run_gq (c11 70) (fun (j4_93 : Bool) => (zipE [0, 7, 75, 76, 77, 93] [.sl false (a0.map E_GTone), .sl false (r3.1.map E_GTone), .sl false (r3.1.map E_GTone), .i (r3.1.length : Int), .i l3_77, .bool j4_93])) (fun (j4_93 : Bool) => ⟨[], 1⟩) (fun j => j4_93 = j) (fun kj4 => ?_) ?_
                · obtain ⟨r19, hr19, hj4⟩ := bindE hj4
                  rcases iteE hj4 with ⟨hc20, hj4⟩ | ⟨hc20, hj4⟩
                  · replace hj4 := Option.some.inj hj4; subst hj4
                    exact run1 (c11 70) [{}, {}, {}, { c := some (.i r19, ⟨[(0, .cells 3 [E_GTone y18])], 1⟩) }, {}, {}, { g := false }, { g := false }, { g := false }, { g := false }, { g := false }, { g := false }, { k := 1, b := true }] [0, 7, 75, 76, 77, 93] [] (zipE [0, 7, 75, 76, 77, 93] [.sl false (a0.map E_GTone), .sl false (r3.1.map E_GTone), .sl false (r3.1.map E_GTone), .i (r3.1.length : Int), .i l3_77, .bool true]) ⟨[], 1⟩ _ (by kernel_rfl) (cjC (f37_ok a0 y18.from_ _ hr19 ⟨[(0, .cells 3 [E_GTone y18])], 1⟩) (cjC (hc20) (cjC (hc20) (cjC (hc20) (cjC (hc20) (cjC (hc20) (cjC (hc20) (cj1 (hc20))))))))) (kj4 true rfl)
                  · obtain ⟨r21, hr21, hj4⟩ := bindE hj4
                    replace hj4 := Option.some.inj hj4; subst hj4
                    exact run1 (c11 70) [{}, {}, {}, { c := some (.i r19, ⟨[(0, .cells 3 [E_GTone y18])], 1⟩) }, {}, {}, {}, {}, {}, {}, { c := some (.i r21, ⟨[(0, .cells 3 [E_GTone y18])], 1⟩) }, {}, { k := 1, b := false }] [0, 7, 75, 76, 77, 93] [] (zipE [0, 7, 75, 76, 77, 93] [.sl false (a0.map E_GTone), .sl false (r3.1.map E_GTone), .sl false (r3.1.map E_GTone), .i (r3.1.length : Int), .i l3_77, .bool (decide (r21 < 0))]) ⟨[], 1⟩ _ (by kernel_rfl) (cjC (f37_ok a0 y18.from_ _ hr19 ⟨[(0, .cells 3 [E_GTone y18])], 1⟩) (cjC (hc20) (cjC (hc20) (cjC (hc20) (cjC (hc20) (cjC (hc20) (cjC (f37_ok a0 (wr (y18.to_ - 1)) _ hr21 ⟨[(0, .cells 3 [E_GTone y18])], 1⟩) (cjC (hc20) (cj1 (hc20)))))))))) (kj4 (decide (r21 < 0)) rfl)
                · rintro _ rfl
                  rcases iteE hl3 with ⟨hc22, hl3⟩ | ⟨hc22, hl3⟩
                  · refine run_cT 93 (c11 71) (c11 74) j4_93 hc22 (by kernel_rfl) (by kernel_rfl) ?_
                    refine run1 (c11 73) [] [6] [] (zipE [6] [.bool false]) ⟨[], 1⟩ _ (by kernel_rfl) cj0 ?_
                    replace hl3 := Option.some.inj hl3; subst hl3
                    have hr := rl3 _ rfl
                    subst hr
                    replace h := elimR h
                    refine run_t (by kernel_rfl) ?_
                    refine inbR ?_
                    refine thenR ?_
                    refine ⟨⟨_, rfl⟩, ?_⟩
                    refine inbR ?_
                    refine thenR ?_
                    replace h := Option.some.inj h; subst h
                    exact fin_r (by kernel_rfl) rfl
                  · refine run_cF 93 (c11 71) (c11 74) j4_93 hc22 (by kernel_rfl) (by kernel_rfl) ?_
                    refine run_k (by kernel_rfl) ?_
                    refine inbN ?_
                    refine thenN ?_
                    refine run0 [] [0, 7, 75, 76, 77] [] (zipE [0, 7, 75, 76, 77] [.sl false (a0.map E_GTone), .sl false (r3.1.map E_GTone), .sl false (r3.1.map E_GTone), .i (r3.1.length : Int), .i (wr (l3_77 + 1))]) ⟨[], 1⟩ _ (by kernel_rfl) cj0 ?_
                    replace hl3 := Option.some.inj hl3; subst hl3
                    exact ⟨_, rfl, pi [], mkInto (ks := [0, 7, 75, 76, 77]) (ys := [.sl false (a0.map E_GTone), .sl false (r3.1.map E_GTone), .sl false (r3.1.map E_GTone), .i (r3.1.length : Int), .i (wr (l3_77 + 1))]) (by kernel_rfl) (by kernel_rfl) (.k (.c (cleanMap _ _ cl_GTone)) (.k (.c (cleanMap _ _ cl_GTone)) (.k (.c (cleanMap _ _ cl_GTone)) (.k (.c rfl) (.k (.c rfl) .z))))) .z⟩
              · refine run_cF 78 (c11 62) (c11 63) (decide (l3_77 < (r3.1.length : Int))) hc17 (by kernel_rfl) (by kernel_rfl) ?_
                replace hl3 := Option.some.inj hl3; subst hl3
                have hr := rl3 _ rfl
                subst hr
                refine awp_p [0, 7] [] (zipE [0, 7] [.sl false (a0.map E_GTone), .sl false (r3.1.map E_GTone)]) ⟨[], 0⟩ (by kernel_rfl) (?_)
                refine run_e 2 (by kernel_rfl) ?_
                refine thenE ?_
                refine ⟨⟨_, rfl⟩, ?_⟩
                refine inbE ?_
                exact kl3 () rfl
            · rintro ⟨⟩ rfl
              replace h := elimL h
              refine thenN ?_
              refine run1 (c11 78) [] [0, 7, 14] [] (zipE [0, 7, 14] [.sl false (a0.map E_GTone), .sl false (r3.1.map E_GTone), .i 0]) ⟨[], 0⟩ _ (by kernel_rfl) cj0 ?_
              refine run_s (c11 79) (c11 95) (by kernel_rfl) ?_
              refine run1 (c11 81) [{}, { k := 1, n := a0.length }] [7, 14, 95, 96, 97] [] (zipE [7, 14, 95, 96, 97] [.sl false (r3.1.map E_GTone), .i 0, .sl false (a0.map E_GTone), .i (a0.length : Int), .i 0]) ⟨[], 0⟩ _ (by kernel_rfl) (cj1 (mapLen a0 E_GTone)) ?_
              obtain ⟨l5x_14, hll5x, h⟩ := bindE h
              refine run_tq (fun (l5x_14 : Int) => (zipE [7, 14] [.sl false (r3.1.map E_GTone), .i l5x_14])) (fun (l5x_14 : Int) => ⟨[], 0⟩) (fun j => l5x_14 = j) (fun kl5 => ?_) ?_
              · refine run_b 4 (c11 82) (by kernel_rfl) ?_
                refine run_l (c11 83) _ hll5x (fun ((l5_14, l5_97) : (Int × Int)) => (zipE [7, 14, 95, 96, 97] [.sl false (r3.1.map E_GTone), .i l5_14, .sl false (a0.map E_GTone), .i (a0.length : Int), .i l5_97])) (fun ((l5_14, l5_97) : (Int × Int)) => ⟨[], 0⟩) [] (by intro i e; cases e <;> exact Nat.le_of_ble_eq_true rfl) (by kernel_rfl) (mkInto (ks := [7, 14, 95, 96, 97]) (ys := [.sl false (r3.1.map E_GTone), .i 0, .sl false (a0.map E_GTone), .i (a0.length : Int), .i 0]) (by kernel_rfl) (by kernel_rfl) (.k (.c (cleanMap _ _ cl_GTone)) (.k (.c rfl) (.k (.c (cleanMap _ _ cl_GTone)) (.k (.c rfl) (.k (.c rfl) .z))))) .z) ?_
                rintro ⟨l5_14, l5_97⟩ out hl5 rl5
                refine run1 (c11 85) [] [7, 14, 95, 96, 97, 98] [] (zipE [7, 14, 95, 96, 97, 98] [.sl false (r3.1.map E_GTone), .i l5_14, .sl false (a0.map E_GTone), .i (a0.length : Int), .i l5_97, .bool (decide (l5_97 < (a0.length : Int)))]) ⟨[], 0⟩ _ (by kernel_rfl) cj0 ?_
                refine run_s (c11 86) (c11 89) (by kernel_rfl) ?_
                rcases iteE hl5 with ⟨hc23, hl5⟩ | ⟨hc23, hl5⟩
                · refine run_cT 98 (c11 87) (c11 88) (decide (l5_97 < (a0.length : Int))) hc23 (by kernel_rfl) (by kernel_rfl) ?_
                  refine run_k (by kernel_rfl) ?_
                  refine thenN ?_
                  refine run_s (c11 90) (c11 94) (by kernel_rfl) ?_
                  refine run_b 5 (c11 91) (by kernel_rfl) ?_
                  obtain ⟨y24, hy24, hl5⟩ := bindE hl5
                  refine run1 (c11 93) [{ k := 1, x := E_GTone y24 }] [7, 14, 16, 95, 96, 97] [0] (zipE [7, 14, 16, 95, 96, 97] [.sl false (r3.1.map E_GTone), .i l5_14, .mp 0 0 0, .sl false (a0.map E_GTone), .i (a0.length : Int), .i l5_97]) ⟨[(0, .cells 3 [E_GTone y24])], 1⟩ _ (by kernel_rfl) (cjC ((ixE hy24).1) (cj1 (mapGet E_GTone (ixE hy24).2))) ?_
                  refine run0 [] [7, 14, 95, 96, 97] [] (zipE [7, 14, 95, 96, 97] [.sl false (r3.1.map E_GTone), .i (wr (l5_14 + (wr (y24.to_ - y24.from_)))), .sl false (a0.map E_GTone), .i (a0.length : Int), .i l5_97]) ⟨[], 1⟩ _ (by kernel_rfl) cj0 ?_
                  refine inbN ?_
                  refine thenN ?_
                  refine run0 [] [7, 14, 95, 96, 97] [] (zipE [7, 14, 95, 96, 97] [.sl false (r3.1.map E_GTone), .i (wr (l5_14 + (wr (y24.to_ - y24.from_)))), .sl false (a0.map E_GTone), .i (a0.length : Int), .i (wr (l5_97 + 1))]) ⟨[], 1⟩ _ (by kernel_rfl) cj0 ?_
                  replace hl5 := Option.some.inj hl5; subst hl5
                  exact ⟨_, rfl, pi [], mkInto (ks := [7, 14, 95, 96, 97]) (ys := [.sl false (r3.1.map E_GTone), .i (wr (l5_14 + (wr (y24.to_ - y24.from_)))), .sl false (a0.map E_GTone), .i (a0.length : Int), .i (wr (l5_97 + 1))]) (by kernel_rfl) (by kernel_rfl) (.k (.c (cleanMap _ _ cl_GTone)) (.k (.c rfl) (.k (.c (cleanMap _ _ cl_GTone)) (.k (.c rfl) (.k (.c rfl) .z))))) .z⟩
                · refine run_cF 98 (c11 87) (c11 88) (decide (l5_97 < (a0.length : Int))) hc23 (by kernel_rfl) (by kernel_rfl) ?_
                  replace hl5 := Option.some.inj hl5; subst hl5
                  have hr := rl5 _ rfl
                  subst hr
                  refine awp_p [7, 14] [] (zipE [7, 14] [.sl false (r3.1.map E_GTone), .i l5_14]) ⟨[], 0⟩ (by kernel_rfl) (?_)
                  refine run_e 4 (by kernel_rfl) ?_
                  refine thenE ?_
                  refine ⟨⟨_, rfl⟩, ?_⟩
                  refine inbE ?_
                  exact kl5 l5_14 rfl
              · rintro _ rfl
                refine thenN ?_
                refine run_s (c11 96) (c11 112) (by kernel_rfl) ?_
                refine run1 (c11 98) [{}, { k := 1, n := r3.1.length }] [14, 109, 110, 111] [] (zipE [14, 109, 110, 111] [.i l5x_14, .sl false (r3.1.map E_GTone), .i (r3.1.length : Int), .i 0]) ⟨[], 0⟩ _ (by kernel_rfl) (cj1 (mapLen r3.1 E_GTone)) ?_
                obtain ⟨l6x_14, hll6x, h⟩ := bindE h
                refine run_tq (fun (l6x_14 : Int) => (zipE [14] [.i l6x_14])) (fun (l6x_14 : Int) => ⟨[], 0⟩) (fun j => l6x_14 = j) (fun kl6 => ?_) ?_
                · refine run_b 6 (c11 99) (by kernel_rfl) ?_
                  refine run_l (c11 100) _ hll6x (fun ((l6_14, l6_111) : (Int × Int)) => (zipE [14, 109, 110, 111] [.i l6_14, .sl false (r3.1.map E_GTone), .i (r3.1.length : Int), .i l6_111])) (fun ((l6_14, l6_111) : (Int × Int)) => ⟨[], 0⟩) [] (by intro i e; cases e <;> exact Nat.le_of_ble_eq_true rfl) (by kernel_rfl) (mkInto (ks := [14, 109, 110, 111]) (ys := [.i l5x_14, .sl false (r3.1.map E_GTone), .i (r3.1.length : Int), .i 0]) (by kernel_rfl) (by kernel_rfl) (.k (.c rfl) (.k (.c (cleanMap _ _ cl_GTone)) (.k (.c rfl) (.k (.c rfl) .z)))) .z) ?_
                  rintro ⟨l6_14, l6_111⟩ out hl6 rl6
                  refine run1 (c11 102) [] [14, 109, 110, 111, 112] [] (zipE [14, 109, 110, 111, 112] [.i l6_14, .sl false (r3.1.map E_GTone), .i (r3.1.length : Int), .i l6_111, .bool (decide (l6_111 < (r3.1.length : Int)))]) ⟨[], 0⟩ _ (by kernel_rfl) cj0 ?_
                  refine run_s (c11 103) (c11 106) (by kernel_rfl) ?_
                  rcases iteE hl6 with ⟨hc25, hl6⟩ | ⟨hc25, hl6⟩
                  · refine run_cT 112 (c11 104) (c11 105) (decide (l6_111 < (r3.1.length : Int))) hc25 (by kernel_rfl) (by kernel_rfl) ?_
                    refine run_k (by kernel_rfl) ?_
                    refine thenN ?_
                    refine run_s (c11 107) (c11 111) (by kernel_rfl) ?_
                    refine run_b 7 (c11 108) (by kernel_rfl) ?_
                    obtain ⟨y26, hy26, hl6⟩ := bindE hl6
                    refine run1 (c11 110) [{ k := 1, x := E_GTone y26 }] [14, 18, 109, 110, 111] [0] (zipE [14, 18, 109, 110, 111] [.i l6_14, .mp 0 0 0, .sl false (r3.1.map E_GTone), .i (r3.1.length : Int), .i l6_111]) ⟨[(0, .cells 3 [E_GTone y26])], 1⟩ _ (by kernel_rfl) (cjC ((ixE hy26).1) (cj1 (mapGet E_GTone (ixE hy26).2))) ?_
                    refine run0 [] [14, 109, 110, 111] [] (zipE [14, 109, 110, 111] [.i (wr (l6_14 - (wr (y26.to_ - y26.from_)))), .sl false (r3.1.map E_GTone), .i (r3.1.length : Int), .i l6_111]) ⟨[], 1⟩ _ (by kernel_rfl) cj0 ?_
                    refine inbN ?_
                    refine thenN ?_
                    refine run0 [] [14, 109, 110, 111] [] (zipE [14, 109, 110, 111] [.i (wr (l6_14 - (wr (y26.to_ - y26.from_)))), .sl false (r3.1.map E_GTone), .i (r3.1.length : Int), .i (wr (l6_111 + 1))]) ⟨[], 1⟩ _ (by kernel_rfl) cj0 ?_
                    replace hl6 := Option.some.inj hl6; subst hl6
                    exact ⟨_, rfl, pi [], mkInto (ks := [14, 109, 110, 111]) (ys := [.i (wr (l6_14 - (wr (y26.to_ - y26.from_)))), .sl false (r3.1.map E_GTone), .i (r3.1.length : Int), .i (wr (l6_111 + 1))]) (by kernel_rfl) (by kernel_rfl) (.k (.c rfl) (.k (.c (cleanMap _ _ cl_GTone)) (.k (.c rfl) (.k (.c rfl) .z)))) .z⟩
                  · refine run_cF 112 (c11 104) (c11 105) (decide (l6_111 < (r3.1.length : Int))) hc25 (by kernel_rfl) (by kernel_rfl) ?_
                    replace hl6 := Option.some.inj hl6; subst hl6
                    have hr := rl6 _ rfl
                    subst hr
                    refine awp_p [14] [] (zipE [14] [.i l6_14]) ⟨[], 0⟩ (by kernel_rfl) (?_)
                    refine run_e 6 (by kernel_rfl) ?_
                    refine thenE ?_
                    refine ⟨⟨_, rfl⟩, ?_⟩
                    refine inbE ?_
                    exact kl6 l6_14 rfl
                · rintro _ rfl
                  refine thenN ?_
                  obtain ⟨j7_6, hj7, h⟩ := bindE h
                  refine run_gq (c11 114) (fun (j7_6 : Bool) => (zipE [6] [.bool j7_6])) (fun (j7_6 : Bool) => ⟨[], 0⟩) (fun j => j7_6 = j) (fun kj7 => ?_) ?_
                  · rcases iteE hj7 with ⟨hc27, hj7⟩ | ⟨hc27, hj7⟩
                    · obtain ⟨r28, hr28, hj7⟩ := bindE hj7
                      replace hj7 := Option.some.inj hj7; subst hj7
                      exact run1 (c11 114) [{}, {}, {}, { c := some (.bool r28, ⟨[], 0⟩) }, { k := 1, b := true }] [6] [] (zipE [6] [.bool r28]) ⟨[], 0⟩ _ (by kernel_rfl) (cjC (hc27) (cjC (f13_ok  _ hr28 ⟨[], 0⟩) (cj1 (hc27)))) (kj7 r28 rfl)
                    · replace hj7 := Option.some.inj hj7; subst hj7
                      exact run1 (c11 114) [{}, {}, {}, { g := false }, { k := 1, b := false }] [6] [] (zipE [6] [.bool false]) ⟨[], 0⟩ _ (by kernel_rfl) (cjC (hc27) (cj1 (hc27))) (kj7 false rfl)
                  · rintro _ rfl
                    refine run_t (by kernel_rfl) ?_
                    replace h := Option.some.inj h; subst h
                    exact fin_r (by kernel_rfl) rfl

end Go.Proofs.YtplpfocfcppajaaGreat
