/-
  Functions of the program as Lean functions, and the walks. Written by a program of ours.
-/
import Derived.Test.YtplpfocfcppajaaGreatV6
namespace Go.Proofs.YtplpfocfcppajaaGreat
open Go Go.Am
set_option maxRecDepth 100000
set_option linter.all false
/-- theorbo.intabulate.tones -/
def f64 (a0 : GTone) (a1 : GFigure) : Option ((List GTone)) := (f95 a1.shares).bind fun r1 => need (r1 ≠ 0) <| (loopN (σ := (List GTone × Int × Int)) (τ := (List GTone)) (fun ((l1_4, l1_6, l1_24) : (List GTone × Int × Int)) => bif (decide (l1_24 < (a1.moves.length : Int))) then ((ix a1.moves l1_24).bind fun y4 => (ix a1.shares l1_24).bind fun y5 => need (l1_4.length + 1 ≤ maxElems) <| some (.inl ((l1_4 ++ [(⟨(wr (a0.pitch + y4)), l1_6, (wr (l1_6 + (wr ((wr (Int.tdiv (wr (a0.to_ - a0.from_)) r1)) * y5))))⟩ : GTone)]), (wr (l1_6 + (wr ((wr (Int.tdiv (wr (a0.to_ - a0.from_)) r1)) * y5)))), (wr (l1_24 + 1))))) else (some (.inr l1_4))) FUEL (([] : List GTone), a0.from_, 0)).bind fun (l1x_4 : (List GTone)) => some l1x_4
theorem f64_ok (a0 : GTone) (a1 : GFigure) (r : ((List GTone))) (h : f64 a0 a1 = some r) : APure Tryz.prog 64 [E_GTone a0, E_GFigure a1] (.sl false (r.map E_GTone)) := by
  refine apure (clK (cl_GTone a0) (clK (cl_GFigure a1) clZ)) (cleanMap r _ cl_GTone) ?_
  refine run_f 51 [.tmp 4] (c64 0) (zipE [0, 1] [E_GTone a0, E_GFigure a1]) (by kernel_rfl) (by kernel_rfl) (by kernel_rfl) rfl ?_
  unfold f64 at h
  refine run1 (c64 2) [] [2, 3, 4] [1, 0] (zipE [2, 3, 4] [.mp 0 0 0, .mp 1 0 0, .sl true []]) ⟨[(1, .cells 3 [E_GFigure a1]), (0, .cells 3 [E_GTone a0])], 2⟩ _ (by kernel_rfl) cj0 ?_
  obtain ⟨r1, hr1, h⟩ := bindE h
  obtain ⟨hn2, h⟩ := needE h
  refine yun1 (c64 4) [[], [0], [], [2], [0, 1, 2, 3], [], [5], [5, 6], [0, 1, 2, 3, 4, 5, 6, 7], [0, 1, 2, 3, 4, 5, 6, 7, 8]] [.light 0 false, .light 1 true, .light 2 false, .light 3 true, .light 4 false, .light 5 false, .light 6 false, .heavy 7 [1, 3], .light 8 false, .light 9 false] [{}, {}, {}, {}, {}, {}, {}, { c := some (.i r1, ⟨[(1, .cells 3 [E_GFigure a1]), (0, .cells 3 [E_GTone a0])], 2⟩) }, { k := 1 }] [2, 3, 4, 5] [1, 0] (zipE [2, 3, 4, 5] [.mp 0 0 0, .mp 1 0 0, .sl true [], .i (wr (Int.tdiv (wr (a0.to_ - a0.from_)) r1))]) ⟨[(1, .cells 3 [E_GFigure a1]), (0, .cells 3 [E_GTone a0])], 2⟩ _ (by kernel_rfl) (cjC (f95_ok a1.shares _ hr1 ⟨[(1, .cells 3 [E_GFigure a1]), (0, .cells 3 [E_GTone a0])], 2⟩) (cjC (@Eq.refl AV (.i a0.to_)) (cjC (@Eq.refl AV (.i a0.from_)) (cj1 (hn2))))) ?_
  refine run1 (c64 6) [] [2, 3, 4, 5, 6] [1, 0] (zipE [2, 3, 4, 5, 6] [.mp 0 0 0, .mp 1 0 0, .sl true [], .i (wr (Int.tdiv (wr (a0.to_ - a0.from_)) r1)), .i a0.from_]) ⟨[(1, .cells 3 [E_GFigure a1]), (0, .cells 3 [E_GTone a0])], 2⟩ _ (by kernel_rfl) cj0 ?_
  refine run_s (c64 7) (c64 27) (by kernel_rfl) ?_
  refine run1 (c64 9) [{}, {}, { k := 1, n := a1.moves.length }] [2, 3, 4, 5, 6, 22, 23, 24] [1, 0] (zipE [2, 3, 4, 5, 6, 22, 23, 24] [.mp 0 0 0, .mp 1 0 0, .sl true [], .i (wr (Int.tdiv (wr (a0.to_ - a0.from_)) r1)), .i a0.from_, .sl false (a1.moves.map AV.i), .i (a1.moves.length : Int), .i 0]) ⟨[(1, .cells 3 [E_GFigure a1]), (0, .cells 3 [E_GTone a0])], 2⟩ _ (by kernel_rfl) (cj1 (mapLen a1.moves AV.i)) ?_
  obtain ⟨l1x_4, hll1x, h⟩ := bindE h
  refine run_tq (fun (l1x_4 : (List GTone)) => (zipE [4] [.ms 2 0 l1x_4.length])) (fun (l1x_4 : (List GTone)) => ⟨[(2, .cells 3 (l1x_4.map E_GTone))], 3⟩) (fun j => l1x_4 = j) (fun kl1 => ?_) ?_
  · refine run_b 0 (c64 10) (by kernel_rfl) ?_
    refine run_l (c64 11) _ hll1x (fun ((l1_4, l1_6, l1_24) : (List GTone × Int × Int)) => (zipE [2, 3, 4, 5, 6, 22, 23, 24] [.mp 0 0 0, .mp 1 0 0, .ms 2 0 l1_4.length, .i (wr (Int.tdiv (wr (a0.to_ - a0.from_)) r1)), .i l1_6, .sl false (a1.moves.map AV.i), .i (a1.moves.length : Int), .i l1_24])) (fun ((l1_4, l1_6, l1_24) : (List GTone × Int × Int)) => ⟨[(2, .cells 3 (l1_4.map E_GTone)), (1, .cells 3 [E_GFigure a1]), (0, .cells 3 [E_GTone a0])], 3⟩) [(2, 1000000)] (by intro i e; cases e <;> exact Nat.le_of_ble_eq_true rfl) (by kernel_rfl) (mkInto (ks := [2, 3, 4, 5, 6, 22, 23, 24]) (ys := [.mp 0 0 0, .mp 1 0 0, .sl true [], .i (wr (Int.tdiv (wr (a0.to_ - a0.from_)) r1)), .i a0.from_, .sl false (a1.moves.map AV.i), .i (a1.moves.length : Int), .i 0]) (by kernel_rfl) (by kernel_rfl) (.k (.mp rfl rfl) (.k (.mp rfl rfl) (.k (.n) (.k (.c rfl) (.k (.c rfl) (.k (.c (cleanMap _ _ cl_i)) (.k (.c rfl) (.k (.c rfl) .z)))))))) (.n rfl rfl rfl (.k (x' := .cells 3 [E_GFigure a1]) (by kernel_rfl) (.cells (.k (.c (cl_GFigure a1)) .z)) (.k (x' := .cells 3 [E_GTone a0]) (by kernel_rfl) (.cells (.k (.c (cl_GTone a0)) .z)) .z)))) ?_
    rintro ⟨l1_4, l1_6, l1_24⟩ out hl1 rl1
    refine run1 (c64 13) [] [2, 3, 4, 5, 6, 22, 23, 24, 25] [2, 1, 0] (zipE [2, 3, 4, 5, 6, 22, 23, 24, 25] [.mp 0 0 0, .mp 1 0 0, .ms 2 0 l1_4.length, .i (wr (Int.tdiv (wr (a0.to_ - a0.from_)) r1)), .i l1_6, .sl false (a1.moves.map AV.i), .i (a1.moves.length : Int), .i l1_24, .bool (decide (l1_24 < (a1.moves.length : Int)))]) ⟨[(2, .cells 3 (l1_4.map E_GTone)), (1, .cells 3 [E_GFigure a1]), (0, .cells 3 [E_GTone a0])], 3⟩ _ (by kernel_rfl) cj0 ?_
    refine run_s (c64 14) (c64 17) (by kernel_rfl) ?_
    rcases iteE hl1 with ⟨hc3, hl1⟩ | ⟨hc3, hl1⟩
    · refine run_cT 25 (c64 15) (c64 16) (decide (l1_24 < (a1.moves.length : Int))) hc3 (by kernel_rfl) (by kernel_rfl) ?_
      refine run_k (by kernel_rfl) ?_
      refine thenN ?_
      refine run_s (c64 18) (c64 26) (by kernel_rfl) ?_
      refine run_b 1 (c64 19) (by kernel_rfl) ?_
      obtain ⟨y4, hy4, hl1⟩ := bindE hl1
      refine run1 (c64 21) [{}, { k := 1, x := AV.i y4 }] [2, 3, 4, 5, 6, 7, 8, 22, 23, 24] [2, 1, 0] (zipE [2, 3, 4, 5, 6, 7, 8, 22, 23, 24] [.mp 0 0 0, .mp 1 0 0, .ms 2 0 l1_4.length, .i (wr (Int.tdiv (wr (a0.to_ - a0.from_)) r1)), .i l1_6, .i l1_24, .i y4, .sl false (a1.moves.map AV.i), .i (a1.moves.length : Int), .i l1_24]) ⟨[(2, .cells 3 (l1_4.map E_GTone)), (1, .cells 3 [E_GFigure a1]), (0, .cells 3 [E_GTone a0])], 3⟩ _ (by kernel_rfl) (cjC ((ixE hy4).1) (cj1 (mapGet AV.i (ixE hy4).2))) ?_
      obtain ⟨y5, hy5, hl1⟩ := bindE hl1
      refine run1 (c64 23) [{}, {}, {}, {}, {}, { k := 1, x := AV.i y5 }] [2, 3, 4, 5, 6, 8, 9, 22, 23, 24] [2, 1, 0] (zipE [2, 3, 4, 5, 6, 8, 9, 22, 23, 24] [.mp 0 0 0, .mp 1 0 0, .ms 2 0 l1_4.length, .i (wr (Int.tdiv (wr (a0.to_ - a0.from_)) r1)), .i l1_6, .i y4, .i (wr (l1_6 + (wr ((wr (Int.tdiv (wr (a0.to_ - a0.from_)) r1)) * y5)))), .sl false (a1.moves.map AV.i), .i (a1.moves.length : Int), .i l1_24]) ⟨[(2, .cells 3 (l1_4.map E_GTone)), (1, .cells 3 [E_GFigure a1]), (0, .cells 3 [E_GTone a0])], 3⟩ _ (by kernel_rfl) (cjC ((ixE hy5).1) (cj1 (mapGet AV.i (ixE hy5).2))) ?_
      obtain ⟨hn6, hl1⟩ := needE hl1
      refine run1 (c64 25) [{}, {}, {}, {}, {}, {}, {}, {}, {}, { k := 1, n := (l1_4 ++ [(⟨(wr (a0.pitch + y4)), l1_6, (wr (l1_6 + (wr ((wr (Int.tdiv (wr (a0.to_ - a0.from_)) r1)) * y5))))⟩ : GTone)]).length, l := (l1_4 ++ [(⟨(wr (a0.pitch + y4)), l1_6, (wr (l1_6 + (wr ((wr (Int.tdiv (wr (a0.to_ - a0.from_)) r1)) * y5))))⟩ : GTone)]).map E_GTone }] [2, 3, 4, 5, 9, 22, 23, 24] [3, 1, 0] (zipE [2, 3, 4, 5, 9, 22, 23, 24] [.mp 0 0 0, .mp 1 0 0, .ms 3 0 (l1_4 ++ [(⟨(wr (a0.pitch + y4)), l1_6, (wr (l1_6 + (wr ((wr (Int.tdiv (wr (a0.to_ - a0.from_)) r1)) * y5))))⟩ : GTone)]).length, .i (wr (Int.tdiv (wr (a0.to_ - a0.from_)) r1)), .i (wr (l1_6 + (wr ((wr (Int.tdiv (wr (a0.to_ - a0.from_)) r1)) * y5)))), .sl false (a1.moves.map AV.i), .i (a1.moves.length : Int), .i l1_24]) ⟨[(3, .cells 3 ((l1_4 ++ [(⟨(wr (a0.pitch + y4)), l1_6, (wr (l1_6 + (wr ((wr (Int.tdiv (wr (a0.to_ - a0.from_)) r1)) * y5))))⟩ : GTone)]).map E_GTone)), (1, .cells 3 [E_GFigure a1]), (0, .cells 3 [E_GTone a0])], 4⟩ _ (by kernel_rfl) (cjC (@List.cons_ne_nil AV (.agg [.i (wr (a0.pitch + y4)), .i l1_6, .i (wr (l1_6 + (wr ((wr (Int.tdiv (wr (a0.to_ - a0.from_)) r1)) * y5))))]) []) (cjC (mLe l1_4 E_GTone) (cjC (hn6) (cjC (lenA l1_4 ([(⟨(wr (a0.pitch + y4)), l1_6, (wr (l1_6 + (wr ((wr (Int.tdiv (wr (a0.to_ - a0.from_)) r1)) * y5))))⟩ : GTone)] : List GTone)) (cjC (appA l1_4 ([(⟨(wr (a0.pitch + y4)), l1_6, (wr (l1_6 + (wr ((wr (Int.tdiv (wr (a0.to_ - a0.from_)) r1)) * y5))))⟩ : GTone)] : List GTone) E_GTone) (cj1 (fitsOne (P := Tryz.prog) (t := 53) (x := .agg [.i (wr (a0.pitch + y4)), .i l1_6, .i (wr (l1_6 + (wr ((wr (Int.tdiv (wr (a0.to_ - a0.from_)) r1)) * y5))))]) (r := []) (by kernel_rfl)))))))) ?_
      refine run0 [] [2, 3, 4, 5, 6, 22, 23, 24] [3, 1, 0] (zipE [2, 3, 4, 5, 6, 22, 23, 24] [.mp 0 0 0, .mp 1 0 0, .ms 3 0 (l1_4 ++ [(⟨(wr (a0.pitch + y4)), l1_6, (wr (l1_6 + (wr ((wr (Int.tdiv (wr (a0.to_ - a0.from_)) r1)) * y5))))⟩ : GTone)]).length, .i (wr (Int.tdiv (wr (a0.to_ - a0.from_)) r1)), .i (wr (l1_6 + (wr ((wr (Int.tdiv (wr (a0.to_ - a0.from_)) r1)) * y5)))), .sl false (a1.moves.map AV.i), .i (a1.moves.length : Int), .i l1_24]) ⟨[(3, .cells 3 ((l1_4 ++ [(⟨(wr (a0.pitch + y4)), l1_6, (wr (l1_6 + (wr ((wr (Int.tdiv (wr (a0.to_ - a0.from_)) r1)) * y5))))⟩ : GTone)]).map E_GTone)), (1, .cells 3 [E_GFigure a1]), (0, .cells 3 [E_GTone a0])], 4⟩ _ (by kernel_rfl) cj0 ?_
      refine inbN ?_
      refine thenN ?_
      refine run0 [] [2, 3, 4, 5, 6, 22, 23, 24] [3, 1, 0] (zipE [2, 3, 4, 5, 6, 22, 23, 24] [.mp 0 0 0, .mp 1 0 0, .ms 3 0 (l1_4 ++ [(⟨(wr (a0.pitch + y4)), l1_6, (wr (l1_6 + (wr ((wr (Int.tdiv (wr (a0.to_ - a0.from_)) r1)) * y5))))⟩ : GTone)]).length, .i (wr (Int.tdiv (wr (a0.to_ - a0.from_)) r1)), .i (wr (l1_6 + (wr ((wr (Int.tdiv (wr (a0.to_ - a0.from_)) r1)) * y5)))), .sl false (a1.moves.map AV.i), .i (a1.moves.length : Int), .i (wr (l1_24 + 1))]) ⟨[(3, .cells 3 ((l1_4 ++ [(⟨(wr (a0.pitch + y4)), l1_6, (wr (l1_6 + (wr ((wr (Int.tdiv (wr (a0.to_ - a0.from_)) r1)) * y5))))⟩ : GTone)]).map E_GTone)), (1, .cells 3 [E_GFigure a1]), (0, .cells 3 [E_GTone a0])], 4⟩ _ (by kernel_rfl) cj0 ?_
      replace hl1 := Option.some.inj hl1; subst hl1
      exact ⟨_, rfl, pi [(2, 3)], mkInto (ks := [2, 3, 4, 5, 6, 22, 23, 24]) (ys := [.mp 0 0 0, .mp 1 0 0, .ms 3 0 (l1_4 ++ [(⟨(wr (a0.pitch + y4)), l1_6, (wr (l1_6 + (wr ((wr (Int.tdiv (wr (a0.to_ - a0.from_)) r1)) * y5))))⟩ : GTone)]).length, .i (wr (Int.tdiv (wr (a0.to_ - a0.from_)) r1)), .i (wr (l1_6 + (wr ((wr (Int.tdiv (wr (a0.to_ - a0.from_)) r1)) * y5)))), .sl false (a1.moves.map AV.i), .i (a1.moves.length : Int), .i (wr (l1_24 + 1))]) (by kernel_rfl) (by kernel_rfl) (.k (.mp rfl rfl) (.k (.mp rfl rfl) (.k (.ms rfl rfl) (.k (.c rfl) (.k (.c rfl) (.k (.c (cleanMap _ _ cl_i)) (.k (.c rfl) (.k (.c rfl) .z)))))))) (.k (x' := .cells 3 ((l1_4 ++ [(⟨(wr (a0.pitch + y4)), l1_6, (wr (l1_6 + (wr ((wr (Int.tdiv (wr (a0.to_ - a0.from_)) r1)) * y5))))⟩ : GTone)]).map E_GTone)) (by kernel_rfl) (.cells (.r (cleanMap _ _ cl_GTone))) (.k (x' := .cells 3 [E_GFigure a1]) (by kernel_rfl) (.cells (.k (.c (cl_GFigure a1)) .z)) (.k (x' := .cells 3 [E_GTone a0]) (by kernel_rfl) (.cells (.k (.c (cl_GTone a0)) .z)) .z)))⟩
    · refine run_cF 25 (c64 15) (c64 16) (decide (l1_24 < (a1.moves.length : Int))) hc3 (by kernel_rfl) (by kernel_rfl) ?_
      replace hl1 := Option.some.inj hl1; subst hl1
      have hr := rl1 _ rfl
      subst hr
      refine awp_p [4] [2] (zipE [4] [.ms 2 0 l1_4.length]) ⟨[(2, .cells 3 (l1_4.map E_GTone))], 3⟩ (by kernel_rfl) (?_)
      refine run_e 0 (by kernel_rfl) ?_
      refine thenE ?_
      refine ⟨⟨_, rfl⟩, ?_⟩
      refine inbE ?_
      exact kl1 l1_4 rfl
  · rintro _ rfl
    refine thenN ?_
    refine run1 (c64 29) [] [4] [2] (zipE [4] [.ms 2 0 l1x_4.length]) ⟨[(2, .cells 3 (l1x_4.map E_GTone))], 3⟩ _ (by kernel_rfl) cj0 ?_
    refine run_z 2 3 (l1x_4.map E_GTone) [4] [.ms 2 0 l1x_4.length] (xs := [.sl false (l1x_4.map E_GTone)]) (S2 := ⟨[], 3⟩) ?_ (by kernel_rfl) (by kernel_rfl) (.k (.m (mLe l1x_4 E_GTone) (mapAll l1x_4 E_GTone)) .z) .z rfl rfl
    refine run_t (by kernel_rfl) ?_
    replace h := Option.some.inj h; subst h
    exact fin_r (by kernel_rfl) rfl

/-- theorbo.intabulate.Adorn$1$1 -/
def f65 (a0 : GTone) (a1 : Int) : Option Bool := some (decide ((wr (a0.to_ - a0.from_)) < a1))
theorem f65_ok (a0 : GTone) (a1 : Int) (r : Bool) (h : f65 a0 a1 = some r) : ACalls Tryz.prog 65 [E_GTone a0, .mp 0 0 0] ⟨[(0, .cells 1 [.i a1])], 1⟩ (fun y t => y = .bool r ∧ t = ⟨[(0, .cells 1 [.i a1])], 2⟩) := by
  refine run_f 11 [.tmp 3] (c65 0) (zipE [0, 1] [E_GTone a0, .mp 0 0 0]) (by kernel_rfl) (by kernel_rfl) (by kernel_rfl) rfl ?_
  unfold f65 at h
  refine run1 (c65 2) [] [1, 2] [1, 0] (zipE [1, 2] [.mp 0 0 0, .mp 1 0 0]) ⟨[(1, .cells 3 [E_GTone a0]), (0, .cells 1 [.i a1])], 2⟩ _ (by kernel_rfl) cj0 ?_
  refine run1 (c65 4) [] [3] [0] (zipE [3] [.bool (decide ((wr (a0.to_ - a0.from_)) < a1))]) ⟨[(0, .cells 1 [.i a1])], 2⟩ _ (by kernel_rfl) cj0 ?_
  refine run_t (by kernel_rfl) ?_
  replace h := Option.some.inj h; subst h
  exact fin_p [0] ⟨[(0, .cells 1 [.i a1])], 2⟩ (by kernel_rfl) (by kernel_rfl) rfl ⟨rfl, rfl⟩

/-- slices.IndexFunc[[]theorbo.api.Tone,theorbo.api.Tone] -/
def f94 (a0 : List GTone) (a1_0 : Int) : Option Int := (loopN (σ := Int) (τ := (Unit ⊕ Int)) (fun (l1_8 : Int) => bif (decide (l1_8 < (a0.length : Int))) then ((ix a0 l1_8).bind fun y2 => (f65 y2 a1_0).bind fun r3 => bif r3 then (some (.inr (.inr l1_8))) else (some (.inl (wr (l1_8 + 1))))) else (some (.inr (.inl ())))) FUEL 0).bind (Sum.elim (fun (_ : Unit) => some (-1)) some)
theorem f94_ok (a0 : List GTone) (a1_0 : Int) (r : Int) (h : f94 a0 a1_0 = some r) : ACalls Tryz.prog 94 [.sl false (a0.map E_GTone), .fn 65 [.mp 0 0 0]] ⟨[(0, .cells 1 [.i a1_0])], 1⟩ (fun y t => y = .i r ∧ t = ⟨[(0, .cells 1 [.i a1_0])], 2⟩) := by
  refine run_f 19 [.tmp 4] (c94 0) (zipE [0, 1] [.sl false (a0.map E_GTone), .fn 65 [.mp 0 0 0]]) (by kernel_rfl) (by kernel_rfl) (by kernel_rfl) rfl ?_
  unfold f94 at h
  refine run1 (c94 2) [] [0, 1] [0] (zipE [0, 1] [.sl false (a0.map E_GTone), .fn 65 [.mp 0 0 0]]) ⟨[(0, .cells 1 [.i a1_0])], 1⟩ _ (by kernel_rfl) cj0 ?_
  refine run_s (c94 3) (c94 25) (by kernel_rfl) ?_
  refine run1 (c94 5) [{}, { k := 1, n := a0.length }] [0, 1, 7, 8] [0] (zipE [0, 1, 7, 8] [.sl false (a0.map E_GTone), .fn 65 [.mp 0 0 0], .i (a0.length : Int), .i 0]) ⟨[(0, .cells 1 [.i a1_0])], 1⟩ _ (by kernel_rfl) (cj1 (mapLen a0 E_GTone)) ?_
  obtain ⟨ol1x, hll1x, h⟩ := bindE h
  refine run_tq (fun (_ : Unit) => (zipE [] [])) (fun (_ : Unit) => ⟨[(0, .cells 1 [.i a1_0])], 1⟩) (fun j => ol1x = .inl j) (fun kl1 => ?_) ?_
  · refine run_b 0 (c94 6) (by kernel_rfl) ?_
    refine run_l (c94 7) _ hll1x (fun (l1_8 : Int) => (zipE [0, 1, 7, 8] [.sl false (a0.map E_GTone), .fn 65 [.mp 0 0 0], .i (a0.length : Int), .i l1_8])) (fun (l1_8 : Int) => ⟨[(0, .cells 1 [.i a1_0])], 1⟩) [] (by intro i e; cases e <;> exact Nat.le_of_ble_eq_true rfl) (by kernel_rfl) (mkInto (ks := [0, 1, 7, 8]) (ys := [.sl false (a0.map E_GTone), .fn 65 [.mp 0 0 0], .i (a0.length : Int), .i 0]) (by kernel_rfl) (by kernel_rfl) (.k (.c (cleanMap _ _ cl_GTone)) (.k (.f (.k (.mp rfl rfl) .z)) (.k (.c rfl) (.k (.c rfl) .z)))) (.k (x' := .cells 1 [.i a1_0]) (by kernel_rfl) (.cells (.k (.c rfl) .z)) .z)) ?_
    rintro l1_8 out hl1 rl1
    refine run1 (c94 9) [] [0, 1, 7, 8, 9] [0] (zipE [0, 1, 7, 8, 9] [.sl false (a0.map E_GTone), .fn 65 [.mp 0 0 0], .i (a0.length : Int), .i l1_8, .bool (decide (l1_8 < (a0.length : Int)))]) ⟨[(0, .cells 1 [.i a1_0])], 1⟩ _ (by kernel_rfl) cj0 ?_
    refine run_s (c94 10) (c94 13) (by kernel_rfl) ?_
    rcases iteE hl1 with ⟨hc1, hl1⟩ | ⟨hc1, hl1⟩
    · refine run_cT 9 (c94 11) (c94 12) (decide (l1_8 < (a0.length : Int))) hc1 (by kernel_rfl) (by kernel_rfl) ?_
      refine run_k (by kernel_rfl) ?_
      refine thenN ?_
      refine run_s (c94 14) (c94 24) (by kernel_rfl) ?_
      refine run_b 1 (c94 15) (by kernel_rfl) ?_
      refine run1 (c94 17) [] [0, 1, 5, 7, 8] [0] (zipE [0, 1, 5, 7, 8] [.sl false (a0.map E_GTone), .fn 65 [.mp 0 0 0], .i l1_8, .i (a0.length : Int), .i l1_8]) ⟨[(0, .cells 1 [.i a1_0])], 1⟩ _ (by kernel_rfl) cj0 ?_
      obtain ⟨y2, hy2, hl1⟩ := bindE hl1
      obtain ⟨r3, hr3, hl1⟩ := bindE hl1
      refine run1 (c94 19) [{}, {}, {}, { k := 1, x := E_GTone y2 }, {}, { c := some (.bool r3, ⟨[(0, .cells 1 [.i a1_0])], 2⟩) }] [0, 1, 5, 7, 8, 16] [0] (zipE [0, 1, 5, 7, 8, 16] [.sl false (a0.map E_GTone), .fn 65 [.mp 0 0 0], .i l1_8, .i (a0.length : Int), .i l1_8, .bool r3]) ⟨[(0, .cells 1 [.i a1_0])], 2⟩ _ (by kernel_rfl) (cjC ((ixE hy2).1) (cjC (mapGet E_GTone (ixE hy2).2) (cj1 (callF (f65_ok y2 a1_0 _ hr3) [(0, 0)] [(0, 0)] [] [E_GTone y2, .mp 0 0 0] ⟨[(0, .cells 1 [.i a1_0])], 1⟩ (.bool r3) ⟨[(0, .cells 1 [.i a1_0])], 2⟩ (by kernel_rfl) (.k (.c (cl_GTone y2)) (.k (.mp rfl rfl) .z)) (.c rfl) (.k (x' := .cells 1 [.i a1_0]) (by kernel_rfl) (.cells (.k (.c rfl) .z)) .z) (.d (x' := .cells 1 [.i a1_0]) rfl (by kernel_rfl) (.cells (.k (.c rfl) .z)) .z))))) ?_
      rcases iteE hl1 with ⟨hc4, hl1⟩ | ⟨hc4, hl1⟩
      · refine run_cT 16 (c94 20) (c94 23) r3 hc4 (by kernel_rfl) (by kernel_rfl) ?_
        refine run1 (c94 22) [] [4] [0] (zipE [4] [.i l1_8]) ⟨[(0, .cells 1 [.i a1_0])], 2⟩ _ (by kernel_rfl) cj0 ?_
        replace hl1 := Option.some.inj hl1; subst hl1
        have hr := rl1 _ rfl
        subst hr
        replace h := elimR h
        refine run_t (by kernel_rfl) ?_
        refine inbR ?_
        refine thenR ?_
        refine ⟨⟨_, rfl⟩, ?_⟩
        refine inbR ?_
        refine thenR ?_
        replace h := Option.some.inj h; subst h
        exact fin_p [0] ⟨[(0, .cells 1 [.i a1_0])], 2⟩ (by kernel_rfl) (by kernel_rfl) rfl ⟨rfl, rfl⟩
      · refine run_cF 16 (c94 20) (c94 23) r3 hc4 (by kernel_rfl) (by kernel_rfl) ?_
        refine run_k (by kernel_rfl) ?_
        refine inbN ?_
        refine thenN ?_
        refine run0 [] [0, 1, 7, 8] [0] (zipE [0, 1, 7, 8] [.sl false (a0.map E_GTone), .fn 65 [.mp 0 0 0], .i (a0.length : Int), .i (wr (l1_8 + 1))]) ⟨[(0, .cells 1 [.i a1_0])], 2⟩ _ (by kernel_rfl) cj0 ?_
        replace hl1 := Option.some.inj hl1; subst hl1
        exact ⟨_, rfl, pi [], mkInto (ks := [0, 1, 7, 8]) (ys := [.sl false (a0.map E_GTone), .fn 65 [.mp 0 0 0], .i (a0.length : Int), .i (wr (l1_8 + 1))]) (by kernel_rfl) (by kernel_rfl) (.k (.c (cleanMap _ _ cl_GTone)) (.k (.f (.k (.mp rfl rfl) .z)) (.k (.c rfl) (.k (.c rfl) .z)))) (.k (x' := .cells 1 [.i a1_0]) (by kernel_rfl) (.cells (.k (.c rfl) .z)) .z)⟩
    · refine run_cF 9 (c94 11) (c94 12) (decide (l1_8 < (a0.length : Int))) hc1 (by kernel_rfl) (by kernel_rfl) ?_
      replace hl1 := Option.some.inj hl1; subst hl1
      have hr := rl1 _ rfl
      subst hr
      refine awp_p [] [0] (zipE [] []) ⟨[(0, .cells 1 [.i a1_0])], 1⟩ (by kernel_rfl) (?_)
      refine run_e 0 (by kernel_rfl) ?_
      refine thenE ?_
      refine ⟨⟨_, rfl⟩, ?_⟩
      refine inbE ?_
      exact kl1 () rfl
  · rintro ⟨⟩ rfl
    replace h := elimL h
    refine thenN ?_
    refine run1 (c94 27) [] [4] [0] (zipE [4] [.i (-1)]) ⟨[(0, .cells 1 [.i a1_0])], 1⟩ _ (by kernel_rfl) cj0 ?_
    refine run_i 1 [] [4] [.i (-1)] (xs := [.i (-1)]) (S2 := ⟨[(0, .cells 1 [.i a1_0])], 2⟩) ?_ (by intro i e; cases e <;> exact Nat.le_of_ble_eq_true rfl) (by kernel_rfl) (by kernel_rfl) (by kernel_rfl) (.k (.c rfl) .z) (.k (x' := .cells 1 [.i a1_0]) (by kernel_rfl) (.cells (.k (.c rfl) .z)) .z)
    refine run_t (by kernel_rfl) ?_
    replace h := Option.some.inj h; subst h
    exact fin_p [0] ⟨[(0, .cells 1 [.i a1_0])], 2⟩ (by kernel_rfl) (by kernel_rfl) rfl ⟨rfl, rfl⟩

/-- slices.ContainsFunc[[]theorbo.api.Tone,theorbo.api.Tone] -/
def f53 (a0 : List GTone) (a1_0 : Int) : Option Bool := (f94 a0 a1_0).bind fun r1 => some (decide (0 ≤ r1))
theorem f53_ok (a0 : List GTone) (a1_0 : Int) (r : Bool) (h : f53 a0 a1_0 = some r) : ACalls Tryz.prog 53 [.sl false (a0.map E_GTone), .fn 65 [.mp 0 0 0]] ⟨[(0, .cells 1 [.i a1_0])], 1⟩ (fun y t => y = .bool r ∧ t = ⟨[(0, .cells 1 [.i a1_0])], 2⟩) := by
  refine run_f 9 [.tmp 4] (c53 0) (zipE [0, 1] [.sl false (a0.map E_GTone), .fn 65 [.mp 0 0 0]]) (by kernel_rfl) (by kernel_rfl) (by kernel_rfl) rfl ?_
  unfold f53 at h
  refine run1 (c53 2) [] [0, 1] [0] (zipE [0, 1] [.sl false (a0.map E_GTone), .fn 65 [.mp 0 0 0]]) ⟨[(0, .cells 1 [.i a1_0])], 1⟩ _ (by kernel_rfl) cj0 ?_
  obtain ⟨r1, hr1, h⟩ := bindE h
  refine run1 (c53 4) [{}, {}, { c := some (.i r1, ⟨[(0, .cells 1 [.i a1_0])], 2⟩) }] [4] [0] (zipE [4] [.bool (decide (0 ≤ r1))]) ⟨[(0, .cells 1 [.i a1_0])], 2⟩ _ (by kernel_rfl) (cj1 (callF (f94_ok a0 a1_0 _ hr1) [(0, 0)] [(0, 0)] [] [.sl false (a0.map E_GTone), .fn 65 [.mp 0 0 0]] ⟨[(0, .cells 1 [.i a1_0])], 1⟩ (.i r1) ⟨[(0, .cells 1 [.i a1_0])], 2⟩ (by kernel_rfl) (.k (.c (cleanMap _ _ cl_GTone)) (.k (.f (.k (.mp rfl rfl) .z)) .z)) (.c rfl) (.k (x' := .cells 1 [.i a1_0]) (by kernel_rfl) (.cells (.k (.c rfl) .z)) .z) (.d (x' := .cells 1 [.i a1_0]) rfl (by kernel_rfl) (.cells (.k (.c rfl) .z)) .z))) ?_
  refine run_t (by kernel_rfl) ?_
  replace h := Option.some.inj h; subst h
  exact fin_p [0] ⟨[(0, .cells 1 [.i a1_0])], 2⟩ (by kernel_rfl) (by kernel_rfl) rfl ⟨rfl, rfl⟩

/-- theorbo.intabulate.Adorn$1 -/
def f63 (a0 : GFigure) (a1 : List GTone) (a2 : Int) (a3 : GTone) (a4 : Int) : Option Bool := (((f59 a1 a0 a2).bind fun r1 => bif r1 then ((f64 a3 a0).bind fun r3 => (f53 r3 a4).bind fun r4 => some (!r4)) else (some false)) : Option Bool).bind fun (j1_6 : Bool) => some j1_6
theorem f63_ok (a0 : GFigure) (a1 : List GTone) (a2 : Int) (a3 : GTone) (a4 : Int) (r : Bool) (h : f63 a0 a1 a2 a3 a4 = some r) : ACalls Tryz.prog 63 [E_GFigure a0, .mp 0 0 0, .mp 1 0 0, .mp 2 0 0, .mp 3 0 0] ⟨[(3, .cells 1 [.i a4]), (2, .cells 3 [E_GTone a3]), (1, .cells 1 [.i a2]), (0, .cells 1 [.sl false (a1.map E_GTone)])], 4⟩ (fun y t => y = .bool r ∧ t = ⟨[(3, .cells 1 [.i a4]), (2, .cells 3 [E_GTone a3]), (1, .cells 1 [.i a2]), (0, .cells 1 [.sl false (a1.map E_GTone)])], 6⟩) := by
  refine run_f 19 [.tmp 6] (c63 0) (zipE [0, 1, 2, 3, 4] [E_GFigure a0, .mp 0 0 0, .mp 1 0 0, .mp 2 0 0, .mp 3 0 0]) (by kernel_rfl) (by kernel_rfl) (by kernel_rfl) rfl ?_
  unfold f63 at h
  refine run1 (c63 2) [] [1, 2, 3, 4, 5] [4, 3, 2, 1, 0] (zipE [1, 2, 3, 4, 5] [.mp 0 0 0, .mp 1 0 0, .mp 2 0 0, .mp 3 0 0, .mp 4 0 0]) ⟨[(4, .cells 3 [E_GFigure a0]), (3, .cells 1 [.i a4]), (2, .cells 3 [E_GTone a3]), (1, .cells 1 [.i a2]), (0, .cells 1 [.sl false (a1.map E_GTone)])], 5⟩ _ (by kernel_rfl) cj0 ?_
  obtain ⟨j1_6, hj1, h⟩ := bindE h
  refine run_gq (c63 4) (fun (j1_6 : Bool) => (zipE [6] [.bool j1_6])) (fun (j1_6 : Bool) => ⟨[(3, .cells 1 [.i a4]), (2, .cells 3 [E_GTone a3]), (1, .cells 1 [.i a2]), (0, .cells 1 [.sl false (a1.map E_GTone)])], 6⟩) (fun j => j1_6 = j) (fun kj1 => ?_) ?_
  · obtain ⟨r1, hr1, hj1⟩ := bindE hj1
    rcases iteE hj1 with ⟨hc2, hj1⟩ | ⟨hc2, hj1⟩
    · obtain ⟨r3, hr3, hj1⟩ := bindE hj1
      obtain ⟨r4, hr4, hj1⟩ := bindE hj1
      replace hj1 := Option.some.inj hj1; subst hj1
      exact run1 (c63 4) [{}, {}, {}, { c := some (.bool r1, ⟨[(4, .cells 3 [E_GFigure a0]), (3, .cells 1 [.i a4]), (2, .cells 3 [E_GTone a3]), (1, .cells 1 [.i a2]), (0, .cells 1 [.sl false (a1.map E_GTone)])], 5⟩) }, {}, {}, {}, { c := some (.sl false (r3.map E_GTone), ⟨[(4, .cells 3 [E_GFigure a0]), (3, .cells 1 [.i a4]), (2, .cells 3 [E_GTone a3]), (1, .cells 1 [.i a2]), (0, .cells 1 [.sl false (a1.map E_GTone)])], 5⟩) }, {}, { c := some (.bool r4, ⟨[(4, .cells 3 [E_GFigure a0]), (3, .cells 1 [.i a4]), (2, .cells 3 [E_GTone a3]), (1, .cells 1 [.i a2]), (0, .cells 1 [.sl false (a1.map E_GTone)])], 6⟩) }, {}, { k := 1, b := true }] [6] [3, 2, 1, 0] (zipE [6] [.bool (!r4)]) ⟨[(3, .cells 1 [.i a4]), (2, .cells 3 [E_GTone a3]), (1, .cells 1 [.i a2]), (0, .cells 1 [.sl false (a1.map E_GTone)])], 6⟩ _ (by kernel_rfl) (cjC (f59_ok a1 a0 a2 _ hr1 ⟨[(4, .cells 3 [E_GFigure a0]), (3, .cells 1 [.i a4]), (2, .cells 3 [E_GTone a3]), (1, .cells 1 [.i a2]), (0, .cells 1 [.sl false (a1.map E_GTone)])], 5⟩) (cjC (hc2) (cjC (hc2) (cjC (hc2) (cjC (f64_ok a3 a0 _ hr3 ⟨[(4, .cells 3 [E_GFigure a0]), (3, .cells 1 [.i a4]), (2, .cells 3 [E_GTone a3]), (1, .cells 1 [.i a2]), (0, .cells 1 [.sl false (a1.map E_GTone)])], 5⟩) (cjC (hc2) (cjC (hc2) (cjC (callF (f53_ok r3 a4 _ hr4) [(0, 3)] [(3, 0)] [4, 2, 1, 0] [.sl false (r3.map E_GTone), .fn 65 [.mp 3 0 0]] ⟨[(4, .cells 3 [E_GFigure a0]), (3, .cells 1 [.i a4]), (2, .cells 3 [E_GTone a3]), (1, .cells 1 [.i a2]), (0, .cells 1 [.sl false (a1.map E_GTone)])], 5⟩ (.bool r4) ⟨[(4, .cells 3 [E_GFigure a0]), (3, .cells 1 [.i a4]), (2, .cells 3 [E_GTone a3]), (1, .cells 1 [.i a2]), (0, .cells 1 [.sl false (a1.map E_GTone)])], 6⟩ (by kernel_rfl) (.k (.c (cleanMap _ _ cl_GTone)) (.k (.f (.k (.mp rfl rfl) .z)) .z)) (.c rfl) (.k (x' := .cells 1 [.i a4]) (by kernel_rfl) (.cells (.k (.c rfl) .z)) .z) (.f rfl (by kernel_rfl) (.d (x' := .cells 1 [.i a4]) rfl (by kernel_rfl) (.cells (.k (.c rfl) .z)) (.f rfl (by kernel_rfl) (.f rfl (by kernel_rfl) (.f rfl (by kernel_rfl) .z)))))) (cjC (hc2) (cj1 (hc2))))))))))) (kj1 (!r4) rfl)
    · replace hj1 := Option.some.inj hj1; subst hj1
      exact run1 (c63 4) [{}, {}, {}, { c := some (.bool r1, ⟨[(4, .cells 3 [E_GFigure a0]), (3, .cells 1 [.i a4]), (2, .cells 3 [E_GTone a3]), (1, .cells 1 [.i a2]), (0, .cells 1 [.sl false (a1.map E_GTone)])], 5⟩) }, {}, { g := false }, { g := false }, { g := false }, { g := false }, { g := false }, { g := false }, { k := 1, b := false }] [6] [3, 2, 1, 0] (zipE [6] [.bool false]) ⟨[(3, .cells 1 [.i a4]), (2, .cells 3 [E_GTone a3]), (1, .cells 1 [.i a2]), (0, .cells 1 [.sl false (a1.map E_GTone)])], 5⟩ _ (by kernel_rfl) (cjC (f59_ok a1 a0 a2 _ hr1 ⟨[(4, .cells 3 [E_GFigure a0]), (3, .cells 1 [.i a4]), (2, .cells 3 [E_GTone a3]), (1, .cells 1 [.i a2]), (0, .cells 1 [.sl false (a1.map E_GTone)])], 5⟩) (cjC (hc2) (cjC (hc2) (cjC (hc2) (cjC (hc2) (cjC (hc2) (cjC (hc2) (cj1 (hc2))))))))) (run_i 6 [] [6] [.bool false] (kj1 false rfl) (by intro i e; cases e <;> exact Nat.le_of_ble_eq_true rfl) (by kernel_rfl) (by kernel_rfl) (by kernel_rfl) (.k (.c rfl) .z) (.k (x' := .cells 1 [.i a4]) (by kernel_rfl) (.cells (.k (.c rfl) .z)) (.k (x' := .cells 3 [E_GTone a3]) (by kernel_rfl) (.cells (.k (.c (cl_GTone a3)) .z)) (.k (x' := .cells 1 [.i a2]) (by kernel_rfl) (.cells (.k (.c rfl) .z)) (.k (x' := .cells 1 [.sl false (a1.map E_GTone)]) (by kernel_rfl) (.cells (.k (.c (cleanMap _ _ cl_GTone)) .z)) .z)))))
  · rintro _ rfl
    refine run_t (by kernel_rfl) ?_
    replace h := Option.some.inj h; subst h
    exact fin_p [3, 2, 1, 0] ⟨[(3, .cells 1 [.i a4]), (2, .cells 3 [E_GTone a3]), (1, .cells 1 [.i a2]), (0, .cells 1 [.sl false (a1.map E_GTone)])], 6⟩ (by kernel_rfl) (by kernel_rfl) rfl ⟨rfl, rfl⟩

/-- slices.IndexFunc[[]theorbo.api.Figure,theorbo.api.Figure] -/
def f62 (a0 : List GFigure) (a1_0 : List GTone) (a1_1 : Int) (a1_2 : GTone) (a1_3 : Int) : Option Int := (loopN (σ := Int) (τ := (Unit ⊕ Int)) (fun (l1_8 : Int) => bif (decide (l1_8 < (a0.length : Int))) then ((ix a0 l1_8).bind fun y2 => (f63 y2 a1_0 a1_1 a1_2 a1_3).bind fun r3 => bif r3 then (some (.inr (.inr l1_8))) else (some (.inl (wr (l1_8 + 1))))) else (some (.inr (.inl ())))) FUEL 0).bind (Sum.elim (fun (_ : Unit) => some (-1)) some)
theorem f62_ok (a0 : List GFigure) (a1_0 : List GTone) (a1_1 : Int) (a1_2 : GTone) (a1_3 : Int) (r : Int) (h : f62 a0 a1_0 a1_1 a1_2 a1_3 = some r) : ACalls Tryz.prog 62 [.sl false (a0.map E_GFigure), .fn 63 [.mp 0 0 0, .mp 1 0 0, .mp 2 0 0, .mp 3 0 0]] ⟨[(3, .cells 1 [.i a1_3]), (2, .cells 3 [E_GTone a1_2]), (1, .cells 1 [.i a1_1]), (0, .cells 1 [.sl false (a1_0.map E_GTone)])], 4⟩ (fun y t => y = .i r ∧ t = ⟨[(3, .cells 1 [.i a1_3]), (2, .cells 3 [E_GTone a1_2]), (1, .cells 1 [.i a1_1]), (0, .cells 1 [.sl false (a1_0.map E_GTone)])], 6⟩) := by
  refine run_f 19 [.tmp 4] (c62 0) (zipE [0, 1] [.sl false (a0.map E_GFigure), .fn 63 [.mp 0 0 0, .mp 1 0 0, .mp 2 0 0, .mp 3 0 0]]) (by kernel_rfl) (by kernel_rfl) (by kernel_rfl) rfl ?_
  unfold f62 at h
  refine run1 (c62 2) [] [0, 1] [3, 2, 1, 0] (zipE [0, 1] [.sl false (a0.map E_GFigure), .fn 63 [.mp 0 0 0, .mp 1 0 0, .mp 2 0 0, .mp 3 0 0]]) ⟨[(3, .cells 1 [.i a1_3]), (2, .cells 3 [E_GTone a1_2]), (1, .cells 1 [.i a1_1]), (0, .cells 1 [.sl false (a1_0.map E_GTone)])], 4⟩ _ (by kernel_rfl) cj0 ?_
  refine run_s (c62 3) (c62 25) (by kernel_rfl) ?_
  refine run1 (c62 5) [{}, { k := 1, n := a0.length }] [0, 1, 7, 8] [3, 2, 1, 0] (zipE [0, 1, 7, 8] [.sl false (a0.map E_GFigure), .fn 63 [.mp 0 0 0, .mp 1 0 0, .mp 2 0 0, .mp 3 0 0], .i (a0.length : Int), .i 0]) ⟨[(3, .cells 1 [.i a1_3]), (2, .cells 3 [E_GTone a1_2]), (1, .cells 1 [.i a1_1]), (0, .cells 1 [.sl false (a1_0.map E_GTone)])], 4⟩ _ (by kernel_rfl) (cj1 (mapLen a0 E_GFigure)) ?_
  obtain ⟨ol1x, hll1x, h⟩ := bindE h
  refine run_tq (fun (_ : Unit) => (zipE [] [])) (fun (_ : Unit) => ⟨[(3, .cells 1 [.i a1_3]), (2, .cells 3 [E_GTone a1_2]), (1, .cells 1 [.i a1_1]), (0, .cells 1 [.sl false (a1_0.map E_GTone)])], 4⟩) (fun j => ol1x = .inl j) (fun kl1 => ?_) ?_
  · refine run_b 0 (c62 6) (by kernel_rfl) ?_
    refine run_l (c62 7) _ hll1x (fun (l1_8 : Int) => (zipE [0, 1, 7, 8] [.sl false (a0.map E_GFigure), .fn 63 [.mp 0 0 0, .mp 1 0 0, .mp 2 0 0, .mp 3 0 0], .i (a0.length : Int), .i l1_8])) (fun (l1_8 : Int) => ⟨[(3, .cells 1 [.i a1_3]), (2, .cells 3 [E_GTone a1_2]), (1, .cells 1 [.i a1_1]), (0, .cells 1 [.sl false (a1_0.map E_GTone)])], 4⟩) [] (by intro i e; cases e <;> exact Nat.le_of_ble_eq_true rfl) (by kernel_rfl) (mkInto (ks := [0, 1, 7, 8]) (ys := [.sl false (a0.map E_GFigure), .fn 63 [.mp 0 0 0, .mp 1 0 0, .mp 2 0 0, .mp 3 0 0], .i (a0.length : Int), .i 0]) (by kernel_rfl) (by kernel_rfl) (.k (.c (cleanMap _ _ cl_GFigure)) (.k (.f (.k (.mp rfl rfl) (.k (.mp rfl rfl) (.k (.mp rfl rfl) (.k (.mp rfl rfl) .z))))) (.k (.c rfl) (.k (.c rfl) .z)))) (.k (x' := .cells 1 [.i a1_3]) (by kernel_rfl) (.cells (.k (.c rfl) .z)) (.k (x' := .cells 3 [E_GTone a1_2]) (by kernel_rfl) (.cells (.k (.c (cl_GTone a1_2)) .z)) (.k (x' := .cells 1 [.i a1_1]) (by kernel_rfl) (.cells (.k (.c rfl) .z)) (.k (x' := .cells 1 [.sl false (a1_0.map E_GTone)]) (by kernel_rfl) (.cells (.k (.c (cleanMap _ _ cl_GTone)) .z)) .z))))) ?_
    rintro l1_8 out hl1 rl1
    refine run1 (c62 9) [] [0, 1, 7, 8, 9] [3, 2, 1, 0] (zipE [0, 1, 7, 8, 9] [.sl false (a0.map E_GFigure), .fn 63 [.mp 0 0 0, .mp 1 0 0, .mp 2 0 0, .mp 3 0 0], .i (a0.length : Int), .i l1_8, .bool (decide (l1_8 < (a0.length : Int)))]) ⟨[(3, .cells 1 [.i a1_3]), (2, .cells 3 [E_GTone a1_2]), (1, .cells 1 [.i a1_1]), (0, .cells 1 [.sl false (a1_0.map E_GTone)])], 4⟩ _ (by kernel_rfl) cj0 ?_
    refine run_s (c62 10) (c62 13) (by kernel_rfl) ?_
    rcases iteE hl1 with ⟨hc1, hl1⟩ | ⟨hc1, hl1⟩
    · refine run_cT 9 (c62 11) (c62 12) (decide (l1_8 < (a0.length : Int))) hc1 (by kernel_rfl) (by kernel_rfl) ?_
      refine run_k (by kernel_rfl) ?_
      refine thenN ?_
      refine run_s (c62 14) (c62 24) (by kernel_rfl) ?_
      refine run_b 1 (c62 15) (by kernel_rfl) ?_
      refine run1 (c62 17) [] [0, 1, 5, 7, 8] [3, 2, 1, 0] (zipE [0, 1, 5, 7, 8] [.sl false (a0.map E_GFigure), .fn 63 [.mp 0 0 0, .mp 1 0 0, .mp 2 0 0, .mp 3 0 0], .i l1_8, .i (a0.length : Int), .i l1_8]) ⟨[(3, .cells 1 [.i a1_3]), (2, .cells 3 [E_GTone a1_2]), (1, .cells 1 [.i a1_1]), (0, .cells 1 [.sl false (a1_0.map E_GTone)])], 4⟩ _ (by kernel_rfl) cj0 ?_
      obtain ⟨y2, hy2, hl1⟩ := bindE hl1
      obtain ⟨r3, hr3, hl1⟩ := bindE hl1
      refine run1 (c62 19) [{}, {}, {}, { k := 1, x := E_GFigure y2 }, {}, { c := some (.bool r3, ⟨[(3, .cells 1 [.i a1_3]), (2, .cells 3 [E_GTone a1_2]), (1, .cells 1 [.i a1_1]), (0, .cells 1 [.sl false (a1_0.map E_GTone)])], 6⟩) }] [0, 1, 5, 7, 8, 16] [3, 2, 1, 0] (zipE [0, 1, 5, 7, 8, 16] [.sl false (a0.map E_GFigure), .fn 63 [.mp 0 0 0, .mp 1 0 0, .mp 2 0 0, .mp 3 0 0], .i l1_8, .i (a0.length : Int), .i l1_8, .bool r3]) ⟨[(3, .cells 1 [.i a1_3]), (2, .cells 3 [E_GTone a1_2]), (1, .cells 1 [.i a1_1]), (0, .cells 1 [.sl false (a1_0.map E_GTone)])], 6⟩ _ (by kernel_rfl) (cjC ((ixE hy2).1) (cjC (mapGet E_GFigure (ixE hy2).2) (cj1 (callF (f63_ok y2 a1_0 a1_1 a1_2 a1_3 _ hr3) [(0, 0), (1, 1), (2, 2), (3, 3)] [(3, 3), (2, 2), (1, 1), (0, 0)] [] [E_GFigure y2, .mp 0 0 0, .mp 1 0 0, .mp 2 0 0, .mp 3 0 0] ⟨[(3, .cells 1 [.i a1_3]), (2, .cells 3 [E_GTone a1_2]), (1, .cells 1 [.i a1_1]), (0, .cells 1 [.sl false (a1_0.map E_GTone)])], 4⟩ (.bool r3) ⟨[(3, .cells 1 [.i a1_3]), (2, .cells 3 [E_GTone a1_2]), (1, .cells 1 [.i a1_1]), (0, .cells 1 [.sl false (a1_0.map E_GTone)])], 6⟩ (by kernel_rfl) (.k (.c (cl_GFigure y2)) (.k (.mp rfl rfl) (.k (.mp rfl rfl) (.k (.mp rfl rfl) (.k (.mp rfl rfl) .z))))) (.c rfl) (.k (x' := .cells 1 [.i a1_3]) (by kernel_rfl) (.cells (.k (.c rfl) .z)) (.k (x' := .cells 3 [E_GTone a1_2]) (by kernel_rfl) (.cells (.k (.c (cl_GTone a1_2)) .z)) (.k (x' := .cells 1 [.i a1_1]) (by kernel_rfl) (.cells (.k (.c rfl) .z)) (.k (x' := .cells 1 [.sl false (a1_0.map E_GTone)]) (by kernel_rfl) (.cells (.k (.c (cleanMap _ _ cl_GTone)) .z)) .z)))) (.d (x' := .cells 1 [.i a1_3]) rfl (by kernel_rfl) (.cells (.k (.c rfl) .z)) (.d (x' := .cells 3 [E_GTone a1_2]) rfl (by kernel_rfl) (.cells (.k (.c (cl_GTone a1_2)) .z)) (.d (x' := .cells 1 [.i a1_1]) rfl (by kernel_rfl) (.cells (.k (.c rfl) .z)) (.d (x' := .cells 1 [.sl false (a1_0.map E_GTone)]) rfl (by kernel_rfl) (.cells (.k (.c (cleanMap _ _ cl_GTone)) .z)) .z)))))))) ?_
      rcases iteE hl1 with ⟨hc4, hl1⟩ | ⟨hc4, hl1⟩
      · refine run_cT 16 (c62 20) (c62 23) r3 hc4 (by kernel_rfl) (by kernel_rfl) ?_
        refine run1 (c62 22) [] [4] [3, 2, 1, 0] (zipE [4] [.i l1_8]) ⟨[(3, .cells 1 [.i a1_3]), (2, .cells 3 [E_GTone a1_2]), (1, .cells 1 [.i a1_1]), (0, .cells 1 [.sl false (a1_0.map E_GTone)])], 6⟩ _ (by kernel_rfl) cj0 ?_
        replace hl1 := Option.some.inj hl1; subst hl1
        have hr := rl1 _ rfl
        subst hr
        replace h := elimR h
        refine run_t (by kernel_rfl) ?_
        refine inbR ?_
        refine thenR ?_
        refine ⟨⟨_, rfl⟩, ?_⟩
        refine inbR ?_
        refine thenR ?_
        replace h := Option.some.inj h; subst h
        exact fin_p [3, 2, 1, 0] ⟨[(3, .cells 1 [.i a1_3]), (2, .cells 3 [E_GTone a1_2]), (1, .cells 1 [.i a1_1]), (0, .cells 1 [.sl false (a1_0.map E_GTone)])], 6⟩ (by kernel_rfl) (by kernel_rfl) rfl ⟨rfl, rfl⟩
      · refine run_cF 16 (c62 20) (c62 23) r3 hc4 (by kernel_rfl) (by kernel_rfl) ?_
        refine run_k (by kernel_rfl) ?_
        refine inbN ?_
        refine thenN ?_
        refine run0 [] [0, 1, 7, 8] [3, 2, 1, 0] (zipE [0, 1, 7, 8] [.sl false (a0.map E_GFigure), .fn 63 [.mp 0 0 0, .mp 1 0 0, .mp 2 0 0, .mp 3 0 0], .i (a0.length : Int), .i (wr (l1_8 + 1))]) ⟨[(3, .cells 1 [.i a1_3]), (2, .cells 3 [E_GTone a1_2]), (1, .cells 1 [.i a1_1]), (0, .cells 1 [.sl false (a1_0.map E_GTone)])], 6⟩ _ (by kernel_rfl) cj0 ?_
        replace hl1 := Option.some.inj hl1; subst hl1
        exact ⟨_, rfl, pi [], mkInto (ks := [0, 1, 7, 8]) (ys := [.sl false (a0.map E_GFigure), .fn 63 [.mp 0 0 0, .mp 1 0 0, .mp 2 0 0, .mp 3 0 0], .i (a0.length : Int), .i (wr (l1_8 + 1))]) (by kernel_rfl) (by kernel_rfl) (.k (.c (cleanMap _ _ cl_GFigure)) (.k (.f (.k (.mp rfl rfl) (.k (.mp rfl rfl) (.k (.mp rfl rfl) (.k (.mp rfl rfl) .z))))) (.k (.c rfl) (.k (.c rfl) .z)))) (.k (x' := .cells 1 [.i a1_3]) (by kernel_rfl) (.cells (.k (.c rfl) .z)) (.k (x' := .cells 3 [E_GTone a1_2]) (by kernel_rfl) (.cells (.k (.c (cl_GTone a1_2)) .z)) (.k (x' := .cells 1 [.i a1_1]) (by kernel_rfl) (.cells (.k (.c rfl) .z)) (.k (x' := .cells 1 [.sl false (a1_0.map E_GTone)]) (by kernel_rfl) (.cells (.k (.c (cleanMap _ _ cl_GTone)) .z)) .z))))⟩
    · refine run_cF 9 (c62 11) (c62 12) (decide (l1_8 < (a0.length : Int))) hc1 (by kernel_rfl) (by kernel_rfl) ?_
      replace hl1 := Option.some.inj hl1; subst hl1
      have hr := rl1 _ rfl
      subst hr
      refine awp_p [] [3, 2, 1, 0] (zipE [] []) ⟨[(3, .cells 1 [.i a1_3]), (2, .cells 3 [E_GTone a1_2]), (1, .cells 1 [.i a1_1]), (0, .cells 1 [.sl false (a1_0.map E_GTone)])], 4⟩ (by kernel_rfl) (?_)
      refine run_e 0 (by kernel_rfl) ?_
      refine thenE ?_
      refine ⟨⟨_, rfl⟩, ?_⟩
      refine inbE ?_
      exact kl1 () rfl
  · rintro ⟨⟩ rfl
    replace h := elimL h
    refine thenN ?_
    refine run1 (c62 27) [] [4] [3, 2, 1, 0] (zipE [4] [.i (-1)]) ⟨[(3, .cells 1 [.i a1_3]), (2, .cells 3 [E_GTone a1_2]), (1, .cells 1 [.i a1_1]), (0, .cells 1 [.sl false (a1_0.map E_GTone)])], 4⟩ _ (by kernel_rfl) cj0 ?_
    refine run_i 4 [] [4] [.i (-1)] (xs := [.i (-1)]) (S2 := ⟨[(3, .cells 1 [.i a1_3]), (2, .cells 3 [E_GTone a1_2]), (1, .cells 1 [.i a1_1]), (0, .cells 1 [.sl false (a1_0.map E_GTone)])], 6⟩) ?_ (by intro i e; cases e <;> exact Nat.le_of_ble_eq_true rfl) (by kernel_rfl) (by kernel_rfl) (by kernel_rfl) (.k (.c rfl) .z) (.k (x' := .cells 1 [.i a1_3]) (by kernel_rfl) (.cells (.k (.c rfl) .z)) (.k (x' := .cells 3 [E_GTone a1_2]) (by kernel_rfl) (.cells (.k (.c (cl_GTone a1_2)) .z)) (.k (x' := .cells 1 [.i a1_1]) (by kernel_rfl) (.cells (.k (.c rfl) .z)) (.k (x' := .cells 1 [.sl false (a1_0.map E_GTone)]) (by kernel_rfl) (.cells (.k (.c (cleanMap _ _ cl_GTone)) .z)) .z))))
    refine run_t (by kernel_rfl) ?_
    replace h := Option.some.inj h; subst h
    exact fin_p [3, 2, 1, 0] ⟨[(3, .cells 1 [.i a1_3]), (2, .cells 3 [E_GTone a1_2]), (1, .cells 1 [.i a1_1]), (0, .cells 1 [.sl false (a1_0.map E_GTone)])], 6⟩ (by kernel_rfl) (by kernel_rfl) rfl ⟨rfl, rfl⟩

/-- theorbo.intabulate.Adorn -/
def f29 (a0 : List GTone) (a1 : List GFigure) (a2 : Int) : Option (((List Int)) × Int) := (f58 a0 a1).bind fun r1 => bif (decide (r1 ≠ 0)) then (some (([] : List Int), r1)) else ((f48 a2 1 262144).bind fun r3 => bif (!r3) then (some (([] : List Int), 1)) else (need (0 ≤ (a0.length : Int)) <| need ((a0.length : Int) ≤ (maxElems : Int)) <| (loopN (σ := (List Int × Int)) (τ := (List Int)) (fun ((l1_9, l1_26) : (List Int × Int)) => bif (decide (l1_26 < (a0.length : Int))) then ((ix a0 l1_26).bind fun y8 => (f62 a1 a0 l1_26 y8 a2).bind fun r9 => (ix l1_9 l1_26).bind fun y10 => some (.inl ((l1_9.set l1_26.toNat (wr (1 + r9))), (wr (l1_26 + 1))))) else (some (.inr l1_9))) FUEL ((List.replicate (a0.length : Int).toNat (0 : Int)), 0)).bind fun (l1x_9 : (List Int)) => some (l1x_9, 0)))
theorem f29_ok (a0 : List GTone) (a1 : List GFigure) (a2 : Int) (r : (((List Int)) × Int)) (h : f29 a0 a1 a2 = some r) : APure Tryz.prog 29 [.sl false (a0.map E_GTone), .sl false (a1.map E_GFigure), .i a2] (.tup [.sl false (r.1.map AV.i), .i r.2]) := by
  refine apure (clK (cleanMap a0 _ cl_GTone) (clK (cleanMap a1 _ cl_GFigure) (clK rfl clZ))) (clK (cleanMap r.1 _ cl_i) (clK rfl clZ)) ?_
  refine run_f 40 [.tmp 6, .tmp 7] (c29 0) (zipE [0, 1, 2] [.sl false (a0.map E_GTone), .sl false (a1.map E_GFigure), .i a2]) (by kernel_rfl) (by kernel_rfl) (by kernel_rfl) rfl ?_
  unfold f29 at h
  refine run1 (c29 2) [] [1, 3, 5] [1, 0] (zipE [1, 3, 5] [.sl false (a1.map E_GFigure), .mp 0 0 0, .mp 1 0 0]) ⟨[(1, .cells 1 [.i a2]), (0, .cells 1 [.sl false (a0.map E_GTone)])], 2⟩ _ (by kernel_rfl) cj0 ?_
  refine run_s (c29 3) (c29 12) (by kernel_rfl) ?_
  obtain ⟨r1, hr1, h⟩ := bindE h
  refine run1 (c29 5) [{}, {}, { c := some (.i r1, ⟨[(1, .cells 1 [.i a2]), (0, .cells 1 [.sl false (a0.map E_GTone)])], 2⟩) }] [1, 3, 5, 8] [1, 0] (zipE [1, 3, 5, 8] [.sl false (a1.map E_GFigure), .mp 0 0 0, .mp 1 0 0, .i r1]) ⟨[(1, .cells 1 [.i a2]), (0, .cells 1 [.sl false (a0.map E_GTone)])], 2⟩ _ (by kernel_rfl) (cj1 (f58_ok a0 a1 _ hr1 ⟨[(1, .cells 1 [.i a2]), (0, .cells 1 [.sl false (a0.map E_GTone)])], 2⟩)) ?_
  refine run1 (c29 7) [] [1, 3, 5, 8, 16] [1, 0] (zipE [1, 3, 5, 8, 16] [.sl false (a1.map E_GFigure), .mp 0 0 0, .mp 1 0 0, .i r1, .bool (decide (r1 ≠ 0))]) ⟨[(1, .cells 1 [.i a2]), (0, .cells 1 [.sl false (a0.map E_GTone)])], 2⟩ _ (by kernel_rfl) cj0 ?_
  rcases iteE h with ⟨hc2, h⟩ | ⟨hc2, h⟩
  · refine run_cT 16 (c29 8) (c29 11) (decide (r1 ≠ 0)) hc2 (by kernel_rfl) (by kernel_rfl) ?_
    refine run1 (c29 10) [] [6, 7] [] (zipE [6, 7] [.sl true [], .i r1]) ⟨[], 2⟩ _ (by kernel_rfl) cj0 ?_
    refine run_i 2 [] [6, 7] [.sl true [], .i r1] (xs := [.sl false (([] : List Int).map AV.i), .i r1]) (S2 := ⟨[], 2⟩) ?_ (by intro i e; cases e <;> exact Nat.le_of_ble_eq_true rfl) (by kernel_rfl) (by kernel_rfl) (by kernel_rfl) (.k (.s (cleanMap (([] : List Int)) _ cl_i)) (.k (.c rfl) .z)) .z
    refine run_t (by kernel_rfl) ?_
    refine thenR ?_
    replace h := Option.some.inj h; subst h
    exact fin_r (by kernel_rfl) rfl
  · refine run_cF 16 (c29 8) (c29 11) (decide (r1 ≠ 0)) hc2 (by kernel_rfl) (by kernel_rfl) ?_
    refine run_k (by kernel_rfl) ?_
    refine thenN ?_
    refine run_s (c29 13) (c29 20) (by kernel_rfl) ?_
    obtain ⟨r3, hr3, h⟩ := bindE h
    refine run1 (c29 15) [{}, { c := some (.bool r3, ⟨[(1, .cells 1 [.i a2]), (0, .cells 1 [.sl false (a0.map E_GTone)])], 2⟩) }] [1, 3, 5, 20] [1, 0] (zipE [1, 3, 5, 20] [.sl false (a1.map E_GFigure), .mp 0 0 0, .mp 1 0 0, .bool (!r3)]) ⟨[(1, .cells 1 [.i a2]), (0, .cells 1 [.sl false (a0.map E_GTone)])], 2⟩ _ (by kernel_rfl) (cj1 (f48_ok a2 1 262144 _ hr3 ⟨[(1, .cells 1 [.i a2]), (0, .cells 1 [.sl false (a0.map E_GTone)])], 2⟩)) ?_
    rcases iteE h with ⟨hc4, h⟩ | ⟨hc4, h⟩
    · refine run_cT 20 (c29 16) (c29 19) (!r3) hc4 (by kernel_rfl) (by kernel_rfl) ?_
      refine run1 (c29 18) [] [6, 7] [] (zipE [6, 7] [.sl true [], .i 1]) ⟨[], 2⟩ _ (by kernel_rfl) cj0 ?_
      refine run_i 2 [] [6, 7] [.sl true [], .i 1] (xs := [.sl false (([] : List Int).map AV.i), .i 1]) (S2 := ⟨[], 2⟩) ?_ (by intro i e; cases e <;> exact Nat.le_of_ble_eq_true rfl) (by kernel_rfl) (by kernel_rfl) (by kernel_rfl) (.k (.s (cleanMap (([] : List Int)) _ cl_i)) (.k (.c rfl) .z)) .z
      refine run_t (by kernel_rfl) ?_
      refine thenR ?_
      replace h := Option.some.inj h; subst h
      exact fin_r (by kernel_rfl) rfl
    · refine run_cF 20 (c29 16) (c29 19) (!r3) hc4 (by kernel_rfl) (by kernel_rfl) ?_
      refine run_k (by kernel_rfl) ?_
      refine thenN ?_
      obtain ⟨hn5, h⟩ := needE h
      obtain ⟨hn6, h⟩ := needE h
      refine run1 (c29 22) [{}, { k := 1, n := a0.length }, { k := 1, n := (a0.length : Int).toNat, l := (List.replicate (a0.length : Int).toNat (0 : Int)).map AV.i }] [1, 3, 5, 9] [2, 1, 0] (zipE [1, 3, 5, 9] [.sl false (a1.map E_GFigure), .mp 0 0 0, .mp 1 0 0, .ms 2 0 (a0.length : Int).toNat]) ⟨[(2, .cells 1 ((List.replicate (a0.length : Int).toNat (0 : Int)).map AV.i)), (1, .cells 1 [.i a2]), (0, .cells 1 [.sl false (a0.map E_GTone)])], 3⟩ _ (by kernel_rfl) (cjC (mapLen a0 E_GTone) (cjC (hn5) (cjC (Int.le_refl (a0.length : Int)) (cjC (hn6) (cjC (Eq.refl ((a0.length : Int).toNat)) (cj1 (mapRep (a0.length : Int).toNat AV.i (0 : Int)))))))) ?_
      refine run_i 3 [] [1, 3, 5, 9] [.sl false (a1.map E_GFigure), .mp 0 0 0, .mp 1 0 0, .ms 2 0 (a0.length : Int).toNat] (xs := [.sl false (a1.map E_GFigure), .mp 0 0 0, .mp 1 0 0, .ms 2 0 (List.replicate (a0.length : Int).toNat (0 : Int)).length]) (S2 := ⟨[(2, .cells 1 ((List.replicate (a0.length : Int).toNat (0 : Int)).map AV.i)), (1, .cells 1 [.i a2]), (0, .cells 1 [.sl false (a0.map E_GTone)])], 3⟩) ?_ (by intro i e; cases e <;> exact Nat.le_of_ble_eq_true rfl) (by kernel_rfl) (by kernel_rfl) (by kernel_rfl) (.k (.c (cleanMap _ _ cl_GFigure)) (.k (.mp rfl rfl) (.k (.mp rfl rfl) (.k (.e rfl rfl (by simp)) .z)))) (.k (x' := .cells 1 ((List.replicate (a0.length : Int).toNat (0 : Int)).map AV.i)) (by kernel_rfl) (.cells (.r (cleanMap _ _ cl_i))) (.k (x' := .cells 1 [.i a2]) (by kernel_rfl) (.cells (.k (.c rfl) .z)) (.k (x' := .cells 1 [.sl false (a0.map E_GTone)]) (by kernel_rfl) (.cells (.k (.c (cleanMap _ _ cl_GTone)) .z)) .z)))
      refine run_s (c29 23) (c29 39) (by kernel_rfl) ?_
      refine run1 (c29 25) [{}, { k := 1, n := a0.length }] [1, 3, 5, 9, 24, 25, 26] [2, 1, 0] (zipE [1, 3, 5, 9, 24, 25, 26] [.sl false (a1.map E_GFigure), .mp 0 0 0, .mp 1 0 0, .ms 2 0 (List.replicate (a0.length : Int).toNat (0 : Int)).length, .sl false (a0.map E_GTone), .i (a0.length : Int), .i 0]) ⟨[(2, .cells 1 ((List.replicate (a0.length : Int).toNat (0 : Int)).map AV.i)), (1, .cells 1 [.i a2]), (0, .cells 1 [.sl false (a0.map E_GTone)])], 3⟩ _ (by kernel_rfl) (cj1 (mapLen a0 E_GTone)) ?_
      obtain ⟨l1x_9, hll1x, h⟩ := bindE h
      refine run_tq (fun (l1x_9 : (List Int)) => (zipE [9] [.ms 2 0 l1x_9.length])) (fun (l1x_9 : (List Int)) => ⟨[(2, .cells 1 (l1x_9.map AV.i))], 3⟩) (fun j => l1x_9 = j) (fun kl1 => ?_) ?_
      · refine run_b 0 (c29 26) (by kernel_rfl) ?_
        refine run_l (c29 27) _ hll1x (fun ((l1_9, l1_26) : (List Int × Int)) => (zipE [1, 3, 5, 9, 24, 25, 26] [.sl false (a1.map E_GFigure), .mp 0 0 0, .mp 1 0 0, .ms 2 0 l1_9.length, .sl false (a0.map E_GTone), .i (a0.length : Int), .i l1_26])) (fun ((l1_9, l1_26) : (List Int × Int)) => ⟨[(2, .cells 1 (l1_9.map AV.i)), (1, .cells 1 [.i a2]), (0, .cells 1 [.sl false (a0.map E_GTone)])], 3⟩) [] (by intro i e; cases e <;> exact Nat.le_of_ble_eq_true rfl) (by kernel_rfl) (mkInto (ks := [1, 3, 5, 9, 24, 25, 26]) (ys := [.sl false (a1.map E_GFigure), .mp 0 0 0, .mp 1 0 0, .ms 2 0 (List.replicate (a0.length : Int).toNat (0 : Int)).length, .sl false (a0.map E_GTone), .i (a0.length : Int), .i 0]) (by kernel_rfl) (by kernel_rfl) (.k (.c (cleanMap _ _ cl_GFigure)) (.k (.mp rfl rfl) (.k (.mp rfl rfl) (.k (.ms rfl rfl) (.k (.c (cleanMap _ _ cl_GTone)) (.k (.c rfl) (.k (.c rfl) .z))))))) (.k (x' := .cells 1 ((List.replicate (a0.length : Int).toNat (0 : Int)).map AV.i)) (by kernel_rfl) (.cells (.r (cleanMap _ _ cl_i))) (.k (x' := .cells 1 [.i a2]) (by kernel_rfl) (.cells (.k (.c rfl) .z)) (.k (x' := .cells 1 [.sl false (a0.map E_GTone)]) (by kernel_rfl) (.cells (.k (.c (cleanMap _ _ cl_GTone)) .z)) .z)))) ?_
        rintro ⟨l1_9, l1_26⟩ out hl1 rl1
        refine run1 (c29 29) [] [1, 3, 5, 9, 24, 25, 26, 27] [2, 1, 0] (zipE [1, 3, 5, 9, 24, 25, 26, 27] [.sl false (a1.map E_GFigure), .mp 0 0 0, .mp 1 0 0, .ms 2 0 l1_9.length, .sl false (a0.map E_GTone), .i (a0.length : Int), .i l1_26, .bool (decide (l1_26 < (a0.length : Int)))]) ⟨[(2, .cells 1 (l1_9.map AV.i)), (1, .cells 1 [.i a2]), (0, .cells 1 [.sl false (a0.map E_GTone)])], 3⟩ _ (by kernel_rfl) cj0 ?_
        refine run_s (c29 30) (c29 33) (by kernel_rfl) ?_
        rcases iteE hl1 with ⟨hc7, hl1⟩ | ⟨hc7, hl1⟩
        · refine run_cT 27 (c29 31) (c29 32) (decide (l1_26 < (a0.length : Int))) hc7 (by kernel_rfl) (by kernel_rfl) ?_
          refine run_k (by kernel_rfl) ?_
          refine thenN ?_
          refine run_s (c29 34) (c29 38) (by kernel_rfl) ?_
          refine run_b 1 (c29 35) (by kernel_rfl) ?_
          obtain ⟨y8, hy8, hl1⟩ := bindE hl1
          refine run1 (c29 37) [{}, { k := 1, x := E_GTone y8 }] [1, 3, 5, 9, 10, 11, 24, 25, 26] [4, 3, 2, 1, 0] (zipE [1, 3, 5, 9, 10, 11, 24, 25, 26] [.sl false (a1.map E_GFigure), .mp 0 0 0, .mp 1 0 0, .ms 2 0 l1_9.length, .mp 3 0 0, .mp 4 0 0, .sl false (a0.map E_GTone), .i (a0.length : Int), .i l1_26]) ⟨[(4, .cells 3 [E_GTone y8]), (3, .cells 1 [.i l1_26]), (2, .cells 1 (l1_9.map AV.i)), (1, .cells 1 [.i a2]), (0, .cells 1 [.sl false (a0.map E_GTone)])], 5⟩ _ (by kernel_rfl) (cjC ((ixE hy8).1) (cj1 (mapGet E_GTone (ixE hy8).2))) ?_
          obtain ⟨r9, hr9, hl1⟩ := bindE hl1
          obtain ⟨y10, hy10, hl1⟩ := bindE hl1
          refine awp_post (by intro i e; cases e <;> exact Nat.le_of_ble_eq_true rfl) ?_
          refine yun0 [[], [], [], [], [2, 3], [2, 3, 4], [0, 1, 2, 3, 4, 5], [0, 1, 2, 3, 4, 5, 6]] [.light 0 false, .light 1 true, .light 2 false, .light 3 false, .heavy 4 [1], .light 5 false, .light 6 false, .heavy 7 []] [{}, {}, {}, {}, { c := some (.i r9, ⟨[(4, .cells 3 [E_GTone y8]), (3, .cells 1 [.i l1_26]), (2, .cells 1 (l1_9.map AV.i)), (1, .cells 1 [.i a2]), (0, .cells 1 [.sl false (a0.map E_GTone)])], 7⟩) }, {}, { k := 1, n := l1_26.toNat }, { k := 1, x := AV.i y10, l := (l1_9.set l1_26.toNat (wr (1 + r9))).map AV.i }] [1, 3, 5, 9, 24, 25, 26] [2, 1, 0] (zipE [1, 3, 5, 9, 24, 25, 26] [.sl false (a1.map E_GFigure), .mp 0 0 0, .mp 1 0 0, .ms 2 0 l1_9.length, .sl false (a0.map E_GTone), .i (a0.length : Int), .i l1_26]) ⟨[(2, .cells 1 ((l1_9.set l1_26.toNat (wr (1 + r9))).map AV.i)), (1, .cells 1 [.i a2]), (0, .cells 1 [.sl false (a0.map E_GTone)])], 7⟩ _ (by kernel_rfl) (cjC (callF (f62_ok a1 a0 l1_26 y8 a2 _ hr9) [(0, 0), (1, 3), (2, 4), (3, 1)] [(1, 3), (4, 2), (3, 1), (0, 0)] [2] [.sl false (a1.map E_GFigure), .fn 63 [.mp 0 0 0, .mp 3 0 0, .mp 4 0 0, .mp 1 0 0]] ⟨[(4, .cells 3 [E_GTone y8]), (3, .cells 1 [.i l1_26]), (2, .cells 1 (l1_9.map AV.i)), (1, .cells 1 [.i a2]), (0, .cells 1 [.sl false (a0.map E_GTone)])], 5⟩ (.i r9) ⟨[(4, .cells 3 [E_GTone y8]), (3, .cells 1 [.i l1_26]), (2, .cells 1 (l1_9.map AV.i)), (1, .cells 1 [.i a2]), (0, .cells 1 [.sl false (a0.map E_GTone)])], 7⟩ (by kernel_rfl) (.k (.c (cleanMap _ _ cl_GFigure)) (.k (.f (.k (.mp rfl rfl) (.k (.mp rfl rfl) (.k (.mp rfl rfl) (.k (.mp rfl rfl) .z))))) .z)) (.c rfl) (.k (x' := .cells 1 [.i a2]) (by kernel_rfl) (.cells (.k (.c rfl) .z)) (.k (x' := .cells 3 [E_GTone y8]) (by kernel_rfl) (.cells (.k (.c (cl_GTone y8)) .z)) (.k (x' := .cells 1 [.i l1_26]) (by kernel_rfl) (.cells (.k (.c rfl) .z)) (.k (x' := .cells 1 [.sl false (a0.map E_GTone)]) (by kernel_rfl) (.cells (.k (.c (cleanMap _ _ cl_GTone)) .z)) .z)))) (.d (x' := .cells 3 [E_GTone y8]) rfl (by kernel_rfl) (.cells (.k (.c (cl_GTone y8)) .z)) (.d (x' := .cells 1 [.i l1_26]) rfl (by kernel_rfl) (.cells (.k (.c rfl) .z)) (.f rfl (by kernel_rfl) (.d (x' := .cells 1 [.i a2]) rfl (by kernel_rfl) (.cells (.k (.c rfl) .z)) (.d (x' := .cells 1 [.sl false (a0.map E_GTone)]) rfl (by kernel_rfl) (.cells (.k (.c (cleanMap _ _ cl_GTone)) .z)) .z)))))) (cjC (@Eq.refl AV (.i l1_26)) (cjC ((ixE hy10).1) (cjC (ixLt hy10) (cjC (Nat.zero_add l1_26.toNat) (cjC (mapGet AV.i (ixE hy10).2) (cjC ((by decide : (1 : Nat) ≤ 1)) (cj1 (mapSet l1_9 AV.i l1_26.toNat (wr (1 + r9))))))))))) ?_
          refine ⟨7, pi [], (zipE [1, 3, 5, 9, 24, 25, 26] [.sl false (a1.map E_GFigure), .mp 0 0 0, .mp 1 0 0, .ms 2 0 (l1_9.set l1_26.toNat (wr (1 + r9))).length, .sl false (a0.map E_GTone), .i (a0.length : Int), .i l1_26]), ⟨[(2, .cells 1 ((l1_9.set l1_26.toNat (wr (1 + r9))).map AV.i)), (1, .cells 1 [.i a2]), (0, .cells 1 [.sl false (a0.map E_GTone)])], 7⟩, Nat.le_of_ble_eq_true rfl, mkInto (ks := [1, 3, 5, 9, 24, 25, 26]) (ys := [.sl false (a1.map E_GFigure), .mp 0 0 0, .mp 1 0 0, .ms 2 0 l1_9.length, .sl false (a0.map E_GTone), .i (a0.length : Int), .i l1_26]) (by kernel_rfl) (by kernel_rfl) (.k (.c (cleanMap _ _ cl_GFigure)) (.k (.mp rfl rfl) (.k (.mp rfl rfl) (.k (.e rfl rfl (by simp)) (.k (.c (cleanMap _ _ cl_GTone)) (.k (.c rfl) (.k (.c rfl) .z))))))) (.k (x' := .cells 1 ((l1_9.set l1_26.toNat (wr (1 + r9))).map AV.i)) (by kernel_rfl) (.cells (.r (cleanMap _ _ cl_i))) (.k (x' := .cells 1 [.i a2]) (by kernel_rfl) (.cells (.k (.c rfl) .z)) (.k (x' := .cells 1 [.sl false (a0.map E_GTone)]) (by kernel_rfl) (.cells (.k (.c (cleanMap _ _ cl_GTone)) .z)) .z))), ?_⟩
          refine inbN ?_
          refine thenN ?_
          refine run0 [] [1, 3, 5, 9, 24, 25, 26] [2, 1, 0] (zipE [1, 3, 5, 9, 24, 25, 26] [.sl false (a1.map E_GFigure), .mp 0 0 0, .mp 1 0 0, .ms 2 0 (l1_9.set l1_26.toNat (wr (1 + r9))).length, .sl false (a0.map E_GTone), .i (a0.length : Int), .i (wr (l1_26 + 1))]) ⟨[(2, .cells 1 ((l1_9.set l1_26.toNat (wr (1 + r9))).map AV.i)), (1, .cells 1 [.i a2]), (0, .cells 1 [.sl false (a0.map E_GTone)])], 7⟩ _ (by kernel_rfl) cj0 ?_
          replace hl1 := Option.some.inj hl1; subst hl1
          exact ⟨_, rfl, pi [], mkInto (ks := [1, 3, 5, 9, 24, 25, 26]) (ys := [.sl false (a1.map E_GFigure), .mp 0 0 0, .mp 1 0 0, .ms 2 0 (l1_9.set l1_26.toNat (wr (1 + r9))).length, .sl false (a0.map E_GTone), .i (a0.length : Int), .i (wr (l1_26 + 1))]) (by kernel_rfl) (by kernel_rfl) (.k (.c (cleanMap _ _ cl_GFigure)) (.k (.mp rfl rfl) (.k (.mp rfl rfl) (.k (.ms rfl rfl) (.k (.c (cleanMap _ _ cl_GTone)) (.k (.c rfl) (.k (.c rfl) .z))))))) (.k (x' := .cells 1 ((l1_9.set l1_26.toNat (wr (1 + r9))).map AV.i)) (by kernel_rfl) (.cells (.r (cleanMap _ _ cl_i))) (.k (x' := .cells 1 [.i a2]) (by kernel_rfl) (.cells (.k (.c rfl) .z)) (.k (x' := .cells 1 [.sl false (a0.map E_GTone)]) (by kernel_rfl) (.cells (.k (.c (cleanMap _ _ cl_GTone)) .z)) .z)))⟩
        · refine run_cF 27 (c29 31) (c29 32) (decide (l1_26 < (a0.length : Int))) hc7 (by kernel_rfl) (by kernel_rfl) ?_
          replace hl1 := Option.some.inj hl1; subst hl1
          have hr := rl1 _ rfl
          subst hr
          refine awp_p [9] [2] (zipE [9] [.ms 2 0 l1_9.length]) ⟨[(2, .cells 1 (l1_9.map AV.i))], 3⟩ (by kernel_rfl) (?_)
          refine run_e 0 (by kernel_rfl) ?_
          refine thenE ?_
          refine ⟨⟨_, rfl⟩, ?_⟩
          refine inbE ?_
          exact kl1 l1_9 rfl
      · rintro _ rfl
        refine thenN ?_
        refine run1 (c29 41) [] [6, 7] [2] (zipE [6, 7] [.ms 2 0 l1x_9.length, .i 0]) ⟨[(2, .cells 1 (l1x_9.map AV.i))], 3⟩ _ (by kernel_rfl) cj0 ?_
        refine run_z 2 1 (l1x_9.map AV.i) [6, 7] [.ms 2 0 l1x_9.length, .i 0] (xs := [.sl false (l1x_9.map AV.i), .i 0]) (S2 := ⟨[], 3⟩) ?_ (by kernel_rfl) (by kernel_rfl) (.k (.m (mLe l1x_9 AV.i) (mapAll l1x_9 AV.i)) (.k (.r _) .z)) .z rfl rfl
        refine run_t (by kernel_rfl) ?_
        replace h := Option.some.inj h; subst h
        exact fin_r (by kernel_rfl) rfl

/-- theorbo.theorboref08.tones -/
def f66 (a0 : GTone) (a1 : GFigure) : Option ((List GTone)) := (f98 a1).bind fun r1 => need (r1 ≠ 0) <| (loopN (σ := (Int × List GTone × Int)) (τ := (List GTone)) (fun ((l1_6, l1_7, l1_8) : (Int × List GTone × Int)) => bif (decide (l1_8 < (a1.moves.length : Int))) then ((ix a1.shares l1_8).bind fun y4 => (ix a1.moves l1_8).bind fun y5 => need (l1_7.length + 1 ≤ maxElems) <| some (.inl ((wr (l1_6 + (wr ((wr (Int.tdiv (wr (a0.to_ - a0.from_)) r1)) * y4)))), (l1_7 ++ [(⟨(wr (a0.pitch + y5)), l1_6, (wr (l1_6 + (wr ((wr (Int.tdiv (wr (a0.to_ - a0.from_)) r1)) * y4))))⟩ : GTone)]), (wr (l1_8 + 1))))) else (some (.inr l1_7))) FUEL (a0.from_, ([] : List GTone), 0)).bind fun (l1x_7 : (List GTone)) => some l1x_7
theorem f66_ok (a0 : GTone) (a1 : GFigure) (r : ((List GTone))) (h : f66 a0 a1 = some r) : APure Tryz.prog 66 [E_GTone a0, E_GFigure a1] (.sl false (r.map E_GTone)) := by
  refine apure (clK (cl_GTone a0) (clK (cl_GFigure a1) clZ)) (cleanMap r _ cl_GTone) ?_
  refine run_f 52 [.tmp 4] (c66 0) (zipE [0, 1] [E_GTone a0, E_GFigure a1]) (by kernel_rfl) (by kernel_rfl) (by kernel_rfl) rfl ?_
  unfold f66 at h
  refine run1 (c66 2) [] [2, 3] [1, 0] (zipE [2, 3] [.mp 0 0 0, .mp 1 0 0]) ⟨[(1, .cells 3 [E_GFigure a1]), (0, .cells 3 [E_GTone a0])], 2⟩ _ (by kernel_rfl) cj0 ?_
  obtain ⟨r1, hr1, h⟩ := bindE h
  obtain ⟨hn2, h⟩ := needE h
  refine yun1 (c66 4) [[], [0], [], [2], [0, 1, 2, 3], [], [5], [0, 1, 2, 3, 4, 5, 6], [0, 1, 2, 3, 4, 5, 6, 7]] [.light 0 false, .light 1 true, .light 2 false, .light 3 true, .light 4 false, .light 5 false, .heavy 6 [1, 3], .light 7 false, .light 8 false] [{}, {}, {}, {}, {}, {}, { c := some (.i r1, ⟨[(1, .cells 3 [E_GFigure a1]), (0, .cells 3 [E_GTone a0])], 2⟩) }, { k := 1 }] [2, 3, 5] [1, 0] (zipE [2, 3, 5] [.mp 0 0 0, .mp 1 0 0, .i (wr (Int.tdiv (wr (a0.to_ - a0.from_)) r1))]) ⟨[(1, .cells 3 [E_GFigure a1]), (0, .cells 3 [E_GTone a0])], 2⟩ _ (by kernel_rfl) (cjC (f98_ok a1 _ hr1 ⟨[(1, .cells 3 [E_GFigure a1]), (0, .cells 3 [E_GTone a0])], 2⟩) (cjC (@Eq.refl AV (.i a0.to_)) (cjC (@Eq.refl AV (.i a0.from_)) (cj1 (hn2))))) ?_
  refine run1 (c66 6) [] [2, 3, 5, 6] [1, 0] (zipE [2, 3, 5, 6] [.mp 0 0 0, .mp 1 0 0, .i (wr (Int.tdiv (wr (a0.to_ - a0.from_)) r1)), .i a0.from_]) ⟨[(1, .cells 3 [E_GFigure a1]), (0, .cells 3 [E_GTone a0])], 2⟩ _ (by kernel_rfl) cj0 ?_
  refine run1 (c66 8) [] [2, 3, 5, 6, 7] [1, 0] (zipE [2, 3, 5, 6, 7] [.mp 0 0 0, .mp 1 0 0, .i (wr (Int.tdiv (wr (a0.to_ - a0.from_)) r1)), .i a0.from_, .sl true []]) ⟨[(1, .cells 3 [E_GFigure a1]), (0, .cells 3 [E_GTone a0])], 2⟩ _ (by kernel_rfl) cj0 ?_
  refine run_s (c66 9) (c66 27) (by kernel_rfl) ?_
  refine run1 (c66 11) [] [2, 3, 5, 6, 7, 8] [1, 0] (zipE [2, 3, 5, 6, 7, 8] [.mp 0 0 0, .mp 1 0 0, .i (wr (Int.tdiv (wr (a0.to_ - a0.from_)) r1)), .i a0.from_, .sl true [], .i 0]) ⟨[(1, .cells 3 [E_GFigure a1]), (0, .cells 3 [E_GTone a0])], 2⟩ _ (by kernel_rfl) cj0 ?_
  obtain ⟨l1x_7, hll1x, h⟩ := bindE h
  refine run_tq (fun (l1x_7 : (List GTone)) => (zipE [7] [.ms 2 0 l1x_7.length])) (fun (l1x_7 : (List GTone)) => ⟨[(2, .cells 3 (l1x_7.map E_GTone))], 3⟩) (fun j => l1x_7 = j) (fun kl1 => ?_) ?_
  · refine run_b 0 (c66 12) (by kernel_rfl) ?_
    refine run_l (c66 13) _ hll1x (fun ((l1_6, l1_7, l1_8) : (Int × List GTone × Int)) => (zipE [2, 3, 5, 6, 7, 8] [.mp 0 0 0, .mp 1 0 0, .i (wr (Int.tdiv (wr (a0.to_ - a0.from_)) r1)), .i l1_6, .ms 2 0 l1_7.length, .i l1_8])) (fun ((l1_6, l1_7, l1_8) : (Int × List GTone × Int)) => ⟨[(2, .cells 3 (l1_7.map E_GTone)), (1, .cells 3 [E_GFigure a1]), (0, .cells 3 [E_GTone a0])], 3⟩) [(2, 1000000)] (by intro i e; cases e <;> exact Nat.le_of_ble_eq_true rfl) (by kernel_rfl) (mkInto (ks := [2, 3, 5, 6, 7, 8]) (ys := [.mp 0 0 0, .mp 1 0 0, .i (wr (Int.tdiv (wr (a0.to_ - a0.from_)) r1)), .i a0.from_, .sl true [], .i 0]) (by kernel_rfl) (by kernel_rfl) (.k (.mp rfl rfl) (.k (.mp rfl rfl) (.k (.c rfl) (.k (.c rfl) (.k (.n) (.k (.c rfl) .z)))))) (.n rfl rfl rfl (.k (x' := .cells 3 [E_GFigure a1]) (by kernel_rfl) (.cells (.k (.c (cl_GFigure a1)) .z)) (.k (x' := .cells 3 [E_GTone a0]) (by kernel_rfl) (.cells (.k (.c (cl_GTone a0)) .z)) .z)))) ?_
    rintro ⟨l1_6, l1_7, l1_8⟩ out hl1 rl1
    refine run_s (c66 14) (c66 19) (by kernel_rfl) ?_
    refine run1 (c66 16) [{}, {}, {}, { k := 1, n := a1.moves.length }] [2, 3, 5, 6, 7, 8, 24] [2, 1, 0] (zipE [2, 3, 5, 6, 7, 8, 24] [.mp 0 0 0, .mp 1 0 0, .i (wr (Int.tdiv (wr (a0.to_ - a0.from_)) r1)), .i l1_6, .ms 2 0 l1_7.length, .i l1_8, .bool (decide (l1_8 < (a1.moves.length : Int)))]) ⟨[(2, .cells 3 (l1_7.map E_GTone)), (1, .cells 3 [E_GFigure a1]), (0, .cells 3 [E_GTone a0])], 3⟩ _ (by kernel_rfl) (cj1 (mapLen a1.moves AV.i)) ?_
    rcases iteE hl1 with ⟨hc3, hl1⟩ | ⟨hc3, hl1⟩
    · refine run_cT 24 (c66 17) (c66 18) (decide (l1_8 < (a1.moves.length : Int))) hc3 (by kernel_rfl) (by kernel_rfl) ?_
      refine run_k (by kernel_rfl) ?_
      refine thenN ?_
      refine run_s (c66 20) (c66 26) (by kernel_rfl) ?_
      refine run_b 1 (c66 21) (by kernel_rfl) ?_
      obtain ⟨y4, hy4, hl1⟩ := bindE hl1
      refine run1 (c66 23) [{}, {}, {}, {}, {}, { k := 1, x := AV.i y4 }] [2, 3, 5, 6, 7, 8, 9] [2, 1, 0] (zipE [2, 3, 5, 6, 7, 8, 9] [.mp 0 0 0, .mp 1 0 0, .i (wr (Int.tdiv (wr (a0.to_ - a0.from_)) r1)), .i l1_6, .ms 2 0 l1_7.length, .i l1_8, .i (wr (l1_6 + (wr ((wr (Int.tdiv (wr (a0.to_ - a0.from_)) r1)) * y4))))]) ⟨[(2, .cells 3 (l1_7.map E_GTone)), (1, .cells 3 [E_GFigure a1]), (0, .cells 3 [E_GTone a0])], 3⟩ _ (by kernel_rfl) (cjC ((ixE hy4).1) (cj1 (mapGet AV.i (ixE hy4).2))) ?_
      obtain ⟨y5, hy5, hl1⟩ := bindE hl1
      obtain ⟨hn6, hl1⟩ := needE hl1
      refine yun1 (c66 25) [[], [], [1], [], [3], [], [3, 4, 5], [3, 4, 5, 6], [1, 2, 3, 4, 5, 6, 7], [], [], [1, 2, 3, 4, 5, 6, 7, 8, 9, 10], [1, 2, 3, 4, 5, 6, 7, 8, 9, 10, 11], [0, 1, 2, 3, 4, 5, 6, 7, 8, 9, 10, 11, 12], [0, 1, 2, 3, 4, 5, 6, 7, 8, 9, 10, 11, 12, 13]] [.light 0 false, .light 1 false, .light 2 false, .light 3 false, .light 4 false, .light 5 false, .light 6 false, .light 7 false, .light 8 false, .light 9 false, .light 10 false, .light 11 false, .light 12 false, .heavy 13 [], .light 14 false] [{}, {}, {}, {}, {}, {}, { k := 1, x := AV.i y5 }, {}, {}, {}, {}, {}, {}, { k := 1, n := (l1_7 ++ [(⟨(wr (a0.pitch + y5)), l1_6, (wr (l1_6 + (wr ((wr (Int.tdiv (wr (a0.to_ - a0.from_)) r1)) * y4))))⟩ : GTone)]).length, l := (l1_7 ++ [(⟨(wr (a0.pitch + y5)), l1_6, (wr (l1_6 + (wr ((wr (Int.tdiv (wr (a0.to_ - a0.from_)) r1)) * y4))))⟩ : GTone)]).map E_GTone }] [2, 3, 5, 7, 8, 9] [3, 1, 0] (zipE [2, 3, 5, 7, 8, 9] [.mp 0 0 0, .mp 1 0 0, .i (wr (Int.tdiv (wr (a0.to_ - a0.from_)) r1)), .ms 3 0 (l1_7 ++ [(⟨(wr (a0.pitch + y5)), l1_6, (wr (l1_6 + (wr ((wr (Int.tdiv (wr (a0.to_ - a0.from_)) r1)) * y4))))⟩ : GTone)]).length, .i l1_8, .i (wr (l1_6 + (wr ((wr (Int.tdiv (wr (a0.to_ - a0.from_)) r1)) * y4))))]) ⟨[(3, .cells 3 ((l1_7 ++ [(⟨(wr (a0.pitch + y5)), l1_6, (wr (l1_6 + (wr ((wr (Int.tdiv (wr (a0.to_ - a0.from_)) r1)) * y4))))⟩ : GTone)]).map E_GTone)), (1, .cells 3 [E_GFigure a1]), (0, .cells 3 [E_GTone a0])], 4⟩ _ (by kernel_rfl) (cjC ((ixE hy5).1) (cjC (mapGet AV.i (ixE hy5).2) (cjC (@List.cons_ne_nil AV (.agg [.i (wr (a0.pitch + y5)), .i l1_6, .i (wr (l1_6 + (wr ((wr (Int.tdiv (wr (a0.to_ - a0.from_)) r1)) * y4))))]) []) (cjC (mLe l1_7 E_GTone) (cjC (hn6) (cjC (lenA l1_7 ([(⟨(wr (a0.pitch + y5)), l1_6, (wr (l1_6 + (wr ((wr (Int.tdiv (wr (a0.to_ - a0.from_)) r1)) * y4))))⟩ : GTone)] : List GTone)) (cjC (appA l1_7 ([(⟨(wr (a0.pitch + y5)), l1_6, (wr (l1_6 + (wr ((wr (Int.tdiv (wr (a0.to_ - a0.from_)) r1)) * y4))))⟩ : GTone)] : List GTone) E_GTone) (cj1 (fitsOne (P := Tryz.prog) (t := 53) (x := .agg [.i (wr (a0.pitch + y5)), .i l1_6, .i (wr (l1_6 + (wr ((wr (Int.tdiv (wr (a0.to_ - a0.from_)) r1)) * y4))))]) (r := []) (by kernel_rfl)))))))))) ?_
      refine run0 [] [2, 3, 5, 6, 7, 8] [3, 1, 0] (zipE [2, 3, 5, 6, 7, 8] [.mp 0 0 0, .mp 1 0 0, .i (wr (Int.tdiv (wr (a0.to_ - a0.from_)) r1)), .i (wr (l1_6 + (wr ((wr (Int.tdiv (wr (a0.to_ - a0.from_)) r1)) * y4)))), .ms 3 0 (l1_7 ++ [(⟨(wr (a0.pitch + y5)), l1_6, (wr (l1_6 + (wr ((wr (Int.tdiv (wr (a0.to_ - a0.from_)) r1)) * y4))))⟩ : GTone)]).length, .i l1_8]) ⟨[(3, .cells 3 ((l1_7 ++ [(⟨(wr (a0.pitch + y5)), l1_6, (wr (l1_6 + (wr ((wr (Int.tdiv (wr (a0.to_ - a0.from_)) r1)) * y4))))⟩ : GTone)]).map E_GTone)), (1, .cells 3 [E_GFigure a1]), (0, .cells 3 [E_GTone a0])], 4⟩ _ (by kernel_rfl) cj0 ?_
      refine inbN ?_
      refine thenN ?_
      refine run0 [] [2, 3, 5, 6, 7, 8] [3, 1, 0] (zipE [2, 3, 5, 6, 7, 8] [.mp 0 0 0, .mp 1 0 0, .i (wr (Int.tdiv (wr (a0.to_ - a0.from_)) r1)), .i (wr (l1_6 + (wr ((wr (Int.tdiv (wr (a0.to_ - a0.from_)) r1)) * y4)))), .ms 3 0 (l1_7 ++ [(⟨(wr (a0.pitch + y5)), l1_6, (wr (l1_6 + (wr ((wr (Int.tdiv (wr (a0.to_ - a0.from_)) r1)) * y4))))⟩ : GTone)]).length, .i (wr (l1_8 + 1))]) ⟨[(3, .cells 3 ((l1_7 ++ [(⟨(wr (a0.pitch + y5)), l1_6, (wr (l1_6 + (wr ((wr (Int.tdiv (wr (a0.to_ - a0.from_)) r1)) * y4))))⟩ : GTone)]).map E_GTone)), (1, .cells 3 [E_GFigure a1]), (0, .cells 3 [E_GTone a0])], 4⟩ _ (by kernel_rfl) cj0 ?_
      replace hl1 := Option.some.inj hl1; subst hl1
      exact ⟨_, rfl, pi [(2, 3)], mkInto (ks := [2, 3, 5, 6, 7, 8]) (ys := [.mp 0 0 0, .mp 1 0 0, .i (wr (Int.tdiv (wr (a0.to_ - a0.from_)) r1)), .i (wr (l1_6 + (wr ((wr (Int.tdiv (wr (a0.to_ - a0.from_)) r1)) * y4)))), .ms 3 0 (l1_7 ++ [(⟨(wr (a0.pitch + y5)), l1_6, (wr (l1_6 + (wr ((wr (Int.tdiv (wr (a0.to_ - a0.from_)) r1)) * y4))))⟩ : GTone)]).length, .i (wr (l1_8 + 1))]) (by kernel_rfl) (by kernel_rfl) (.k (.mp rfl rfl) (.k (.mp rfl rfl) (.k (.c rfl) (.k (.c rfl) (.k (.ms rfl rfl) (.k (.c rfl) .z)))))) (.k (x' := .cells 3 ((l1_7 ++ [(⟨(wr (a0.pitch + y5)), l1_6, (wr (l1_6 + (wr ((wr (Int.tdiv (wr (a0.to_ - a0.from_)) r1)) * y4))))⟩ : GTone)]).map E_GTone)) (by kernel_rfl) (.cells (.r (cleanMap _ _ cl_GTone))) (.k (x' := .cells 3 [E_GFigure a1]) (by kernel_rfl) (.cells (.k (.c (cl_GFigure a1)) .z)) (.k (x' := .cells 3 [E_GTone a0]) (by kernel_rfl) (.cells (.k (.c (cl_GTone a0)) .z)) .z)))⟩
    · refine run_cF 24 (c66 17) (c66 18) (decide (l1_8 < (a1.moves.length : Int))) hc3 (by kernel_rfl) (by kernel_rfl) ?_
      replace hl1 := Option.some.inj hl1; subst hl1
      have hr := rl1 _ rfl
      subst hr
      refine awp_p [7] [2] (zipE [7] [.ms 2 0 l1_7.length]) ⟨[(2, .cells 3 (l1_7.map E_GTone))], 3⟩ (by kernel_rfl) (?_)
      refine run_e 0 (by kernel_rfl) ?_
      refine thenE ?_
      refine ⟨⟨_, rfl⟩, ?_⟩
      refine inbE ?_
      exact kl1 l1_7 rfl
  · rintro _ rfl
    refine thenN ?_
    refine run1 (c66 29) [] [4] [2] (zipE [4] [.ms 2 0 l1x_7.length]) ⟨[(2, .cells 3 (l1x_7.map E_GTone))], 3⟩ _ (by kernel_rfl) cj0 ?_
    refine run_z 2 3 (l1x_7.map E_GTone) [4] [.ms 2 0 l1x_7.length] (xs := [.sl false (l1x_7.map E_GTone)]) (S2 := ⟨[], 3⟩) ?_ (by kernel_rfl) (by kernel_rfl) (.k (.m (mLe l1x_7 E_GTone) (mapAll l1x_7 E_GTone)) .z) .z rfl rfl
    refine run_t (by kernel_rfl) ?_
    replace h := Option.some.inj h; subst h
    exact fin_r (by kernel_rfl) rfl

/-- theorbo.theorboref08.Adorn -/
def f30 (a0 : List GTone) (a1 : List GFigure) (a2 : Int) : Option (((List Int)) × Int) := (f60 a0 a1).bind fun r1 => bif (decide (r1 ≠ 0)) then (some (([] : List Int), r1)) else (((bif (decide (a2 < 1)) then (some true) else (some (decide (262144 < a2)))) : Option Bool).bind fun (j1_27 : Bool) => bif j1_27 then (some (([] : List Int), 1)) else ((loopN (σ := (List Int × Int)) (τ := (List Int)) (fun ((l2_9, l2_10) : (List Int × Int)) => bif (decide (l2_10 < (a0.length : Int))) then ((loopN (σ := (Int × Int)) (τ := Int) (fun ((l3_11, l3_12) : (Int × Int)) => bif (decide (1 ≤ l3_12)) then ((((ix a1 (wr (l3_12 - 1))).bind fun y7 => (f61 a0 y7 l2_10).bind fun r8 => bif (!r8) then (some l3_11) else ((ix a0 l2_10).bind fun y10 => (f66 y10 y7).bind fun r11 => (loopN (σ := (Bool × Int)) (τ := Bool) (fun ((l5_13, l5_15) : (Bool × Int)) => bif (decide (l5_15 < (r11.length : Int))) then (((bif l5_13 then ((ix r11 l5_15).bind fun y14 => some (decide (a2 ≤ (wr (y14.to_ - y14.from_))))) else (some false)) : Option Bool).bind fun (j6_13 : Bool) => some (.inl (j6_13, (wr (l5_15 + 1))))) else (some (.inr l5_13))) FUEL (true, 0)).bind fun (l5x_13 : Bool) => bif l5x_13 then (some l3_12) else (some l3_11))) : Option Int).bind fun (j4_11 : Int) => some (.inl (j4_11, (wr (l3_12 - 1))))) else (some (.inr l3_11))) FUEL (0, (a1.length : Int))).bind fun (l3x_11 : Int) => need (l2_9.length + 1 ≤ maxElems) <| some (.inl ((l2_9 ++ [l3x_11]), (wr (l2_10 + 1))))) else (some (.inr l2_9))) FUEL (([] : List Int), 0)).bind fun (l2x_9 : (List Int)) => some (l2x_9, 0)))
theorem f30_ok (a0 : List GTone) (a1 : List GFigure) (a2 : Int) (r : (((List Int)) × Int)) (h : f30 a0 a1 a2 = some r) : APure Tryz.prog 30 [.sl false (a0.map E_GTone), .sl false (a1.map E_GFigure), .i a2] (.tup [.sl false (r.1.map AV.i), .i r.2]) := by
  refine apure (clK (cleanMap a0 _ cl_GTone) (clK (cleanMap a1 _ cl_GFigure) (clK rfl clZ))) (clK (cleanMap r.1 _ cl_i) (clK rfl clZ)) ?_
  refine run_f 88 [.tmp 6, .tmp 7] (c30 0) (zipE [0, 1, 2] [.sl false (a0.map E_GTone), .sl false (a1.map E_GFigure), .i a2]) (by kernel_rfl) (by kernel_rfl) (by kernel_rfl) rfl ?_
  unfold f30 at h
  refine run1 (c30 2) [] [0, 1, 2] [] (zipE [0, 1, 2] [.sl false (a0.map E_GTone), .sl false (a1.map E_GFigure), .i a2]) ⟨[], 0⟩ _ (by kernel_rfl) cj0 ?_
  refine run_s (c30 3) (c30 12) (by kernel_rfl) ?_
  obtain ⟨r1, hr1, h⟩ := bindE h
  refine run1 (c30 5) [{}, {}, { c := some (.i r1, ⟨[], 0⟩) }] [0, 1, 2, 8] [] (zipE [0, 1, 2, 8] [.sl false (a0.map E_GTone), .sl false (a1.map E_GFigure), .i a2, .i r1]) ⟨[], 0⟩ _ (by kernel_rfl) (cj1 (f60_ok a0 a1 _ hr1 ⟨[], 0⟩)) ?_
  refine run1 (c30 7) [] [0, 1, 2, 8, 20] [] (zipE [0, 1, 2, 8, 20] [.sl false (a0.map E_GTone), .sl false (a1.map E_GFigure), .i a2, .i r1, .bool (decide (r1 ≠ 0))]) ⟨[], 0⟩ _ (by kernel_rfl) cj0 ?_
  rcases iteE h with ⟨hc2, h⟩ | ⟨hc2, h⟩
  · refine run_cT 20 (c30 8) (c30 11) (decide (r1 ≠ 0)) hc2 (by kernel_rfl) (by kernel_rfl) ?_
    refine run1 (c30 10) [] [6, 7] [] (zipE [6, 7] [.sl true [], .i r1]) ⟨[], 0⟩ _ (by kernel_rfl) cj0 ?_
    refine run_i 0 [] [6, 7] [.sl true [], .i r1] (xs := [.sl false (([] : List Int).map AV.i), .i r1]) (S2 := ⟨[], 0⟩) ?_ (by intro i e; cases e <;> exact Nat.le_of_ble_eq_true rfl) (by kernel_rfl) (by kernel_rfl) (by kernel_rfl) (.k (.s (cleanMap (([] : List Int)) _ cl_i)) (.k (.c rfl) .z)) .z
    refine run_t (by kernel_rfl) ?_
    refine thenR ?_
    replace h := Option.some.inj h; subst h
    exact fin_r (by kernel_rfl) rfl
  · refine run_cF 20 (c30 8) (c30 11) (decide (r1 ≠ 0)) hc2 (by kernel_rfl) (by kernel_rfl) ?_
    refine run_k (by kernel_rfl) ?_
    refine thenN ?_
    refine run_s (c30 13) (c30 20) (by kernel_rfl) ?_
    obtain ⟨j1_27, hj1, h⟩ := bindE h
    refine run_gq (c30 15) (fun (j1_27 : Bool) => (zipE [0, 1, 2, 27] [.sl false (a0.map E_GTone), .sl false (a1.map E_GFigure), .i a2, .bool j1_27])) (fun (j1_27 : Bool) => ⟨[], 0⟩) (fun j => j1_27 = j) (fun kj1 => ?_) ?_
    · rcases iteE hj1 with ⟨hc3, hj1⟩ | ⟨hc3, hj1⟩
      · replace hj1 := Option.some.inj hj1; subst hj1
        exact run1 (c30 15) [{}, {}, {}, { g := false }, { g := false }, { k := 1, b := true }] [0, 1, 2, 27] [] (zipE [0, 1, 2, 27] [.sl false (a0.map E_GTone), .sl false (a1.map E_GFigure), .i a2, .bool true]) ⟨[], 0⟩ _ (by kernel_rfl) (cjC (hc3) (cjC (hc3) (cj1 (hc3)))) (kj1 true rfl)
      · replace hj1 := Option.some.inj hj1; subst hj1
        exact run1 (c30 15) [{}, {}, {}, {}, {}, { k := 1, b := false }] [0, 1, 2, 27] [] (zipE [0, 1, 2, 27] [.sl false (a0.map E_GTone), .sl false (a1.map E_GFigure), .i a2, .bool (decide (262144 < a2))]) ⟨[], 0⟩ _ (by kernel_rfl) (cjC (hc3) (cjC (hc3) (cj1 (hc3)))) (kj1 (decide (262144 < a2)) rfl)
    · rintro _ rfl
      rcases iteE h with ⟨hc4, h⟩ | ⟨hc4, h⟩
      · refine run_cT 27 (c30 16) (c30 19) j1_27 hc4 (by kernel_rfl) (by kernel_rfl) ?_
        refine run1 (c30 18) [] [6, 7] [] (zipE [6, 7] [.sl true [], .i 1]) ⟨[], 0⟩ _ (by kernel_rfl) cj0 ?_
        refine run_i 0 [] [6, 7] [.sl true [], .i 1] (xs := [.sl false (([] : List Int).map AV.i), .i 1]) (S2 := ⟨[], 0⟩) ?_ (by intro i e; cases e <;> exact Nat.le_of_ble_eq_true rfl) (by kernel_rfl) (by kernel_rfl) (by kernel_rfl) (.k (.s (cleanMap (([] : List Int)) _ cl_i)) (.k (.c rfl) .z)) .z
        refine run_t (by kernel_rfl) ?_
        refine thenR ?_
        replace h := Option.some.inj h; subst h
        exact fin_r (by kernel_rfl) rfl
      · refine run_cF 27 (c30 16) (c30 19) j1_27 hc4 (by kernel_rfl) (by kernel_rfl) ?_
        refine run_k (by kernel_rfl) ?_
        refine thenN ?_
        refine run1 (c30 22) [] [0, 1, 2, 9] [] (zipE [0, 1, 2, 9] [.sl false (a0.map E_GTone), .sl false (a1.map E_GFigure), .i a2, .sl true []]) ⟨[], 0⟩ _ (by kernel_rfl) cj0 ?_
        refine run_s (c30 23) (c30 83) (by kernel_rfl) ?_
        refine run1 (c30 25) [] [0, 1, 2, 9, 10] [] (zipE [0, 1, 2, 9, 10] [.sl false (a0.map E_GTone), .sl false (a1.map E_GFigure), .i a2, .sl true [], .i 0]) ⟨[], 0⟩ _ (by kernel_rfl) cj0 ?_
        obtain ⟨l2x_9, hll2x, h⟩ := bindE h
        refine run_tq (fun (l2x_9 : (List Int)) => (zipE [9] [.ms 0 0 l2x_9.length])) (fun (l2x_9 : (List Int)) => ⟨[(0, .cells 1 (l2x_9.map AV.i))], 1⟩) (fun j => l2x_9 = j) (fun kl2 => ?_) ?_
        · refine run_b 0 (c30 26) (by kernel_rfl) ?_
          refine run_l (c30 27) _ hll2x (fun ((l2_9, l2_10) : (List Int × Int)) => (zipE [0, 1, 2, 9, 10] [.sl false (a0.map E_GTone), .sl false (a1.map E_GFigure), .i a2, .ms 0 0 l2_9.length, .i l2_10])) (fun ((l2_9, l2_10) : (List Int × Int)) => ⟨[(0, .cells 1 (l2_9.map AV.i))], 1⟩) [(0, 1000000)] (by intro i e; cases e <;> exact Nat.le_of_ble_eq_true rfl) (by kernel_rfl) (mkInto (ks := [0, 1, 2, 9, 10]) (ys := [.sl false (a0.map E_GTone), .sl false (a1.map E_GFigure), .i a2, .sl true [], .i 0]) (by kernel_rfl) (by kernel_rfl) (.k (.c (cleanMap _ _ cl_GTone)) (.k (.c (cleanMap _ _ cl_GFigure)) (.k (.c rfl) (.k (.n) (.k (.c rfl) .z))))) (.n rfl rfl rfl .z)) ?_
          rintro ⟨l2_9, l2_10⟩ out hl2 rl2
          refine run_s (c30 28) (c30 33) (by kernel_rfl) ?_
          refine run1 (c30 30) [{}, {}, { k := 1, n := a0.length }] [0, 1, 2, 9, 10, 31] [0] (zipE [0, 1, 2, 9, 10, 31] [.sl false (a0.map E_GTone), .sl false (a1.map E_GFigure), .i a2, .ms 0 0 l2_9.length, .i l2_10, .bool (decide (l2_10 < (a0.length : Int)))]) ⟨[(0, .cells 1 (l2_9.map AV.i))], 1⟩ _ (by kernel_rfl) (cj1 (mapLen a0 E_GTone)) ?_
          rcases iteE hl2 with ⟨hc5, hl2⟩ | ⟨hc5, hl2⟩
          · refine run_cT 31 (c30 31) (c30 32) (decide (l2_10 < (a0.length : Int))) hc5 (by kernel_rfl) (by kernel_rfl) ?_
            refine run_k (by kernel_rfl) ?_
            refine thenN ?_
            refine run_s (c30 34) (c30 82) (by kernel_rfl) ?_
            refine run_b 1 (c30 35) (by kernel_rfl) ?_
            refine run1 (c30 37) [] [0, 1, 2, 9, 10, 11] [0] (zipE [0, 1, 2, 9, 10, 11] [.sl false (a0.map E_GTone), .sl false (a1.map E_GFigure), .i a2, .ms 0 0 l2_9.length, .i l2_10, .i 0]) ⟨[(0, .cells 1 (l2_9.map AV.i))], 1⟩ _ (by kernel_rfl) cj0 ?_
            refine run_s (c30 38) (c30 81) (by kernel_rfl) ?_
            refine run1 (c30 40) [{}, { k := 1, n := a1.length }] [0, 1, 2, 9, 10, 11, 12] [0] (zipE [0, 1, 2, 9, 10, 11, 12] [.sl false (a0.map E_GTone), .sl false (a1.map E_GFigure), .i a2, .ms 0 0 l2_9.length, .i l2_10, .i 0, .i (a1.length : Int)]) ⟨[(0, .cells 1 (l2_9.map AV.i))], 1⟩ _ (by kernel_rfl) (cj1 (mapLen a1 E_GFigure)) ?_
            obtain ⟨l3x_11, hll3x, hl2⟩ := bindE hl2
            refine run_tq (fun (l3x_11 : Int) => (zipE [0, 1, 2, 9, 10, 11] [.sl false (a0.map E_GTone), .sl false (a1.map E_GFigure), .i a2, .ms 0 0 l2_9.length, .i l2_10, .i l3x_11])) (fun (l3x_11 : Int) => ⟨[(0, .cells 1 (l2_9.map AV.i))], 1⟩) (fun j => l3x_11 = j) (fun kl3 => ?_) ?_
            · refine run_b 2 (c30 41) (by kernel_rfl) ?_
              refine run_l (c30 42) _ hll3x (fun ((l3_11, l3_12) : (Int × Int)) => (zipE [0, 1, 2, 9, 10, 11, 12] [.sl false (a0.map E_GTone), .sl false (a1.map E_GFigure), .i a2, .ms 0 0 l2_9.length, .i l2_10, .i l3_11, .i l3_12])) (fun ((l3_11, l3_12) : (Int × Int)) => ⟨[(0, .cells 1 (l2_9.map AV.i))], 1⟩) [] (by intro i e; cases e <;> exact Nat.le_of_ble_eq_true rfl) (by kernel_rfl) (mkInto (ks := [0, 1, 2, 9, 10, 11, 12]) (ys := [.sl false (a0.map E_GTone), .sl false (a1.map E_GFigure), .i a2, .ms 0 0 l2_9.length, .i l2_10, .i 0, .i (a1.length : Int)]) (by kernel_rfl) (by kernel_rfl) (.k (.c (cleanMap _ _ cl_GTone)) (.k (.c (cleanMap _ _ cl_GFigure)) (.k (.c rfl) (.k (.ms rfl rfl) (.k (.c rfl) (.k (.c rfl) (.k (.c rfl) .z))))))) (.k (x' := .cells 1 (l2_9.map AV.i)) (by kernel_rfl) (.cells (.r (cleanMap _ _ cl_i))) .z)) ?_
              rintro ⟨l3_11, l3_12⟩ out hl3 rl3
              refine run_s (c30 43) (c30 48) (by kernel_rfl) ?_
              refine run1 (c30 45) [] [0, 1, 2, 9, 10, 11, 12, 37] [0] (zipE [0, 1, 2, 9, 10, 11, 12, 37] [.sl false (a0.map E_GTone), .sl false (a1.map E_GFigure), .i a2, .ms 0 0 l2_9.length, .i l2_10, .i l3_11, .i l3_12, .bool (decide (1 ≤ l3_12))]) ⟨[(0, .cells 1 (l2_9.map AV.i))], 1⟩ _ (by kernel_rfl) cj0 ?_
              rcases iteE hl3 with ⟨hc6, hl3⟩ | ⟨hc6, hl3⟩
              · refine run_cT 37 (c30 46) (c30 47) (decide (1 ≤ l3_12)) hc6 (by kernel_rfl) (by kernel_rfl) ?_
                refine run_k (by kernel_rfl) ?_
                refine thenN ?_
                obtain ⟨j4_11, hj4, hl3⟩ := bindE hl3
                refine run_jq (c30 49) (c30 80) (fun (j4_11 : Int) => (zipE [0, 1, 2, 9, 10, 11, 12] [.sl false (a0.map E_GTone), .sl false (a1.map E_GFigure), .i a2, .ms 0 0 l2_9.length, .i l2_10, .i j4_11, .i l3_12])) (fun (j4_11 : Int) => ⟨[(0, .cells 1 (l2_9.map AV.i))], 1⟩) (fun j => j4_11 = j) (by kernel_rfl) (fun kj4 => ?_) ?_
                · refine run_b 3 (c30 50) (by kernel_rfl) ?_
                  refine run_s (c30 51) (c30 56) (by kernel_rfl) ?_
                  obtain ⟨y7, hy7, hj4⟩ := bindE hj4
                  obtain ⟨r8, hr8, hj4⟩ := bindE hj4
                  refine run1 (c30 53) [{}, {}, {}, {}, { k := 1, x := E_GFigure y7 }, {}, {}, { c := some (.bool r8, ⟨[(0, .cells 1 (l2_9.map AV.i))], 1⟩) }] [0, 1, 2, 9, 10, 11, 12, 48] [0] (zipE [0, 1, 2, 9, 10, 11, 12, 48] [.sl false (a0.map E_GTone), .sl false (a1.map E_GFigure), .i a2, .ms 0 0 l2_9.length, .i l2_10, .i l3_11, .i l3_12, .bool (!r8)]) ⟨[(0, .cells 1 (l2_9.map AV.i))], 1⟩ _ (by kernel_rfl) (cjC ((ixE hy7).1) (cjC (mapGet E_GFigure (ixE hy7).2) (cj1 (f61_ok a0 y7 l2_10 _ hr8 ⟨[(0, .cells 1 (l2_9.map AV.i))], 1⟩)))) ?_
                  rcases iteE hj4 with ⟨hc9, hj4⟩ | ⟨hc9, hj4⟩
                  · refine run_cT 48 (c30 54) (c30 55) (!r8) hc9 (by kernel_rfl) (by kernel_rfl) ?_
                    replace hj4 := Option.some.inj hj4; subst hj4
                    refine awp_p [0, 1, 2, 9, 10, 11, 12] [0] (zipE [0, 1, 2, 9, 10, 11, 12] [.sl false (a0.map E_GTone), .sl false (a1.map E_GFigure), .i a2, .ms 0 0 l2_9.length, .i l2_10, .i l3_11, .i l3_12]) ⟨[(0, .cells 1 (l2_9.map AV.i))], 1⟩ (by kernel_rfl) (?_)
                    refine run_e 3 (by kernel_rfl) ?_
                    refine thenE ?_
                    refine inbE ?_
                    refine thenN ?_
                    exact kj4 l3_11 rfl
                  · refine run_cF 48 (c30 54) (c30 55) (!r8) hc9 (by kernel_rfl) (by kernel_rfl) ?_
                    refine run_k (by kernel_rfl) ?_
                    refine thenN ?_
                    refine run1 (c30 58) [] [0, 1, 2, 9, 10, 11, 12, 13] [0] (zipE [0, 1, 2, 9, 10, 11, 12, 13] [.sl false (a0.map E_GTone), .sl false (a1.map E_GFigure), .i a2, .ms 0 0 l2_9.length, .i l2_10, .i l3_11, .i l3_12, .bool true]) ⟨[(0, .cells 1 (l2_9.map AV.i))], 1⟩ _ (by kernel_rfl) cj0 ?_
                    obtain ⟨y10, hy10, hj4⟩ := bindE hj4
                    obtain ⟨r11, hr11, hj4⟩ := bindE hj4
                    refine yun1 (c30 60) [[], [], [0, 1], [0, 1, 2], [], [], [5], [4, 5, 6], [4, 5, 6, 7], [0, 1, 2, 3, 4, 5, 6, 7, 8], [0, 1, 2, 3, 4, 5, 6, 7, 8, 9]] [.light 0 false, .light 1 false, .light 2 false, .light 3 false, .light 4 false, .light 5 false, .light 6 false, .light 7 false, .light 8 false, .heavy 9 [], .light 10 false] [{}, {}, { k := 1, x := E_GTone y10 }, {}, {}, {}, {}, { k := 1, x := E_GFigure y7 }, {}, { c := some (.sl false (r11.map E_GTone), ⟨[(0, .cells 1 (l2_9.map AV.i))], 1⟩) }] [0, 1, 2, 9, 10, 11, 12, 13, 14] [0] (zipE [0, 1, 2, 9, 10, 11, 12, 13, 14] [.sl false (a0.map E_GTone), .sl false (a1.map E_GFigure), .i a2, .ms 0 0 l2_9.length, .i l2_10, .i l3_11, .i l3_12, .bool true, .sl false (r11.map E_GTone)]) ⟨[(0, .cells 1 (l2_9.map AV.i))], 1⟩ _ (by kernel_rfl) (cjC ((ixE hy10).1) (cjC (mapGet E_GTone (ixE hy10).2) (cjC ((ixE hy7).1) (cjC (mapGet E_GFigure (ixE hy7).2) (cj1 (f66_ok y10 y7 _ hr11 ⟨[(0, .cells 1 (l2_9.map AV.i))], 1⟩)))))) ?_
                    refine run_s (c30 61) (c30 75) (by kernel_rfl) ?_
                    refine run1 (c30 63) [] [0, 1, 2, 9, 10, 11, 12, 13, 14, 15] [0] (zipE [0, 1, 2, 9, 10, 11, 12, 13, 14, 15] [.sl false (a0.map E_GTone), .sl false (a1.map E_GFigure), .i a2, .ms 0 0 l2_9.length, .i l2_10, .i l3_11, .i l3_12, .bool true, .sl false (r11.map E_GTone), .i 0]) ⟨[(0, .cells 1 (l2_9.map AV.i))], 1⟩ _ (by kernel_rfl) cj0 ?_
                    obtain ⟨l5x_13, hll5x, hj4⟩ := bindE hj4
                    refine run_tq (fun (l5x_13 : Bool) => (zipE [0, 1, 2, 9, 10, 11, 12, 13] [.sl false (a0.map E_GTone), .sl false (a1.map E_GFigure), .i a2, .ms 0 0 l2_9.length, .i l2_10, .i l3_11, .i l3_12, .bool l5x_13])) (fun (l5x_13 : Bool) => ⟨[(0, .cells 1 (l2_9.map AV.i))], 1⟩) (fun j => l5x_13 = j) (fun kl5 => ?_) ?_
                    · refine run_b 4 (c30 64) (by kernel_rfl) ?_
                      refine run_l (c30 65) _ hll5x (fun ((l5_13, l5_15) : (Bool × Int)) => (zipE [0, 1, 2, 9, 10, 11, 12, 13, 14, 15] [.sl false (a0.map E_GTone), .sl false (a1.map E_GFigure), .i a2, .ms 0 0 l2_9.length, .i l2_10, .i l3_11, .i l3_12, .bool l5_13, .sl false (r11.map E_GTone), .i l5_15])) (fun ((l5_13, l5_15) : (Bool × Int)) => ⟨[(0, .cells 1 (l2_9.map AV.i))], 1⟩) [] (by intro i e; cases e <;> exact Nat.le_of_ble_eq_true rfl) (by kernel_rfl) (mkInto (ks := [0, 1, 2, 9, 10, 11, 12, 13, 14, 15]) (ys := [.sl false (a0.map E_GTone), .sl false (a1.map E_GFigure), .i a2, .ms 0 0 l2_9.length, .i l2_10, .i l3_11, .i l3_12, .bool true, .sl false (r11.map E_GTone), .i 0]) (by kernel_rfl) (by kernel_rfl) (.k (.c (cleanMap _ _ cl_GTone)) (.k (.c (cleanMap _ _ cl_GFigure)) (.k (.c rfl) (.k (.ms rfl rfl) (.k (.c rfl) (.k (.c rfl) (.k (.c rfl) (.k (.c rfl) (.k (.c (cleanMap _ _ cl_GTone)) (.k (.c rfl) .z)))))))))) (.k (x' := .cells 1 (l2_9.map AV.i)) (by kernel_rfl) (.cells (.r (cleanMap _ _ cl_i))) .z)) ?_
                      rintro ⟨l5_13, l5_15⟩ out hl5 rl5
                      refine run_s (c30 66) (c30 71) (by kernel_rfl) ?_
                      refine run1 (c30 68) [{}, {}, { k := 1, n := r11.length }] [0, 1, 2, 9, 10, 11, 12, 13, 14, 15, 62] [0] (zipE [0, 1, 2, 9, 10, 11, 12, 13, 14, 15, 62] [.sl false (a0.map E_GTone), .sl false (a1.map E_GFigure), .i a2, .ms 0 0 l2_9.length, .i l2_10, .i l3_11, .i l3_12, .bool l5_13, .sl false (r11.map E_GTone), .i l5_15, .bool (decide (l5_15 < (r11.length : Int)))]) ⟨[(0, .cells 1 (l2_9.map AV.i))], 1⟩ _ (by kernel_rfl) (cj1 (mapLen r11 E_GTone)) ?_
                      rcases iteE hl5 with ⟨hc12, hl5⟩ | ⟨hc12, hl5⟩
                      · refine run_cT 62 (c30 69) (c30 70) (decide (l5_15 < (r11.length : Int))) hc12 (by kernel_rfl) (by kernel_rfl) ?_
                        refine run_k (by kernel_rfl) ?_
                        refine thenN ?_
                        refine run_s (c30 72) (c30 74) (by kernel_rfl) ?_
                        refine run_b 5 (c30 73) (by kernel_rfl) ?_
                        obtain ⟨j6_13, hj6, hl5⟩ := bindE hl5
                        refine run_tq (fun (j6_13 : Bool) => (zipE [0, 1, 2, 9, 10, 11, 12, 13, 14, 15] [.sl false (a0.map E_GTone), .sl false (a1.map E_GFigure), .i a2, .ms 0 0 l2_9.length, .i l2_10, .i l3_11, .i l3_12, .bool j6_13, .sl false (r11.map E_GTone), .i l5_15])) (fun (j6_13 : Bool) => ⟨[(0, .cells 1 (l2_9.map AV.i))], 1⟩) (fun j => j6_13 = j) (fun kj6 => ?_) ?_
                        · rcases iteE hj6 with ⟨hc13, hj6⟩ | ⟨hc13, hj6⟩
                          · obtain ⟨y14, hy14, hj6⟩ := bindE hj6
                            replace hj6 := Option.some.inj hj6; subst hj6
                            exact yun0 [[], [0], [0, 1], [0, 1], [0, 1, 2, 3], [0, 1, 2, 3, 4], [0, 1, 2, 3, 4, 5], [0, 1], [0, 1], [0, 1, 7, 8], [0, 1, 7, 8, 9], [0, 1, 7, 8, 9, 10], [0, 1, 2, 3, 4, 5, 6, 7, 8, 9, 10, 11], [0, 1], [0, 1, 2, 3, 4, 5, 6, 7, 8, 9, 10, 11, 12, 13], [0, 1, 2, 3, 4, 5, 6, 7, 8, 9, 10, 11, 12, 13, 14], [0, 1, 2, 3, 4, 5, 6, 7, 8, 9, 10, 11, 12, 13, 14, 15]] [.light 0 false, .light 1 false, .light 2 false, .light 3 false, .light 4 false, .light 5 false, .light 6 false, .light 7 false, .light 8 false, .light 9 false, .light 10 false, .light 11 false, .light 12 false, .light 13 false, .light 14 false, .light 15 false, .light 16 false] [{}, {}, {}, {}, { k := 1, x := E_GTone y14 }, {}, {}, {}, {}, { k := 1, x := E_GTone y14 }] [0, 1, 2, 9, 10, 11, 12, 13, 14, 15] [0] (zipE [0, 1, 2, 9, 10, 11, 12, 13, 14, 15] [.sl false (a0.map E_GTone), .sl false (a1.map E_GFigure), .i a2, .ms 0 0 l2_9.length, .i l2_10, .i l3_11, .i l3_12, .bool (decide (a2 ≤ (wr (y14.to_ - y14.from_)))), .sl false (r11.map E_GTone), .i l5_15]) ⟨[(0, .cells 1 (l2_9.map AV.i))], 1⟩ _ (by kernel_rfl) (cjC (hc13) (cjC (Eq.refl true) (cjC (Eq.refl true) (cjC ((ixE hy14).1) (cjC (mapGet E_GTone (ixE hy14).2) (cjC (Eq.refl true) (cjC (Eq.refl true) (cjC (Eq.refl true) (cjC (Eq.refl true) (cjC (Eq.refl true) (cjC ((ixE hy14).1) (cjC (mapGet E_GTone (ixE hy14).2) (cjC (Eq.refl true) (cjC (Eq.refl true) (cjC (Eq.refl true) (cjC (Eq.refl true) (cj1 (Eq.refl true)))))))))))))))))) (kj6 (decide (a2 ≤ (wr (y14.to_ - y14.from_)))) rfl)
                          · replace hj6 := Option.some.inj hj6; subst hj6
                            exact yun0 [[], [0], [0, 1], [0, 1], [0, 1, 2, 3], [0, 1, 2, 3, 4], [0, 1, 2, 3, 4, 5], [0, 1], [0, 1], [0, 1, 7, 8], [0, 1, 7, 8, 9], [0, 1, 7, 8, 9, 10], [0, 1, 2, 3, 4, 5, 6, 7, 8, 9, 10, 11], [0, 1], [0, 1, 2, 3, 4, 5, 6, 7, 8, 9, 10, 11, 12, 13], [0, 1, 2, 3, 4, 5, 6, 7, 8, 9, 10, 11, 12, 13, 14], [0, 1, 2, 3, 4, 5, 6, 7, 8, 9, 10, 11, 12, 13, 14, 15]] [.light 0 false, .light 1 false, .light 2 false, .light 3 false, .light 4 false, .light 5 false, .light 6 false, .light 7 false, .light 8 false, .light 9 false, .light 10 false, .light 11 false, .light 12 false, .light 13 false, .light 14 false, .light 15 false, .light 16 false] [{}, {}, { g := false }, { g := false }, { g := false }, { g := false }, { g := false }, { g := false }, { g := false }, { g := false }, { g := false }, { g := false }, { g := false }, { g := false }, { g := false }] [0, 1, 2, 9, 10, 11, 12, 13, 14, 15] [0] (zipE [0, 1, 2, 9, 10, 11, 12, 13, 14, 15] [.sl false (a0.map E_GTone), .sl false (a1.map E_GFigure), .i a2, .ms 0 0 l2_9.length, .i l2_10, .i l3_11, .i l3_12, .bool false, .sl false (r11.map E_GTone), .i l5_15]) ⟨[(0, .cells 1 (l2_9.map AV.i))], 1⟩ _ (by kernel_rfl) (cjC (hc13) (cjC (Eq.refl false) (cjC (Eq.refl false) (cjC (Eq.refl false) (cjC (Eq.refl false) (cjC (Eq.refl false) (cjC (Eq.refl false) (cjC (Eq.refl false) (cjC (Eq.refl false) (cjC (Eq.refl false) (cjC (Eq.refl false) (cjC (Eq.refl false) (cj1 (Eq.refl false)))))))))))))) (kj6 false rfl)
                        · rintro _ rfl
                          refine inbN ?_
                          refine thenN ?_
                          refine run0 [] [0, 1, 2, 9, 10, 11, 12, 13, 14, 15] [0] (zipE [0, 1, 2, 9, 10, 11, 12, 13, 14, 15] [.sl false (a0.map E_GTone), .sl false (a1.map E_GFigure), .i a2, .ms 0 0 l2_9.length, .i l2_10, .i l3_11, .i l3_12, .bool j6_13, .sl false (r11.map E_GTone), .i (wr (l5_15 + 1))]) ⟨[(0, .cells 1 (l2_9.map AV.i))], 1⟩ _ (by kernel_rfl) cj0 ?_
                          replace hl5 := Option.some.inj hl5; subst hl5
                          exact ⟨_, rfl, pi [], mkInto (ks := [0, 1, 2, 9, 10, 11, 12, 13, 14, 15]) (ys := [.sl false (a0.map E_GTone), .sl false (a1.map E_GFigure), .i a2, .ms 0 0 l2_9.length, .i l2_10, .i l3_11, .i l3_12, .bool j6_13, .sl false (r11.map E_GTone), .i (wr (l5_15 + 1))]) (by kernel_rfl) (by kernel_rfl) (.k (.c (cleanMap _ _ cl_GTone)) (.k (.c (cleanMap _ _ cl_GFigure)) (.k (.c rfl) (.k (.ms rfl rfl) (.k (.c rfl) (.k (.c rfl) (.k (.c rfl) (.k (.c rfl) (.k (.c (cleanMap _ _ cl_GTone)) (.k (.c rfl) .z)))))))))) (.k (x' := .cells 1 (l2_9.map AV.i)) (by kernel_rfl) (.cells (.r (cleanMap _ _ cl_i))) .z)⟩
                      · refine run_cF 62 (c30 69) (c30 70) (decide (l5_15 < (r11.length : Int))) hc12 (by kernel_rfl) (by kernel_rfl) ?_
                        replace hl5 := Option.some.inj hl5; subst hl5
                        have hr := rl5 _ rfl
                        subst hr
                        refine awp_p [0, 1, 2, 9, 10, 11, 12, 13] [0] (zipE [0, 1, 2, 9, 10, 11, 12, 13] [.sl false (a0.map E_GTone), .sl false (a1.map E_GFigure), .i a2, .ms 0 0 l2_9.length, .i l2_10, .i l3_11, .i l3_12, .bool l5_13]) ⟨[(0, .cells 1 (l2_9.map AV.i))], 1⟩ (by kernel_rfl) (?_)
                        refine run_e 4 (by kernel_rfl) ?_
                        refine thenE ?_
                        refine ⟨⟨_, rfl⟩, ?_⟩
                        refine inbE ?_
                        exact kl5 l5_13 rfl
                    · rintro _ rfl
                      refine thenN ?_
                      refine run1 (c30 77) [] [0, 1, 2, 9, 10, 11, 12, 81] [0] (zipE [0, 1, 2, 9, 10, 11, 12, 81] [.sl false (a0.map E_GTone), .sl false (a1.map E_GFigure), .i a2, .ms 0 0 l2_9.length, .i l2_10, .i l3_11, .i l3_12, .bool l5x_13]) ⟨[(0, .cells 1 (l2_9.map AV.i))], 1⟩ _ (by kernel_rfl) cj0 ?_
                      rcases iteE hj4 with ⟨hc15, hj4⟩ | ⟨hc15, hj4⟩
                      · refine run_cT 81 (c30 78) (c30 79) l5x_13 hc15 (by kernel_rfl) (by kernel_rfl) ?_
                        refine run0 [] [0, 1, 2, 9, 10, 11, 12] [0] (zipE [0, 1, 2, 9, 10, 11, 12] [.sl false (a0.map E_GTone), .sl false (a1.map E_GFigure), .i a2, .ms 0 0 l2_9.length, .i l2_10, .i l3_12, .i l3_12]) ⟨[(0, .cells 1 (l2_9.map AV.i))], 1⟩ _ (by kernel_rfl) cj0 ?_
                        replace hj4 := Option.some.inj hj4; subst hj4
                        refine inbN ?_
                        refine thenN ?_
                        exact kj4 l3_12 rfl
                      · refine run_cF 81 (c30 78) (c30 79) l5x_13 hc15 (by kernel_rfl) (by kernel_rfl) ?_
                        replace hj4 := Option.some.inj hj4; subst hj4
                        refine awp_p [0, 1, 2, 9, 10, 11, 12] [0] (zipE [0, 1, 2, 9, 10, 11, 12] [.sl false (a0.map E_GTone), .sl false (a1.map E_GFigure), .i a2, .ms 0 0 l2_9.length, .i l2_10, .i l3_11, .i l3_12]) ⟨[(0, .cells 1 (l2_9.map AV.i))], 1⟩ (by kernel_rfl) (?_)
                        refine run_k (by kernel_rfl) ?_
                        refine inbN ?_
                        refine thenN ?_
                        exact kj4 l3_11 rfl
                · rintro _ rfl
                  refine run0 [] [0, 1, 2, 9, 10, 11, 12] [0] (zipE [0, 1, 2, 9, 10, 11, 12] [.sl false (a0.map E_GTone), .sl false (a1.map E_GFigure), .i a2, .ms 0 0 l2_9.length, .i l2_10, .i j4_11, .i (wr (l3_12 - 1))]) ⟨[(0, .cells 1 (l2_9.map AV.i))], 1⟩ _ (by kernel_rfl) cj0 ?_
                  replace hl3 := Option.some.inj hl3; subst hl3
                  exact ⟨_, rfl, pi [], mkInto (ks := [0, 1, 2, 9, 10, 11, 12]) (ys := [.sl false (a0.map E_GTone), .sl false (a1.map E_GFigure), .i a2, .ms 0 0 l2_9.length, .i l2_10, .i j4_11, .i (wr (l3_12 - 1))]) (by kernel_rfl) (by kernel_rfl) (.k (.c (cleanMap _ _ cl_GTone)) (.k (.c (cleanMap _ _ cl_GFigure)) (.k (.c rfl) (.k (.ms rfl rfl) (.k (.c rfl) (.k (.c rfl) (.k (.c rfl) .z))))))) (.k (x' := .cells 1 (l2_9.map AV.i)) (by kernel_rfl) (.cells (.r (cleanMap _ _ cl_i))) .z)⟩
              · refine run_cF 37 (c30 46) (c30 47) (decide (1 ≤ l3_12)) hc6 (by kernel_rfl) (by kernel_rfl) ?_
                replace hl3 := Option.some.inj hl3; subst hl3
                have hr := rl3 _ rfl
                subst hr
                refine awp_p [0, 1, 2, 9, 10, 11] [0] (zipE [0, 1, 2, 9, 10, 11] [.sl false (a0.map E_GTone), .sl false (a1.map E_GFigure), .i a2, .ms 0 0 l2_9.length, .i l2_10, .i l3_11]) ⟨[(0, .cells 1 (l2_9.map AV.i))], 1⟩ (by kernel_rfl) (?_)
                refine run_e 2 (by kernel_rfl) ?_
                refine thenE ?_
                refine ⟨⟨_, rfl⟩, ?_⟩
                refine inbE ?_
                exact kl3 l3_11 rfl
            · rintro _ rfl
              refine thenN ?_
              obtain ⟨hn16, hl2⟩ := needE hl2
              refine run0 [{}, {}, {}, { k := 1, n := (l2_9 ++ [l3x_11]).length, l := (l2_9 ++ [l3x_11]).map AV.i }] [0, 1, 2, 9, 10] [1] (zipE [0, 1, 2, 9, 10] [.sl false (a0.map E_GTone), .sl false (a1.map E_GFigure), .i a2, .ms 1 0 (l2_9 ++ [l3x_11]).length, .i l2_10]) ⟨[(1, .cells 1 ((l2_9 ++ [l3x_11]).map AV.i))], 2⟩ _ (by kernel_rfl) (cjC (@List.cons_ne_nil AV (.i l3x_11) []) (cjC (mLe l2_9 AV.i) (cjC (hn16) (cjC (lenA l2_9 ([l3x_11] : List Int)) (cjC (appA l2_9 ([l3x_11] : List Int) AV.i) (cj1 (fitsOne (P := Tryz.prog) (t := 3) (x := .i l3x_11) (r := []) (by kernel_rfl)))))))) ?_
              refine inbN ?_
              refine thenN ?_
              refine run0 [] [0, 1, 2, 9, 10] [1] (zipE [0, 1, 2, 9, 10] [.sl false (a0.map E_GTone), .sl false (a1.map E_GFigure), .i a2, .ms 1 0 (l2_9 ++ [l3x_11]).length, .i (wr (l2_10 + 1))]) ⟨[(1, .cells 1 ((l2_9 ++ [l3x_11]).map AV.i))], 2⟩ _ (by kernel_rfl) cj0 ?_
              replace hl2 := Option.some.inj hl2; subst hl2
              exact ⟨_, rfl, pi [(0, 1)], mkInto (ks := [0, 1, 2, 9, 10]) (ys := [.sl false (a0.map E_GTone), .sl false (a1.map E_GFigure), .i a2, .ms 1 0 (l2_9 ++ [l3x_11]).length, .i (wr (l2_10 + 1))]) (by kernel_rfl) (by kernel_rfl) (.k (.c (cleanMap _ _ cl_GTone)) (.k (.c (cleanMap _ _ cl_GFigure)) (.k (.c rfl) (.k (.ms rfl rfl) (.k (.c rfl) .z))))) (.k (x' := .cells 1 ((l2_9 ++ [l3x_11]).map AV.i)) (by kernel_rfl) (.cells (.r (cleanMap _ _ cl_i))) .z)⟩
          · refine run_cF 31 (c30 31) (c30 32) (decide (l2_10 < (a0.length : Int))) hc5 (by kernel_rfl) (by kernel_rfl) ?_
            replace hl2 := Option.some.inj hl2; subst hl2
            have hr := rl2 _ rfl
            subst hr
            refine awp_p [9] [0] (zipE [9] [.ms 0 0 l2_9.length]) ⟨[(0, .cells 1 (l2_9.map AV.i))], 1⟩ (by kernel_rfl) (?_)
            refine run_e 0 (by kernel_rfl) ?_
            refine thenE ?_
            refine ⟨⟨_, rfl⟩, ?_⟩
            refine inbE ?_
            exact kl2 l2_9 rfl
        · rintro _ rfl
          refine thenN ?_
          refine run1 (c30 85) [] [6, 7] [0] (zipE [6, 7] [.ms 0 0 l2x_9.length, .i 0]) ⟨[(0, .cells 1 (l2x_9.map AV.i))], 1⟩ _ (by kernel_rfl) cj0 ?_
          refine run_z 0 1 (l2x_9.map AV.i) [6, 7] [.ms 0 0 l2x_9.length, .i 0] (xs := [.sl false (l2x_9.map AV.i), .i 0]) (S2 := ⟨[], 1⟩) ?_ (by kernel_rfl) (by kernel_rfl) (.k (.m (mLe l2x_9 AV.i) (mapAll l2x_9 AV.i)) (.k (.r _) .z)) .z rfl rfl
          refine run_t (by kernel_rfl) ?_
          replace h := Option.some.inj h; subst h
          exact fin_r (by kernel_rfl) rfl

/-- theorbo.theorbolaw08.IntabulateAdorns -/
def f7 (a0 : List GTone) (a1 : List GFigure) (a2 : Int) : Option Bool := (f29 a0 a1 a2).bind fun r1 => (f30 a0 a1 a2).bind fun r2 => ((bif (decide (r1.2 = r2.2)) then ((f18 r1.1 r2.1).bind fun r4 => bif r4 then ((f13).bind fun r6 => some r6) else (some false)) else (some false)) : Option Bool).bind fun (j1_6 : Bool) => some j1_6
theorem f7_ok (a0 : List GTone) (a1 : List GFigure) (a2 : Int) (r : Bool) (h : f7 a0 a1 a2 = some r) : APure Tryz.prog 7 [.sl false (a0.map E_GTone), .sl false (a1.map E_GFigure), .i a2] (.bool r) := by
  refine apure (clK (cleanMap a0 _ cl_GTone) (clK (cleanMap a1 _ cl_GFigure) (clK rfl clZ))) rfl ?_
  refine run_f 36 [.tmp 6] (c7 0) (zipE [0, 1, 2] [.sl false (a0.map E_GTone), .sl false (a1.map E_GFigure), .i a2]) (by kernel_rfl) (by kernel_rfl) (by kernel_rfl) rfl ?_
  unfold f7 at h
  refine run1 (c7 2) [] [0, 1, 2] [] (zipE [0, 1, 2] [.sl false (a0.map E_GTone), .sl false (a1.map E_GFigure), .i a2]) ⟨[], 0⟩ _ (by kernel_rfl) cj0 ?_
  obtain ⟨r1, hr1, h⟩ := bindE h
  refine run1 (c7 4) [{}, {}, {}, { c := some (.tup [.sl false (r1.1.map AV.i), .i r1.2], ⟨[], 0⟩) }] [0, 1, 2, 7, 8] [] (zipE [0, 1, 2, 7, 8] [.sl false (a0.map E_GTone), .sl false (a1.map E_GFigure), .i a2, .sl false (r1.1.map AV.i), .i r1.2]) ⟨[], 0⟩ _ (by kernel_rfl) (cj1 (f29_ok a0 a1 a2 _ hr1 ⟨[], 0⟩)) ?_
  obtain ⟨r2, hr2, h⟩ := bindE h
  refine run1 (c7 6) [{}, {}, {}, { c := some (.tup [.sl false (r2.1.map AV.i), .i r2.2], ⟨[], 0⟩) }] [7, 8, 9, 10] [] (zipE [7, 8, 9, 10] [.sl false (r1.1.map AV.i), .i r1.2, .sl false (r2.1.map AV.i), .i r2.2]) ⟨[], 0⟩ _ (by kernel_rfl) (cj1 (f30_ok a0 a1 a2 _ hr2 ⟨[], 0⟩)) ?_
  obtain ⟨j1_6, hj1, h⟩ := bindE h
  refine run_gq (c7 8) (fun (j1_6 : Bool) => (zipE [6] [.bool j1_6])) (fun (j1_6 : Bool) => ⟨[], 0⟩) (fun j => j1_6 = j) (fun kj1 => ?_) ?_
  · rcases iteE hj1 with ⟨hc3, hj1⟩ | ⟨hc3, hj1⟩
    · obtain ⟨r4, hr4, hj1⟩ := bindE hj1
      rcases iteE hj1 with ⟨hc5, hj1⟩ | ⟨hc5, hj1⟩
      · obtain ⟨r6, hr6, hj1⟩ := bindE hj1
        replace hj1 := Option.some.inj hj1; subst hj1
        exact run1 (c7 8) [{}, {}, {}, {}, {}, {}, { c := some (.bool r4, ⟨[], 0⟩) }, { k := 1, b := true }, {}, { c := some (.bool r6, ⟨[], 0⟩) }, { k := 1, b := true }] [6] [] (zipE [6] [.bool r6]) ⟨[], 0⟩ _ (by kernel_rfl) (cjC (hc3) (cjC (hc3) (cjC (hc3) (cjC (f18_ok r1.1 r2.1 _ hr4 ⟨[], 0⟩) (cjC (hc3) (cjC (hc5) (cjC (f13_ok  _ hr6 ⟨[], 0⟩) (cj1 (hc5))))))))) (kj1 r6 rfl)
      · replace hj1 := Option.some.inj hj1; subst hj1
        exact run1 (c7 8) [{}, {}, {}, {}, {}, {}, { c := some (.bool r4, ⟨[], 0⟩) }, { k := 1, b := true }, {}, { g := false }, { k := 1, b := false }] [6] [] (zipE [6] [.bool false]) ⟨[], 0⟩ _ (by kernel_rfl) (cjC (hc3) (cjC (hc3) (cjC (hc3) (cjC (f18_ok r1.1 r2.1 _ hr4 ⟨[], 0⟩) (cjC (hc3) (cjC (hc5) (cj1 (hc5)))))))) (kj1 false rfl)
    · replace hj1 := Option.some.inj hj1; subst hj1
      exact run1 (c7 8) [{}, {}, {}, {}, { g := false }, { g := false }, { g := false }, { k := 1, b := false }, {}, { g := false }] [6] [] (zipE [6] [.bool false]) ⟨[], 0⟩ _ (by kernel_rfl) (cjC (hc3) (cjC (hc3) (cjC (hc3) (cjC (hc3) (cj1 (Eq.refl false)))))) (kj1 false rfl)
  · rintro _ rfl
    refine run_t (by kernel_rfl) ?_
    replace h := Option.some.inj h; subst h
    exact fin_r (by kernel_rfl) rfl

end Go.Proofs.YtplpfocfcppajaaGreat
