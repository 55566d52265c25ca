/-
  Functions of the program as Lean functions, and the walks. Written by a program of ours.
-/
import Derived.Test.YtplpfocfcppajaaGreatV6
import Derived.Test.YtplpfocfcppajaaGreatV33
import Derived.Test.YtplpfocfcppajaaGreatV4
namespace Go.Proofs.YtplpfocfcppajaaGreat
open Go Go.Am
set_option maxRecDepth 100000
set_option linter.all false
noncomputable def c52 (k : Nat) : Code := nthC (subs (Tryz.f52.body.getD .skip)) k
noncomputable def c51 (k : Nat) : Code := nthC (subs (Tryz.f51.body.getD .skip)) k
noncomputable def c50 (k : Nat) : Code := nthC (subs (Tryz.f50.body.getD .skip)) k
noncomputable def c49 (k : Nat) : Code := nthC (subs (Tryz.f49.body.getD .skip)) k
noncomputable def c54 (k : Nat) : Code := nthC (subs (Tryz.f54.body.getD .skip)) k
noncomputable def c21 (k : Nat) : Code := nthC (subs (Tryz.f21.body.getD .skip)) k
noncomputable def c55 (k : Nat) : Code := nthC (subs (Tryz.f55.body.getD .skip)) k
noncomputable def c22 (k : Nat) : Code := nthC (subs (Tryz.f22.body.getD .skip)) k
noncomputable def c23 (k : Nat) : Code := nthC (subs (Tryz.f23.body.getD .skip)) k
noncomputable def c44 (k : Nat) : Code := nthC (subs (Tryz.f44.body.getD .skip)) k
noncomputable def c156 (k : Nat) : Code := nthC (subs (Tryz.f156.body.getD .skip)) k
noncomputable def c121 (k : Nat) : Code := nthC (subs (Tryz.f121.body.getD .skip)) k
noncomputable def c87 (k : Nat) : Code := nthC (subs (Tryz.f87.body.getD .skip)) k
noncomputable def c45 (k : Nat) : Code := nthC (subs (Tryz.f45.body.getD .skip)) k
noncomputable def c24 (k : Nat) : Code := nthC (subs (Tryz.f24.body.getD .skip)) k
noncomputable def c5 (k : Nat) : Code := nthC (subs (Tryz.f5.body.getD .skip)) k

/-- theorbo.intabulate.Transpose$1$1 -/
def f52 (a0 : GTone) (a1 : Int) : Option Int := some (wr (a0.pitch + a1))
theorem f52_ok (a0 : GTone) (a1 : Int) (r : Int) (h : f52 a0 a1 = some r) : ACalls Tryz.prog 52 [E_GTone a0, .mp 0 0 0] ⟨[(0, .cells 1 [.i a1])], 1⟩ (fun y t => y = .agg [.i r, .i a0.from_, .i a0.to_] ∧ t = ⟨[(0, .cells 1 [.i a1])], 3⟩) := by
  refine run_f 13 [.cell 3 53] (c52 0) (zipE [0, 1] [E_GTone a0, .mp 0 0 0]) (by kernel_rfl) (by kernel_rfl) (by kernel_rfl) rfl ?_
  unfold f52 at h
  refine run1 (c52 2) [] [1, 2, 3] [2, 1, 0] (zipE [1, 2, 3] [.mp 0 0 0, .mp 1 0 0, .mp 2 0 0]) ⟨[(2, .cells 3 [.agg [.i 0, .i 0, .i 0]]), (1, .cells 3 [E_GTone a0]), (0, .cells 1 [.i a1])], 3⟩ _ (by kernel_rfl) cj0 ?_
  refine run1 (c52 4) [] [3] [2, 0] (zipE [3] [.mp 2 0 0]) ⟨[(2, .cells 3 [.agg [.i (wr (a0.pitch + a1)), .i a0.from_, .i a0.to_]]), (0, .cells 1 [.i a1])], 3⟩ _ (by kernel_rfl) cj0 ?_
  refine run_t (by kernel_rfl) ?_
  replace h := Option.some.inj h; subst h
  exact fin_p [0] ⟨[(0, .cells 1 [.i a1])], 3⟩ (by kernel_rfl) (by kernel_rfl) rfl ⟨rfl, rfl⟩

/-- theorbo.intabulate.each[theorbo.api.Tone,theorbo.api.Tone] -/
def f51 (a0 : List GTone) (a1_0 : Int) : Option (List GTone) := need (0 ≤ (a0.length : Int)) <| need ((a0.length : Int) ≤ (maxElems : Int)) <| (loopN (σ := (List GTone × Int)) (τ := (List GTone)) (fun ((l1_5, l1_13) : (List GTone × Int)) => bif (decide (l1_13 < (a0.length : Int))) then ((ix a0 l1_13).bind fun y4 => (f52 y4 a1_0).bind fun r5 => need (l1_5.length + 1 ≤ maxElems) <| some (.inl ((l1_5 ++ [(⟨r5, y4.from_, y4.to_⟩ : GTone)]), (wr (l1_13 + 1))))) else (some (.inr l1_5))) FUEL (([] : List GTone), 0)).bind fun (l1x_5 : (List GTone)) => some l1x_5
theorem f51_ok (a0 : List GTone) (a1_0 : Int) (r : (List GTone)) (h : f51 a0 a1_0 = some r) : ACalls Tryz.prog 51 [.sl false (a0.map E_GTone), .fn 52 [.mp 0 0 0]] ⟨[(0, .cells 1 [.i a1_0])], 1⟩ (fun y t => y = .sl false (r.map E_GTone) ∧ t = ⟨[(0, .cells 1 [.i a1_0])], 3⟩) := by
  refine run_f 25 [.tmp 4] (c51 0) (zipE [0, 1] [.sl false (a0.map E_GTone), .fn 52 [.mp 0 0 0]]) (by kernel_rfl) (by kernel_rfl) (by kernel_rfl) rfl ?_
  unfold f51 at h
  refine run1 (c51 2) [] [0, 1] [0] (zipE [0, 1] [.sl false (a0.map E_GTone), .fn 52 [.mp 0 0 0]]) ⟨[(0, .cells 1 [.i a1_0])], 1⟩ _ (by kernel_rfl) cj0 ?_
  obtain ⟨hn1, h⟩ := needE h
  obtain ⟨hn2, h⟩ := needE h
  refine run1 (c51 4) [{}, { k := 1, n := a0.length }, { k := 1, n := ([] : List GTone).length, l := ([] : List GTone).map E_GTone }] [0, 1, 5] [1, 0] (zipE [0, 1, 5] [.sl false (a0.map E_GTone), .fn 52 [.mp 0 0 0], .ms 1 0 ([] : List GTone).length]) ⟨[(1, .cells 3 (([] : List GTone).map E_GTone)), (0, .cells 1 [.i a1_0])], 2⟩ _ (by kernel_rfl) (cjC (mapLen a0 E_GTone) (cjC (Int.le_refl 0) (cjC (hn1) (cjC (hn2) (cjC (Eq.refl (0 : Nat)) (cj1 (Eq.refl (([] : List GTone).map E_GTone)))))))) ?_
  refine run_s (c51 5) (c51 21) (by kernel_rfl) ?_
  refine run1 (c51 7) [{}, { k := 1, n := a0.length }] [1, 5, 11, 12, 13] [1, 0] (zipE [1, 5, 11, 12, 13] [.fn 52 [.mp 0 0 0], .ms 1 0 ([] : List GTone).length, .sl false (a0.map E_GTone), .i (a0.length : Int), .i 0]) ⟨[(1, .cells 3 (([] : List GTone).map E_GTone)), (0, .cells 1 [.i a1_0])], 2⟩ _ (by kernel_rfl) (cj1 (mapLen a0 E_GTone)) ?_
  obtain ⟨l1x_5, hll1x, h⟩ := bindE h
  refine run_tq (fun (l1x_5 : (List GTone)) => (zipE [5] [.ms 2 0 l1x_5.length])) (fun (l1x_5 : (List GTone)) => ⟨[(2, .cells 3 (l1x_5.map E_GTone)), (0, .cells 1 [.i a1_0])], 3⟩) (fun j => l1x_5 = j) (fun kl1 => ?_) ?_
  · refine run_b 0 (c51 8) (by kernel_rfl) ?_
    refine run_l (c51 9) _ hll1x (fun ((l1_5, l1_13) : (List GTone × Int)) => (zipE [1, 5, 11, 12, 13] [.fn 52 [.mp 0 0 0], .ms 2 0 l1_5.length, .sl false (a0.map E_GTone), .i (a0.length : Int), .i l1_13])) (fun ((l1_5, l1_13) : (List GTone × Int)) => ⟨[(2, .cells 3 (l1_5.map E_GTone)), (0, .cells 1 [.i a1_0])], 3⟩) [(2, 1)] (by intro i e; cases e <;> exact Nat.le_of_ble_eq_true rfl) (by kernel_rfl) (mkInto (ks := [1, 5, 11, 12, 13]) (ys := [.fn 52 [.mp 0 0 0], .ms 1 0 ([] : List GTone).length, .sl false (a0.map E_GTone), .i (a0.length : Int), .i 0]) (by kernel_rfl) (by kernel_rfl) (.k (.f (.k (.mp rfl rfl) .z)) (.k (.ms rfl rfl) (.k (.c (cleanMap _ _ cl_GTone)) (.k (.c rfl) (.k (.c rfl) .z))))) (.k (x' := .cells 3 (([] : List GTone).map E_GTone)) (by kernel_rfl) (.cells (.r (cleanMap _ _ cl_GTone))) (.k (x' := .cells 1 [.i a1_0]) (by kernel_rfl) (.cells (.k (.c rfl) .z)) .z))) ?_
    rintro ⟨l1_5, l1_13⟩ out hl1 rl1
    refine run1 (c51 11) [] [1, 5, 11, 12, 13, 14] [2, 0] (zipE [1, 5, 11, 12, 13, 14] [.fn 52 [.mp 0 0 0], .ms 2 0 l1_5.length, .sl false (a0.map E_GTone), .i (a0.length : Int), .i l1_13, .bool (decide (l1_13 < (a0.length : Int)))]) ⟨[(2, .cells 3 (l1_5.map E_GTone)), (0, .cells 1 [.i a1_0])], 3⟩ _ (by kernel_rfl) cj0 ?_
    refine run_s (c51 12) (c51 15) (by kernel_rfl) ?_
    rcases iteE hl1 with ⟨hc3, hl1⟩ | ⟨hc3, hl1⟩
    · refine run_cT 14 (c51 13) (c51 14) (decide (l1_13 < (a0.length : Int))) hc3 (by kernel_rfl) (by kernel_rfl) ?_
      refine run_k (by kernel_rfl) ?_
      refine thenN ?_
      refine run_s (c51 16) (c51 20) (by kernel_rfl) ?_
      refine run_b 1 (c51 17) (by kernel_rfl) ?_
      obtain ⟨y4, hy4, hl1⟩ := bindE hl1
      refine run1 (c51 19) [{ k := 1, x := E_GTone y4 }] [1, 5, 7, 11, 12, 13] [3, 2, 0] (zipE [1, 5, 7, 11, 12, 13] [.fn 52 [.mp 0 0 0], .ms 2 0 l1_5.length, .mp 3 0 0, .sl false (a0.map E_GTone), .i (a0.length : Int), .i l1_13]) ⟨[(3, .cells 3 [E_GTone y4]), (2, .cells 3 (l1_5.map E_GTone)), (0, .cells 1 [.i a1_0])], 4⟩ _ (by kernel_rfl) (cjC ((ixE hy4).1) (cj1 (mapGet E_GTone (ixE hy4).2))) ?_
      obtain ⟨r5, hr5, hl1⟩ := bindE hl1
      obtain ⟨hn6, hl1⟩ := needE hl1
      refine run0 [{}, {}, {}, { c := some (.agg [.i r5, .i y4.from_, .i y4.to_], ⟨[(3, .cells 3 [E_GTone y4]), (2, .cells 3 (l1_5.map E_GTone)), (0, .cells 1 [.i a1_0])], 6⟩) }, {}, { k := 1, n := (l1_5 ++ [(⟨r5, y4.from_, y4.to_⟩ : GTone)]).length, l := (l1_5 ++ [(⟨r5, y4.from_, y4.to_⟩ : GTone)]).map E_GTone }] [1, 5, 11, 12, 13] [6, 0] (zipE [1, 5, 11, 12, 13] [.fn 52 [.mp 0 0 0], .ms 6 0 (l1_5 ++ [(⟨r5, y4.from_, y4.to_⟩ : GTone)]).length, .sl false (a0.map E_GTone), .i (a0.length : Int), .i l1_13]) ⟨[(6, .cells 3 ((l1_5 ++ [(⟨r5, y4.from_, y4.to_⟩ : GTone)]).map E_GTone)), (0, .cells 1 [.i a1_0])], 7⟩ _ (by kernel_rfl) (cjC (callF (f52_ok y4 a1_0 _ hr5) [(0, 0)] [(0, 0)] [3, 2] [E_GTone y4, .mp 0 0 0] ⟨[(3, .cells 3 [E_GTone y4]), (2, .cells 3 (l1_5.map E_GTone)), (0, .cells 1 [.i a1_0])], 4⟩ (.agg [.i r5, .i y4.from_, .i y4.to_]) ⟨[(3, .cells 3 [E_GTone y4]), (2, .cells 3 (l1_5.map E_GTone)), (0, .cells 1 [.i a1_0])], 6⟩ (by kernel_rfl) (.k (.c (cl_GTone y4)) (.k (.mp rfl rfl) .z)) (.c (cl_GTone (⟨r5, y4.from_, y4.to_⟩ : GTone))) (.k (x' := .cells 1 [.i a1_0]) (by kernel_rfl) (.cells (.k (.c rfl) .z)) .z) (.f rfl (by kernel_rfl) (.f rfl (by kernel_rfl) (.d (x' := .cells 1 [.i a1_0]) rfl (by kernel_rfl) (.cells (.k (.c rfl) .z)) .z)))) (cjC (@List.cons_ne_nil AV (.agg [.i r5, .i y4.from_, .i y4.to_]) []) (cjC (mLe l1_5 E_GTone) (cjC (hn6) (cjC (lenA l1_5 ([(⟨r5, y4.from_, y4.to_⟩ : GTone)] : List GTone)) (cjC (appA l1_5 ([(⟨r5, y4.from_, y4.to_⟩ : GTone)] : List GTone) E_GTone) (cj1 (fitsOne (P := Tryz.prog) (t := 53) (x := .agg [.i r5, .i y4.from_, .i y4.to_]) (r := []) (by kernel_rfl))))))))) ?_
      refine inbN ?_
      refine thenN ?_
      refine run0 [] [1, 5, 11, 12, 13] [6, 0] (zipE [1, 5, 11, 12, 13] [.fn 52 [.mp 0 0 0], .ms 6 0 (l1_5 ++ [(⟨r5, y4.from_, y4.to_⟩ : GTone)]).length, .sl false (a0.map E_GTone), .i (a0.length : Int), .i (wr (l1_13 + 1))]) ⟨[(6, .cells 3 ((l1_5 ++ [(⟨r5, y4.from_, y4.to_⟩ : GTone)]).map E_GTone)), (0, .cells 1 [.i a1_0])], 7⟩ _ (by kernel_rfl) cj0 ?_
      replace hl1 := Option.some.inj hl1; subst hl1
      exact ⟨_, rfl, pi [(2, 6)], mkInto (ks := [1, 5, 11, 12, 13]) (ys := [.fn 52 [.mp 0 0 0], .ms 6 0 (l1_5 ++ [(⟨r5, y4.from_, y4.to_⟩ : GTone)]).length, .sl false (a0.map E_GTone), .i (a0.length : Int), .i (wr (l1_13 + 1))]) (by kernel_rfl) (by kernel_rfl) (.k (.f (.k (.mp rfl rfl) .z)) (.k (.ms rfl rfl) (.k (.c (cleanMap _ _ cl_GTone)) (.k (.c rfl) (.k (.c rfl) .z))))) (.k (x' := .cells 3 ((l1_5 ++ [(⟨r5, y4.from_, y4.to_⟩ : GTone)]).map E_GTone)) (by kernel_rfl) (.cells (.r (cleanMap _ _ cl_GTone))) (.k (x' := .cells 1 [.i a1_0]) (by kernel_rfl) (.cells (.k (.c rfl) .z)) .z))⟩
    · refine run_cF 14 (c51 13) (c51 14) (decide (l1_13 < (a0.length : Int))) hc3 (by kernel_rfl) (by kernel_rfl) ?_
      replace hl1 := Option.some.inj hl1; subst hl1
      have hr := rl1 _ rfl
      subst hr
      refine awp_p [5] [2, 0] (zipE [5] [.ms 2 0 l1_5.length]) ⟨[(2, .cells 3 (l1_5.map E_GTone)), (0, .cells 1 [.i a1_0])], 3⟩ (by kernel_rfl) (?_)
      refine run_e 0 (by kernel_rfl) ?_
      refine thenE ?_
      refine ⟨⟨_, rfl⟩, ?_⟩
      refine inbE ?_
      exact kl1 l1_5 rfl
  · rintro _ rfl
    refine thenN ?_
    refine run1 (c51 23) [] [4] [2, 0] (zipE [4] [.ms 2 0 l1x_5.length]) ⟨[(2, .cells 3 (l1x_5.map E_GTone)), (0, .cells 1 [.i a1_0])], 3⟩ _ (by kernel_rfl) cj0 ?_
    refine run_z 2 3 (l1x_5.map E_GTone) [4] [.ms 2 0 l1x_5.length] (xs := [.sl false (l1x_5.map E_GTone)]) (S2 := ⟨[(0, .cells 1 [.i a1_0])], 3⟩) ?_ (by kernel_rfl) (by kernel_rfl) (.k (.m (mLe l1x_5 E_GTone) (mapAll l1x_5 E_GTone)) .z) (.k (x' := .cells 1 [.i a1_0]) rfl (by kernel_rfl) (.r _) .z) rfl rfl
    refine run_t (by kernel_rfl) ?_
    replace h := Option.some.inj h; subst h
    exact fin_p [0] ⟨[(0, .cells 1 [.i a1_0])], 3⟩ (by kernel_rfl) (by kernel_rfl) rfl ⟨rfl, rfl⟩

/-- theorbo.intabulate.Transpose$1 -/
def f50 (a0 : List GTone) (a1 : Int) : Option (List GTone) := (f51 a0 a1).bind fun r1 => some r1
theorem f50_ok (a0 : List GTone) (a1 : Int) (r : (List GTone)) (h : f50 a0 a1 = some r) : ACalls Tryz.prog 50 [.sl false (a0.map E_GTone), .mp 0 0 0] ⟨[(0, .cells 1 [.i a1])], 1⟩ (fun y t => y = .sl false (r.map E_GTone) ∧ t = ⟨[(0, .cells 1 [.i a1])], 3⟩) := by
  refine run_f 7 [.tmp 3] (c50 0) (zipE [0, 1] [.sl false (a0.map E_GTone), .mp 0 0 0]) (by kernel_rfl) (by kernel_rfl) (by kernel_rfl) rfl ?_
  unfold f50 at h
  refine run1 (c50 2) [] [0, 1] [0] (zipE [0, 1] [.sl false (a0.map E_GTone), .mp 0 0 0]) ⟨[(0, .cells 1 [.i a1])], 1⟩ _ (by kernel_rfl) cj0 ?_
  obtain ⟨r1, hr1, h⟩ := bindE h
  refine run1 (c50 4) [{}, {}, { c := some (.sl false (r1.map E_GTone), ⟨[(0, .cells 1 [.i a1])], 3⟩) }] [3] [0] (zipE [3] [.sl false (r1.map E_GTone)]) ⟨[(0, .cells 1 [.i a1])], 3⟩ _ (by kernel_rfl) (cj1 (callF (f51_ok a0 a1 _ hr1) [(0, 0)] [(0, 0)] [] [.sl false (a0.map E_GTone), .fn 52 [.mp 0 0 0]] ⟨[(0, .cells 1 [.i a1])], 1⟩ (.sl false (r1.map E_GTone)) ⟨[(0, .cells 1 [.i a1])], 3⟩ (by kernel_rfl) (.k (.c (cleanMap _ _ cl_GTone)) (.k (.f (.k (.mp rfl rfl) .z)) .z)) (.c (cleanMap _ _ cl_GTone)) (.k (x' := .cells 1 [.i a1]) (by kernel_rfl) (.cells (.k (.c rfl) .z)) .z) (.d (x' := .cells 1 [.i a1]) rfl (by kernel_rfl) (.cells (.k (.c rfl) .z)) .z))) ?_
  refine run_t (by kernel_rfl) ?_
  replace h := Option.some.inj h; subst h
  exact fin_p [0] ⟨[(0, .cells 1 [.i a1])], 3⟩ (by kernel_rfl) (by kernel_rfl) rfl ⟨rfl, rfl⟩

/-- theorbo.intabulate.each[[]theorbo.api.Tone,[]theorbo.api.Tone] -/
def f49 (a0 : List (List GTone)) (a1_0 : Int) : Option (List (List GTone)) := need (0 ≤ (a0.length : Int)) <| need ((a0.length : Int) ≤ (maxElems : Int)) <| (loopN (σ := (List (List GTone) × Int)) (τ := (List (List GTone))) (fun ((l1_5, l1_13) : (List (List GTone) × Int)) => bif (decide (l1_13 < (a0.length : Int))) then ((ix a0 l1_13).bind fun y4 => (f50 y4 a1_0).bind fun r5 => need (l1_5.length + 1 ≤ maxElems) <| some (.inl ((l1_5 ++ [r5]), (wr (l1_13 + 1))))) else (some (.inr l1_5))) FUEL (([] : List (List GTone)), 0)).bind fun (l1x_5 : (List (List GTone))) => some l1x_5
theorem f49_ok (a0 : List (List GTone)) (a1_0 : Int) (r : (List (List GTone))) (h : f49 a0 a1_0 = some r) : ACalls Tryz.prog 49 [.sl false (a0.map (SL E_GTone)), .fn 50 [.mp 0 0 0]] ⟨[(0, .cells 1 [.i a1_0])], 1⟩ (fun y t => y = .sl false (r.map (SL E_GTone)) ∧ t = ⟨[(0, .cells 1 [.i a1_0])], 3⟩) := by
  refine run_f 25 [.tmp 4] (c49 0) (zipE [0, 1] [.sl false (a0.map (SL E_GTone)), .fn 50 [.mp 0 0 0]]) (by kernel_rfl) (by kernel_rfl) (by kernel_rfl) rfl ?_
  unfold f49 at h
  refine run1 (c49 2) [] [0, 1] [0] (zipE [0, 1] [.sl false (a0.map (SL E_GTone)), .fn 50 [.mp 0 0 0]]) ⟨[(0, .cells 1 [.i a1_0])], 1⟩ _ (by kernel_rfl) cj0 ?_
  obtain ⟨hn1, h⟩ := needE h
  obtain ⟨hn2, h⟩ := needE h
  refine run1 (c49 4) [{}, { k := 1, n := a0.length }, { k := 1, n := ([] : List (List GTone)).length, l := ([] : List (List GTone)).map (SL E_GTone) }] [0, 1, 5] [1, 0] (zipE [0, 1, 5] [.sl false (a0.map (SL E_GTone)), .fn 50 [.mp 0 0 0], .ms 1 0 ([] : List (List GTone)).length]) ⟨[(1, .cells 1 (([] : List (List GTone)).map (SL E_GTone))), (0, .cells 1 [.i a1_0])], 2⟩ _ (by kernel_rfl) (cjC (mapLen a0 (SL E_GTone)) (cjC (Int.le_refl 0) (cjC (hn1) (cjC (hn2) (cjC (Eq.refl (0 : Nat)) (cj1 (Eq.refl (([] : List (List GTone)).map (SL E_GTone))))))))) ?_
  refine run_s (c49 5) (c49 21) (by kernel_rfl) ?_
  refine run1 (c49 7) [{}, { k := 1, n := a0.length }] [1, 5, 11, 12, 13] [1, 0] (zipE [1, 5, 11, 12, 13] [.fn 50 [.mp 0 0 0], .ms 1 0 ([] : List (List GTone)).length, .sl false (a0.map (SL E_GTone)), .i (a0.length : Int), .i 0]) ⟨[(1, .cells 1 (([] : List (List GTone)).map (SL E_GTone))), (0, .cells 1 [.i a1_0])], 2⟩ _ (by kernel_rfl) (cj1 (mapLen a0 (SL E_GTone))) ?_
  obtain ⟨l1x_5, hll1x, h⟩ := bindE h
  refine run_tq (fun (l1x_5 : (List (List GTone))) => (zipE [5] [.ms 2 0 l1x_5.length])) (fun (l1x_5 : (List (List GTone))) => ⟨[(2, .cells 1 (l1x_5.map (SL E_GTone))), (0, .cells 1 [.i a1_0])], 3⟩) (fun j => l1x_5 = j) (fun kl1 => ?_) ?_
  · refine run_b 0 (c49 8) (by kernel_rfl) ?_
    refine run_l (c49 9) _ hll1x (fun ((l1_5, l1_13) : (List (List GTone) × Int)) => (zipE [1, 5, 11, 12, 13] [.fn 50 [.mp 0 0 0], .ms 2 0 l1_5.length, .sl false (a0.map (SL E_GTone)), .i (a0.length : Int), .i l1_13])) (fun ((l1_5, l1_13) : (List (List GTone) × Int)) => ⟨[(2, .cells 1 (l1_5.map (SL E_GTone))), (0, .cells 1 [.i a1_0])], 3⟩) [(2, 1)] (by intro i e; cases e <;> exact Nat.le_of_ble_eq_true rfl) (by kernel_rfl) (mkInto (ks := [1, 5, 11, 12, 13]) (ys := [.fn 50 [.mp 0 0 0], .ms 1 0 ([] : List (List GTone)).length, .sl false (a0.map (SL E_GTone)), .i (a0.length : Int), .i 0]) (by kernel_rfl) (by kernel_rfl) (.k (.f (.k (.mp rfl rfl) .z)) (.k (.ms rfl rfl) (.k (.c (cleanMap _ _ (cl_SL cl_GTone))) (.k (.c rfl) (.k (.c rfl) .z))))) (.k (x' := .cells 1 (([] : List (List GTone)).map (SL E_GTone))) (by kernel_rfl) (.cells (.r (cleanMap _ _ (cl_SL cl_GTone)))) (.k (x' := .cells 1 [.i a1_0]) (by kernel_rfl) (.cells (.k (.c rfl) .z)) .z))) ?_
    rintro ⟨l1_5, l1_13⟩ out hl1 rl1
    refine run1 (c49 11) [] [1, 5, 11, 12, 13, 14] [2, 0] (zipE [1, 5, 11, 12, 13, 14] [.fn 50 [.mp 0 0 0], .ms 2 0 l1_5.length, .sl false (a0.map (SL E_GTone)), .i (a0.length : Int), .i l1_13, .bool (decide (l1_13 < (a0.length : Int)))]) ⟨[(2, .cells 1 (l1_5.map (SL E_GTone))), (0, .cells 1 [.i a1_0])], 3⟩ _ (by kernel_rfl) cj0 ?_
    refine run_s (c49 12) (c49 15) (by kernel_rfl) ?_
    rcases iteE hl1 with ⟨hc3, hl1⟩ | ⟨hc3, hl1⟩
    · refine run_cT 14 (c49 13) (c49 14) (decide (l1_13 < (a0.length : Int))) hc3 (by kernel_rfl) (by kernel_rfl) ?_
      refine run_k (by kernel_rfl) ?_
      refine thenN ?_
      refine run_s (c49 16) (c49 20) (by kernel_rfl) ?_
      refine run_b 1 (c49 17) (by kernel_rfl) ?_
      obtain ⟨y4, hy4, hl1⟩ := bindE hl1
      refine run1 (c49 19) [{ k := 1, x := (SL E_GTone) y4 }] [1, 5, 7, 11, 12, 13] [2, 0] (zipE [1, 5, 7, 11, 12, 13] [.fn 50 [.mp 0 0 0], .ms 2 0 l1_5.length, .sl false (y4.map E_GTone), .sl false (a0.map (SL E_GTone)), .i (a0.length : Int), .i l1_13]) ⟨[(2, .cells 1 (l1_5.map (SL E_GTone))), (0, .cells 1 [.i a1_0])], 3⟩ _ (by kernel_rfl) (cjC ((ixE hy4).1) (cj1 (mapGet (SL E_GTone) (ixE hy4).2))) ?_
      obtain ⟨r5, hr5, hl1⟩ := bindE hl1
      obtain ⟨hn6, hl1⟩ := needE hl1
      refine run0 [{}, {}, {}, { c := some (.sl false (r5.map E_GTone), ⟨[(2, .cells 1 (l1_5.map (SL E_GTone))), (0, .cells 1 [.i a1_0])], 5⟩) }, {}, { k := 1, n := (l1_5 ++ [r5]).length, l := (l1_5 ++ [r5]).map (SL E_GTone) }] [1, 5, 11, 12, 13] [5, 0] (zipE [1, 5, 11, 12, 13] [.fn 50 [.mp 0 0 0], .ms 5 0 (l1_5 ++ [r5]).length, .sl false (a0.map (SL E_GTone)), .i (a0.length : Int), .i l1_13]) ⟨[(5, .cells 1 ((l1_5 ++ [r5]).map (SL E_GTone))), (0, .cells 1 [.i a1_0])], 6⟩ _ (by kernel_rfl) (cjC (callF (f50_ok y4 a1_0 _ hr5) [(0, 0)] [(0, 0)] [2] [.sl false (y4.map E_GTone), .mp 0 0 0] ⟨[(2, .cells 1 (l1_5.map (SL E_GTone))), (0, .cells 1 [.i a1_0])], 3⟩ (.sl false (r5.map E_GTone)) ⟨[(2, .cells 1 (l1_5.map (SL E_GTone))), (0, .cells 1 [.i a1_0])], 5⟩ (by kernel_rfl) (.k (.c (cleanMap _ _ cl_GTone)) (.k (.mp rfl rfl) .z)) (.c (cleanMap _ _ cl_GTone)) (.k (x' := .cells 1 [.i a1_0]) (by kernel_rfl) (.cells (.k (.c rfl) .z)) .z) (.f rfl (by kernel_rfl) (.d (x' := .cells 1 [.i a1_0]) rfl (by kernel_rfl) (.cells (.k (.c rfl) .z)) .z))) (cjC (@List.cons_ne_nil AV (.sl false (r5.map E_GTone)) []) (cjC (mLe l1_5 (SL E_GTone)) (cjC (hn6) (cjC (lenA l1_5 ([r5] : List (List GTone))) (cjC (appA l1_5 ([r5] : List (List GTone)) (SL E_GTone)) (cj1 (fitsOne (P := Tryz.prog) (t := 43) (x := .sl false (r5.map E_GTone)) (r := []) (by kernel_rfl))))))))) ?_
      refine inbN ?_
      refine thenN ?_
      refine run0 [] [1, 5, 11, 12, 13] [5, 0] (zipE [1, 5, 11, 12, 13] [.fn 50 [.mp 0 0 0], .ms 5 0 (l1_5 ++ [r5]).length, .sl false (a0.map (SL E_GTone)), .i (a0.length : Int), .i (wr (l1_13 + 1))]) ⟨[(5, .cells 1 ((l1_5 ++ [r5]).map (SL E_GTone))), (0, .cells 1 [.i a1_0])], 6⟩ _ (by kernel_rfl) cj0 ?_
      replace hl1 := Option.some.inj hl1; subst hl1
      exact ⟨_, rfl, pi [(2, 5)], mkInto (ks := [1, 5, 11, 12, 13]) (ys := [.fn 50 [.mp 0 0 0], .ms 5 0 (l1_5 ++ [r5]).length, .sl false (a0.map (SL E_GTone)), .i (a0.length : Int), .i (wr (l1_13 + 1))]) (by kernel_rfl) (by kernel_rfl) (.k (.f (.k (.mp rfl rfl) .z)) (.k (.ms rfl rfl) (.k (.c (cleanMap _ _ (cl_SL cl_GTone))) (.k (.c rfl) (.k (.c rfl) .z))))) (.k (x' := .cells 1 ((l1_5 ++ [r5]).map (SL E_GTone))) (by kernel_rfl) (.cells (.r (cleanMap _ _ (cl_SL cl_GTone)))) (.k (x' := .cells 1 [.i a1_0]) (by kernel_rfl) (.cells (.k (.c rfl) .z)) .z))⟩
    · refine run_cF 14 (c49 13) (c49 14) (decide (l1_13 < (a0.length : Int))) hc3 (by kernel_rfl) (by kernel_rfl) ?_
      replace hl1 := Option.some.inj hl1; subst hl1
      have hr := rl1 _ rfl
      subst hr
      refine awp_p [5] [2, 0] (zipE [5] [.ms 2 0 l1_5.length]) ⟨[(2, .cells 1 (l1_5.map (SL E_GTone))), (0, .cells 1 [.i a1_0])], 3⟩ (by kernel_rfl) (?_)
      refine run_e 0 (by kernel_rfl) ?_
      refine thenE ?_
      refine ⟨⟨_, rfl⟩, ?_⟩
      refine inbE ?_
      exact kl1 l1_5 rfl
  · rintro _ rfl
    refine thenN ?_
    refine run1 (c49 23) [] [4] [2, 0] (zipE [4] [.ms 2 0 l1x_5.length]) ⟨[(2, .cells 1 (l1x_5.map (SL E_GTone))), (0, .cells 1 [.i a1_0])], 3⟩ _ (by kernel_rfl) cj0 ?_
    refine run_z 2 1 (l1x_5.map (SL E_GTone)) [4] [.ms 2 0 l1x_5.length] (xs := [.sl false (l1x_5.map (SL E_GTone))]) (S2 := ⟨[(0, .cells 1 [.i a1_0])], 3⟩) ?_ (by kernel_rfl) (by kernel_rfl) (.k (.m (mLe l1x_5 (SL E_GTone)) (mapAll l1x_5 (SL E_GTone))) .z) (.k (x' := .cells 1 [.i a1_0]) rfl (by kernel_rfl) (.r _) .z) rfl rfl
    refine run_t (by kernel_rfl) ?_
    replace h := Option.some.inj h; subst h
    exact fin_p [0] ⟨[(0, .cells 1 [.i a1_0])], 3⟩ (by kernel_rfl) (by kernel_rfl) rfl ⟨rfl, rfl⟩

/-- theorbo.intabulate.Transpose$2 -/
def f54 (a0 : GTone) : Option Bool := (f48 a0.pitch 0 127).bind fun r1 => some (!r1)
theorem f54_ok (a0 : GTone) (r : Bool) (h : f54 a0 = some r) : APure Tryz.prog 54 [E_GTone a0] (.bool r) := by
  refine apure (clK (cl_GTone a0) clZ) rfl ?_
  refine run_f 7 [.tmp 2] (c54 0) (zipE [0] [E_GTone a0]) (by kernel_rfl) (by kernel_rfl) (by kernel_rfl) rfl ?_
  unfold f54 at h
  refine run1 (c54 2) [] [1] [0] (zipE [1] [.mp 0 0 0]) ⟨[(0, .cells 3 [E_GTone a0])], 1⟩ _ (by kernel_rfl) cj0 ?_
  obtain ⟨r1, hr1, h⟩ := bindE h
  refine run1 (c54 4) [{}, {}, { c := some (.bool r1, ⟨[(0, .cells 3 [E_GTone a0])], 1⟩) }] [2] [] (zipE [2] [.bool (!r1)]) ⟨[], 1⟩ _ (by kernel_rfl) (cj1 (f48_ok a0.pitch 0 127 _ hr1 ⟨[(0, .cells 3 [E_GTone a0])], 1⟩)) ?_
  refine run_t (by kernel_rfl) ?_
  replace h := Option.some.inj h; subst h
  exact fin_r (by kernel_rfl) rfl

/-- slices.IndexFunc[[]theorbo.api.Tone,theorbo.api.Tone] -/
def f94_1 (a0 : List GTone) : Option Int := (loopN (σ := Int) (τ := (Unit ⊕ Int)) (fun (l1_8 : Int) => bif (decide (l1_8 < (a0.length : Int))) then ((ix a0 l1_8).bind fun y2 => (f54 y2).bind fun r3 => bif r3 then (some (.inr (.inr l1_8))) else (some (.inl (wr (l1_8 + 1))))) else (some (.inr (.inl ())))) FUEL 0).bind (Sum.elim (fun (_ : Unit) => some (-1)) some)
theorem f94_1_ok (a0 : List GTone) (r : Int) (h : f94_1 a0 = some r) : APure Tryz.prog 94 [.sl false (a0.map E_GTone), .fn 54 []] (.i r) := by
  refine apure (clK (cleanMap a0 _ cl_GTone) (clK rfl clZ)) rfl ?_
  refine run_f 19 [.tmp 4] (c94 0) (zipE [0, 1] [.sl false (a0.map E_GTone), .fn 54 []]) (by kernel_rfl) (by kernel_rfl) (by kernel_rfl) rfl ?_
  unfold f94_1 at h
  refine run1 (c94 2) [] [0, 1] [] (zipE [0, 1] [.sl false (a0.map E_GTone), .fn 54 []]) ⟨[], 0⟩ _ (by kernel_rfl) cj0 ?_
  refine run_s (c94 3) (c94 25) (by kernel_rfl) ?_
  refine run1 (c94 5) [{}, { k := 1, n := a0.length }] [0, 1, 7, 8] [] (zipE [0, 1, 7, 8] [.sl false (a0.map E_GTone), .fn 54 [], .i (a0.length : Int), .i 0]) ⟨[], 0⟩ _ (by kernel_rfl) (cj1 (mapLen a0 E_GTone)) ?_
  obtain ⟨ol1x, hll1x, h⟩ := bindE h
  refine run_tq (fun (_ : Unit) => (zipE [] [])) (fun (_ : Unit) => ⟨[], 0⟩) (fun j => ol1x = .inl j) (fun kl1 => ?_) ?_
  · refine run_b 0 (c94 6) (by kernel_rfl) ?_
    refine run_l (c94 7) _ hll1x (fun (l1_8 : Int) => (zipE [0, 1, 7, 8] [.sl false (a0.map E_GTone), .fn 54 [], .i (a0.length : Int), .i l1_8])) (fun (l1_8 : Int) => ⟨[], 0⟩) [] (by intro i e; cases e <;> exact Nat.le_of_ble_eq_true rfl) (by kernel_rfl) (mkInto (ks := [0, 1, 7, 8]) (ys := [.sl false (a0.map E_GTone), .fn 54 [], .i (a0.length : Int), .i 0]) (by kernel_rfl) (by kernel_rfl) (.k (.c (cleanMap _ _ cl_GTone)) (.k (.c rfl) (.k (.c rfl) (.k (.c rfl) .z)))) .z) ?_
    rintro l1_8 out hl1 rl1
    refine run1 (c94 9) [] [0, 1, 7, 8, 9] [] (zipE [0, 1, 7, 8, 9] [.sl false (a0.map E_GTone), .fn 54 [], .i (a0.length : Int), .i l1_8, .bool (decide (l1_8 < (a0.length : Int)))]) ⟨[], 0⟩ _ (by kernel_rfl) cj0 ?_
    refine run_s (c94 10) (c94 13) (by kernel_rfl) ?_
    rcases iteE hl1 with ⟨hc1, hl1⟩ | ⟨hc1, hl1⟩
    · refine run_cT 9 (c94 11) (c94 12) (decide (l1_8 < (a0.length : Int))) hc1 (by kernel_rfl) (by kernel_rfl) ?_
      refine run_k (by kernel_rfl) ?_
      refine thenN ?_
      refine run_s (c94 14) (c94 24) (by kernel_rfl) ?_
      refine run_b 1 (c94 15) (by kernel_rfl) ?_
      refine run1 (c94 17) [] [0, 1, 5, 7, 8] [] (zipE [0, 1, 5, 7, 8] [.sl false (a0.map E_GTone), .fn 54 [], .i l1_8, .i (a0.length : Int), .i l1_8]) ⟨[], 0⟩ _ (by kernel_rfl) cj0 ?_
      obtain ⟨y2, hy2, hl1⟩ := bindE hl1
      obtain ⟨r3, hr3, hl1⟩ := bindE hl1
      refine run1 (c94 19) [{}, {}, {}, { k := 1, x := E_GTone y2 }, {}, { c := some (.bool r3, ⟨[], 0⟩) }] [0, 1, 5, 7, 8, 16] [] (zipE [0, 1, 5, 7, 8, 16] [.sl false (a0.map E_GTone), .fn 54 [], .i l1_8, .i (a0.length : Int), .i l1_8, .bool r3]) ⟨[], 0⟩ _ (by kernel_rfl) (cjC ((ixE hy2).1) (cjC (mapGet E_GTone (ixE hy2).2) (cj1 (f54_ok y2 _ hr3 ⟨[], 0⟩)))) ?_
      rcases iteE hl1 with ⟨hc4, hl1⟩ | ⟨hc4, hl1⟩
      · refine run_cT 16 (c94 20) (c94 23) r3 hc4 (by kernel_rfl) (by kernel_rfl) ?_
        refine run1 (c94 22) [] [4] [] (zipE [4] [.i l1_8]) ⟨[], 0⟩ _ (by kernel_rfl) cj0 ?_
        replace hl1 := Option.some.inj hl1; subst hl1
        have hr := rl1 _ rfl
        subst hr
        replace h := elimR h
        refine run_t (by kernel_rfl) ?_
        refine inbR ?_
        refine thenR ?_
        refine ⟨⟨_, rfl⟩, ?_⟩
        refine inbR ?_
        refine thenR ?_
        replace h := Option.some.inj h; subst h
        exact fin_r (by kernel_rfl) rfl
      · refine run_cF 16 (c94 20) (c94 23) r3 hc4 (by kernel_rfl) (by kernel_rfl) ?_
        refine run_k (by kernel_rfl) ?_
        refine inbN ?_
        refine thenN ?_
        refine run0 [] [0, 1, 7, 8] [] (zipE [0, 1, 7, 8] [.sl false (a0.map E_GTone), .fn 54 [], .i (a0.length : Int), .i (wr (l1_8 + 1))]) ⟨[], 0⟩ _ (by kernel_rfl) cj0 ?_
        replace hl1 := Option.some.inj hl1; subst hl1
        exact ⟨_, rfl, pi [], mkInto (ks := [0, 1, 7, 8]) (ys := [.sl false (a0.map E_GTone), .fn 54 [], .i (a0.length : Int), .i (wr (l1_8 + 1))]) (by kernel_rfl) (by kernel_rfl) (.k (.c (cleanMap _ _ cl_GTone)) (.k (.c rfl) (.k (.c rfl) (.k (.c rfl) .z)))) .z⟩
    · refine run_cF 9 (c94 11) (c94 12) (decide (l1_8 < (a0.length : Int))) hc1 (by kernel_rfl) (by kernel_rfl) ?_
      replace hl1 := Option.some.inj hl1; subst hl1
      have hr := rl1 _ rfl
      subst hr
      refine awp_p [] [] (zipE [] []) ⟨[], 0⟩ (by kernel_rfl) (?_)
      refine run_e 0 (by kernel_rfl) ?_
      refine thenE ?_
      refine ⟨⟨_, rfl⟩, ?_⟩
      refine inbE ?_
      exact kl1 () rfl
  · rintro ⟨⟩ rfl
    replace h := elimL h
    refine thenN ?_
    refine run1 (c94 27) [] [4] [] (zipE [4] [.i (-1)]) ⟨[], 0⟩ _ (by kernel_rfl) cj0 ?_
    refine run_t (by kernel_rfl) ?_
    replace h := Option.some.inj h; subst h
    exact fin_r (by kernel_rfl) rfl

/-- slices.ContainsFunc[[]theorbo.api.Tone,theorbo.api.Tone] -/
def f53_1 (a0 : List GTone) : Option Bool := (f94_1 a0).bind fun r1 => some (decide (0 ≤ r1))
theorem f53_1_ok (a0 : List GTone) (r : Bool) (h : f53_1 a0 = some r) : APure Tryz.prog 53 [.sl false (a0.map E_GTone), .fn 54 []] (.bool r) := by
  refine apure (clK (cleanMap a0 _ cl_GTone) (clK rfl clZ)) rfl ?_
  refine run_f 9 [.tmp 4] (c53 0) (zipE [0, 1] [.sl false (a0.map E_GTone), .fn 54 []]) (by kernel_rfl) (by kernel_rfl) (by kernel_rfl) rfl ?_
  unfold f53_1 at h
  refine run1 (c53 2) [] [0, 1] [] (zipE [0, 1] [.sl false (a0.map E_GTone), .fn 54 []]) ⟨[], 0⟩ _ (by kernel_rfl) cj0 ?_
  obtain ⟨r1, hr1, h⟩ := bindE h
  refine run1 (c53 4) [{}, {}, { c := some (.i r1, ⟨[], 0⟩) }] [4] [] (zipE [4] [.bool (decide (0 ≤ r1))]) ⟨[], 0⟩ _ (by kernel_rfl) (cj1 (f94_1_ok a0 _ hr1 ⟨[], 0⟩)) ?_
  refine run_t (by kernel_rfl) ?_
  replace h := Option.some.inj h; subst h
  exact fin_r (by kernel_rfl) rfl

/-- theorbo.intabulate.Transpose -/
def f21 (a0 : List (List GTone)) (a1 : Int) : Option (((List (List GTone))) × Int) := (f36 a0).bind fun r1 => bif (decide (r1 ≠ 0)) then (some (([] : List (List GTone)), r1)) else ((f48 a1 (-24) 24).bind fun r3 => bif (!r3) then (some (([] : List (List GTone)), 1)) else ((f49 a0 a1).bind fun r5 => (loopN (σ := Int) (τ := (Unit ⊕ (((List (List GTone))) × Int))) (fun (l1_23 : Int) => bif (decide (l1_23 < (r5.length : Int))) then ((ix r5 l1_23).bind fun y7 => (f53_1 y7).bind fun r8 => bif r8 then (some (.inr (.inr (([] : List (List GTone)), 80)))) else (some (.inl (wr (l1_23 + 1))))) else (some (.inr (.inl ())))) FUEL 0).bind (Sum.elim (fun (_ : Unit) => some (r5, 0)) some)))
theorem f21_ok (a0 : List (List GTone)) (a1 : Int) (r : (((List (List GTone))) × Int)) (h : f21 a0 a1 = some r) : APure Tryz.prog 21 [.sl false (a0.map (SL E_GTone)), .i a1] (.tup [.sl false (r.1.map (SL E_GTone)), .i r.2]) := by
  refine apure (clK (cleanMap a0 _ (cl_SL cl_GTone)) (clK rfl clZ)) (clK (cleanMap r.1 _ (cl_SL cl_GTone)) (clK rfl clZ)) ?_
  refine run_f 31 [.tmp 4, .tmp 5] (c21 0) (zipE [0, 1] [.sl false (a0.map (SL E_GTone)), .i a1]) (by kernel_rfl) (by kernel_rfl) (by kernel_rfl) rfl ?_
  unfold f21 at h
  refine run1 (c21 2) [] [0, 3] [0] (zipE [0, 3] [.sl false (a0.map (SL E_GTone)), .mp 0 0 0]) ⟨[(0, .cells 1 [.i a1])], 1⟩ _ (by kernel_rfl) cj0 ?_
  refine run_s (c21 3) (c21 12) (by kernel_rfl) ?_
  obtain ⟨r1, hr1, h⟩ := bindE h
  refine run1 (c21 5) [{}, { c := some (.i r1, ⟨[(0, .cells 1 [.i a1])], 1⟩) }] [0, 3, 6] [0] (zipE [0, 3, 6] [.sl false (a0.map (SL E_GTone)), .mp 0 0 0, .i r1]) ⟨[(0, .cells 1 [.i a1])], 1⟩ _ (by kernel_rfl) (cj1 (f36_ok a0 _ hr1 ⟨[(0, .cells 1 [.i a1])], 1⟩)) ?_
  refine run1 (c21 7) [] [0, 3, 6, 13] [0] (zipE [0, 3, 6, 13] [.sl false (a0.map (SL E_GTone)), .mp 0 0 0, .i r1, .bool (decide (r1 ≠ 0))]) ⟨[(0, .cells 1 [.i a1])], 1⟩ _ (by kernel_rfl) cj0 ?_
  rcases iteE h with ⟨hc2, h⟩ | ⟨hc2, h⟩
  · refine run_cT 13 (c21 8) (c21 11) (decide (r1 ≠ 0)) hc2 (by kernel_rfl) (by kernel_rfl) ?_
    refine run1 (c21 10) [] [4, 5] [] (zipE [4, 5] [.sl true [], .i r1]) ⟨[], 1⟩ _ (by kernel_rfl) cj0 ?_
    refine run_i 1 [] [4, 5] [.sl true [], .i r1] (xs := [.sl false (([] : List (List GTone)).map (SL E_GTone)), .i r1]) (S2 := ⟨[], 1⟩) ?_ (by intro i e; cases e <;> exact Nat.le_of_ble_eq_true rfl) (by kernel_rfl) (by kernel_rfl) (by kernel_rfl) (.k (.s (cleanMap (([] : List (List GTone))) _ (cl_SL cl_GTone))) (.k (.c rfl) .z)) .z
    refine run_t (by kernel_rfl) ?_
    refine thenR ?_
    replace h := Option.some.inj h; subst h
    exact fin_r (by kernel_rfl) rfl
  · refine run_cF 13 (c21 8) (c21 11) (decide (r1 ≠ 0)) hc2 (by kernel_rfl) (by kernel_rfl) ?_
    refine run_k (by kernel_rfl) ?_
    refine thenN ?_
    refine run_s (c21 13) (c21 20) (by kernel_rfl) ?_
    obtain ⟨r3, hr3, h⟩ := bindE h
    refine run1 (c21 15) [{}, { c := some (.bool r3, ⟨[(0, .cells 1 [.i a1])], 1⟩) }] [0, 3, 17] [0] (zipE [0, 3, 17] [.sl false (a0.map (SL E_GTone)), .mp 0 0 0, .bool (!r3)]) ⟨[(0, .cells 1 [.i a1])], 1⟩ _ (by kernel_rfl) (cj1 (f48_ok a1 (-24) 24 _ hr3 ⟨[(0, .cells 1 [.i a1])], 1⟩)) ?_
    rcases iteE h with ⟨hc4, h⟩ | ⟨hc4, h⟩
    · refine run_cT 17 (c21 16) (c21 19) (!r3) hc4 (by kernel_rfl) (by kernel_rfl) ?_
      refine run1 (c21 18) [] [4, 5] [] (zipE [4, 5] [.sl true [], .i 1]) ⟨[], 1⟩ _ (by kernel_rfl) cj0 ?_
      refine run_i 1 [] [4, 5] [.sl true [], .i 1] (xs := [.sl false (([] : List (List GTone)).map (SL E_GTone)), .i 1]) (S2 := ⟨[], 1⟩) ?_ (by intro i e; cases e <;> exact Nat.le_of_ble_eq_true rfl) (by kernel_rfl) (by kernel_rfl) (by kernel_rfl) (.k (.s (cleanMap (([] : List (List GTone))) _ (cl_SL cl_GTone))) (.k (.c rfl) .z)) .z
      refine run_t (by kernel_rfl) ?_
      refine thenR ?_
      replace h := Option.some.inj h; subst h
      exact fin_r (by kernel_rfl) rfl
    · refine run_cF 17 (c21 16) (c21 19) (!r3) hc4 (by kernel_rfl) (by kernel_rfl) ?_
      refine run_k (by kernel_rfl) ?_
      refine thenN ?_
      obtain ⟨r5, hr5, h⟩ := bindE h
      refine run1 (c21 22) [{}, {}, { c := some (.sl false (r5.map (SL E_GTone)), ⟨[(0, .cells 1 [.i a1])], 3⟩) }] [7] [] (zipE [7] [.sl false (r5.map (SL E_GTone))]) ⟨[], 3⟩ _ (by kernel_rfl) (cj1 (callF (f49_ok a0 a1 _ hr5) [(0, 0)] [(0, 0)] [] [.sl false (a0.map (SL E_GTone)), .fn 50 [.mp 0 0 0]] ⟨[(0, .cells 1 [.i a1])], 1⟩ (.sl false (r5.map (SL E_GTone))) ⟨[(0, .cells 1 [.i a1])], 3⟩ (by kernel_rfl) (.k (.c (cleanMap _ _ (cl_SL cl_GTone))) (.k (.f (.k (.mp rfl rfl) .z)) .z)) (.c (cleanMap _ _ (cl_SL cl_GTone))) (.k (x' := .cells 1 [.i a1]) (by kernel_rfl) (.cells (.k (.c rfl) .z)) .z) (.d (x' := .cells 1 [.i a1]) rfl (by kernel_rfl) (.cells (.k (.c rfl) .z)) .z))) ?_
      refine run_s (c21 23) (c21 45) (by kernel_rfl) ?_
      refine run1 (c21 25) [{}, { k := 1, n := r5.length }] [7, 21, 22, 23] [] (zipE [7, 21, 22, 23] [.sl false (r5.map (SL E_GTone)), .sl false (r5.map (SL E_GTone)), .i (r5.length : Int), .i 0]) ⟨[], 3⟩ _ (by kernel_rfl) (cj1 (mapLen r5 (SL E_GTone))) ?_
      obtain ⟨ol1x, hll1x, h⟩ := bindE h
      refine run_tq (fun (_ : Unit) => (zipE [7] [.sl false (r5.map (SL E_GTone))])) (fun (_ : Unit) => ⟨[], 3⟩) (fun j => ol1x = .inl j) (fun kl1 => ?_) ?_
      · refine run_b 0 (c21 26) (by kernel_rfl) ?_
        refine run_l (c21 27) _ hll1x (fun (l1_23 : Int) => (zipE [7, 21, 22, 23] [.sl false (r5.map (SL E_GTone)), .sl false (r5.map (SL E_GTone)), .i (r5.length : Int), .i l1_23])) (fun (l1_23 : Int) => ⟨[], 3⟩) [] (by intro i e; cases e <;> exact Nat.le_of_ble_eq_true rfl) (by kernel_rfl) (mkInto (ks := [7, 21, 22, 23]) (ys := [.sl false (r5.map (SL E_GTone)), .sl false (r5.map (SL E_GTone)), .i (r5.length : Int), .i 0]) (by kernel_rfl) (by kernel_rfl) (.k (.c (cleanMap _ _ (cl_SL cl_GTone))) (.k (.c (cleanMap _ _ (cl_SL cl_GTone))) (.k (.c rfl) (.k (.c rfl) .z)))) .z) ?_
        rintro l1_23 out hl1 rl1
        refine run1 (c21 29) [] [7, 21, 22, 23, 24] [] (zipE [7, 21, 22, 23, 24] [.sl false (r5.map (SL E_GTone)), .sl false (r5.map (SL E_GTone)), .i (r5.length : Int), .i l1_23, .bool (decide (l1_23 < (r5.length : Int)))]) ⟨[], 3⟩ _ (by kernel_rfl) cj0 ?_
        refine run_s (c21 30) (c21 33) (by kernel_rfl) ?_
        rcases iteE hl1 with ⟨hc6, hl1⟩ | ⟨hc6, hl1⟩
        · refine run_cT 24 (c21 31) (c21 32) (decide (l1_23 < (r5.length : Int))) hc6 (by kernel_rfl) (by kernel_rfl) ?_
          refine run_k (by kernel_rfl) ?_
          refine thenN ?_
          refine run_s (c21 34) (c21 44) (by kernel_rfl) ?_
          refine run_b 1 (c21 35) (by kernel_rfl) ?_
          obtain ⟨y7, hy7, hl1⟩ := bindE hl1
          refine run1 (c21 37) [{ k := 1, x := (SL E_GTone) y7 }] [7, 9, 21, 22, 23] [] (zipE [7, 9, 21, 22, 23] [.sl false (r5.map (SL E_GTone)), .sl false (y7.map E_GTone), .sl false (r5.map (SL E_GTone)), .i (r5.length : Int), .i l1_23]) ⟨[], 3⟩ _ (by kernel_rfl) (cjC ((ixE hy7).1) (cj1 (mapGet (SL E_GTone) (ixE hy7).2))) ?_
          obtain ⟨r8, hr8, hl1⟩ := bindE hl1
          refine run1 (c21 39) [{}, { c := some (.bool r8, ⟨[], 3⟩) }] [7, 21, 22, 23, 28] [] (zipE [7, 21, 22, 23, 28] [.sl false (r5.map (SL E_GTone)), .sl false (r5.map (SL E_GTone)), .i (r5.length : Int), .i l1_23, .bool r8]) ⟨[], 3⟩ _ (by kernel_rfl) (cj1 (f53_1_ok y7 _ hr8 ⟨[], 3⟩)) ?_
          rcases iteE hl1 with ⟨hc9, hl1⟩ | ⟨hc9, hl1⟩
          · refine run_cT 28 (c21 40) (c21 43) r8 hc9 (by kernel_rfl) (by kernel_rfl) ?_
            refine run1 (c21 42) [] [4, 5] [] (zipE [4, 5] [.sl true [], .i 80]) ⟨[], 3⟩ _ (by kernel_rfl) cj0 ?_
            replace hl1 := Option.some.inj hl1; subst hl1
            have hr := rl1 _ rfl
            subst hr
            replace h := elimR h
            refine run_i 3 [] [4, 5] [.sl true [], .i 80] (xs := [.sl false (([] : List (List GTone)).map (SL E_GTone)), .i 80]) (S2 := ⟨[], 3⟩) ?_ (by intro i e; cases e <;> exact Nat.le_of_ble_eq_true rfl) (by kernel_rfl) (by kernel_rfl) (by kernel_rfl) (.k (.s (cleanMap (([] : List (List GTone))) _ (cl_SL cl_GTone))) (.k (.c rfl) .z)) .z
            refine run_t (by kernel_rfl) ?_
            refine inbR ?_
            refine thenR ?_
            refine ⟨⟨_, rfl⟩, ?_⟩
            refine inbR ?_
            refine thenR ?_
            replace h := Option.some.inj h; subst h
            exact fin_r (by kernel_rfl) rfl
          · refine run_cF 28 (c21 40) (c21 43) r8 hc9 (by kernel_rfl) (by kernel_rfl) ?_
            refine run_k (by kernel_rfl) ?_
            refine inbN ?_
            refine thenN ?_
            refine run0 [] [7, 21, 22, 23] [] (zipE [7, 21, 22, 23] [.sl false (r5.map (SL E_GTone)), .sl false (r5.map (SL E_GTone)), .i (r5.length : Int), .i (wr (l1_23 + 1))]) ⟨[], 3⟩ _ (by kernel_rfl) cj0 ?_
            replace hl1 := Option.some.inj hl1; subst hl1
            exact ⟨_, rfl, pi [], mkInto (ks := [7, 21, 22, 23]) (ys := [.sl false (r5.map (SL E_GTone)), .sl false (r5.map (SL E_GTone)), .i (r5.length : Int), .i (wr (l1_23 + 1))]) (by kernel_rfl) (by kernel_rfl) (.k (.c (cleanMap _ _ (cl_SL cl_GTone))) (.k (.c (cleanMap _ _ (cl_SL cl_GTone))) (.k (.c rfl) (.k (.c rfl) .z)))) .z⟩
        · refine run_cF 24 (c21 31) (c21 32) (decide (l1_23 < (r5.length : Int))) hc6 (by kernel_rfl) (by kernel_rfl) ?_
          replace hl1 := Option.some.inj hl1; subst hl1
          have hr := rl1 _ rfl
          subst hr
          refine awp_p [7] [] (zipE [7] [.sl false (r5.map (SL E_GTone))]) ⟨[], 3⟩ (by kernel_rfl) (?_)
          refine run_e 0 (by kernel_rfl) ?_
          refine thenE ?_
          refine ⟨⟨_, rfl⟩, ?_⟩
          refine inbE ?_
          exact kl1 () rfl
      · rintro ⟨⟩ rfl
        replace h := elimL h
        refine thenN ?_
        refine run1 (c21 47) [] [4, 5] [] (zipE [4, 5] [.sl false (r5.map (SL E_GTone)), .i 0]) ⟨[], 3⟩ _ (by kernel_rfl) cj0 ?_
        refine run_t (by kernel_rfl) ?_
        replace h := Option.some.inj h; subst h
        exact fin_r (by kernel_rfl) rfl

/-- theorbo.theorboref08.far -/
def f55 (a0 : Int) : Option Bool := ((bif (decide (a0 < -24)) then (some true) else (some (decide (24 < a0)))) : Option Bool).bind fun (j1_2 : Bool) => some j1_2
theorem f55_ok (a0 : Int) (r : Bool) (h : f55 a0 = some r) : APure Tryz.prog 55 [.i a0] (.bool r) := by
  refine apure (clK rfl clZ) rfl ?_
  refine run_f 9 [.tmp 2] (c55 0) (zipE [0] [.i a0]) (by kernel_rfl) (by kernel_rfl) (by kernel_rfl) rfl ?_
  unfold f55 at h
  refine run1 (c55 2) [] [0] [] (zipE [0] [.i a0]) ⟨[], 0⟩ _ (by kernel_rfl) cj0 ?_
  obtain ⟨j1_2, hj1, h⟩ := bindE h
  refine run_gq (c55 4) (fun (j1_2 : Bool) => (zipE [2] [.bool j1_2])) (fun (j1_2 : Bool) => ⟨[], 0⟩) (fun j => j1_2 = j) (fun kj1 => ?_) ?_
  · rcases iteE hj1 with ⟨hc1, hj1⟩ | ⟨hc1, hj1⟩
    · replace hj1 := Option.some.inj hj1; subst hj1
      exact run1 (c55 4) [{}, {}, {}, { g := false }, { g := false }, { k := 1, b := true }] [2] [] (zipE [2] [.bool true]) ⟨[], 0⟩ _ (by kernel_rfl) (cjC (hc1) (cjC (hc1) (cj1 (hc1)))) (kj1 true rfl)
    · replace hj1 := Option.some.inj hj1; subst hj1
      exact run1 (c55 4) [{}, {}, {}, {}, {}, { k := 1, b := false }] [2] [] (zipE [2] [.bool (decide (24 < a0))]) ⟨[], 0⟩ _ (by kernel_rfl) (cjC (hc1) (cjC (hc1) (cj1 (hc1)))) (kj1 (decide (24 < a0)) rfl)
  · rintro _ rfl
    refine run_t (by kernel_rfl) ?_
    replace h := Option.some.inj h; subst h
    exact fin_r (by kernel_rfl) rfl

/-- theorbo.theorboref08.Transpose -/
def f22 (a0 : List (List GTone)) (a1 : Int) : Option (((List (List GTone))) × Int) := (f38 a0).bind fun r1 => bif (decide (r1 ≠ 0)) then (some (([] : List (List GTone)), r1)) else ((f55 a1).bind fun r3 => bif r3 then (some (([] : List (List GTone)), 1)) else ((loopN (σ := (List (List GTone) × Int)) (τ := ((List (List GTone)) ⊕ (((List (List GTone))) × Int))) (fun ((l1_7, l1_8) : (List (List GTone) × Int)) => bif (decide (l1_8 < (a0.length : Int))) then ((loopN (σ := (List GTone × Int)) (τ := ((List GTone) ⊕ ((List (List GTone) × Int) ⊕ ((List (List GTone)) ⊕ (((List (List GTone))) × Int))))) (fun ((l2_9, l2_10) : (List GTone × Int)) => (ix a0 l1_8).bind fun y6 => bif (decide (l2_10 < (y6.length : Int))) then ((ix y6 l2_10).bind fun y8 => ((bif (decide ((wr (y8.pitch + a1)) < 0)) then (some true) else (some (decide (127 < (wr (y8.pitch + a1)))))) : Option Bool).bind fun (j3_53 : Bool) => bif j3_53 then (some (.inr (.inr (.inr (.inr (([] : List (List GTone)), 80)))))) else (need (l2_9.length + 1 ≤ maxElems) <| some (.inl ((l2_9 ++ [(⟨(wr (y8.pitch + a1)), y8.from_, y8.to_⟩ : GTone)]), (wr (l2_10 + 1)))))) else (some (.inr (.inl l2_9)))) FUEL (([] : List GTone), 0)).bind (Sum.elim (fun (l2x_9 : (List GTone)) => need (l1_7.length + 1 ≤ maxElems) <| some (.inl ((l1_7 ++ [l2x_9]), (wr (l1_8 + 1))))) some)) else (some (.inr (.inl l1_7)))) FUEL (([] : List (List GTone)), 0)).bind (Sum.elim (fun (l1x_7 : (List (List GTone))) => some (l1x_7, 0)) some)))
theorem f22_ok (a0 : List (List GTone)) (a1 : Int) (r : (((List (List GTone))) × Int)) (h : f22 a0 a1 = some r) : APure Tryz.prog 22 [.sl false (a0.map (SL E_GTone)), .i a1] (.tup [.sl false (r.1.map (SL E_GTone)), .i r.2]) := by
  refine apure (clK (cleanMap a0 _ (cl_SL cl_GTone)) (clK rfl clZ)) (clK (cleanMap r.1 _ (cl_SL cl_GTone)) (clK rfl clZ)) ?_
  refine run_f 63 [.tmp 4, .tmp 5] (c22 0) (zipE [0, 1] [.sl false (a0.map (SL E_GTone)), .i a1]) (by kernel_rfl) (by kernel_rfl) (by kernel_rfl) rfl ?_
  unfold f22 at h
  refine run1 (c22 2) [] [0, 1] [] (zipE [0, 1] [.sl false (a0.map (SL E_GTone)), .i a1]) ⟨[], 0⟩ _ (by kernel_rfl) cj0 ?_
  refine run_s (c22 3) (c22 12) (by kernel_rfl) ?_
  obtain ⟨r1, hr1, h⟩ := bindE h
  refine run1 (c22 5) [{}, { c := some (.i r1, ⟨[], 0⟩) }] [0, 1, 6] [] (zipE [0, 1, 6] [.sl false (a0.map (SL E_GTone)), .i a1, .i r1]) ⟨[], 0⟩ _ (by kernel_rfl) (cj1 (f38_ok a0 _ hr1 ⟨[], 0⟩)) ?_
  refine run1 (c22 7) [] [0, 1, 6, 15] [] (zipE [0, 1, 6, 15] [.sl false (a0.map (SL E_GTone)), .i a1, .i r1, .bool (decide (r1 ≠ 0))]) ⟨[], 0⟩ _ (by kernel_rfl) cj0 ?_
  rcases iteE h with ⟨hc2, h⟩ | ⟨hc2, h⟩
  · refine run_cT 15 (c22 8) (c22 11) (decide (r1 ≠ 0)) hc2 (by kernel_rfl) (by kernel_rfl) ?_
    refine run1 (c22 10) [] [4, 5] [] (zipE [4, 5] [.sl true [], .i r1]) ⟨[], 0⟩ _ (by kernel_rfl) cj0 ?_
    refine run_i 0 [] [4, 5] [.sl true [], .i r1] (xs := [.sl false (([] : List (List GTone)).map (SL E_GTone)), .i r1]) (S2 := ⟨[], 0⟩) ?_ (by intro i e; cases e <;> exact Nat.le_of_ble_eq_true rfl) (by kernel_rfl) (by kernel_rfl) (by kernel_rfl) (.k (.s (cleanMap (([] : List (List GTone))) _ (cl_SL cl_GTone))) (.k (.c rfl) .z)) .z
    refine run_t (by kernel_rfl) ?_
    refine thenR ?_
    replace h := Option.some.inj h; subst h
    exact fin_r (by kernel_rfl) rfl
  · refine run_cF 15 (c22 8) (c22 11) (decide (r1 ≠ 0)) hc2 (by kernel_rfl) (by kernel_rfl) ?_
    refine run_k (by kernel_rfl) ?_
    refine thenN ?_
    refine run_s (c22 13) (c22 20) (by kernel_rfl) ?_
    obtain ⟨r3, hr3, h⟩ := bindE h
    refine run1 (c22 15) [{}, { c := some (.bool r3, ⟨[], 0⟩) }] [0, 1, 18] [] (zipE [0, 1, 18] [.sl false (a0.map (SL E_GTone)), .i a1, .bool r3]) ⟨[], 0⟩ _ (by kernel_rfl) (cj1 (f55_ok a1 _ hr3 ⟨[], 0⟩)) ?_
    rcases iteE h with ⟨hc4, h⟩ | ⟨hc4, h⟩
    · refine run_cT 18 (c22 16) (c22 19) r3 hc4 (by kernel_rfl) (by kernel_rfl) ?_
      refine run1 (c22 18) [] [4, 5] [] (zipE [4, 5] [.sl true [], .i 1]) ⟨[], 0⟩ _ (by kernel_rfl) cj0 ?_
      refine run_i 0 [] [4, 5] [.sl true [], .i 1] (xs := [.sl false (([] : List (List GTone)).map (SL E_GTone)), .i 1]) (S2 := ⟨[], 0⟩) ?_ (by intro i e; cases e <;> exact Nat.le_of_ble_eq_true rfl) (by kernel_rfl) (by kernel_rfl) (by kernel_rfl) (.k (.s (cleanMap (([] : List (List GTone))) _ (cl_SL cl_GTone))) (.k (.c rfl) .z)) .z
      refine run_t (by kernel_rfl) ?_
      refine thenR ?_
      replace h := Option.some.inj h; subst h
      exact fin_r (by kernel_rfl) rfl
    · refine run_cF 18 (c22 16) (c22 19) r3 hc4 (by kernel_rfl) (by kernel_rfl) ?_
      refine run_k (by kernel_rfl) ?_
      refine thenN ?_
      refine run1 (c22 22) [] [0, 1, 7] [] (zipE [0, 1, 7] [.sl false (a0.map (SL E_GTone)), .i a1, .sl true []]) ⟨[], 0⟩ _ (by kernel_rfl) cj0 ?_
      refine run_s (c22 23) (c22 66) (by kernel_rfl) ?_
      refine run1 (c22 25) [] [0, 1, 7, 8] [] (zipE [0, 1, 7, 8] [.sl false (a0.map (SL E_GTone)), .i a1, .sl true [], .i 0]) ⟨[], 0⟩ _ (by kernel_rfl) cj0 ?_
      obtain ⟨ol1x, hll1x, h⟩ := bindE h
      refine run_tq (fun (l1x_7 : (List (List GTone))) => (zipE [7] [.ms 0 0 l1x_7.length])) (fun (l1x_7 : (List (List GTone))) => ⟨[(0, .cells 1 (l1x_7.map (SL E_GTone)))], 1⟩) (fun j => ol1x = .inl j) (fun kl1 => ?_) ?_
      · refine run_b 0 (c22 26) (by kernel_rfl) ?_
        refine run_l (c22 27) _ hll1x (fun ((l1_7, l1_8) : (List (List GTone) × Int)) => (zipE [0, 1, 7, 8] [.sl false (a0.map (SL E_GTone)), .i a1, .ms 0 0 l1_7.length, .i l1_8])) (fun ((l1_7, l1_8) : (List (List GTone) × Int)) => ⟨[(0, .cells 1 (l1_7.map (SL E_GTone)))], 1⟩) [(0, 1000000)] (by intro i e; cases e <;> exact Nat.le_of_ble_eq_true rfl) (by kernel_rfl) (mkInto (ks := [0, 1, 7, 8]) (ys := [.sl false (a0.map (SL E_GTone)), .i a1, .sl true [], .i 0]) (by kernel_rfl) (by kernel_rfl) (.k (.c (cleanMap _ _ (cl_SL cl_GTone))) (.k (.c rfl) (.k (.n) (.k (.c rfl) .z)))) (.n rfl rfl rfl .z)) ?_
        rintro ⟨l1_7, l1_8⟩ out hl1 rl1
        refine run_s (c22 28) (c22 33) (by kernel_rfl) ?_
        refine run1 (c22 30) [{}, {}, { k := 1, n := a0.length }] [0, 1, 7, 8, 22] [0] (zipE [0, 1, 7, 8, 22] [.sl false (a0.map (SL E_GTone)), .i a1, .ms 0 0 l1_7.length, .i l1_8, .bool (decide (l1_8 < (a0.length : Int)))]) ⟨[(0, .cells 1 (l1_7.map (SL E_GTone)))], 1⟩ _ (by kernel_rfl) (cj1 (mapLen a0 (SL E_GTone))) ?_
        rcases iteE hl1 with ⟨hc5, hl1⟩ | ⟨hc5, hl1⟩
        · refine run_cT 22 (c22 31) (c22 32) (decide (l1_8 < (a0.length : Int))) hc5 (by kernel_rfl) (by kernel_rfl) ?_
          refine run_k (by kernel_rfl) ?_
          refine thenN ?_
          refine run_s (c22 34) (c22 65) (by kernel_rfl) ?_
          refine run_b 1 (c22 35) (by kernel_rfl) ?_
          refine run1 (c22 37) [] [0, 1, 7, 8, 9] [0] (zipE [0, 1, 7, 8, 9] [.sl false (a0.map (SL E_GTone)), .i a1, .ms 0 0 l1_7.length, .i l1_8, .sl true []]) ⟨[(0, .cells 1 (l1_7.map (SL E_GTone)))], 1⟩ _ (by kernel_rfl) cj0 ?_
          refine run_s (c22 38) (c22 64) (by kernel_rfl) ?_
          refine run1 (c22 40) [] [0, 1, 7, 8, 9, 10] [0] (zipE [0, 1, 7, 8, 9, 10] [.sl false (a0.map (SL E_GTone)), .i a1, .ms 0 0 l1_7.length, .i l1_8, .sl true [], .i 0]) ⟨[(0, .cells 1 (l1_7.map (SL E_GTone)))], 1⟩ _ (by kernel_rfl) cj0 ?_
          obtain ⟨ol2x, hll2x, hl1⟩ := bindE hl1
          refine run_tq (fun (l2x_9 : (List GTone)) => (zipE [0, 1, 7, 8, 9] [.sl false (a0.map (SL E_GTone)), .i a1, .ms 0 0 l1_7.length, .i l1_8, .ms 1 0 l2x_9.length])) (fun (l2x_9 : (List GTone)) => ⟨[(1, .cells 3 (l2x_9.map E_GTone)), (0, .cells 1 (l1_7.map (SL E_GTone)))], 2⟩) (fun j => ol2x = .inl j) (fun kl2 => ?_) ?_
          · refine run_b 2 (c22 41) (by kernel_rfl) ?_
            refine run_l (c22 42) _ hll2x (fun ((l2_9, l2_10) : (List GTone × Int)) => (zipE [0, 1, 7, 8, 9, 10] [.sl false (a0.map (SL E_GTone)), .i a1, .ms 0 0 l1_7.length, .i l1_8, .ms 1 0 l2_9.length, .i l2_10])) (fun ((l2_9, l2_10) : (List GTone × Int)) => ⟨[(1, .cells 3 (l2_9.map E_GTone)), (0, .cells 1 (l1_7.map (SL E_GTone)))], 2⟩) [(1, 1000000)] (by intro i e; cases e <;> exact Nat.le_of_ble_eq_true rfl) (by kernel_rfl) (mkInto (ks := [0, 1, 7, 8, 9, 10]) (ys := [.sl false (a0.map (SL E_GTone)), .i a1, .ms 0 0 l1_7.length, .i l1_8, .sl true [], .i 0]) (by kernel_rfl) (by kernel_rfl) (.k (.c (cleanMap _ _ (cl_SL cl_GTone))) (.k (.c rfl) (.k (.ms rfl rfl) (.k (.c rfl) (.k (.n) (.k (.c rfl) .z)))))) (.n rfl rfl rfl (.k (x' := .cells 1 (l1_7.map (SL E_GTone))) (by kernel_rfl) (.cells (.r (cleanMap _ _ (cl_SL cl_GTone)))) .z))) ?_
            rintro ⟨l2_9, l2_10⟩ out hl2 rl2
            refine run_s (c22 43) (c22 48) (by kernel_rfl) ?_
            obtain ⟨y6, hy6, hl2⟩ := bindE hl2
            refine run1 (c22 45) [{}, {}, {}, { k := 1, x := (SL E_GTone) y6 }, {}, { k := 1, n := y6.length }] [0, 1, 7, 8, 9, 10, 31] [1, 0] (zipE [0, 1, 7, 8, 9, 10, 31] [.sl false (a0.map (SL E_GTone)), .i a1, .ms 0 0 l1_7.length, .i l1_8, .ms 1 0 l2_9.length, .i l2_10, .bool (decide (l2_10 < (y6.length : Int)))]) ⟨[(1, .cells 3 (l2_9.map E_GTone)), (0, .cells 1 (l1_7.map (SL E_GTone)))], 2⟩ _ (by kernel_rfl) (cjC ((ixE hy6).1) (cjC (mapGet (SL E_GTone) (ixE hy6).2) (cj1 (mapLen y6 E_GTone)))) ?_
            rcases iteE hl2 with ⟨hc7, hl2⟩ | ⟨hc7, hl2⟩
            · refine run_cT 31 (c22 46) (c22 47) (decide (l2_10 < (y6.length : Int))) hc7 (by kernel_rfl) (by kernel_rfl) ?_
              refine run_k (by kernel_rfl) ?_
              refine thenN ?_
              refine run_s (c22 49) (c22 63) (by kernel_rfl) ?_
              refine run_b 3 (c22 50) (by kernel_rfl) ?_
              obtain ⟨y8, hy8, hl2⟩ := bindE hl2
              refine run1 (c22 52) [{}, {}, { k := 1, x := (SL E_GTone) y6 }, {}, {}, { k := 1, x := E_GTone y8 }] [0, 1, 7, 8, 9, 10, 11] [2, 1, 0] (zipE [0, 1, 7, 8, 9, 10, 11] [.sl false (a0.map (SL E_GTone)), .i a1, .ms 0 0 l1_7.length, .i l1_8, .ms 1 0 l2_9.length, .i l2_10, .mp 2 0 0]) ⟨[(2, .cells 3 [E_GTone y8]), (1, .cells 3 (l2_9.map E_GTone)), (0, .cells 1 (l1_7.map (SL E_GTone)))], 3⟩ _ (by kernel_rfl) (cjC ((ixE hy6).1) (cjC (mapGet (SL E_GTone) (ixE hy6).2) (cjC ((ixE hy8).1) (cj1 (mapGet E_GTone (ixE hy8).2))))) ?_
              refine run1 (c22 54) [] [0, 1, 7, 8, 9, 10, 11] [2, 1, 0] (zipE [0, 1, 7, 8, 9, 10, 11] [.sl false (a0.map (SL E_GTone)), .i a1, .ms 0 0 l1_7.length, .i l1_8, .ms 1 0 l2_9.length, .i l2_10, .mp 2 0 0]) ⟨[(2, .cells 3 [.agg [.i (wr (y8.pitch + a1)), .i y8.from_, .i y8.to_]]), (1, .cells 3 (l2_9.map E_GTone)), (0, .cells 1 (l1_7.map (SL E_GTone)))], 3⟩ _ (by kernel_rfl) cj0 ?_
              refine run_s (c22 55) (c22 62) (by kernel_rfl) ?_
              obtain ⟨j3_53, hj3, hl2⟩ := bindE hl2
              refine run_gq (c22 57) (fun (j3_53 : Bool) => (zipE [0, 1, 7, 8, 9, 10, 11, 53] [.sl false (a0.map (SL E_GTone)), .i a1, .ms 0 0 l1_7.length, .i l1_8, .ms 1 0 l2_9.length, .i l2_10, .mp 2 0 0, .bool j3_53])) (fun (j3_53 : Bool) => ⟨[(2, .cells 3 [.agg [.i (wr (y8.pitch + a1)), .i y8.from_, .i y8.to_]]), (1, .cells 3 (l2_9.map E_GTone)), (0, .cells 1 (l1_7.map (SL E_GTone)))], 3⟩) (fun j => j3_53 = j) (fun kj3 => ?_) ?_
              · rcases iteE hj3 with ⟨hc9, hj3⟩ | ⟨hc9, hj3⟩
                · replace hj3 := Option.some.inj hj3; subst hj3
                  exact run1 (c22 57) [{}, {}, {}, {}, { g := false }, { g := false }, { g := false }, { k := 1, b := true }] [0, 1, 7, 8, 9, 10, 11, 53] [2, 1, 0] (zipE [0, 1, 7, 8, 9, 10, 11, 53] [.sl false (a0.map (SL E_GTone)), .i a1, .ms 0 0 l1_7.length, .i l1_8, .ms 1 0 l2_9.length, .i l2_10, .mp 2 0 0, .bool true]) ⟨[(2, .cells 3 [.agg [.i (wr (y8.pitch + a1)), .i y8.from_, .i y8.to_]]), (1, .cells 3 (l2_9.map E_GTone)), (0, .cells 1 (l1_7.map (SL E_GTone)))], 3⟩ _ (by kernel_rfl) (cjC (hc9) (cjC (hc9) (cjC (hc9) (cj1 (hc9))))) (kj3 true rfl)
                · replace hj3 := Option.some.inj hj3; subst hj3
                  exact run1 (c22 57) [{}, {}, {}, {}, {}, {}, {}, { k := 1, b := false }] [0, 1, 7, 8, 9, 10, 11, 53] [2, 1, 0] (zipE [0, 1, 7, 8, 9, 10, 11, 53] [.sl false (a0.map (SL E_GTone)), .i a1, .ms 0 0 l1_7.length, .i l1_8, .ms 1 0 l2_9.length, .i l2_10, .mp 2 0 0, .bool (decide (127 < (wr (y8.pitch + a1))))]) ⟨[(2, .cells 3 [.agg [.i (wr (y8.pitch + a1)), .i y8.from_, .i y8.to_]]), (1, .cells 3 (l2_9.map E_GTone)), (0, .cells 1 (l1_7.map (SL E_GTone)))], 3⟩ _ (by kernel_rfl) (cjC (hc9) (cjC (hc9) (cjC (hc9) (cj1 (hc9))))) (kj3 (decide (127 < (wr (y8.pitch + a1)))) rfl)
              · rintro _ rfl
                rcases iteE hl2 with ⟨hc10, hl2⟩ | ⟨hc10, hl2⟩
                · refine run_cT 53 (c22 58) (c22 61) j3_53 hc10 (by kernel_rfl) (by kernel_rfl) ?_
                  refine run1 (c22 60) [] [4, 5] [] (zipE [4, 5] [.sl true [], .i 80]) ⟨[], 3⟩ _ (by kernel_rfl) cj0 ?_
                  replace hl2 := Option.some.inj hl2; subst hl2
                  have hr := rl2 _ rfl
                  subst hr
                  replace hl1 := elimR hl1
                  replace hl1 := Option.some.inj hl1; subst hl1
                  have hr := rl1 _ rfl
                  subst hr
                  replace h := elimR h
                  refine run_i 3 [] [4, 5] [.sl true [], .i 80] (xs := [.sl false (([] : List (List GTone)).map (SL E_GTone)), .i 80]) (S2 := ⟨[], 3⟩) ?_ (by intro i e; cases e <;> exact Nat.le_of_ble_eq_true rfl) (by kernel_rfl) (by kernel_rfl) (by kernel_rfl) (.k (.s (cleanMap (([] : List (List GTone))) _ (cl_SL cl_GTone))) (.k (.c rfl) .z)) .z
                  refine run_t (by kernel_rfl) ?_
                  refine thenR ?_
                  refine inbR ?_
                  refine thenR ?_
                  refine ⟨⟨_, rfl⟩, ?_⟩
                  refine inbR ?_
                  refine thenR ?_
                  refine inbR ?_
                  refine thenR ?_
                  refine ⟨⟨_, rfl⟩, ?_⟩
                  refine inbR ?_
                  refine thenR ?_
                  replace h := Option.some.inj h; subst h
                  exact fin_r (by kernel_rfl) rfl
                · refine run_cF 53 (c22 58) (c22 61) j3_53 hc10 (by kernel_rfl) (by kernel_rfl) ?_
                  refine run_k (by kernel_rfl) ?_
                  refine thenN ?_
                  obtain ⟨hn11, hl2⟩ := needE hl2
                  refine run0 [{}, {}, {}, { k := 1, n := (l2_9 ++ [(⟨(wr (y8.pitch + a1)), y8.from_, y8.to_⟩ : GTone)]).length, l := (l2_9 ++ [(⟨(wr (y8.pitch + a1)), y8.from_, y8.to_⟩ : GTone)]).map E_GTone }] [0, 1, 7, 8, 9, 10] [3, 0] (zipE [0, 1, 7, 8, 9, 10] [.sl false (a0.map (SL E_GTone)), .i a1, .ms 0 0 l1_7.length, .i l1_8, .ms 3 0 (l2_9 ++ [(⟨(wr (y8.pitch + a1)), y8.from_, y8.to_⟩ : GTone)]).length, .i l2_10]) ⟨[(3, .cells 3 ((l2_9 ++ [(⟨(wr (y8.pitch + a1)), y8.from_, y8.to_⟩ : GTone)]).map E_GTone)), (0, .cells 1 (l1_7.map (SL E_GTone)))], 4⟩ _ (by kernel_rfl) (cjC (@List.cons_ne_nil AV (.agg [.i (wr (y8.pitch + a1)), .i y8.from_, .i y8.to_]) []) (cjC (mLe l2_9 E_GTone) (cjC (hn11) (cjC (lenA l2_9 ([(⟨(wr (y8.pitch + a1)), y8.from_, y8.to_⟩ : GTone)] : List GTone)) (cjC (appA l2_9 ([(⟨(wr (y8.pitch + a1)), y8.from_, y8.to_⟩ : GTone)] : List GTone) E_GTone) (cj1 (fitsOne (P := Tryz.prog) (t := 53) (x := .agg [.i (wr (y8.pitch + a1)), .i y8.from_, .i y8.to_]) (r := []) (by kernel_rfl)))))))) ?_
                  refine inbN ?_
                  refine thenN ?_
                  refine run0 [] [0, 1, 7, 8, 9, 10] [3, 0] (zipE [0, 1, 7, 8, 9, 10] [.sl false (a0.map (SL E_GTone)), .i a1, .ms 0 0 l1_7.length, .i l1_8, .ms 3 0 (l2_9 ++ [(⟨(wr (y8.pitch + a1)), y8.from_, y8.to_⟩ : GTone)]).length, .i (wr (l2_10 + 1))]) ⟨[(3, .cells 3 ((l2_9 ++ [(⟨(wr (y8.pitch + a1)), y8.from_, y8.to_⟩ : GTone)]).map E_GTone)), (0, .cells 1 (l1_7.map (SL E_GTone)))], 4⟩ _ (by kernel_rfl) cj0 ?_
                  replace hl2 := Option.some.inj hl2; subst hl2
                  exact ⟨_, rfl, pi [(1, 3)], mkInto (ks := [0, 1, 7, 8, 9, 10]) (ys := [.sl false (a0.map (SL E_GTone)), .i a1, .ms 0 0 l1_7.length, .i l1_8, .ms 3 0 (l2_9 ++ [(⟨(wr (y8.pitch + a1)), y8.from_, y8.to_⟩ : GTone)]).length, .i (wr (l2_10 + 1))]) (by kernel_rfl) (by kernel_rfl) (.k (.c (cleanMap _ _ (cl_SL cl_GTone))) (.k (.c rfl) (.k (.ms rfl rfl) (.k (.c rfl) (.k (.ms rfl rfl) (.k (.c rfl) .z)))))) (.k (x' := .cells 3 ((l2_9 ++ [(⟨(wr (y8.pitch + a1)), y8.from_, y8.to_⟩ : GTone)]).map E_GTone)) (by kernel_rfl) (.cells (.r (cleanMap _ _ cl_GTone))) (.k (x' := .cells 1 (l1_7.map (SL E_GTone))) (by kernel_rfl) (.cells (.r (cleanMap _ _ (cl_SL cl_GTone)))) .z))⟩
            · refine run_cF 31 (c22 46) (c22 47) (decide (l2_10 < (y6.length : Int))) hc7 (by kernel_rfl) (by kernel_rfl) ?_
              replace hl2 := Option.some.inj hl2; subst hl2
              have hr := rl2 _ rfl
              subst hr
              refine awp_p [0, 1, 7, 8, 9] [1, 0] (zipE [0, 1, 7, 8, 9] [.sl false (a0.map (SL E_GTone)), .i a1, .ms 0 0 l1_7.length, .i l1_8, .ms 1 0 l2_9.length]) ⟨[(1, .cells 3 (l2_9.map E_GTone)), (0, .cells 1 (l1_7.map (SL E_GTone)))], 2⟩ (by kernel_rfl) (?_)
              refine run_e 2 (by kernel_rfl) ?_
              refine thenE ?_
              refine ⟨⟨_, rfl⟩, ?_⟩
              refine inbE ?_
              exact kl2 l2_9 rfl
          · rintro l2x_9 rfl
            replace hl1 := elimL hl1
            refine thenN ?_
            refine run_z 1 3 (l2x_9.map E_GTone) [0, 1, 7, 8, 9] [.sl false (a0.map (SL E_GTone)), .i a1, .ms 0 0 l1_7.length, .i l1_8, .ms 1 0 l2x_9.length] (xs := [.sl false (a0.map (SL E_GTone)), .i a1, .ms 0 0 l1_7.length, .i l1_8, .sl false (l2x_9.map E_GTone)]) (S2 := ⟨[(0, .cells 1 (l1_7.map (SL E_GTone)))], 2⟩) ?_ (by kernel_rfl) (by kernel_rfl) (.k (.r _) (.k (.r _) (.k (.r _) (.k (.r _) (.k (.m (mLe l2x_9 E_GTone) (mapAll l2x_9 E_GTone)) .z))))) (.k (x' := .cells 1 (l1_7.map (SL E_GTone))) rfl (by kernel_rfl) (.r _) .z) rfl rfl
            obtain ⟨hn12, hl1⟩ := needE hl1
            refine run0 [{}, {}, {}, { k := 1, n := (l1_7 ++ [l2x_9]).length, l := (l1_7 ++ [l2x_9]).map (SL E_GTone) }] [0, 1, 7, 8] [2] (zipE [0, 1, 7, 8] [.sl false (a0.map (SL E_GTone)), .i a1, .ms 2 0 (l1_7 ++ [l2x_9]).length, .i l1_8]) ⟨[(2, .cells 1 ((l1_7 ++ [l2x_9]).map (SL E_GTone)))], 3⟩ _ (by kernel_rfl) (cjC (@List.cons_ne_nil AV (.sl false (l2x_9.map E_GTone)) []) (cjC (mLe l1_7 (SL E_GTone)) (cjC (hn12) (cjC (lenA l1_7 ([l2x_9] : List (List GTone))) (cjC (appA l1_7 ([l2x_9] : List (List GTone)) (SL E_GTone)) (cj1 (fitsOne (P := Tryz.prog) (t := 43) (x := .sl false (l2x_9.map E_GTone)) (r := []) (by kernel_rfl)))))))) ?_
            refine inbN ?_
            refine thenN ?_
            refine run0 [] [0, 1, 7, 8] [2] (zipE [0, 1, 7, 8] [.sl false (a0.map (SL E_GTone)), .i a1, .ms 2 0 (l1_7 ++ [l2x_9]).length, .i (wr (l1_8 + 1))]) ⟨[(2, .cells 1 ((l1_7 ++ [l2x_9]).map (SL E_GTone)))], 3⟩ _ (by kernel_rfl) cj0 ?_
            replace hl1 := Option.some.inj hl1; subst hl1
            exact ⟨_, rfl, pi [(0, 2)], mkInto (ks := [0, 1, 7, 8]) (ys := [.sl false (a0.map (SL E_GTone)), .i a1, .ms 2 0 (l1_7 ++ [l2x_9]).length, .i (wr (l1_8 + 1))]) (by kernel_rfl) (by kernel_rfl) (.k (.c (cleanMap _ _ (cl_SL cl_GTone))) (.k (.c rfl) (.k (.ms rfl rfl) (.k (.c rfl) .z)))) (.k (x' := .cells 1 ((l1_7 ++ [l2x_9]).map (SL E_GTone))) (by kernel_rfl) (.cells (.r (cleanMap _ _ (cl_SL cl_GTone)))) .z)⟩
        · refine run_cF 22 (c22 31) (c22 32) (decide (l1_8 < (a0.length : Int))) hc5 (by kernel_rfl) (by kernel_rfl) ?_
          replace hl1 := Option.some.inj hl1; subst hl1
          have hr := rl1 _ rfl
          subst hr
          refine awp_p [7] [0] (zipE [7] [.ms 0 0 l1_7.length]) ⟨[(0, .cells 1 (l1_7.map (SL E_GTone)))], 1⟩ (by kernel_rfl) (?_)
          refine run_e 0 (by kernel_rfl) ?_
          refine thenE ?_
          refine ⟨⟨_, rfl⟩, ?_⟩
          refine inbE ?_
          exact kl1 l1_7 rfl
      · rintro l1x_7 rfl
        replace h := elimL h
        refine thenN ?_
        refine run1 (c22 68) [] [4, 5] [0] (zipE [4, 5] [.ms 0 0 l1x_7.length, .i 0]) ⟨[(0, .cells 1 (l1x_7.map (SL E_GTone)))], 1⟩ _ (by kernel_rfl) cj0 ?_
        refine run_z 0 1 (l1x_7.map (SL E_GTone)) [4, 5] [.ms 0 0 l1x_7.length, .i 0] (xs := [.sl false (l1x_7.map (SL E_GTone)), .i 0]) (S2 := ⟨[], 1⟩) ?_ (by kernel_rfl) (by kernel_rfl) (.k (.m (mLe l1x_7 (SL E_GTone)) (mapAll l1x_7 (SL E_GTone))) (.k (.r _) .z)) .z rfl rfl
        refine run_t (by kernel_rfl) ?_
        replace h := Option.some.inj h; subst h
        exact fin_r (by kernel_rfl) rfl

/-- theorbo.theorbolaw08.SameParts -/
def f23 (a0 : List (List GTone)) (a1 : List (List GTone)) : Option Bool := bif (decide ((a0.length : Int) ≠ (a1.length : Int))) then (some false) else ((loopN (σ := Int) (τ := (Unit ⊕ Bool)) (fun (l1_5 : Int) => bif (decide (l1_5 < (a0.length : Int))) then ((ix a0 l1_5).bind fun y3 => (ix a1 l1_5).bind fun y4 => (f33 y3 y4).bind fun r5 => bif (!r5) then (some (.inr (.inr false))) else (some (.inl (wr (l1_5 + 1))))) else (some (.inr (.inl ())))) FUEL 0).bind (Sum.elim (fun (_ : Unit) => some true) some))
theorem f23_ok (a0 : List (List GTone)) (a1 : List (List GTone)) (r : Bool) (h : f23 a0 a1 = some r) : APure Tryz.prog 23 [.sl false (a0.map (SL E_GTone)), .sl false (a1.map (SL E_GTone))] (.bool r) := by
  refine apure (clK (cleanMap a0 _ (cl_SL cl_GTone)) (clK (cleanMap a1 _ (cl_SL cl_GTone)) clZ)) rfl ?_
  refine run_f 27 [.tmp 4] (c23 0) (zipE [0, 1] [.sl false (a0.map (SL E_GTone)), .sl false (a1.map (SL E_GTone))]) (by kernel_rfl) (by kernel_rfl) (by kernel_rfl) rfl ?_
  unfold f23 at h
  refine run1 (c23 2) [] [0, 1] [] (zipE [0, 1] [.sl false (a0.map (SL E_GTone)), .sl false (a1.map (SL E_GTone))]) ⟨[], 0⟩ _ (by kernel_rfl) cj0 ?_
  refine run_s (c23 3) (c23 10) (by kernel_rfl) ?_
  refine run1 (c23 5) [{}, { k := 1, n := a0.length }, {}, { k := 1, n := a1.length }] [0, 1, 10] [] (zipE [0, 1, 10] [.sl false (a0.map (SL E_GTone)), .sl false (a1.map (SL E_GTone)), .bool (decide ((a0.length : Int) ≠ (a1.length : Int)))]) ⟨[], 0⟩ _ (by kernel_rfl) (cjC (mapLen a0 (SL E_GTone)) (cj1 (mapLen a1 (SL E_GTone)))) ?_
  rcases iteE h with ⟨hc1, h⟩ | ⟨hc1, h⟩
  · refine run_cT 10 (c23 6) (c23 9) (decide ((a0.length : Int) ≠ (a1.length : Int))) hc1 (by kernel_rfl) (by kernel_rfl) ?_
    refine run1 (c23 8) [] [4] [] (zipE [4] [.bool false]) ⟨[], 0⟩ _ (by kernel_rfl) cj0 ?_
    refine run_t (by kernel_rfl) ?_
    refine thenR ?_
    replace h := Option.some.inj h; subst h
    exact fin_r (by kernel_rfl) rfl
  · refine run_cF 10 (c23 6) (c23 9) (decide ((a0.length : Int) ≠ (a1.length : Int))) hc1 (by kernel_rfl) (by kernel_rfl) ?_
    refine run_k (by kernel_rfl) ?_
    refine thenN ?_
    refine run_s (c23 11) (c23 31) (by kernel_rfl) ?_
    refine run1 (c23 13) [] [0, 1, 5] [] (zipE [0, 1, 5] [.sl false (a0.map (SL E_GTone)), .sl false (a1.map (SL E_GTone)), .i 0]) ⟨[], 0⟩ _ (by kernel_rfl) cj0 ?_
    obtain ⟨ol1x, hll1x, h⟩ := bindE h
    refine run_tq (fun (_ : Unit) => (zipE [] [])) (fun (_ : Unit) => ⟨[], 0⟩) (fun j => ol1x = .inl j) (fun kl1 => ?_) ?_
    · refine run_b 0 (c23 14) (by kernel_rfl) ?_
      refine run_l (c23 15) _ hll1x (fun (l1_5 : Int) => (zipE [0, 1, 5] [.sl false (a0.map (SL E_GTone)), .sl false (a1.map (SL E_GTone)), .i l1_5])) (fun (l1_5 : Int) => ⟨[], 0⟩) [] (by intro i e; cases e <;> exact Nat.le_of_ble_eq_true rfl) (by kernel_rfl) (mkInto (ks := [0, 1, 5]) (ys := [.sl false (a0.map (SL E_GTone)), .sl false (a1.map (SL E_GTone)), .i 0]) (by kernel_rfl) (by kernel_rfl) (.k (.c (cleanMap _ _ (cl_SL cl_GTone))) (.k (.c (cleanMap _ _ (cl_SL cl_GTone))) (.k (.c rfl) .z))) .z) ?_
      rintro l1_5 out hl1 rl1
      refine run_s (c23 16) (c23 21) (by kernel_rfl) ?_
      refine run1 (c23 18) [{}, {}, { k := 1, n := a0.length }] [0, 1, 5, 14] [] (zipE [0, 1, 5, 14] [.sl false (a0.map (SL E_GTone)), .sl false (a1.map (SL E_GTone)), .i l1_5, .bool (decide (l1_5 < (a0.length : Int)))]) ⟨[], 0⟩ _ (by kernel_rfl) (cj1 (mapLen a0 (SL E_GTone))) ?_
      rcases iteE hl1 with ⟨hc2, hl1⟩ | ⟨hc2, hl1⟩
      · refine run_cT 14 (c23 19) (c23 20) (decide (l1_5 < (a0.length : Int))) hc2 (by kernel_rfl) (by kernel_rfl) ?_
        refine run_k (by kernel_rfl) ?_
        refine thenN ?_
        refine run_s (c23 22) (c23 30) (by kernel_rfl) ?_
        refine run_b 1 (c23 23) (by kernel_rfl) ?_
        obtain ⟨y3, hy3, hl1⟩ := bindE hl1
        obtain ⟨y4, hy4, hl1⟩ := bindE hl1
        obtain ⟨r5, hr5, hl1⟩ := bindE hl1
        refine yun1 (c23 25) [[], [], [0, 1], [0, 1, 2], [], [], [4, 5], [4, 5, 6], [0, 1, 2, 3, 4, 5, 6, 7], [0, 1, 2, 3, 4, 5, 6, 7, 8]] [.light 0 false, .light 1 false, .light 2 false, .light 3 false, .light 4 false, .light 5 false, .light 6 false, .light 7 false, .heavy 8 [], .light 9 false] [{}, {}, { k := 1, x := (SL E_GTone) y3 }, {}, {}, {}, { k := 1, x := (SL E_GTone) y4 }, {}, { c := some (.bool r5, ⟨[], 0⟩) }] [0, 1, 5, 26] [] (zipE [0, 1, 5, 26] [.sl false (a0.map (SL E_GTone)), .sl false (a1.map (SL E_GTone)), .i l1_5, .bool (!r5)]) ⟨[], 0⟩ _ (by kernel_rfl) (cjC ((ixE hy3).1) (cjC (mapGet (SL E_GTone) (ixE hy3).2) (cjC ((ixE hy4).1) (cjC (mapGet (SL E_GTone) (ixE hy4).2) (cj1 (f33_ok y3 y4 _ hr5 ⟨[], 0⟩)))))) ?_
        rcases iteE hl1 with ⟨hc6, hl1⟩ | ⟨hc6, hl1⟩
        · refine run_cT 26 (c23 26) (c23 29) (!r5) hc6 (by kernel_rfl) (by kernel_rfl) ?_
          refine run1 (c23 28) [] [4] [] (zipE [4] [.bool false]) ⟨[], 0⟩ _ (by kernel_rfl) cj0 ?_
          replace hl1 := Option.some.inj hl1; subst hl1
          have hr := rl1 _ rfl
          subst hr
          replace h := elimR h
          refine run_t (by kernel_rfl) ?_
          refine inbR ?_
          refine thenR ?_
          refine ⟨⟨_, rfl⟩, ?_⟩
          refine inbR ?_
          refine thenR ?_
          replace h := Option.some.inj h; subst h
          exact fin_r (by kernel_rfl) rfl
        · refine run_cF 26 (c23 26) (c23 29) (!r5) hc6 (by kernel_rfl) (by kernel_rfl) ?_
          refine run_k (by kernel_rfl) ?_
          refine inbN ?_
          refine thenN ?_
          refine run0 [] [0, 1, 5] [] (zipE [0, 1, 5] [.sl false (a0.map (SL E_GTone)), .sl false (a1.map (SL E_GTone)), .i (wr (l1_5 + 1))]) ⟨[], 0⟩ _ (by kernel_rfl) cj0 ?_
          replace hl1 := Option.some.inj hl1; subst hl1
          exact ⟨_, rfl, pi [], mkInto (ks := [0, 1, 5]) (ys := [.sl false (a0.map (SL E_GTone)), .sl false (a1.map (SL E_GTone)), .i (wr (l1_5 + 1))]) (by kernel_rfl) (by kernel_rfl) (.k (.c (cleanMap _ _ (cl_SL cl_GTone))) (.k (.c (cleanMap _ _ (cl_SL cl_GTone))) (.k (.c rfl) .z))) .z⟩
      · refine run_cF 14 (c23 19) (c23 20) (decide (l1_5 < (a0.length : Int))) hc2 (by kernel_rfl) (by kernel_rfl) ?_
        replace hl1 := Option.some.inj hl1; subst hl1
        have hr := rl1 _ rfl
        subst hr
        refine awp_p [] [] (zipE [] []) ⟨[], 0⟩ (by kernel_rfl) (?_)
        refine run_e 0 (by kernel_rfl) ?_
        refine thenE ?_
        refine ⟨⟨_, rfl⟩, ?_⟩
        refine inbE ?_
        exact kl1 () rfl
    · rintro ⟨⟩ rfl
      replace h := elimL h
      refine thenN ?_
      refine run1 (c23 33) [] [4] [] (zipE [4] [.bool true]) ⟨[], 0⟩ _ (by kernel_rfl) cj0 ?_
      refine run_t (by kernel_rfl) ?_
      replace h := Option.some.inj h; subst h
      exact fin_r (by kernel_rfl) rfl

/-- theorbo.theorboref01.Check -/
def f44 (a0 : GInstrument) : Option Int := ((bif (decide (14 < (a0.courses.length : Int))) then (some true) else (some (decide (18 < (a0.steps.length : Int))))) : Option Bool).bind fun (j1_17 : Bool) => bif j1_17 then (some 2) else (bif (decide ((a0.courses.length : Int) = 0)) then (some 11) else ((loopN (σ := (Int × Int)) (τ := (Unit ⊕ Int)) (fun ((l2_3, l2_4) : (Int × Int)) => bif (decide (l2_4 < (a0.steps.length : Int))) then ((((ix a0.steps l2_4).bind fun y5 => bif (decide (y5 ≤ l2_3)) then (some true) else (some (decide (127 < y5)))) : Option Bool).bind fun (j3_43 : Bool) => bif j3_43 then (some (.inr (.inr 11))) else ((ix a0.steps l2_4).bind fun y8 => some (.inl (y8, (wr (l2_4 + 1)))))) else (some (.inr (.inl ())))) FUEL (0, 0)).bind (Sum.elim (fun (_ : Unit) => (loopN (σ := Int) (τ := (Unit ⊕ Int)) (fun (l4_5 : Int) => bif (decide (l4_5 < (a0.courses.length : Int))) then ((ix a0.courses l4_5).bind fun y10 => ((bif (decide (y10.frets < 0)) then (some true) else (some (decide ((a0.steps.length : Int) < y10.frets)))) : Option Bool).bind fun (j5_71 : Bool) => bif j5_71 then (some (.inr (.inr 13))) else (((bif (decide (y10.pitch < 0)) then (some true) else (some (decide (127 < y10.pitch)))) : Option Bool).bind fun (j6_79 : Bool) => bif j6_79 then (some (.inr (.inr 10))) else (((bif (decide (0 < y10.frets)) then ((ix a0.steps (wr (y10.frets - 1))).bind fun y16 => some (wr (y10.pitch + y16))) else (some y10.pitch)) : Option Int).bind fun (j7_7 : Int) => ((bif y10.octave then (some (wr (j7_7 + 12))) else (some j7_7)) : Option Int).bind fun (j8_7 : Int) => bif (decide (127 < j8_7)) then (some (.inr (.inr 10))) else (some (.inl (wr (l4_5 + 1))))))) else (some (.inr (.inl ())))) FUEL 0).bind (Sum.elim (fun (_ : Unit) => some 0) some)) some)))
theorem f44_ok (a0 : GInstrument) (r : Int) (h : f44 a0 = some r) : APure Tryz.prog 44 [E_GInstrument a0] (.i r) := by
  refine apure (clK (cl_GInstrument a0) clZ) rfl ?_
  refine run_f 100 [.tmp 2] (c44 0) (zipE [0] [E_GInstrument a0]) (by kernel_rfl) (by kernel_rfl) (by kernel_rfl) rfl ?_
  unfold f44 at h
  refine run1 (c44 2) [] [1] [0] (zipE [1] [.mp 0 0 0]) ⟨[(0, .cells 2 [E_GInstrument a0])], 1⟩ _ (by kernel_rfl) cj0 ?_
  refine run_s (c44 3) (c44 10) (by kernel_rfl) ?_
  obtain ⟨j1_17, hj1, h⟩ := bindE h
  refine run_gq (c44 5) (fun (j1_17 : Bool) => (zipE [1, 17] [.mp 0 0 0, .bool j1_17])) (fun (j1_17 : Bool) => ⟨[(0, .cells 2 [E_GInstrument a0])], 1⟩) (fun j => j1_17 = j) (fun kj1 => ?_) ?_
  · rcases iteE hj1 with ⟨hc1, hj1⟩ | ⟨hc1, hj1⟩
    · replace hj1 := Option.some.inj hj1; subst hj1
      exact run1 (c44 5) [{}, {}, { k := 1, n := a0.courses.length }, {}, {}, { g := false }, { g := false }, { g := false }, { g := false }, { k := 1, b := true }] [1, 17] [0] (zipE [1, 17] [.mp 0 0 0, .bool true]) ⟨[(0, .cells 2 [E_GInstrument a0])], 1⟩ _ (by kernel_rfl) (cjC (mapLen a0.courses E_GCourse) (cjC (hc1) (cjC (hc1) (cjC (hc1) (cjC (hc1) (cj1 (hc1))))))) (kj1 true rfl)
    · replace hj1 := Option.some.inj hj1; subst hj1
      exact run1 (c44 5) [{}, {}, { k := 1, n := a0.courses.length }, {}, {}, {}, {}, { k := 1, n := a0.steps.length }, {}, { k := 1, b := false }] [1, 17] [0] (zipE [1, 17] [.mp 0 0 0, .bool (decide (18 < (a0.steps.length : Int)))]) ⟨[(0, .cells 2 [E_GInstrument a0])], 1⟩ _ (by kernel_rfl) (cjC (mapLen a0.courses E_GCourse) (cjC (hc1) (cjC (hc1) (cjC (hc1) (cjC (mapLen a0.steps AV.i) (cjC (hc1) (cj1 (hc1)))))))) (kj1 (decide (18 < (a0.steps.length : Int))) rfl)
  · rintro _ rfl
    rcases iteE h with ⟨hc2, h⟩ | ⟨hc2, h⟩
    · refine run_cT 17 (c44 6) (c44 9) j1_17 hc2 (by kernel_rfl) (by kernel_rfl) ?_
      refine run1 (c44 8) [] [2] [] (zipE [2] [.i 2]) ⟨[], 1⟩ _ (by kernel_rfl) cj0 ?_
      refine run_t (by kernel_rfl) ?_
      refine thenR ?_
      replace h := Option.some.inj h; subst h
      exact fin_r (by kernel_rfl) rfl
    · refine run_cF 17 (c44 6) (c44 9) j1_17 hc2 (by kernel_rfl) (by kernel_rfl) ?_
      refine run_k (by kernel_rfl) ?_
      refine thenN ?_
      refine run_s (c44 11) (c44 18) (by kernel_rfl) ?_
      refine run1 (c44 13) [{}, {}, { k := 1, n := a0.courses.length }] [1, 21] [0] (zipE [1, 21] [.mp 0 0 0, .bool (decide ((a0.courses.length : Int) = 0))]) ⟨[(0, .cells 2 [E_GInstrument a0])], 1⟩ _ (by kernel_rfl) (cj1 (mapLen a0.courses E_GCourse)) ?_
      rcases iteE h with ⟨hc3, h⟩ | ⟨hc3, h⟩
      · refine run_cT 21 (c44 14) (c44 17) (decide ((a0.courses.length : Int) = 0)) hc3 (by kernel_rfl) (by kernel_rfl) ?_
        refine run1 (c44 16) [] [2] [] (zipE [2] [.i 11]) ⟨[], 1⟩ _ (by kernel_rfl) cj0 ?_
        refine run_t (by kernel_rfl) ?_
        refine thenR ?_
        replace h := Option.some.inj h; subst h
        exact fin_r (by kernel_rfl) rfl
      · refine run_cF 21 (c44 14) (c44 17) (decide ((a0.courses.length : Int) = 0)) hc3 (by kernel_rfl) (by kernel_rfl) ?_
        refine run_k (by kernel_rfl) ?_
        refine thenN ?_
        refine run1 (c44 20) [] [1, 3] [0] (zipE [1, 3] [.mp 0 0 0, .i 0]) ⟨[(0, .cells 2 [E_GInstrument a0])], 1⟩ _ (by kernel_rfl) cj0 ?_
        refine run_s (c44 21) (c44 43) (by kernel_rfl) ?_
        refine run1 (c44 23) [] [1, 3, 4] [0] (zipE [1, 3, 4] [.mp 0 0 0, .i 0, .i 0]) ⟨[(0, .cells 2 [E_GInstrument a0])], 1⟩ _ (by kernel_rfl) cj0 ?_
        obtain ⟨ol2x, hll2x, h⟩ := bindE h
        refine run_tq (fun (_ : Unit) => (zipE [1] [.mp 0 0 0])) (fun (_ : Unit) => ⟨[(0, .cells 2 [E_GInstrument a0])], 1⟩) (fun j => ol2x = .inl j) (fun kl2 => ?_) ?_
        · refine run_b 0 (c44 24) (by kernel_rfl) ?_
          refine run_l (c44 25) _ hll2x (fun ((l2_3, l2_4) : (Int × Int)) => (zipE [1, 3, 4] [.mp 0 0 0, .i l2_3, .i l2_4])) (fun ((l2_3, l2_4) : (Int × Int)) => ⟨[(0, .cells 2 [E_GInstrument a0])], 1⟩) [] (by intro i e; cases e <;> exact Nat.le_of_ble_eq_true rfl) (by kernel_rfl) (mkInto (ks := [1, 3, 4]) (ys := [.mp 0 0 0, .i 0, .i 0]) (by kernel_rfl) (by kernel_rfl) (.k (.mp rfl rfl) (.k (.c rfl) (.k (.c rfl) .z))) (.k (x' := .cells 2 [E_GInstrument a0]) (by kernel_rfl) (.cells (.k (.c (cl_GInstrument a0)) .z)) .z)) ?_
          rintro ⟨l2_3, l2_4⟩ out hl2 rl2
          refine run_s (c44 26) (c44 31) (by kernel_rfl) ?_
          refine run1 (c44 28) [{}, {}, {}, { k := 1, n := a0.steps.length }] [1, 3, 4, 26] [0] (zipE [1, 3, 4, 26] [.mp 0 0 0, .i l2_3, .i l2_4, .bool (decide (l2_4 < (a0.steps.length : Int)))]) ⟨[(0, .cells 2 [E_GInstrument a0])], 1⟩ _ (by kernel_rfl) (cj1 (mapLen a0.steps AV.i)) ?_
          rcases iteE hl2 with ⟨hc4, hl2⟩ | ⟨hc4, hl2⟩
          · refine run_cT 26 (c44 29) (c44 30) (decide (l2_4 < (a0.steps.length : Int))) hc4 (by kernel_rfl) (by kernel_rfl) ?_
            refine run_k (by kernel_rfl) ?_
            refine thenN ?_
            refine run_s (c44 32) (c44 42) (by kernel_rfl) ?_
            refine run_b 1 (c44 33) (by kernel_rfl) ?_
            refine run_s (c44 34) (c44 41) (by kernel_rfl) ?_
            obtain ⟨j3_43, hj3, hl2⟩ := bindE hl2
            refine run_gq (c44 36) (fun (j3_43 : Bool) => (zipE [1, 4, 43] [.mp 0 0 0, .i l2_4, .bool j3_43])) (fun (j3_43 : Bool) => ⟨[(0, .cells 2 [E_GInstrument a0])], 1⟩) (fun j => j3_43 = j) (fun kj3 => ?_) ?_
            · obtain ⟨y5, hy5, hj3⟩ := bindE hj3
              rcases iteE hj3 with ⟨hc6, hj3⟩ | ⟨hc6, hj3⟩
              · replace hj3 := Option.some.inj hj3; subst hj3
                exact run1 (c44 36) [{}, {}, {}, { k := 1, x := AV.i y5 }, {}, {}, {}, {}, { g := false }, { g := false }, { g := false }, { g := false }, { g := false }, { g := false }, { k := 1, b := true }] [1, 4, 43] [0] (zipE [1, 4, 43] [.mp 0 0 0, .i l2_4, .bool true]) ⟨[(0, .cells 2 [E_GInstrument a0])], 1⟩ _ (by kernel_rfl) (cjC ((ixE hy5).1) (cjC (mapGet AV.i (ixE hy5).2) (cjC (hc6) (cjC (hc6) (cjC (hc6) (cjC (hc6) (cjC (hc6) (cjC (hc6) (cj1 (hc6)))))))))) (kj3 true rfl)
              · replace hj3 := Option.some.inj hj3; subst hj3
                exact run1 (c44 36) [{}, {}, {}, { k := 1, x := AV.i y5 }, {}, {}, {}, {}, {}, {}, {}, { k := 1, x := AV.i y5 }, {}, {}, { k := 1, b := false }] [1, 4, 43] [0] (zipE [1, 4, 43] [.mp 0 0 0, .i l2_4, .bool (decide (127 < y5))]) ⟨[(0, .cells 2 [E_GInstrument a0])], 1⟩ _ (by kernel_rfl) (cjC ((ixE hy5).1) (cjC (mapGet AV.i (ixE hy5).2) (cjC (hc6) (cjC (hc6) (cjC (hc6) (cjC (hc6) (cjC ((ixE hy5).1) (cjC (mapGet AV.i (ixE hy5).2) (cjC (hc6) (cjC (hc6) (cj1 (hc6)))))))))))) (kj3 (decide (127 < y5)) rfl)
            · rintro _ rfl
              rcases iteE hl2 with ⟨hc7, hl2⟩ | ⟨hc7, hl2⟩
              · refine run_cT 43 (c44 37) (c44 40) j3_43 hc7 (by kernel_rfl) (by kernel_rfl) ?_
                refine run1 (c44 39) [] [2] [] (zipE [2] [.i 11]) ⟨[], 1⟩ _ (by kernel_rfl) cj0 ?_
                replace hl2 := Option.some.inj hl2; subst hl2
                have hr := rl2 _ rfl
                subst hr
                replace h := elimR h
                refine run_t (by kernel_rfl) ?_
                refine thenR ?_
                refine inbR ?_
                refine thenR ?_
                refine ⟨⟨_, rfl⟩, ?_⟩
                refine inbR ?_
                refine thenR ?_
                replace h := Option.some.inj h; subst h
                exact fin_r (by kernel_rfl) rfl
              · refine run_cF 43 (c44 37) (c44 40) j3_43 hc7 (by kernel_rfl) (by kernel_rfl) ?_
                refine run_k (by kernel_rfl) ?_
                refine thenN ?_
                obtain ⟨y8, hy8, hl2⟩ := bindE hl2
                refine run0 [{}, {}, {}, { k := 1, x := AV.i y8 }] [1, 3, 4] [0] (zipE [1, 3, 4] [.mp 0 0 0, .i y8, .i l2_4]) ⟨[(0, .cells 2 [E_GInstrument a0])], 1⟩ _ (by kernel_rfl) (cjC ((ixE hy8).1) (cj1 (mapGet AV.i (ixE hy8).2))) ?_
                refine inbN ?_
                refine thenN ?_
                refine run0 [] [1, 3, 4] [0] (zipE [1, 3, 4] [.mp 0 0 0, .i y8, .i (wr (l2_4 + 1))]) ⟨[(0, .cells 2 [E_GInstrument a0])], 1⟩ _ (by kernel_rfl) cj0 ?_
                replace hl2 := Option.some.inj hl2; subst hl2
                exact ⟨_, rfl, pi [], mkInto (ks := [1, 3, 4]) (ys := [.mp 0 0 0, .i y8, .i (wr (l2_4 + 1))]) (by kernel_rfl) (by kernel_rfl) (.k (.mp rfl rfl) (.k (.c rfl) (.k (.c rfl) .z))) (.k (x' := .cells 2 [E_GInstrument a0]) (by kernel_rfl) (.cells (.k (.c (cl_GInstrument a0)) .z)) .z)⟩
          · refine run_cF 26 (c44 29) (c44 30) (decide (l2_4 < (a0.steps.length : Int))) hc4 (by kernel_rfl) (by kernel_rfl) ?_
            replace hl2 := Option.some.inj hl2; subst hl2
            have hr := rl2 _ rfl
            subst hr
            refine awp_p [1] [0] (zipE [1] [.mp 0 0 0]) ⟨[(0, .cells 2 [E_GInstrument a0])], 1⟩ (by kernel_rfl) (?_)
            refine run_e 0 (by kernel_rfl) ?_
            refine thenE ?_
            refine ⟨⟨_, rfl⟩, ?_⟩
            refine inbE ?_
            exact kl2 () rfl
        · rintro ⟨⟩ rfl
          replace h := elimL h
          refine thenN ?_
          refine run_s (c44 44) (c44 96) (by kernel_rfl) ?_
          refine run1 (c44 46) [] [1, 5] [0] (zipE [1, 5] [.mp 0 0 0, .i 0]) ⟨[(0, .cells 2 [E_GInstrument a0])], 1⟩ _ (by kernel_rfl) cj0 ?_
          obtain ⟨ol4x, hll4x, h⟩ := bindE h
          refine run_tq (fun (_ : Unit) => (zipE [] [])) (fun (_ : Unit) => ⟨[], 1⟩) (fun j => ol4x = .inl j) (fun kl4 => ?_) ?_
          · refine run_b 2 (c44 47) (by kernel_rfl) ?_
            refine run_l (c44 48) _ hll4x (fun (l4_5 : Int) => (zipE [1, 5] [.mp 0 0 0, .i l4_5])) (fun (l4_5 : Int) => ⟨[(0, .cells 2 [E_GInstrument a0])], 1⟩) [] (by intro i e; cases e <;> exact Nat.le_of_ble_eq_true rfl) (by kernel_rfl) (mkInto (ks := [1, 5]) (ys := [.mp 0 0 0, .i 0]) (by kernel_rfl) (by kernel_rfl) (.k (.mp rfl rfl) (.k (.c rfl) .z)) (.k (x' := .cells 2 [E_GInstrument a0]) (by kernel_rfl) (.cells (.k (.c (cl_GInstrument a0)) .z)) .z)) ?_
            rintro l4_5 out hl4 rl4
            refine run_s (c44 49) (c44 54) (by kernel_rfl) ?_
            refine run1 (c44 51) [{}, {}, {}, { k := 1, n := a0.courses.length }] [1, 5, 53] [0] (zipE [1, 5, 53] [.mp 0 0 0, .i l4_5, .bool (decide (l4_5 < (a0.courses.length : Int)))]) ⟨[(0, .cells 2 [E_GInstrument a0])], 1⟩ _ (by kernel_rfl) (cj1 (mapLen a0.courses E_GCourse)) ?_
            rcases iteE hl4 with ⟨hc9, hl4⟩ | ⟨hc9, hl4⟩
            · refine run_cT 53 (c44 52) (c44 53) (decide (l4_5 < (a0.courses.length : Int))) hc9 (by kernel_rfl) (by kernel_rfl) ?_
              refine run_k (by kernel_rfl) ?_
              refine thenN ?_
              refine run_s (c44 55) (c44 95) (by kernel_rfl) ?_
              refine run_b 3 (c44 56) (by kernel_rfl) ?_
              obtain ⟨y10, hy10, hl4⟩ := bindE hl4
              refine run1 (c44 58) [{}, {}, {}, { k := 1, x := E_GCourse y10 }] [1, 5, 6] [1, 0] (zipE [1, 5, 6] [.mp 0 0 0, .i l4_5, .mp 1 0 0]) ⟨[(1, .cells 3 [E_GCourse y10]), (0, .cells 2 [E_GInstrument a0])], 2⟩ _ (by kernel_rfl) (cjC ((ixE hy10).1) (cj1 (mapGet E_GCourse (ixE hy10).2))) ?_
              refine run_s (c44 59) (c44 66) (by kernel_rfl) ?_
              obtain ⟨j5_71, hj5, hl4⟩ := bindE hl4
              refine run_gq (c44 61) (fun (j5_71 : Bool) => (zipE [1, 5, 6, 71] [.mp 0 0 0, .i l4_5, .mp 1 0 0, .bool j5_71])) (fun (j5_71 : Bool) => ⟨[(1, .cells 3 [E_GCourse y10]), (0, .cells 2 [E_GInstrument a0])], 2⟩) (fun j => j5_71 = j) (fun kj5 => ?_) ?_
              · rcases iteE hj5 with ⟨hc11, hj5⟩ | ⟨hc11, hj5⟩
                · replace hj5 := Option.some.inj hj5; subst hj5
                  exact run1 (c44 61) [{}, {}, {}, {}, { g := false }, { g := false }, { g := false }, { g := false }, { g := false }, { g := false }, { k := 1, b := true }] [1, 5, 6, 71] [1, 0] (zipE [1, 5, 6, 71] [.mp 0 0 0, .i l4_5, .mp 1 0 0, .bool true]) ⟨[(1, .cells 3 [E_GCourse y10]), (0, .cells 2 [E_GInstrument a0])], 2⟩ _ (by kernel_rfl) (cjC (hc11) (cjC (hc11) (cjC (hc11) (cjC (hc11) (cjC (hc11) (cjC (hc11) (cj1 (hc11)))))))) (kj5 true rfl)
                · replace hj5 := Option.some.inj hj5; subst hj5
                  exact run1 (c44 61) [{}, {}, {}, {}, {}, {}, {}, {}, { k := 1, n := a0.steps.length }, {}, { k := 1, b := false }] [1, 5, 6, 71] [1, 0] (zipE [1, 5, 6, 71] [.mp 0 0 0, .i l4_5, .mp 1 0 0, .bool (decide ((a0.steps.length : Int) < y10.frets))]) ⟨[(1, .cells 3 [E_GCourse y10]), (0, .cells 2 [E_GInstrument a0])], 2⟩ _ (by kernel_rfl) (cjC (hc11) (cjC (hc11) (cjC (hc11) (cjC (hc11) (cjC (hc11) (cjC (mapLen a0.steps AV.i) (cjC (hc11) (cj1 (hc11))))))))) (kj5 (decide ((a0.steps.length : Int) < y10.frets)) rfl)
              · rintro _ rfl
                rcases iteE hl4 with ⟨hc12, hl4⟩ | ⟨hc12, hl4⟩
                · refine run_cT 71 (c44 62) (c44 65) j5_71 hc12 (by kernel_rfl) (by kernel_rfl) ?_
                  refine run1 (c44 64) [] [2] [] (zipE [2] [.i 13]) ⟨[], 2⟩ _ (by kernel_rfl) cj0 ?_
                  replace hl4 := Option.some.inj hl4; subst hl4
                  have hr := rl4 _ rfl
                  subst hr
                  replace h := elimR h
                  refine run_t (by kernel_rfl) ?_
                  refine thenR ?_
                  refine inbR ?_
                  refine thenR ?_
                  refine ⟨⟨_, rfl⟩, ?_⟩
                  refine inbR ?_
                  refine thenR ?_
                  replace h := Option.some.inj h; subst h
                  exact fin_r (by kernel_rfl) rfl
                · refine run_cF 71 (c44 62) (c44 65) j5_71 hc12 (by kernel_rfl) (by kernel_rfl) ?_
                  refine run_k (by kernel_rfl) ?_
                  refine thenN ?_
                  refine run_s (c44 67) (c44 74) (by kernel_rfl) ?_
                  obtain ⟨j6_79, hj6, hl4⟩ := bindE hl4
                  refine run_gq (c44 69) (fun (j6_79 : Bool) => (zipE [1, 5, 6, 79] [.mp 0 0 0, .i l4_5, .mp 1 0 0, .bool j6_79])) (fun (j6_79 : Bool) => ⟨[(1, .cells 3 [E_GCourse y10]), (0, .cells 2 [E_GInstrument a0])], 2⟩) (fun j => j6_79 = j) (fun kj6 => ?_) ?_
                  · rcases iteE hj6 with ⟨hc13, hj6⟩ | ⟨hc13, hj6⟩
                    · replace hj6 := Option.some.inj hj6; subst hj6
                      exact run1 (c44 69) [{}, {}, {}, {}, { g := false }, { g := false }, { g := false }, { k := 1, b := true }] [1, 5, 6, 79] [1, 0] (zipE [1, 5, 6, 79] [.mp 0 0 0, .i l4_5, .mp 1 0 0, .bool true]) ⟨[(1, .cells 3 [E_GCourse y10]), (0, .cells 2 [E_GInstrument a0])], 2⟩ _ (by kernel_rfl) (cjC (hc13) (cjC (hc13) (cjC (hc13) (cj1 (hc13))))) (kj6 true rfl)
                    · replace hj6 := Option.some.inj hj6; subst hj6
                      exact run1 (c44 69) [{}, {}, {}, {}, {}, {}, {}, { k := 1, b := false }] [1, 5, 6, 79] [1, 0] (zipE [1, 5, 6, 79] [.mp 0 0 0, .i l4_5, .mp 1 0 0, .bool (decide (127 < y10.pitch))]) ⟨[(1, .cells 3 [E_GCourse y10]), (0, .cells 2 [E_GInstrument a0])], 2⟩ _ (by kernel_rfl) (cjC (hc13) (cjC (hc13) (cjC (hc13) (cj1 (hc13))))) (kj6 (decide (127 < y10.pitch)) rfl)
                  · rintro _ rfl
                    rcases iteE hl4 with ⟨hc14, hl4⟩ | ⟨hc14, hl4⟩
                    · refine run_cT 79 (c44 70) (c44 73) j6_79 hc14 (by kernel_rfl) (by kernel_rfl) ?_
                      refine run1 (c44 72) [] [2] [] (zipE [2] [.i 10]) ⟨[], 2⟩ _ (by kernel_rfl) cj0 ?_
                      replace hl4 := Option.some.inj hl4; subst hl4
                      have hr := rl4 _ rfl
                      subst hr
                      replace h := elimR h
                      refine run_t (by kernel_rfl) ?_
                      refine thenR ?_
                      refine inbR ?_
                      refine thenR ?_
                      refine ⟨⟨_, rfl⟩, ?_⟩
                      refine inbR ?_
                      refine thenR ?_
                      replace h := Option.some.inj h; subst h
                      exact fin_r (by kernel_rfl) rfl
                    · refine run_cF 79 (c44 70) (c44 73) j6_79 hc14 (by kernel_rfl) (by kernel_rfl) ?_
                      refine run_k (by kernel_rfl) ?_
                      refine thenN ?_
                      refine run1 (c44 76) [] [1, 5, 6, 7] [1, 0] (zipE [1, 5, 6, 7] [.mp 0 0 0, .i l4_5, .mp 1 0 0, .i y10.pitch]) ⟨[(1, .cells 3 [E_GCourse y10]), (0, .cells 2 [E_GInstrument a0])], 2⟩ _ (by kernel_rfl) cj0 ?_
                      obtain ⟨j7_7, hj7, hl4⟩ := bindE hl4
                      refine run_jq (c44 77) (c44 82) (fun (j7_7 : Int) => (zipE [1, 5, 6, 7] [.mp 0 0 0, .i l4_5, .mp 1 0 0, .i j7_7])) (fun (j7_7 : Int) => ⟨[(1, .cells 3 [E_GCourse y10]), (0, .cells 2 [E_GInstrument a0])], 2⟩) (fun j => j7_7 = j) (by kernel_rfl) (fun kj7 => ?_) ?_
                      · refine run1 (c44 79) [] [1, 5, 6, 7, 84] [1, 0] (zipE [1, 5, 6, 7, 84] [.mp 0 0 0, .i l4_5, .mp 1 0 0, .i y10.pitch, .bool (decide (0 < y10.frets))]) ⟨[(1, .cells 3 [E_GCourse y10]), (0, .cells 2 [E_GInstrument a0])], 2⟩ _ (by kernel_rfl) cj0 ?_
                        rcases iteE hj7 with ⟨hc15, hj7⟩ | ⟨hc15, hj7⟩
                        · refine run_cT 84 (c44 80) (c44 81) (decide (0 < y10.frets)) hc15 (by kernel_rfl) (by kernel_rfl) ?_
                          obtain ⟨y16, hy16, hj7⟩ := bindE hj7
                          refine run0 [{}, {}, {}, {}, {}, {}, { k := 1, x := AV.i y16 }] [1, 5, 6, 7] [1, 0] (zipE [1, 5, 6, 7] [.mp 0 0 0, .i l4_5, .mp 1 0 0, .i (wr (y10.pitch + y16))]) ⟨[(1, .cells 3 [E_GCourse y10]), (0, .cells 2 [E_GInstrument a0])], 2⟩ _ (by kernel_rfl) (cjC ((ixE hy16).1) (cj1 (mapGet AV.i (ixE hy16).2))) ?_
                          replace hj7 := Option.some.inj hj7; subst hj7
                          refine thenN ?_
                          exact kj7 (wr (y10.pitch + y16)) rfl
                        · refine run_cF 84 (c44 80) (c44 81) (decide (0 < y10.frets)) hc15 (by kernel_rfl) (by kernel_rfl) ?_
                          replace hj7 := Option.some.inj hj7; subst hj7
                          refine awp_p [1, 5, 6, 7] [1, 0] (zipE [1, 5, 6, 7] [.mp 0 0 0, .i l4_5, .mp 1 0 0, .i y10.pitch]) ⟨[(1, .cells 3 [E_GCourse y10]), (0, .cells 2 [E_GInstrument a0])], 2⟩ (by kernel_rfl) (?_)
                          refine run_k (by kernel_rfl) ?_
                          refine thenN ?_
                          exact kj7 y10.pitch rfl
                      · rintro _ rfl
                        obtain ⟨j8_7, hj8, hl4⟩ := bindE hl4
                        refine run_jq (c44 83) (c44 88) (fun (j8_7 : Int) => (zipE [1, 5, 7] [.mp 0 0 0, .i l4_5, .i j8_7])) (fun (j8_7 : Int) => ⟨[(0, .cells 2 [E_GInstrument a0])], 2⟩) (fun j => j8_7 = j) (by kernel_rfl) (fun kj8 => ?_) ?_
                        · refine run1 (c44 85) [] [1, 5, 7, 95] [0] (zipE [1, 5, 7, 95] [.mp 0 0 0, .i l4_5, .i j7_7, .bool y10.octave]) ⟨[(0, .cells 2 [E_GInstrument a0])], 2⟩ _ (by kernel_rfl) cj0 ?_
                          rcases iteE hj8 with ⟨hc17, hj8⟩ | ⟨hc17, hj8⟩
                          · refine run_cT 95 (c44 86) (c44 87) y10.octave hc17 (by kernel_rfl) (by kernel_rfl) ?_
                            refine run0 [] [1, 5, 7] [0] (zipE [1, 5, 7] [.mp 0 0 0, .i l4_5, .i (wr (j7_7 + 12))]) ⟨[(0, .cells 2 [E_GInstrument a0])], 2⟩ _ (by kernel_rfl) cj0 ?_
                            replace hj8 := Option.some.inj hj8; subst hj8
                            refine thenN ?_
                            exact kj8 (wr (j7_7 + 12)) rfl
                          · refine run_cF 95 (c44 86) (c44 87) y10.octave hc17 (by kernel_rfl) (by kernel_rfl) ?_
                            replace hj8 := Option.some.inj hj8; subst hj8
                            refine awp_p [1, 5, 7] [0] (zipE [1, 5, 7] [.mp 0 0 0, .i l4_5, .i j7_7]) ⟨[(0, .cells 2 [E_GInstrument a0])], 2⟩ (by kernel_rfl) (?_)
                            refine run_k (by kernel_rfl) ?_
                            refine thenN ?_
                            exact kj8 j7_7 rfl
                        · rintro _ rfl
                          refine run1 (c44 90) [] [1, 5, 99] [0] (zipE [1, 5, 99] [.mp 0 0 0, .i l4_5, .bool (decide (127 < j8_7))]) ⟨[(0, .cells 2 [E_GInstrument a0])], 2⟩ _ (by kernel_rfl) cj0 ?_
                          rcases iteE hl4 with ⟨hc18, hl4⟩ | ⟨hc18, hl4⟩
                          · refine run_cT 99 (c44 91) (c44 94) (decide (127 < j8_7)) hc18 (by kernel_rfl) (by kernel_rfl) ?_
                            refine run1 (c44 93) [] [2] [] (zipE [2] [.i 10]) ⟨[], 2⟩ _ (by kernel_rfl) cj0 ?_
                            replace hl4 := Option.some.inj hl4; subst hl4
                            have hr := rl4 _ rfl
                            subst hr
                            replace h := elimR h
                            refine run_t (by kernel_rfl) ?_
                            refine inbR ?_
                            refine thenR ?_
                            refine ⟨⟨_, rfl⟩, ?_⟩
                            refine inbR ?_
                            refine thenR ?_
                            replace h := Option.some.inj h; subst h
                            exact fin_r (by kernel_rfl) rfl
                          · refine run_cF 99 (c44 91) (c44 94) (decide (127 < j8_7)) hc18 (by kernel_rfl) (by kernel_rfl) ?_
                            refine run_k (by kernel_rfl) ?_
                            refine inbN ?_
                            refine thenN ?_
                            refine run0 [] [1, 5] [0] (zipE [1, 5] [.mp 0 0 0, .i (wr (l4_5 + 1))]) ⟨[(0, .cells 2 [E_GInstrument a0])], 2⟩ _ (by kernel_rfl) cj0 ?_
                            replace hl4 := Option.some.inj hl4; subst hl4
                            exact ⟨_, rfl, pi [], mkInto (ks := [1, 5]) (ys := [.mp 0 0 0, .i (wr (l4_5 + 1))]) (by kernel_rfl) (by kernel_rfl) (.k (.mp rfl rfl) (.k (.c rfl) .z)) (.k (x' := .cells 2 [E_GInstrument a0]) (by kernel_rfl) (.cells (.k (.c (cl_GInstrument a0)) .z)) .z)⟩
            · refine run_cF 53 (c44 52) (c44 53) (decide (l4_5 < (a0.courses.length : Int))) hc9 (by kernel_rfl) (by kernel_rfl) ?_
              replace hl4 := Option.some.inj hl4; subst hl4
              have hr := rl4 _ rfl
              subst hr
              refine awp_p [] [] (zipE [] []) ⟨[], 1⟩ (by kernel_rfl) (?_)
              refine run_e 2 (by kernel_rfl) ?_
              refine thenE ?_
              refine ⟨⟨_, rfl⟩, ?_⟩
              refine inbE ?_
              exact kl4 () rfl
          · rintro ⟨⟩ rfl
            replace h := elimL h
            refine thenN ?_
            refine run1 (c44 98) [] [2] [] (zipE [2] [.i 0]) ⟨[], 1⟩ _ (by kernel_rfl) cj0 ?_
            refine run_t (by kernel_rfl) ?_
            replace h := Option.some.inj h; subst h
            exact fin_r (by kernel_rfl) rfl

/-- theorbo.theorboref01.Sound -/
def f156 (a0 : GInstrument) (a1 : GPlace) : Option Int := (ix a0.courses (wr (a1.course - 1))).bind fun y1 => ((bif (decide (0 < a1.fret)) then ((ix a0.steps (wr (a1.fret - 1))).bind fun y3 => some (wr (y1.pitch + y3))) else (some y1.pitch)) : Option Int).bind fun (j1_5 : Int) => some j1_5
theorem f156_ok (a0 : GInstrument) (a1 : GPlace) (r : Int) (h : f156 a0 a1 = some r) : APure Tryz.prog 156 [E_GInstrument a0, E_GPlace a1] (.i r) := by
  refine apure (clK (cl_GInstrument a0) (clK (cl_GPlace a1) clZ)) rfl ?_
  refine run_f 27 [.tmp 4] (c156 0) (zipE [0, 1] [E_GInstrument a0, E_GPlace a1]) (by kernel_rfl) (by kernel_rfl) (by kernel_rfl) rfl ?_
  unfold f156 at h
  refine run1 (c156 2) [] [2, 3] [1, 0] (zipE [2, 3] [.mp 0 0 0, .mp 1 0 0]) ⟨[(1, .cells 2 [E_GPlace a1]), (0, .cells 2 [E_GInstrument a0])], 2⟩ _ (by kernel_rfl) cj0 ?_
  obtain ⟨y1, hy1, h⟩ := bindE h
  refine run1 (c156 4) [{}, {}, {}, {}, {}, { k := 1, x := E_GCourse y1 }] [2, 3, 5] [1, 0] (zipE [2, 3, 5] [.mp 0 0 0, .mp 1 0 0, .i y1.pitch]) ⟨[(1, .cells 2 [E_GPlace a1]), (0, .cells 2 [E_GInstrument a0])], 2⟩ _ (by kernel_rfl) (cjC ((ixE hy1).1) (cj1 (mapGet E_GCourse (ixE hy1).2))) ?_
  obtain ⟨j1_5, hj1, h⟩ := bindE h
  refine run_jq (c156 5) (c156 10) (fun (j1_5 : Int) => (zipE [5] [.i j1_5])) (fun (j1_5 : Int) => ⟨[], 2⟩) (fun j => j1_5 = j) (by kernel_rfl) (fun kj1 => ?_) ?_
  · refine run1 (c156 7) [] [2, 3, 5, 16] [1, 0] (zipE [2, 3, 5, 16] [.mp 0 0 0, .mp 1 0 0, .i y1.pitch, .bool (decide (0 < a1.fret))]) ⟨[(1, .cells 2 [E_GPlace a1]), (0, .cells 2 [E_GInstrument a0])], 2⟩ _ (by kernel_rfl) cj0 ?_
    rcases iteE hj1 with ⟨hc2, hj1⟩ | ⟨hc2, hj1⟩
    · refine run_cT 16 (c156 8) (c156 9) (decide (0 < a1.fret)) hc2 (by kernel_rfl) (by kernel_rfl) ?_
      obtain ⟨y3, hy3, hj1⟩ := bindE hj1
      refine run0 [{}, {}, {}, {}, {}, {}, { k := 1, x := AV.i y3 }] [5] [] (zipE [5] [.i (wr (y1.pitch + y3))]) ⟨[], 2⟩ _ (by kernel_rfl) (cjC ((ixE hy3).1) (cj1 (mapGet AV.i (ixE hy3).2))) ?_
      replace hj1 := Option.some.inj hj1; subst hj1
      refine thenN ?_
      exact kj1 (wr (y1.pitch + y3)) rfl
    · refine run_cF 16 (c156 8) (c156 9) (decide (0 < a1.fret)) hc2 (by kernel_rfl) (by kernel_rfl) ?_
      replace hj1 := Option.some.inj hj1; subst hj1
      refine awp_p [5] [] (zipE [5] [.i y1.pitch]) ⟨[], 2⟩ (by kernel_rfl) (?_)
      refine run_k (by kernel_rfl) ?_
      refine thenN ?_
      exact kj1 y1.pitch rfl
  · rintro _ rfl
    refine run1 (c156 12) [] [4] [] (zipE [4] [.i j1_5]) ⟨[], 2⟩ _ (by kernel_rfl) cj0 ?_
    refine run_t (by kernel_rfl) ?_
    replace h := Option.some.inj h; subst h
    exact fin_r (by kernel_rfl) rfl

/-- theorbo.theorboref01.Places -/
def f121 (a0 : GInstrument) (a1 : Int) : Option (((List GPlace)) × Int) := (f44 a0).bind fun r1 => bif (decide (r1 ≠ 0)) then (some (([] : List GPlace), r1)) else (((bif (decide (a1 < 0)) then (some true) else (some (decide (127 < a1)))) : Option Bool).bind fun (j1_20 : Bool) => bif j1_20 then (some (([] : List GPlace), 10)) else ((loopN (σ := (List GPlace × Int)) (τ := (List GPlace)) (fun ((l2_7, l2_8) : (List GPlace × Int)) => bif (decide (l2_8 ≤ (a0.courses.length : Int))) then ((loopN (σ := (List GPlace × Int)) (τ := (List GPlace)) (fun ((l3_7, l3_9) : (List GPlace × Int)) => (ix a0.courses (wr (l2_8 - 1))).bind fun y6 => bif (decide (l3_9 ≤ y6.frets)) then ((((f156 a0 (⟨l2_8, l3_9⟩ : GPlace)).bind fun r8 => bif (decide (r8 = a1)) then (need (l3_7.length + 1 ≤ maxElems) <| some (l3_7 ++ [(⟨l2_8, l3_9⟩ : GPlace)])) else (some l3_7)) : Option (List GPlace)).bind fun (j4_7 : (List GPlace)) => some (.inl (j4_7, (wr (l3_9 + 1))))) else (some (.inr l3_7))) FUEL (l2_7, 0)).bind fun (l3x_7 : (List GPlace)) => some (.inl (l3x_7, (wr (l2_8 + 1))))) else (some (.inr l2_7))) FUEL (([] : List GPlace), 1)).bind fun (l2x_7 : (List GPlace)) => some (l2x_7, 0)))
theorem f121_ok (a0 : GInstrument) (a1 : Int) (r : (((List GPlace)) × Int)) (h : f121 a0 a1 = some r) : APure Tryz.prog 121 [E_GInstrument a0, .i a1] (.tup [.sl false (r.1.map E_GPlace), .i r.2]) := by
  refine apure (clK (cl_GInstrument a0) (clK rfl clZ)) (clK (cleanMap r.1 _ cl_GPlace) (clK rfl clZ)) ?_
  refine run_f 53 [.tmp 4, .tmp 5] (c121 0) (zipE [0, 1] [E_GInstrument a0, .i a1]) (by kernel_rfl) (by kernel_rfl) (by kernel_rfl) rfl ?_
  unfold f121 at h
  refine run1 (c121 2) [] [1, 2] [0] (zipE [1, 2] [.i a1, .mp 0 0 0]) ⟨[(0, .cells 2 [E_GInstrument a0])], 1⟩ _ (by kernel_rfl) cj0 ?_
  obtain ⟨r1, hr1, h⟩ := bindE h
  refine run1 (c121 4) [{}, { c := some (.i r1, ⟨[(0, .cells 2 [E_GInstrument a0])], 1⟩) }] [1, 2, 6] [0] (zipE [1, 2, 6] [.i a1, .mp 0 0 0, .i r1]) ⟨[(0, .cells 2 [E_GInstrument a0])], 1⟩ _ (by kernel_rfl) (cj1 (f44_ok a0 _ hr1 ⟨[(0, .cells 2 [E_GInstrument a0])], 1⟩)) ?_
  refine run_s (c121 5) (c121 12) (by kernel_rfl) ?_
  refine run1 (c121 7) [] [1, 2, 6, 13] [0] (zipE [1, 2, 6, 13] [.i a1, .mp 0 0 0, .i r1, .bool (decide (r1 ≠ 0))]) ⟨[(0, .cells 2 [E_GInstrument a0])], 1⟩ _ (by kernel_rfl) cj0 ?_
  rcases iteE h with ⟨hc2, h⟩ | ⟨hc2, h⟩
  · refine run_cT 13 (c121 8) (c121 11) (decide (r1 ≠ 0)) hc2 (by kernel_rfl) (by kernel_rfl) ?_
    refine run1 (c121 10) [] [4, 5] [] (zipE [4, 5] [.sl true [], .i r1]) ⟨[], 1⟩ _ (by kernel_rfl) cj0 ?_
    refine run_i 1 [] [4, 5] [.sl true [], .i r1] (xs := [.sl false (([] : List GPlace).map E_GPlace), .i r1]) (S2 := ⟨[], 1⟩) ?_ (by intro i e; cases e <;> exact Nat.le_of_ble_eq_true rfl) (by kernel_rfl) (by kernel_rfl) (by kernel_rfl) (.k (.s (cleanMap (([] : List GPlace)) _ cl_GPlace)) (.k (.c rfl) .z)) .z
    refine run_t (by kernel_rfl) ?_
    refine thenR ?_
    replace h := Option.some.inj h; subst h
    exact fin_r (by kernel_rfl) rfl
  · refine run_cF 13 (c121 8) (c121 11) (decide (r1 ≠ 0)) hc2 (by kernel_rfl) (by kernel_rfl) ?_
    refine run_k (by kernel_rfl) ?_
    refine thenN ?_
    refine run_s (c121 13) (c121 20) (by kernel_rfl) ?_
    obtain ⟨j1_20, hj1, h⟩ := bindE h
    refine run_gq (c121 15) (fun (j1_20 : Bool) => (zipE [1, 2, 20] [.i a1, .mp 0 0 0, .bool j1_20])) (fun (j1_20 : Bool) => ⟨[(0, .cells 2 [E_GInstrument a0])], 1⟩) (fun j => j1_20 = j) (fun kj1 => ?_) ?_
    · rcases iteE hj1 with ⟨hc3, hj1⟩ | ⟨hc3, hj1⟩
      · replace hj1 := Option.some.inj hj1; subst hj1
        exact run1 (c121 15) [{}, {}, {}, { g := false }, { g := false }, { k := 1, b := true }] [1, 2, 20] [0] (zipE [1, 2, 20] [.i a1, .mp 0 0 0, .bool true]) ⟨[(0, .cells 2 [E_GInstrument a0])], 1⟩ _ (by kernel_rfl) (cjC (hc3) (cjC (hc3) (cj1 (hc3)))) (kj1 true rfl)
      · replace hj1 := Option.some.inj hj1; subst hj1
        exact run1 (c121 15) [{}, {}, {}, {}, {}, { k := 1, b := false }] [1, 2, 20] [0] (zipE [1, 2, 20] [.i a1, .mp 0 0 0, .bool (decide (127 < a1))]) ⟨[(0, .cells 2 [E_GInstrument a0])], 1⟩ _ (by kernel_rfl) (cjC (hc3) (cjC (hc3) (cj1 (hc3)))) (kj1 (decide (127 < a1)) rfl)
    · rintro _ rfl
      rcases iteE h with ⟨hc4, h⟩ | ⟨hc4, h⟩
      · refine run_cT 20 (c121 16) (c121 19) j1_20 hc4 (by kernel_rfl) (by kernel_rfl) ?_
        refine run1 (c121 18) [] [4, 5] [] (zipE [4, 5] [.sl true [], .i 10]) ⟨[], 1⟩ _ (by kernel_rfl) cj0 ?_
        refine run_i 1 [] [4, 5] [.sl true [], .i 10] (xs := [.sl false (([] : List GPlace).map E_GPlace), .i 10]) (S2 := ⟨[], 1⟩) ?_ (by intro i e; cases e <;> exact Nat.le_of_ble_eq_true rfl) (by kernel_rfl) (by kernel_rfl) (by kernel_rfl) (.k (.s (cleanMap (([] : List GPlace)) _ cl_GPlace)) (.k (.c rfl) .z)) .z
        refine run_t (by kernel_rfl) ?_
        refine thenR ?_
        replace h := Option.some.inj h; subst h
        exact fin_r (by kernel_rfl) rfl
      · refine run_cF 20 (c121 16) (c121 19) j1_20 hc4 (by kernel_rfl) (by kernel_rfl) ?_
        refine run_k (by kernel_rfl) ?_
        refine thenN ?_
        refine run1 (c121 22) [] [1, 2, 7] [0] (zipE [1, 2, 7] [.i a1, .mp 0 0 0, .sl true []]) ⟨[(0, .cells 2 [E_GInstrument a0])], 1⟩ _ (by kernel_rfl) cj0 ?_
        refine run_s (c121 23) (c121 54) (by kernel_rfl) ?_
        refine run1 (c121 25) [] [1, 2, 7, 8] [0] (zipE [1, 2, 7, 8] [.i a1, .mp 0 0 0, .sl true [], .i 1]) ⟨[(0, .cells 2 [E_GInstrument a0])], 1⟩ _ (by kernel_rfl) cj0 ?_
        obtain ⟨l2x_7, hll2x, h⟩ := bindE h
        refine run_tq (fun (l2x_7 : (List GPlace)) => (zipE [7] [.ms 1 0 l2x_7.length])) (fun (l2x_7 : (List GPlace)) => ⟨[(1, .cells 2 (l2x_7.map E_GPlace))], 2⟩) (fun j => l2x_7 = j) (fun kl2 => ?_) ?_
        · refine run_b 0 (c121 26) (by kernel_rfl) ?_
          refine run_l (c121 27) _ hll2x (fun ((l2_7, l2_8) : (List GPlace × Int)) => (zipE [1, 2, 7, 8] [.i a1, .mp 0 0 0, .ms 1 0 l2_7.length, .i l2_8])) (fun ((l2_7, l2_8) : (List GPlace × Int)) => ⟨[(1, .cells 2 (l2_7.map E_GPlace)), (0, .cells 2 [E_GInstrument a0])], 2⟩) [(1, 1000000)] (by intro i e; cases e <;> exact Nat.le_of_ble_eq_true rfl) (by kernel_rfl) (mkInto (ks := [1, 2, 7, 8]) (ys := [.i a1, .mp 0 0 0, .sl true [], .i 1]) (by kernel_rfl) (by kernel_rfl) (.k (.c rfl) (.k (.mp rfl rfl) (.k (.n) (.k (.c rfl) .z)))) (.n rfl rfl rfl (.k (x' := .cells 2 [E_GInstrument a0]) (by kernel_rfl) (.cells (.k (.c (cl_GInstrument a0)) .z)) .z))) ?_
          rintro ⟨l2_7, l2_8⟩ out hl2 rl2
          refine run_s (c121 28) (c121 33) (by kernel_rfl) ?_
          refine run1 (c121 30) [{}, {}, {}, { k := 1, n := a0.courses.length }] [1, 2, 7, 8, 25] [1, 0] (zipE [1, 2, 7, 8, 25] [.i a1, .mp 0 0 0, .ms 1 0 l2_7.length, .i l2_8, .bool (decide (l2_8 ≤ (a0.courses.length : Int)))]) ⟨[(1, .cells 2 (l2_7.map E_GPlace)), (0, .cells 2 [E_GInstrument a0])], 2⟩ _ (by kernel_rfl) (cj1 (mapLen a0.courses E_GCourse)) ?_
          rcases iteE hl2 with ⟨hc5, hl2⟩ | ⟨hc5, hl2⟩
          · refine run_cT 25 (c121 31) (c121 32) (decide (l2_8 ≤ (a0.courses.length : Int))) hc5 (by kernel_rfl) (by kernel_rfl) ?_
            refine run_k (by kernel_rfl) ?_
            refine thenN ?_
            refine run_s (c121 34) (c121 53) (by kernel_rfl) ?_
            refine run_b 1 (c121 35) (by kernel_rfl) ?_
            refine run1 (c121 37) [] [1, 2, 7, 8, 9] [1, 0] (zipE [1, 2, 7, 8, 9] [.i a1, .mp 0 0 0, .ms 1 0 l2_7.length, .i l2_8, .i 0]) ⟨[(1, .cells 2 (l2_7.map E_GPlace)), (0, .cells 2 [E_GInstrument a0])], 2⟩ _ (by kernel_rfl) cj0 ?_
            obtain ⟨l3x_7, hll3x, hl2⟩ := bindE hl2
            refine run_tq (fun (l3x_7 : (List GPlace)) => (zipE [1, 2, 7, 8] [.i a1, .mp 0 0 0, .ms 2 0 l3x_7.length, .i l2_8])) (fun (l3x_7 : (List GPlace)) => ⟨[(2, .cells 2 (l3x_7.map E_GPlace)), (0, .cells 2 [E_GInstrument a0])], 3⟩) (fun j => l3x_7 = j) (fun kl3 => ?_) ?_
            · refine run_b 2 (c121 38) (by kernel_rfl) ?_
              refine run_l (c121 39) _ hll3x (fun ((l3_7, l3_9) : (List GPlace × Int)) => (zipE [1, 2, 7, 8, 9] [.i a1, .mp 0 0 0, .ms 2 0 l3_7.length, .i l2_8, .i l3_9])) (fun ((l3_7, l3_9) : (List GPlace × Int)) => ⟨[(2, .cells 2 (l3_7.map E_GPlace)), (0, .cells 2 [E_GInstrument a0])], 3⟩) [(2, 1)] (by intro i e; cases e <;> exact Nat.le_of_ble_eq_true rfl) (by kernel_rfl) (mkInto (ks := [1, 2, 7, 8, 9]) (ys := [.i a1, .mp 0 0 0, .ms 1 0 l2_7.length, .i l2_8, .i 0]) (by kernel_rfl) (by kernel_rfl) (.k (.c rfl) (.k (.mp rfl rfl) (.k (.ms rfl rfl) (.k (.c rfl) (.k (.c rfl) .z))))) (.k (x' := .cells 2 (l2_7.map E_GPlace)) (by kernel_rfl) (.cells (.r (cleanMap _ _ cl_GPlace))) (.k (x' := .cells 2 [E_GInstrument a0]) (by kernel_rfl) (.cells (.k (.c (cl_GInstrument a0)) .z)) .z))) ?_
              rintro ⟨l3_7, l3_9⟩ out hl3 rl3
              refine run_s (c121 40) (c121 45) (by kernel_rfl) ?_
              obtain ⟨y6, hy6, hl3⟩ := bindE hl3
              refine run1 (c121 42) [{}, {}, {}, {}, {}, { k := 1, x := E_GCourse y6 }] [1, 2, 7, 8, 9, 36] [2, 0] (zipE [1, 2, 7, 8, 9, 36] [.i a1, .mp 0 0 0, .ms 2 0 l3_7.length, .i l2_8, .i l3_9, .bool (decide (l3_9 ≤ y6.frets))]) ⟨[(2, .cells 2 (l3_7.map E_GPlace)), (0, .cells 2 [E_GInstrument a0])], 3⟩ _ (by kernel_rfl) (cjC ((ixE hy6).1) (cj1 (mapGet E_GCourse (ixE hy6).2))) ?_
              rcases iteE hl3 with ⟨hc7, hl3⟩ | ⟨hc7, hl3⟩
              · refine run_cT 36 (c121 43) (c121 44) (decide (l3_9 ≤ y6.frets)) hc7 (by kernel_rfl) (by kernel_rfl) ?_
                refine run_k (by kernel_rfl) ?_
                refine thenN ?_
                obtain ⟨j4_7, hj4, hl3⟩ := bindE hl3
                refine run_jq (c121 46) (c121 52) (fun (j4_7 : (List GPlace)) => (zipE [1, 2, 7, 8, 9] [.i a1, .mp 0 0 0, .ms 4 0 j4_7.length, .i l2_8, .i l3_9])) (fun (j4_7 : (List GPlace)) => ⟨[(4, .cells 2 (j4_7.map E_GPlace)), (0, .cells 2 [E_GInstrument a0])], 5⟩) (fun j => j4_7 = j) (by kernel_rfl) (fun kj4 => ?_) ?_
                · refine run_b 3 (c121 47) (by kernel_rfl) ?_
                  obtain ⟨r8, hr8, hj4⟩ := bindE hj4
                  refine run1 (c121 49) [{}, {}, {}, {}, { c := some (.i r8, ⟨[(2, .cells 2 (l3_7.map E_GPlace)), (0, .cells 2 [E_GInstrument a0])], 3⟩) }] [1, 2, 7, 8, 9, 45] [2, 0] (zipE [1, 2, 7, 8, 9, 45] [.i a1, .mp 0 0 0, .ms 2 0 l3_7.length, .i l2_8, .i l3_9, .bool (decide (r8 = a1))]) ⟨[(2, .cells 2 (l3_7.map E_GPlace)), (0, .cells 2 [E_GInstrument a0])], 3⟩ _ (by kernel_rfl) (cj1 (f156_ok a0 (⟨l2_8, l3_9⟩ : GPlace) _ hr8 ⟨[(2, .cells 2 (l3_7.map E_GPlace)), (0, .cells 2 [E_GInstrument a0])], 3⟩)) ?_
                  rcases iteE hj4 with ⟨hc9, hj4⟩ | ⟨hc9, hj4⟩
                  · refine run_cT 45 (c121 50) (c121 51) (decide (r8 = a1)) hc9 (by kernel_rfl) (by kernel_rfl) ?_
                    obtain ⟨hn10, hj4⟩ := needE hj4
                    refine run0 [{}, {}, {}, {}, {}, { k := 1, n := (l3_7 ++ [(⟨l2_8, l3_9⟩ : GPlace)]).length, l := (l3_7 ++ [(⟨l2_8, l3_9⟩ : GPlace)]).map E_GPlace }] [1, 2, 7, 8, 9] [3, 0] (zipE [1, 2, 7, 8, 9] [.i a1, .mp 0 0 0, .ms 3 0 (l3_7 ++ [(⟨l2_8, l3_9⟩ : GPlace)]).length, .i l2_8, .i l3_9]) ⟨[(3, .cells 2 ((l3_7 ++ [(⟨l2_8, l3_9⟩ : GPlace)]).map E_GPlace)), (0, .cells 2 [E_GInstrument a0])], 4⟩ _ (by kernel_rfl) (cjC (@List.cons_ne_nil AV (.agg [.i l2_8, .i l3_9]) []) (cjC (mLe l3_7 E_GPlace) (cjC (hn10) (cjC (lenA l3_7 ([(⟨l2_8, l3_9⟩ : GPlace)] : List GPlace)) (cjC (appA l3_7 ([(⟨l2_8, l3_9⟩ : GPlace)] : List GPlace) E_GPlace) (cj1 (fitsOne (P := Tryz.prog) (t := 158) (x := .agg [.i l2_8, .i l3_9]) (r := []) (by kernel_rfl)))))))) ?_
                    replace hj4 := Option.some.inj hj4; subst hj4
                    refine inbN ?_
                    refine thenN ?_
                    exact run_i 4 [(4, 3)] [1, 2, 7, 8, 9] [.i a1, .mp 0 0 0, .ms 3 0 (l3_7 ++ [(⟨l2_8, l3_9⟩ : GPlace)]).length, .i l2_8, .i l3_9] (kj4 (l3_7 ++ [(⟨l2_8, l3_9⟩ : GPlace)]) rfl) (by intro i e; cases e <;> exact Nat.le_of_ble_eq_true rfl) (by kernel_rfl) (by kernel_rfl) (by kernel_rfl) (.k (.c rfl) (.k (.mp rfl rfl) (.k (.ms rfl rfl) (.k (.c rfl) (.k (.c rfl) .z))))) (.k (x' := .cells 2 ((l3_7 ++ [(⟨l2_8, l3_9⟩ : GPlace)]).map E_GPlace)) (by kernel_rfl) (.cells (.r (cleanMap _ _ cl_GPlace))) (.k (x' := .cells 2 [E_GInstrument a0]) (by kernel_rfl) (.cells (.k (.c (cl_GInstrument a0)) .z)) .z))
                  · refine run_cF 45 (c121 50) (c121 51) (decide (r8 = a1)) hc9 (by kernel_rfl) (by kernel_rfl) ?_
                    replace hj4 := Option.some.inj hj4; subst hj4
                    refine run_i 4 [(4, 2)] [1, 2, 7, 8, 9] [.i a1, .mp 0 0 0, .ms 2 0 l3_7.length, .i l2_8, .i l3_9] (xs := [.i a1, .mp 0 0 0, .ms 4 0 l3_7.length, .i l2_8, .i l3_9]) (S2 := ⟨[(4, .cells 2 (l3_7.map E_GPlace)), (0, .cells 2 [E_GInstrument a0])], 5⟩) ?_ (by intro i e; cases e <;> exact Nat.le_of_ble_eq_true rfl) (by kernel_rfl) (by kernel_rfl) (by kernel_rfl) (.k (.c rfl) (.k (.mp rfl rfl) (.k (.ms rfl rfl) (.k (.c rfl) (.k (.c rfl) .z))))) (.k (x' := .cells 2 (l3_7.map E_GPlace)) (by kernel_rfl) (.cells (.r (cleanMap _ _ cl_GPlace))) (.k (x' := .cells 2 [E_GInstrument a0]) (by kernel_rfl) (.cells (.k (.c (cl_GInstrument a0)) .z)) .z))
                    refine run_k (by kernel_rfl) ?_
                    refine inbN ?_
                    refine thenN ?_
                    exact kj4 l3_7 rfl
                · rintro _ rfl
                  refine run0 [] [1, 2, 7, 8, 9] [4, 0] (zipE [1, 2, 7, 8, 9] [.i a1, .mp 0 0 0, .ms 4 0 j4_7.length, .i l2_8, .i (wr (l3_9 + 1))]) ⟨[(4, .cells 2 (j4_7.map E_GPlace)), (0, .cells 2 [E_GInstrument a0])], 5⟩ _ (by kernel_rfl) cj0 ?_
                  replace hl3 := Option.some.inj hl3; subst hl3
                  exact ⟨_, rfl, pi [(2, 4)], mkInto (ks := [1, 2, 7, 8, 9]) (ys := [.i a1, .mp 0 0 0, .ms 4 0 j4_7.length, .i l2_8, .i (wr (l3_9 + 1))]) (by kernel_rfl) (by kernel_rfl) (.k (.c rfl) (.k (.mp rfl rfl) (.k (.ms rfl rfl) (.k (.c rfl) (.k (.c rfl) .z))))) (.k (x' := .cells 2 (j4_7.map E_GPlace)) (by kernel_rfl) (.cells (.r (cleanMap _ _ cl_GPlace))) (.k (x' := .cells 2 [E_GInstrument a0]) (by kernel_rfl) (.cells (.k (.c (cl_GInstrument a0)) .z)) .z))⟩
              · refine run_cF 36 (c121 43) (c121 44) (decide (l3_9 ≤ y6.frets)) hc7 (by kernel_rfl) (by kernel_rfl) ?_
                replace hl3 := Option.some.inj hl3; subst hl3
                have hr := rl3 _ rfl
                subst hr
                refine awp_p [1, 2, 7, 8] [2, 0] (zipE [1, 2, 7, 8] [.i a1, .mp 0 0 0, .ms 2 0 l3_7.length, .i l2_8]) ⟨[(2, .cells 2 (l3_7.map E_GPlace)), (0, .cells 2 [E_GInstrument a0])], 3⟩ (by kernel_rfl) (?_)
                refine run_e 2 (by kernel_rfl) ?_
                refine thenE ?_
                refine ⟨⟨_, rfl⟩, ?_⟩
                refine inbE ?_
                exact kl3 l3_7 rfl
            · rintro _ rfl
              refine inbN ?_
              refine thenN ?_
              refine run0 [] [1, 2, 7, 8] [2, 0] (zipE [1, 2, 7, 8] [.i a1, .mp 0 0 0, .ms 2 0 l3x_7.length, .i (wr (l2_8 + 1))]) ⟨[(2, .cells 2 (l3x_7.map E_GPlace)), (0, .cells 2 [E_GInstrument a0])], 3⟩ _ (by kernel_rfl) cj0 ?_
              replace hl2 := Option.some.inj hl2; subst hl2
              exact ⟨_, rfl, pi [(1, 2)], mkInto (ks := [1, 2, 7, 8]) (ys := [.i a1, .mp 0 0 0, .ms 2 0 l3x_7.length, .i (wr (l2_8 + 1))]) (by kernel_rfl) (by kernel_rfl) (.k (.c rfl) (.k (.mp rfl rfl) (.k (.ms rfl rfl) (.k (.c rfl) .z)))) (.k (x' := .cells 2 (l3x_7.map E_GPlace)) (by kernel_rfl) (.cells (.r (cleanMap _ _ cl_GPlace))) (.k (x' := .cells 2 [E_GInstrument a0]) (by kernel_rfl) (.cells (.k (.c (cl_GInstrument a0)) .z)) .z))⟩
          · refine run_cF 25 (c121 31) (c121 32) (decide (l2_8 ≤ (a0.courses.length : Int))) hc5 (by kernel_rfl) (by kernel_rfl) ?_
            replace hl2 := Option.some.inj hl2; subst hl2
            have hr := rl2 _ rfl
            subst hr
            refine awp_p [7] [1] (zipE [7] [.ms 1 0 l2_7.length]) ⟨[(1, .cells 2 (l2_7.map E_GPlace))], 2⟩ (by kernel_rfl) (?_)
            refine run_e 0 (by kernel_rfl) ?_
            refine thenE ?_
            refine ⟨⟨_, rfl⟩, ?_⟩
            refine inbE ?_
            exact kl2 l2_7 rfl
        · rintro _ rfl
          refine thenN ?_
          refine run1 (c121 56) [] [4, 5] [1] (zipE [4, 5] [.ms 1 0 l2x_7.length, .i 0]) ⟨[(1, .cells 2 (l2x_7.map E_GPlace))], 2⟩ _ (by kernel_rfl) cj0 ?_
          refine run_z 1 2 (l2x_7.map E_GPlace) [4, 5] [.ms 1 0 l2x_7.length, .i 0] (xs := [.sl false (l2x_7.map E_GPlace), .i 0]) (S2 := ⟨[], 2⟩) ?_ (by kernel_rfl) (by kernel_rfl) (.k (.m (mLe l2x_7 E_GPlace) (mapAll l2x_7 E_GPlace)) (.k (.r _) .z)) .z rfl rfl
          refine run_t (by kernel_rfl) ?_
          replace h := Option.some.inj h; subst h
          exact fin_r (by kernel_rfl) rfl

/-- theorbo.theorboref08.places -/
def f87 (a0 : GInstrument) (a1 : Int) : Option ((List GPlace)) := (f121 a0 a1).bind fun r1 => some r1.1
theorem f87_ok (a0 : GInstrument) (a1 : Int) (r : ((List GPlace))) (h : f87 a0 a1 = some r) : APure Tryz.prog 87 [E_GInstrument a0, .i a1] (.sl false (r.map E_GPlace)) := by
  refine apure (clK (cl_GInstrument a0) (clK rfl clZ)) (cleanMap r _ cl_GPlace) ?_
  refine run_f 14 [.tmp 4] (c87 0) (zipE [0, 1] [E_GInstrument a0, .i a1]) (by kernel_rfl) (by kernel_rfl) (by kernel_rfl) rfl ?_
  unfold f87 at h
  refine run1 (c87 2) [] [1, 2] [0] (zipE [1, 2] [.i a1, .mp 0 0 0]) ⟨[(0, .cells 2 [E_GInstrument a0])], 1⟩ _ (by kernel_rfl) cj0 ?_
  obtain ⟨r1, hr1, h⟩ := bindE h
  refine run1 (c87 4) [{}, {}, { c := some (.tup [.sl false (r1.1.map E_GPlace), .i r1.2], ⟨[(0, .cells 2 [E_GInstrument a0])], 1⟩) }] [5] [] (zipE [5] [.sl false (r1.1.map E_GPlace)]) ⟨[], 1⟩ _ (by kernel_rfl) (cj1 (f121_ok a0 a1 _ hr1 ⟨[(0, .cells 2 [E_GInstrument a0])], 1⟩)) ?_
  refine run1 (c87 6) [] [4] [] (zipE [4] [.sl false (r1.1.map E_GPlace)]) ⟨[], 1⟩ _ (by kernel_rfl) cj0 ?_
  refine run_t (by kernel_rfl) ?_
  replace h := Option.some.inj h; subst h
  exact fin_r (by kernel_rfl) rfl

/-- theorbo.theorboref08.missing -/
def f45 (a0 : List (List GTone)) (a1 : GInstrument) (a2 : Int) : Option Int := (loopN (σ := (Int × Int)) (τ := Int) (fun ((l1_7, l1_8) : (Int × Int)) => bif (decide (l1_8 < (a0.length : Int))) then ((loopN (σ := (Int × Int)) (τ := Int) (fun ((l2_7, l2_9) : (Int × Int)) => (ix a0 l1_8).bind fun y2 => bif (decide (l2_9 < (y2.length : Int))) then ((((ix y2 l2_9).bind fun y4 => (f87 a1 (wr (y4.pitch + a2))).bind fun r5 => bif (decide ((r5.length : Int) = 0)) then (some (wr (l2_7 + 1))) else (some l2_7)) : Option Int).bind fun (j3_7 : Int) => some (.inl (j3_7, (wr (l2_9 + 1))))) else (some (.inr l2_7))) FUEL (l1_7, 0)).bind fun (l2x_7 : Int) => some (.inl (l2x_7, (wr (l1_8 + 1))))) else (some (.inr l1_7))) FUEL (0, 0)).bind fun (l1x_7 : Int) => some l1x_7
theorem f45_ok (a0 : List (List GTone)) (a1 : GInstrument) (a2 : Int) (r : Int) (h : f45 a0 a1 a2 = some r) : APure Tryz.prog 45 [.sl false (a0.map (SL E_GTone)), E_GInstrument a1, .i a2] (.i r) := by
  refine apure (clK (cleanMap a0 _ (cl_SL cl_GTone)) (clK (cl_GInstrument a1) (clK rfl clZ))) rfl ?_
  refine run_f 42 [.tmp 6] (c45 0) (zipE [0, 1, 2] [.sl false (a0.map (SL E_GTone)), E_GInstrument a1, .i a2]) (by kernel_rfl) (by kernel_rfl) (by kernel_rfl) rfl ?_
  unfold f45 at h
  refine run1 (c45 2) [] [0, 2, 4] [0] (zipE [0, 2, 4] [.sl false (a0.map (SL E_GTone)), .i a2, .mp 0 0 0]) ⟨[(0, .cells 2 [E_GInstrument a1])], 1⟩ _ (by kernel_rfl) cj0 ?_
  refine run1 (c45 4) [] [0, 2, 4, 7] [0] (zipE [0, 2, 4, 7] [.sl false (a0.map (SL E_GTone)), .i a2, .mp 0 0 0, .i 0]) ⟨[(0, .cells 2 [E_GInstrument a1])], 1⟩ _ (by kernel_rfl) cj0 ?_
  refine run_s (c45 5) (c45 36) (by kernel_rfl) ?_
  refine run1 (c45 7) [] [0, 2, 4, 7, 8] [0] (zipE [0, 2, 4, 7, 8] [.sl false (a0.map (SL E_GTone)), .i a2, .mp 0 0 0, .i 0, .i 0]) ⟨[(0, .cells 2 [E_GInstrument a1])], 1⟩ _ (by kernel_rfl) cj0 ?_
  obtain ⟨l1x_7, hll1x, h⟩ := bindE h
  refine run_tq (fun (l1x_7 : Int) => (zipE [7] [.i l1x_7])) (fun (l1x_7 : Int) => ⟨[], 1⟩) (fun j => l1x_7 = j) (fun kl1 => ?_) ?_
  · refine run_b 0 (c45 8) (by kernel_rfl) ?_
    refine run_l (c45 9) _ hll1x (fun ((l1_7, l1_8) : (Int × Int)) => (zipE [0, 2, 4, 7, 8] [.sl false (a0.map (SL E_GTone)), .i a2, .mp 0 0 0, .i l1_7, .i l1_8])) (fun ((l1_7, l1_8) : (Int × Int)) => ⟨[(0, .cells 2 [E_GInstrument a1])], 1⟩) [] (by intro i e; cases e <;> exact Nat.le_of_ble_eq_true rfl) (by kernel_rfl) (mkInto (ks := [0, 2, 4, 7, 8]) (ys := [.sl false (a0.map (SL E_GTone)), .i a2, .mp 0 0 0, .i 0, .i 0]) (by kernel_rfl) (by kernel_rfl) (.k (.c (cleanMap _ _ (cl_SL cl_GTone))) (.k (.c rfl) (.k (.mp rfl rfl) (.k (.c rfl) (.k (.c rfl) .z))))) (.k (x' := .cells 2 [E_GInstrument a1]) (by kernel_rfl) (.cells (.k (.c (cl_GInstrument a1)) .z)) .z)) ?_
    rintro ⟨l1_7, l1_8⟩ out hl1 rl1
    refine run_s (c45 10) (c45 15) (by kernel_rfl) ?_
    refine run1 (c45 12) [{}, {}, { k := 1, n := a0.length }] [0, 2, 4, 7, 8, 13] [0] (zipE [0, 2, 4, 7, 8, 13] [.sl false (a0.map (SL E_GTone)), .i a2, .mp 0 0 0, .i l1_7, .i l1_8, .bool (decide (l1_8 < (a0.length : Int)))]) ⟨[(0, .cells 2 [E_GInstrument a1])], 1⟩ _ (by kernel_rfl) (cj1 (mapLen a0 (SL E_GTone))) ?_
    rcases iteE hl1 with ⟨hc1, hl1⟩ | ⟨hc1, hl1⟩
    · refine run_cT 13 (c45 13) (c45 14) (decide (l1_8 < (a0.length : Int))) hc1 (by kernel_rfl) (by kernel_rfl) ?_
      refine run_k (by kernel_rfl) ?_
      refine thenN ?_
      refine run_s (c45 16) (c45 35) (by kernel_rfl) ?_
      refine run_b 1 (c45 17) (by kernel_rfl) ?_
      refine run1 (c45 19) [] [0, 2, 4, 7, 8, 9] [0] (zipE [0, 2, 4, 7, 8, 9] [.sl false (a0.map (SL E_GTone)), .i a2, .mp 0 0 0, .i l1_7, .i l1_8, .i 0]) ⟨[(0, .cells 2 [E_GInstrument a1])], 1⟩ _ (by kernel_rfl) cj0 ?_
      obtain ⟨l2x_7, hll2x, hl1⟩ := bindE hl1
      refine run_tq (fun (l2x_7 : Int) => (zipE [0, 2, 4, 7, 8] [.sl false (a0.map (SL E_GTone)), .i a2, .mp 0 0 0, .i l2x_7, .i l1_8])) (fun (l2x_7 : Int) => ⟨[(0, .cells 2 [E_GInstrument a1])], 1⟩) (fun j => l2x_7 = j) (fun kl2 => ?_) ?_
      · refine run_b 2 (c45 20) (by kernel_rfl) ?_
        refine run_l (c45 21) _ hll2x (fun ((l2_7, l2_9) : (Int × Int)) => (zipE [0, 2, 4, 7, 8, 9] [.sl false (a0.map (SL E_GTone)), .i a2, .mp 0 0 0, .i l2_7, .i l1_8, .i l2_9])) (fun ((l2_7, l2_9) : (Int × Int)) => ⟨[(0, .cells 2 [E_GInstrument a1])], 1⟩) [] (by intro i e; cases e <;> exact Nat.le_of_ble_eq_true rfl) (by kernel_rfl) (mkInto (ks := [0, 2, 4, 7, 8, 9]) (ys := [.sl false (a0.map (SL E_GTone)), .i a2, .mp 0 0 0, .i l1_7, .i l1_8, .i 0]) (by kernel_rfl) (by kernel_rfl) (.k (.c (cleanMap _ _ (cl_SL cl_GTone))) (.k (.c rfl) (.k (.mp rfl rfl) (.k (.c rfl) (.k (.c rfl) (.k (.c rfl) .z)))))) (.k (x' := .cells 2 [E_GInstrument a1]) (by kernel_rfl) (.cells (.k (.c (cl_GInstrument a1)) .z)) .z)) ?_
        rintro ⟨l2_7, l2_9⟩ out hl2 rl2
        refine run_s (c45 22) (c45 27) (by kernel_rfl) ?_
        obtain ⟨y2, hy2, hl2⟩ := bindE hl2
        refine run1 (c45 24) [{}, {}, {}, { k := 1, x := (SL E_GTone) y2 }, {}, { k := 1, n := y2.length }] [0, 2, 4, 7, 8, 9, 22] [0] (zipE [0, 2, 4, 7, 8, 9, 22] [.sl false (a0.map (SL E_GTone)), .i a2, .mp 0 0 0, .i l2_7, .i l1_8, .i l2_9, .bool (decide (l2_9 < (y2.length : Int)))]) ⟨[(0, .cells 2 [E_GInstrument a1])], 1⟩ _ (by kernel_rfl) (cjC ((ixE hy2).1) (cjC (mapGet (SL E_GTone) (ixE hy2).2) (cj1 (mapLen y2 E_GTone)))) ?_
        rcases iteE hl2 with ⟨hc3, hl2⟩ | ⟨hc3, hl2⟩
        · refine run_cT 22 (c45 25) (c45 26) (decide (l2_9 < (y2.length : Int))) hc3 (by kernel_rfl) (by kernel_rfl) ?_
          refine run_k (by kernel_rfl) ?_
          refine thenN ?_
          obtain ⟨j3_7, hj3, hl2⟩ := bindE hl2
          refine run_jq (c45 28) (c45 34) (fun (j3_7 : Int) => (zipE [0, 2, 4, 7, 8, 9] [.sl false (a0.map (SL E_GTone)), .i a2, .mp 0 0 0, .i j3_7, .i l1_8, .i l2_9])) (fun (j3_7 : Int) => ⟨[(0, .cells 2 [E_GInstrument a1])], 1⟩) (fun j => j3_7 = j) (by kernel_rfl) (fun kj3 => ?_) ?_
          · refine run_b 3 (c45 29) (by kernel_rfl) ?_
            obtain ⟨y4, hy4, hj3⟩ := bindE hj3
            obtain ⟨r5, hr5, hj3⟩ := bindE hj3
            refine yun1 (c45 31) [[], [], [], [1, 2], [1, 2, 3], [], [1, 2, 3, 4, 5], [1, 2, 3, 4, 5, 6], [1, 2, 3, 4, 5, 6, 7], [], [1, 2, 3, 4, 5, 6, 7, 8, 9], [0, 1, 2, 3, 4, 5, 6, 7, 8, 9, 10], [0, 1, 2, 3, 4, 5, 6, 7, 8, 9, 10, 11], [0, 1, 2, 3, 4, 5, 6, 7, 8, 9, 10, 11, 12]] [.light 0 false, .light 1 false, .light 2 false, .light 3 false, .light 4 false, .light 5 false, .light 6 false, .light 7 false, .light 8 false, .light 9 false, .light 10 false, .heavy 11 [], .light 12 false, .light 13 false] [{}, {}, {}, { k := 1, x := (SL E_GTone) y2 }, {}, {}, { k := 1, x := E_GTone y4 }, {}, {}, {}, {}, { c := some (.sl false (r5.map E_GPlace), ⟨[(0, .cells 2 [E_GInstrument a1])], 1⟩) }, { k := 1, n := r5.length }] [0, 2, 4, 7, 8, 9, 38] [0] (zipE [0, 2, 4, 7, 8, 9, 38] [.sl false (a0.map (SL E_GTone)), .i a2, .mp 0 0 0, .i l2_7, .i l1_8, .i l2_9, .bool (decide ((r5.length : Int) = 0))]) ⟨[(0, .cells 2 [E_GInstrument a1])], 1⟩ _ (by kernel_rfl) (cjC ((ixE hy2).1) (cjC (mapGet (SL E_GTone) (ixE hy2).2) (cjC ((ixE hy4).1) (cjC (mapGet E_GTone (ixE hy4).2) (cjC (f87_ok a1 (wr (y4.pitch + a2)) _ hr5 ⟨[(0, .cells 2 [E_GInstrument a1])], 1⟩) (cj1 (mapLen r5 E_GPlace))))))) ?_
            rcases iteE hj3 with ⟨hc6, hj3⟩ | ⟨hc6, hj3⟩
            · refine run_cT 38 (c45 32) (c45 33) (decide ((r5.length : Int) = 0)) hc6 (by kernel_rfl) (by kernel_rfl) ?_
              refine run0 [] [0, 2, 4, 7, 8, 9] [0] (zipE [0, 2, 4, 7, 8, 9] [.sl false (a0.map (SL E_GTone)), .i a2, .mp 0 0 0, .i (wr (l2_7 + 1)), .i l1_8, .i l2_9]) ⟨[(0, .cells 2 [E_GInstrument a1])], 1⟩ _ (by kernel_rfl) cj0 ?_
              replace hj3 := Option.some.inj hj3; subst hj3
              refine inbN ?_
              refine thenN ?_
              exact kj3 (wr (l2_7 + 1)) rfl
            · refine run_cF 38 (c45 32) (c45 33) (decide ((r5.length : Int) = 0)) hc6 (by kernel_rfl) (by kernel_rfl) ?_
              replace hj3 := Option.some.inj hj3; subst hj3
              refine awp_p [0, 2, 4, 7, 8, 9] [0] (zipE [0, 2, 4, 7, 8, 9] [.sl false (a0.map (SL E_GTone)), .i a2, .mp 0 0 0, .i l2_7, .i l1_8, .i l2_9]) ⟨[(0, .cells 2 [E_GInstrument a1])], 1⟩ (by kernel_rfl) (?_)
              refine run_k (by kernel_rfl) ?_
              refine inbN ?_
              refine thenN ?_
              exact kj3 l2_7 rfl
          · rintro _ rfl
            refine run0 [] [0, 2, 4, 7, 8, 9] [0] (zipE [0, 2, 4, 7, 8, 9] [.sl false (a0.map (SL E_GTone)), .i a2, .mp 0 0 0, .i j3_7, .i l1_8, .i (wr (l2_9 + 1))]) ⟨[(0, .cells 2 [E_GInstrument a1])], 1⟩ _ (by kernel_rfl) cj0 ?_
            replace hl2 := Option.some.inj hl2; subst hl2
            exact ⟨_, rfl, pi [], mkInto (ks := [0, 2, 4, 7, 8, 9]) (ys := [.sl false (a0.map (SL E_GTone)), .i a2, .mp 0 0 0, .i j3_7, .i l1_8, .i (wr (l2_9 + 1))]) (by kernel_rfl) (by kernel_rfl) (.k (.c (cleanMap _ _ (cl_SL cl_GTone))) (.k (.c rfl) (.k (.mp rfl rfl) (.k (.c rfl) (.k (.c rfl) (.k (.c rfl) .z)))))) (.k (x' := .cells 2 [E_GInstrument a1]) (by kernel_rfl) (.cells (.k (.c (cl_GInstrument a1)) .z)) .z)⟩
        · refine run_cF 22 (c45 25) (c45 26) (decide (l2_9 < (y2.length : Int))) hc3 (by kernel_rfl) (by kernel_rfl) ?_
          replace hl2 := Option.some.inj hl2; subst hl2
          have hr := rl2 _ rfl
          subst hr
          refine awp_p [0, 2, 4, 7, 8] [0] (zipE [0, 2, 4, 7, 8] [.sl false (a0.map (SL E_GTone)), .i a2, .mp 0 0 0, .i l2_7, .i l1_8]) ⟨[(0, .cells 2 [E_GInstrument a1])], 1⟩ (by kernel_rfl) (?_)
          refine run_e 2 (by kernel_rfl) ?_
          refine thenE ?_
          refine ⟨⟨_, rfl⟩, ?_⟩
          refine inbE ?_
          exact kl2 l2_7 rfl
      · rintro _ rfl
        refine inbN ?_
        refine thenN ?_
        refine run0 [] [0, 2, 4, 7, 8] [0] (zipE [0, 2, 4, 7, 8] [.sl false (a0.map (SL E_GTone)), .i a2, .mp 0 0 0, .i l2x_7, .i (wr (l1_8 + 1))]) ⟨[(0, .cells 2 [E_GInstrument a1])], 1⟩ _ (by kernel_rfl) cj0 ?_
        replace hl1 := Option.some.inj hl1; subst hl1
        exact ⟨_, rfl, pi [], mkInto (ks := [0, 2, 4, 7, 8]) (ys := [.sl false (a0.map (SL E_GTone)), .i a2, .mp 0 0 0, .i l2x_7, .i (wr (l1_8 + 1))]) (by kernel_rfl) (by kernel_rfl) (.k (.c (cleanMap _ _ (cl_SL cl_GTone))) (.k (.c rfl) (.k (.mp rfl rfl) (.k (.c rfl) (.k (.c rfl) .z))))) (.k (x' := .cells 2 [E_GInstrument a1]) (by kernel_rfl) (.cells (.k (.c (cl_GInstrument a1)) .z)) .z)⟩
    · refine run_cF 13 (c45 13) (c45 14) (decide (l1_8 < (a0.length : Int))) hc1 (by kernel_rfl) (by kernel_rfl) ?_
      replace hl1 := Option.some.inj hl1; subst hl1
      have hr := rl1 _ rfl
      subst hr
      refine awp_p [7] [] (zipE [7] [.i l1_7]) ⟨[], 1⟩ (by kernel_rfl) (?_)
      refine run_e 0 (by kernel_rfl) ?_
      refine thenE ?_
      refine ⟨⟨_, rfl⟩, ?_⟩
      refine inbE ?_
      exact kl1 l1_7 rfl
  · rintro _ rfl
    refine thenN ?_
    refine run1 (c45 38) [] [6] [] (zipE [6] [.i l1x_7]) ⟨[], 1⟩ _ (by kernel_rfl) cj0 ?_
    refine run_t (by kernel_rfl) ?_
    replace h := Option.some.inj h; subst h
    exact fin_r (by kernel_rfl) rfl

/-- theorbo.theorboref08.Missing -/
def f24 (a0 : List (List GTone)) (a1 : GInstrument) (a2 : Int) : Option (Int × Int) := (f38 a0).bind fun r1 => bif (decide (r1 ≠ 0)) then (some (0, r1)) else ((f44 a1).bind fun r3 => bif (decide (r3 ≠ 0)) then (some (0, r3)) else ((f55 a2).bind fun r5 => bif r5 then (some (0, 1)) else ((f45 a0 a1 a2).bind fun r7 => some (r7, 0))))
theorem f24_ok (a0 : List (List GTone)) (a1 : GInstrument) (a2 : Int) (r : (Int × Int)) (h : f24 a0 a1 a2 = some r) : APure Tryz.prog 24 [.sl false (a0.map (SL E_GTone)), E_GInstrument a1, .i a2] (.tup [.i r.1, .i r.2]) := by
  refine apure (clK (cleanMap a0 _ (cl_SL cl_GTone)) (clK (cl_GInstrument a1) (clK rfl clZ))) (clK rfl (clK rfl clZ)) ?_
  refine run_f 26 [.tmp 6, .tmp 7] (c24 0) (zipE [0, 1, 2] [.sl false (a0.map (SL E_GTone)), E_GInstrument a1, .i a2]) (by kernel_rfl) (by kernel_rfl) (by kernel_rfl) rfl ?_
  unfold f24 at h
  refine run1 (c24 2) [] [0, 2, 4] [0] (zipE [0, 2, 4] [.sl false (a0.map (SL E_GTone)), .i a2, .mp 0 0 0]) ⟨[(0, .cells 2 [E_GInstrument a1])], 1⟩ _ (by kernel_rfl) cj0 ?_
  refine run_s (c24 3) (c24 12) (by kernel_rfl) ?_
  obtain ⟨r1, hr1, h⟩ := bindE h
  refine run1 (c24 5) [{}, { c := some (.i r1, ⟨[(0, .cells 2 [E_GInstrument a1])], 1⟩) }] [0, 2, 4, 8] [0] (zipE [0, 2, 4, 8] [.sl false (a0.map (SL E_GTone)), .i a2, .mp 0 0 0, .i r1]) ⟨[(0, .cells 2 [E_GInstrument a1])], 1⟩ _ (by kernel_rfl) (cj1 (f38_ok a0 _ hr1 ⟨[(0, .cells 2 [E_GInstrument a1])], 1⟩)) ?_
  refine run1 (c24 7) [] [0, 2, 4, 8, 13] [0] (zipE [0, 2, 4, 8, 13] [.sl false (a0.map (SL E_GTone)), .i a2, .mp 0 0 0, .i r1, .bool (decide (r1 ≠ 0))]) ⟨[(0, .cells 2 [E_GInstrument a1])], 1⟩ _ (by kernel_rfl) cj0 ?_
  rcases iteE h with ⟨hc2, h⟩ | ⟨hc2, h⟩
  · refine run_cT 13 (c24 8) (c24 11) (decide (r1 ≠ 0)) hc2 (by kernel_rfl) (by kernel_rfl) ?_
    refine run1 (c24 10) [] [6, 7] [] (zipE [6, 7] [.i 0, .i r1]) ⟨[], 1⟩ _ (by kernel_rfl) cj0 ?_
    refine run_t (by kernel_rfl) ?_
    refine thenR ?_
    replace h := Option.some.inj h; subst h
    exact fin_r (by kernel_rfl) rfl
  · refine run_cF 13 (c24 8) (c24 11) (decide (r1 ≠ 0)) hc2 (by kernel_rfl) (by kernel_rfl) ?_
    refine run_k (by kernel_rfl) ?_
    refine thenN ?_
    refine run_s (c24 13) (c24 22) (by kernel_rfl) ?_
    obtain ⟨r3, hr3, h⟩ := bindE h
    refine run1 (c24 15) [{}, { c := some (.i r3, ⟨[(0, .cells 2 [E_GInstrument a1])], 1⟩) }] [0, 2, 4, 9] [0] (zipE [0, 2, 4, 9] [.sl false (a0.map (SL E_GTone)), .i a2, .mp 0 0 0, .i r3]) ⟨[(0, .cells 2 [E_GInstrument a1])], 1⟩ _ (by kernel_rfl) (cj1 (f44_ok a1 _ hr3 ⟨[(0, .cells 2 [E_GInstrument a1])], 1⟩)) ?_
    refine run1 (c24 17) [] [0, 2, 4, 9, 18] [0] (zipE [0, 2, 4, 9, 18] [.sl false (a0.map (SL E_GTone)), .i a2, .mp 0 0 0, .i r3, .bool (decide (r3 ≠ 0))]) ⟨[(0, .cells 2 [E_GInstrument a1])], 1⟩ _ (by kernel_rfl) cj0 ?_
    rcases iteE h with ⟨hc4, h⟩ | ⟨hc4, h⟩
    · refine run_cT 18 (c24 18) (c24 21) (decide (r3 ≠ 0)) hc4 (by kernel_rfl) (by kernel_rfl) ?_
      refine run1 (c24 20) [] [6, 7] [] (zipE [6, 7] [.i 0, .i r3]) ⟨[], 1⟩ _ (by kernel_rfl) cj0 ?_
      refine run_t (by kernel_rfl) ?_
      refine thenR ?_
      replace h := Option.some.inj h; subst h
      exact fin_r (by kernel_rfl) rfl
    · refine run_cF 18 (c24 18) (c24 21) (decide (r3 ≠ 0)) hc4 (by kernel_rfl) (by kernel_rfl) ?_
      refine run_k (by kernel_rfl) ?_
      refine thenN ?_
      refine run_s (c24 23) (c24 30) (by kernel_rfl) ?_
      obtain ⟨r5, hr5, h⟩ := bindE h
      refine run1 (c24 25) [{}, { c := some (.bool r5, ⟨[(0, .cells 2 [E_GInstrument a1])], 1⟩) }] [0, 2, 4, 21] [0] (zipE [0, 2, 4, 21] [.sl false (a0.map (SL E_GTone)), .i a2, .mp 0 0 0, .bool r5]) ⟨[(0, .cells 2 [E_GInstrument a1])], 1⟩ _ (by kernel_rfl) (cj1 (f55_ok a2 _ hr5 ⟨[(0, .cells 2 [E_GInstrument a1])], 1⟩)) ?_
      rcases iteE h with ⟨hc6, h⟩ | ⟨hc6, h⟩
      · refine run_cT 21 (c24 26) (c24 29) r5 hc6 (by kernel_rfl) (by kernel_rfl) ?_
        refine run1 (c24 28) [] [6, 7] [] (zipE [6, 7] [.i 0, .i 1]) ⟨[], 1⟩ _ (by kernel_rfl) cj0 ?_
        refine run_t (by kernel_rfl) ?_
        refine thenR ?_
        replace h := Option.some.inj h; subst h
        exact fin_r (by kernel_rfl) rfl
      · refine run_cF 21 (c24 26) (c24 29) r5 hc6 (by kernel_rfl) (by kernel_rfl) ?_
        refine run_k (by kernel_rfl) ?_
        refine thenN ?_
        obtain ⟨r7, hr7, h⟩ := bindE h
        refine run1 (c24 32) [{}, {}, {}, { c := some (.i r7, ⟨[(0, .cells 2 [E_GInstrument a1])], 1⟩) }] [6, 7] [] (zipE [6, 7] [.i r7, .i 0]) ⟨[], 1⟩ _ (by kernel_rfl) (cj1 (f45_ok a0 a1 a2 _ hr7 ⟨[(0, .cells 2 [E_GInstrument a1])], 1⟩)) ?_
        refine run_t (by kernel_rfl) ?_
        replace h := Option.some.inj h; subst h
        exact fin_r (by kernel_rfl) rfl

/-- theorbo.theorbolaw08.IntabulateShifts -/
def f5 (a0 : List (List GTone)) (a1 : GInstrument) (a2 : Int) : Option Bool := (f21 a0 a2).bind fun r1 => (f22 a0 a2).bind fun r2 => ((bif (decide (r1.2 ≠ r2.2)) then (some true) else ((f23 r1.1 r2.1).bind fun r4 => some (!r4))) : Option Bool).bind fun (j1_33 : Bool) => bif j1_33 then (some false) else ((f19 a0 a1 a2).bind fun r6 => (f24 a0 a1 a2).bind fun r7 => ((bif (decide (r6.1 = r7.1)) then (bif (decide (r6.2 = r7.2)) then ((f13).bind fun r10 => some r10) else (some false)) else (some false)) : Option Bool).bind fun (j2_6 : Bool) => some j2_6)
theorem f5_ok (a0 : List (List GTone)) (a1 : GInstrument) (a2 : Int) (r : Bool) (h : f5 a0 a1 a2 = some r) : APure Tryz.prog 5 [.sl false (a0.map (SL E_GTone)), E_GInstrument a1, .i a2] (.bool r) := by
  refine apure (clK (cleanMap a0 _ (cl_SL cl_GTone)) (clK (cl_GInstrument a1) (clK rfl clZ))) rfl ?_
  refine run_f 59 [.tmp 6] (c5 0) (zipE [0, 1, 2] [.sl false (a0.map (SL E_GTone)), E_GInstrument a1, .i a2]) (by kernel_rfl) (by kernel_rfl) (by kernel_rfl) rfl ?_
  unfold f5 at h
  refine run1 (c5 2) [] [0, 2, 4] [0] (zipE [0, 2, 4] [.sl false (a0.map (SL E_GTone)), .i a2, .mp 0 0 0]) ⟨[(0, .cells 2 [E_GInstrument a1])], 1⟩ _ (by kernel_rfl) cj0 ?_
  obtain ⟨r1, hr1, h⟩ := bindE h
  refine run1 (c5 4) [{}, {}, { c := some (.tup [.sl false (r1.1.map (SL E_GTone)), .i r1.2], ⟨[(0, .cells 2 [E_GInstrument a1])], 1⟩) }] [0, 2, 4, 7, 8] [0] (zipE [0, 2, 4, 7, 8] [.sl false (a0.map (SL E_GTone)), .i a2, .mp 0 0 0, .sl false (r1.1.map (SL E_GTone)), .i r1.2]) ⟨[(0, .cells 2 [E_GInstrument a1])], 1⟩ _ (by kernel_rfl) (cj1 (f21_ok a0 a2 _ hr1 ⟨[(0, .cells 2 [E_GInstrument a1])], 1⟩)) ?_
  obtain ⟨r2, hr2, h⟩ := bindE h
  refine run1 (c5 6) [{}, {}, { c := some (.tup [.sl false (r2.1.map (SL E_GTone)), .i r2.2], ⟨[(0, .cells 2 [E_GInstrument a1])], 1⟩) }] [0, 2, 4, 7, 8, 9, 10] [0] (zipE [0, 2, 4, 7, 8, 9, 10] [.sl false (a0.map (SL E_GTone)), .i a2, .mp 0 0 0, .sl false (r1.1.map (SL E_GTone)), .i r1.2, .sl false (r2.1.map (SL E_GTone)), .i r2.2]) ⟨[(0, .cells 2 [E_GInstrument a1])], 1⟩ _ (by kernel_rfl) (cj1 (f22_ok a0 a2 _ hr2 ⟨[(0, .cells 2 [E_GInstrument a1])], 1⟩)) ?_
  refine run_s (c5 7) (c5 14) (by kernel_rfl) ?_
  obtain ⟨j1_33, hj1, h⟩ := bindE h
  refine run_gq (c5 9) (fun (j1_33 : Bool) => (zipE [0, 2, 4, 33] [.sl false (a0.map (SL E_GTone)), .i a2, .mp 0 0 0, .bool j1_33])) (fun (j1_33 : Bool) => ⟨[(0, .cells 2 [E_GInstrument a1])], 1⟩) (fun j => j1_33 = j) (fun kj1 => ?_) ?_
  · rcases iteE hj1 with ⟨hc3, hj1⟩ | ⟨hc3, hj1⟩
    · replace hj1 := Option.some.inj hj1; subst hj1
      exact run1 (c5 9) [{}, {}, {}, {}, { g := false }, { g := false }, { g := false }, { g := false }, { k := 1, b := true }] [0, 2, 4, 33] [0] (zipE [0, 2, 4, 33] [.sl false (a0.map (SL E_GTone)), .i a2, .mp 0 0 0, .bool true]) ⟨[(0, .cells 2 [E_GInstrument a1])], 1⟩ _ (by kernel_rfl) (cjC (hc3) (cjC (hc3) (cjC (hc3) (cjC (hc3) (cj1 (hc3)))))) (kj1 true rfl)
    · obtain ⟨r4, hr4, hj1⟩ := bindE hj1
      replace hj1 := Option.some.inj hj1; subst hj1
      exact run1 (c5 9) [{}, {}, {}, {}, {}, {}, { c := some (.bool r4, ⟨[(0, .cells 2 [E_GInstrument a1])], 1⟩) }, {}, { k := 1, b := false }] [0, 2, 4, 33] [0] (zipE [0, 2, 4, 33] [.sl false (a0.map (SL E_GTone)), .i a2, .mp 0 0 0, .bool (!r4)]) ⟨[(0, .cells 2 [E_GInstrument a1])], 1⟩ _ (by kernel_rfl) (cjC (hc3) (cjC (hc3) (cjC (hc3) (cjC (f23_ok r1.1 r2.1 _ hr4 ⟨[(0, .cells 2 [E_GInstrument a1])], 1⟩) (cjC (hc3) (cj1 (hc3))))))) (kj1 (!r4) rfl)
  · rintro _ rfl
    rcases iteE h with ⟨hc5, h⟩ | ⟨hc5, h⟩
    · refine run_cT 33 (c5 10) (c5 13) j1_33 hc5 (by kernel_rfl) (by kernel_rfl) ?_
      refine run1 (c5 12) [] [6] [] (zipE [6] [.bool false]) ⟨[], 1⟩ _ (by kernel_rfl) cj0 ?_
      refine run_t (by kernel_rfl) ?_
      refine thenR ?_
      replace h := Option.some.inj h; subst h
      exact fin_r (by kernel_rfl) rfl
    · refine run_cF 33 (c5 10) (c5 13) j1_33 hc5 (by kernel_rfl) (by kernel_rfl) ?_
      refine run_k (by kernel_rfl) ?_
      refine thenN ?_
      obtain ⟨r6, hr6, h⟩ := bindE h
      refine run1 (c5 16) [{}, {}, {}, { c := some (.tup [.i r6.1, .i r6.2], ⟨[(0, .cells 2 [E_GInstrument a1])], 1⟩) }] [0, 2, 4, 8, 11] [0] (zipE [0, 2, 4, 8, 11] [.sl false (a0.map (SL E_GTone)), .i a2, .mp 0 0 0, .i r6.2, .i r6.1]) ⟨[(0, .cells 2 [E_GInstrument a1])], 1⟩ _ (by kernel_rfl) (cj1 (f19_ok a0 a1 a2 _ hr6 ⟨[(0, .cells 2 [E_GInstrument a1])], 1⟩)) ?_
      obtain ⟨r7, hr7, h⟩ := bindE h
      refine run1 (c5 18) [{}, {}, {}, { c := some (.tup [.i r7.1, .i r7.2], ⟨[(0, .cells 2 [E_GInstrument a1])], 1⟩) }] [8, 10, 11, 12] [] (zipE [8, 10, 11, 12] [.i r6.2, .i r7.2, .i r6.1, .i r7.1]) ⟨[], 1⟩ _ (by kernel_rfl) (cj1 (f24_ok a0 a1 a2 _ hr7 ⟨[(0, .cells 2 [E_GInstrument a1])], 1⟩)) ?_
      obtain ⟨j2_6, hj2, h⟩ := bindE h
      refine run_gq (c5 20) (fun (j2_6 : Bool) => (zipE [6] [.bool j2_6])) (fun (j2_6 : Bool) => ⟨[], 1⟩) (fun j => j2_6 = j) (fun kj2 => ?_) ?_
      · rcases iteE hj2 with ⟨hc8, hj2⟩ | ⟨hc8, hj2⟩
        · rcases iteE hj2 with ⟨hc9, hj2⟩ | ⟨hc9, hj2⟩
          · obtain ⟨r10, hr10, hj2⟩ := bindE hj2
            replace hj2 := Option.some.inj hj2; subst hj2
            exact run1 (c5 20) [{}, {}, {}, {}, {}, {}, {}, { k := 1, b := true }, {}, { c := some (.bool r10, ⟨[], 1⟩) }, { k := 1, b := true }] [6] [] (zipE [6] [.bool r10]) ⟨[], 1⟩ _ (by kernel_rfl) (cjC (hc8) (cjC (hc8) (cjC (hc8) (cjC (hc8) (cjC (hc9) (cjC (f13_ok  _ hr10 ⟨[], 1⟩) (cj1 (hc9)))))))) (kj2 r10 rfl)
          · replace hj2 := Option.some.inj hj2; subst hj2
            exact run1 (c5 20) [{}, {}, {}, {}, {}, {}, {}, { k := 1, b := true }, {}, { g := false }, { k := 1, b := false }] [6] [] (zipE [6] [.bool false]) ⟨[], 1⟩ _ (by kernel_rfl) (cjC (hc8) (cjC (hc8) (cjC (hc8) (cjC (hc8) (cjC (hc9) (cj1 (hc9))))))) (kj2 false rfl)
        · replace hj2 := Option.some.inj hj2; subst hj2
          exact run1 (c5 20) [{}, {}, {}, {}, { g := false }, { g := false }, { g := false }, { k := 1, b := false }, {}, { g := false }] [6] [] (zipE [6] [.bool false]) ⟨[], 1⟩ _ (by kernel_rfl) (cjC (hc8) (cjC (hc8) (cjC (hc8) (cjC (hc8) (cj1 (Eq.refl false)))))) (kj2 false rfl)
      · rintro _ rfl
        refine run_t (by kernel_rfl) ?_
        replace h := Option.some.inj h; subst h
        exact fin_r (by kernel_rfl) rfl

end Go.Proofs.YtplpfocfcppajaaGreat
