/-
  Functions of the program as Lean functions, and the walks. Written by a program of ours.
-/
import Derived.Test.YtpljabnngpnieaaV32
namespace Go.Proofs.Ytpljabnngpnieaa
open Go Go.Am
set_option maxRecDepth 100000
set_option linter.all false
noncomputable def c17 (k : Nat) : Code := nthC (subs (Try.f17.body.getD .skip)) k
def f26 (a0 : List GVoice) (a1 : List GVoice) : Option Bool := bif (decide ((a0.length : Int) ≠ (a1.length : Int))) then (some false) else ((loopN (σ := Int) (τ := (Unit ⊕ Bool)) (fun (l1_5 : Int) => bif (decide (l1_5 < (a0.length : Int))) then ((ix a0 l1_5).bind fun y3 => (ix a1 l1_5).bind fun y4 => bif (!(eq_GVoice y3 y4)) then (some (.inr (.inr false))) else (some (.inl (wr (l1_5 + 1))))) else (some (.inr (.inl ())))) FUEL 0).bind (Sum.elim (fun (_ : Unit) => some true) some))
theorem f26_ok (a0 : List GVoice) (a1 : List GVoice) (r : Bool) (h : f26 a0 a1 = some r) : APure Try.prog 26 [.sl false (a0.map E_GVoice), .sl false (a1.map E_GVoice)] (.bool r) := by
  refine apure (clK (cleanMap a0 _ cl_GVoice) (clK (cleanMap a1 _ cl_GVoice) clZ)) rfl ?_
  let v_0 : AV := .sl false (a0.map E_GVoice)
  let v_1 : AV := .sl false (a1.map E_GVoice)
  refine run_f 26 [.tmp 4] (c26 0) (zipE [0, 1] [v_0, v_1]) (by kernel_rfl) (by kernel_rfl) (by kernel_rfl) rfl ?_
  unfold f26 at h
  refine run1z (c26 2) [] [0, 1] [v_0, v_1] ⟨[], 0⟩ _ (by kernel_rfl) cj0 ?_
  refine run_s (c26 3) (c26 10) (by kernel_rfl) ?_
  refine run1z (c26 5) [{}, { k := 1, n := a0.length }, {}, { k := 1, n := a1.length }] [0, 1, 10] [v_0, v_1, .bool (decide ((a0.length : Int) ≠ (a1.length : Int)))] ⟨[], 0⟩ _ (by kernel_rfl) (cjC (mapLen a0 E_GVoice) (cj1 (mapLen a1 E_GVoice))) ?_
  rcases iteE h with ⟨hc1, h⟩ | ⟨hc1, h⟩
  · refine run_cT 10 (c26 6) (c26 9) (decide ((a0.length : Int) ≠ (a1.length : Int))) hc1 (by kernel_rfl) (by kernel_rfl) ?_
    refine run1z (c26 8) [] [4] [.bool false] ⟨[], 0⟩ _ (by kernel_rfl) cj0 ?_
    refine run_t (by kernel_rfl) ?_
    refine thenR ?_
    replace h := Option.some.inj h; subst h
    exact fin_r (by kernel_rfl) rfl
  · refine run_cF 10 (c26 6) (c26 9) (decide ((a0.length : Int) ≠ (a1.length : Int))) hc1 (by kernel_rfl) (by kernel_rfl) ?_
    refine run_k (by kernel_rfl) ?_
    refine thenN ?_
    refine run_s (c26 11) (c26 31) (by kernel_rfl) ?_
    refine run1z (c26 13) [] [0, 1, 5] [v_0, v_1, .i 0] ⟨[], 0⟩ _ (by kernel_rfl) cj0 ?_
    obtain ⟨ol1x, hll1x, h⟩ := bindE h
    refine run_tq (fun (_ : Unit) => (zipE [] [])) (fun (_ : Unit) => ⟨[], 0⟩) (fun j => ol1x = .inl j) (fun kl1 => ?_) ?_
    · refine run_b 0 (c26 14) (by kernel_rfl) ?_
      refine run_l (c26 15) _ hll1x (fun (l1_5 : Int) => (zipE [0, 1, 5] [v_0, v_1, .i l1_5])) (fun (l1_5 : Int) => ⟨[], 0⟩) [] (by intro i e; cases e <;> exact Nat.le_of_ble_eq_true rfl) (by kernel_rfl) (mkInto (ks := [0, 1, 5]) (ys := [v_0, v_1, .i 0]) (by kernel_rfl) (by kernel_rfl) (.k (.c (cleanMap _ _ cl_GVoice)) (.k (.c (cleanMap _ _ cl_GVoice)) (.k (.c rfl) .z))) .z) ?_
      rintro l1_5 out hl1 rl1
      refine run_s (c26 16) (c26 21) (by kernel_rfl) ?_
      refine run1z (c26 18) [{}, {}, { k := 1, n := a0.length }] [0, 1, 5, 14] [v_0, v_1, .i l1_5, .bool (decide (l1_5 < (a0.length : Int)))] ⟨[], 0⟩ _ (by kernel_rfl) (cj1 (mapLen a0 E_GVoice)) ?_
      rcases iteE hl1 with ⟨hc2, hl1⟩ | ⟨hc2, hl1⟩
      · refine run_cT 14 (c26 19) (c26 20) (decide (l1_5 < (a0.length : Int))) hc2 (by kernel_rfl) (by kernel_rfl) ?_
        refine run_k (by kernel_rfl) ?_
        refine thenN ?_
        refine run_s (c26 22) (c26 30) (by kernel_rfl) ?_
        refine run_b 1 (c26 23) (by kernel_rfl) ?_
        obtain ⟨y3, hy3, hl1⟩ := bindE hl1
        obtain ⟨y4, hy4, hl1⟩ := bindE hl1
        refine yun1z (c26 25) [[], [], [0, 1], [0, 1, 2], [], [], [4, 5], [4, 5, 6], [0, 1, 2, 3, 4, 5, 6, 7]] [.light 0 false, .light 1 false, .light 2 false, .light 3 false, .light 4 false, .light 5 false, .light 6 false, .light 7 false, .light 8 false] [{}, {}, { k := 1, x := E_GVoice y3 }, {}, {}, {}, { k := 1, x := E_GVoice y4 }] [0, 1, 5, 25] [v_0, v_1, .i l1_5, .bool (!(eq_GVoice y3 y4))] ⟨[], 0⟩ _ (by kernel_rfl) (cjC ((ixE hy3).1) (cjC (mapGet E_GVoice (ixE hy3).2) (cjC ((ixE hy4).1) (cj1 (mapGet E_GVoice (ixE hy4).2))))) ?_
        rcases iteE hl1 with ⟨hc5, hl1⟩ | ⟨hc5, hl1⟩
        · refine run_cT 25 (c26 26) (c26 29) (!(eq_GVoice y3 y4)) hc5 (by kernel_rfl) (by kernel_rfl) ?_
          refine run1z (c26 28) [] [4] [.bool false] ⟨[], 0⟩ _ (by kernel_rfl) cj0 ?_
          replace hl1 := Option.some.inj hl1; subst hl1
          have hr := rl1 _ rfl
          subst hr
          replace h := elimR h
          refine run_t (by kernel_rfl) ?_
          refine inbR ?_
          refine thenR ?_
          refine ⟨⟨_, rfl⟩, ?_⟩
          refine inbR ?_
          refine thenR ?_
          replace h := Option.some.inj h; subst h
          exact fin_r (by kernel_rfl) rfl
        · refine run_cF 25 (c26 26) (c26 29) (!(eq_GVoice y3 y4)) hc5 (by kernel_rfl) (by kernel_rfl) ?_
          refine run_k (by kernel_rfl) ?_
          refine inbN ?_
          refine thenN ?_
          refine run0z [] [0, 1, 5] [v_0, v_1, .i (wr (l1_5 + 1))] ⟨[], 0⟩ _ (by kernel_rfl) cj0 ?_
          replace hl1 := Option.some.inj hl1; subst hl1
          exact ⟨_, rfl, pi [], mkInto (ks := [0, 1, 5]) (ys := [v_0, v_1, .i (wr (l1_5 + 1))]) (by kernel_rfl) (by kernel_rfl) (.k (.c (cleanMap _ _ cl_GVoice)) (.k (.c (cleanMap _ _ cl_GVoice)) (.k (.c rfl) .z))) .z⟩
      · refine run_cF 14 (c26 19) (c26 20) (decide (l1_5 < (a0.length : Int))) hc2 (by kernel_rfl) (by kernel_rfl) ?_
        replace hl1 := Option.some.inj hl1; subst hl1
        have hr := rl1 _ rfl
        subst hr
        refine awp_p [] [] (zipE [] []) ⟨[], 0⟩ (by kernel_rfl) (?_)
        refine run_e 0 (by kernel_rfl) ?_
        refine thenE ?_
        refine ⟨⟨_, rfl⟩, ?_⟩
        refine inbE ?_
        exact kl1 () rfl
    · rintro ⟨⟩ rfl
      replace h := elimL h
      refine thenN ?_
      refine run1z (c26 33) [] [4] [.bool true] ⟨[], 0⟩ _ (by kernel_rfl) cj0 ?_
      refine run_t (by kernel_rfl) ?_
      replace h := Option.some.inj h; subst h
      exact fin_r (by kernel_rfl) rfl
def f17 (a0 : GFrame) (a1 : GFrame) : Option Bool := ((bif (decide (a0.time = a1.time)) then ((f26 a0.begin a1.begin).bind fun r2 => bif r2 then ((f26 a0.end_ a1.end_).bind fun r4 => some r4) else (some false)) else (some false)) : Option Bool).bind fun (j1_4 : Bool) => some j1_4
theorem f17_ok (a0 : GFrame) (a1 : GFrame) (r : Bool) (h : f17 a0 a1 = some r) : APure Try.prog 17 [E_GFrame a0, E_GFrame a1] (.bool r) := by
  refine apure (clK (cl_GFrame a0) (clK (cl_GFrame a1) clZ)) rfl ?_
  refine run_f 24 [.tmp 4] (c17 0) (zipE [0, 1] [E_GFrame a0, E_GFrame a1]) (by kernel_rfl) (by kernel_rfl) (by kernel_rfl) rfl ?_
  unfold f17 at h
  let b_0 : Blk := .cells 3 [E_GFrame a1]
  let b_1 : Blk := .cells 3 [E_GFrame a0]
  let s_0 : St := ⟨[(1, b_0), (0, b_1)], 2⟩
  refine run1z (c17 2) [] [2, 3] [.mp 0 0 0, .mp 1 0 0] s_0 _ (by kernel_rfl) cj0 ?_
  obtain ⟨j1_4, hj1, h⟩ := bindE h
  refine run_gq (c17 4) (fun (j1_4 : Bool) => (zipE [4] [.bool j1_4])) (fun (j1_4 : Bool) => ⟨[], 2⟩) (fun j => j1_4 = j) (fun kj1 => ?_) ?_
  · rcases iteE hj1 with ⟨hc1, hj1⟩ | ⟨hc1, hj1⟩
    · obtain ⟨r2, hr2, hj1⟩ := bindE hj1
      rcases iteE hj1 with ⟨hc3, hj1⟩ | ⟨hc3, hj1⟩
      · obtain ⟨r4, hr4, hj1⟩ := bindE hj1
        replace hj1 := Option.some.inj hj1; subst hj1
        exact run1z (c17 4) [{}, {}, {}, {}, {}, {}, {}, {}, {}, {}, { c := some (.bool r2, s_0) }, { k := 1, b := true }, {}, {}, {}, {}, {}, { c := some (.bool r4, s_0) }, { k := 1, b := true }] [4] [.bool r4] ⟨[], 2⟩ _ (by kernel_rfl) (cjC (hc1) (cjC (hc1) (cjC (hc1) (cjC (hc1) (cjC (hc1) (cjC (f26_ok a0.begin a1.begin _ hr2 s_0) (cjC (hc1) (cjC (hc3) (cjC (hc3) (cjC (hc3) (cjC (hc3) (cjC (hc3) (cjC (f26_ok a0.end_ a1.end_ _ hr4 s_0) (cj1 (hc3))))))))))))))) (kj1 r4 rfl)
      · replace hj1 := Option.some.inj hj1; subst hj1
        exact run1z (c17 4) [{}, {}, {}, {}, {}, {}, {}, {}, {}, {}, { c := some (.bool r2, s_0) }, { k := 1, b := true }, {}, { g := false }, { g := false }, { g := false }, { g := false }, { g := false }, { k := 1, b := false }] [4] [.bool false] ⟨[], 2⟩ _ (by kernel_rfl) (cjC (hc1) (cjC (hc1) (cjC (hc1) (cjC (hc1) (cjC (hc1) (cjC (f26_ok a0.begin a1.begin _ hr2 s_0) (cjC (hc1) (cjC (hc3) (cjC (hc3) (cjC (hc3) (cjC (hc3) (cjC (hc3) (cj1 (hc3)))))))))))))) (kj1 false rfl)
    · replace hj1 := Option.some.inj hj1; subst hj1
      exact run1z (c17 4) [{}, {}, {}, {}, {}, {}, { g := false }, { g := false }, { g := false }, { g := false }, { g := false }, { k := 1, b := false }, {}, { g := false }, { g := false }, { g := false }, { g := false }, { g := false }] [4] [.bool false] ⟨[], 2⟩ _ (by kernel_rfl) (cjC (hc1) (cjC (hc1) (cjC (hc1) (cjC (hc1) (cjC (hc1) (cjC (hc1) (cjC (Eq.refl false) (cjC (Eq.refl false) (cjC (Eq.refl false) (cjC (Eq.refl false) (cj1 (Eq.refl false)))))))))))) (kj1 false rfl)
  · rintro _ rfl
    refine run_t (by kernel_rfl) ?_
    replace h := Option.some.inj h; subst h
    exact fin_r (by kernel_rfl) rfl
end Go.Proofs.Ytpljabnngpnieaa
