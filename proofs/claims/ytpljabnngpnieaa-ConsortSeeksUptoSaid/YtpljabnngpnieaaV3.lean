/-
  Functions of the program as Lean functions, and the walks. Written by a program of ours.
-/
import Derived.Test.YtpljabnngpnieaaV32
import Derived.Test.YtpljabnngpnieaaV11
import Derived.Test.YtpljabnngpnieaaV13
import Derived.Test.YtpljabnngpnieaaV16
import Derived.Test.YtpljabnngpnieaaV14
import Derived.Test.YtpljabnngpnieaaV8
import Derived.Test.YtpljabnngpnieaaV15
import Derived.Test.YtpljabnngpnieaaV17
namespace Go.Proofs.Ytpljabnngpnieaa
open Go Go.Am
set_option maxRecDepth 100000
set_option linter.all false
noncomputable def c3 (k : Nat) : Code := nthC (subs (Try.f3.body.getD .skip)) k
def f3 (a0 : GConsort) (a1 : Int) (a2 : Int) : Option Bool := (f9 a0.pieces).bind fun r1 => bif r1 then ((f10).bind fun r3 => some r3) else ((f11 a0).bind (Sum.elim (fun r4a => bif (decide (r4a ≠ 0)) then ((f10).bind fun r6 => some r6) else ((f11 a0).bind (Sum.elim (fun r7a => bif (decide (r7a ≠ 0)) then (some false) else ((f12 a1 41).bind fun r9 => (loopN (σ := Int) (τ := Unit) (fun (l1_40 : Int) => bif (decide (l1_40 < r9)) then ((f13).bind fun r11 => some (.inl (wr (l1_40 + 1)))) else (some (.inr ()))) FUEL 0).bind fun (_ : Unit) => (f14 a0).bind fun r12 => (f12 a2 (wr (r12 + 1))).bind fun r13 => (f15 r13).bind fun r14 => bif (decide (r14.2 ≠ 0)) then (some false) else ((f15 r13).bind fun r16 => bif (decide (r16.2 ≠ 0)) then (some false) else ((f16).bind fun r18 => (f16).bind fun r19 => ((bif (!r18.2) then (some true) else (bif (!r19.2) then (some true) else (some (decide ((r18.1.length : Int) ≠ (r19.1.length : Int)))))) : Option Bool).bind fun (j2_88 : Bool) => bif j2_88 then (some false) else ((loopN (σ := Int) (τ := (Unit ⊕ Bool)) (fun (l3_91 : Int) => bif (decide (l3_91 < (r18.1.length : Int))) then ((ix r18.1 l3_91).bind fun y24 => (ix r19.1 l3_91).bind fun y25 => (f17 y24 y25).bind fun r26 => bif (!r26) then (some (.inr (.inr false))) else (some (.inl (wr (l3_91 + 1))))) else (some (.inr (.inl ())))) FUEL 0).bind (Sum.elim (fun (_ : Unit) => (f10).bind fun r28 => some r28) some)))))) (fun r7b => (f12 a1 41).bind fun r29 => (loopN (σ := Int) (τ := Unit) (fun (l4_40 : Int) => bif (decide (l4_40 < r29)) then ((f13).bind fun r31 => some (.inl (wr (l4_40 + 1)))) else (some (.inr ()))) FUEL 0).bind fun (_ : Unit) => (f14 a0).bind fun r32 => (f12 a2 (wr (r32 + 1))).bind fun r33 => (f15 r33).bind fun r34 => bif (decide (r34.2 ≠ 0)) then (some false) else ((f15_1 (⟨(⟨0⟩ : GCClock), 0, r7b.1, true, r7b.2, 0, 0, 0, (⟨([] : List GCLive)⟩ : GCShelf_live), ([] : List GTake)⟩ : GCPlayer) r33).bind fun r36 => bif (decide (r36.2.1 ≠ 0)) then (some false) else ((f16).bind fun r38 => (f16_1 (⟨(⟨0⟩ : GCClock), r36.2.2.1, r7b.1, r36.2.2.2.1, r36.2.2.2.2.1, 0, 0, 0, (⟨r36.2.2.2.2.2.1⟩ : GCShelf_live), r36.2.2.2.2.2.2⟩ : GCPlayer)).bind fun r39 => ((bif (!r38.2) then (some true) else (bif (!r39.2.1) then (some true) else (some (decide ((r38.1.length : Int) ≠ (r39.1.length : Int)))))) : Option Bool).bind fun (j5_88 : Bool) => bif j5_88 then (some false) else ((loopN (σ := Int) (τ := (Unit ⊕ Bool)) (fun (l6_91 : Int) => bif (decide (l6_91 < (r38.1.length : Int))) then ((ix r38.1 l6_91).bind fun y44 => (ix r39.1 l6_91).bind fun y45 => (f17 y44 y45).bind fun r46 => bif (!r46) then (some (.inr (.inr false))) else (some (.inl (wr (l6_91 + 1))))) else (some (.inr (.inl ())))) FUEL 0).bind (Sum.elim (fun (_ : Unit) => (f10).bind fun r48 => some r48) some)))))))) (fun r4b => (f11 a0).bind (Sum.elim (fun r49a => bif (decide (r49a ≠ 0)) then (some false) else ((f12 a1 41).bind fun r51 => (loopN (σ := (Int × Int × Bool × List GCDesk × Int × List GCLive × List GTake × Int)) (τ := (Int × Int × Bool × List GCDesk × Int × List GCLive × List GTake)) (fun ((l7_h2_0, l7_h2_1, l7_h2_3, l7_h2_4, l7_h2_7, l7_h2_8, l7_h2_10, l7_40) : (Int × Int × Bool × List GCDesk × Int × List GCLive × List GTake × Int)) => bif (decide (l7_40 < r51)) then ((f13_1 (⟨(⟨l7_h2_0⟩ : GCClock), l7_h2_1, r4b.1, l7_h2_3, l7_h2_4, 0, 0, l7_h2_7, (⟨l7_h2_8⟩ : GCShelf_live), l7_h2_10⟩ : GCPlayer)).bind fun r53 => some (.inl (r53.2.2.1, r53.2.2.2.1, r53.2.2.2.2.1, r53.2.2.2.2.2.1, r53.2.2.2.2.2.2.1, r53.2.2.2.2.2.2.2.1, r53.2.2.2.2.2.2.2.2, (wr (l7_40 + 1))))) else (some (.inr (l7_h2_0, l7_h2_1, l7_h2_3, l7_h2_4, l7_h2_7, l7_h2_8, l7_h2_10)))) FUEL (0, 0, true, r4b.2, 0, ([] : List GCLive), ([] : List GTake), 0)).bind fun ((l7x_h2_0, l7x_h2_1, l7x_h2_3, l7x_h2_4, l7x_h2_7, l7x_h2_8, l7x_h2_10) : (Int × Int × Bool × List GCDesk × Int × List GCLive × List GTake)) => (f14 a0).bind fun r54 => (f12 a2 (wr (r54 + 1))).bind fun r55 => (f15_1 (⟨(⟨l7x_h2_0⟩ : GCClock), l7x_h2_1, r4b.1, l7x_h2_3, l7x_h2_4, 0, 0, l7x_h2_7, (⟨l7x_h2_8⟩ : GCShelf_live), l7x_h2_10⟩ : GCPlayer) r55).bind fun r56 => bif (decide (r56.2.1 ≠ 0)) then (some false) else ((f15 r55).bind fun r58 => bif (decide (r58.2 ≠ 0)) then (some false) else ((f16_1 (⟨(⟨l7x_h2_0⟩ : GCClock), r56.2.2.1, r4b.1, r56.2.2.2.1, r56.2.2.2.2.1, 0, 0, l7x_h2_7, (⟨r56.2.2.2.2.2.1⟩ : GCShelf_live), r56.2.2.2.2.2.2⟩ : GCPlayer)).bind fun r60 => (f16).bind fun r61 => ((bif (!r60.2.1) then (some true) else (bif (!r61.2) then (some true) else (some (decide ((r60.1.length : Int) ≠ (r61.1.length : Int)))))) : Option Bool).bind fun (j8_88 : Bool) => bif j8_88 then (some false) else ((loopN (σ := Int) (τ := (Unit ⊕ Bool)) (fun (l9_91 : Int) => bif (decide (l9_91 < (r60.1.length : Int))) then ((ix r60.1 l9_91).bind fun y66 => (ix r61.1 l9_91).bind fun y67 => (f17 y66 y67).bind fun r68 => bif (!r68) then (some (.inr (.inr false))) else (some (.inl (wr (l9_91 + 1))))) else (some (.inr (.inl ())))) FUEL 0).bind (Sum.elim (fun (_ : Unit) => (f10).bind fun r70 => some r70) some)))))) (fun r49b => (f12 a1 41).bind fun r71 => (loopN (σ := (Int × Int × Bool × List GCDesk × Int × List GCLive × List GTake × Int)) (τ := (Int × Int × Bool × List GCDesk × Int × List GCLive × List GTake)) (fun ((l10_h2_0, l10_h2_1, l10_h2_3, l10_h2_4, l10_h2_7, l10_h2_8, l10_h2_10, l10_40) : (Int × Int × Bool × List GCDesk × Int × List GCLive × List GTake × Int)) => bif (decide (l10_40 < r71)) then ((f13_1 (⟨(⟨l10_h2_0⟩ : GCClock), l10_h2_1, r4b.1, l10_h2_3, l10_h2_4, 0, 0, l10_h2_7, (⟨l10_h2_8⟩ : GCShelf_live), l10_h2_10⟩ : GCPlayer)).bind fun r73 => some (.inl (r73.2.2.1, r73.2.2.2.1, r73.2.2.2.2.1, r73.2.2.2.2.2.1, r73.2.2.2.2.2.2.1, r73.2.2.2.2.2.2.2.1, r73.2.2.2.2.2.2.2.2, (wr (l10_40 + 1))))) else (some (.inr (l10_h2_0, l10_h2_1, l10_h2_3, l10_h2_4, l10_h2_7, l10_h2_8, l10_h2_10)))) FUEL (0, 0, true, r4b.2, 0, ([] : List GCLive), ([] : List GTake), 0)).bind fun ((l10x_h2_0, l10x_h2_1, l10x_h2_3, l10x_h2_4, l10x_h2_7, l10x_h2_8, l10x_h2_10) : (Int × Int × Bool × List GCDesk × Int × List GCLive × List GTake)) => (f14 a0).bind fun r74 => (f12 a2 (wr (r74 + 1))).bind fun r75 => (f15_1 (⟨(⟨l10x_h2_0⟩ : GCClock), l10x_h2_1, r4b.1, l10x_h2_3, l10x_h2_4, 0, 0, l10x_h2_7, (⟨l10x_h2_8⟩ : GCShelf_live), l10x_h2_10⟩ : GCPlayer) r75).bind fun r76 => bif (decide (r76.2.1 ≠ 0)) then (some false) else ((f15_1 (⟨(⟨0⟩ : GCClock), 0, r49b.1, true, r49b.2, 0, 0, 0, (⟨([] : List GCLive)⟩ : GCShelf_live), ([] : List GTake)⟩ : GCPlayer) r75).bind fun r78 => bif (decide (r78.2.1 ≠ 0)) then (some false) else ((f16_1 (⟨(⟨l10x_h2_0⟩ : GCClock), r76.2.2.1, r4b.1, r76.2.2.2.1, r76.2.2.2.2.1, 0, 0, l10x_h2_7, (⟨r76.2.2.2.2.2.1⟩ : GCShelf_live), r76.2.2.2.2.2.2⟩ : GCPlayer)).bind fun r80 => (f16_1 (⟨(⟨0⟩ : GCClock), r78.2.2.1, r49b.1, r78.2.2.2.1, r78.2.2.2.2.1, 0, 0, 0, (⟨r78.2.2.2.2.2.1⟩ : GCShelf_live), r78.2.2.2.2.2.2⟩ : GCPlayer)).bind fun r81 => ((bif (!r80.2.1) then (some true) else (bif (!r81.2.1) then (some true) else (some (decide ((r80.1.length : Int) ≠ (r81.1.length : Int)))))) : Option Bool).bind fun (j11_88 : Bool) => bif j11_88 then (some false) else ((loopN (σ := Int) (τ := (Unit ⊕ Bool)) (fun (l12_91 : Int) => bif (decide (l12_91 < (r80.1.length : Int))) then ((ix r80.1 l12_91).bind fun y86 => (ix r81.1 l12_91).bind fun y87 => (f17 y86 y87).bind fun r88 => bif (!r88) then (some (.inr (.inr false))) else (some (.inl (wr (l12_91 + 1))))) else (some (.inr (.inl ())))) FUEL 0).bind (Sum.elim (fun (_ : Unit) => (f10).bind fun r90 => some r90) some)))))))))
theorem f3_ok (a0 : GConsort) (a1 : Int) (a2 : Int) (r : Bool) (h : f3 a0 a1 a2 = some r) : APure Try.prog 3 [E_GConsort a0, .i a1, .i a2] (.bool r) := by
  refine apure (clK (cl_GConsort a0) (clK rfl (clK rfl clZ))) rfl ?_
  refine run_f 106 [.tmp 6] (c3 0) (zipE [0, 1, 2] [E_GConsort a0, .i a1, .i a2]) (by kernel_rfl) (by kernel_rfl) (by kernel_rfl) rfl ?_
  unfold f3 at h
  let b_0 : Blk := .cells 1 [E_GConsort a0]
  refine run1z (c3 2) [] [1, 2, 3] [.i a1, .i a2, .mp 0 0 0] ⟨[(0, b_0)], 1⟩ _ (by kernel_rfl) cj0 ?_
  refine run_s (c3 3) (c3 10) (by kernel_rfl) ?_
  obtain ⟨r1, hr1, h⟩ := bindE h
  refine run1z (c3 5) [{}, {}, { c := some (.bool r1, ⟨[(0, b_0)], 1⟩) }] [1, 2, 3, 21] [.i a1, .i a2, .mp 0 0 0, .bool r1] ⟨[(0, b_0)], 1⟩ _ (by kernel_rfl) (cj1 (f9_ok a0.pieces _ hr1 ⟨[(0, b_0)], 1⟩)) ?_
  rcases iteE h with ⟨hc2, h⟩ | ⟨hc2, h⟩
  · refine run_cT 21 (c3 6) (c3 9) r1 hc2 (by kernel_rfl) (by kernel_rfl) ?_
    obtain ⟨r3, hr3, h⟩ := bindE h
    refine run1z (c3 8) [{ c := some (.bool r3, ⟨[(0, b_0)], 1⟩) }] [6] [.bool r3] ⟨[], 1⟩ _ (by kernel_rfl) (cj1 (f10_ok  _ hr3 ⟨[(0, b_0)], 1⟩)) ?_
    refine run_t (by kernel_rfl) ?_
    refine thenR ?_
    replace h := Option.some.inj h; subst h
    exact fin_r (by kernel_rfl) rfl
  · refine run_cF 21 (c3 6) (c3 9) r1 hc2 (by kernel_rfl) (by kernel_rfl) ?_
    refine run_k (by kernel_rfl) ?_
    refine thenN ?_
    obtain ⟨r4, hr4, h⟩ := bindE h
    rcases r4 with r4a | r4b
    · replace h := elimL h
      refine run1z (c3 12) [{}, { c := some (.tup [.nilp, .i r4a], ⟨[(0, b_0)], 5⟩) }] [1, 2, 3, 7, 8] [.i a1, .i a2, .mp 0 0 0, .nilp, .i r4a] ⟨[(0, b_0)], 5⟩ _ (by kernel_rfl) (cj1 (callF (f11_ok a0 (.inl r4a) hr4) [] [] [0] [E_GConsort a0] ⟨[(0, b_0)], 1⟩ (.tup [.nilp, .i r4a]) ⟨[(0, b_0)], 5⟩ (by kernel_rfl) (.k (.c (cl_GConsort a0)) .z) (.t (.k (.c rfl) (.k (.c rfl) .z))) .z (.f rfl (by kernel_rfl) .z))) ?_
      refine run_s (c3 13) (c3 20) (by kernel_rfl) ?_
      refine run1z (c3 15) [] [1, 2, 3, 7, 29] [.i a1, .i a2, .mp 0 0 0, .nilp, .bool (decide (r4a ≠ 0))] ⟨[(0, b_0)], 5⟩ _ (by kernel_rfl) cj0 ?_
      rcases iteE h with ⟨hc5, h⟩ | ⟨hc5, h⟩
      · refine run_cT 29 (c3 16) (c3 19) (decide (r4a ≠ 0)) hc5 (by kernel_rfl) (by kernel_rfl) ?_
        obtain ⟨r6, hr6, h⟩ := bindE h
        refine run1z (c3 18) [{ c := some (.bool r6, ⟨[(0, b_0)], 5⟩) }] [6] [.bool r6] ⟨[], 5⟩ _ (by kernel_rfl) (cj1 (f10_ok  _ hr6 ⟨[(0, b_0)], 5⟩)) ?_
        refine run_t (by kernel_rfl) ?_
        refine thenR ?_
        replace h := Option.some.inj h; subst h
        exact fin_r (by kernel_rfl) rfl
      · refine run_cF 29 (c3 16) (c3 19) (decide (r4a ≠ 0)) hc5 (by kernel_rfl) (by kernel_rfl) ?_
        refine run_k (by kernel_rfl) ?_
        refine thenN ?_
        obtain ⟨r7, hr7, h⟩ := bindE h
        rcases r7 with r7a | r7b
        · replace h := elimL h
          refine run1z (c3 22) [{}, { c := some (.tup [.nilp, .i r7a], ⟨[(0, b_0)], 9⟩) }] [1, 2, 3, 7, 8, 9] [.i a1, .i a2, .mp 0 0 0, .nilp, .i r7a, .nilp] ⟨[(0, b_0)], 9⟩ _ (by kernel_rfl) (cj1 (callF (f11_ok a0 (.inl r7a) hr7) [] [] [0] [E_GConsort a0] ⟨[(0, b_0)], 5⟩ (.tup [.nilp, .i r7a]) ⟨[(0, b_0)], 9⟩ (by kernel_rfl) (.k (.c (cl_GConsort a0)) .z) (.t (.k (.c rfl) (.k (.c rfl) .z))) .z (.f rfl (by kernel_rfl) .z))) ?_
          refine run_s (c3 23) (c3 30) (by kernel_rfl) ?_
          refine run1z (c3 25) [] [1, 2, 3, 7, 9, 37] [.i a1, .i a2, .mp 0 0 0, .nilp, .nilp, .bool (decide (r7a ≠ 0))] ⟨[(0, b_0)], 9⟩ _ (by kernel_rfl) cj0 ?_
          rcases iteE h with ⟨hc8, h⟩ | ⟨hc8, h⟩
          · refine run_cT 37 (c3 26) (c3 29) (decide (r7a ≠ 0)) hc8 (by kernel_rfl) (by kernel_rfl) ?_
            refine run1z (c3 28) [] [6] [.bool false] ⟨[], 9⟩ _ (by kernel_rfl) cj0 ?_
            refine run_t (by kernel_rfl) ?_
            refine thenR ?_
            replace h := Option.some.inj h; subst h
            exact fin_r (by kernel_rfl) rfl
          · refine run_cF 37 (c3 26) (c3 29) (decide (r7a ≠ 0)) hc8 (by kernel_rfl) (by kernel_rfl) ?_
            refine run_k (by kernel_rfl) ?_
            refine thenN ?_
            refine run_s (c3 31) (c3 45) (by kernel_rfl) ?_
            obtain ⟨r9, hr9, h⟩ := bindE h
            refine run1z (c3 33) [{}, { c := some (.i r9, ⟨[(0, b_0)], 9⟩) }] [2, 3, 7, 9, 39, 40] [.i a2, .mp 0 0 0, .nilp, .nilp, .i r9, .i 0] ⟨[(0, b_0)], 9⟩ _ (by kernel_rfl) (cj1 (f12_ok a1 41 _ hr9 ⟨[(0, b_0)], 9⟩)) ?_
            obtain ⟨ol1x, hll1x, h⟩ := bindE h
            refine run_tq (fun (_ : Unit) => (zipE [2, 3, 7, 9] [.i a2, .mp 0 0 0, .nilp, .nilp])) (fun (_ : Unit) => ⟨[(0, b_0)], 9⟩) (fun j => ol1x = j) (fun kl1 => ?_) ?_
            · refine run_b 0 (c3 34) (by kernel_rfl) ?_
              refine run_l (c3 35) _ hll1x (fun (l1_40 : Int) => (zipE [2, 3, 7, 9, 39, 40] [.i a2, .mp 0 0 0, .nilp, .nilp, .i r9, .i l1_40])) (fun (l1_40 : Int) => ⟨[(0, b_0)], 9⟩) [] (by intro i e; cases e <;> exact Nat.le_of_ble_eq_true rfl) (by kernel_rfl) (mkInto (ks := [2, 3, 7, 9, 39, 40]) (ys := [.i a2, .mp 0 0 0, .nilp, .nilp, .i r9, .i 0]) (by kernel_rfl) (by kernel_rfl) (.k (.c rfl) (.k (.mp rfl rfl) (.k (.c rfl) (.k (.c rfl) (.k (.c rfl) (.k (.c rfl) .z)))))) (.k rfl (.cells (.k (.c (cl_GConsort a0)) .z)) .z)) ?_
              rintro l1_40 out hl1 rl1
              refine run1z (c3 37) [] [2, 3, 7, 9, 39, 40, 41] [.i a2, .mp 0 0 0, .nilp, .nilp, .i r9, .i l1_40, .bool (decide (l1_40 < r9))] ⟨[(0, b_0)], 9⟩ _ (by kernel_rfl) cj0 ?_
              refine run_s (c3 38) (c3 41) (by kernel_rfl) ?_
              rcases iteE hl1 with ⟨hc10, hl1⟩ | ⟨hc10, hl1⟩
              · refine run_cT 41 (c3 39) (c3 40) (decide (l1_40 < r9)) hc10 (by kernel_rfl) (by kernel_rfl) ?_
                refine run_k (by kernel_rfl) ?_
                refine thenN ?_
                refine run_s (c3 42) (c3 44) (by kernel_rfl) ?_
                refine run_b 1 (c3 43) (by kernel_rfl) ?_
                obtain ⟨r11, hr11, hl1⟩ := bindE hl1
                refine run0z [{}, { c := some (.tup [E_GFrame r11.1, .i r11.2], ⟨[(0, b_0)], 9⟩) }] [2, 3, 7, 9, 39, 40] [.i a2, .mp 0 0 0, .nilp, .nilp, .i r9, .i l1_40] ⟨[(0, b_0)], 9⟩ _ (by kernel_rfl) (cj1 (APure.co (ok := fun _ => false) (π := id) (args := [.nilp]) (f13_ok  _ hr11) (.k (.c rfl) .z) ⟨[(0, b_0)], 9⟩)) ?_
                refine inbN ?_
                refine thenN ?_
                refine run0z [] [2, 3, 7, 9, 39, 40] [.i a2, .mp 0 0 0, .nilp, .nilp, .i r9, .i (wr (l1_40 + 1))] ⟨[(0, b_0)], 9⟩ _ (by kernel_rfl) cj0 ?_
                replace hl1 := Option.some.inj hl1; subst hl1
                exact ⟨_, rfl, pi [], mkInto (ks := [2, 3, 7, 9, 39, 40]) (ys := [.i a2, .mp 0 0 0, .nilp, .nilp, .i r9, .i (wr (l1_40 + 1))]) (by kernel_rfl) (by kernel_rfl) (.k (.c rfl) (.k (.mp rfl rfl) (.k (.c rfl) (.k (.c rfl) (.k (.c rfl) (.k (.c rfl) .z)))))) (.k rfl (.cells (.k (.c (cl_GConsort a0)) .z)) .z)⟩
              · refine run_cF 41 (c3 39) (c3 40) (decide (l1_40 < r9)) hc10 (by kernel_rfl) (by kernel_rfl) ?_
                replace hl1 := Option.some.inj hl1; subst hl1
                have hr := rl1 _ rfl
                subst hr
                refine awp_p [2, 3, 7, 9] [0] (zipE [2, 3, 7, 9] [.i a2, .mp 0 0 0, .nilp, .nilp]) ⟨[(0, b_0)], 9⟩ (by kernel_rfl) (?_)
                refine run_e 0 (by kernel_rfl) ?_
                refine thenE ?_
                refine ⟨⟨_, rfl⟩, ?_⟩
                refine inbE ?_
                exact kl1 () rfl
            · rintro ⟨⟩ rfl
              refine thenN ?_
              obtain ⟨r12, hr12, h⟩ := bindE h
              obtain ⟨r13, hr13, h⟩ := bindE h
              refine run1z (c3 47) [{}, {}, { c := some (.i r12, ⟨[(0, b_0)], 9⟩) }, {}, { c := some (.i r13, ⟨[(0, b_0)], 9⟩) }] [2, 7, 9] [.i r13, .nilp, .nilp] ⟨[], 9⟩ _ (by kernel_rfl) (cjC (f14_ok a0 _ hr12 ⟨[(0, b_0)], 9⟩) (cj1 (f12_ok a2 (wr (r12 + 1)) _ hr13 ⟨[(0, b_0)], 9⟩))) ?_
              refine run_s (c3 48) (c3 57) (by kernel_rfl) ?_
              obtain ⟨r14, hr14, h⟩ := bindE h
              refine run1z (c3 50) [{}, {}, { c := some (.tup [E_GFrame r14.1, .i r14.2], ⟨[], 9⟩) }] [2, 7, 9, 11] [.i r13, .nilp, .nilp, .i r14.2] ⟨[], 10⟩ _ (by kernel_rfl) (cj1 (APure.co (ok := fun _ => false) (π := id) (args := [.nilp, .i r13]) (f15_ok r13 _ hr14) (.k (.c rfl) (.k (.c rfl) .z)) ⟨[], 9⟩)) ?_
              refine run1z (c3 52) [] [2, 7, 9, 57] [.i r13, .nilp, .nilp, .bool (decide (r14.2 ≠ 0))] ⟨[], 10⟩ _ (by kernel_rfl) cj0 ?_
              rcases iteE h with ⟨hc15, h⟩ | ⟨hc15, h⟩
              · refine run_cT 57 (c3 53) (c3 56) (decide (r14.2 ≠ 0)) hc15 (by kernel_rfl) (by kernel_rfl) ?_
                refine run1z (c3 55) [] [6] [.bool false] ⟨[], 10⟩ _ (by kernel_rfl) cj0 ?_
                refine run_t (by kernel_rfl) ?_
                refine thenR ?_
                replace h := Option.some.inj h; subst h
                exact fin_r (by kernel_rfl) rfl
              · refine run_cF 57 (c3 53) (c3 56) (decide (r14.2 ≠ 0)) hc15 (by kernel_rfl) (by kernel_rfl) ?_
                refine run_k (by kernel_rfl) ?_
                refine thenN ?_
                refine run_s (c3 58) (c3 67) (by kernel_rfl) ?_
                obtain ⟨r16, hr16, h⟩ := bindE h
                refine run1z (c3 60) [{}, {}, { c := some (.tup [E_GFrame r16.1, .i r16.2], ⟨[], 10⟩) }] [7, 9, 13] [.nilp, .nilp, .i r16.2] ⟨[], 11⟩ _ (by kernel_rfl) (cj1 (APure.co (ok := fun _ => false) (π := id) (args := [.nilp, .i r13]) (f15_ok r13 _ hr16) (.k (.c rfl) (.k (.c rfl) .z)) ⟨[], 10⟩)) ?_
                refine run1z (c3 62) [] [7, 9, 65] [.nilp, .nilp, .bool (decide (r16.2 ≠ 0))] ⟨[], 11⟩ _ (by kernel_rfl) cj0 ?_
                rcases iteE h with ⟨hc17, h⟩ | ⟨hc17, h⟩
                · refine run_cT 65 (c3 63) (c3 66) (decide (r16.2 ≠ 0)) hc17 (by kernel_rfl) (by kernel_rfl) ?_
                  refine run1z (c3 65) [] [6] [.bool false] ⟨[], 11⟩ _ (by kernel_rfl) cj0 ?_
                  refine run_t (by kernel_rfl) ?_
                  refine thenR ?_
                  replace h := Option.some.inj h; subst h
                  exact fin_r (by kernel_rfl) rfl
                · refine run_cF 65 (c3 63) (c3 66) (decide (r16.2 ≠ 0)) hc17 (by kernel_rfl) (by kernel_rfl) ?_
                  refine run_k (by kernel_rfl) ?_
                  refine thenN ?_
                  obtain ⟨r18, hr18, h⟩ := bindE h
                  let v_0 : AV := .sl false (r18.1.map E_GFrame)
                  refine run1z (c3 69) [{}, { c := some (.tup [v_0, .bool r18.2], ⟨[], 11⟩) }] [9, 14, 15] [.nilp, v_0, .bool r18.2] ⟨[], 11⟩ _ (by kernel_rfl) (cj1 (APure.co (ok := fun _ => false) (π := id) (args := [.nilp]) (f16_ok  _ hr18) (.k (.c rfl) .z) ⟨[], 11⟩)) ?_
                  obtain ⟨r19, hr19, h⟩ := bindE h
                  let v_1 : AV := .sl false (r19.1.map E_GFrame)
                  refine run1z (c3 71) [{}, { c := some (.tup [v_1, .bool r19.2], ⟨[], 11⟩) }] [14, 15, 16, 17] [v_0, .bool r18.2, v_1, .bool r19.2] ⟨[], 11⟩ _ (by kernel_rfl) (cj1 (APure.co (ok := fun _ => false) (π := id) (args := [.nilp]) (f16_ok  _ hr19) (.k (.c rfl) .z) ⟨[], 11⟩)) ?_
                  refine run_s (c3 72) (c3 79) (by kernel_rfl) ?_
                  obtain ⟨j2_88, hj2, h⟩ := bindE h
                  refine run_gq (c3 74) (fun (j2_88 : Bool) => (zipE [14, 16, 88] [v_0, v_1, .bool j2_88])) (fun (j2_88 : Bool) => ⟨[], 11⟩) (fun j => j2_88 = j) (fun kj2 => ?_) ?_
                  · rcases iteE hj2 with ⟨hc20, hj2⟩ | ⟨hc20, hj2⟩
                    · replace hj2 := Option.some.inj hj2; subst hj2
                      exact run1z (c3 74) [{}, {}, {}, { g := false }, { g := false }, { k := 1, b := true }, {}, { g := false }, { g := false }, { g := false }, { g := false }, { g := false }] [14, 16, 88] [v_0, v_1, .bool true] ⟨[], 11⟩ _ (by kernel_rfl) (cjC (hc20) (cjC (hc20) (cjC (hc20) (cjC (Eq.refl true) (cjC (Eq.refl true) (cjC (Eq.refl true) (cjC (Eq.refl true) (cj1 (Eq.refl true))))))))) (kj2 true rfl)
                    · rcases iteE hj2 with ⟨hc21, hj2⟩ | ⟨hc21, hj2⟩
                      · replace hj2 := Option.some.inj hj2; subst hj2
                        exact run1z (c3 74) [{}, {}, {}, {}, {}, { k := 1, b := false }, {}, { g := false }, { g := false }, { g := false }, { g := false }, { g := false }, { k := 1, b := true }] [14, 16, 88] [v_0, v_1, .bool true] ⟨[], 11⟩ _ (by kernel_rfl) (cjC (hc20) (cjC (hc20) (cjC (hc20) (cjC (hc21) (cjC (hc21) (cjC (hc21) (cjC (hc21) (cjC (hc21) (cj1 (hc21)))))))))) (kj2 true rfl)
                      · replace hj2 := Option.some.inj hj2; subst hj2
                        exact run1z (c3 74) [{}, {}, {}, {}, {}, { k := 1, b := false }, {}, {}, { k := 1, n := r18.1.length }, {}, { k := 1, n := r19.1.length }, {}, { k := 1, b := false }] [14, 16, 88] [v_0, v_1, .bool (decide ((r18.1.length : Int) ≠ (r19.1.length : Int)))] ⟨[], 11⟩ _ (by kernel_rfl) (cjC (hc20) (cjC (hc20) (cjC (hc20) (cjC (hc21) (cjC (hc21) (cjC (mapLen r18.1 E_GFrame) (cjC (hc21) (cjC (hc21) (cjC (mapLen r19.1 E_GFrame) (cjC (hc21) (cj1 (hc21)))))))))))) (kj2 (decide ((r18.1.length : Int) ≠ (r19.1.length : Int))) rfl)
                  · rintro _ rfl
                    rcases iteE h with ⟨hc22, h⟩ | ⟨hc22, h⟩
                    · refine run_cT 88 (c3 75) (c3 78) j2_88 hc22 (by kernel_rfl) (by kernel_rfl) ?_
                      refine run1z (c3 77) [] [6] [.bool false] ⟨[], 11⟩ _ (by kernel_rfl) cj0 ?_
                      refine run_t (by kernel_rfl) ?_
                      refine thenR ?_
                      replace h := Option.some.inj h; subst h
                      exact fin_r (by kernel_rfl) rfl
                    · refine run_cF 88 (c3 75) (c3 78) j2_88 hc22 (by kernel_rfl) (by kernel_rfl) ?_
                      refine run_k (by kernel_rfl) ?_
                      refine thenN ?_
                      refine run_s (c3 80) (c3 102) (by kernel_rfl) ?_
                      let v_2 : AV := .i (r18.1.length : Int)
                      refine run1z (c3 82) [{}, { k := 1, n := r18.1.length }] [14, 16, 90, 91] [v_0, v_1, v_2, .i 0] ⟨[], 11⟩ _ (by kernel_rfl) (cj1 (mapLen r18.1 E_GFrame)) ?_
                      obtain ⟨ol3x, hll3x, h⟩ := bindE h
                      refine run_tq (fun (_ : Unit) => (zipE [] [])) (fun (_ : Unit) => ⟨[], 11⟩) (fun j => ol3x = .inl j) (fun kl3 => ?_) ?_
                      · refine run_b 2 (c3 83) (by kernel_rfl) ?_
                        refine run_l (c3 84) _ hll3x (fun (l3_91 : Int) => (zipE [14, 16, 90, 91] [v_0, v_1, v_2, .i l3_91])) (fun (l3_91 : Int) => ⟨[], 11⟩) [] (by intro i e; cases e <;> exact Nat.le_of_ble_eq_true rfl) (by kernel_rfl) (mkInto (ks := [14, 16, 90, 91]) (ys := [v_0, v_1, v_2, .i 0]) (by kernel_rfl) (by kernel_rfl) (.k (.c (cleanMap _ _ cl_GFrame)) (.k (.c (cleanMap _ _ cl_GFrame)) (.k (.c rfl) (.k (.c rfl) .z)))) .z) ?_
                        rintro l3_91 out hl3 rl3
                        refine run1z (c3 86) [] [14, 16, 90, 91, 92] [v_0, v_1, v_2, .i l3_91, .bool (decide (l3_91 < (r18.1.length : Int)))] ⟨[], 11⟩ _ (by kernel_rfl) cj0 ?_
                        refine run_s (c3 87) (c3 90) (by kernel_rfl) ?_
                        rcases iteE hl3 with ⟨hc23, hl3⟩ | ⟨hc23, hl3⟩
                        · refine run_cT 92 (c3 88) (c3 89) (decide (l3_91 < (r18.1.length : Int))) hc23 (by kernel_rfl) (by kernel_rfl) ?_
                          refine run_k (by kernel_rfl) ?_
                          refine thenN ?_
                          refine run_s (c3 91) (c3 101) (by kernel_rfl) ?_
                          refine run_b 3 (c3 92) (by kernel_rfl) ?_
                          refine run1z (c3 94) [] [14, 16, 18, 90, 91] [v_0, v_1, .i l3_91, v_2, .i l3_91] ⟨[], 11⟩ _ (by kernel_rfl) cj0 ?_
                          obtain ⟨y24, hy24, hl3⟩ := bindE hl3
                          obtain ⟨y25, hy25, hl3⟩ := bindE hl3
                          obtain ⟨r26, hr26, hl3⟩ := bindE hl3
                          refine yun1z (c3 96) [[], [], [0, 1], [0, 1, 2], [], [], [4, 5], [4, 5, 6], [0, 1, 2, 3, 4, 5, 6, 7], [0, 1, 2, 3, 4, 5, 6, 7, 8]] [.light 0 false, .light 1 false, .light 2 false, .light 3 false, .light 4 false, .light 5 false, .light 6 false, .light 7 false, .heavy 8 [], .light 9 false] [{}, {}, { k := 1, x := E_GFrame y24 }, {}, {}, {}, { k := 1, x := E_GFrame y25 }, {}, { c := some (.bool r26, ⟨[], 11⟩) }] [14, 16, 90, 91, 103] [v_0, v_1, v_2, .i l3_91, .bool (!r26)] ⟨[], 11⟩ _ (by kernel_rfl) (cjC ((ixE hy24).1) (cjC (mapGet E_GFrame (ixE hy24).2) (cjC ((ixE hy25).1) (cjC (mapGet E_GFrame (ixE hy25).2) (cj1 (f17_ok y24 y25 _ hr26 ⟨[], 11⟩)))))) ?_
                          rcases iteE hl3 with ⟨hc27, hl3⟩ | ⟨hc27, hl3⟩
                          · refine run_cT 103 (c3 97) (c3 100) (!r26) hc27 (by kernel_rfl) (by kernel_rfl) ?_
                            refine run1z (c3 99) [] [6] [.bool false] ⟨[], 11⟩ _ (by kernel_rfl) cj0 ?_
                            replace hl3 := Option.some.inj hl3; subst hl3
                            have hr := rl3 _ rfl
                            subst hr
                            replace h := elimR h
                            refine run_t (by kernel_rfl) ?_
                            refine inbR ?_
                            refine thenR ?_
                            refine ⟨⟨_, rfl⟩, ?_⟩
                            refine inbR ?_
                            refine thenR ?_
                            replace h := Option.some.inj h; subst h
                            exact fin_r (by kernel_rfl) rfl
                          · refine run_cF 103 (c3 97) (c3 100) (!r26) hc27 (by kernel_rfl) (by kernel_rfl) ?_
                            refine run_k (by kernel_rfl) ?_
                            refine inbN ?_
                            refine thenN ?_
                            refine run0z [] [14, 16, 90, 91] [v_0, v_1, v_2, .i (wr (l3_91 + 1))] ⟨[], 11⟩ _ (by kernel_rfl) cj0 ?_
                            replace hl3 := Option.some.inj hl3; subst hl3
                            exact ⟨_, rfl, pi [], mkInto (ks := [14, 16, 90, 91]) (ys := [v_0, v_1, v_2, .i (wr (l3_91 + 1))]) (by kernel_rfl) (by kernel_rfl) (.k (.c (cleanMap _ _ cl_GFrame)) (.k (.c (cleanMap _ _ cl_GFrame)) (.k (.c rfl) (.k (.c rfl) .z)))) .z⟩
                        · refine run_cF 92 (c3 88) (c3 89) (decide (l3_91 < (r18.1.length : Int))) hc23 (by kernel_rfl) (by kernel_rfl) ?_
                          replace hl3 := Option.some.inj hl3; subst hl3
                          have hr := rl3 _ rfl
                          subst hr
                          refine awp_p [] [] (zipE [] []) ⟨[], 11⟩ (by kernel_rfl) (?_)
                          refine run_e 2 (by kernel_rfl) ?_
                          refine thenE ?_
                          refine ⟨⟨_, rfl⟩, ?_⟩
                          refine inbE ?_
                          exact kl3 () rfl
                      · rintro ⟨⟩ rfl
                        replace h := elimL h
                        refine thenN ?_
                        obtain ⟨r28, hr28, h⟩ := bindE h
                        refine run1z (c3 104) [{ c := some (.bool r28, ⟨[], 11⟩) }] [6] [.bool r28] ⟨[], 11⟩ _ (by kernel_rfl) (cj1 (f10_ok  _ hr28 ⟨[], 11⟩)) ?_
                        refine run_t (by kernel_rfl) ?_
                        replace h := Option.some.inj h; subst h
                        exact fin_r (by kernel_rfl) rfl
        · replace h := elimR h
          let v_3 : AV := .ms 7 0 r7b.2.length
          let w_0 : AV := .agg [.i 0, .i 0, .i r7b.1, .bool true, v_3, .i 0, .i 0, .i 0, .ms 9 0 ([] : List GCLive).length, .fn 31 [], .ms 8 0 ([] : List GTake).length]
          let b_1 : Blk := .cells 7 (([] : List GCLive).map E_GCLive)
          let b_3 : Blk := .cells 5 (([] : List GTake).map E_GTake)
          let b_5 : Blk := .cells 3 (r7b.2.map E_GCDesk)
          let s_0 : St := ⟨[(9, b_1), (8, b_3), (7, b_5), (6, .cells 11 [w_0]), (0, b_0)], 10⟩
          refine run1z (c3 22) [{}, { c := some (.tup [.mp 6 0 0, .i 0], s_0) }] [1, 2, 3, 7, 8, 9] [.i a1, .i a2, .mp 0 0 0, .nilp, .i 0, .mp 6 0 0] s_0 _ (by kernel_rfl) (cj1 (callF (f11_ok a0 (.inr r7b) hr7) [] [(9, 4), (8, 3), (7, 2), (6, 1)] [0] [E_GConsort a0] ⟨[(0, b_0)], 5⟩ (.tup [.mp 6 0 0, .i 0]) s_0 (by kernel_rfl) (.k (.c (cl_GConsort a0)) .z) (.t (.k (.mp rfl rfl) (.k (.c rfl) .z))) .z (.d (x' := b_1) rfl (by kernel_rfl) (.cells (.r (cleanMap _ _ cl_GCLive))) (.d (x' := b_3) rfl (by kernel_rfl) (.cells (.r (cleanMap _ _ cl_GTake))) (.d (x' := b_5) rfl (by kernel_rfl) (.cells (.r (cleanMap _ _ cl_GCDesk))) (.d (x' := .cells 11 [.agg [.i 0, .i 0, .i r7b.1, .bool true, .ms 2 0 r7b.2.length, .i 0, .i 0, .i 0, .ms 4 0 ([] : List GCLive).length, .fn 31 [], .ms 3 0 ([] : List GTake).length]]) rfl (by kernel_rfl) (.cells (.k (.a (.k (.c rfl) (.k (.c rfl) (.k (.c rfl) (.k (.c rfl) (.k (.ms rfl rfl) (.k (.c rfl) (.k (.c rfl) (.k (.c rfl) (.k (.ms rfl rfl) (.k (.c rfl) (.k (.ms rfl rfl) .z)))))))))))) .z)) (.f rfl (by kernel_rfl) .z))))))) ?_
          refine run_s (c3 23) (c3 30) (by kernel_rfl) ?_
          refine run1z (c3 25) [] [1, 2, 3, 7, 9, 37] [.i a1, .i a2, .mp 0 0 0, .nilp, .mp 6 0 0, .bool false] s_0 _ (by kernel_rfl) cj0 ?_
          refine run_cF 37 (c3 26) (c3 29) false rfl (by kernel_rfl) (by kernel_rfl) ?_
          refine run_k (by kernel_rfl) ?_
          refine thenN ?_
          refine run_s (c3 31) (c3 45) (by kernel_rfl) ?_
          obtain ⟨r29, hr29, h⟩ := bindE h
          refine run1z (c3 33) [{}, { c := some (.i r29, s_0) }] [2, 3, 7, 9, 39, 40] [.i a2, .mp 0 0 0, .nilp, .mp 6 0 0, .i r29, .i 0] s_0 _ (by kernel_rfl) (cj1 (f12_ok a1 41 _ hr29 s_0)) ?_
          obtain ⟨ol4x, hll4x, h⟩ := bindE h
          refine run_tq (fun (_ : Unit) => (zipE [2, 3, 7, 9] [.i a2, .mp 0 0 0, .nilp, .mp 6 0 0])) (fun (_ : Unit) => s_0) (fun j => ol4x = j) (fun kl4 => ?_) ?_
          · refine run_b 0 (c3 34) (by kernel_rfl) ?_
            refine run_l (c3 35) _ hll4x (fun (l4_40 : Int) => (zipE [2, 3, 7, 9, 39, 40] [.i a2, .mp 0 0 0, .nilp, .mp 6 0 0, .i r29, .i l4_40])) (fun (l4_40 : Int) => s_0) [] (by intro i e; cases e <;> exact Nat.le_of_ble_eq_true rfl) (by kernel_rfl) (mkInto (ks := [2, 3, 7, 9, 39, 40]) (ys := [.i a2, .mp 0 0 0, .nilp, .mp 6 0 0, .i r29, .i 0]) (by kernel_rfl) (by kernel_rfl) (.k (.c rfl) (.k (.mp rfl rfl) (.k (.c rfl) (.k (.mp rfl rfl) (.k (.c rfl) (.k (.c rfl) .z)))))) (.k rfl (.cells (.r (cleanMap _ _ cl_GCLive))) (.k rfl (.cells (.r (cleanMap _ _ cl_GTake))) (.k rfl (.cells (.r (cleanMap _ _ cl_GCDesk))) (.k rfl (.cells (.k (.a (.k (.c rfl) (.k (.c rfl) (.k (.c rfl) (.k (.c rfl) (.k (.ms rfl rfl) (.k (.c rfl) (.k (.c rfl) (.k (.c rfl) (.k (.ms rfl rfl) (.k (.c rfl) (.k (.ms rfl rfl) .z)))))))))))) .z)) (.k rfl (.cells (.k (.c (cl_GConsort a0)) .z)) .z)))))) ?_
            rintro l4_40 out hl4 rl4
            refine run1z (c3 37) [] [2, 3, 7, 9, 39, 40, 41] [.i a2, .mp 0 0 0, .nilp, .mp 6 0 0, .i r29, .i l4_40, .bool (decide (l4_40 < r29))] s_0 _ (by kernel_rfl) cj0 ?_
            refine run_s (c3 38) (c3 41) (by kernel_rfl) ?_
            rcases iteE hl4 with ⟨hc30, hl4⟩ | ⟨hc30, hl4⟩
            · refine run_cT 41 (c3 39) (c3 40) (decide (l4_40 < r29)) hc30 (by kernel_rfl) (by kernel_rfl) ?_
              refine run_k (by kernel_rfl) ?_
              refine thenN ?_
              refine run_s (c3 42) (c3 44) (by kernel_rfl) ?_
              refine run_b 1 (c3 43) (by kernel_rfl) ?_
              obtain ⟨r31, hr31, hl4⟩ := bindE hl4
              refine run0z [{}, { c := some (.tup [E_GFrame r31.1, .i r31.2], s_0) }] [2, 3, 7, 9, 39, 40] [.i a2, .mp 0 0 0, .nilp, .mp 6 0 0, .i r29, .i l4_40] s_0 _ (by kernel_rfl) (cj1 (APure.co (ok := fun _ => false) (π := id) (args := [.nilp]) (f13_ok  _ hr31) (.k (.c rfl) .z) s_0)) ?_
              refine inbN ?_
              refine thenN ?_
              refine run0z [] [2, 3, 7, 9, 39, 40] [.i a2, .mp 0 0 0, .nilp, .mp 6 0 0, .i r29, .i (wr (l4_40 + 1))] s_0 _ (by kernel_rfl) cj0 ?_
              replace hl4 := Option.some.inj hl4; subst hl4
              exact ⟨_, rfl, pi [], mkInto (ks := [2, 3, 7, 9, 39, 40]) (ys := [.i a2, .mp 0 0 0, .nilp, .mp 6 0 0, .i r29, .i (wr (l4_40 + 1))]) (by kernel_rfl) (by kernel_rfl) (.k (.c rfl) (.k (.mp rfl rfl) (.k (.c rfl) (.k (.mp rfl rfl) (.k (.c rfl) (.k (.c rfl) .z)))))) (.k rfl (.cells (.r (cleanMap _ _ cl_GCLive))) (.k rfl (.cells (.r (cleanMap _ _ cl_GTake))) (.k rfl (.cells (.r (cleanMap _ _ cl_GCDesk))) (.k rfl (.cells (.k (.a (.k (.c rfl) (.k (.c rfl) (.k (.c rfl) (.k (.c rfl) (.k (.ms rfl rfl) (.k (.c rfl) (.k (.c rfl) (.k (.c rfl) (.k (.ms rfl rfl) (.k (.c rfl) (.k (.ms rfl rfl) .z)))))))))))) .z)) (.k rfl (.cells (.k (.c (cl_GConsort a0)) .z)) .z)))))⟩
            · refine run_cF 41 (c3 39) (c3 40) (decide (l4_40 < r29)) hc30 (by kernel_rfl) (by kernel_rfl) ?_
              replace hl4 := Option.some.inj hl4; subst hl4
              have hr := rl4 _ rfl
              subst hr
              refine awp_p [2, 3, 7, 9] [9, 8, 7, 6, 0] (zipE [2, 3, 7, 9] [.i a2, .mp 0 0 0, .nilp, .mp 6 0 0]) s_0 (by kernel_rfl) (?_)
              refine run_e 0 (by kernel_rfl) ?_
              refine thenE ?_
              refine ⟨⟨_, rfl⟩, ?_⟩
              refine inbE ?_
              exact kl4 () rfl
          · rintro ⟨⟩ rfl
            refine thenN ?_
            obtain ⟨r32, hr32, h⟩ := bindE h
            obtain ⟨r33, hr33, h⟩ := bindE h
            let s_1 : St := ⟨[(9, b_1), (8, b_3), (7, b_5), (6, .cells 11 [w_0])], 10⟩
            refine run1z (c3 47) [{}, {}, { c := some (.i r32, s_0) }, {}, { c := some (.i r33, s_0) }] [2, 7, 9] [.i r33, .nilp, .mp 6 0 0] s_1 _ (by kernel_rfl) (cjC (f14_ok a0 _ hr32 s_0) (cj1 (f12_ok a2 (wr (r32 + 1)) _ hr33 s_0))) ?_
            refine run_s (c3 48) (c3 57) (by kernel_rfl) ?_
            obtain ⟨r34, hr34, h⟩ := bindE h
            let s_2 : St := ⟨[(9, b_1), (8, b_3), (7, b_5), (6, .cells 11 [w_0])], 11⟩
            refine run1z (c3 50) [{}, {}, { c := some (.tup [E_GFrame r34.1, .i r34.2], s_1) }] [2, 7, 9, 11] [.i r33, .nilp, .mp 6 0 0, .i r34.2] s_2 _ (by kernel_rfl) (cj1 (APure.co (ok := fun _ => false) (π := id) (args := [.nilp, .i r33]) (f15_ok r33 _ hr34) (.k (.c rfl) (.k (.c rfl) .z)) s_1)) ?_
            refine run1z (c3 52) [] [2, 7, 9, 57] [.i r33, .nilp, .mp 6 0 0, .bool (decide (r34.2 ≠ 0))] s_2 _ (by kernel_rfl) cj0 ?_
            rcases iteE h with ⟨hc35, h⟩ | ⟨hc35, h⟩
            · refine run_cT 57 (c3 53) (c3 56) (decide (r34.2 ≠ 0)) hc35 (by kernel_rfl) (by kernel_rfl) ?_
              refine run1z (c3 55) [] [6] [.bool false] ⟨[], 11⟩ _ (by kernel_rfl) cj0 ?_
              refine run_t (by kernel_rfl) ?_
              refine thenR ?_
              replace h := Option.some.inj h; subst h
              exact fin_r (by kernel_rfl) rfl
            · refine run_cF 57 (c3 53) (c3 56) (decide (r34.2 ≠ 0)) hc35 (by kernel_rfl) (by kernel_rfl) ?_
              refine run_k (by kernel_rfl) ?_
              refine thenN ?_
              refine run_s (c3 58) (c3 67) (by kernel_rfl) ?_
              obtain ⟨r36, hr36, h⟩ := bindE h
              let v_4 : AV := .ms 16 0 r36.2.2.2.2.2.1.length
              let v_5 : AV := .ms 17 0 r36.2.2.2.2.2.2.length
              let v_6 : AV := .ms 7 0 r36.2.2.2.2.1.length
              let v_7 : AV := .bool r36.2.2.2.1
              let w_1 : AV := .tup [.agg [.i r36.1.time, .sl false (r36.1.begin.map E_GVoice), .sl false (r36.1.end_.map E_GVoice)], .i r36.2.1]
              let w_2 : AV := .agg [.i 0, .i r36.2.2.1, .i r7b.1, v_7, v_6, .i 0, .i 0, .i 0, v_4, .fn 31 [], v_5]
              let b_6 : Blk := .cells 7 (r36.2.2.2.2.2.1.map E_GCLive)
              let b_7 : Blk := .cells 5 (r36.2.2.2.2.2.2.map E_GTake)
              let b_8 : Blk := .cells 3 (r36.2.2.2.2.1.map E_GCDesk)
              let s_3 : St := ⟨[(17, b_7), (16, b_6), (7, b_8), (6, .cells 11 [w_2])], 18⟩
              let s_4 : St := ⟨[(17, b_7), (16, b_6), (7, b_8), (6, .cells 11 [w_2])], 19⟩
              refine run1z (c3 60) [{}, {}, { c := some (w_1, s_3) }] [7, 9, 13] [.nilp, .mp 6 0 0, .i r36.2.1] s_4 _ (by kernel_rfl) (cj1 (callF (f15_1_ok (⟨(⟨0⟩ : GCClock), 0, r7b.1, true, r7b.2, 0, 0, 0, (⟨([] : List GCLive)⟩ : GCShelf_live), ([] : List GTake)⟩ : GCPlayer) r33 _ hr36) [(0, 6), (1, 7), (2, 9), (3, 8)] [(17, 10), (16, 9), (7, 1), (6, 0)] [] [.mp 6 0 0, .i r33] s_2 (w_1) s_3 (by kernel_rfl) (.k (.mp rfl rfl) (.k (.c rfl) .z)) (.t (.k (.c (cl_GFrame (⟨r36.1.time, r36.1.begin, r36.1.end_⟩ : GFrame))) (.k (.c rfl) .z))) (.k rfl (.cells (.r (cleanMap _ _ cl_GTake))) (.k rfl (.cells (.r (cleanMap _ _ cl_GCLive))) (.k rfl (.cells (.r (cleanMap _ _ cl_GCDesk))) (.k rfl (.cells (.k (.a (.k (.c rfl) (.k (.c rfl) (.k (.c rfl) (.k (.c rfl) (.k (.ms rfl rfl) (.k (.c rfl) (.k (.c rfl) (.k (.c rfl) (.k (.ms rfl rfl) (.k (.c rfl) (.k (.ms rfl rfl) .z)))))))))))) .z)) .z)))) (.d (x' := b_7) rfl (by kernel_rfl) (.cells (.r (cleanMap _ _ cl_GTake))) (.d (x' := b_6) rfl (by kernel_rfl) (.cells (.r (cleanMap _ _ cl_GCLive))) (.d (x' := b_8) rfl (by kernel_rfl) (.cells (.r (cleanMap _ _ cl_GCDesk))) (.d (x' := .cells 11 [.agg [.i 0, .i r36.2.2.1, .i r7b.1, v_7, .ms 1 0 r36.2.2.2.2.1.length, .i 0, .i 0, .i 0, .ms 9 0 r36.2.2.2.2.2.1.length, .fn 31 [], .ms 10 0 r36.2.2.2.2.2.2.length]]) rfl (by kernel_rfl) (.cells (.k (.a (.k (.c rfl) (.k (.c rfl) (.k (.c rfl) (.k (.c rfl) (.k (.ms rfl rfl) (.k (.c rfl) (.k (.c rfl) (.k (.c rfl) (.k (.ms rfl rfl) (.k (.c rfl) (.k (.ms rfl rfl) .z)))))))))))) .z)) .z)))))) ?_
              refine run1z (c3 62) [] [7, 9, 65] [.nilp, .mp 6 0 0, .bool (decide (r36.2.1 ≠ 0))] s_4 _ (by kernel_rfl) cj0 ?_
              rcases iteE h with ⟨hc37, h⟩ | ⟨hc37, h⟩
              · refine run_cT 65 (c3 63) (c3 66) (decide (r36.2.1 ≠ 0)) hc37 (by kernel_rfl) (by kernel_rfl) ?_
                refine run1z (c3 65) [] [6] [.bool false] ⟨[], 19⟩ _ (by kernel_rfl) cj0 ?_
                refine run_t (by kernel_rfl) ?_
                refine thenR ?_
                replace h := Option.some.inj h; subst h
                exact fin_r (by kernel_rfl) rfl
              · refine run_cF 65 (c3 63) (c3 66) (decide (r36.2.1 ≠ 0)) hc37 (by kernel_rfl) (by kernel_rfl) ?_
                refine run_k (by kernel_rfl) ?_
                refine thenN ?_
                obtain ⟨r38, hr38, h⟩ := bindE h
                let v_8 : AV := .sl false (r38.1.map E_GFrame)
                refine run1z (c3 69) [{}, { c := some (.tup [v_8, .bool r38.2], s_4) }] [9, 14, 15] [.mp 6 0 0, v_8, .bool r38.2] s_4 _ (by kernel_rfl) (cj1 (APure.co (ok := fun _ => false) (π := id) (args := [.nilp]) (f16_ok  _ hr38) (.k (.c rfl) .z) s_4)) ?_
                obtain ⟨r39, hr39, h⟩ := bindE h
                let v_9 : AV := .sl false (r39.1.map E_GFrame)
                let w_3 : AV := .agg [.i r39.2.2.1, .i r39.2.2.2.1, .i r7b.1, .bool r39.2.2.2.2.1, .ms 7 0 r39.2.2.2.2.2.1.length, .i 0, .i 0, .i r39.2.2.2.2.2.2.1, .ms 35 0 r39.2.2.2.2.2.2.2.1.length, .fn 31 [], .ms 36 0 r39.2.2.2.2.2.2.2.2.length]
                let b_9 : Blk := .cells 7 (r39.2.2.2.2.2.2.2.1.map E_GCLive)
                let b_10 : Blk := .cells 5 (r39.2.2.2.2.2.2.2.2.map E_GTake)
                let b_11 : Blk := .cells 3 (r39.2.2.2.2.2.1.map E_GCDesk)
                let s_5 : St := ⟨[(36, b_10), (35, b_9), (7, b_11), (6, .cells 11 [w_3])], 37⟩
                refine run1z (c3 71) [{}, { c := some (.tup [v_9, .bool r39.2.1], s_5) }] [14, 15, 16, 17] [v_8, .bool r38.2, v_9, .bool r39.2.1] ⟨[], 37⟩ _ (by kernel_rfl) (cj1 (callF (f16_1_ok (⟨(⟨0⟩ : GCClock), r36.2.2.1, r7b.1, r36.2.2.2.1, r36.2.2.2.2.1, 0, 0, 0, (⟨r36.2.2.2.2.2.1⟩ : GCShelf_live), r36.2.2.2.2.2.2⟩ : GCPlayer) _ hr39) [(0, 6), (1, 7), (2, 16), (3, 17)] [(36, 21), (35, 20), (7, 1), (6, 0)] [] [.mp 6 0 0] s_4 (.tup [v_9, .bool r39.2.1]) s_5 (by kernel_rfl) (.k (.mp rfl rfl) .z) (.t (.k (.c (cleanMap _ _ cl_GFrame)) (.k (.c rfl) .z))) (.k rfl (.cells (.r (cleanMap _ _ cl_GTake))) (.k rfl (.cells (.r (cleanMap _ _ cl_GCLive))) (.k rfl (.cells (.r (cleanMap _ _ cl_GCDesk))) (.k rfl (.cells (.k (.a (.k (.c rfl) (.k (.c rfl) (.k (.c rfl) (.k (.c rfl) (.k (.ms rfl rfl) (.k (.c rfl) (.k (.c rfl) (.k (.c rfl) (.k (.ms rfl rfl) (.k (.c rfl) (.k (.ms rfl rfl) .z)))))))))))) .z)) .z)))) (.d (x' := b_10) rfl (by kernel_rfl) (.cells (.r (cleanMap _ _ cl_GTake))) (.d (x' := b_9) rfl (by kernel_rfl) (.cells (.r (cleanMap _ _ cl_GCLive))) (.d (x' := b_11) rfl (by kernel_rfl) (.cells (.r (cleanMap _ _ cl_GCDesk))) (.d (x' := .cells 11 [.agg [.i r39.2.2.1, .i r39.2.2.2.1, .i r7b.1, .bool r39.2.2.2.2.1, .ms 1 0 r39.2.2.2.2.2.1.length, .i 0, .i 0, .i r39.2.2.2.2.2.2.1, .ms 20 0 r39.2.2.2.2.2.2.2.1.length, .fn 31 [], .ms 21 0 r39.2.2.2.2.2.2.2.2.length]]) rfl (by kernel_rfl) (.cells (.k (.a (.k (.c rfl) (.k (.c rfl) (.k (.c rfl) (.k (.c rfl) (.k (.ms rfl rfl) (.k (.c rfl) (.k (.c rfl) (.k (.c rfl) (.k (.ms rfl rfl) (.k (.c rfl) (.k (.ms rfl rfl) .z)))))))))))) .z)) .z)))))) ?_
                refine run_s (c3 72) (c3 79) (by kernel_rfl) ?_
                obtain ⟨j5_88, hj5, h⟩ := bindE h
                refine run_gq (c3 74) (fun (j5_88 : Bool) => (zipE [14, 16, 88] [v_8, v_9, .bool j5_88])) (fun (j5_88 : Bool) => ⟨[], 37⟩) (fun j => j5_88 = j) (fun kj5 => ?_) ?_
                · rcases iteE hj5 with ⟨hc40, hj5⟩ | ⟨hc40, hj5⟩
                  · replace hj5 := Option.some.inj hj5; subst hj5
                    exact run1z (c3 74) [{}, {}, {}, { g := false }, { g := false }, { k := 1, b := true }, {}, { g := false }, { g := false }, { g := false }, { g := false }, { g := false }] [14, 16, 88] [v_8, v_9, .bool true] ⟨[], 37⟩ _ (by kernel_rfl) (cjC (hc40) (cjC (hc40) (cjC (hc40) (cjC (Eq.refl true) (cjC (Eq.refl true) (cjC (Eq.refl true) (cjC (Eq.refl true) (cj1 (Eq.refl true))))))))) (kj5 true rfl)
                  · rcases iteE hj5 with ⟨hc41, hj5⟩ | ⟨hc41, hj5⟩
                    · replace hj5 := Option.some.inj hj5; subst hj5
                      exact run1z (c3 74) [{}, {}, {}, {}, {}, { k := 1, b := false }, {}, { g := false }, { g := false }, { g := false }, { g := false }, { g := false }, { k := 1, b := true }] [14, 16, 88] [v_8, v_9, .bool true] ⟨[], 37⟩ _ (by kernel_rfl) (cjC (hc40) (cjC (hc40) (cjC (hc40) (cjC (hc41) (cjC (hc41) (cjC (hc41) (cjC (hc41) (cjC (hc41) (cj1 (hc41)))))))))) (kj5 true rfl)
                    · replace hj5 := Option.some.inj hj5; subst hj5
                      exact run1z (c3 74) [{}, {}, {}, {}, {}, { k := 1, b := false }, {}, {}, { k := 1, n := r38.1.length }, {}, { k := 1, n := r39.1.length }, {}, { k := 1, b := false }] [14, 16, 88] [v_8, v_9, .bool (decide ((r38.1.length : Int) ≠ (r39.1.length : Int)))] ⟨[], 37⟩ _ (by kernel_rfl) (cjC (hc40) (cjC (hc40) (cjC (hc40) (cjC (hc41) (cjC (hc41) (cjC (mapLen r38.1 E_GFrame) (cjC (hc41) (cjC (hc41) (cjC (mapLen r39.1 E_GFrame) (cjC (hc41) (cj1 (hc41)))))))))))) (kj5 (decide ((r38.1.length : Int) ≠ (r39.1.length : Int))) rfl)
                · rintro _ rfl
                  rcases iteE h with ⟨hc42, h⟩ | ⟨hc42, h⟩
                  · refine run_cT 88 (c3 75) (c3 78) j5_88 hc42 (by kernel_rfl) (by kernel_rfl) ?_
                    refine run1z (c3 77) [] [6] [.bool false] ⟨[], 37⟩ _ (by kernel_rfl) cj0 ?_
                    refine run_t (by kernel_rfl) ?_
                    refine thenR ?_
                    replace h := Option.some.inj h; subst h
                    exact fin_r (by kernel_rfl) rfl
                  · refine run_cF 88 (c3 75) (c3 78) j5_88 hc42 (by kernel_rfl) (by kernel_rfl) ?_
                    refine run_k (by kernel_rfl) ?_
                    refine thenN ?_
                    refine run_s (c3 80) (c3 102) (by kernel_rfl) ?_
                    let v_10 : AV := .i (r38.1.length : Int)
                    refine run1z (c3 82) [{}, { k := 1, n := r38.1.length }] [14, 16, 90, 91] [v_8, v_9, v_10, .i 0] ⟨[], 37⟩ _ (by kernel_rfl) (cj1 (mapLen r38.1 E_GFrame)) ?_
                    obtain ⟨ol6x, hll6x, h⟩ := bindE h
                    refine run_tq (fun (_ : Unit) => (zipE [] [])) (fun (_ : Unit) => ⟨[], 37⟩) (fun j => ol6x = .inl j) (fun kl6 => ?_) ?_
                    · refine run_b 2 (c3 83) (by kernel_rfl) ?_
                      refine run_l (c3 84) _ hll6x (fun (l6_91 : Int) => (zipE [14, 16, 90, 91] [v_8, v_9, v_10, .i l6_91])) (fun (l6_91 : Int) => ⟨[], 37⟩) [] (by intro i e; cases e <;> exact Nat.le_of_ble_eq_true rfl) (by kernel_rfl) (mkInto (ks := [14, 16, 90, 91]) (ys := [v_8, v_9, v_10, .i 0]) (by kernel_rfl) (by kernel_rfl) (.k (.c (cleanMap _ _ cl_GFrame)) (.k (.c (cleanMap _ _ cl_GFrame)) (.k (.c rfl) (.k (.c rfl) .z)))) .z) ?_
                      rintro l6_91 out hl6 rl6
                      refine run1z (c3 86) [] [14, 16, 90, 91, 92] [v_8, v_9, v_10, .i l6_91, .bool (decide (l6_91 < (r38.1.length : Int)))] ⟨[], 37⟩ _ (by kernel_rfl) cj0 ?_
                      refine run_s (c3 87) (c3 90) (by kernel_rfl) ?_
                      rcases iteE hl6 with ⟨hc43, hl6⟩ | ⟨hc43, hl6⟩
                      · refine run_cT 92 (c3 88) (c3 89) (decide (l6_91 < (r38.1.length : Int))) hc43 (by kernel_rfl) (by kernel_rfl) ?_
                        refine run_k (by kernel_rfl) ?_
                        refine thenN ?_
                        refine run_s (c3 91) (c3 101) (by kernel_rfl) ?_
                        refine run_b 3 (c3 92) (by kernel_rfl) ?_
                        refine run1z (c3 94) [] [14, 16, 18, 90, 91] [v_8, v_9, .i l6_91, v_10, .i l6_91] ⟨[], 37⟩ _ (by kernel_rfl) cj0 ?_
                        obtain ⟨y44, hy44, hl6⟩ := bindE hl6
                        obtain ⟨y45, hy45, hl6⟩ := bindE hl6
                        obtain ⟨r46, hr46, hl6⟩ := bindE hl6
                        refine yun1z (c3 96) [[], [], [0, 1], [0, 1, 2], [], [], [4, 5], [4, 5, 6], [0, 1, 2, 3, 4, 5, 6, 7], [0, 1, 2, 3, 4, 5, 6, 7, 8]] [.light 0 false, .light 1 false, .light 2 false, .light 3 false, .light 4 false, .light 5 false, .light 6 false, .light 7 false, .heavy 8 [], .light 9 false] [{}, {}, { k := 1, x := E_GFrame y44 }, {}, {}, {}, { k := 1, x := E_GFrame y45 }, {}, { c := some (.bool r46, ⟨[], 37⟩) }] [14, 16, 90, 91, 103] [v_8, v_9, v_10, .i l6_91, .bool (!r46)] ⟨[], 37⟩ _ (by kernel_rfl) (cjC ((ixE hy44).1) (cjC (mapGet E_GFrame (ixE hy44).2) (cjC ((ixE hy45).1) (cjC (mapGet E_GFrame (ixE hy45).2) (cj1 (f17_ok y44 y45 _ hr46 ⟨[], 37⟩)))))) ?_
                        rcases iteE hl6 with ⟨hc47, hl6⟩ | ⟨hc47, hl6⟩
                        · refine run_cT 103 (c3 97) (c3 100) (!r46) hc47 (by kernel_rfl) (by kernel_rfl) ?_
                          refine run1z (c3 99) [] [6] [.bool false] ⟨[], 37⟩ _ (by kernel_rfl) cj0 ?_
                          replace hl6 := Option.some.inj hl6; subst hl6
                          have hr := rl6 _ rfl
                          subst hr
                          replace h := elimR h
                          refine run_t (by kernel_rfl) ?_
                          refine inbR ?_
                          refine thenR ?_
                          refine ⟨⟨_, rfl⟩, ?_⟩
                          refine inbR ?_
                          refine thenR ?_
                          replace h := Option.some.inj h; subst h
                          exact fin_r (by kernel_rfl) rfl
                        · refine run_cF 103 (c3 97) (c3 100) (!r46) hc47 (by kernel_rfl) (by kernel_rfl) ?_
                          refine run_k (by kernel_rfl) ?_
                          refine inbN ?_
                          refine thenN ?_
                          refine run0z [] [14, 16, 90, 91] [v_8, v_9, v_10, .i (wr (l6_91 + 1))] ⟨[], 37⟩ _ (by kernel_rfl) cj0 ?_
                          replace hl6 := Option.some.inj hl6; subst hl6
                          exact ⟨_, rfl, pi [], mkInto (ks := [14, 16, 90, 91]) (ys := [v_8, v_9, v_10, .i (wr (l6_91 + 1))]) (by kernel_rfl) (by kernel_rfl) (.k (.c (cleanMap _ _ cl_GFrame)) (.k (.c (cleanMap _ _ cl_GFrame)) (.k (.c rfl) (.k (.c rfl) .z)))) .z⟩
                      · refine run_cF 92 (c3 88) (c3 89) (decide (l6_91 < (r38.1.length : Int))) hc43 (by kernel_rfl) (by kernel_rfl) ?_
                        replace hl6 := Option.some.inj hl6; subst hl6
                        have hr := rl6 _ rfl
                        subst hr
                        refine awp_p [] [] (zipE [] []) ⟨[], 37⟩ (by kernel_rfl) (?_)
                        refine run_e 2 (by kernel_rfl) ?_
                        refine thenE ?_
                        refine ⟨⟨_, rfl⟩, ?_⟩
                        refine inbE ?_
                        exact kl6 () rfl
                    · rintro ⟨⟩ rfl
                      replace h := elimL h
                      refine thenN ?_
                      obtain ⟨r48, hr48, h⟩ := bindE h
                      refine run1z (c3 104) [{ c := some (.bool r48, ⟨[], 37⟩) }] [6] [.bool r48] ⟨[], 37⟩ _ (by kernel_rfl) (cj1 (f10_ok  _ hr48 ⟨[], 37⟩)) ?_
                      refine run_t (by kernel_rfl) ?_
                      replace h := Option.some.inj h; subst h
                      exact fin_r (by kernel_rfl) rfl
    · replace h := elimR h
      let v_11 : AV := .ms 3 0 r4b.2.length
      let w_4 : AV := .agg [.i 0, .i 0, .i r4b.1, .bool true, v_11, .i 0, .i 0, .i 0, .ms 5 0 ([] : List GCLive).length, .fn 31 [], .ms 4 0 ([] : List GTake).length]
      let b_2 : Blk := .cells 7 (([] : List GCLive).map E_GCLive)
      let b_4 : Blk := .cells 5 (([] : List GTake).map E_GTake)
      let b_12 : Blk := .cells 3 (r4b.2.map E_GCDesk)
      let s_6 : St := ⟨[(5, b_2), (4, b_4), (3, b_12), (2, .cells 11 [w_4]), (0, b_0)], 6⟩
      refine run1z (c3 12) [{}, { c := some (.tup [.mp 2 0 0, .i 0], s_6) }] [1, 2, 3, 7, 8] [.i a1, .i a2, .mp 0 0 0, .mp 2 0 0, .i 0] s_6 _ (by kernel_rfl) (cj1 (callF (f11_ok a0 (.inr r4b) hr4) [] [(5, 4), (4, 3), (3, 2), (2, 1)] [0] [E_GConsort a0] ⟨[(0, b_0)], 1⟩ (.tup [.mp 2 0 0, .i 0]) s_6 (by kernel_rfl) (.k (.c (cl_GConsort a0)) .z) (.t (.k (.mp rfl rfl) (.k (.c rfl) .z))) .z (.d (x' := b_2) rfl (by kernel_rfl) (.cells (.r (cleanMap _ _ cl_GCLive))) (.d (x' := b_4) rfl (by kernel_rfl) (.cells (.r (cleanMap _ _ cl_GTake))) (.d (x' := b_12) rfl (by kernel_rfl) (.cells (.r (cleanMap _ _ cl_GCDesk))) (.d (x' := .cells 11 [.agg [.i 0, .i 0, .i r4b.1, .bool true, .ms 2 0 r4b.2.length, .i 0, .i 0, .i 0, .ms 4 0 ([] : List GCLive).length, .fn 31 [], .ms 3 0 ([] : List GTake).length]]) rfl (by kernel_rfl) (.cells (.k (.a (.k (.c rfl) (.k (.c rfl) (.k (.c rfl) (.k (.c rfl) (.k (.ms rfl rfl) (.k (.c rfl) (.k (.c rfl) (.k (.c rfl) (.k (.ms rfl rfl) (.k (.c rfl) (.k (.ms rfl rfl) .z)))))))))))) .z)) (.f rfl (by kernel_rfl) .z))))))) ?_
      refine run_s (c3 13) (c3 20) (by kernel_rfl) ?_
      refine run1z (c3 15) [] [1, 2, 3, 7, 29] [.i a1, .i a2, .mp 0 0 0, .mp 2 0 0, .bool false] s_6 _ (by kernel_rfl) cj0 ?_
      refine run_cF 29 (c3 16) (c3 19) false rfl (by kernel_rfl) (by kernel_rfl) ?_
      refine run_k (by kernel_rfl) ?_
      refine thenN ?_
      obtain ⟨r49, hr49, h⟩ := bindE h
      rcases r49 with r49a | r49b
      · replace h := elimL h
        let s_7 : St := ⟨[(5, b_2), (4, b_4), (3, b_12), (2, .cells 11 [w_4]), (0, b_0)], 10⟩
        refine run1z (c3 22) [{}, { c := some (.tup [.nilp, .i r49a], s_7) }] [1, 2, 3, 7, 8, 9] [.i a1, .i a2, .mp 0 0 0, .mp 2 0 0, .i r49a, .nilp] s_7 _ (by kernel_rfl) (cj1 (callF (f11_ok a0 (.inl r49a) hr49) [] [] [5, 4, 3, 2, 0] [E_GConsort a0] s_6 (.tup [.nilp, .i r49a]) s_7 (by kernel_rfl) (.k (.c (cl_GConsort a0)) .z) (.t (.k (.c rfl) (.k (.c rfl) .z))) .z (.f rfl (by kernel_rfl) (.f rfl (by kernel_rfl) (.f rfl (by kernel_rfl) (.f rfl (by kernel_rfl) (.f rfl (by kernel_rfl) .z))))))) ?_
        refine run_s (c3 23) (c3 30) (by kernel_rfl) ?_
        refine run1z (c3 25) [] [1, 2, 3, 7, 9, 37] [.i a1, .i a2, .mp 0 0 0, .mp 2 0 0, .nilp, .bool (decide (r49a ≠ 0))] s_7 _ (by kernel_rfl) cj0 ?_
        rcases iteE h with ⟨hc50, h⟩ | ⟨hc50, h⟩
        · refine run_cT 37 (c3 26) (c3 29) (decide (r49a ≠ 0)) hc50 (by kernel_rfl) (by kernel_rfl) ?_
          refine run1z (c3 28) [] [6] [.bool false] ⟨[], 10⟩ _ (by kernel_rfl) cj0 ?_
          refine run_t (by kernel_rfl) ?_
          refine thenR ?_
          replace h := Option.some.inj h; subst h
          exact fin_r (by kernel_rfl) rfl
        · refine run_cF 37 (c3 26) (c3 29) (decide (r49a ≠ 0)) hc50 (by kernel_rfl) (by kernel_rfl) ?_
          refine run_k (by kernel_rfl) ?_
          refine thenN ?_
          refine run_s (c3 31) (c3 45) (by kernel_rfl) ?_
          obtain ⟨r51, hr51, h⟩ := bindE h
          refine run1z (c3 33) [{}, { c := some (.i r51, s_7) }] [2, 3, 7, 9, 39, 40] [.i a2, .mp 0 0 0, .mp 2 0 0, .nilp, .i r51, .i 0] s_7 _ (by kernel_rfl) (cj1 (f12_ok a1 41 _ hr51 s_7)) ?_
          obtain ⟨ol7x, hll7x, h⟩ := bindE h
          refine run_tq (fun ((l7x_h2_0, l7x_h2_1, l7x_h2_3, l7x_h2_4, l7x_h2_7, l7x_h2_8, l7x_h2_10) : (Int × Int × Bool × List GCDesk × Int × List GCLive × List GTake)) => (zipE [2, 3, 7, 9] [.i a2, .mp 0 0 0, .mp 2 0 0, .nilp])) (fun ((l7x_h2_0, l7x_h2_1, l7x_h2_3, l7x_h2_4, l7x_h2_7, l7x_h2_8, l7x_h2_10) : (Int × Int × Bool × List GCDesk × Int × List GCLive × List GTake)) => ⟨[(11, .cells 5 (l7x_h2_10.map E_GTake)), (10, .cells 7 (l7x_h2_8.map E_GCLive)), (3, .cells 3 (l7x_h2_4.map E_GCDesk)), (2, .cells 11 [.agg [.i l7x_h2_0, .i l7x_h2_1, .i r4b.1, .bool l7x_h2_3, .ms 3 0 l7x_h2_4.length, .i 0, .i 0, .i l7x_h2_7, .ms 10 0 l7x_h2_8.length, .fn 31 [], .ms 11 0 l7x_h2_10.length]]), (0, b_0)], 12⟩) (fun j => ol7x = j) (fun kl7 => ?_) ?_
          · refine run_b 0 (c3 34) (by kernel_rfl) ?_
            refine run_l (c3 35) _ hll7x (fun ((l7_h2_0, l7_h2_1, l7_h2_3, l7_h2_4, l7_h2_7, l7_h2_8, l7_h2_10, l7_40) : (Int × Int × Bool × List GCDesk × Int × List GCLive × List GTake × Int)) => (zipE [2, 3, 7, 9, 39, 40] [.i a2, .mp 0 0 0, .mp 2 0 0, .nilp, .i r51, .i l7_40])) (fun ((l7_h2_0, l7_h2_1, l7_h2_3, l7_h2_4, l7_h2_7, l7_h2_8, l7_h2_10, l7_40) : (Int × Int × Bool × List GCDesk × Int × List GCLive × List GTake × Int)) => ⟨[(11, .cells 5 (l7_h2_10.map E_GTake)), (10, .cells 7 (l7_h2_8.map E_GCLive)), (3, .cells 3 (l7_h2_4.map E_GCDesk)), (2, .cells 11 [.agg [.i l7_h2_0, .i l7_h2_1, .i r4b.1, .bool l7_h2_3, .ms 3 0 l7_h2_4.length, .i 0, .i 0, .i l7_h2_7, .ms 10 0 l7_h2_8.length, .fn 31 [], .ms 11 0 l7_h2_10.length]]), (0, b_0)], 12⟩) [(10, 5), (11, 4)] (by intro i e; cases e <;> exact Nat.le_of_ble_eq_true rfl) (by kernel_rfl) (mkInto (ks := [2, 3, 7, 9, 39, 40]) (ys := [.i a2, .mp 0 0 0, .mp 2 0 0, .nilp, .i r51, .i 0]) (by kernel_rfl) (by kernel_rfl) (.k (.c rfl) (.k (.mp rfl rfl) (.k (.mp rfl rfl) (.k (.c rfl) (.k (.c rfl) (.k (.c rfl) .z)))))) (.k rfl (.cells (.r (cleanMap _ _ cl_GTake))) (.k rfl (.cells (.r (cleanMap _ _ cl_GCLive))) (.k rfl (.cells (.r (cleanMap _ _ cl_GCDesk))) (.k rfl (.cells (.k (.a (.k (.c rfl) (.k (.c rfl) (.k (.c rfl) (.k (.c rfl) (.k (.ms rfl rfl) (.k (.c rfl) (.k (.c rfl) (.k (.c rfl) (.k (.ms rfl rfl) (.k (.c rfl) (.k (.ms rfl rfl) .z)))))))))))) .z)) (.k rfl (.cells (.k (.c (cl_GConsort a0)) .z)) .z)))))) ?_
            rintro ⟨l7_h2_0, l7_h2_1, l7_h2_3, l7_h2_4, l7_h2_7, l7_h2_8, l7_h2_10, l7_40⟩ out hl7 rl7
            let v_12 : AV := .ms 11 0 l7_h2_10.length
            let v_13 : AV := .ms 10 0 l7_h2_8.length
            let v_14 : AV := .ms 3 0 l7_h2_4.length
            let w_5 : AV := .agg [.i l7_h2_0, .i l7_h2_1, .i r4b.1, .bool l7_h2_3, v_14, .i 0, .i 0, .i l7_h2_7, v_13, .fn 31 [], v_12]
            let b_13 : Blk := .cells 5 (l7_h2_10.map E_GTake)
            let b_14 : Blk := .cells 7 (l7_h2_8.map E_GCLive)
            let b_15 : Blk := .cells 3 (l7_h2_4.map E_GCDesk)
            let s_8 : St := ⟨[(11, b_13), (10, b_14), (3, b_15), (2, .cells 11 [w_5]), (0, b_0)], 12⟩
            refine run1z (c3 37) [] [2, 3, 7, 9, 39, 40, 41] [.i a2, .mp 0 0 0, .mp 2 0 0, .nilp, .i r51, .i l7_40, .bool (decide (l7_40 < r51))] s_8 _ (by kernel_rfl) cj0 ?_
            refine run_s (c3 38) (c3 41) (by kernel_rfl) ?_
            rcases iteE hl7 with ⟨hc52, hl7⟩ | ⟨hc52, hl7⟩
            · refine run_cT 41 (c3 39) (c3 40) (decide (l7_40 < r51)) hc52 (by kernel_rfl) (by kernel_rfl) ?_
              refine run_k (by kernel_rfl) ?_
              refine thenN ?_
              refine run_s (c3 42) (c3 44) (by kernel_rfl) ?_
              refine run_b 1 (c3 43) (by kernel_rfl) ?_
              obtain ⟨r53, hr53, hl7⟩ := bindE hl7
              let v_15 : AV := .ms 22 0 r53.2.2.2.2.2.2.2.1.length
              let v_16 : AV := .ms 23 0 r53.2.2.2.2.2.2.2.2.length
              let v_17 : AV := .ms 3 0 r53.2.2.2.2.2.1.length
              let v_18 : AV := .i r53.2.2.2.2.2.2.1
              let v_19 : AV := .bool r53.2.2.2.2.1
              let v_20 : AV := .i r53.2.2.2.1
              let w_6 : AV := .tup [.agg [.i r53.1.time, .sl false (r53.1.begin.map E_GVoice), .sl false (r53.1.end_.map E_GVoice)], .i r53.2.1]
              let w_7 : AV := .agg [.i r53.2.2.1, v_20, .i r4b.1, v_19, v_17, .i 0, .i 0, v_18, v_15, .fn 31 [], v_16]
              let b_16 : Blk := .cells 7 (r53.2.2.2.2.2.2.2.1.map E_GCLive)
              let b_17 : Blk := .cells 5 (r53.2.2.2.2.2.2.2.2.map E_GTake)
              let b_18 : Blk := .cells 3 (r53.2.2.2.2.2.1.map E_GCDesk)
              let s_9 : St := ⟨[(23, b_17), (22, b_16), (3, b_18), (2, .cells 11 [w_7]), (0, b_0)], 24⟩
              refine run0z [{}, { c := some (w_6, s_9) }] [2, 3, 7, 9, 39, 40] [.i a2, .mp 0 0 0, .mp 2 0 0, .nilp, .i r51, .i l7_40] s_9 _ (by kernel_rfl) (cj1 (callF (f13_1_ok (⟨(⟨l7_h2_0⟩ : GCClock), l7_h2_1, r4b.1, l7_h2_3, l7_h2_4, 0, 0, l7_h2_7, (⟨l7_h2_8⟩ : GCShelf_live), l7_h2_10⟩ : GCPlayer) _ hr53) [(0, 2), (1, 3), (2, 10), (3, 11)] [(23, 15), (22, 14), (3, 1), (2, 0)] [0] [.mp 2 0 0] s_8 (w_6) s_9 (by kernel_rfl) (.k (.mp rfl rfl) .z) (.t (.k (.c (cl_GFrame (⟨r53.1.time, r53.1.begin, r53.1.end_⟩ : GFrame))) (.k (.c rfl) .z))) (.k rfl (.cells (.r (cleanMap _ _ cl_GTake))) (.k rfl (.cells (.r (cleanMap _ _ cl_GCLive))) (.k rfl (.cells (.r (cleanMap _ _ cl_GCDesk))) (.k rfl (.cells (.k (.a (.k (.c rfl) (.k (.c rfl) (.k (.c rfl) (.k (.c rfl) (.k (.ms rfl rfl) (.k (.c rfl) (.k (.c rfl) (.k (.c rfl) (.k (.ms rfl rfl) (.k (.c rfl) (.k (.ms rfl rfl) .z)))))))))))) .z)) .z)))) (.d (x' := b_17) rfl (by kernel_rfl) (.cells (.r (cleanMap _ _ cl_GTake))) (.d (x' := b_16) rfl (by kernel_rfl) (.cells (.r (cleanMap _ _ cl_GCLive))) (.d (x' := b_18) rfl (by kernel_rfl) (.cells (.r (cleanMap _ _ cl_GCDesk))) (.d (x' := .cells 11 [.agg [.i r53.2.2.1, v_20, .i r4b.1, v_19, .ms 1 0 r53.2.2.2.2.2.1.length, .i 0, .i 0, v_18, .ms 14 0 r53.2.2.2.2.2.2.2.1.length, .fn 31 [], .ms 15 0 r53.2.2.2.2.2.2.2.2.length]]) rfl (by kernel_rfl) (.cells (.k (.a (.k (.c rfl) (.k (.c rfl) (.k (.c rfl) (.k (.c rfl) (.k (.ms rfl rfl) (.k (.c rfl) (.k (.c rfl) (.k (.c rfl) (.k (.ms rfl rfl) (.k (.c rfl) (.k (.ms rfl rfl) .z)))))))))))) .z)) (.f rfl (by kernel_rfl) .z))))))) ?_
              refine inbN ?_
              refine thenN ?_
              refine run0z [] [2, 3, 7, 9, 39, 40] [.i a2, .mp 0 0 0, .mp 2 0 0, .nilp, .i r51, .i (wr (l7_40 + 1))] s_9 _ (by kernel_rfl) cj0 ?_
              replace hl7 := Option.some.inj hl7; subst hl7
              exact ⟨_, rfl, pi [(10, 22), (11, 23)], mkInto (ks := [2, 3, 7, 9, 39, 40]) (ys := [.i a2, .mp 0 0 0, .mp 2 0 0, .nilp, .i r51, .i (wr (l7_40 + 1))]) (by kernel_rfl) (by kernel_rfl) (.k (.c rfl) (.k (.mp rfl rfl) (.k (.mp rfl rfl) (.k (.c rfl) (.k (.c rfl) (.k (.c rfl) .z)))))) (.k rfl (.cells (.r (cleanMap _ _ cl_GTake))) (.k rfl (.cells (.r (cleanMap _ _ cl_GCLive))) (.k rfl (.cells (.r (cleanMap _ _ cl_GCDesk))) (.k rfl (.cells (.k (.a (.k (.c rfl) (.k (.c rfl) (.k (.c rfl) (.k (.c rfl) (.k (.ms rfl rfl) (.k (.c rfl) (.k (.c rfl) (.k (.c rfl) (.k (.ms rfl rfl) (.k (.c rfl) (.k (.ms rfl rfl) .z)))))))))))) .z)) (.k rfl (.cells (.k (.c (cl_GConsort a0)) .z)) .z)))))⟩
            · refine run_cF 41 (c3 39) (c3 40) (decide (l7_40 < r51)) hc52 (by kernel_rfl) (by kernel_rfl) ?_
              replace hl7 := Option.some.inj hl7; subst hl7
              have hr := rl7 _ rfl
              subst hr
              refine awp_p [2, 3, 7, 9] [11, 10, 3, 2, 0] (zipE [2, 3, 7, 9] [.i a2, .mp 0 0 0, .mp 2 0 0, .nilp]) s_8 (by kernel_rfl) (?_)
              refine run_e 0 (by kernel_rfl) ?_
              refine thenE ?_
              refine ⟨⟨_, rfl⟩, ?_⟩
              refine inbE ?_
              exact kl7 (l7_h2_0, l7_h2_1, l7_h2_3, l7_h2_4, l7_h2_7, l7_h2_8, l7_h2_10) rfl
          · rintro ⟨l7x_h2_0, l7x_h2_1, l7x_h2_3, l7x_h2_4, l7x_h2_7, l7x_h2_8, l7x_h2_10⟩ rfl
            refine thenN ?_
            obtain ⟨r54, hr54, h⟩ := bindE h
            obtain ⟨r55, hr55, h⟩ := bindE h
            let v_21 : AV := .ms 11 0 l7x_h2_10.length
            let v_22 : AV := .ms 10 0 l7x_h2_8.length
            let v_23 : AV := .ms 3 0 l7x_h2_4.length
            let v_24 : AV := .bool l7x_h2_3
            let w_8 : AV := .agg [.i l7x_h2_0, .i l7x_h2_1, .i r4b.1, v_24, v_23, .i 0, .i 0, .i l7x_h2_7, v_22, .fn 31 [], v_21]
            let b_19 : Blk := .cells 5 (l7x_h2_10.map E_GTake)
            let b_20 : Blk := .cells 7 (l7x_h2_8.map E_GCLive)
            let b_21 : Blk := .cells 3 (l7x_h2_4.map E_GCDesk)
            let s_10 : St := ⟨[(11, b_19), (10, b_20), (3, b_21), (2, .cells 11 [w_8]), (0, b_0)], 12⟩
            let s_11 : St := ⟨[(11, b_19), (10, b_20), (3, b_21), (2, .cells 11 [w_8])], 12⟩
            refine run1z (c3 47) [{}, {}, { c := some (.i r54, s_10) }, {}, { c := some (.i r55, s_10) }] [2, 7, 9] [.i r55, .mp 2 0 0, .nilp] s_11 _ (by kernel_rfl) (cjC (f14_ok a0 _ hr54 s_10) (cj1 (f12_ok a2 (wr (r54 + 1)) _ hr55 s_10))) ?_
            refine run_s (c3 48) (c3 57) (by kernel_rfl) ?_
            obtain ⟨r56, hr56, h⟩ := bindE h
            let v_25 : AV := .ms 17 0 r56.2.2.2.2.2.1.length
            let v_26 : AV := .ms 18 0 r56.2.2.2.2.2.2.length
            let v_27 : AV := .ms 3 0 r56.2.2.2.2.1.length
            let v_28 : AV := .bool r56.2.2.2.1
            let w_9 : AV := .tup [.agg [.i r56.1.time, .sl false (r56.1.begin.map E_GVoice), .sl false (r56.1.end_.map E_GVoice)], .i r56.2.1]
            let w_10 : AV := .agg [.i l7x_h2_0, .i r56.2.2.1, .i r4b.1, v_28, v_27, .i 0, .i 0, .i l7x_h2_7, v_25, .fn 31 [], v_26]
            let b_22 : Blk := .cells 7 (r56.2.2.2.2.2.1.map E_GCLive)
            let b_23 : Blk := .cells 5 (r56.2.2.2.2.2.2.map E_GTake)
            let b_24 : Blk := .cells 3 (r56.2.2.2.2.1.map E_GCDesk)
            let b_25 : Blk := .cells 11 [w_10]
            let s_12 : St := ⟨[(18, b_23), (17, b_22), (3, b_24), (2, b_25)], 19⟩
            let s_13 : St := ⟨[(18, b_23), (17, b_22), (3, b_24), (2, b_25)], 20⟩
            refine run1z (c3 50) [{}, {}, { c := some (w_9, s_12) }] [2, 7, 9, 11] [.i r55, .mp 2 0 0, .nilp, .i r56.2.1] s_13 _ (by kernel_rfl) (cj1 (callF (f15_1_ok (⟨(⟨l7x_h2_0⟩ : GCClock), l7x_h2_1, r4b.1, l7x_h2_3, l7x_h2_4, 0, 0, l7x_h2_7, (⟨l7x_h2_8⟩ : GCShelf_live), l7x_h2_10⟩ : GCPlayer) r55 _ hr56) [(0, 2), (1, 3), (2, 10), (3, 11)] [(18, 10), (17, 9), (3, 1), (2, 0)] [] [.mp 2 0 0, .i r55] s_11 (w_9) s_12 (by kernel_rfl) (.k (.mp rfl rfl) (.k (.c rfl) .z)) (.t (.k (.c (cl_GFrame (⟨r56.1.time, r56.1.begin, r56.1.end_⟩ : GFrame))) (.k (.c rfl) .z))) (.k rfl (.cells (.r (cleanMap _ _ cl_GTake))) (.k rfl (.cells (.r (cleanMap _ _ cl_GCLive))) (.k rfl (.cells (.r (cleanMap _ _ cl_GCDesk))) (.k rfl (.cells (.k (.a (.k (.c rfl) (.k (.c rfl) (.k (.c rfl) (.k (.c rfl) (.k (.ms rfl rfl) (.k (.c rfl) (.k (.c rfl) (.k (.c rfl) (.k (.ms rfl rfl) (.k (.c rfl) (.k (.ms rfl rfl) .z)))))))))))) .z)) .z)))) (.d (x' := b_23) rfl (by kernel_rfl) (.cells (.r (cleanMap _ _ cl_GTake))) (.d (x' := b_22) rfl (by kernel_rfl) (.cells (.r (cleanMap _ _ cl_GCLive))) (.d (x' := b_24) rfl (by kernel_rfl) (.cells (.r (cleanMap _ _ cl_GCDesk))) (.d (x' := .cells 11 [.agg [.i l7x_h2_0, .i r56.2.2.1, .i r4b.1, v_28, .ms 1 0 r56.2.2.2.2.1.length, .i 0, .i 0, .i l7x_h2_7, .ms 9 0 r56.2.2.2.2.2.1.length, .fn 31 [], .ms 10 0 r56.2.2.2.2.2.2.length]]) rfl (by kernel_rfl) (.cells (.k (.a (.k (.c rfl) (.k (.c rfl) (.k (.c rfl) (.k (.c rfl) (.k (.ms rfl rfl) (.k (.c rfl) (.k (.c rfl) (.k (.c rfl) (.k (.ms rfl rfl) (.k (.c rfl) (.k (.ms rfl rfl) .z)))))))))))) .z)) .z)))))) ?_
            refine run1z (c3 52) [] [2, 7, 9, 57] [.i r55, .mp 2 0 0, .nilp, .bool (decide (r56.2.1 ≠ 0))] s_13 _ (by kernel_rfl) cj0 ?_
            rcases iteE h with ⟨hc57, h⟩ | ⟨hc57, h⟩
            · refine run_cT 57 (c3 53) (c3 56) (decide (r56.2.1 ≠ 0)) hc57 (by kernel_rfl) (by kernel_rfl) ?_
              refine run1z (c3 55) [] [6] [.bool false] ⟨[], 20⟩ _ (by kernel_rfl) cj0 ?_
              refine run_t (by kernel_rfl) ?_
              refine thenR ?_
              replace h := Option.some.inj h; subst h
              exact fin_r (by kernel_rfl) rfl
            · refine run_cF 57 (c3 53) (c3 56) (decide (r56.2.1 ≠ 0)) hc57 (by kernel_rfl) (by kernel_rfl) ?_
              refine run_k (by kernel_rfl) ?_
              refine thenN ?_
              refine run_s (c3 58) (c3 67) (by kernel_rfl) ?_
              obtain ⟨r58, hr58, h⟩ := bindE h
              let s_14 : St := ⟨[(18, b_23), (17, b_22), (3, b_24), (2, b_25)], 21⟩
              refine run1z (c3 60) [{}, {}, { c := some (.tup [E_GFrame r58.1, .i r58.2], s_13) }] [7, 9, 13] [.mp 2 0 0, .nilp, .i r58.2] s_14 _ (by kernel_rfl) (cj1 (APure.co (ok := fun _ => false) (π := id) (args := [.nilp, .i r55]) (f15_ok r55 _ hr58) (.k (.c rfl) (.k (.c rfl) .z)) s_13)) ?_
              refine run1z (c3 62) [] [7, 9, 65] [.mp 2 0 0, .nilp, .bool (decide (r58.2 ≠ 0))] s_14 _ (by kernel_rfl) cj0 ?_
              rcases iteE h with ⟨hc59, h⟩ | ⟨hc59, h⟩
              · refine run_cT 65 (c3 63) (c3 66) (decide (r58.2 ≠ 0)) hc59 (by kernel_rfl) (by kernel_rfl) ?_
                refine run1z (c3 65) [] [6] [.bool false] ⟨[], 21⟩ _ (by kernel_rfl) cj0 ?_
                refine run_t (by kernel_rfl) ?_
                refine thenR ?_
                replace h := Option.some.inj h; subst h
                exact fin_r (by kernel_rfl) rfl
              · refine run_cF 65 (c3 63) (c3 66) (decide (r58.2 ≠ 0)) hc59 (by kernel_rfl) (by kernel_rfl) ?_
                refine run_k (by kernel_rfl) ?_
                refine thenN ?_
                obtain ⟨r60, hr60, h⟩ := bindE h
                let v_29 : AV := .sl false (r60.1.map E_GFrame)
                let w_11 : AV := .agg [.i r60.2.2.1, .i r60.2.2.2.1, .i r4b.1, .bool r60.2.2.2.2.1, .ms 3 0 r60.2.2.2.2.2.1.length, .i 0, .i 0, .i r60.2.2.2.2.2.2.1, .ms 37 0 r60.2.2.2.2.2.2.2.1.length, .fn 31 [], .ms 38 0 r60.2.2.2.2.2.2.2.2.length]
                let b_26 : Blk := .cells 7 (r60.2.2.2.2.2.2.2.1.map E_GCLive)
                let b_27 : Blk := .cells 5 (r60.2.2.2.2.2.2.2.2.map E_GTake)
                let b_28 : Blk := .cells 3 (r60.2.2.2.2.2.1.map E_GCDesk)
                let s_15 : St := ⟨[(38, b_27), (37, b_26), (3, b_28), (2, .cells 11 [w_11])], 39⟩
                refine run1z (c3 69) [{}, { c := some (.tup [v_29, .bool r60.2.1], s_15) }] [9, 14, 15] [.nilp, v_29, .bool r60.2.1] ⟨[], 39⟩ _ (by kernel_rfl) (cj1 (callF (f16_1_ok (⟨(⟨l7x_h2_0⟩ : GCClock), r56.2.2.1, r4b.1, r56.2.2.2.1, r56.2.2.2.2.1, 0, 0, l7x_h2_7, (⟨r56.2.2.2.2.2.1⟩ : GCShelf_live), r56.2.2.2.2.2.2⟩ : GCPlayer) _ hr60) [(0, 2), (1, 3), (2, 17), (3, 18)] [(38, 21), (37, 20), (3, 1), (2, 0)] [] [.mp 2 0 0] s_14 (.tup [v_29, .bool r60.2.1]) s_15 (by kernel_rfl) (.k (.mp rfl rfl) .z) (.t (.k (.c (cleanMap _ _ cl_GFrame)) (.k (.c rfl) .z))) (.k rfl (.cells (.r (cleanMap _ _ cl_GTake))) (.k rfl (.cells (.r (cleanMap _ _ cl_GCLive))) (.k rfl (.cells (.r (cleanMap _ _ cl_GCDesk))) (.k rfl (.cells (.k (.a (.k (.c rfl) (.k (.c rfl) (.k (.c rfl) (.k (.c rfl) (.k (.ms rfl rfl) (.k (.c rfl) (.k (.c rfl) (.k (.c rfl) (.k (.ms rfl rfl) (.k (.c rfl) (.k (.ms rfl rfl) .z)))))))))))) .z)) .z)))) (.d (x' := b_27) rfl (by kernel_rfl) (.cells (.r (cleanMap _ _ cl_GTake))) (.d (x' := b_26) rfl (by kernel_rfl) (.cells (.r (cleanMap _ _ cl_GCLive))) (.d (x' := b_28) rfl (by kernel_rfl) (.cells (.r (cleanMap _ _ cl_GCDesk))) (.d (x' := .cells 11 [.agg [.i r60.2.2.1, .i r60.2.2.2.1, .i r4b.1, .bool r60.2.2.2.2.1, .ms 1 0 r60.2.2.2.2.2.1.length, .i 0, .i 0, .i r60.2.2.2.2.2.2.1, .ms 20 0 r60.2.2.2.2.2.2.2.1.length, .fn 31 [], .ms 21 0 r60.2.2.2.2.2.2.2.2.length]]) rfl (by kernel_rfl) (.cells (.k (.a (.k (.c rfl) (.k (.c rfl) (.k (.c rfl) (.k (.c rfl) (.k (.ms rfl rfl) (.k (.c rfl) (.k (.c rfl) (.k (.c rfl) (.k (.ms rfl rfl) (.k (.c rfl) (.k (.ms rfl rfl) .z)))))))))))) .z)) .z)))))) ?_
                obtain ⟨r61, hr61, h⟩ := bindE h
                let v_30 : AV := .sl false (r61.1.map E_GFrame)
                refine run1z (c3 71) [{}, { c := some (.tup [v_30, .bool r61.2], ⟨[], 39⟩) }] [14, 15, 16, 17] [v_29, .bool r60.2.1, v_30, .bool r61.2] ⟨[], 39⟩ _ (by kernel_rfl) (cj1 (APure.co (ok := fun _ => false) (π := id) (args := [.nilp]) (f16_ok  _ hr61) (.k (.c rfl) .z) ⟨[], 39⟩)) ?_
                refine run_s (c3 72) (c3 79) (by kernel_rfl) ?_
                obtain ⟨j8_88, hj8, h⟩ := bindE h
                refine run_gq (c3 74) (fun (j8_88 : Bool) => (zipE [14, 16, 88] [v_29, v_30, .bool j8_88])) (fun (j8_88 : Bool) => ⟨[], 39⟩) (fun j => j8_88 = j) (fun kj8 => ?_) ?_
                · rcases iteE hj8 with ⟨hc62, hj8⟩ | ⟨hc62, hj8⟩
                  · replace hj8 := Option.some.inj hj8; subst hj8
                    exact run1z (c3 74) [{}, {}, {}, { g := false }, { g := false }, { k := 1, b := true }, {}, { g := false }, { g := false }, { g := false }, { g := false }, { g := false }] [14, 16, 88] [v_29, v_30, .bool true] ⟨[], 39⟩ _ (by kernel_rfl) (cjC (hc62) (cjC (hc62) (cjC (hc62) (cjC (Eq.refl true) (cjC (Eq.refl true) (cjC (Eq.refl true) (cjC (Eq.refl true) (cj1 (Eq.refl true))))))))) (kj8 true rfl)
                  · rcases iteE hj8 with ⟨hc63, hj8⟩ | ⟨hc63, hj8⟩
                    · replace hj8 := Option.some.inj hj8; subst hj8
                      exact run1z (c3 74) [{}, {}, {}, {}, {}, { k := 1, b := false }, {}, { g := false }, { g := false }, { g := false }, { g := false }, { g := false }, { k := 1, b := true }] [14, 16, 88] [v_29, v_30, .bool true] ⟨[], 39⟩ _ (by kernel_rfl) (cjC (hc62) (cjC (hc62) (cjC (hc62) (cjC (hc63) (cjC (hc63) (cjC (hc63) (cjC (hc63) (cjC (hc63) (cj1 (hc63)))))))))) (kj8 true rfl)
                    · replace hj8 := Option.some.inj hj8; subst hj8
                      exact run1z (c3 74) [{}, {}, {}, {}, {}, { k := 1, b := false }, {}, {}, { k := 1, n := r60.1.length }, {}, { k := 1, n := r61.1.length }, {}, { k := 1, b := false }] [14, 16, 88] [v_29, v_30, .bool (decide ((r60.1.length : Int) ≠ (r61.1.length : Int)))] ⟨[], 39⟩ _ (by kernel_rfl) (cjC (hc62) (cjC (hc62) (cjC (hc62) (cjC (hc63) (cjC (hc63) (cjC (mapLen r60.1 E_GFrame) (cjC (hc63) (cjC (hc63) (cjC (mapLen r61.1 E_GFrame) (cjC (hc63) (cj1 (hc63)))))))))))) (kj8 (decide ((r60.1.length : Int) ≠ (r61.1.length : Int))) rfl)
                · rintro _ rfl
                  rcases iteE h with ⟨hc64, h⟩ | ⟨hc64, h⟩
                  · refine run_cT 88 (c3 75) (c3 78) j8_88 hc64 (by kernel_rfl) (by kernel_rfl) ?_
                    refine run1z (c3 77) [] [6] [.bool false] ⟨[], 39⟩ _ (by kernel_rfl) cj0 ?_
                    refine run_t (by kernel_rfl) ?_
                    refine thenR ?_
                    replace h := Option.some.inj h; subst h
                    exact fin_r (by kernel_rfl) rfl
                  · refine run_cF 88 (c3 75) (c3 78) j8_88 hc64 (by kernel_rfl) (by kernel_rfl) ?_
                    refine run_k (by kernel_rfl) ?_
                    refine thenN ?_
                    refine run_s (c3 80) (c3 102) (by kernel_rfl) ?_
                    let v_31 : AV := .i (r60.1.length : Int)
                    refine run1z (c3 82) [{}, { k := 1, n := r60.1.length }] [14, 16, 90, 91] [v_29, v_30, v_31, .i 0] ⟨[], 39⟩ _ (by kernel_rfl) (cj1 (mapLen r60.1 E_GFrame)) ?_
                    obtain ⟨ol9x, hll9x, h⟩ := bindE h
                    refine run_tq (fun (_ : Unit) => (zipE [] [])) (fun (_ : Unit) => ⟨[], 39⟩) (fun j => ol9x = .inl j) (fun kl9 => ?_) ?_
                    · refine run_b 2 (c3 83) (by kernel_rfl) ?_
                      refine run_l (c3 84) _ hll9x (fun (l9_91 : Int) => (zipE [14, 16, 90, 91] [v_29, v_30, v_31, .i l9_91])) (fun (l9_91 : Int) => ⟨[], 39⟩) [] (by intro i e; cases e <;> exact Nat.le_of_ble_eq_true rfl) (by kernel_rfl) (mkInto (ks := [14, 16, 90, 91]) (ys := [v_29, v_30, v_31, .i 0]) (by kernel_rfl) (by kernel_rfl) (.k (.c (cleanMap _ _ cl_GFrame)) (.k (.c (cleanMap _ _ cl_GFrame)) (.k (.c rfl) (.k (.c rfl) .z)))) .z) ?_
                      rintro l9_91 out hl9 rl9
                      refine run1z (c3 86) [] [14, 16, 90, 91, 92] [v_29, v_30, v_31, .i l9_91, .bool (decide (l9_91 < (r60.1.length : Int)))] ⟨[], 39⟩ _ (by kernel_rfl) cj0 ?_
                      refine run_s (c3 87) (c3 90) (by kernel_rfl) ?_
                      rcases iteE hl9 with ⟨hc65, hl9⟩ | ⟨hc65, hl9⟩
                      · refine run_cT 92 (c3 88) (c3 89) (decide (l9_91 < (r60.1.length : Int))) hc65 (by kernel_rfl) (by kernel_rfl) ?_
                        refine run_k (by kernel_rfl) ?_
                        refine thenN ?_
                        refine run_s (c3 91) (c3 101) (by kernel_rfl) ?_
                        refine run_b 3 (c3 92) (by kernel_rfl) ?_
                        refine run1z (c3 94) [] [14, 16, 18, 90, 91] [v_29, v_30, .i l9_91, v_31, .i l9_91] ⟨[], 39⟩ _ (by kernel_rfl) cj0 ?_
                        obtain ⟨y66, hy66, hl9⟩ := bindE hl9
                        obtain ⟨y67, hy67, hl9⟩ := bindE hl9
                        obtain ⟨r68, hr68, hl9⟩ := bindE hl9
                        refine yun1z (c3 96) [[], [], [0, 1], [0, 1, 2], [], [], [4, 5], [4, 5, 6], [0, 1, 2, 3, 4, 5, 6, 7], [0, 1, 2, 3, 4, 5, 6, 7, 8]] [.light 0 false, .light 1 false, .light 2 false, .light 3 false, .light 4 false, .light 5 false, .light 6 false, .light 7 false, .heavy 8 [], .light 9 false] [{}, {}, { k := 1, x := E_GFrame y66 }, {}, {}, {}, { k := 1, x := E_GFrame y67 }, {}, { c := some (.bool r68, ⟨[], 39⟩) }] [14, 16, 90, 91, 103] [v_29, v_30, v_31, .i l9_91, .bool (!r68)] ⟨[], 39⟩ _ (by kernel_rfl) (cjC ((ixE hy66).1) (cjC (mapGet E_GFrame (ixE hy66).2) (cjC ((ixE hy67).1) (cjC (mapGet E_GFrame (ixE hy67).2) (cj1 (f17_ok y66 y67 _ hr68 ⟨[], 39⟩)))))) ?_
                        rcases iteE hl9 with ⟨hc69, hl9⟩ | ⟨hc69, hl9⟩
                        · refine run_cT 103 (c3 97) (c3 100) (!r68) hc69 (by kernel_rfl) (by kernel_rfl) ?_
                          refine run1z (c3 99) [] [6] [.bool false] ⟨[], 39⟩ _ (by kernel_rfl) cj0 ?_
                          replace hl9 := Option.some.inj hl9; subst hl9
                          have hr := rl9 _ rfl
                          subst hr
                          replace h := elimR h
                          refine run_t (by kernel_rfl) ?_
                          refine inbR ?_
                          refine thenR ?_
                          refine ⟨⟨_, rfl⟩, ?_⟩
                          refine inbR ?_
                          refine thenR ?_
                          replace h := Option.some.inj h; subst h
                          exact fin_r (by kernel_rfl) rfl
                        · refine run_cF 103 (c3 97) (c3 100) (!r68) hc69 (by kernel_rfl) (by kernel_rfl) ?_
                          refine run_k (by kernel_rfl) ?_
                          refine inbN ?_
                          refine thenN ?_
                          refine run0z [] [14, 16, 90, 91] [v_29, v_30, v_31, .i (wr (l9_91 + 1))] ⟨[], 39⟩ _ (by kernel_rfl) cj0 ?_
                          replace hl9 := Option.some.inj hl9; subst hl9
                          exact ⟨_, rfl, pi [], mkInto (ks := [14, 16, 90, 91]) (ys := [v_29, v_30, v_31, .i (wr (l9_91 + 1))]) (by kernel_rfl) (by kernel_rfl) (.k (.c (cleanMap _ _ cl_GFrame)) (.k (.c (cleanMap _ _ cl_GFrame)) (.k (.c rfl) (.k (.c rfl) .z)))) .z⟩
                      · refine run_cF 92 (c3 88) (c3 89) (decide (l9_91 < (r60.1.length : Int))) hc65 (by kernel_rfl) (by kernel_rfl) ?_
                        replace hl9 := Option.some.inj hl9; subst hl9
                        have hr := rl9 _ rfl
                        subst hr
                        refine awp_p [] [] (zipE [] []) ⟨[], 39⟩ (by kernel_rfl) (?_)
                        refine run_e 2 (by kernel_rfl) ?_
                        refine thenE ?_
                        refine ⟨⟨_, rfl⟩, ?_⟩
                        refine inbE ?_
                        exact kl9 () rfl
                    · rintro ⟨⟩ rfl
                      replace h := elimL h
                      refine thenN ?_
                      obtain ⟨r70, hr70, h⟩ := bindE h
                      refine run1z (c3 104) [{ c := some (.bool r70, ⟨[], 39⟩) }] [6] [.bool r70] ⟨[], 39⟩ _ (by kernel_rfl) (cj1 (f10_ok  _ hr70 ⟨[], 39⟩)) ?_
                      refine run_t (by kernel_rfl) ?_
                      replace h := Option.some.inj h; subst h
                      exact fin_r (by kernel_rfl) rfl
      · replace h := elimR h
        let v_32 : AV := .ms 8 0 r49b.2.length
        let w_12 : AV := .agg [.i 0, .i 0, .i r49b.1, .bool true, v_32, .i 0, .i 0, .i 0, .ms 10 0 ([] : List GCLive).length, .fn 31 [], .ms 9 0 ([] : List GTake).length]
        let b_29 : Blk := .cells 3 (r49b.2.map E_GCDesk)
        let b_30 : Blk := .cells 11 [w_12]
        let s_16 : St := ⟨[(10, b_2), (9, b_4), (8, b_29), (7, b_30), (5, b_2), (4, b_4), (3, b_12), (2, .cells 11 [w_4]), (0, b_0)], 11⟩
        refine run1z (c3 22) [{}, { c := some (.tup [.mp 7 0 0, .i 0], s_16) }] [1, 2, 3, 7, 8, 9] [.i a1, .i a2, .mp 0 0 0, .mp 2 0 0, .i 0, .mp 7 0 0] s_16 _ (by kernel_rfl) (cj1 (callF (f11_ok a0 (.inr r49b) hr49) [] [(10, 4), (9, 3), (8, 2), (7, 1)] [5, 4, 3, 2, 0] [E_GConsort a0] s_6 (.tup [.mp 7 0 0, .i 0]) s_16 (by kernel_rfl) (.k (.c (cl_GConsort a0)) .z) (.t (.k (.mp rfl rfl) (.k (.c rfl) .z))) .z (.d (x' := b_2) rfl (by kernel_rfl) (.cells (.r (cleanMap _ _ cl_GCLive))) (.d (x' := b_4) rfl (by kernel_rfl) (.cells (.r (cleanMap _ _ cl_GTake))) (.d (x' := b_29) rfl (by kernel_rfl) (.cells (.r (cleanMap _ _ cl_GCDesk))) (.d (x' := .cells 11 [.agg [.i 0, .i 0, .i r49b.1, .bool true, .ms 2 0 r49b.2.length, .i 0, .i 0, .i 0, .ms 4 0 ([] : List GCLive).length, .fn 31 [], .ms 3 0 ([] : List GTake).length]]) rfl (by kernel_rfl) (.cells (.k (.a (.k (.c rfl) (.k (.c rfl) (.k (.c rfl) (.k (.c rfl) (.k (.ms rfl rfl) (.k (.c rfl) (.k (.c rfl) (.k (.c rfl) (.k (.ms rfl rfl) (.k (.c rfl) (.k (.ms rfl rfl) .z)))))))))))) .z)) (.f rfl (by kernel_rfl) (.f rfl (by kernel_rfl) (.f rfl (by kernel_rfl) (.f rfl (by kernel_rfl) (.f rfl (by kernel_rfl) .z))))))))))) ?_
        refine run_s (c3 23) (c3 30) (by kernel_rfl) ?_
        refine run1z (c3 25) [] [1, 2, 3, 7, 9, 37] [.i a1, .i a2, .mp 0 0 0, .mp 2 0 0, .mp 7 0 0, .bool false] s_16 _ (by kernel_rfl) cj0 ?_
        refine run_cF 37 (c3 26) (c3 29) false rfl (by kernel_rfl) (by kernel_rfl) ?_
        refine run_k (by kernel_rfl) ?_
        refine thenN ?_
        refine run_s (c3 31) (c3 45) (by kernel_rfl) ?_
        obtain ⟨r71, hr71, h⟩ := bindE h
        refine run1z (c3 33) [{}, { c := some (.i r71, s_16) }] [2, 3, 7, 9, 39, 40] [.i a2, .mp 0 0 0, .mp 2 0 0, .mp 7 0 0, .i r71, .i 0] s_16 _ (by kernel_rfl) (cj1 (f12_ok a1 41 _ hr71 s_16)) ?_
        obtain ⟨ol10x, hll10x, h⟩ := bindE h
        refine run_tq (fun ((l10x_h2_0, l10x_h2_1, l10x_h2_3, l10x_h2_4, l10x_h2_7, l10x_h2_8, l10x_h2_10) : (Int × Int × Bool × List GCDesk × Int × List GCLive × List GTake)) => (zipE [2, 3, 7, 9] [.i a2, .mp 0 0 0, .mp 2 0 0, .mp 7 0 0])) (fun ((l10x_h2_0, l10x_h2_1, l10x_h2_3, l10x_h2_4, l10x_h2_7, l10x_h2_8, l10x_h2_10) : (Int × Int × Bool × List GCDesk × Int × List GCLive × List GTake)) => ⟨[(12, .cells 5 (l10x_h2_10.map E_GTake)), (11, .cells 7 (l10x_h2_8.map E_GCLive)), (10, b_2), (9, b_4), (8, b_29), (7, b_30), (3, .cells 3 (l10x_h2_4.map E_GCDesk)), (2, .cells 11 [.agg [.i l10x_h2_0, .i l10x_h2_1, .i r4b.1, .bool l10x_h2_3, .ms 3 0 l10x_h2_4.length, .i 0, .i 0, .i l10x_h2_7, .ms 11 0 l10x_h2_8.length, .fn 31 [], .ms 12 0 l10x_h2_10.length]]), (0, b_0)], 13⟩) (fun j => ol10x = j) (fun kl10 => ?_) ?_
        · refine run_b 0 (c3 34) (by kernel_rfl) ?_
          refine run_l (c3 35) _ hll10x (fun ((l10_h2_0, l10_h2_1, l10_h2_3, l10_h2_4, l10_h2_7, l10_h2_8, l10_h2_10, l10_40) : (Int × Int × Bool × List GCDesk × Int × List GCLive × List GTake × Int)) => (zipE [2, 3, 7, 9, 39, 40] [.i a2, .mp 0 0 0, .mp 2 0 0, .mp 7 0 0, .i r71, .i l10_40])) (fun ((l10_h2_0, l10_h2_1, l10_h2_3, l10_h2_4, l10_h2_7, l10_h2_8, l10_h2_10, l10_40) : (Int × Int × Bool × List GCDesk × Int × List GCLive × List GTake × Int)) => ⟨[(12, .cells 5 (l10_h2_10.map E_GTake)), (11, .cells 7 (l10_h2_8.map E_GCLive)), (10, b_2), (9, b_4), (8, b_29), (7, b_30), (3, .cells 3 (l10_h2_4.map E_GCDesk)), (2, .cells 11 [.agg [.i l10_h2_0, .i l10_h2_1, .i r4b.1, .bool l10_h2_3, .ms 3 0 l10_h2_4.length, .i 0, .i 0, .i l10_h2_7, .ms 11 0 l10_h2_8.length, .fn 31 [], .ms 12 0 l10_h2_10.length]]), (0, b_0)], 13⟩) [(11, 5), (12, 4)] (by intro i e; cases e <;> exact Nat.le_of_ble_eq_true rfl) (by kernel_rfl) (mkInto (ks := [2, 3, 7, 9, 39, 40]) (ys := [.i a2, .mp 0 0 0, .mp 2 0 0, .mp 7 0 0, .i r71, .i 0]) (by kernel_rfl) (by kernel_rfl) (.k (.c rfl) (.k (.mp rfl rfl) (.k (.mp rfl rfl) (.k (.mp rfl rfl) (.k (.c rfl) (.k (.c rfl) .z)))))) (.k rfl (.cells (.r (cleanMap _ _ cl_GTake))) (.k rfl (.cells (.r (cleanMap _ _ cl_GCLive))) (.k rfl (.cells (.r (cleanMap _ _ cl_GCLive))) (.k rfl (.cells (.r (cleanMap _ _ cl_GTake))) (.k rfl (.cells (.r (cleanMap _ _ cl_GCDesk))) (.k rfl (.cells (.k (.a (.k (.c rfl) (.k (.c rfl) (.k (.c rfl) (.k (.c rfl) (.k (.ms rfl rfl) (.k (.c rfl) (.k (.c rfl) (.k (.c rfl) (.k (.ms rfl rfl) (.k (.c rfl) (.k (.ms rfl rfl) .z)))))))))))) .z)) (.k rfl (.cells (.r (cleanMap _ _ cl_GCDesk))) (.k rfl (.cells (.k (.a (.k (.c rfl) (.k (.c rfl) (.k (.c rfl) (.k (.c rfl) (.k (.ms rfl rfl) (.k (.c rfl) (.k (.c rfl) (.k (.c rfl) (.k (.ms rfl rfl) (.k (.c rfl) (.k (.ms rfl rfl) .z)))))))))))) .z)) (.k rfl (.cells (.k (.c (cl_GConsort a0)) .z)) .z)))))))))) ?_
          rintro ⟨l10_h2_0, l10_h2_1, l10_h2_3, l10_h2_4, l10_h2_7, l10_h2_8, l10_h2_10, l10_40⟩ out hl10 rl10
          let v_33 : AV := .ms 12 0 l10_h2_10.length
          let v_34 : AV := .ms 11 0 l10_h2_8.length
          let v_35 : AV := .ms 3 0 l10_h2_4.length
          let w_13 : AV := .agg [.i l10_h2_0, .i l10_h2_1, .i r4b.1, .bool l10_h2_3, v_35, .i 0, .i 0, .i l10_h2_7, v_34, .fn 31 [], v_33]
          let b_31 : Blk := .cells 5 (l10_h2_10.map E_GTake)
          let b_32 : Blk := .cells 7 (l10_h2_8.map E_GCLive)
          let b_33 : Blk := .cells 3 (l10_h2_4.map E_GCDesk)
          let s_17 : St := ⟨[(12, b_31), (11, b_32), (10, b_2), (9, b_4), (8, b_29), (7, b_30), (3, b_33), (2, .cells 11 [w_13]), (0, b_0)], 13⟩
          refine run1z (c3 37) [] [2, 3, 7, 9, 39, 40, 41] [.i a2, .mp 0 0 0, .mp 2 0 0, .mp 7 0 0, .i r71, .i l10_40, .bool (decide (l10_40 < r71))] s_17 _ (by kernel_rfl) cj0 ?_
          refine run_s (c3 38) (c3 41) (by kernel_rfl) ?_
          rcases iteE hl10 with ⟨hc72, hl10⟩ | ⟨hc72, hl10⟩
          · refine run_cT 41 (c3 39) (c3 40) (decide (l10_40 < r71)) hc72 (by kernel_rfl) (by kernel_rfl) ?_
            refine run_k (by kernel_rfl) ?_
            refine thenN ?_
            refine run_s (c3 42) (c3 44) (by kernel_rfl) ?_
            refine run_b 1 (c3 43) (by kernel_rfl) ?_
            obtain ⟨r73, hr73, hl10⟩ := bindE hl10
            let v_36 : AV := .ms 23 0 r73.2.2.2.2.2.2.2.1.length
            let v_37 : AV := .ms 24 0 r73.2.2.2.2.2.2.2.2.length
            let v_38 : AV := .ms 3 0 r73.2.2.2.2.2.1.length
            let v_39 : AV := .i r73.2.2.2.2.2.2.1
            let v_40 : AV := .bool r73.2.2.2.2.1
            let v_41 : AV := .i r73.2.2.2.1
            let w_14 : AV := .tup [.agg [.i r73.1.time, .sl false (r73.1.begin.map E_GVoice), .sl false (r73.1.end_.map E_GVoice)], .i r73.2.1]
            let w_15 : AV := .agg [.i r73.2.2.1, v_41, .i r4b.1, v_40, v_38, .i 0, .i 0, v_39, v_36, .fn 31 [], v_37]
            let b_34 : Blk := .cells 7 (r73.2.2.2.2.2.2.2.1.map E_GCLive)
            let b_35 : Blk := .cells 5 (r73.2.2.2.2.2.2.2.2.map E_GTake)
            let b_36 : Blk := .cells 3 (r73.2.2.2.2.2.1.map E_GCDesk)
            let b_37 : Blk := .cells 11 [w_15]
            let s_18 : St := ⟨[(24, b_35), (23, b_34), (10, b_2), (9, b_4), (8, b_29), (7, b_30), (3, b_36), (2, b_37), (0, b_0)], 25⟩
            refine run0z [{}, { c := some (w_14, s_18) }] [2, 3, 7, 9, 39, 40] [.i a2, .mp 0 0 0, .mp 2 0 0, .mp 7 0 0, .i r71, .i l10_40] s_18 _ (by kernel_rfl) (cj1 (callF (f13_1_ok (⟨(⟨l10_h2_0⟩ : GCClock), l10_h2_1, r4b.1, l10_h2_3, l10_h2_4, 0, 0, l10_h2_7, (⟨l10_h2_8⟩ : GCShelf_live), l10_h2_10⟩ : GCPlayer) _ hr73) [(0, 2), (1, 3), (2, 11), (3, 12)] [(24, 15), (23, 14), (3, 1), (2, 0)] [10, 9, 8, 7, 0] [.mp 2 0 0] s_17 (w_14) s_18 (by kernel_rfl) (.k (.mp rfl rfl) .z) (.t (.k (.c (cl_GFrame (⟨r73.1.time, r73.1.begin, r73.1.end_⟩ : GFrame))) (.k (.c rfl) .z))) (.k rfl (.cells (.r (cleanMap _ _ cl_GTake))) (.k rfl (.cells (.r (cleanMap _ _ cl_GCLive))) (.k rfl (.cells (.r (cleanMap _ _ cl_GCDesk))) (.k rfl (.cells (.k (.a (.k (.c rfl) (.k (.c rfl) (.k (.c rfl) (.k (.c rfl) (.k (.ms rfl rfl) (.k (.c rfl) (.k (.c rfl) (.k (.c rfl) (.k (.ms rfl rfl) (.k (.c rfl) (.k (.ms rfl rfl) .z)))))))))))) .z)) .z)))) (.d (x' := b_35) rfl (by kernel_rfl) (.cells (.r (cleanMap _ _ cl_GTake))) (.d (x' := b_34) rfl (by kernel_rfl) (.cells (.r (cleanMap _ _ cl_GCLive))) (.f rfl (by kernel_rfl) (.f rfl (by kernel_rfl) (.f rfl (by kernel_rfl) (.f rfl (by kernel_rfl) (.d (x' := b_36) rfl (by kernel_rfl) (.cells (.r (cleanMap _ _ cl_GCDesk))) (.d (x' := .cells 11 [.agg [.i r73.2.2.1, v_41, .i r4b.1, v_40, .ms 1 0 r73.2.2.2.2.2.1.length, .i 0, .i 0, v_39, .ms 14 0 r73.2.2.2.2.2.2.2.1.length, .fn 31 [], .ms 15 0 r73.2.2.2.2.2.2.2.2.length]]) rfl (by kernel_rfl) (.cells (.k (.a (.k (.c rfl) (.k (.c rfl) (.k (.c rfl) (.k (.c rfl) (.k (.ms rfl rfl) (.k (.c rfl) (.k (.c rfl) (.k (.c rfl) (.k (.ms rfl rfl) (.k (.c rfl) (.k (.ms rfl rfl) .z)))))))))))) .z)) (.f rfl (by kernel_rfl) .z))))))))))) ?_
            refine inbN ?_
            refine thenN ?_
            refine run0z [] [2, 3, 7, 9, 39, 40] [.i a2, .mp 0 0 0, .mp 2 0 0, .mp 7 0 0, .i r71, .i (wr (l10_40 + 1))] s_18 _ (by kernel_rfl) cj0 ?_
            replace hl10 := Option.some.inj hl10; subst hl10
            exact ⟨_, rfl, pi [(11, 23), (12, 24)], mkInto (ks := [2, 3, 7, 9, 39, 40]) (ys := [.i a2, .mp 0 0 0, .mp 2 0 0, .mp 7 0 0, .i r71, .i (wr (l10_40 + 1))]) (by kernel_rfl) (by kernel_rfl) (.k (.c rfl) (.k (.mp rfl rfl) (.k (.mp rfl rfl) (.k (.mp rfl rfl) (.k (.c rfl) (.k (.c rfl) .z)))))) (.k rfl (.cells (.r (cleanMap _ _ cl_GTake))) (.k rfl (.cells (.r (cleanMap _ _ cl_GCLive))) (.k rfl (.cells (.r (cleanMap _ _ cl_GCLive))) (.k rfl (.cells (.r (cleanMap _ _ cl_GTake))) (.k rfl (.cells (.r (cleanMap _ _ cl_GCDesk))) (.k rfl (.cells (.k (.a (.k (.c rfl) (.k (.c rfl) (.k (.c rfl) (.k (.c rfl) (.k (.ms rfl rfl) (.k (.c rfl) (.k (.c rfl) (.k (.c rfl) (.k (.ms rfl rfl) (.k (.c rfl) (.k (.ms rfl rfl) .z)))))))))))) .z)) (.k rfl (.cells (.r (cleanMap _ _ cl_GCDesk))) (.k rfl (.cells (.k (.a (.k (.c rfl) (.k (.c rfl) (.k (.c rfl) (.k (.c rfl) (.k (.ms rfl rfl) (.k (.c rfl) (.k (.c rfl) (.k (.c rfl) (.k (.ms rfl rfl) (.k (.c rfl) (.k (.ms rfl rfl) .z)))))))))))) .z)) (.k rfl (.cells (.k (.c (cl_GConsort a0)) .z)) .z)))))))))⟩
          · refine run_cF 41 (c3 39) (c3 40) (decide (l10_40 < r71)) hc72 (by kernel_rfl) (by kernel_rfl) ?_
            replace hl10 := Option.some.inj hl10; subst hl10
            have hr := rl10 _ rfl
            subst hr
            refine awp_p [2, 3, 7, 9] [12, 11, 10, 9, 8, 7, 3, 2, 0] (zipE [2, 3, 7, 9] [.i a2, .mp 0 0 0, .mp 2 0 0, .mp 7 0 0]) s_17 (by kernel_rfl) (?_)
            refine run_e 0 (by kernel_rfl) ?_
            refine thenE ?_
            refine ⟨⟨_, rfl⟩, ?_⟩
            refine inbE ?_
            exact kl10 (l10_h2_0, l10_h2_1, l10_h2_3, l10_h2_4, l10_h2_7, l10_h2_8, l10_h2_10) rfl
        · rintro ⟨l10x_h2_0, l10x_h2_1, l10x_h2_3, l10x_h2_4, l10x_h2_7, l10x_h2_8, l10x_h2_10⟩ rfl
          refine thenN ?_
          obtain ⟨r74, hr74, h⟩ := bindE h
          obtain ⟨r75, hr75, h⟩ := bindE h
          let v_42 : AV := .ms 12 0 l10x_h2_10.length
          let v_43 : AV := .ms 11 0 l10x_h2_8.length
          let v_44 : AV := .ms 3 0 l10x_h2_4.length
          let v_45 : AV := .bool l10x_h2_3
          let w_16 : AV := .agg [.i l10x_h2_0, .i l10x_h2_1, .i r4b.1, v_45, v_44, .i 0, .i 0, .i l10x_h2_7, v_43, .fn 31 [], v_42]
          let b_38 : Blk := .cells 5 (l10x_h2_10.map E_GTake)
          let b_39 : Blk := .cells 7 (l10x_h2_8.map E_GCLive)
          let b_40 : Blk := .cells 3 (l10x_h2_4.map E_GCDesk)
          let b_41 : Blk := .cells 11 [w_16]
          let s_19 : St := ⟨[(12, b_38), (11, b_39), (10, b_2), (9, b_4), (8, b_29), (7, b_30), (3, b_40), (2, b_41), (0, b_0)], 13⟩
          let s_20 : St := ⟨[(12, b_38), (11, b_39), (10, b_2), (9, b_4), (8, b_29), (7, b_30), (3, b_40), (2, b_41)], 13⟩
          refine run1z (c3 47) [{}, {}, { c := some (.i r74, s_19) }, {}, { c := some (.i r75, s_19) }] [2, 7, 9] [.i r75, .mp 2 0 0, .mp 7 0 0] s_20 _ (by kernel_rfl) (cjC (f14_ok a0 _ hr74 s_19) (cj1 (f12_ok a2 (wr (r74 + 1)) _ hr75 s_19))) ?_
          refine run_s (c3 48) (c3 57) (by kernel_rfl) ?_
          obtain ⟨r76, hr76, h⟩ := bindE h
          let v_46 : AV := .ms 18 0 r76.2.2.2.2.2.1.length
          let v_47 : AV := .ms 19 0 r76.2.2.2.2.2.2.length
          let v_48 : AV := .ms 3 0 r76.2.2.2.2.1.length
          let v_49 : AV := .bool r76.2.2.2.1
          let w_17 : AV := .tup [.agg [.i r76.1.time, .sl false (r76.1.begin.map E_GVoice), .sl false (r76.1.end_.map E_GVoice)], .i r76.2.1]
          let w_18 : AV := .agg [.i l10x_h2_0, .i r76.2.2.1, .i r4b.1, v_49, v_48, .i 0, .i 0, .i l10x_h2_7, v_46, .fn 31 [], v_47]
          let b_42 : Blk := .cells 7 (r76.2.2.2.2.2.1.map E_GCLive)
          let b_43 : Blk := .cells 5 (r76.2.2.2.2.2.2.map E_GTake)
          let b_44 : Blk := .cells 3 (r76.2.2.2.2.1.map E_GCDesk)
          let b_45 : Blk := .cells 11 [w_18]
          let s_21 : St := ⟨[(19, b_43), (18, b_42), (10, b_2), (9, b_4), (8, b_29), (7, b_30), (3, b_44), (2, b_45)], 20⟩
          let s_22 : St := ⟨[(19, b_43), (18, b_42), (10, b_2), (9, b_4), (8, b_29), (7, b_30), (3, b_44), (2, b_45)], 21⟩
          refine run1z (c3 50) [{}, {}, { c := some (w_17, s_21) }] [2, 7, 9, 11] [.i r75, .mp 2 0 0, .mp 7 0 0, .i r76.2.1] s_22 _ (by kernel_rfl) (cj1 (callF (f15_1_ok (⟨(⟨l10x_h2_0⟩ : GCClock), l10x_h2_1, r4b.1, l10x_h2_3, l10x_h2_4, 0, 0, l10x_h2_7, (⟨l10x_h2_8⟩ : GCShelf_live), l10x_h2_10⟩ : GCPlayer) r75 _ hr76) [(0, 2), (1, 3), (2, 11), (3, 12)] [(19, 10), (18, 9), (3, 1), (2, 0)] [10, 9, 8, 7] [.mp 2 0 0, .i r75] s_20 (w_17) s_21 (by kernel_rfl) (.k (.mp rfl rfl) (.k (.c rfl) .z)) (.t (.k (.c (cl_GFrame (⟨r76.1.time, r76.1.begin, r76.1.end_⟩ : GFrame))) (.k (.c rfl) .z))) (.k rfl (.cells (.r (cleanMap _ _ cl_GTake))) (.k rfl (.cells (.r (cleanMap _ _ cl_GCLive))) (.k rfl (.cells (.r (cleanMap _ _ cl_GCDesk))) (.k rfl (.cells (.k (.a (.k (.c rfl) (.k (.c rfl) (.k (.c rfl) (.k (.c rfl) (.k (.ms rfl rfl) (.k (.c rfl) (.k (.c rfl) (.k (.c rfl) (.k (.ms rfl rfl) (.k (.c rfl) (.k (.ms rfl rfl) .z)))))))))))) .z)) .z)))) (.d (x' := b_43) rfl (by kernel_rfl) (.cells (.r (cleanMap _ _ cl_GTake))) (.d (x' := b_42) rfl (by kernel_rfl) (.cells (.r (cleanMap _ _ cl_GCLive))) (.f rfl (by kernel_rfl) (.f rfl (by kernel_rfl) (.f rfl (by kernel_rfl) (.f rfl (by kernel_rfl) (.d (x' := b_44) rfl (by kernel_rfl) (.cells (.r (cleanMap _ _ cl_GCDesk))) (.d (x' := .cells 11 [.agg [.i l10x_h2_0, .i r76.2.2.1, .i r4b.1, v_49, .ms 1 0 r76.2.2.2.2.1.length, .i 0, .i 0, .i l10x_h2_7, .ms 9 0 r76.2.2.2.2.2.1.length, .fn 31 [], .ms 10 0 r76.2.2.2.2.2.2.length]]) rfl (by kernel_rfl) (.cells (.k (.a (.k (.c rfl) (.k (.c rfl) (.k (.c rfl) (.k (.c rfl) (.k (.ms rfl rfl) (.k (.c rfl) (.k (.c rfl) (.k (.c rfl) (.k (.ms rfl rfl) (.k (.c rfl) (.k (.ms rfl rfl) .z)))))))))))) .z)) .z)))))))))) ?_
          refine run1z (c3 52) [] [2, 7, 9, 57] [.i r75, .mp 2 0 0, .mp 7 0 0, .bool (decide (r76.2.1 ≠ 0))] s_22 _ (by kernel_rfl) cj0 ?_
          rcases iteE h with ⟨hc77, h⟩ | ⟨hc77, h⟩
          · refine run_cT 57 (c3 53) (c3 56) (decide (r76.2.1 ≠ 0)) hc77 (by kernel_rfl) (by kernel_rfl) ?_
            refine run1z (c3 55) [] [6] [.bool false] ⟨[], 21⟩ _ (by kernel_rfl) cj0 ?_
            refine run_t (by kernel_rfl) ?_
            refine thenR ?_
            replace h := Option.some.inj h; subst h
            exact fin_r (by kernel_rfl) rfl
          · refine run_cF 57 (c3 53) (c3 56) (decide (r76.2.1 ≠ 0)) hc77 (by kernel_rfl) (by kernel_rfl) ?_
            refine run_k (by kernel_rfl) ?_
            refine thenN ?_
            refine run_s (c3 58) (c3 67) (by kernel_rfl) ?_
            obtain ⟨r78, hr78, h⟩ := bindE h
            let v_50 : AV := .ms 26 0 r78.2.2.2.2.2.1.length
            let v_51 : AV := .ms 27 0 r78.2.2.2.2.2.2.length
            let v_52 : AV := .ms 8 0 r78.2.2.2.2.1.length
            let v_53 : AV := .bool r78.2.2.2.1
            let w_19 : AV := .tup [.agg [.i r78.1.time, .sl false (r78.1.begin.map E_GVoice), .sl false (r78.1.end_.map E_GVoice)], .i r78.2.1]
            let w_20 : AV := .agg [.i 0, .i r78.2.2.1, .i r49b.1, v_53, v_52, .i 0, .i 0, .i 0, v_50, .fn 31 [], v_51]
            let b_46 : Blk := .cells 7 (r78.2.2.2.2.2.1.map E_GCLive)
            let b_47 : Blk := .cells 5 (r78.2.2.2.2.2.2.map E_GTake)
            let b_48 : Blk := .cells 3 (r78.2.2.2.2.1.map E_GCDesk)
            let b_49 : Blk := .cells 11 [w_20]
            let s_23 : St := ⟨[(27, b_47), (26, b_46), (19, b_43), (18, b_42), (8, b_48), (7, b_49), (3, b_44), (2, b_45)], 28⟩
            let s_24 : St := ⟨[(27, b_47), (26, b_46), (19, b_43), (18, b_42), (8, b_48), (7, b_49), (3, b_44), (2, b_45)], 29⟩
            refine run1z (c3 60) [{}, {}, { c := some (w_19, s_23) }] [7, 9, 13] [.mp 2 0 0, .mp 7 0 0, .i r78.2.1] s_24 _ (by kernel_rfl) (cj1 (callF (f15_1_ok (⟨(⟨0⟩ : GCClock), 0, r49b.1, true, r49b.2, 0, 0, 0, (⟨([] : List GCLive)⟩ : GCShelf_live), ([] : List GTake)⟩ : GCPlayer) r75 _ hr78) [(0, 7), (1, 8), (2, 10), (3, 9)] [(27, 10), (26, 9), (8, 1), (7, 0)] [19, 18, 3, 2] [.mp 7 0 0, .i r75] s_22 (w_19) s_23 (by kernel_rfl) (.k (.mp rfl rfl) (.k (.c rfl) .z)) (.t (.k (.c (cl_GFrame (⟨r78.1.time, r78.1.begin, r78.1.end_⟩ : GFrame))) (.k (.c rfl) .z))) (.k rfl (.cells (.r (cleanMap _ _ cl_GTake))) (.k rfl (.cells (.r (cleanMap _ _ cl_GCLive))) (.k rfl (.cells (.r (cleanMap _ _ cl_GCDesk))) (.k rfl (.cells (.k (.a (.k (.c rfl) (.k (.c rfl) (.k (.c rfl) (.k (.c rfl) (.k (.ms rfl rfl) (.k (.c rfl) (.k (.c rfl) (.k (.c rfl) (.k (.ms rfl rfl) (.k (.c rfl) (.k (.ms rfl rfl) .z)))))))))))) .z)) .z)))) (.d (x' := b_47) rfl (by kernel_rfl) (.cells (.r (cleanMap _ _ cl_GTake))) (.d (x' := b_46) rfl (by kernel_rfl) (.cells (.r (cleanMap _ _ cl_GCLive))) (.f rfl (by kernel_rfl) (.f rfl (by kernel_rfl) (.d (x' := b_48) rfl (by kernel_rfl) (.cells (.r (cleanMap _ _ cl_GCDesk))) (.d (x' := .cells 11 [.agg [.i 0, .i r78.2.2.1, .i r49b.1, v_53, .ms 1 0 r78.2.2.2.2.1.length, .i 0, .i 0, .i 0, .ms 9 0 r78.2.2.2.2.2.1.length, .fn 31 [], .ms 10 0 r78.2.2.2.2.2.2.length]]) rfl (by kernel_rfl) (.cells (.k (.a (.k (.c rfl) (.k (.c rfl) (.k (.c rfl) (.k (.c rfl) (.k (.ms rfl rfl) (.k (.c rfl) (.k (.c rfl) (.k (.c rfl) (.k (.ms rfl rfl) (.k (.c rfl) (.k (.ms rfl rfl) .z)))))))))))) .z)) (.f rfl (by kernel_rfl) (.f rfl (by kernel_rfl) .z)))))))))) ?_
            refine run1z (c3 62) [] [7, 9, 65] [.mp 2 0 0, .mp 7 0 0, .bool (decide (r78.2.1 ≠ 0))] s_24 _ (by kernel_rfl) cj0 ?_
            rcases iteE h with ⟨hc79, h⟩ | ⟨hc79, h⟩
            · refine run_cT 65 (c3 63) (c3 66) (decide (r78.2.1 ≠ 0)) hc79 (by kernel_rfl) (by kernel_rfl) ?_
              refine run1z (c3 65) [] [6] [.bool false] ⟨[], 29⟩ _ (by kernel_rfl) cj0 ?_
              refine run_t (by kernel_rfl) ?_
              refine thenR ?_
              replace h := Option.some.inj h; subst h
              exact fin_r (by kernel_rfl) rfl
            · refine run_cF 65 (c3 63) (c3 66) (decide (r78.2.1 ≠ 0)) hc79 (by kernel_rfl) (by kernel_rfl) ?_
              refine run_k (by kernel_rfl) ?_
              refine thenN ?_
              obtain ⟨r80, hr80, h⟩ := bindE h
              let v_54 : AV := .sl false (r80.1.map E_GFrame)
              let w_21 : AV := .agg [.i r80.2.2.1, .i r80.2.2.2.1, .i r4b.1, .bool r80.2.2.2.2.1, .ms 3 0 r80.2.2.2.2.2.1.length, .i 0, .i 0, .i r80.2.2.2.2.2.2.1, .ms 45 0 r80.2.2.2.2.2.2.2.1.length, .fn 31 [], .ms 46 0 r80.2.2.2.2.2.2.2.2.length]
              let b_50 : Blk := .cells 7 (r80.2.2.2.2.2.2.2.1.map E_GCLive)
              let b_51 : Blk := .cells 5 (r80.2.2.2.2.2.2.2.2.map E_GTake)
              let b_52 : Blk := .cells 3 (r80.2.2.2.2.2.1.map E_GCDesk)
              let s_25 : St := ⟨[(46, b_51), (45, b_50), (27, b_47), (26, b_46), (8, b_48), (7, b_49), (3, b_52), (2, .cells 11 [w_21])], 47⟩
              let s_26 : St := ⟨[(27, b_47), (26, b_46), (8, b_48), (7, b_49)], 47⟩
              refine run1z (c3 69) [{}, { c := some (.tup [v_54, .bool r80.2.1], s_25) }] [9, 14, 15] [.mp 7 0 0, v_54, .bool r80.2.1] s_26 _ (by kernel_rfl) (cj1 (callF (f16_1_ok (⟨(⟨l10x_h2_0⟩ : GCClock), r76.2.2.1, r4b.1, r76.2.2.2.1, r76.2.2.2.2.1, 0, 0, l10x_h2_7, (⟨r76.2.2.2.2.2.1⟩ : GCShelf_live), r76.2.2.2.2.2.2⟩ : GCPlayer) _ hr80) [(0, 2), (1, 3), (2, 18), (3, 19)] [(46, 21), (45, 20), (3, 1), (2, 0)] [27, 26, 8, 7] [.mp 2 0 0] s_24 (.tup [v_54, .bool r80.2.1]) s_25 (by kernel_rfl) (.k (.mp rfl rfl) .z) (.t (.k (.c (cleanMap _ _ cl_GFrame)) (.k (.c rfl) .z))) (.k rfl (.cells (.r (cleanMap _ _ cl_GTake))) (.k rfl (.cells (.r (cleanMap _ _ cl_GCLive))) (.k rfl (.cells (.r (cleanMap _ _ cl_GCDesk))) (.k rfl (.cells (.k (.a (.k (.c rfl) (.k (.c rfl) (.k (.c rfl) (.k (.c rfl) (.k (.ms rfl rfl) (.k (.c rfl) (.k (.c rfl) (.k (.c rfl) (.k (.ms rfl rfl) (.k (.c rfl) (.k (.ms rfl rfl) .z)))))))))))) .z)) .z)))) (.d (x' := b_51) rfl (by kernel_rfl) (.cells (.r (cleanMap _ _ cl_GTake))) (.d (x' := b_50) rfl (by kernel_rfl) (.cells (.r (cleanMap _ _ cl_GCLive))) (.f rfl (by kernel_rfl) (.f rfl (by kernel_rfl) (.f rfl (by kernel_rfl) (.f rfl (by kernel_rfl) (.d (x' := b_52) rfl (by kernel_rfl) (.cells (.r (cleanMap _ _ cl_GCDesk))) (.d (x' := .cells 11 [.agg [.i r80.2.2.1, .i r80.2.2.2.1, .i r4b.1, .bool r80.2.2.2.2.1, .ms 1 0 r80.2.2.2.2.2.1.length, .i 0, .i 0, .i r80.2.2.2.2.2.2.1, .ms 20 0 r80.2.2.2.2.2.2.2.1.length, .fn 31 [], .ms 21 0 r80.2.2.2.2.2.2.2.2.length]]) rfl (by kernel_rfl) (.cells (.k (.a (.k (.c rfl) (.k (.c rfl) (.k (.c rfl) (.k (.c rfl) (.k (.ms rfl rfl) (.k (.c rfl) (.k (.c rfl) (.k (.c rfl) (.k (.ms rfl rfl) (.k (.c rfl) (.k (.ms rfl rfl) .z)))))))))))) .z)) .z)))))))))) ?_
              obtain ⟨r81, hr81, h⟩ := bindE h
              let v_55 : AV := .sl false (r81.1.map E_GFrame)
              let w_22 : AV := .agg [.i r81.2.2.1, .i r81.2.2.2.1, .i r49b.1, .bool r81.2.2.2.2.1, .ms 8 0 r81.2.2.2.2.2.1.length, .i 0, .i 0, .i r81.2.2.2.2.2.2.1, .ms 63 0 r81.2.2.2.2.2.2.2.1.length, .fn 31 [], .ms 64 0 r81.2.2.2.2.2.2.2.2.length]
              let b_53 : Blk := .cells 7 (r81.2.2.2.2.2.2.2.1.map E_GCLive)
              let b_54 : Blk := .cells 5 (r81.2.2.2.2.2.2.2.2.map E_GTake)
              let b_55 : Blk := .cells 3 (r81.2.2.2.2.2.1.map E_GCDesk)
              let s_27 : St := ⟨[(64, b_54), (63, b_53), (8, b_55), (7, .cells 11 [w_22])], 65⟩
              refine run1z (c3 71) [{}, { c := some (.tup [v_55, .bool r81.2.1], s_27) }] [14, 15, 16, 17] [v_54, .bool r80.2.1, v_55, .bool r81.2.1] ⟨[], 65⟩ _ (by kernel_rfl) (cj1 (callF (f16_1_ok (⟨(⟨0⟩ : GCClock), r78.2.2.1, r49b.1, r78.2.2.2.1, r78.2.2.2.2.1, 0, 0, 0, (⟨r78.2.2.2.2.2.1⟩ : GCShelf_live), r78.2.2.2.2.2.2⟩ : GCPlayer) _ hr81) [(0, 7), (1, 8), (2, 26), (3, 27)] [(64, 21), (63, 20), (8, 1), (7, 0)] [] [.mp 7 0 0] s_26 (.tup [v_55, .bool r81.2.1]) s_27 (by kernel_rfl) (.k (.mp rfl rfl) .z) (.t (.k (.c (cleanMap _ _ cl_GFrame)) (.k (.c rfl) .z))) (.k rfl (.cells (.r (cleanMap _ _ cl_GTake))) (.k rfl (.cells (.r (cleanMap _ _ cl_GCLive))) (.k rfl (.cells (.r (cleanMap _ _ cl_GCDesk))) (.k rfl (.cells (.k (.a (.k (.c rfl) (.k (.c rfl) (.k (.c rfl) (.k (.c rfl) (.k (.ms rfl rfl) (.k (.c rfl) (.k (.c rfl) (.k (.c rfl) (.k (.ms rfl rfl) (.k (.c rfl) (.k (.ms rfl rfl) .z)))))))))))) .z)) .z)))) (.d (x' := b_54) rfl (by kernel_rfl) (.cells (.r (cleanMap _ _ cl_GTake))) (.d (x' := b_53) rfl (by kernel_rfl) (.cells (.r (cleanMap _ _ cl_GCLive))) (.d (x' := b_55) rfl (by kernel_rfl) (.cells (.r (cleanMap _ _ cl_GCDesk))) (.d (x' := .cells 11 [.agg [.i r81.2.2.1, .i r81.2.2.2.1, .i r49b.1, .bool r81.2.2.2.2.1, .ms 1 0 r81.2.2.2.2.2.1.length, .i 0, .i 0, .i r81.2.2.2.2.2.2.1, .ms 20 0 r81.2.2.2.2.2.2.2.1.length, .fn 31 [], .ms 21 0 r81.2.2.2.2.2.2.2.2.length]]) rfl (by kernel_rfl) (.cells (.k (.a (.k (.c rfl) (.k (.c rfl) (.k (.c rfl) (.k (.c rfl) (.k (.ms rfl rfl) (.k (.c rfl) (.k (.c rfl) (.k (.c rfl) (.k (.ms rfl rfl) (.k (.c rfl) (.k (.ms rfl rfl) .z)))))))))))) .z)) .z)))))) ?_
              refine run_s (c3 72) (c3 79) (by kernel_rfl) ?_
              obtain ⟨j11_88, hj11, h⟩ := bindE h
              refine run_gq (c3 74) (fun (j11_88 : Bool) => (zipE [14, 16, 88] [v_54, v_55, .bool j11_88])) (fun (j11_88 : Bool) => ⟨[], 65⟩) (fun j => j11_88 = j) (fun kj11 => ?_) ?_
              · rcases iteE hj11 with ⟨hc82, hj11⟩ | ⟨hc82, hj11⟩
                · replace hj11 := Option.some.inj hj11; subst hj11
                  exact run1z (c3 74) [{}, {}, {}, { g := false }, { g := false }, { k := 1, b := true }, {}, { g := false }, { g := false }, { g := false }, { g := false }, { g := false }] [14, 16, 88] [v_54, v_55, .bool true] ⟨[], 65⟩ _ (by kernel_rfl) (cjC (hc82) (cjC (hc82) (cjC (hc82) (cjC (Eq.refl true) (cjC (Eq.refl true) (cjC (Eq.refl true) (cjC (Eq.refl true) (cj1 (Eq.refl true))))))))) (kj11 true rfl)
                · rcases iteE hj11 with ⟨hc83, hj11⟩ | ⟨hc83, hj11⟩
                  · replace hj11 := Option.some.inj hj11; subst hj11
                    exact run1z (c3 74) [{}, {}, {}, {}, {}, { k := 1, b := false }, {}, { g := false }, { g := false }, { g := false }, { g := false }, { g := false }, { k := 1, b := true }] [14, 16, 88] [v_54, v_55, .bool true] ⟨[], 65⟩ _ (by kernel_rfl) (cjC (hc82) (cjC (hc82) (cjC (hc82) (cjC (hc83) (cjC (hc83) (cjC (hc83) (cjC (hc83) (cjC (hc83) (cj1 (hc83)))))))))) (kj11 true rfl)
                  · replace hj11 := Option.some.inj hj11; subst hj11
                    exact run1z (c3 74) [{}, {}, {}, {}, {}, { k := 1, b := false }, {}, {}, { k := 1, n := r80.1.length }, {}, { k := 1, n := r81.1.length }, {}, { k := 1, b := false }] [14, 16, 88] [v_54, v_55, .bool (decide ((r80.1.length : Int) ≠ (r81.1.length : Int)))] ⟨[], 65⟩ _ (by kernel_rfl) (cjC (hc82) (cjC (hc82) (cjC (hc82) (cjC (hc83) (cjC (hc83) (cjC (mapLen r80.1 E_GFrame) (cjC (hc83) (cjC (hc83) (cjC (mapLen r81.1 E_GFrame) (cjC (hc83) (cj1 (hc83)))))))))))) (kj11 (decide ((r80.1.length : Int) ≠ (r81.1.length : Int))) rfl)
              · rintro _ rfl
                rcases iteE h with ⟨hc84, h⟩ | ⟨hc84, h⟩
                · refine run_cT 88 (c3 75) (c3 78) j11_88 hc84 (by kernel_rfl) (by kernel_rfl) ?_
                  refine run1z (c3 77) [] [6] [.bool false] ⟨[], 65⟩ _ (by kernel_rfl) cj0 ?_
                  refine run_t (by kernel_rfl) ?_
                  refine thenR ?_
                  replace h := Option.some.inj h; subst h
                  exact fin_r (by kernel_rfl) rfl
                · refine run_cF 88 (c3 75) (c3 78) j11_88 hc84 (by kernel_rfl) (by kernel_rfl) ?_
                  refine run_k (by kernel_rfl) ?_
                  refine thenN ?_
                  refine run_s (c3 80) (c3 102) (by kernel_rfl) ?_
                  let v_56 : AV := .i (r80.1.length : Int)
                  refine run1z (c3 82) [{}, { k := 1, n := r80.1.length }] [14, 16, 90, 91] [v_54, v_55, v_56, .i 0] ⟨[], 65⟩ _ (by kernel_rfl) (cj1 (mapLen r80.1 E_GFrame)) ?_
                  obtain ⟨ol12x, hll12x, h⟩ := bindE h
                  refine run_tq (fun (_ : Unit) => (zipE [] [])) (fun (_ : Unit) => ⟨[], 65⟩) (fun j => ol12x = .inl j) (fun kl12 => ?_) ?_
                  · refine run_b 2 (c3 83) (by kernel_rfl) ?_
                    refine run_l (c3 84) _ hll12x (fun (l12_91 : Int) => (zipE [14, 16, 90, 91] [v_54, v_55, v_56, .i l12_91])) (fun (l12_91 : Int) => ⟨[], 65⟩) [] (by intro i e; cases e <;> exact Nat.le_of_ble_eq_true rfl) (by kernel_rfl) (mkInto (ks := [14, 16, 90, 91]) (ys := [v_54, v_55, v_56, .i 0]) (by kernel_rfl) (by kernel_rfl) (.k (.c (cleanMap _ _ cl_GFrame)) (.k (.c (cleanMap _ _ cl_GFrame)) (.k (.c rfl) (.k (.c rfl) .z)))) .z) ?_
                    rintro l12_91 out hl12 rl12
                    refine run1z (c3 86) [] [14, 16, 90, 91, 92] [v_54, v_55, v_56, .i l12_91, .bool (decide (l12_91 < (r80.1.length : Int)))] ⟨[], 65⟩ _ (by kernel_rfl) cj0 ?_
                    refine run_s (c3 87) (c3 90) (by kernel_rfl) ?_
                    rcases iteE hl12 with ⟨hc85, hl12⟩ | ⟨hc85, hl12⟩
                    · refine run_cT 92 (c3 88) (c3 89) (decide (l12_91 < (r80.1.length : Int))) hc85 (by kernel_rfl) (by kernel_rfl) ?_
                      refine run_k (by kernel_rfl) ?_
                      refine thenN ?_
                      refine run_s (c3 91) (c3 101) (by kernel_rfl) ?_
                      refine run_b 3 (c3 92) (by kernel_rfl) ?_
                      refine run1z (c3 94) [] [14, 16, 18, 90, 91] [v_54, v_55, .i l12_91, v_56, .i l12_91] ⟨[], 65⟩ _ (by kernel_rfl) cj0 ?_
                      obtain ⟨y86, hy86, hl12⟩ := bindE hl12
                      obtain ⟨y87, hy87, hl12⟩ := bindE hl12
                      obtain ⟨r88, hr88, hl12⟩ := bindE hl12
                      refine yun1z (c3 96) [[], [], [0, 1], [0, 1, 2], [], [], [4, 5], [4, 5, 6], [0, 1, 2, 3, 4, 5, 6, 7], [0, 1, 2, 3, 4, 5, 6, 7, 8]] [.light 0 false, .light 1 false, .light 2 false, .light 3 false, .light 4 false, .light 5 false, .light 6 false, .light 7 false, .heavy 8 [], .light 9 false] [{}, {}, { k := 1, x := E_GFrame y86 }, {}, {}, {}, { k := 1, x := E_GFrame y87 }, {}, { c := some (.bool r88, ⟨[], 65⟩) }] [14, 16, 90, 91, 103] [v_54, v_55, v_56, .i l12_91, .bool (!r88)] ⟨[], 65⟩ _ (by kernel_rfl) (cjC ((ixE hy86).1) (cjC (mapGet E_GFrame (ixE hy86).2) (cjC ((ixE hy87).1) (cjC (mapGet E_GFrame (ixE hy87).2) (cj1 (f17_ok y86 y87 _ hr88 ⟨[], 65⟩)))))) ?_
                      rcases iteE hl12 with ⟨hc89, hl12⟩ | ⟨hc89, hl12⟩
                      · refine run_cT 103 (c3 97) (c3 100) (!r88) hc89 (by kernel_rfl) (by kernel_rfl) ?_
                        refine run1z (c3 99) [] [6] [.bool false] ⟨[], 65⟩ _ (by kernel_rfl) cj0 ?_
                        replace hl12 := Option.some.inj hl12; subst hl12
                        have hr := rl12 _ rfl
                        subst hr
                        replace h := elimR h
                        refine run_t (by kernel_rfl) ?_
                        refine inbR ?_
                        refine thenR ?_
                        refine ⟨⟨_, rfl⟩, ?_⟩
                        refine inbR ?_
                        refine thenR ?_
                        replace h := Option.some.inj h; subst h
                        exact fin_r (by kernel_rfl) rfl
                      · refine run_cF 103 (c3 97) (c3 100) (!r88) hc89 (by kernel_rfl) (by kernel_rfl) ?_
                        refine run_k (by kernel_rfl) ?_
                        refine inbN ?_
                        refine thenN ?_
                        refine run0z [] [14, 16, 90, 91] [v_54, v_55, v_56, .i (wr (l12_91 + 1))] ⟨[], 65⟩ _ (by kernel_rfl) cj0 ?_
                        replace hl12 := Option.some.inj hl12; subst hl12
                        exact ⟨_, rfl, pi [], mkInto (ks := [14, 16, 90, 91]) (ys := [v_54, v_55, v_56, .i (wr (l12_91 + 1))]) (by kernel_rfl) (by kernel_rfl) (.k (.c (cleanMap _ _ cl_GFrame)) (.k (.c (cleanMap _ _ cl_GFrame)) (.k (.c rfl) (.k (.c rfl) .z)))) .z⟩
                    · refine run_cF 92 (c3 88) (c3 89) (decide (l12_91 < (r80.1.length : Int))) hc85 (by kernel_rfl) (by kernel_rfl) ?_
                      replace hl12 := Option.some.inj hl12; subst hl12
                      have hr := rl12 _ rfl
                      subst hr
                      refine awp_p [] [] (zipE [] []) ⟨[], 65⟩ (by kernel_rfl) (?_)
                      refine run_e 2 (by kernel_rfl) ?_
                      refine thenE ?_
                      refine ⟨⟨_, rfl⟩, ?_⟩
                      refine inbE ?_
                      exact kl12 () rfl
                  · rintro ⟨⟩ rfl
                    replace h := elimL h
                    refine thenN ?_
                    obtain ⟨r90, hr90, h⟩ := bindE h
                    refine run1z (c3 104) [{ c := some (.bool r90, ⟨[], 65⟩) }] [6] [.bool r90] ⟨[], 65⟩ _ (by kernel_rfl) (cj1 (f10_ok  _ hr90 ⟨[], 65⟩)) ?_
                    refine run_t (by kernel_rfl) ?_
                    replace h := Option.some.inj h; subst h
                    exact fin_r (by kernel_rfl) rfl
end Go.Proofs.Ytpljabnngpnieaa
