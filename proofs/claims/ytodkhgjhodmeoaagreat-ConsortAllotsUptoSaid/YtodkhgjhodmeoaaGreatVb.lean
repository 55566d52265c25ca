/-
 Functions of the program as Lean functions,and the walks. Written by a program of ours.
-/
import Derived.Test.YtodkhgjhodmeoaaGreatVa
namespace Go.Proofs.YtodkhgjhodmeoaaGreat
open Go Go.Am
set_option maxRecDepth 100000
set_option linter.all false
def f164r : Nat → Int → Int → (List Int) → (List (List Int)) → (List Int) → Int → (List Int) → Option (Int × List Int × List Int × List Int)
 | 0,_,_,_,_,_,_,_ => none
 | fu + 1,a0,a1,a2,a3,a4,a5,a6 => ((bif (decide (0 ≤ a1)) then (some (decide (a1 ≤ a0))) else (some false)) : Option Bool).bind fun (j1_17 : Bool) => bif j1_17 then (some (a1,a2,a4,a6)) else (bif (decide ((a2.length : Int) = (a3.length : Int))) then ((f132 a2).bind fun r4 => some (a0,a2,r4,a6)) else ((loopN (σ := (List Int × List Int × Int × List Int × Int)) (τ := (Int × List Int × List Int × List Int)) (fun ((l2_h1,l2_h7,l2_h0,l2_h4,l2_28) : (List Int × List Int × Int × List Int × Int)) => bif (decide (l2_28 < a5)) then ((((ix l2_h7 l2_28).bind fun y6 => bif (decide (y6 = 0)) then (some (l2_h1,l2_h7,l2_h0,l2_h4)) else (need (l2_h1.length + 1 ≤ maxElems) <| (ix a3 (a2.length : Int)).bind fun y9 => (ix y9 l2_28).bind fun y10 => (f164r fu (wr (a0 + y10)) l2_h0 (l2_h1 ++ [l2_28]) a3 l2_h4 a5 (l2_h7.set l2_28.toNat (wr (y6 - 1)))).bind fun r11 => need (0 ≤ (a2.length : Int)) <| need ((a2.length : Int).toNat ≤ r11.2.1.length) <| (ix r11.2.2.2 l2_28).bind fun y14 => some ((r11.2.1.take (a2.length : Int).toNat),(r11.2.2.2.set l2_28.toNat (wr (y14 + 1))),r11.1,r11.2.2.1))) : Option (List Int × List Int × Int × List Int)).bind fun ((j3_h1,j3_h7,j3_h0,j3_h4) : (List Int × List Int × Int × List Int)) => some (.inl (j3_h1,j3_h7,j3_h0,j3_h4,(wr (l2_28 + 1))))) else (some (.inr (l2_h0,l2_h1,l2_h4,l2_h7)))) FUEL (a2,a6,a1,a4,0)).bind fun ((l2x_h0,l2x_h1,l2x_h4,l2x_h7) : (Int × List Int × List Int × List Int)) => some (l2x_h0,l2x_h1,l2x_h4,l2x_h7)))
def f164 (a0 : Int) (a1 : Int) (a2 : List Int) (a3 : List (List Int)) (a4 : List Int) (a5 : Int) (a6 : List Int) : Option (Int × List Int × List Int × List Int) := f164r FUEL a0 a1 a2 a3 a4 a5 a6
theorem f164r_ok : ∀ (fu : Nat) (a0 : Int) (a1 : Int) (a2 : List Int) (a3 : List (List Int)) (a4 : List Int) (a5 : Int) (a6 : List Int) (r : (Int × List Int × List Int × List Int)) (h : f164r fu a0 a1 a2 a3 a4 a5 a6 = some r),ACalls Tryz.prog 164 [.i a0,.mp 0 0 0,.mp 1 0 0,.mp 3 0 0,.mp 4 0 0,.mp 6 0 0,.mp 7 0 0,.mp 9 0 0] ⟨[(9,.cells 1 [.fn 164 [.mp 0 0 0,.mp 1 0 0,.mp 3 0 0,.mp 4 0 0,.mp 6 0 0,.mp 7 0 0,.mp 9 0 0]]),(8,.cells 1 (a6.map AV.i)),(7,.cells 1 [.ms 8 0 a6.length]),(6,.cells 1 [.i a5]),(5,.cells 1 (a4.map AV.i)),(4,.cells 1 [.ms 5 0 a4.length]),(3,.cells 1 [.sl false (a3.map (SL AV.i))]),(2,.cells 1 (a2.map AV.i)),(1,.cells 1 [.ms 2 0 a2.length]),(0,.cells 1 [.i a1])],10⟩ (fun y t => y = .tup [] ∧ t = ⟨[(14,.cells 1 (r.2.2.1.map AV.i)),(13,.cells 1 (r.2.1.map AV.i)),(9,.cells 1 [.fn 164 [.mp 0 0 0,.mp 1 0 0,.mp 3 0 0,.mp 4 0 0,.mp 6 0 0,.mp 7 0 0,.mp 9 0 0]]),(8,.cells 1 (r.2.2.2.map AV.i)),(7,.cells 1 [.ms 8 0 r.2.2.2.length]),(6,.cells 1 [.i a5]),(4,.cells 1 [.ms 14 0 r.2.2.1.length]),(3,.cells 1 [.sl false (a3.map (SL AV.i))]),(1,.cells 1 [.ms 13 0 r.2.1.length]),(0,.cells 1 [.i r.1])],15⟩) := by
 intro fu
 induction fu with
 | zero => intro a0 a1 a2 a3 a4 a5 a6 r h; rw [f164r] at h; cases h
 | succ fu ih =>
 intro a0 a1 a2 a3 a4 a5 a6 r h
 refine run_f 67 [] (c164 0) (zipE [0,1,2,3,4,5,6,7] [.i a0,.mp 0 0 0,.mp 1 0 0,.mp 3 0 0,.mp 4 0 0,.mp 6 0 0,.mp 7 0 0,.mp 9 0 0]) (by kernel_rfl) (by kernel_rfl) (by kernel_rfl) rfl ?_
 rw [f164r] at h
 refine run_s (c164 1) (c164 6) (by kernel_rfl) ?_
 obtain ⟨j1_17,hj1,h⟩ := bindE h
 refine run_gq (c164 3) (fun (j1_17 : Bool) => (zipE [0,1,2,3,4,5,6,7,17] [.i a0,.mp 0 0 0,.mp 1 0 0,.mp 3 0 0,.mp 4 0 0,.mp 6 0 0,.mp 7 0 0,.mp 9 0 0,.bool j1_17])) (fun (j1_17 : Bool) => ⟨[(9,.cells 1 [.fn 164 [.mp 0 0 0,.mp 1 0 0,.mp 3 0 0,.mp 4 0 0,.mp 6 0 0,.mp 7 0 0,.mp 9 0 0]]),(8,.cells 1 (a6.map AV.i)),(7,.cells 1 [.ms 8 0 a6.length]),(6,.cells 1 [.i a5]),(5,.cells 1 (a4.map AV.i)),(4,.cells 1 [.ms 5 0 a4.length]),(3,.cells 1 [.sl false (a3.map (SL AV.i))]),(2,.cells 1 (a2.map AV.i)),(1,.cells 1 [.ms 2 0 a2.length]),(0,.cells 1 [.i a1])],10⟩) (fun j => j1_17 = j) (fun kj1 => ?_) ?_
 ·rcases iteE hj1 with ⟨hc1,hj1⟩ | ⟨hc1,hj1⟩
  ·replace hj1 := Option.some.inj hj1; subst hj1
   exact run1z (c164 3) [{},{},{},{},{},{},{ k := 1,b := true }] [0,1,2,3,4,5,6,7,17] [.i a0,.mp 0 0 0,.mp 1 0 0,.mp 3 0 0,.mp 4 0 0,.mp 6 0 0,.mp 7 0 0,.mp 9 0 0,.bool (decide (a1 ≤ a0))] ⟨[(9,.cells 1 [.fn 164 [.mp 0 0 0,.mp 1 0 0,.mp 3 0 0,.mp 4 0 0,.mp 6 0 0,.mp 7 0 0,.mp 9 0 0]]),(8,.cells 1 (a6.map AV.i)),(7,.cells 1 [.ms 8 0 a6.length]),(6,.cells 1 [.i a5]),(5,.cells 1 (a4.map AV.i)),(4,.cells 1 [.ms 5 0 a4.length]),(3,.cells 1 [.sl false (a3.map (SL AV.i))]),(2,.cells 1 (a2.map AV.i)),(1,.cells 1 [.ms 2 0 a2.length]),(0,.cells 1 [.i a1])],10⟩ _ (by kernel_rfl) (cjC (hc1) (cjC (hc1) (cjC (hc1) (cj1 (hc1))))) (kj1 (decide (a1 ≤ a0)) rfl)
  ·replace hj1 := Option.some.inj hj1; subst hj1
   exact run1z (c164 3) [{},{},{},{ g := false },{ g := false },{ g := false },{ k := 1,b := false }] [0,1,2,3,4,5,6,7,17] [.i a0,.mp 0 0 0,.mp 1 0 0,.mp 3 0 0,.mp 4 0 0,.mp 6 0 0,.mp 7 0 0,.mp 9 0 0,.bool false] ⟨[(9,.cells 1 [.fn 164 [.mp 0 0 0,.mp 1 0 0,.mp 3 0 0,.mp 4 0 0,.mp 6 0 0,.mp 7 0 0,.mp 9 0 0]]),(8,.cells 1 (a6.map AV.i)),(7,.cells 1 [.ms 8 0 a6.length]),(6,.cells 1 [.i a5]),(5,.cells 1 (a4.map AV.i)),(4,.cells 1 [.ms 5 0 a4.length]),(3,.cells 1 [.sl false (a3.map (SL AV.i))]),(2,.cells 1 (a2.map AV.i)),(1,.cells 1 [.ms 2 0 a2.length]),(0,.cells 1 [.i a1])],10⟩ _ (by kernel_rfl) (cjC (hc1) (cjC (hc1) (cjC (hc1) (cj1 (hc1))))) (kj1 false rfl)
 ·rintro _ rfl
  rcases iteE h with ⟨hc2,h⟩ | ⟨hc2,h⟩
  ·refine run_cT 17 (c164 4) (c164 5) j1_17 hc2 (by kernel_rfl) (by kernel_rfl) ?_
   refine run_i 10 [(13,2),(14,5)] [] [] (xs := []) (S2 := ⟨[(14,.cells 1 (a4.map AV.i)),(13,.cells 1 (a2.map AV.i)),(9,.cells 1 [.fn 164 [.mp 0 0 0,.mp 1 0 0,.mp 3 0 0,.mp 4 0 0,.mp 6 0 0,.mp 7 0 0,.mp 9 0 0]]),(8,.cells 1 (a6.map AV.i)),(7,.cells 1 [.ms 8 0 a6.length]),(6,.cells 1 [.i a5]),(4,.cells 1 [.ms 14 0 a4.length]),(3,.cells 1 [.sl false (a3.map (SL AV.i))]),(1,.cells 1 [.ms 13 0 a2.length]),(0,.cells 1 [.i a1])],15⟩) ?_ (by intro i e; cases e <;> exact Nat.le_of_ble_eq_true rfl) (by kernel_rfl) (by kernel_rfl) (by kernel_rfl) .z (.k (x' := .cells 1 (a4.map AV.i)) (by kernel_rfl) (.cells (.r (cleanMap _ _ cl_i))) (.k (x' := .cells 1 (a2.map AV.i)) (by kernel_rfl) (.cells (.r (cleanMap _ _ cl_i))) (.k (x' := .cells 1 [.fn 164 [.mp 0 0 0,.mp 1 0 0,.mp 3 0 0,.mp 4 0 0,.mp 6 0 0,.mp 7 0 0,.mp 9 0 0]]) (by kernel_rfl) (.cells (.k (.f (.k (.mp rfl rfl) (.k (.mp rfl rfl) (.k (.mp rfl rfl) (.k (.mp rfl rfl) (.k (.mp rfl rfl) (.k (.mp rfl rfl) (.k (.mp rfl rfl) .z)))))))) .z)) (.k (x' := .cells 1 (a6.map AV.i)) (by kernel_rfl) (.cells (.r (cleanMap _ _ cl_i))) (.k (x' := .cells 1 [.ms 8 0 a6.length]) (by kernel_rfl) (.cells (.k (.ms rfl rfl) .z)) (.k (x' := .cells 1 [.i a5]) (by kernel_rfl) (.cells (.k (.c rfl) .z)) (.k (x' := .cells 1 [.ms 5 0 a4.length]) (by kernel_rfl) (.cells (.k (.ms rfl rfl) .z)) (.k (x' := .cells 1 [.sl false (a3.map (SL AV.i))]) (by kernel_rfl) (.cells (.k (.c (cleanMap _ _ (cl_SL cl_i))) .z)) (.k (x' := .cells 1 [.ms 2 0 a2.length]) (by kernel_rfl) (.cells (.k (.ms rfl rfl) .z)) (.k (x' := .cells 1 [.i a1]) (by kernel_rfl) (.cells (.k (.c rfl) .z)) .z))))))))))
   refine run_t (by kernel_rfl) ?_
   refine thenR ?_
   replace h := Option.some.inj h; subst h
   exact fin_p [14,13,9,8,7,6,4,3,1,0] ⟨[(14,.cells 1 (a4.map AV.i)),(13,.cells 1 (a2.map AV.i)),(9,.cells 1 [.fn 164 [.mp 0 0 0,.mp 1 0 0,.mp 3 0 0,.mp 4 0 0,.mp 6 0 0,.mp 7 0 0,.mp 9 0 0]]),(8,.cells 1 (a6.map AV.i)),(7,.cells 1 [.ms 8 0 a6.length]),(6,.cells 1 [.i a5]),(4,.cells 1 [.ms 14 0 a4.length]),(3,.cells 1 [.sl false (a3.map (SL AV.i))]),(1,.cells 1 [.ms 13 0 a2.length]),(0,.cells 1 [.i a1])],15⟩ (by kernel_rfl) (by kernel_rfl) rfl ⟨rfl,rfl⟩
  ·refine run_cF 17 (c164 4) (c164 5) j1_17 hc2 (by kernel_rfl) (by kernel_rfl) ?_
   refine run_k (by kernel_rfl) ?_
   refine thenN ?_
   refine run1z (c164 8) [] [0,1,2,3,4,5,6,7,9] [.i a0,.mp 0 0 0,.mp 1 0 0,.mp 3 0 0,.mp 4 0 0,.mp 6 0 0,.mp 7 0 0,.mp 9 0 0,.i (a2.length : Int)] ⟨[(9,.cells 1 [.fn 164 [.mp 0 0 0,.mp 1 0 0,.mp 3 0 0,.mp 4 0 0,.mp 6 0 0,.mp 7 0 0,.mp 9 0 0]]),(8,.cells 1 (a6.map AV.i)),(7,.cells 1 [.ms 8 0 a6.length]),(6,.cells 1 [.i a5]),(5,.cells 1 (a4.map AV.i)),(4,.cells 1 [.ms 5 0 a4.length]),(3,.cells 1 [.sl false (a3.map (SL AV.i))]),(2,.cells 1 (a2.map AV.i)),(1,.cells 1 [.ms 2 0 a2.length]),(0,.cells 1 [.i a1])],10⟩ _ (by kernel_rfl) cj0 ?_
   refine run_s (c164 9) (c164 16) (by kernel_rfl) ?_
   refine run1z (c164 11) [{},{},{ k := 1,n := a3.length }] [0,1,2,3,4,5,6,7,9,23] [.i a0,.mp 0 0 0,.mp 1 0 0,.mp 3 0 0,.mp 4 0 0,.mp 6 0 0,.mp 7 0 0,.mp 9 0 0,.i (a2.length : Int),.bool (decide ((a2.length : Int) = (a3.length : Int)))] ⟨[(9,.cells 1 [.fn 164 [.mp 0 0 0,.mp 1 0 0,.mp 3 0 0,.mp 4 0 0,.mp 6 0 0,.mp 7 0 0,.mp 9 0 0]]),(8,.cells 1 (a6.map AV.i)),(7,.cells 1 [.ms 8 0 a6.length]),(6,.cells 1 [.i a5]),(5,.cells 1 (a4.map AV.i)),(4,.cells 1 [.ms 5 0 a4.length]),(3,.cells 1 [.sl false (a3.map (SL AV.i))]),(2,.cells 1 (a2.map AV.i)),(1,.cells 1 [.ms 2 0 a2.length]),(0,.cells 1 [.i a1])],10⟩ _ (by kernel_rfl) (cj1 (mapLen a3 (SL AV.i))) ?_
   rcases iteE h with ⟨hc3,h⟩ | ⟨hc3,h⟩
   ·refine run_cT 23 (c164 12) (c164 15) (decide ((a2.length : Int) = (a3.length : Int))) hc3 (by kernel_rfl) (by kernel_rfl) ?_
    obtain ⟨r4,hr4,h⟩ := bindE h
    refine run1z (c164 14) [{},{ c := some (.ms 12 0 r4.length,⟨[(12,.cells 1 (r4.map AV.i)),(9,.cells 1 [.fn 164 [.mp 0 0 0,.mp 1 0 0,.mp 3 0 0,.mp 4 0 0,.mp 6 0 0,.mp 7 0 0,.mp 9 0 0]]),(8,.cells 1 (a6.map AV.i)),(7,.cells 1 [.ms 8 0 a6.length]),(6,.cells 1 [.i a5]),(5,.cells 1 (a4.map AV.i)),(4,.cells 1 [.ms 5 0 a4.length]),(3,.cells 1 [.sl false (a3.map (SL AV.i))]),(2,.cells 1 (a2.map AV.i)),(1,.cells 1 [.ms 2 0 a2.length]),(0,.cells 1 [.i a1])],13⟩) }] [] [] ⟨[(12,.cells 1 (r4.map AV.i)),(9,.cells 1 [.fn 164 [.mp 0 0 0,.mp 1 0 0,.mp 3 0 0,.mp 4 0 0,.mp 6 0 0,.mp 7 0 0,.mp 9 0 0]]),(8,.cells 1 (a6.map AV.i)),(7,.cells 1 [.ms 8 0 a6.length]),(6,.cells 1 [.i a5]),(4,.cells 1 [.ms 12 0 r4.length]),(3,.cells 1 [.sl false (a3.map (SL AV.i))]),(2,.cells 1 (a2.map AV.i)),(1,.cells 1 [.ms 2 0 a2.length]),(0,.cells 1 [.i a0])],13⟩ _ (by kernel_rfl) (cj1 (callF (f132_ok a2 _ hr4) [(0,2)] [(12,3),(2,0)] [9,8,7,6,5,4,3,1,0] [.ms 2 0 a2.length] ⟨[(9,.cells 1 [.fn 164 [.mp 0 0 0,.mp 1 0 0,.mp 3 0 0,.mp 4 0 0,.mp 6 0 0,.mp 7 0 0,.mp 9 0 0]]),(8,.cells 1 (a6.map AV.i)),(7,.cells 1 [.ms 8 0 a6.length]),(6,.cells 1 [.i a5]),(5,.cells 1 (a4.map AV.i)),(4,.cells 1 [.ms 5 0 a4.length]),(3,.cells 1 [.sl false (a3.map (SL AV.i))]),(2,.cells 1 (a2.map AV.i)),(1,.cells 1 [.ms 2 0 a2.length]),(0,.cells 1 [.i a1])],10⟩ (.ms 12 0 r4.length) ⟨[(12,.cells 1 (r4.map AV.i)),(9,.cells 1 [.fn 164 [.mp 0 0 0,.mp 1 0 0,.mp 3 0 0,.mp 4 0 0,.mp 6 0 0,.mp 7 0 0,.mp 9 0 0]]),(8,.cells 1 (a6.map AV.i)),(7,.cells 1 [.ms 8 0 a6.length]),(6,.cells 1 [.i a5]),(5,.cells 1 (a4.map AV.i)),(4,.cells 1 [.ms 5 0 a4.length]),(3,.cells 1 [.sl false (a3.map (SL AV.i))]),(2,.cells 1 (a2.map AV.i)),(1,.cells 1 [.ms 2 0 a2.length]),(0,.cells 1 [.i a1])],13⟩ (by kernel_rfl) (.k (.ms rfl rfl) .z) (.ms rfl rfl) (.k (x' := .cells 1 (a2.map AV.i)) (by kernel_rfl) (.cells (.r (cleanMap _ _ cl_i))) .z) (.d (x' := .cells 1 (r4.map AV.i)) rfl (by kernel_rfl) (.cells (.r (cleanMap _ _ cl_i))) (.f rfl (by kernel_rfl) (.f rfl (by kernel_rfl) (.f rfl (by kernel_rfl) (.f rfl (by kernel_rfl) (.f rfl (by kernel_rfl) (.f rfl (by kernel_rfl) (.f rfl (by kernel_rfl) (.d (x' := .cells 1 (a2.map AV.i)) rfl (by kernel_rfl) (.cells (.r (cleanMap _ _ cl_i))) (.f rfl (by kernel_rfl) (.f rfl (by kernel_rfl) .z))))))))))))) ?_
    refine run_i 13 [(13,2),(14,12)] [] [] (xs := []) (S2 := ⟨[(14,.cells 1 (r4.map AV.i)),(13,.cells 1 (a2.map AV.i)),(9,.cells 1 [.fn 164 [.mp 0 0 0,.mp 1 0 0,.mp 3 0 0,.mp 4 0 0,.mp 6 0 0,.mp 7 0 0,.mp 9 0 0]]),(8,.cells 1 (a6.map AV.i)),(7,.cells 1 [.ms 8 0 a6.length]),(6,.cells 1 [.i a5]),(4,.cells 1 [.ms 14 0 r4.length]),(3,.cells 1 [.sl false (a3.map (SL AV.i))]),(1,.cells 1 [.ms 13 0 a2.length]),(0,.cells 1 [.i a0])],15⟩) ?_ (by intro i e; cases e <;> exact Nat.le_of_ble_eq_true rfl) (by kernel_rfl) (by kernel_rfl) (by kernel_rfl) .z (.k (x' := .cells 1 (r4.map AV.i)) (by kernel_rfl) (.cells (.r (cleanMap _ _ cl_i))) (.k (x' := .cells 1 (a2.map AV.i)) (by kernel_rfl) (.cells (.r (cleanMap _ _ cl_i))) (.k (x' := .cells 1 [.fn 164 [.mp 0 0 0,.mp 1 0 0,.mp 3 0 0,.mp 4 0 0,.mp 6 0 0,.mp 7 0 0,.mp 9 0 0]]) (by kernel_rfl) (.cells (.k (.f (.k (.mp rfl rfl) (.k (.mp rfl rfl) (.k (.mp rfl rfl) (.k (.mp rfl rfl) (.k (.mp rfl rfl) (.k (.mp rfl rfl) (.k (.mp rfl rfl) .z)))))))) .z)) (.k (x' := .cells 1 (a6.map AV.i)) (by kernel_rfl) (.cells (.r (cleanMap _ _ cl_i))) (.k (x' := .cells 1 [.ms 8 0 a6.length]) (by kernel_rfl) (.cells (.k (.ms rfl rfl) .z)) (.k (x' := .cells 1 [.i a5]) (by kernel_rfl) (.cells (.k (.c rfl) .z)) (.k (x' := .cells 1 [.ms 12 0 r4.length]) (by kernel_rfl) (.cells (.k (.ms rfl rfl) .z)) (.k (x' := .cells 1 [.sl false (a3.map (SL AV.i))]) (by kernel_rfl) (.cells (.k (.c (cleanMap _ _ (cl_SL cl_i))) .z)) (.k (x' := .cells 1 [.ms 2 0 a2.length]) (by kernel_rfl) (.cells (.k (.ms rfl rfl) .z)) (.k (x' := .cells 1 [.i a0]) (by kernel_rfl) (.cells (.k (.c rfl) .z)) .z))))))))))
    refine run_t (by kernel_rfl) ?_
    refine thenR ?_
    replace h := Option.some.inj h; subst h
    exact fin_p [14,13,9,8,7,6,4,3,1,0] ⟨[(14,.cells 1 (r4.map AV.i)),(13,.cells 1 (a2.map AV.i)),(9,.cells 1 [.fn 164 [.mp 0 0 0,.mp 1 0 0,.mp 3 0 0,.mp 4 0 0,.mp 6 0 0,.mp 7 0 0,.mp 9 0 0]]),(8,.cells 1 (a6.map AV.i)),(7,.cells 1 [.ms 8 0 a6.length]),(6,.cells 1 [.i a5]),(4,.cells 1 [.ms 14 0 r4.length]),(3,.cells 1 [.sl false (a3.map (SL AV.i))]),(1,.cells 1 [.ms 13 0 a2.length]),(0,.cells 1 [.i a0])],15⟩ (by kernel_rfl) (by kernel_rfl) rfl ⟨rfl,rfl⟩
   ·refine run_cF 23 (c164 12) (c164 15) (decide ((a2.length : Int) = (a3.length : Int))) hc3 (by kernel_rfl) (by kernel_rfl) ?_
    refine run_k (by kernel_rfl) ?_
    refine thenN ?_
    refine run1z (c164 18) [] [0,2,3,6,7,9,27,28] [.i a0,.mp 1 0 0,.mp 3 0 0,.mp 7 0 0,.mp 9 0 0,.i (a2.length : Int),.i a5,.i 0] ⟨[(9,.cells 1 [.fn 164 [.mp 0 0 0,.mp 1 0 0,.mp 3 0 0,.mp 4 0 0,.mp 6 0 0,.mp 7 0 0,.mp 9 0 0]]),(8,.cells 1 (a6.map AV.i)),(7,.cells 1 [.ms 8 0 a6.length]),(6,.cells 1 [.i a5]),(5,.cells 1 (a4.map AV.i)),(4,.cells 1 [.ms 5 0 a4.length]),(3,.cells 1 [.sl false (a3.map (SL AV.i))]),(2,.cells 1 (a2.map AV.i)),(1,.cells 1 [.ms 2 0 a2.length]),(0,.cells 1 [.i a1])],10⟩ _ (by kernel_rfl) cj0 ?_
    obtain ⟨ol2x,hll2x,h⟩ := bindE h
    refine awp_post (by intro i e; cases e <;> exact Nat.le_of_ble_eq_true rfl) ?_
    refine run_tq (fun ((l2x_h0,l2x_h1,l2x_h4,l2x_h7) : (Int × List Int × List Int × List Int)) => (zipE [] [])) (fun ((l2x_h0,l2x_h1,l2x_h4,l2x_h7) : (Int × List Int × List Int × List Int)) => ⟨[(11,.cells 1 (l2x_h4.map AV.i)),(10,.cells 1 (l2x_h1.map AV.i)),(9,.cells 1 [.fn 164 [.mp 0 0 0,.mp 1 0 0,.mp 3 0 0,.mp 4 0 0,.mp 6 0 0,.mp 7 0 0,.mp 9 0 0]]),(8,.cells 1 (l2x_h7.map AV.i)),(7,.cells 1 [.ms 8 0 l2x_h7.length]),(6,.cells 1 [.i a5]),(4,.cells 1 [.ms 11 0 l2x_h4.length]),(3,.cells 1 [.sl false (a3.map (SL AV.i))]),(1,.cells 1 [.ms 10 0 l2x_h1.length]),(0,.cells 1 [.i l2x_h0])],12⟩) (fun j => ol2x = j) (fun kl2 => ?_) ?_
    ·refine run_b 0 (c164 19) (by kernel_rfl) ?_
     refine run_l (c164 20) _ hll2x (fun ((l2_h1,l2_h7,l2_h0,l2_h4,l2_28) : (List Int × List Int × Int × List Int × Int)) => (zipE [0,2,3,6,7,9,27,28] [.i a0,.mp 1 0 0,.mp 3 0 0,.mp 7 0 0,.mp 9 0 0,.i (a2.length : Int),.i a5,.i l2_28])) (fun ((l2_h1,l2_h7,l2_h0,l2_h4,l2_28) : (List Int × List Int × Int × List Int × Int)) => ⟨[(11,.cells 1 (l2_h4.map AV.i)),(10,.cells 1 (l2_h1.map AV.i)),(9,.cells 1 [.fn 164 [.mp 0 0 0,.mp 1 0 0,.mp 3 0 0,.mp 4 0 0,.mp 6 0 0,.mp 7 0 0,.mp 9 0 0]]),(8,.cells 1 (l2_h7.map AV.i)),(7,.cells 1 [.ms 8 0 l2_h7.length]),(6,.cells 1 [.i a5]),(4,.cells 1 [.ms 11 0 l2_h4.length]),(3,.cells 1 [.sl false (a3.map (SL AV.i))]),(1,.cells 1 [.ms 10 0 l2_h1.length]),(0,.cells 1 [.i l2_h0])],12⟩) [(10,2),(11,5)] (by intro i e; cases e <;> exact Nat.le_of_ble_eq_true rfl) (by kernel_rfl) (mkInto (ks := [0,2,3,6,7,9,27,28]) (ys := [.i a0,.mp 1 0 0,.mp 3 0 0,.mp 7 0 0,.mp 9 0 0,.i (a2.length : Int),.i a5,.i 0]) (by kernel_rfl) (by kernel_rfl) (.k (.c rfl) (.k (.mp rfl rfl) (.k (.mp rfl rfl) (.k (.mp rfl rfl) (.k (.mp rfl rfl) (.k (.c rfl) (.k (.c rfl) (.k (.c rfl) .z)))))))) (.k (x' := .cells 1 (a4.map AV.i)) (by kernel_rfl) (.cells (.r (cleanMap _ _ cl_i))) (.k (x' := .cells 1 (a2.map AV.i)) (by kernel_rfl) (.cells (.r (cleanMap _ _ cl_i))) (.k (x' := .cells 1 [.fn 164 [.mp 0 0 0,.mp 1 0 0,.mp 3 0 0,.mp 4 0 0,.mp 6 0 0,.mp 7 0 0,.mp 9 0 0]]) (by kernel_rfl) (.cells (.k (.f (.k (.mp rfl rfl) (.k (.mp rfl rfl) (.k (.mp rfl rfl) (.k (.mp rfl rfl) (.k (.mp rfl rfl) (.k (.mp rfl rfl) (.k (.mp rfl rfl) .z)))))))) .z)) (.k (x' := .cells 1 (a6.map AV.i)) (by kernel_rfl) (.cells (.r (cleanMap _ _ cl_i))) (.k (x' := .cells 1 [.ms 8 0 a6.length]) (by kernel_rfl) (.cells (.k (.ms rfl rfl) .z)) (.k (x' := .cells 1 [.i a5]) (by kernel_rfl) (.cells (.k (.c rfl) .z)) (.k (x' := .cells 1 [.ms 5 0 a4.length]) (by kernel_rfl) (.cells (.k (.ms rfl rfl) .z)) (.k (x' := .cells 1 [.sl false (a3.map (SL AV.i))]) (by kernel_rfl) (.cells (.k (.c (cleanMap _ _ (cl_SL cl_i))) .z)) (.k (x' := .cells 1 [.ms 2 0 a2.length]) (by kernel_rfl) (.cells (.k (.ms rfl rfl) .z)) (.k (x' := .cells 1 [.i a1]) (by kernel_rfl) (.cells (.k (.c rfl) .z)) .z))))))))))) ?_
     rintro ⟨l2_h1,l2_h7,l2_h0,l2_h4,l2_28⟩ out hl2 rl2
     refine run1z (c164 22) [] [0,2,3,6,7,9,27,28,29] [.i a0,.mp 1 0 0,.mp 3 0 0,.mp 7 0 0,.mp 9 0 0,.i (a2.length : Int),.i a5,.i l2_28,.bool (decide (l2_28 < a5))] ⟨[(11,.cells 1 (l2_h4.map AV.i)),(10,.cells 1 (l2_h1.map AV.i)),(9,.cells 1 [.fn 164 [.mp 0 0 0,.mp 1 0 0,.mp 3 0 0,.mp 4 0 0,.mp 6 0 0,.mp 7 0 0,.mp 9 0 0]]),(8,.cells 1 (l2_h7.map AV.i)),(7,.cells 1 [.ms 8 0 l2_h7.length]),(6,.cells 1 [.i a5]),(4,.cells 1 [.ms 11 0 l2_h4.length]),(3,.cells 1 [.sl false (a3.map (SL AV.i))]),(1,.cells 1 [.ms 10 0 l2_h1.length]),(0,.cells 1 [.i l2_h0])],12⟩ _ (by kernel_rfl) cj0 ?_
     refine run_s (c164 23) (c164 26) (by kernel_rfl) ?_
     rcases iteE hl2 with ⟨hc5,hl2⟩ | ⟨hc5,hl2⟩
     ·refine run_cT 29 (c164 24) (c164 25) (decide (l2_28 < a5)) hc5 (by kernel_rfl) (by kernel_rfl) ?_
      refine run_k (by kernel_rfl) ?_
      refine thenN ?_
      obtain ⟨oj3,hj3,hl2⟩ := bindE hl2
      refine run_jq (c164 27) (c164 45) (fun ((j3_h1,j3_h7,j3_h0,j3_h4) : (List Int × List Int × Int × List Int)) => (zipE [0,2,3,6,7,9,27,28] [.i a0,.mp 1 0 0,.mp 3 0 0,.mp 7 0 0,.mp 9 0 0,.i (a2.length : Int),.i a5,.i l2_28])) (fun ((j3_h1,j3_h7,j3_h0,j3_h4) : (List Int × List Int × Int × List Int)) => ⟨[(19,.cells 1 (j3_h4.map AV.i)),(18,.cells 1 (j3_h1.map AV.i)),(9,.cells 1 [.fn 164 [.mp 0 0 0,.mp 1 0 0,.mp 3 0 0,.mp 4 0 0,.mp 6 0 0,.mp 7 0 0,.mp 9 0 0]]),(8,.cells 1 (j3_h7.map AV.i)),(7,.cells 1 [.ms 8 0 j3_h7.length]),(6,.cells 1 [.i a5]),(4,.cells 1 [.ms 19 0 j3_h4.length]),(3,.cells 1 [.sl false (a3.map (SL AV.i))]),(1,.cells 1 [.ms 18 0 j3_h1.length]),(0,.cells 1 [.i j3_h0])],20⟩) (fun j => oj3 = j) (by kernel_rfl) (fun kj3 => ?_) ?_
      ·refine run_b 1 (c164 28) (by kernel_rfl) ?_
       refine run1z (c164 30) [] [0,2,3,6,7,9,10,27,28] [.i a0,.mp 1 0 0,.mp 3 0 0,.mp 7 0 0,.mp 9 0 0,.i (a2.length : Int),.i l2_28,.i a5,.i l2_28] ⟨[(11,.cells 1 (l2_h4.map AV.i)),(10,.cells 1 (l2_h1.map AV.i)),(9,.cells 1 [.fn 164 [.mp 0 0 0,.mp 1 0 0,.mp 3 0 0,.mp 4 0 0,.mp 6 0 0,.mp 7 0 0,.mp 9 0 0]]),(8,.cells 1 (l2_h7.map AV.i)),(7,.cells 1 [.ms 8 0 l2_h7.length]),(6,.cells 1 [.i a5]),(4,.cells 1 [.ms 11 0 l2_h4.length]),(3,.cells 1 [.sl false (a3.map (SL AV.i))]),(1,.cells 1 [.ms 10 0 l2_h1.length]),(0,.cells 1 [.i l2_h0])],12⟩ _ (by kernel_rfl) cj0 ?_
       refine run_s (c164 31) (c164 36) (by kernel_rfl) ?_
       obtain ⟨y6,hy6,hj3⟩ := bindE hj3
       refine run1z (c164 33) [{},{},{ k := 1,n := l2_28.toNat },{ k := 1,x := AV.i y6 }] [0,2,3,6,7,9,10,27,28,35] [.i a0,.mp 1 0 0,.mp 3 0 0,.mp 7 0 0,.mp 9 0 0,.i (a2.length : Int),.i l2_28,.i a5,.i l2_28,.bool (decide (y6 = 0))] ⟨[(11,.cells 1 (l2_h4.map AV.i)),(10,.cells 1 (l2_h1.map AV.i)),(9,.cells 1 [.fn 164 [.mp 0 0 0,.mp 1 0 0,.mp 3 0 0,.mp 4 0 0,.mp 6 0 0,.mp 7 0 0,.mp 9 0 0]]),(8,.cells 1 (l2_h7.map AV.i)),(7,.cells 1 [.ms 8 0 l2_h7.length]),(6,.cells 1 [.i a5]),(4,.cells 1 [.ms 11 0 l2_h4.length]),(3,.cells 1 [.sl false (a3.map (SL AV.i))]),(1,.cells 1 [.ms 10 0 l2_h1.length]),(0,.cells 1 [.i l2_h0])],12⟩ _ (by kernel_rfl) (cjC ((ixE hy6).1) (cjC (ixLt hy6) (cjC (Nat.zero_add l2_28.toNat) (cj1 (mapGet AV.i (ixE hy6).2))))) ?_
       rcases iteE hj3 with ⟨hc7,hj3⟩ | ⟨hc7,hj3⟩
       ·refine run_cT 35 (c164 34) (c164 35) (decide (y6 = 0)) hc7 (by kernel_rfl) (by kernel_rfl) ?_
        replace hj3 := Option.some.inj hj3; subst hj3
        refine run_i 18 [(18,10),(19,11)] [0,2,3,6,7,9,27,28] [.i a0,.mp 1 0 0,.mp 3 0 0,.mp 7 0 0,.mp 9 0 0,.i (a2.length : Int),.i a5,.i l2_28] (xs := [.i a0,.mp 1 0 0,.mp 3 0 0,.mp 7 0 0,.mp 9 0 0,.i (a2.length : Int),.i a5,.i l2_28]) (S2 := ⟨[(19,.cells 1 (l2_h4.map AV.i)),(18,.cells 1 (l2_h1.map AV.i)),(9,.cells 1 [.fn 164 [.mp 0 0 0,.mp 1 0 0,.mp 3 0 0,.mp 4 0 0,.mp 6 0 0,.mp 7 0 0,.mp 9 0 0]]),(8,.cells 1 (l2_h7.map AV.i)),(7,.cells 1 [.ms 8 0 l2_h7.length]),(6,.cells 1 [.i a5]),(4,.cells 1 [.ms 19 0 l2_h4.length]),(3,.cells 1 [.sl false (a3.map (SL AV.i))]),(1,.cells 1 [.ms 18 0 l2_h1.length]),(0,.cells 1 [.i l2_h0])],20⟩) ?_ (by intro i e; cases e <;> exact Nat.le_of_ble_eq_true rfl) (by kernel_rfl) (by kernel_rfl) (by kernel_rfl) (.k (.c rfl) (.k (.mp rfl rfl) (.k (.mp rfl rfl) (.k (.mp rfl rfl) (.k (.mp rfl rfl) (.k (.c rfl) (.k (.c rfl) (.k (.c rfl) .z)))))))) (.k (x' := .cells 1 (l2_h4.map AV.i)) (by kernel_rfl) (.cells (.r (cleanMap _ _ cl_i))) (.k (x' := .cells 1 (l2_h1.map AV.i)) (by kernel_rfl) (.cells (.r (cleanMap _ _ cl_i))) (.k (x' := .cells 1 [.fn 164 [.mp 0 0 0,.mp 1 0 0,.mp 3 0 0,.mp 4 0 0,.mp 6 0 0,.mp 7 0 0,.mp 9 0 0]]) (by kernel_rfl) (.cells (.k (.f (.k (.mp rfl rfl) (.k (.mp rfl rfl) (.k (.mp rfl rfl) (.k (.mp rfl rfl) (.k (.mp rfl rfl) (.k (.mp rfl rfl) (.k (.mp rfl rfl) .z)))))))) .z)) (.k (x' := .cells 1 (l2_h7.map AV.i)) (by kernel_rfl) (.cells (.r (cleanMap _ _ cl_i))) (.k (x' := .cells 1 [.ms 8 0 l2_h7.length]) (by kernel_rfl) (.cells (.k (.ms rfl rfl) .z)) (.k (x' := .cells 1 [.i a5]) (by kernel_rfl) (.cells (.k (.c rfl) .z)) (.k (x' := .cells 1 [.ms 11 0 l2_h4.length]) (by kernel_rfl) (.cells (.k (.ms rfl rfl) .z)) (.k (x' := .cells 1 [.sl false (a3.map (SL AV.i))]) (by kernel_rfl) (.cells (.k (.c (cleanMap _ _ (cl_SL cl_i))) .z)) (.k (x' := .cells 1 [.ms 10 0 l2_h1.length]) (by kernel_rfl) (.cells (.k (.ms rfl rfl) .z)) (.k (x' := .cells 1 [.i l2_h0]) (by kernel_rfl) (.cells (.k (.c rfl) .z)) .z))))))))))
        refine run_e 1 (by kernel_rfl) ?_
        refine thenE ?_
        refine inbE ?_
        refine thenN ?_
        exact kj3 (l2_h1,l2_h7,l2_h0,l2_h4) rfl
       ·refine run_cF 35 (c164 34) (c164 35) (decide (y6 = 0)) hc7 (by kernel_rfl) (by kernel_rfl) ?_
        refine run_k (by kernel_rfl) ?_
        refine thenN ?_
        refine run1z (c164 38) [{},{},{ k := 1,n := l2_28.toNat },{ k := 1,x := AV.i y6 },{},{ k := 1,n := l2_28.toNat },{ k := 1,x := AV.i y6,l := (l2_h7.set l2_28.toNat (wr (y6 - 1))).map AV.i }] [0,2,3,6,7,9,10,27,28] [.i a0,.mp 1 0 0,.mp 3 0 0,.mp 7 0 0,.mp 9 0 0,.i (a2.length : Int),.i l2_28,.i a5,.i l2_28] ⟨[(11,.cells 1 (l2_h4.map AV.i)),(10,.cells 1 (l2_h1.map AV.i)),(9,.cells 1 [.fn 164 [.mp 0 0 0,.mp 1 0 0,.mp 3 0 0,.mp 4 0 0,.mp 6 0 0,.mp 7 0 0,.mp 9 0 0]]),(8,.cells 1 ((l2_h7.set l2_28.toNat (wr (y6 - 1))).map AV.i)),(7,.cells 1 [.ms 8 0 l2_h7.length]),(6,.cells 1 [.i a5]),(4,.cells 1 [.ms 11 0 l2_h4.length]),(3,.cells 1 [.sl false (a3.map (SL AV.i))]),(1,.cells 1 [.ms 10 0 l2_h1.length]),(0,.cells 1 [.i l2_h0])],12⟩ _ (by kernel_rfl) (cjC ((ixE hy6).1) (cjC (ixLt hy6) (cjC (Nat.zero_add l2_28.toNat) (cjC (mapGet AV.i (ixE hy6).2) (cjC ((ixE hy6).1) (cjC (ixLt hy6) (cjC (Nat.zero_add l2_28.toNat) (cjC (mapGet AV.i (ixE hy6).2) (cjC ((by decide : (1 : Nat) ≤ 1)) (cj1 (mapSet l2_h7 AV.i l2_28.toNat (wr (y6 - 1))))))))))))) ?_
        refine run_i 12 [] [0,2,3,6,7,9,10,27,28] [.i a0,.mp 1 0 0,.mp 3 0 0,.mp 7 0 0,.mp 9 0 0,.i (a2.length : Int),.i l2_28,.i a5,.i l2_28] (xs := [.i a0,.mp 1 0 0,.mp 3 0 0,.mp 7 0 0,.mp 9 0 0,.i (a2.length : Int),.i l2_28,.i a5,.i l2_28]) (S2 := ⟨[(11,.cells 1 (l2_h4.map AV.i)),(10,.cells 1 (l2_h1.map AV.i)),(9,.cells 1 [.fn 164 [.mp 0 0 0,.mp 1 0 0,.mp 3 0 0,.mp 4 0 0,.mp 6 0 0,.mp 7 0 0,.mp 9 0 0]]),(8,.cells 1 ((l2_h7.set l2_28.toNat (wr (y6 - 1))).map AV.i)),(7,.cells 1 [.ms 8 0 (l2_h7.set l2_28.toNat (wr (y6 - 1))).length]),(6,.cells 1 [.i a5]),(4,.cells 1 [.ms 11 0 l2_h4.length]),(3,.cells 1 [.sl false (a3.map (SL AV.i))]),(1,.cells 1 [.ms 10 0 l2_h1.length]),(0,.cells 1 [.i l2_h0])],12⟩) ?_ (by intro i e; cases e <;> exact Nat.le_of_ble_eq_true rfl) (by kernel_rfl) (by kernel_rfl) (by kernel_rfl) (.k (.c rfl) (.k (.mp rfl rfl) (.k (.mp rfl rfl) (.k (.mp rfl rfl) (.k (.mp rfl rfl) (.k (.c rfl) (.k (.c rfl) (.k (.c rfl) (.k (.c rfl) .z))))))))) (.k (x' := .cells 1 (l2_h4.map AV.i)) (by kernel_rfl) (.cells (.r (cleanMap _ _ cl_i))) (.k (x' := .cells 1 (l2_h1.map AV.i)) (by kernel_rfl) (.cells (.r (cleanMap _ _ cl_i))) (.k (x' := .cells 1 [.fn 164 [.mp 0 0 0,.mp 1 0 0,.mp 3 0 0,.mp 4 0 0,.mp 6 0 0,.mp 7 0 0,.mp 9 0 0]]) (by kernel_rfl) (.cells (.k (.f (.k (.mp rfl rfl) (.k (.mp rfl rfl) (.k (.mp rfl rfl) (.k (.mp rfl rfl) (.k (.mp rfl rfl) (.k (.mp rfl rfl) (.k (.mp rfl rfl) .z)))))))) .z)) (.k (x' := .cells 1 ((l2_h7.set l2_28.toNat (wr (y6 - 1))).map AV.i)) (by kernel_rfl) (.cells (.r (cleanMap _ _ cl_i))) (.k (x' := .cells 1 [.ms 8 0 l2_h7.length]) (by kernel_rfl) (.cells (.k (.e rfl rfl (by simp)) .z)) (.k (x' := .cells 1 [.i a5]) (by kernel_rfl) (.cells (.k (.c rfl) .z)) (.k (x' := .cells 1 [.ms 11 0 l2_h4.length]) (by kernel_rfl) (.cells (.k (.ms rfl rfl) .z)) (.k (x' := .cells 1 [.sl false (a3.map (SL AV.i))]) (by kernel_rfl) (.cells (.k (.c (cleanMap _ _ (cl_SL cl_i))) .z)) (.k (x' := .cells 1 [.ms 10 0 l2_h1.length]) (by kernel_rfl) (.cells (.k (.ms rfl rfl) .z)) (.k (x' := .cells 1 [.i l2_h0]) (by kernel_rfl) (.cells (.k (.c rfl) .z)) .z))))))))))
        obtain ⟨hn8,hj3⟩ := needE hj3
        refine run1z (c164 40) [{},{},{},{ k := 1,n := (l2_h1 ++ [l2_28]).length,l := (l2_h1 ++ [l2_28]).map AV.i }] [0,2,3,6,7,9,10,27,28] [.i a0,.mp 1 0 0,.mp 3 0 0,.mp 7 0 0,.mp 9 0 0,.i (a2.length : Int),.i l2_28,.i a5,.i l2_28] ⟨[(12,.cells 1 ((l2_h1 ++ [l2_28]).map AV.i)),(11,.cells 1 (l2_h4.map AV.i)),(9,.cells 1 [.fn 164 [.mp 0 0 0,.mp 1 0 0,.mp 3 0 0,.mp 4 0 0,.mp 6 0 0,.mp 7 0 0,.mp 9 0 0]]),(8,.cells 1 ((l2_h7.set l2_28.toNat (wr (y6 - 1))).map AV.i)),(7,.cells 1 [.ms 8 0 (l2_h7.set l2_28.toNat (wr (y6 - 1))).length]),(6,.cells 1 [.i a5]),(4,.cells 1 [.ms 11 0 l2_h4.length]),(3,.cells 1 [.sl false (a3.map (SL AV.i))]),(1,.cells 1 [.ms 12 0 (l2_h1 ++ [l2_28]).length]),(0,.cells 1 [.i l2_h0])],13⟩ _ (by kernel_rfl) (cjC (@List.cons_ne_nil AV (.i l2_28) []) (cjC (mLe l2_h1 AV.i) (cjC (hn8) (cjC (lenA l2_h1 ([l2_28] : List Int)) (cjC (appA l2_h1 ([l2_28] : List Int) AV.i) (cj1 (fitsOne (P := Tryz.prog) (t := 3) (x := .i l2_28) (r := []) (by kernel_rfl)))))))) ?_
        obtain ⟨y9,hy9,hj3⟩ := bindE hj3
        obtain ⟨y10,hy10,hj3⟩ := bindE hj3
        obtain ⟨r11,hr11,hj3⟩ := bindE hj3
        refine yun1z (c164 42) [[],[],[],[],[2,3],[2,3,4],[],[2,3,4,5,6],[2,3,4,5,6,7],[1,2,3,4,5,6,7,8],[0,1,2,3,4,5,6,7,8,9]] [.light 0 false,.light 1 false,.light 2 false,.light 3 false,.light 4 false,.light 5 false,.light 6 false,.light 7 false,.light 8 false,.light 9 false,.heavy 10 []] [{},{},{},{},{ k := 1,x := (SL AV.i) y9 },{},{},{ k := 1,x := AV.i y10 },{},{},{ c := some (.tup [],⟨[(17,.cells 1 (r11.2.2.1.map AV.i)),(16,.cells 1 (r11.2.1.map AV.i)),(9,.cells 1 [.fn 164 [.mp 0 0 0,.mp 1 0 0,.mp 3 0 0,.mp 4 0 0,.mp 6 0 0,.mp 7 0 0,.mp 9 0 0]]),(8,.cells 1 (r11.2.2.2.map AV.i)),(7,.cells 1 [.ms 8 0 r11.2.2.2.length]),(6,.cells 1 [.i a5]),(4,.cells 1 [.ms 17 0 r11.2.2.1.length]),(3,.cells 1 [.sl false (a3.map (SL AV.i))]),(1,.cells 1 [.ms 16 0 r11.2.1.length]),(0,.cells 1 [.i r11.1])],18⟩) }] [0,2,3,6,7,9,10,27,28] [.i a0,.mp 1 0 0,.mp 3 0 0,.mp 7 0 0,.mp 9 0 0,.i (a2.length : Int),.i l2_28,.i a5,.i l2_28] ⟨[(17,.cells 1 (r11.2.2.1.map AV.i)),(16,.cells 1 (r11.2.1.map AV.i)),(9,.cells 1 [.fn 164 [.mp 0 0 0,.mp 1 0 0,.mp 3 0 0,.mp 4 0 0,.mp 6 0 0,.mp 7 0 0,.mp 9 0 0]]),(8,.cells 1 (r11.2.2.2.map AV.i)),(7,.cells 1 [.ms 8 0 r11.2.2.2.length]),(6,.cells 1 [.i a5]),(4,.cells 1 [.ms 17 0 r11.2.2.1.length]),(3,.cells 1 [.sl false (a3.map (SL AV.i))]),(1,.cells 1 [.ms 16 0 r11.2.1.length]),(0,.cells 1 [.i r11.1])],18⟩ _ (by kernel_rfl) (cjC ((ixE hy9).1) (cjC (mapGet (SL AV.i) (ixE hy9).2) (cjC ((ixE hy10).1) (cjC (mapGet AV.i (ixE hy10).2) (cj1 (callF (ih (wr (a0 + y10)) l2_h0 (l2_h1 ++ [l2_28]) a3 l2_h4 a5 (l2_h7.set l2_28.toNat (wr (y6 - 1))) _ hr11) [(0,0),(1,1),(2,12),(3,3),(4,4),(5,11),(6,6),(7,7),(8,8),(9,9)] [(17,14),(16,13),(9,9),(8,8),(7,7),(6,6),(4,4),(3,3),(1,1),(0,0)] [] [.i (wr (a0 + y10)),.mp 0 0 0,.mp 1 0 0,.mp 3 0 0,.mp 4 0 0,.mp 6 0 0,.mp 7 0 0,.mp 9 0 0] ⟨[(12,.cells 1 ((l2_h1 ++ [l2_28]).map AV.i)),(11,.cells 1 (l2_h4.map AV.i)),(9,.cells 1 [.fn 164 [.mp 0 0 0,.mp 1 0 0,.mp 3 0 0,.mp 4 0 0,.mp 6 0 0,.mp 7 0 0,.mp 9 0 0]]),(8,.cells 1 ((l2_h7.set l2_28.toNat (wr (y6 - 1))).map AV.i)),(7,.cells 1 [.ms 8 0 (l2_h7.set l2_28.toNat (wr (y6 - 1))).length]),(6,.cells 1 [.i a5]),(4,.cells 1 [.ms 11 0 l2_h4.length]),(3,.cells 1 [.sl false (a3.map (SL AV.i))]),(1,.cells 1 [.ms 12 0 (l2_h1 ++ [l2_28]).length]),(0,.cells 1 [.i l2_h0])],13⟩ (.tup []) ⟨[(17,.cells 1 (r11.2.2.1.map AV.i)),(16,.cells 1 (r11.2.1.map AV.i)),(9,.cells 1 [.fn 164 [.mp 0 0 0,.mp 1 0 0,.mp 3 0 0,.mp 4 0 0,.mp 6 0 0,.mp 7 0 0,.mp 9 0 0]]),(8,.cells 1 (r11.2.2.2.map AV.i)),(7,.cells 1 [.ms 8 0 r11.2.2.2.length]),(6,.cells 1 [.i a5]),(4,.cells 1 [.ms 17 0 r11.2.2.1.length]),(3,.cells 1 [.sl false (a3.map (SL AV.i))]),(1,.cells 1 [.ms 16 0 r11.2.1.length]),(0,.cells 1 [.i r11.1])],18⟩ (by kernel_rfl) (.k (.c rfl) (.k (.mp rfl rfl) (.k (.mp rfl rfl) (.k (.mp rfl rfl) (.k (.mp rfl rfl) (.k (.mp rfl rfl) (.k (.mp rfl rfl) (.k (.mp rfl rfl) .z)))))))) (.t .z) (.k (x' := .cells 1 [.fn 164 [.mp 0 0 0,.mp 1 0 0,.mp 3 0 0,.mp 4 0 0,.mp 6 0 0,.mp 7 0 0,.mp 9 0 0]]) (by kernel_rfl) (.cells (.k (.f (.k (.mp rfl rfl) (.k (.mp rfl rfl) (.k (.mp rfl rfl) (.k (.mp rfl rfl) (.k (.mp rfl rfl) (.k (.mp rfl rfl) (.k (.mp rfl rfl) .z)))))))) .z)) (.k (x' := .cells 1 ((l2_h7.set l2_28.toNat (wr (y6 - 1))).map AV.i)) (by kernel_rfl) (.cells (.r (cleanMap _ _ cl_i))) (.k (x' := .cells 1 [.ms 8 0 (l2_h7.set l2_28.toNat (wr (y6 - 1))).length]) (by kernel_rfl) (.cells (.k (.ms rfl rfl) .z)) (.k (x' := .cells 1 [.i a5]) (by kernel_rfl) (.cells (.k (.c rfl) .z)) (.k (x' := .cells 1 (l2_h4.map AV.i)) (by kernel_rfl) (.cells (.r (cleanMap _ _ cl_i))) (.k (x' := .cells 1 [.ms 11 0 l2_h4.length]) (by kernel_rfl) (.cells (.k (.ms rfl rfl) .z)) (.k (x' := .cells 1 [.sl false (a3.map (SL AV.i))]) (by kernel_rfl) (.cells (.k (.c (cleanMap _ _ (cl_SL cl_i))) .z)) (.k (x' := .cells 1 ((l2_h1 ++ [l2_28]).map AV.i)) (by kernel_rfl) (.cells (.r (cleanMap _ _ cl_i))) (.k (x' := .cells 1 [.ms 12 0 (l2_h1 ++ [l2_28]).length]) (by kernel_rfl) (.cells (.k (.ms rfl rfl) .z)) (.k (x' := .cells 1 [.i l2_h0]) (by kernel_rfl) (.cells (.k (.c rfl) .z)) .z)))))))))) (.d (x' := .cells 1 (r11.2.2.1.map AV.i)) rfl (by kernel_rfl) (.cells (.r (cleanMap _ _ cl_i))) (.d (x' := .cells 1 (r11.2.1.map AV.i)) rfl (by kernel_rfl) (.cells (.r (cleanMap _ _ cl_i))) (.d (x' := .cells 1 [.fn 164 [.mp 0 0 0,.mp 1 0 0,.mp 3 0 0,.mp 4 0 0,.mp 6 0 0,.mp 7 0 0,.mp 9 0 0]]) rfl (by kernel_rfl) (.cells (.k (.f (.k (.mp rfl rfl) (.k (.mp rfl rfl) (.k (.mp rfl rfl) (.k (.mp rfl rfl) (.k (.mp rfl rfl) (.k (.mp rfl rfl) (.k (.mp rfl rfl) .z)))))))) .z)) (.d (x' := .cells 1 (r11.2.2.2.map AV.i)) rfl (by kernel_rfl) (.cells (.r (cleanMap _ _ cl_i))) (.d (x' := .cells 1 [.ms 8 0 r11.2.2.2.length]) rfl (by kernel_rfl) (.cells (.k (.ms rfl rfl) .z)) (.d (x' := .cells 1 [.i a5]) rfl (by kernel_rfl) (.cells (.k (.c rfl) .z)) (.d (x' := .cells 1 [.ms 14 0 r11.2.2.1.length]) rfl (by kernel_rfl) (.cells (.k (.ms rfl rfl) .z)) (.d (x' := .cells 1 [.sl false (a3.map (SL AV.i))]) rfl (by kernel_rfl) (.cells (.k (.c (cleanMap _ _ (cl_SL cl_i))) .z)) (.d (x' := .cells 1 [.ms 13 0 r11.2.1.length]) rfl (by kernel_rfl) (.cells (.k (.ms rfl rfl) .z)) (.d (x' := .cells 1 [.i r11.1]) rfl (by kernel_rfl) (.cells (.k (.c rfl) .z)) .z)))))))))))))))) ?_
        obtain ⟨hn12,hj3⟩ := needE hj3
        obtain ⟨hn13,hj3⟩ := needE hj3
        refine run1z (c164 44) [{},{},{ k := 1,n := 0,m := (a2.length : Int).toNat,q := 0,p := (a2.length : Int).toNat }] [0,2,3,6,7,9,10,27,28] [.i a0,.mp 1 0 0,.mp 3 0 0,.mp 7 0 0,.mp 9 0 0,.i (a2.length : Int),.i l2_28,.i a5,.i l2_28] ⟨[(17,.cells 1 (r11.2.2.1.map AV.i)),(16,.cells 1 (r11.2.1.map AV.i)),(9,.cells 1 [.fn 164 [.mp 0 0 0,.mp 1 0 0,.mp 3 0 0,.mp 4 0 0,.mp 6 0 0,.mp 7 0 0,.mp 9 0 0]]),(8,.cells 1 (r11.2.2.2.map AV.i)),(7,.cells 1 [.ms 8 0 r11.2.2.2.length]),(6,.cells 1 [.i a5]),(4,.cells 1 [.ms 17 0 r11.2.2.1.length]),(3,.cells 1 [.sl false (a3.map (SL AV.i))]),(1,.cells 1 [.ms 16 0 (a2.length : Int).toNat]),(0,.cells 1 [.i r11.1])],18⟩ _ (by kernel_rfl) (cjC (Nat.zero_le (a2.length : Int).toNat) (cjC (hn13) (cjC (Nat.zero_add 0) (cjC (Nat.sub_zero (a2.length : Int).toNat) (cjC (Eq.refl (0 : Nat)) (cjC (hn12) (cj1 (Eq.refl ((a2.length : Int).toNat))))))))) ?_
        refine run_i 18 [] [0,2,3,6,7,9,10,27,28] [.i a0,.mp 1 0 0,.mp 3 0 0,.mp 7 0 0,.mp 9 0 0,.i (a2.length : Int),.i l2_28,.i a5,.i l2_28] (xs := [.i a0,.mp 1 0 0,.mp 3 0 0,.mp 7 0 0,.mp 9 0 0,.i (a2.length : Int),.i l2_28,.i a5,.i l2_28]) (S2 := ⟨[(17,.cells 1 (r11.2.2.1.map AV.i)),(16,.cells 1 ((r11.2.1.take (a2.length : Int).toNat).map AV.i)),(9,.cells 1 [.fn 164 [.mp 0 0 0,.mp 1 0 0,.mp 3 0 0,.mp 4 0 0,.mp 6 0 0,.mp 7 0 0,.mp 9 0 0]]),(8,.cells 1 (r11.2.2.2.map AV.i)),(7,.cells 1 [.ms 8 0 r11.2.2.2.length]),(6,.cells 1 [.i a5]),(4,.cells 1 [.ms 17 0 r11.2.2.1.length]),(3,.cells 1 [.sl false (a3.map (SL AV.i))]),(1,.cells 1 [.ms 16 0 (r11.2.1.take (a2.length : Int).toNat).length]),(0,.cells 1 [.i r11.1])],18⟩) ?_ (by intro i e; cases e <;> exact Nat.le_of_ble_eq_true rfl) (by kernel_rfl) (by kernel_rfl) (by kernel_rfl) (.k (.c rfl) (.k (.mp rfl rfl) (.k (.mp rfl rfl) (.k (.mp rfl rfl) (.k (.mp rfl rfl) (.k (.c rfl) (.k (.c rfl) (.k (.c rfl) (.k (.c rfl) .z))))))))) (.k (x' := .cells 1 (r11.2.2.1.map AV.i)) (by kernel_rfl) (.cells (.r (cleanMap _ _ cl_i))) (.k (x' := .cells 1 (r11.2.1.map AV.i)) (by kernel_rfl) (cutT 1 r11.2.1 (a2.length : Int).toNat cl_i) (.k (x' := .cells 1 [.fn 164 [.mp 0 0 0,.mp 1 0 0,.mp 3 0 0,.mp 4 0 0,.mp 6 0 0,.mp 7 0 0,.mp 9 0 0]]) (by kernel_rfl) (.cells (.k (.f (.k (.mp rfl rfl) (.k (.mp rfl rfl) (.k (.mp rfl rfl) (.k (.mp rfl rfl) (.k (.mp rfl rfl) (.k (.mp rfl rfl) (.k (.mp rfl rfl) .z)))))))) .z)) (.k (x' := .cells 1 (r11.2.2.2.map AV.i)) (by kernel_rfl) (.cells (.r (cleanMap _ _ cl_i))) (.k (x' := .cells 1 [.ms 8 0 r11.2.2.2.length]) (by kernel_rfl) (.cells (.k (.ms rfl rfl) .z)) (.k (x' := .cells 1 [.i a5]) (by kernel_rfl) (.cells (.k (.c rfl) .z)) (.k (x' := .cells 1 [.ms 17 0 r11.2.2.1.length]) (by kernel_rfl) (.cells (.k (.ms rfl rfl) .z)) (.k (x' := .cells 1 [.sl false (a3.map (SL AV.i))]) (by kernel_rfl) (.cells (.k (.c (cleanMap _ _ (cl_SL cl_i))) .z)) (.k (x' := .cells 1 [.ms 16 0 (a2.length : Int).toNat]) (by kernel_rfl) (.cells (.k (.e rfl rfl (by simp; omega)) .z)) (.k (x' := .cells 1 [.i r11.1]) (by kernel_rfl) (.cells (.k (.c rfl) .z)) .z))))))))))
        obtain ⟨y14,hy14,hj3⟩ := bindE hj3
        refine awp_post (by intro i e; cases e <;> exact Nat.le_of_ble_eq_true rfl) ?_
        refine run0z [{},{},{ k := 1,n := l2_28.toNat },{ k := 1,x := AV.i y14 },{},{ k := 1,n := l2_28.toNat },{ k := 1,x := AV.i y14,l := (r11.2.2.2.set l2_28.toNat (wr (y14 + 1))).map AV.i }] [0,2,3,6,7,9,27,28] [.i a0,.mp 1 0 0,.mp 3 0 0,.mp 7 0 0,.mp 9 0 0,.i (a2.length : Int),.i a5,.i l2_28] ⟨[(17,.cells 1 (r11.2.2.1.map AV.i)),(16,.cells 1 ((r11.2.1.take (a2.length : Int).toNat).map AV.i)),(9,.cells 1 [.fn 164 [.mp 0 0 0,.mp 1 0 0,.mp 3 0 0,.mp 4 0 0,.mp 6 0 0,.mp 7 0 0,.mp 9 0 0]]),(8,.cells 1 ((r11.2.2.2.set l2_28.toNat (wr (y14 + 1))).map AV.i)),(7,.cells 1 [.ms 8 0 r11.2.2.2.length]),(6,.cells 1 [.i a5]),(4,.cells 1 [.ms 17 0 r11.2.2.1.length]),(3,.cells 1 [.sl false (a3.map (SL AV.i))]),(1,.cells 1 [.ms 16 0 (r11.2.1.take (a2.length : Int).toNat).length]),(0,.cells 1 [.i r11.1])],18⟩ _ (by kernel_rfl) (cjC ((ixE hy14).1) (cjC (ixLt hy14) (cjC (Nat.zero_add l2_28.toNat) (cjC (mapGet AV.i (ixE hy14).2) (cjC ((ixE hy14).1) (cjC (ixLt hy14) (cjC (Nat.zero_add l2_28.toNat) (cjC (mapGet AV.i (ixE hy14).2) (cjC ((by decide : (1 : Nat) ≤ 1)) (cj1 (mapSet r11.2.2.2 AV.i l2_28.toNat (wr (y14 + 1))))))))))))) ?_
        refine ⟨18,pi [],(zipE [0,2,3,6,7,9,27,28] [.i a0,.mp 1 0 0,.mp 3 0 0,.mp 7 0 0,.mp 9 0 0,.i (a2.length : Int),.i a5,.i l2_28]),⟨[(17,.cells 1 (r11.2.2.1.map AV.i)),(16,.cells 1 ((r11.2.1.take (a2.length : Int).toNat).map AV.i)),(9,.cells 1 [.fn 164 [.mp 0 0 0,.mp 1 0 0,.mp 3 0 0,.mp 4 0 0,.mp 6 0 0,.mp 7 0 0,.mp 9 0 0]]),(8,.cells 1 ((r11.2.2.2.set l2_28.toNat (wr (y14 + 1))).map AV.i)),(7,.cells 1 [.ms 8 0 (r11.2.2.2.set l2_28.toNat (wr (y14 + 1))).length]),(6,.cells 1 [.i a5]),(4,.cells 1 [.ms 17 0 r11.2.2.1.length]),(3,.cells 1 [.sl false (a3.map (SL AV.i))]),(1,.cells 1 [.ms 16 0 (r11.2.1.take (a2.length : Int).toNat).length]),(0,.cells 1 [.i r11.1])],18⟩,Nat.le_of_ble_eq_true rfl,mkInto (ks := [0,2,3,6,7,9,27,28]) (ys := [.i a0,.mp 1 0 0,.mp 3 0 0,.mp 7 0 0,.mp 9 0 0,.i (a2.length : Int),.i a5,.i l2_28]) (by kernel_rfl) (by kernel_rfl) (.k (.c rfl) (.k (.mp rfl rfl) (.k (.mp rfl rfl) (.k (.mp rfl rfl) (.k (.mp rfl rfl) (.k (.c rfl) (.k (.c rfl) (.k (.c rfl) .z)))))))) (.k (x' := .cells 1 (r11.2.2.1.map AV.i)) (by kernel_rfl) (.cells (.r (cleanMap _ _ cl_i))) (.k (x' := .cells 1 ((r11.2.1.take (a2.length : Int).toNat).map AV.i)) (by kernel_rfl) (.cells (.r (cleanMap _ _ cl_i))) (.k (x' := .cells 1 [.fn 164 [.mp 0 0 0,.mp 1 0 0,.mp 3 0 0,.mp 4 0 0,.mp 6 0 0,.mp 7 0 0,.mp 9 0 0]]) (by kernel_rfl) (.cells (.k (.f (.k (.mp rfl rfl) (.k (.mp rfl rfl) (.k (.mp rfl rfl) (.k (.mp rfl rfl) (.k (.mp rfl rfl) (.k (.mp rfl rfl) (.k (.mp rfl rfl) .z)))))))) .z)) (.k (x' := .cells 1 ((r11.2.2.2.set l2_28.toNat (wr (y14 + 1))).map AV.i)) (by kernel_rfl) (.cells (.r (cleanMap _ _ cl_i))) (.k (x' := .cells 1 [.ms 8 0 r11.2.2.2.length]) (by kernel_rfl) (.cells (.k (.e rfl rfl (by simp)) .z)) (.k (x' := .cells 1 [.i a5]) (by kernel_rfl) (.cells (.k (.c rfl) .z)) (.k (x' := .cells 1 [.ms 17 0 r11.2.2.1.length]) (by kernel_rfl) (.cells (.k (.ms rfl rfl) .z)) (.k (x' := .cells 1 [.sl false (a3.map (SL AV.i))]) (by kernel_rfl) (.cells (.k (.c (cleanMap _ _ (cl_SL cl_i))) .z)) (.k (x' := .cells 1 [.ms 16 0 (r11.2.1.take (a2.length : Int).toNat).length]) (by kernel_rfl) (.cells (.k (.ms rfl rfl) .z)) (.k (x' := .cells 1 [.i r11.1]) (by kernel_rfl) (.cells (.k (.c rfl) .z)) .z)))))))))),?_⟩
        replace hj3 := Option.some.inj hj3; subst hj3
        refine inbN ?_
        refine thenN ?_
        exact run_i 18 [(18,16),(19,17)] [0,2,3,6,7,9,27,28] [.i a0,.mp 1 0 0,.mp 3 0 0,.mp 7 0 0,.mp 9 0 0,.i (a2.length : Int),.i a5,.i l2_28] (kj3 ((r11.2.1.take (a2.length : Int).toNat),(r11.2.2.2.set l2_28.toNat (wr (y14 + 1))),r11.1,r11.2.2.1) rfl) (by intro i e; cases e <;> exact Nat.le_of_ble_eq_true rfl) (by kernel_rfl) (by kernel_rfl) (by kernel_rfl) (.k (.c rfl) (.k (.mp rfl rfl) (.k (.mp rfl rfl) (.k (.mp rfl rfl) (.k (.mp rfl rfl) (.k (.c rfl) (.k (.c rfl) (.k (.c rfl) .z)))))))) (.k (x' := .cells 1 (r11.2.2.1.map AV.i)) (by kernel_rfl) (.cells (.r (cleanMap _ _ cl_i))) (.k (x' := .cells 1 ((r11.2.1.take (a2.length : Int).toNat).map AV.i)) (by kernel_rfl) (.cells (.r (cleanMap _ _ cl_i))) (.k (x' := .cells 1 [.fn 164 [.mp 0 0 0,.mp 1 0 0,.mp 3 0 0,.mp 4 0 0,.mp 6 0 0,.mp 7 0 0,.mp 9 0 0]]) (by kernel_rfl) (.cells (.k (.f (.k (.mp rfl rfl) (.k (.mp rfl rfl) (.k (.mp rfl rfl) (.k (.mp rfl rfl) (.k (.mp rfl rfl) (.k (.mp rfl rfl) (.k (.mp rfl rfl) .z)))))))) .z)) (.k (x' := .cells 1 ((r11.2.2.2.set l2_28.toNat (wr (y14 + 1))).map AV.i)) (by kernel_rfl) (.cells (.r (cleanMap _ _ cl_i))) (.k (x' := .cells 1 [.ms 8 0 (r11.2.2.2.set l2_28.toNat (wr (y14 + 1))).length]) (by kernel_rfl) (.cells (.k (.ms rfl rfl) .z)) (.k (x' := .cells 1 [.i a5]) (by kernel_rfl) (.cells (.k (.c rfl) .z)) (.k (x' := .cells 1 [.ms 17 0 r11.2.2.1.length]) (by kernel_rfl) (.cells (.k (.ms rfl rfl) .z)) (.k (x' := .cells 1 [.sl false (a3.map (SL AV.i))]) (by kernel_rfl) (.cells (.k (.c (cleanMap _ _ (cl_SL cl_i))) .z)) (.k (x' := .cells 1 [.ms 16 0 (r11.2.1.take (a2.length : Int).toNat).length]) (by kernel_rfl) (.cells (.k (.ms rfl rfl) .z)) (.k (x' := .cells 1 [.i r11.1]) (by kernel_rfl) (.cells (.k (.c rfl) .z)) .z))))))))))
      ·rintro ⟨j3_h1,j3_h7,j3_h0,j3_h4⟩ rfl
       refine run0z [] [0,2,3,6,7,9,27,28] [.i a0,.mp 1 0 0,.mp 3 0 0,.mp 7 0 0,.mp 9 0 0,.i (a2.length : Int),.i a5,.i (wr (l2_28 + 1))] ⟨[(19,.cells 1 (j3_h4.map AV.i)),(18,.cells 1 (j3_h1.map AV.i)),(9,.cells 1 [.fn 164 [.mp 0 0 0,.mp 1 0 0,.mp 3 0 0,.mp 4 0 0,.mp 6 0 0,.mp 7 0 0,.mp 9 0 0]]),(8,.cells 1 (j3_h7.map AV.i)),(7,.cells 1 [.ms 8 0 j3_h7.length]),(6,.cells 1 [.i a5]),(4,.cells 1 [.ms 19 0 j3_h4.length]),(3,.cells 1 [.sl false (a3.map (SL AV.i))]),(1,.cells 1 [.ms 18 0 j3_h1.length]),(0,.cells 1 [.i j3_h0])],20⟩ _ (by kernel_rfl) cj0 ?_
       replace hl2 := Option.some.inj hl2; subst hl2
       exact ⟨_,rfl,pi [(10,18),(11,19)],mkInto (ks := [0,2,3,6,7,9,27,28]) (ys := [.i a0,.mp 1 0 0,.mp 3 0 0,.mp 7 0 0,.mp 9 0 0,.i (a2.length : Int),.i a5,.i (wr (l2_28 + 1))]) (by kernel_rfl) (by kernel_rfl) (.k (.c rfl) (.k (.mp rfl rfl) (.k (.mp rfl rfl) (.k (.mp rfl rfl) (.k (.mp rfl rfl) (.k (.c rfl) (.k (.c rfl) (.k (.c rfl) .z)))))))) (.k (x' := .cells 1 (j3_h4.map AV.i)) (by kernel_rfl) (.cells (.r (cleanMap _ _ cl_i))) (.k (x' := .cells 1 (j3_h1.map AV.i)) (by kernel_rfl) (.cells (.r (cleanMap _ _ cl_i))) (.k (x' := .cells 1 [.fn 164 [.mp 0 0 0,.mp 1 0 0,.mp 3 0 0,.mp 4 0 0,.mp 6 0 0,.mp 7 0 0,.mp 9 0 0]]) (by kernel_rfl) (.cells (.k (.f (.k (.mp rfl rfl) (.k (.mp rfl rfl) (.k (.mp rfl rfl) (.k (.mp rfl rfl) (.k (.mp rfl rfl) (.k (.mp rfl rfl) (.k (.mp rfl rfl) .z)))))))) .z)) (.k (x' := .cells 1 (j3_h7.map AV.i)) (by kernel_rfl) (.cells (.r (cleanMap _ _ cl_i))) (.k (x' := .cells 1 [.ms 8 0 j3_h7.length]) (by kernel_rfl) (.cells (.k (.ms rfl rfl) .z)) (.k (x' := .cells 1 [.i a5]) (by kernel_rfl) (.cells (.k (.c rfl) .z)) (.k (x' := .cells 1 [.ms 19 0 j3_h4.length]) (by kernel_rfl) (.cells (.k (.ms rfl rfl) .z)) (.k (x' := .cells 1 [.sl false (a3.map (SL AV.i))]) (by kernel_rfl) (.cells (.k (.c (cleanMap _ _ (cl_SL cl_i))) .z)) (.k (x' := .cells 1 [.ms 18 0 j3_h1.length]) (by kernel_rfl) (.cells (.k (.ms rfl rfl) .z)) (.k (x' := .cells 1 [.i j3_h0]) (by kernel_rfl) (.cells (.k (.c rfl) .z)) .z))))))))))⟩
     ·refine run_cF 29 (c164 24) (c164 25) (decide (l2_28 < a5)) hc5 (by kernel_rfl) (by kernel_rfl) ?_
      replace hl2 := Option.some.inj hl2; subst hl2
      have hr := rl2 _ rfl
      subst hr
      refine awp_p [] [11,10,9,8,7,6,4,3,1,0] (zipE [] []) ⟨[(11,.cells 1 (l2_h4.map AV.i)),(10,.cells 1 (l2_h1.map AV.i)),(9,.cells 1 [.fn 164 [.mp 0 0 0,.mp 1 0 0,.mp 3 0 0,.mp 4 0 0,.mp 6 0 0,.mp 7 0 0,.mp 9 0 0]]),(8,.cells 1 (l2_h7.map AV.i)),(7,.cells 1 [.ms 8 0 l2_h7.length]),(6,.cells 1 [.i a5]),(4,.cells 1 [.ms 11 0 l2_h4.length]),(3,.cells 1 [.sl false (a3.map (SL AV.i))]),(1,.cells 1 [.ms 10 0 l2_h1.length]),(0,.cells 1 [.i l2_h0])],12⟩ (by kernel_rfl) (?_)
      refine run_e 0 (by kernel_rfl) ?_
      refine thenE ?_
      refine ⟨⟨_,rfl⟩,?_⟩
      refine inbE ?_
      exact kl2 (l2_h0,l2_h1,l2_h4,l2_h7) rfl
    ·rintro ⟨l2x_h0,l2x_h1,l2x_h4,l2x_h7⟩ rfl
     refine ⟨12,pi [(13,10),(14,11)],zipE [] [],⟨[(14,.cells 1 (l2x_h4.map AV.i)),(13,.cells 1 (l2x_h1.map AV.i)),(9,.cells 1 [.fn 164 [.mp 0 0 0,.mp 1 0 0,.mp 3 0 0,.mp 4 0 0,.mp 6 0 0,.mp 7 0 0,.mp 9 0 0]]),(8,.cells 1 (l2x_h7.map AV.i)),(7,.cells 1 [.ms 8 0 l2x_h7.length]),(6,.cells 1 [.i a5]),(4,.cells 1 [.ms 14 0 l2x_h4.length]),(3,.cells 1 [.sl false (a3.map (SL AV.i))]),(1,.cells 1 [.ms 13 0 l2x_h1.length]),(0,.cells 1 [.i l2x_h0])],15⟩,Nat.le_of_ble_eq_true rfl,mkInto (ks := []) (ys := []) (by kernel_rfl) (by kernel_rfl) .z (.k (x' := .cells 1 (l2x_h4.map AV.i)) (by kernel_rfl) (.cells (.r (cleanMap _ _ cl_i))) (.k (x' := .cells 1 (l2x_h1.map AV.i)) (by kernel_rfl) (.cells (.r (cleanMap _ _ cl_i))) (.k (x' := .cells 1 [.fn 164 [.mp 0 0 0,.mp 1 0 0,.mp 3 0 0,.mp 4 0 0,.mp 6 0 0,.mp 7 0 0,.mp 9 0 0]]) (by kernel_rfl) (.cells (.k (.f (.k (.mp rfl rfl) (.k (.mp rfl rfl) (.k (.mp rfl rfl) (.k (.mp rfl rfl) (.k (.mp rfl rfl) (.k (.mp rfl rfl) (.k (.mp rfl rfl) .z)))))))) .z)) (.k (x' := .cells 1 (l2x_h7.map AV.i)) (by kernel_rfl) (.cells (.r (cleanMap _ _ cl_i))) (.k (x' := .cells 1 [.ms 8 0 l2x_h7.length]) (by kernel_rfl) (.cells (.k (.ms rfl rfl) .z)) (.k (x' := .cells 1 [.i a5]) (by kernel_rfl) (.cells (.k (.c rfl) .z)) (.k (x' := .cells 1 [.ms 11 0 l2x_h4.length]) (by kernel_rfl) (.cells (.k (.ms rfl rfl) .z)) (.k (x' := .cells 1 [.sl false (a3.map (SL AV.i))]) (by kernel_rfl) (.cells (.k (.c (cleanMap _ _ (cl_SL cl_i))) .z)) (.k (x' := .cells 1 [.ms 10 0 l2x_h1.length]) (by kernel_rfl) (.cells (.k (.ms rfl rfl) .z)) (.k (x' := .cells 1 [.i l2x_h0]) (by kernel_rfl) (.cells (.k (.c rfl) .z)) .z)))))))))),?_⟩
     replace h := Option.some.inj h; subst h
     exact fin_q [14,13,9,8,7,6,4,3,1,0] ⟨[(14,.cells 1 (l2x_h4.map AV.i)),(13,.cells 1 (l2x_h1.map AV.i)),(9,.cells 1 [.fn 164 [.mp 0 0 0,.mp 1 0 0,.mp 3 0 0,.mp 4 0 0,.mp 6 0 0,.mp 7 0 0,.mp 9 0 0]]),(8,.cells 1 (l2x_h7.map AV.i)),(7,.cells 1 [.ms 8 0 l2x_h7.length]),(6,.cells 1 [.i a5]),(4,.cells 1 [.ms 14 0 l2x_h4.length]),(3,.cells 1 [.sl false (a3.map (SL AV.i))]),(1,.cells 1 [.ms 13 0 l2x_h1.length]),(0,.cells 1 [.i l2x_h0])],15⟩ (by kernel_rfl) (by kernel_rfl) rfl ⟨rfl,rfl⟩
theorem f164_ok (a0 : Int) (a1 : Int) (a2 : List Int) (a3 : List (List Int)) (a4 : List Int) (a5 : Int) (a6 : List Int) (r : (Int × List Int × List Int × List Int)) (h : f164 a0 a1 a2 a3 a4 a5 a6 = some r) : ACalls Tryz.prog 164 [.i a0,.mp 0 0 0,.mp 1 0 0,.mp 3 0 0,.mp 4 0 0,.mp 6 0 0,.mp 7 0 0,.mp 9 0 0] ⟨[(9,.cells 1 [.fn 164 [.mp 0 0 0,.mp 1 0 0,.mp 3 0 0,.mp 4 0 0,.mp 6 0 0,.mp 7 0 0,.mp 9 0 0]]),(8,.cells 1 (a6.map AV.i)),(7,.cells 1 [.ms 8 0 a6.length]),(6,.cells 1 [.i a5]),(5,.cells 1 (a4.map AV.i)),(4,.cells 1 [.ms 5 0 a4.length]),(3,.cells 1 [.sl false (a3.map (SL AV.i))]),(2,.cells 1 (a2.map AV.i)),(1,.cells 1 [.ms 2 0 a2.length]),(0,.cells 1 [.i a1])],10⟩ (fun y t => y = .tup [] ∧ t = ⟨[(14,.cells 1 (r.2.2.1.map AV.i)),(13,.cells 1 (r.2.1.map AV.i)),(9,.cells 1 [.fn 164 [.mp 0 0 0,.mp 1 0 0,.mp 3 0 0,.mp 4 0 0,.mp 6 0 0,.mp 7 0 0,.mp 9 0 0]]),(8,.cells 1 (r.2.2.2.map AV.i)),(7,.cells 1 [.ms 8 0 r.2.2.2.length]),(6,.cells 1 [.i a5]),(4,.cells 1 [.ms 14 0 r.2.2.1.length]),(3,.cells 1 [.sl false (a3.map (SL AV.i))]),(1,.cells 1 [.ms 13 0 r.2.1.length]),(0,.cells 1 [.i r.1])],15⟩) := f164r_ok FUEL a0 a1 a2 a3 a4 a5 a6 r h
def f106 (a0 : List (List Int)) (a1 : Int) (a2 : Int) : Option (((List Int)) × Int) := (f163 ([a2] : List Int) a1).bind fun r1 => (f164 0 (-1) ([] : List Int) a0 ([] : List Int) a1 r1).bind fun r2 => some (r2.2.2.1,r2.1)
theorem f106_ok (a0 : List (List Int)) (a1 : Int) (a2 : Int) (r : (((List Int)) × Int)) (h : f106 a0 a1 a2 = some r) : APure Tryz.prog 106 [.sl false (a0.map (SL AV.i)),.i a1,.i a2] (.tup [.sl false (r.1.map AV.i),.i r.2]) := by
 refine apure (clK (cleanMap a0 _ (cl_SL cl_i)) (clK rfl (clK rfl clZ))) (clK (cleanMap r.1 _ cl_i) (clK rfl clZ)) ?_
 let v_0 : AV := .sl false (a0.map (SL AV.i))
 refine run_f 20 [.cell 6 69,.cell 7 3] (c106 0) (zipE [0,1,2] [v_0,.i a1,.i a2]) (by kernel_rfl) (by kernel_rfl) (by kernel_rfl) rfl ?_
 unfold f106 at h
 let b_0 : Blk := .cells 1 [.sl true []]
 let b_1 : Blk := .cells 1 [.i a1]
 refine run1z (c106 2) [] [2,3,4,6,7] [.i a2,.mp 0 0 0,.mp 1 0 0,.mp 2 0 0,.mp 3 0 0] ⟨[(3,.cells 1 [.i 0]),(2,b_0),(1,b_1),(0,.cells 1 [v_0])],4⟩ _ (by kernel_rfl) cj0 ?_
 let b_2 : Blk := .cells 1 [.i (-1)]
 refine run1z (c106 4) [] [2,3,4,6,7] [.i a2,.mp 0 0 0,.mp 1 0 0,.mp 2 0 0,.mp 3 0 0] ⟨[(3,b_2),(2,b_0),(1,b_1),(0,.cells 1 [v_0])],4⟩ _ (by kernel_rfl) cj0 ?_
 let s_0 : St := ⟨[(4,b_0),(3,b_2),(2,b_0),(1,b_1),(0,.cells 1 [v_0])],5⟩
 refine run1z (c106 6) [] [2,3,4,6,7,8] [.i a2,.mp 0 0 0,.mp 1 0 0,.mp 2 0 0,.mp 3 0 0,.mp 4 0 0] s_0 _ (by kernel_rfl) cj0 ?_
 obtain ⟨r1,hr1,h⟩ := bindE h
 let v_1 : AV := .ms 5 0 r1.length
 let b_3 : Blk := .cells 1 (r1.map AV.i)
 let s_1 : St := ⟨[(5,b_3),(4,b_0),(3,b_2),(2,b_0),(1,b_1),(0,.cells 1 [v_0])],6⟩
 refine run1z (c106 8) [{},{},{},{ c := some (v_1,s_1) }] [3,4,6,7,8,9] [.mp 0 0 0,.mp 1 0 0,.mp 2 0 0,.mp 3 0 0,.mp 4 0 0,.mp 6 0 0] ⟨[(6,.cells 1 [v_1]),(5,b_3),(4,b_0),(3,b_2),(2,b_0),(1,b_1),(0,.cells 1 [v_0])],7⟩ _ (by kernel_rfl) (cj1 (callF (f163_ok ([a2] : List Int) a1 _ hr1) [] [(5,0)] [4,3,2,1,0] [.sl true [.i a2],.i a1] s_0 (.ms 5 0 r1.length) s_1 (by kernel_rfl) (.k (.s (cleanMap (([a2] : List Int)) _ cl_i)) (.k (.c rfl) .z)) (.ms rfl rfl) .z (.d (x' := b_3) rfl (by kernel_rfl) (.cells (.r (cleanMap _ _ cl_i))) (.f rfl (by kernel_rfl) (.f rfl (by kernel_rfl) (.f rfl (by kernel_rfl) (.f rfl (by kernel_rfl) (.f rfl (by kernel_rfl) .z)))))))) ?_
 refine run1z (c106 10) [] [3,4,6,7,8,9,10] [.mp 0 0 0,.mp 1 0 0,.mp 2 0 0,.mp 3 0 0,.mp 4 0 0,.mp 6 0 0,.mp 7 0 0] ⟨[(7,.cells 1 [.nilf]),(6,.cells 1 [v_1]),(5,b_3),(4,b_0),(3,b_2),(2,b_0),(1,b_1),(0,.cells 1 [v_0])],8⟩ _ (by kernel_rfl) cj0 ?_
 let w_0 : AV := .fn 164 [.mp 3 0 0,.mp 4 0 0,.mp 0 0 0,.mp 2 0 0,.mp 1 0 0,.mp 6 0 0,.mp 7 0 0]
 refine run1z (c106 12) [] [6,7,10] [.mp 2 0 0,.mp 3 0 0,.mp 7 0 0] ⟨[(7,.cells 1 [w_0]),(6,.cells 1 [v_1]),(5,b_3),(4,b_0),(3,b_2),(2,b_0),(1,b_1),(0,.cells 1 [v_0])],8⟩ _ (by kernel_rfl) cj0 ?_
 let b_4 : Blk := .cells 1 [.ms 8 0 ([] : List Int).length]
 let b_5 : Blk := .cells 1 (([] : List Int).map AV.i)
 refine run_i 8 [(8,1000000)] [6,7,10] [.mp 2 0 0,.mp 3 0 0,.mp 7 0 0] (xs := [.mp 2 0 0,.mp 3 0 0,.mp 7 0 0]) (S2 := ⟨[(8,b_5),(7,.cells 1 [w_0]),(6,.cells 1 [v_1]),(5,b_3),(4,b_4),(3,b_2),(2,b_0),(1,b_1),(0,.cells 1 [v_0])],9⟩) ?_ (by intro i e; cases e <;> exact Nat.le_of_ble_eq_true rfl) (by kernel_rfl) (by kernel_rfl) (by kernel_rfl) (.k (.mp rfl rfl) (.k (.mp rfl rfl) (.k (.mp rfl rfl) .z))) (.n rfl rfl rfl (.k rfl (.cells (.k (.f (.k (.mp rfl rfl) (.k (.mp rfl rfl) (.k (.mp rfl rfl) (.k (.mp rfl rfl) (.k (.mp rfl rfl) (.k (.mp rfl rfl) (.k (.mp rfl rfl) .z)))))))) .z)) (.k rfl (.cells (.k (.ms rfl rfl) .z)) (.k rfl (.cells (.r (cleanMap _ _ cl_i))) (.k rfl (.cells (.k (.n) .z)) (.k rfl (.cells (.k (.c rfl) .z)) (.k rfl (.cells (.k (.c rfl) .z)) (.k rfl (.cells (.k (.c rfl) .z)) (.k rfl (.cells (.k (.c (cleanMap _ _ (cl_SL cl_i))) .z)) .z)))))))))
 let b_6 : Blk := .cells 1 [.ms 9 0 ([] : List Int).length]
 let s_2 : St := ⟨[(9,b_5),(8,b_5),(7,.cells 1 [w_0]),(6,.cells 1 [v_1]),(5,b_3),(4,b_4),(3,b_2),(2,b_6),(1,b_1),(0,.cells 1 [v_0])],10⟩
 refine run_i 9 [(9,1000000)] [6,7,10] [.mp 2 0 0,.mp 3 0 0,.mp 7 0 0] (xs := [.mp 2 0 0,.mp 3 0 0,.mp 7 0 0]) (S2 := s_2) ?_ (by intro i e; cases e <;> exact Nat.le_of_ble_eq_true rfl) (by kernel_rfl) (by kernel_rfl) (by kernel_rfl) (.k (.mp rfl rfl) (.k (.mp rfl rfl) (.k (.mp rfl rfl) .z))) (.n rfl rfl rfl (.k rfl (.cells (.r (cleanMap _ _ cl_i))) (.k rfl (.cells (.k (.f (.k (.mp rfl rfl) (.k (.mp rfl rfl) (.k (.mp rfl rfl) (.k (.mp rfl rfl) (.k (.mp rfl rfl) (.k (.mp rfl rfl) (.k (.mp rfl rfl) .z)))))))) .z)) (.k rfl (.cells (.k (.ms rfl rfl) .z)) (.k rfl (.cells (.r (cleanMap _ _ cl_i))) (.k rfl (.cells (.k (.ms rfl rfl) .z)) (.k rfl (.cells (.k (.c rfl) .z)) (.k rfl (.cells (.k (.n) .z)) (.k rfl (.cells (.k (.c rfl) .z)) (.k rfl (.cells (.k (.c (cleanMap _ _ (cl_SL cl_i))) .z)) .z))))))))))
 obtain ⟨r2,hr2,h⟩ := bindE h
 let v_2 : AV := .ms 14 0 r2.2.2.1.length
 let v_3 : AV := .ms 13 0 r2.2.1.length
 let b_7 : Blk := .cells 1 [.ms 5 0 r2.2.2.2.length]
 let b_8 : Blk := .cells 1 (r2.2.2.1.map AV.i)
 let b_9 : Blk := .cells 1 (r2.2.2.2.map AV.i)
 let b_10 : Blk := .cells 1 (r2.2.1.map AV.i)
 let b_11 : Blk := .cells 1 [.i r2.1]
 let s_3 : St := ⟨[(14,b_8),(13,b_10),(7,.cells 1 [w_0]),(6,b_7),(5,b_9),(4,.cells 1 [v_3]),(3,b_11),(2,.cells 1 [v_2]),(1,b_1),(0,.cells 1 [v_0])],15⟩
 let s_4 : St := ⟨[(14,b_8),(3,b_11),(2,.cells 1 [v_2])],15⟩
 refine run1z (c106 14) [{},{ c := some (.tup [],s_3) }] [6,7] [.mp 2 0 0,.mp 3 0 0] s_4 _ (by kernel_rfl) (cj1 (callF (f164_ok 0 (-1) ([] : List Int) a0 ([] : List Int) a1 r1 _ hr2) [(0,3),(1,4),(2,8),(3,0),(4,2),(5,9),(6,1),(7,6),(8,5),(9,7)] [(14,14),(13,13),(7,9),(5,8),(6,7),(1,6),(2,4),(0,3),(4,1),(3,0)] [] [.i 0,.mp 3 0 0,.mp 4 0 0,.mp 0 0 0,.mp 2 0 0,.mp 1 0 0,.mp 6 0 0,.mp 7 0 0] s_2 (.tup []) s_3 (by kernel_rfl) (.k (.c rfl) (.k (.mp rfl rfl) (.k (.mp rfl rfl) (.k (.mp rfl rfl) (.k (.mp rfl rfl) (.k (.mp rfl rfl) (.k (.mp rfl rfl) (.k (.mp rfl rfl) .z)))))))) (.t .z) (.k rfl (.cells (.k (.f (.k (.mp rfl rfl) (.k (.mp rfl rfl) (.k (.mp rfl rfl) (.k (.mp rfl rfl) (.k (.mp rfl rfl) (.k (.mp rfl rfl) (.k (.mp rfl rfl) .z)))))))) .z)) (.k rfl (.cells (.r (cleanMap _ _ cl_i))) (.k rfl (.cells (.k (.ms rfl rfl) .z)) (.k rfl (.cells (.k (.c rfl) .z)) (.k rfl (.cells (.r (cleanMap _ _ cl_i))) (.k rfl (.cells (.k (.ms rfl rfl) .z)) (.k rfl (.cells (.k (.c (cleanMap _ _ (cl_SL cl_i))) .z)) (.k rfl (.cells (.r (cleanMap _ _ cl_i))) (.k rfl (.cells (.k (.ms rfl rfl) .z)) (.k rfl (.cells (.k (.c rfl) .z)) .z)))))))))) (.d (x' := b_8) rfl (by kernel_rfl) (.cells (.r (cleanMap _ _ cl_i))) (.d (x' := b_10) rfl (by kernel_rfl) (.cells (.r (cleanMap _ _ cl_i))) (.d (x' := .cells 1 [.fn 164 [.mp 0 0 0,.mp 1 0 0,.mp 3 0 0,.mp 4 0 0,.mp 6 0 0,.mp 7 0 0,.mp 9 0 0]]) rfl (by kernel_rfl) (.cells (.k (.f (.k (.mp rfl rfl) (.k (.mp rfl rfl) (.k (.mp rfl rfl) (.k (.mp rfl rfl) (.k (.mp rfl rfl) (.k (.mp rfl rfl) (.k (.mp rfl rfl) .z)))))))) .z)) (.d (x' := .cells 1 [.ms 8 0 r2.2.2.2.length]) rfl (by kernel_rfl) (.cells (.k (.ms rfl rfl) .z)) (.d (x' := b_9) rfl (by kernel_rfl) (.cells (.r (cleanMap _ _ cl_i))) (.d (x' := .cells 1 [v_3]) rfl (by kernel_rfl) (.cells (.k (.ms rfl rfl) .z)) (.d (x' := b_11) rfl (by kernel_rfl) (.cells (.k (.c rfl) .z)) (.d (x' := .cells 1 [v_2]) rfl (by kernel_rfl) (.cells (.k (.ms rfl rfl) .z)) (.d (x' := b_1) rfl (by kernel_rfl) (.cells (.k (.c rfl) .z)) (.d (x' := .cells 1 [v_0]) rfl (by kernel_rfl) (.cells (.k (.c (cleanMap _ _ (cl_SL cl_i))) .z)) .z)))))))))))) ?_
 refine yun1z (c106 16) [[],[],[0],[0,1,2]] [.light 0 false,.light 1 true,.heavy 2 [1],.heavy 3 []] [] [6,7] [.mp 2 0 0,.mp 3 0 0] s_4 _ (by kernel_rfl) (cj1 (@Eq.refl AV (.i r2.1))) ?_
 refine run_z 14 1 (r2.2.2.1.map AV.i) [6,7] [.mp 2 0 0,.mp 3 0 0] (xs := [.mp 2 0 0,.mp 3 0 0]) (S2 := ⟨[(3,b_11),(2,.cells 1 [.sl false (r2.2.2.1.map AV.i)])],15⟩) ?_ (by kernel_rfl) (by kernel_rfl) (.k (.r _) (.k (.r _) .z)) (.k (x' := b_11) rfl (by kernel_rfl) (.r _) (.k (x' := .cells 1 [v_2]) rfl (by kernel_rfl) (.cells (.k (.m (mLe r2.2.2.1 AV.i) (mapAll r2.2.2.1 AV.i)) .z)) .z)) rfl rfl
 refine run_t (by kernel_rfl) ?_
 replace h := Option.some.inj h; subst h
 exact fin_r (by kernel_rfl) rfl
def f46 (a0 : List (List GTone)) (a1 : List GInstrument) (a2 : Int) : Option (((List Int)) × Int × Int) := (f103 a0).bind fun r1 => bif (decide (r1 ≠ 0)) then (some (([] : List Int),0,r1)) else (bif (decide ((a1.length : Int) = 0)) then (some (([] : List Int),0,90)) else (bif (decide (6 < (a1.length : Int))) then (some (([] : List Int),0,2)) else ((loopN (σ := Int) (τ := (Unit ⊕ (((List Int)) × Int × Int))) (fun (l1_35 : Int) => bif (decide (l1_35 < (a1.length : Int))) then ((ix a1 l1_35).bind fun y6 => (f104 y6).bind fun r7 => bif (decide (r7 ≠ 0)) then (some (.inr (.inr (([] : List Int),0,r7)))) else (some (.inl (wr (l1_35 + 1))))) else (some (.inr (.inl ())))) FUEL 0).bind (Sum.elim (fun (_ : Unit) => (f76 a2 1 6).bind fun r9 => bif (!r9) then (some (([] : List Int),0,1)) else (bif (decide ((wr (a2 * (a1.length : Int))) < (a0.length : Int))) then (some (([] : List Int),0,90)) else (need (0 ≤ (a0.length : Int)) <| need ((a0.length : Int) ≤ (maxElems : Int)) <| (loopN (σ := List (List Int)) (τ := ((List (List Int)) ⊕ (((List Int)) × Int × Int))) (fun (q : List (List Int)) => bif (decide ((q.length : Int) < (a0.length : Int))) then ((ix a0 (q.length : Int)).bind fun y15 => (loopN (σ := (List Int × Int)) (τ := ((List Int) ⊕ (List (List Int) ⊕ ((List (List Int)) ⊕ (((List Int)) × Int × Int))))) (fun ((w,k) : (List Int × Int)) => bif (decide (k < (a1.length : Int))) then ((ix a1 k).bind fun y17 => (f105 ([y15] : List (List GTone)) y17 0).bind fun r18 => bif (decide (r18.2 ≠ 0)) then (some (.inr (.inr (.inr (.inr (([] : List Int),0,r18.2)))))) else (need (w.length + 1 ≤ maxElems) <| some (.inl ((w ++ [r18.1]),(wr (k + 1)))))) else (some (.inr (.inl w)))) FUEL (([] : List Int),0)).bind (Sum.elim (fun (w : List Int) => some (.inl (q ++ [w]))) some)) else (need ((q.length : Int) = (a0.length : Int)) <| some (.inr (.inl q)))) FUEL ([] : List (List Int))).bind (Sum.elim (fun (l2x_13 : (List (List Int))) => (f106 l2x_13 (a1.length : Int) a2).bind fun r22 => some (r22.1,r22.2,0)) some)))) some))))
theorem f46_ok (a0 : List (List GTone)) (a1 : List GInstrument) (a2 : Int) (r : (((List Int)) × Int × Int)) (h : f46 a0 a1 a2 = some r) : APure Tryz.prog 46 [.sl false (a0.map (SL E_GTone)),.sl false (a1.map E_GInstrument),.i a2] (.tup [.sl false (r.1.map AV.i),.i r.2.1,.i r.2.2]) := by
 refine apure (clK (cleanMap a0 _ (cl_SL cl_GTone)) (clK (cleanMap a1 _ cl_GInstrument) (clK rfl clZ))) (clK (cleanMap r.1 _ cl_i) (clK rfl (clK rfl clZ))) ?_
 refine run_f 105 [.tmp 6,.tmp 7,.tmp 8] (c46 0) (zipE [0,1,2] [.sl false (a0.map (SL E_GTone)),.sl false (a1.map E_GInstrument),.i a2]) (by kernel_rfl) (by kernel_rfl) (by kernel_rfl) rfl ?_
 unfold f46 at h
 refine run1z (c46 2) [] [0,1,2] [.sl false (a0.map (SL E_GTone)),.sl false (a1.map E_GInstrument),.i a2] ⟨[],0⟩ _ (by kernel_rfl) cj0 ?_
 refine run_s (c46 3) (c46 12) (by kernel_rfl) ?_
 obtain ⟨r1,hr1,h⟩ := bindE h
 refine run1z (c46 5) [{},{ c := some (.i r1,⟨[],0⟩) }] [0,1,2,9] [.sl false (a0.map (SL E_GTone)),.sl false (a1.map E_GInstrument),.i a2,.i r1] ⟨[],0⟩ _ (by kernel_rfl) (cj1 (f103_ok a0 _ hr1 ⟨[],0⟩)) ?_
 refine run1z (c46 7) [] [0,1,2,9,23] [.sl false (a0.map (SL E_GTone)),.sl false (a1.map E_GInstrument),.i a2,.i r1,.bool (decide (r1 ≠ 0))] ⟨[],0⟩ _ (by kernel_rfl) cj0 ?_
 rcases iteE h with ⟨hc2,h⟩ | ⟨hc2,h⟩
 ·refine run_cT 23 (c46 8) (c46 11) (decide (r1 ≠ 0)) hc2 (by kernel_rfl) (by kernel_rfl) ?_
  refine run1z (c46 10) [] [6,7,8] [.sl true [],.i 0,.i r1] ⟨[],0⟩ _ (by kernel_rfl) cj0 ?_
  refine run_i 0 [] [6,7,8] [.sl true [],.i 0,.i r1] (xs := [.sl false (([] : List Int).map AV.i),.i 0,.i r1]) (S2 := ⟨[],0⟩) ?_ (by intro i e; cases e <;> exact Nat.le_of_ble_eq_true rfl) (by kernel_rfl) (by kernel_rfl) (by kernel_rfl) (.k (.s (cleanMap (([] : List Int)) _ cl_i)) (.k (.c rfl) (.k (.c rfl) .z))) .z
  refine run_t (by kernel_rfl) ?_
  refine thenR ?_
  replace h := Option.some.inj h; subst h
  exact fin_r (by kernel_rfl) rfl
 ·refine run_cF 23 (c46 8) (c46 11) (decide (r1 ≠ 0)) hc2 (by kernel_rfl) (by kernel_rfl) ?_
  refine run_k (by kernel_rfl) ?_
  refine thenN ?_
  refine run_s (c46 13) (c46 27) (by kernel_rfl) ?_
  refine run_b 0 (c46 14) (by kernel_rfl) ?_
  refine run1z (c46 16) [{},{ k := 1,n := a1.length }] [0,1,2,25] [.sl false (a0.map (SL E_GTone)),.sl false (a1.map E_GInstrument),.i a2,.bool (decide ((a1.length : Int) = 0))] ⟨[],0⟩ _ (by kernel_rfl) (cj1 (mapLen a1 E_GInstrument)) ?_
  rcases iteE h with ⟨hc3,h⟩ | ⟨hc3,h⟩
  ·refine run_cT 25 (c46 17) (c46 20) (decide ((a1.length : Int) = 0)) hc3 (by kernel_rfl) (by kernel_rfl) ?_
   refine run1z (c46 19) [] [6,7,8] [.sl true [],.i 0,.i 90] ⟨[],0⟩ _ (by kernel_rfl) cj0 ?_
   refine run_i 0 [] [6,7,8] [.sl true [],.i 0,.i 90] (xs := [.sl false (([] : List Int).map AV.i),.i 0,.i 90]) (S2 := ⟨[],0⟩) ?_ (by intro i e; cases e <;> exact Nat.le_of_ble_eq_true rfl) (by kernel_rfl) (by kernel_rfl) (by kernel_rfl) (.k (.s (cleanMap (([] : List Int)) _ cl_i)) (.k (.c rfl) (.k (.c rfl) .z))) .z
   refine run_t (by kernel_rfl) ?_
   refine inbR ?_
   refine thenR ?_
   replace h := Option.some.inj h; subst h
   exact fin_r (by kernel_rfl) rfl
  ·refine run_cF 25 (c46 17) (c46 20) (decide ((a1.length : Int) = 0)) hc3 (by kernel_rfl) (by kernel_rfl) ?_
   refine run1z (c46 22) [{},{ k := 1,n := a1.length }] [0,1,2,29] [.sl false (a0.map (SL E_GTone)),.sl false (a1.map E_GInstrument),.i a2,.bool (decide (6 < (a1.length : Int)))] ⟨[],0⟩ _ (by kernel_rfl) (cj1 (mapLen a1 E_GInstrument)) ?_
   rcases iteE h with ⟨hc4,h⟩ | ⟨hc4,h⟩
   ·refine run_cT 29 (c46 23) (c46 26) (decide (6 < (a1.length : Int))) hc4 (by kernel_rfl) (by kernel_rfl) ?_
    refine run1z (c46 25) [] [6,7,8] [.sl true [],.i 0,.i 2] ⟨[],0⟩ _ (by kernel_rfl) cj0 ?_
    refine run_i 0 [] [6,7,8] [.sl true [],.i 0,.i 2] (xs := [.sl false (([] : List Int).map AV.i),.i 0,.i 2]) (S2 := ⟨[],0⟩) ?_ (by intro i e; cases e <;> exact Nat.le_of_ble_eq_true rfl) (by kernel_rfl) (by kernel_rfl) (by kernel_rfl) (.k (.s (cleanMap (([] : List Int)) _ cl_i)) (.k (.c rfl) (.k (.c rfl) .z))) .z
    refine run_t (by kernel_rfl) ?_
    refine inbR ?_
    refine thenR ?_
    replace h := Option.some.inj h; subst h
    exact fin_r (by kernel_rfl) rfl
   ·refine run_cF 29 (c46 23) (c46 26) (decide (6 < (a1.length : Int))) hc4 (by kernel_rfl) (by kernel_rfl) ?_
    refine run_k (by kernel_rfl) ?_
    refine inbN ?_
    refine thenN ?_
    refine run_s (c46 28) (c46 52) (by kernel_rfl) ?_
    refine run1z (c46 30) [{},{ k := 1,n := a1.length }] [0,1,2,33,34,35] [.sl false (a0.map (SL E_GTone)),.sl false (a1.map E_GInstrument),.i a2,.sl false (a1.map E_GInstrument),.i (a1.length : Int),.i 0] ⟨[],0⟩ _ (by kernel_rfl) (cj1 (mapLen a1 E_GInstrument)) ?_
    obtain ⟨ol1x,hll1x,h⟩ := bindE h
    refine run_tq (fun (_ : Unit) => (zipE [0,1,2] [.sl false (a0.map (SL E_GTone)),.sl false (a1.map E_GInstrument),.i a2])) (fun (_ : Unit) => ⟨[],0⟩) (fun j => ol1x = .inl j) (fun kl1 => ?_) ?_
    ·refine run_b 1 (c46 31) (by kernel_rfl) ?_
     refine run_l (c46 32) _ hll1x (fun (l1_35 : Int) => (zipE [0,1,2,33,34,35] [.sl false (a0.map (SL E_GTone)),.sl false (a1.map E_GInstrument),.i a2,.sl false (a1.map E_GInstrument),.i (a1.length : Int),.i l1_35])) (fun (l1_35 : Int) => ⟨[],0⟩) [] (by intro i e; cases e <;> exact Nat.le_of_ble_eq_true rfl) (by kernel_rfl) (mkInto (ks := [0,1,2,33,34,35]) (ys := [.sl false (a0.map (SL E_GTone)),.sl false (a1.map E_GInstrument),.i a2,.sl false (a1.map E_GInstrument),.i (a1.length : Int),.i 0]) (by kernel_rfl) (by kernel_rfl) (.k (.c (cleanMap _ _ (cl_SL cl_GTone))) (.k (.c (cleanMap _ _ cl_GInstrument)) (.k (.c rfl) (.k (.c (cleanMap _ _ cl_GInstrument)) (.k (.c rfl) (.k (.c rfl) .z)))))) .z) ?_
     rintro l1_35 out hl1 rl1
     refine run1z (c46 34) [] [0,1,2,33,34,35,36] [.sl false (a0.map (SL E_GTone)),.sl false (a1.map E_GInstrument),.i a2,.sl false (a1.map E_GInstrument),.i (a1.length : Int),.i l1_35,.bool (decide (l1_35 < (a1.length : Int)))] ⟨[],0⟩ _ (by kernel_rfl) cj0 ?_
     refine run_s (c46 35) (c46 38) (by kernel_rfl) ?_
     rcases iteE hl1 with ⟨hc5,hl1⟩ | ⟨hc5,hl1⟩
     ·refine run_cT 36 (c46 36) (c46 37) (decide (l1_35 < (a1.length : Int))) hc5 (by kernel_rfl) (by kernel_rfl) ?_
      refine run_k (by kernel_rfl) ?_
      refine thenN ?_
      refine run_s (c46 39) (c46 51) (by kernel_rfl) ?_
      refine run_b 2 (c46 40) (by kernel_rfl) ?_
      obtain ⟨y6,hy6,hl1⟩ := bindE hl1
      refine run1z (c46 42) [{ k := 1,x := E_GInstrument y6 }] [0,1,2,11,33,34,35] [.sl false (a0.map (SL E_GTone)),.sl false (a1.map E_GInstrument),.i a2,.mp 0 0 0,.sl false (a1.map E_GInstrument),.i (a1.length : Int),.i l1_35] ⟨[(0,.cells 2 [E_GInstrument y6])],1⟩ _ (by kernel_rfl) (cjC ((ixE hy6).1) (cj1 (mapGet E_GInstrument (ixE hy6).2))) ?_
      obtain ⟨r7,hr7,hl1⟩ := bindE hl1
      refine run1z (c46 44) [{},{ c := some (.i r7,⟨[(0,.cells 2 [E_GInstrument y6])],1⟩) }] [0,1,2,12,33,34,35] [.sl false (a0.map (SL E_GTone)),.sl false (a1.map E_GInstrument),.i a2,.i r7,.sl false (a1.map E_GInstrument),.i (a1.length : Int),.i l1_35] ⟨[],1⟩ _ (by kernel_rfl) (cj1 (f104_ok y6 _ hr7 ⟨[(0,.cells 2 [E_GInstrument y6])],1⟩)) ?_
      refine run1z (c46 46) [] [0,1,2,12,33,34,35,42] [.sl false (a0.map (SL E_GTone)),.sl false (a1.map E_GInstrument),.i a2,.i r7,.sl false (a1.map E_GInstrument),.i (a1.length : Int),.i l1_35,.bool (decide (r7 ≠ 0))] ⟨[],1⟩ _ (by kernel_rfl) cj0 ?_
      rcases iteE hl1 with ⟨hc8,hl1⟩ | ⟨hc8,hl1⟩
      ·refine run_cT 42 (c46 47) (c46 50) (decide (r7 ≠ 0)) hc8 (by kernel_rfl) (by kernel_rfl) ?_
       refine run1z (c46 49) [] [6,7,8] [.sl true [],.i 0,.i r7] ⟨[],1⟩ _ (by kernel_rfl) cj0 ?_
       replace hl1 := Option.some.inj hl1; subst hl1
       have hr := rl1 _ rfl
       subst hr
       replace h := elimR h
       refine run_i 1 [] [6,7,8] [.sl true [],.i 0,.i r7] (xs := [.sl false (([] : List Int).map AV.i),.i 0,.i r7]) (S2 := ⟨[],1⟩) ?_ (by intro i e; cases e <;> exact Nat.le_of_ble_eq_true rfl) (by kernel_rfl) (by kernel_rfl) (by kernel_rfl) (.k (.s (cleanMap (([] : List Int)) _ cl_i)) (.k (.c rfl) (.k (.c rfl) .z))) .z
       refine run_t (by kernel_rfl) ?_
       refine inbR ?_
       refine thenR ?_
       refine ⟨⟨_,rfl⟩,?_⟩
       refine inbR ?_
       refine thenR ?_
       replace h := Option.some.inj h; subst h
       exact fin_r (by kernel_rfl) rfl
      ·refine run_cF 42 (c46 47) (c46 50) (decide (r7 ≠ 0)) hc8 (by kernel_rfl) (by kernel_rfl) ?_
       refine run_k (by kernel_rfl) ?_
       refine inbN ?_
       refine thenN ?_
       refine run0z [] [0,1,2,33,34,35] [.sl false (a0.map (SL E_GTone)),.sl false (a1.map E_GInstrument),.i a2,.sl false (a1.map E_GInstrument),.i (a1.length : Int),.i (wr (l1_35 + 1))] ⟨[],1⟩ _ (by kernel_rfl) cj0 ?_
       replace hl1 := Option.some.inj hl1; subst hl1
       exact ⟨_,rfl,pi [],mkInto (ks := [0,1,2,33,34,35]) (ys := [.sl false (a0.map (SL E_GTone)),.sl false (a1.map E_GInstrument),.i a2,.sl false (a1.map E_GInstrument),.i (a1.length : Int),.i (wr (l1_35 + 1))]) (by kernel_rfl) (by kernel_rfl) (.k (.c (cleanMap _ _ (cl_SL cl_GTone))) (.k (.c (cleanMap _ _ cl_GInstrument)) (.k (.c rfl) (.k (.c (cleanMap _ _ cl_GInstrument)) (.k (.c rfl) (.k (.c rfl) .z)))))) .z⟩
     ·refine run_cF 36 (c46 36) (c46 37) (decide (l1_35 < (a1.length : Int))) hc5 (by kernel_rfl) (by kernel_rfl) ?_
      replace hl1 := Option.some.inj hl1; subst hl1
      have hr := rl1 _ rfl
      subst hr
      refine awp_p [0,1,2] [] (zipE [0,1,2] [.sl false (a0.map (SL E_GTone)),.sl false (a1.map E_GInstrument),.i a2]) ⟨[],0⟩ (by kernel_rfl) (?_)
      refine run_e 1 (by kernel_rfl) ?_
      refine thenE ?_
      refine ⟨⟨_,rfl⟩,?_⟩
      refine inbE ?_
      exact kl1 () rfl
    ·rintro ⟨⟩ rfl
     replace h := elimL h
     refine thenN ?_
     refine run_s (c46 53) (c46 67) (by kernel_rfl) ?_
     refine run_b 3 (c46 54) (by kernel_rfl) ?_
     obtain ⟨r9,hr9,h⟩ := bindE h
     refine run1z (c46 56) [{},{ c := some (.bool r9,⟨[],0⟩) }] [0,1,2,45] [.sl false (a0.map (SL E_GTone)),.sl false (a1.map E_GInstrument),.i a2,.bool (!r9)] ⟨[],0⟩ _ (by kernel_rfl) (cj1 (f76_ok a2 1 6 _ hr9 ⟨[],0⟩)) ?_
     rcases iteE h with ⟨hc10,h⟩ | ⟨hc10,h⟩
     ·refine run_cT 45 (c46 57) (c46 60) (!r9) hc10 (by kernel_rfl) (by kernel_rfl) ?_
      refine run1z (c46 59) [] [6,7,8] [.sl true [],.i 0,.i 1] ⟨[],0⟩ _ (by kernel_rfl) cj0 ?_
      refine run_i 0 [] [6,7,8] [.sl true [],.i 0,.i 1] (xs := [.sl false (([] : List Int).map AV.i),.i 0,.i 1]) (S2 := ⟨[],0⟩) ?_ (by intro i e; cases e <;> exact Nat.le_of_ble_eq_true rfl) (by kernel_rfl) (by kernel_rfl) (by kernel_rfl) (.k (.s (cleanMap (([] : List Int)) _ cl_i)) (.k (.c rfl) (.k (.c rfl) .z))) .z
      refine run_t (by kernel_rfl) ?_
      refine inbR ?_
      refine thenR ?_
      replace h := Option.some.inj h; subst h
      exact fin_r (by kernel_rfl) rfl
     ·refine run_cF 45 (c46 57) (c46 60) (!r9) hc10 (by kernel_rfl) (by kernel_rfl) ?_
      refine run1z (c46 62) [{},{ k := 1,n := a0.length },{},{},{ k := 1,n := a1.length }] [0,1,2,49] [.sl false (a0.map (SL E_GTone)),.sl false (a1.map E_GInstrument),.i a2,.bool (decide ((wr (a2 * (a1.length : Int))) < (a0.length : Int)))] ⟨[],0⟩ _ (by kernel_rfl) (cjC (mapLen a0 (SL E_GTone)) (cj1 (mapLen a1 E_GInstrument))) ?_
      rcases iteE h with ⟨hc11,h⟩ | ⟨hc11,h⟩
      ·refine run_cT 49 (c46 63) (c46 66) (decide ((wr (a2 * (a1.length : Int))) < (a0.length : Int))) hc11 (by kernel_rfl) (by kernel_rfl) ?_
       refine run1z (c46 65) [] [6,7,8] [.sl true [],.i 0,.i 90] ⟨[],0⟩ _ (by kernel_rfl) cj0 ?_
       refine run_i 0 [] [6,7,8] [.sl true [],.i 0,.i 90] (xs := [.sl false (([] : List Int).map AV.i),.i 0,.i 90]) (S2 := ⟨[],0⟩) ?_ (by intro i e; cases e <;> exact Nat.le_of_ble_eq_true rfl) (by kernel_rfl) (by kernel_rfl) (by kernel_rfl) (.k (.s (cleanMap (([] : List Int)) _ cl_i)) (.k (.c rfl) (.k (.c rfl) .z))) .z
       refine run_t (by kernel_rfl) ?_
       refine inbR ?_
       refine thenR ?_
       replace h := Option.some.inj h; subst h
       exact fin_r (by kernel_rfl) rfl
      ·refine run_cF 49 (c46 63) (c46 66) (decide ((wr (a2 * (a1.length : Int))) < (a0.length : Int))) hc11 (by kernel_rfl) (by kernel_rfl) ?_
       refine run_k (by kernel_rfl) ?_
       refine inbN ?_
       refine thenN ?_
       obtain ⟨hn12,h⟩ := needE h
       obtain ⟨hn13,h⟩ := needE h
       let v_p : AV := .sl false (a0.map (SL E_GTone))
       let v_s : AV := .sl false (a1.map E_GInstrument)
       refine run1z (c46 69) [{},{ k := 1,n := a0.length },{ k := 1,n := (a0.length : Int).toNat,l := List.replicate (a0.length : Int).toNat (.sl true []) }] [0,1,2,13] [v_p,v_s,.i a2,.ms 0 0 (a0.length : Int).toNat] ⟨[(0,.cells 1 (List.replicate (a0.length : Int).toNat (.sl true [])))],1⟩ _ (by kernel_rfl) (cjC (mapLen a0 (SL E_GTone)) (cjC (hn12) (cjC (Int.le_refl (a0.length : Int)) (cjC (hn13) (cjC (Eq.refl ((a0.length : Int).toNat)) (cj1 (Eq.refl (List.replicate (a0.length : Int).toNat (AV.sl true []))))))))) ?_
       refine run_s (c46 70) (c46 111) (by kernel_rfl) ?_
       refine run1z (c46 72) [{},{ k := 1,n := a0.length }] [1,2,13,60,61,62] [v_s,.i a2,.ms 0 0 (a0.length : Int).toNat,v_p,.i (a0.length : Int),.i 0] ⟨[(0,.cells 1 (List.replicate (a0.length : Int).toNat (.sl true [])))],1⟩ _ (by kernel_rfl) (cj1 (mapLen a0 (SL E_GTone))) ?_
       obtain ⟨ol2x,hll2x,h⟩ := bindE h
       refine run_tq (fun (l2x_13 : (List (List Int))) => (zipE [1,2,13] [v_s,.i a2,.ms 0 0 l2x_13.length])) (fun (l2x_13 : (List (List Int))) => ⟨[(0,.cells 1 (l2x_13.map (SL AV.i)))],1⟩) (fun j => ol2x = .inl j) (fun kl2 => ?_) ?_
       ·refine run_b 4 (c46 73) (by kernel_rfl) ?_
        refine run_l (c46 74) _ hll2x (fun (q : List (List Int)) => (zipE [1,2,13,60,61,62] [v_s,.i a2,.ms 0 0 (a0.length : Int).toNat,v_p,.i (a0.length : Int),.i (q.length : Int)])) (fun (q : List (List Int)) => ⟨[(0,.cells 1 (q.map (SL AV.i) ++ List.replicate ((a0.length : Int).toNat - q.length) (.sl true [])))],1⟩) [] (by intro i e; cases e <;> exact Nat.le_of_ble_eq_true rfl) (by kernel_rfl) (mkInto (ks := [1,2,13,60,61,62]) (ys := [v_s,.i a2,.ms 0 0 (a0.length : Int).toNat,v_p,.i (a0.length : Int),.i 0]) (by kernel_rfl) (by kernel_rfl) (.k (.c (cleanMap _ _ cl_GInstrument)) (.k (.c rfl) (.k (.ms rfl rfl) (.k (.c (cleanMap _ _ (cl_SL cl_GTone))) (.k (.c rfl) (.k (.c rfl) .z)))))) (.k (x' := .cells 1 (List.replicate (a0.length : Int).toNat (.sl true []))) (by kernel_rfl) (.cells (.r (cleanRep _))) .z)) ?_
        intro q out hl2 rl2
        refine run1z (c46 76) [] [1,2,13,60,61,62,63] [v_s,.i a2,.ms 0 0 (a0.length : Int).toNat,v_p,.i (a0.length : Int),.i (q.length : Int),.bool (decide ((q.length : Int) < (a0.length : Int)))] ⟨[(0,.cells 1 (q.map (SL AV.i) ++ List.replicate ((a0.length : Int).toNat - q.length) (.sl true [])))],1⟩ _ (by kernel_rfl) cj0 ?_
        refine run_s (c46 77) (c46 80) (by kernel_rfl) ?_
        rcases iteE hl2 with ⟨hc14,hl2⟩ | ⟨hc14,hl2⟩
        ·refine run_cT 63 (c46 78) (c46 79) (decide ((q.length : Int) < (a0.length : Int))) hc14 (by kernel_rfl) (by kernel_rfl) ?_
         have hq : q.length < a0.length := by have := of_decide_eq_true hc14; omega
         refine run_k (by kernel_rfl) ?_
         refine thenN ?_
         refine run_s (c46 81) (c46 110) (by kernel_rfl) ?_
         refine run_b 5 (c46 82) (by kernel_rfl) ?_
         obtain ⟨y15,hy15,hl2⟩ := bindE hl2
         refine run1z (c46 84) [{},{ k := 1,x := (SL E_GTone) y15 }] [1,2,13,14,15,60,61,62] [v_s,.i a2,.ms 0 0 (a0.length : Int).toNat,.i (q.length : Int),.sl false (y15.map E_GTone),v_p,.i (a0.length : Int),.i (q.length : Int)] ⟨[(0,.cells 1 (q.map (SL AV.i) ++ List.replicate ((a0.length : Int).toNat - q.length) (.sl true [])))],1⟩ _ (by kernel_rfl) (cjC ((ixE hy15).1) (cj1 (mapGet (SL E_GTone) (ixE hy15).2))) ?_
         refine run1z (c46 86) [{},{ k := 1,n := a1.length }] [1,2,13,14,15,60,61,62,67,68,69] [v_s,.i a2,.ms 0 0 (a0.length : Int).toNat,.i (q.length : Int),.sl false (y15.map E_GTone),v_p,.i (a0.length : Int),.i (q.length : Int),v_s,.i (a1.length : Int),.i 0] ⟨[(0,.cells 1 (q.map (SL AV.i) ++ List.replicate ((a0.length : Int).toNat - q.length) (.sl true [])))],1⟩ _ (by kernel_rfl) (cj1 (mapLen a1 E_GInstrument)) ?_
         rw [rowsNext (a := q.length) (n := (a0.length : Int).toNat) (by omega)]
         refine run_i 1 [] [1,2,13,14,15,60,61,62,67,68,69] [v_s,.i a2,.ms 0 0 (a0.length : Int).toNat,.i (q.length : Int),.sl false (y15.map E_GTone),v_p,.i (a0.length : Int),.i (q.length : Int),v_s,.i (a1.length : Int),.i 0] (xs := [v_s,.i a2,.ms 0 0 (a0.length : Int).toNat,.i (q.length : Int),.sl false (y15.map E_GTone),v_p,.i (a0.length : Int),.i (q.length : Int),v_s,.i (a1.length : Int),.i 0]) (S2 := ⟨[(1,.cells 1 []),(0,.cells 1 (q.map (SL AV.i) ++ .ms 1 0 0 :: List.replicate ((a0.length : Int).toNat - q.length - 1) (.sl true [])))],2⟩) ?_ (by intro i e; cases e <;> exact Nat.le_of_ble_eq_true rfl) (by kernel_rfl) (by kernel_rfl) (by kernel_rfl) (.k (.c (cleanMap _ _ cl_GInstrument)) (.k (.c rfl) (.k (.ms rfl rfl) (.k (.c rfl) (.k (.c (cleanMap _ _ cl_GTone)) (.k (.c (cleanMap _ _ (cl_SL cl_GTone))) (.k (.c rfl) (.k (.c rfl) (.k (.c (cleanMap _ _ cl_GInstrument)) (.k (.c rfl) (.k (.c rfl) .z))))))))))) (.n (by kernel_rfl) (by kernel_rfl) (by kernel_rfl) (.k (x' := .cells 1 (q.map (SL AV.i) ++ .sl true [] :: List.replicate ((a0.length : Int).toNat - q.length - 1) (.sl true []))) (by kernel_rfl) (.cells (.p (.r (cleanMap _ _ (cl_SL cl_i))) (.k .n (.r (cleanRep _))))) .z))
         obtain ⟨ol3x,hll3x,hl2⟩ := bindE hl2
         refine run_tq (fun (l3x_13 : (List Int)) => (zipE [1,2,13,60,61,62] [v_s,.i a2,.ms 0 0 (a0.length : Int).toNat,v_p,.i (a0.length : Int),.i (q.length : Int)])) (fun (l3x_13 : (List Int)) => ⟨[(0,.cells 1 (q.map (SL AV.i) ++ .sl false (l3x_13.map AV.i) :: List.replicate ((a0.length : Int).toNat - q.length - 1) (.sl true [])))],3⟩) (fun j => ol3x = .inl j) (fun kl3 => ?_) ?_
         ·refine run_b 6 (c46 87) (by kernel_rfl) ?_
          refine run_l (c46 88) _ hll3x (fun ((w,k) : (List Int × Int)) => (zipE [1,2,13,14,15,60,61,62,67,68,69] [v_s,.i a2,.ms 0 0 (a0.length : Int).toNat,.i (q.length : Int),.sl false (y15.map E_GTone),v_p,.i (a0.length : Int),.i (q.length : Int),v_s,.i (a1.length : Int),.i k])) (fun ((w,k) : (List Int × Int)) => ⟨[(2,.cells 1 (w.map AV.i)),(0,.cells 1 (q.map (SL AV.i) ++ .ms 2 0 w.length :: List.replicate ((a0.length : Int).toNat - q.length - 1) (.sl true [])))],3⟩) [(2,1)] (by intro i e; cases e <;> exact Nat.le_of_ble_eq_true rfl) (by kernel_rfl) (mkInto (ks := [1,2,13,14,15,60,61,62,67,68,69]) (ys := [v_s,.i a2,.ms 0 0 (a0.length : Int).toNat,.i (q.length : Int),.sl false (y15.map E_GTone),v_p,.i (a0.length : Int),.i (q.length : Int),v_s,.i (a1.length : Int),.i 0]) (by kernel_rfl) (by kernel_rfl) (.k (.c (cleanMap _ _ cl_GInstrument)) (.k (.c rfl) (.k (.ms rfl rfl) (.k (.c rfl) (.k (.c (cleanMap _ _ cl_GTone)) (.k (.c (cleanMap _ _ (cl_SL cl_GTone))) (.k (.c rfl) (.k (.c rfl) (.k (.c (cleanMap _ _ cl_GInstrument)) (.k (.c rfl) (.k (.c rfl) .z))))))))))) (.k (x' := .cells 1 []) (by kernel_rfl) (.cells .z) (.k (x' := .cells 1 (q.map (SL AV.i) ++ .ms 1 0 0 :: List.replicate ((a0.length : Int).toNat - q.length - 1) (.sl true []))) (by kernel_rfl) (.cells (.p (.r (cleanMap _ _ (cl_SL cl_i))) (.k (.ms rfl rfl) (.r (cleanRep _))))) .z))) ?_
          rintro ⟨w,k⟩ out hl3 rl3
          let b_r : Blk := .cells 1 (w.map AV.i)
          let b_t : Blk := .cells 1 (q.map (SL AV.i) ++ .ms 2 0 w.length :: List.replicate ((a0.length : Int).toNat - q.length - 1) (.sl true []))
          refine run1z (c46 90) [] [1,2,13,14,15,60,61,62,67,68,69,70] [v_s,.i a2,.ms 0 0 (a0.length : Int).toNat,.i (q.length : Int),.sl false (y15.map E_GTone),v_p,.i (a0.length : Int),.i (q.length : Int),v_s,.i (a1.length : Int),.i k,.bool (decide (k < (a1.length : Int)))] ⟨[(2,b_r),(0,b_t)],3⟩ _ (by kernel_rfl) cj0 ?_
          refine run_s (c46 91) (c46 94) (by kernel_rfl) ?_
          rcases iteE hl3 with ⟨hc16,hl3⟩ | ⟨hc16,hl3⟩
          ·refine run_cT 70 (c46 92) (c46 93) (decide (k < (a1.length : Int))) hc16 (by kernel_rfl) (by kernel_rfl) ?_
           refine run_k (by kernel_rfl) ?_
           refine thenN ?_
           refine run_s (c46 95) (c46 109) (by kernel_rfl) ?_
           refine run_b 7 (c46 96) (by kernel_rfl) ?_
           obtain ⟨y17,hy17,hl3⟩ := bindE hl3
           refine run1z (c46 98) [{ k := 1,x := E_GInstrument y17 }] [1,2,13,14,15,17,60,61,62,67,68,69] [v_s,.i a2,.ms 0 0 (a0.length : Int).toNat,.i (q.length : Int),.sl false (y15.map E_GTone),.mp 3 0 0,v_p,.i (a0.length : Int),.i (q.length : Int),v_s,.i (a1.length : Int),.i k] ⟨[(3,.cells 2 [E_GInstrument y17]),(2,b_r),(0,b_t)],4⟩ _ (by kernel_rfl) (cjC ((ixE hy17).1) (cj1 (mapGet E_GInstrument (ixE hy17).2))) ?_
           obtain ⟨r18,hr18,hl3⟩ := bindE hl3
           refine run1z (c46 100) [{},{},{},{ c := some (.tup [.i r18.1,.i r18.2],⟨[(3,.cells 2 [E_GInstrument y17]),(2,b_r),(0,b_t)],4⟩) }] [1,2,13,14,15,18,19,60,61,62,67,68,69] [v_s,.i a2,.ms 0 0 (a0.length : Int).toNat,.i (q.length : Int),.sl false (y15.map E_GTone),.i r18.1,.i r18.2,v_p,.i (a0.length : Int),.i (q.length : Int),v_s,.i (a1.length : Int),.i k] ⟨[(2,b_r),(0,b_t)],4⟩ _ (by kernel_rfl) (cj1 (APure.co (ok := fun _ => false) (π := id) (args := [.sl true [.sl false (y15.map E_GTone)],E_GInstrument y17,.i 0]) (f105_ok ([y15] : List (List GTone)) y17 0 _ hr18) (.k (.s (cleanMap (([y15] : List (List GTone))) _ (cl_SL cl_GTone))) (.k (.c (cl_GInstrument y17)) (.k (.c rfl) .z))) ⟨[(3,.cells 2 [E_GInstrument y17]),(2,b_r),(0,b_t)],4⟩)) ?_
           refine run_s (c46 101) (c46 108) (by kernel_rfl) ?_
           refine run1z (c46 103) [] [1,2,13,14,15,18,19,60,61,62,67,68,69,81] [v_s,.i a2,.ms 0 0 (a0.length : Int).toNat,.i (q.length : Int),.sl false (y15.map E_GTone),.i r18.1,.i r18.2,v_p,.i (a0.length : Int),.i (q.length : Int),v_s,.i (a1.length : Int),.i k,.bool (decide (r18.2 ≠ 0))] ⟨[(2,b_r),(0,b_t)],4⟩ _ (by kernel_rfl) cj0 ?_
           rcases iteE hl3 with ⟨hc19,hl3⟩ | ⟨hc19,hl3⟩
           ·refine run_cT 81 (c46 104) (c46 107) (decide (r18.2 ≠ 0)) hc19 (by kernel_rfl) (by kernel_rfl) ?_
            refine run1z (c46 106) [] [6,7,8] [.sl true [],.i 0,.i r18.2] ⟨[],4⟩ _ (by kernel_rfl) cj0 ?_
            replace hl3 := Option.some.inj hl3; subst hl3
            have hr := rl3 _ rfl
            subst hr
            replace hl2 := elimR hl2
            replace hl2 := Option.some.inj hl2; subst hl2
            have hr := rl2 _ rfl
            subst hr
            replace h := elimR h
            refine run_i 4 [] [6,7,8] [.sl true [],.i 0,.i r18.2] (xs := [.sl false (([] : List Int).map AV.i),.i 0,.i r18.2]) (S2 := ⟨[],4⟩) ?_ (by intro i e; cases e <;> exact Nat.le_of_ble_eq_true rfl) (by kernel_rfl) (by kernel_rfl) (by kernel_rfl) (.k (.s (cleanMap (([] : List Int)) _ cl_i)) (.k (.c rfl) (.k (.c rfl) .z))) .z
            refine run_t (by kernel_rfl) ?_
            refine thenR ?_
            refine inbR ?_
            refine thenR ?_
            refine ⟨⟨_,rfl⟩,?_⟩
            refine inbR ?_
            refine inbR ?_
            refine thenR ?_
            refine ⟨⟨_,rfl⟩,?_⟩
            refine inbR ?_
            refine thenR ?_
            replace h := Option.some.inj h; subst h
            exact fin_r (by kernel_rfl) rfl
           ·refine run_cF 81 (c46 104) (c46 107) (decide (r18.2 ≠ 0)) hc19 (by kernel_rfl) (by kernel_rfl) ?_
            refine run_k (by kernel_rfl) ?_
            refine thenN ?_
            obtain ⟨hn21,hl3⟩ := needE hl3
            refine run0z [{},{},{},{},{ k := 1,n := (q.length : Int).toNat },{ k := 1,x := .ms 2 0 w.length },{},{},{ k := 1,n := (w ++ [r18.1]).length,l := (w ++ [r18.1]).map AV.i },{ k := 1,n := (q.length : Int).toNat },{ k := 1,x := .ms 2 0 w.length,l := q.map (SL AV.i) ++ .ms 4 0 (w ++ [r18.1]).length :: List.replicate ((a0.length : Int).toNat - q.length - 1) (.sl true []) }] [1,2,13,14,15,60,61,62,67,68,69] [v_s,.i a2,.ms 0 0 (a0.length : Int).toNat,.i (q.length : Int),.sl false (y15.map E_GTone),v_p,.i (a0.length : Int),.i (q.length : Int),v_s,.i (a1.length : Int),.i k] ⟨[(4,.cells 1 ((w ++ [r18.1]).map AV.i)),(0,.cells 1 (q.map (SL AV.i) ++ .ms 4 0 (w ++ [r18.1]).length :: List.replicate ((a0.length : Int).toNat - q.length - 1) (.sl true [])))],5⟩ _ (by kernel_rfl) (cjC (rowsNn q) (cjC (rowsLt hq) (cjC (Nat.zero_add (q.length : Int).toNat) (cjC (rowsGet (e := SL AV.i) q (.ms 2 0 w.length) (List.replicate ((a0.length : Int).toNat - q.length - 1) (AV.sl true []))) (cjC (@List.cons_ne_nil AV (.i r18.1) []) (cjC (mLe w AV.i) (cjC (hn21) (cjC (lenA w ([r18.1] : List Int)) (cjC (appA w ([r18.1] : List Int) AV.i) (cjC (fitsOne (P := Tryz.prog) (t := 3) (x := .i r18.1) (r := []) (by kernel_rfl)) (cjC (rowsNn q) (cjC (rowsLt hq) (cjC (Nat.zero_add (q.length : Int).toNat) (cjC (rowsGet (e := SL AV.i) q (.ms 2 0 w.length) (List.replicate ((a0.length : Int).toNat - q.length - 1) (AV.sl true []))) (cjC (by decide : (1 : Nat) ≤ 1) (cj1 (rowsSet (e := SL AV.i) q (.ms 2 0 w.length) (.ms 4 0 (w ++ [r18.1]).length) (List.replicate ((a0.length : Int).toNat - q.length - 1) (AV.sl true []))))))))))))))))))) ?_
            refine inbN ?_
            refine thenN ?_
            refine run0z [] [1,2,13,14,15,60,61,62,67,68,69] [v_s,.i a2,.ms 0 0 (a0.length : Int).toNat,.i (q.length : Int),.sl false (y15.map E_GTone),v_p,.i (a0.length : Int),.i (q.length : Int),v_s,.i (a1.length : Int),.i (wr (k + 1))] ⟨[(4,.cells 1 ((w ++ [r18.1]).map AV.i)),(0,.cells 1 (q.map (SL AV.i) ++ .ms 4 0 (w ++ [r18.1]).length :: List.replicate ((a0.length : Int).toNat - q.length - 1) (.sl true [])))],5⟩ _ (by kernel_rfl) cj0 ?_
            replace hl3 := Option.some.inj hl3; subst hl3
            exact ⟨_,rfl,pi [(2,4)],mkInto (ks := [1,2,13,14,15,60,61,62,67,68,69]) (ys := [v_s,.i a2,.ms 0 0 (a0.length : Int).toNat,.i (q.length : Int),.sl false (y15.map E_GTone),v_p,.i (a0.length : Int),.i (q.length : Int),v_s,.i (a1.length : Int),.i (wr (k + 1))]) (by kernel_rfl) (by kernel_rfl) (.k (.c (cleanMap _ _ cl_GInstrument)) (.k (.c rfl) (.k (.ms rfl rfl) (.k (.c rfl) (.k (.c (cleanMap _ _ cl_GTone)) (.k (.c (cleanMap _ _ (cl_SL cl_GTone))) (.k (.c rfl) (.k (.c rfl) (.k (.c (cleanMap _ _ cl_GInstrument)) (.k (.c rfl) (.k (.c rfl) .z))))))))))) (.k (x' := .cells 1 ((w ++ [r18.1]).map AV.i)) (by kernel_rfl) (.cells (.r (cleanMap _ _ cl_i))) (.k (x' := .cells 1 (q.map (SL AV.i) ++ .ms 4 0 (w ++ [r18.1]).length :: List.replicate ((a0.length : Int).toNat - q.length - 1) (.sl true []))) (by kernel_rfl) (.cells (.p (.r (cleanMap _ _ (cl_SL cl_i))) (.k (.ms rfl rfl) (.r (cleanRep _))))) .z))⟩
          ·refine run_cF 70 (c46 92) (c46 93) (decide (k < (a1.length : Int))) hc16 (by kernel_rfl) (by kernel_rfl) ?_
           replace hl3 := Option.some.inj hl3; subst hl3
           have hr := rl3 _ rfl
           subst hr
           refine awp_p [1,2,13,60,61,62] [2,0] (zipE [1,2,13,60,61,62] [v_s,.i a2,.ms 0 0 (a0.length : Int).toNat,v_p,.i (a0.length : Int),.i (q.length : Int)]) ⟨[(2,b_r),(0,b_t)],3⟩ (by kernel_rfl) (?_)
           refine run_z 2 1 (w.map AV.i) [1,2,13,60,61,62] [v_s,.i a2,.ms 0 0 (a0.length : Int).toNat,v_p,.i (a0.length : Int),.i (q.length : Int)] (xs := [v_s,.i a2,.ms 0 0 (a0.length : Int).toNat,v_p,.i (a0.length : Int),.i (q.length : Int)]) (S2 := ⟨[(0,.cells 1 (q.map (SL AV.i) ++ .sl false (w.map AV.i) :: List.replicate ((a0.length : Int).toNat - q.length - 1) (.sl true [])))],3⟩) ?_ (by kernel_rfl) (by kernel_rfl) (.k (.r _) (.k (.r _) (.k (.r _) (.k (.r _) (.k (.r _) (.k (.r _) .z)))))) (.k (x' := b_t) rfl (by kernel_rfl) (.cells (fzRows _ _ (.m (mLe w AV.i) (mapAll w AV.i)))) .z) rfl rfl
           refine run_e 6 (by kernel_rfl) ?_
           refine thenE ?_
           refine ⟨⟨_,rfl⟩,?_⟩
           refine inbE ?_
           exact kl3 w rfl
         ·rintro l3x_13 rfl
          replace hl2 := elimL hl2
          refine inbN ?_
          refine thenN ?_
          refine run0z [] [1,2,13,60,61,62] [v_s,.i a2,.ms 0 0 (a0.length : Int).toNat,v_p,.i (a0.length : Int),.i (wr ((q.length : Int) + 1))] ⟨[(0,.cells 1 (q.map (SL AV.i) ++ .sl false (l3x_13.map AV.i) :: List.replicate ((a0.length : Int).toNat - q.length - 1) (.sl true [])))],3⟩ _ (by kernel_rfl) cj0 ?_
          replace hl2 := Option.some.inj hl2; subst hl2
          rw [rowsWr q l3x_13 hq hn13,rowsSnoc q l3x_13]
          exact ⟨_,rfl,pi [],mkInto (ks := [1,2,13,60,61,62]) (ys := [v_s,.i a2,.ms 0 0 (a0.length : Int).toNat,v_p,.i (a0.length : Int),.i ((q ++ [l3x_13]).length : Int)]) (by kernel_rfl) (by kernel_rfl) (.k (.c (cleanMap _ _ cl_GInstrument)) (.k (.c rfl) (.k (.ms rfl rfl) (.k (.c (cleanMap _ _ (cl_SL cl_GTone))) (.k (.c rfl) (.k (.c rfl) .z)))))) (.k (x' := .cells 1 ((q ++ [l3x_13]).map (SL AV.i) ++ List.replicate ((a0.length : Int).toNat - (q ++ [l3x_13]).length) (.sl true []))) (by kernel_rfl) (.cells (.p (.r (cleanMap _ _ (cl_SL cl_i))) (.r (cleanRep _)))) .z)⟩
        ·refine run_cF 63 (c46 78) (c46 79) (decide ((q.length : Int) < (a0.length : Int))) hc14 (by kernel_rfl) (by kernel_rfl) ?_
         obtain ⟨hqe,hl2⟩ := needE hl2
         replace hl2 := Option.some.inj hl2; subst hl2
         have hr := rl2 _ rfl
         subst hr
         have hN : (a0.length : Int).toNat = q.length := by omega
         have hE : q.map (SL AV.i) ++ List.replicate ((a0.length : Int).toNat - q.length) (AV.sl true []) = q.map (SL AV.i) := by rw [hN,Nat.sub_self]; simp
         rw [hE,hN]
         refine awp_p [1,2,13] [0] (zipE [1,2,13] [v_s,.i a2,.ms 0 0 q.length]) ⟨[(0,.cells 1 (q.map (SL AV.i)))],1⟩ (by kernel_rfl) (?_)
         refine run_e 4 (by kernel_rfl) ?_
         refine thenE ?_
         refine ⟨⟨_,rfl⟩,?_⟩
         refine inbE ?_
         exact kl2 q rfl
       ·rintro l2x_13 rfl
        replace h := elimL h
        refine thenN ?_
        refine run_z 0 1 (l2x_13.map (SL AV.i)) [1,2,13] [.sl false (a1.map E_GInstrument),.i a2,.ms 0 0 l2x_13.length] (xs := [.sl false (a1.map E_GInstrument),.i a2,.sl false (l2x_13.map (SL AV.i))]) (S2 := ⟨[],1⟩) ?_ (by kernel_rfl) (by kernel_rfl) (.k (.r _) (.k (.r _) (.k (.m (mLe l2x_13 (SL AV.i)) (mapAll l2x_13 (SL AV.i))) .z))) .z rfl rfl
        obtain ⟨r22,hr22,h⟩ := bindE h
        refine run1z (c46 113) [{},{},{ k := 1,n := a1.length },{},{ c := some (.tup [.sl false (r22.1.map AV.i),.i r22.2],⟨[],1⟩) }] [6,7] [.sl false (r22.1.map AV.i),.i r22.2] ⟨[],1⟩ _ (by kernel_rfl) (cjC (mapLen a1 E_GInstrument) (cj1 (f106_ok l2x_13 (a1.length : Int) a2 _ hr22 ⟨[],1⟩))) ?_
        refine run1z (c46 115) [] [6,7,8] [.sl false (r22.1.map AV.i),.i r22.2,.i 0] ⟨[],1⟩ _ (by kernel_rfl) cj0 ?_
        refine run_t (by kernel_rfl) ?_
        replace h := Option.some.inj h; subst h
        exact fin_r (by kernel_rfl) rfl
def f107 (a0 : Int) : Option Int := bif (decide (a0 = 0)) then (some 90) else (bif (decide (6 < a0)) then (some 2) else (some 0))
theorem f107_ok (a0 : Int) (r : Int) (h : f107 a0 = some r) : APure Tryz.prog 107 [.i a0] (.i r) := by
 refine apure (clK rfl clZ) rfl ?_
 refine run_f 7 [.tmp 2] (c107 0) (zipE [0] [.i a0]) (by kernel_rfl) (by kernel_rfl) (by kernel_rfl) rfl ?_
 unfold f107 at h
 refine run1z (c107 2) [] [0] [.i a0] ⟨[],0⟩ _ (by kernel_rfl) cj0 ?_
 refine run_s (c107 3) (c107 10) (by kernel_rfl) ?_
 refine run1z (c107 5) [] [0,4] [.i a0,.bool (decide (a0 = 0))] ⟨[],0⟩ _ (by kernel_rfl) cj0 ?_
 rcases iteE h with ⟨hc1,h⟩ | ⟨hc1,h⟩
 ·refine run_cT 4 (c107 6) (c107 9) (decide (a0 = 0)) hc1 (by kernel_rfl) (by kernel_rfl) ?_
  refine run1z (c107 8) [] [2] [.i 90] ⟨[],0⟩ _ (by kernel_rfl) cj0 ?_
  refine run_t (by kernel_rfl) ?_
  refine thenR ?_
  replace h := Option.some.inj h; subst h
  exact fin_r (by kernel_rfl) rfl
 ·refine run_cF 4 (c107 6) (c107 9) (decide (a0 = 0)) hc1 (by kernel_rfl) (by kernel_rfl) ?_
  refine run_k (by kernel_rfl) ?_
  refine thenN ?_
  refine run_s (c107 11) (c107 18) (by kernel_rfl) ?_
  refine run1z (c107 13) [] [6] [.bool (decide (6 < a0))] ⟨[],0⟩ _ (by kernel_rfl) cj0 ?_
  rcases iteE h with ⟨hc2,h⟩ | ⟨hc2,h⟩
  ·refine run_cT 6 (c107 14) (c107 17) (decide (6 < a0)) hc2 (by kernel_rfl) (by kernel_rfl) ?_
   refine run1z (c107 16) [] [2] [.i 2] ⟨[],0⟩ _ (by kernel_rfl) cj0 ?_
   refine run_t (by kernel_rfl) ?_
   refine thenR ?_
   replace h := Option.some.inj h; subst h
   exact fin_r (by kernel_rfl) rfl
  ·refine run_cF 6 (c107 14) (c107 17) (decide (6 < a0)) hc2 (by kernel_rfl) (by kernel_rfl) ?_
   refine run_k (by kernel_rfl) ?_
   refine thenN ?_
   refine run1z (c107 20) [] [2] [.i 0] ⟨[],0⟩ _ (by kernel_rfl) cj0 ?_
   refine run_t (by kernel_rfl) ?_
   replace h := Option.some.inj h; subst h
   exact fin_r (by kernel_rfl) rfl
def f108 (a0 : GInstrument) : Option Int := ((bif (decide (14 < (a0.courses.length : Int))) then (some true) else (some (decide (18 < (a0.steps.length : Int))))) : Option Bool).bind fun (j1_17 : Bool) => bif j1_17 then (some 2) else (bif (decide ((a0.courses.length : Int) = 0)) then (some 11) else ((loopN (σ := (Int × Int)) (τ := (Unit ⊕ Int)) (fun ((l2_3,l2_4) : (Int × Int)) => bif (decide (l2_4 < (a0.steps.length : Int))) then ((((ix a0.steps l2_4).bind fun y5 => bif (decide (y5 ≤ l2_3)) then (some true) else (some (decide (127 < y5)))) : Option Bool).bind fun (j3_43 : Bool) => bif j3_43 then (some (.inr (.inr 11))) else ((ix a0.steps l2_4).bind fun y8 => some (.inl (y8,(wr (l2_4 + 1)))))) else (some (.inr (.inl ())))) FUEL (0,0)).bind (Sum.elim (fun (_ : Unit) => (loopN (σ := Int) (τ := (Unit ⊕ Int)) (fun (l4_5 : Int) => bif (decide (l4_5 < (a0.courses.length : Int))) then ((ix a0.courses l4_5).bind fun y10 => ((bif (decide (y10.frets < 0)) then (some true) else (some (decide ((a0.steps.length : Int) < y10.frets)))) : Option Bool).bind fun (j5_71 : Bool) => bif j5_71 then (some (.inr (.inr 13))) else (((bif (decide (y10.pitch < 0)) then (some true) else (some (decide (127 < y10.pitch)))) : Option Bool).bind fun (j6_79 : Bool) => bif j6_79 then (some (.inr (.inr 10))) else (((bif (decide (0 < y10.frets)) then ((ix a0.steps (wr (y10.frets - 1))).bind fun y16 => some (wr (y10.pitch + y16))) else (some y10.pitch)) : Option Int).bind fun (j7_7 : Int) => ((bif y10.octave then (some (wr (j7_7 + 12))) else (some j7_7)) : Option Int).bind fun (j8_7 : Int) => bif (decide (127 < j8_7)) then (some (.inr (.inr 10))) else (some (.inl (wr (l4_5 + 1))))))) else (some (.inr (.inl ())))) FUEL 0).bind (Sum.elim (fun (_ : Unit) => some 0) some)) some)))
theorem f108_ok (a0 : GInstrument) (r : Int) (h : f108 a0 = some r) : APure Tryz.prog 108 [E_GInstrument a0] (.i r) := by
 refine apure (clK (cl_GInstrument a0) clZ) rfl ?_
 refine run_f 100 [.tmp 2] (c108 0) (zipE [0] [E_GInstrument a0]) (by kernel_rfl) (by kernel_rfl) (by kernel_rfl) rfl ?_
 unfold f108 at h
 let b_0 : Blk := .cells 2 [E_GInstrument a0]
 refine run1z (c108 2) [] [1] [.mp 0 0 0] ⟨[(0,b_0)],1⟩ _ (by kernel_rfl) cj0 ?_
 refine run_s (c108 3) (c108 10) (by kernel_rfl) ?_
 obtain ⟨j1_17,hj1,h⟩ := bindE h
 refine run_gq (c108 5) (fun (j1_17 : Bool) => (zipE [1,17] [.mp 0 0 0,.bool j1_17])) (fun (j1_17 : Bool) => ⟨[(0,b_0)],1⟩) (fun j => j1_17 = j) (fun kj1 => ?_) ?_
 ·rcases iteE hj1 with ⟨hc1,hj1⟩ | ⟨hc1,hj1⟩
  ·replace hj1 := Option.some.inj hj1; subst hj1
   exact run1z (c108 5) [{},{},{ k := 1,n := a0.courses.length },{},{},{ g := false },{ g := false },{ g := false },{ g := false },{ k := 1,b := true }] [1,17] [.mp 0 0 0,.bool true] ⟨[(0,b_0)],1⟩ _ (by kernel_rfl) (cjC (mapLen a0.courses E_GCourse) (cjC (hc1) (cjC (hc1) (cjC (hc1) (cjC (hc1) (cj1 (hc1))))))) (kj1 true rfl)
  ·replace hj1 := Option.some.inj hj1; subst hj1
   exact run1z (c108 5) [{},{},{ k := 1,n := a0.courses.length },{},{},{},{},{ k := 1,n := a0.steps.length },{},{ k := 1,b := false }] [1,17] [.mp 0 0 0,.bool (decide (18 < (a0.steps.length : Int)))] ⟨[(0,b_0)],1⟩ _ (by kernel_rfl) (cjC (mapLen a0.courses E_GCourse) (cjC (hc1) (cjC (hc1) (cjC (hc1) (cjC (mapLen a0.steps AV.i) (cjC (hc1) (cj1 (hc1)))))))) (kj1 (decide (18 < (a0.steps.length : Int))) rfl)
 ·rintro _ rfl
  rcases iteE h with ⟨hc2,h⟩ | ⟨hc2,h⟩
  ·refine run_cT 17 (c108 6) (c108 9) j1_17 hc2 (by kernel_rfl) (by kernel_rfl) ?_
   refine run1z (c108 8) [] [2] [.i 2] ⟨[],1⟩ _ (by kernel_rfl) cj0 ?_
   refine run_t (by kernel_rfl) ?_
   refine thenR ?_
   replace h := Option.some.inj h; subst h
   exact fin_r (by kernel_rfl) rfl
  ·refine run_cF 17 (c108 6) (c108 9) j1_17 hc2 (by kernel_rfl) (by kernel_rfl) ?_
   refine run_k (by kernel_rfl) ?_
   refine thenN ?_
   refine run_s (c108 11) (c108 18) (by kernel_rfl) ?_
   refine run1z (c108 13) [{},{},{ k := 1,n := a0.courses.length }] [1,21] [.mp 0 0 0,.bool (decide ((a0.courses.length : Int) = 0))] ⟨[(0,b_0)],1⟩ _ (by kernel_rfl) (cj1 (mapLen a0.courses E_GCourse)) ?_
   rcases iteE h with ⟨hc3,h⟩ | ⟨hc3,h⟩
   ·refine run_cT 21 (c108 14) (c108 17) (decide ((a0.courses.length : Int) = 0)) hc3 (by kernel_rfl) (by kernel_rfl) ?_
    refine run1z (c108 16) [] [2] [.i 11] ⟨[],1⟩ _ (by kernel_rfl) cj0 ?_
    refine run_t (by kernel_rfl) ?_
    refine thenR ?_
    replace h := Option.some.inj h; subst h
    exact fin_r (by kernel_rfl) rfl
   ·refine run_cF 21 (c108 14) (c108 17) (decide ((a0.courses.length : Int) = 0)) hc3 (by kernel_rfl) (by kernel_rfl) ?_
    refine run_k (by kernel_rfl) ?_
    refine thenN ?_
    refine run1z (c108 20) [] [1,3] [.mp 0 0 0,.i 0] ⟨[(0,b_0)],1⟩ _ (by kernel_rfl) cj0 ?_
    refine run_s (c108 21) (c108 43) (by kernel_rfl) ?_
    refine run1z (c108 23) [] [1,3,4] [.mp 0 0 0,.i 0,.i 0] ⟨[(0,b_0)],1⟩ _ (by kernel_rfl) cj0 ?_
    obtain ⟨ol2x,hll2x,h⟩ := bindE h
    refine run_tq (fun (_ : Unit) => (zipE [1] [.mp 0 0 0])) (fun (_ : Unit) => ⟨[(0,b_0)],1⟩) (fun j => ol2x = .inl j) (fun kl2 => ?_) ?_
    ·refine run_b 0 (c108 24) (by kernel_rfl) ?_
     refine run_l (c108 25) _ hll2x (fun ((l2_3,l2_4) : (Int × Int)) => (zipE [1,3,4] [.mp 0 0 0,.i l2_3,.i l2_4])) (fun ((l2_3,l2_4) : (Int × Int)) => ⟨[(0,b_0)],1⟩) [] (by intro i e; cases e <;> exact Nat.le_of_ble_eq_true rfl) (by kernel_rfl) (mkInto (ks := [1,3,4]) (ys := [.mp 0 0 0,.i 0,.i 0]) (by kernel_rfl) (by kernel_rfl) (.k (.mp rfl rfl) (.k (.c rfl) (.k (.c rfl) .z))) (.k rfl (.cells (.k (.c (cl_GInstrument a0)) .z)) .z)) ?_
     rintro ⟨l2_3,l2_4⟩ out hl2 rl2
     refine run_s (c108 26) (c108 31) (by kernel_rfl) ?_
     refine run1z (c108 28) [{},{},{},{ k := 1,n := a0.steps.length }] [1,3,4,26] [.mp 0 0 0,.i l2_3,.i l2_4,.bool (decide (l2_4 < (a0.steps.length : Int)))] ⟨[(0,b_0)],1⟩ _ (by kernel_rfl) (cj1 (mapLen a0.steps AV.i)) ?_
     rcases iteE hl2 with ⟨hc4,hl2⟩ | ⟨hc4,hl2⟩
     ·refine run_cT 26 (c108 29) (c108 30) (decide (l2_4 < (a0.steps.length : Int))) hc4 (by kernel_rfl) (by kernel_rfl) ?_
      refine run_k (by kernel_rfl) ?_
      refine thenN ?_
      refine run_s (c108 32) (c108 42) (by kernel_rfl) ?_
      refine run_b 1 (c108 33) (by kernel_rfl) ?_
      refine run_s (c108 34) (c108 41) (by kernel_rfl) ?_
      obtain ⟨j3_43,hj3,hl2⟩ := bindE hl2
      refine run_gq (c108 36) (fun (j3_43 : Bool) => (zipE [1,4,43] [.mp 0 0 0,.i l2_4,.bool j3_43])) (fun (j3_43 : Bool) => ⟨[(0,b_0)],1⟩) (fun j => j3_43 = j) (fun kj3 => ?_) ?_
      ·obtain ⟨y5,hy5,hj3⟩ := bindE hj3
       rcases iteE hj3 with ⟨hc6,hj3⟩ | ⟨hc6,hj3⟩
       ·replace hj3 := Option.some.inj hj3; subst hj3
        exact run1z (c108 36) [{},{},{},{ k := 1,x := AV.i y5 },{},{},{},{},{ g := false },{ g := false },{ g := false },{ g := false },{ g := false },{ g := false },{ k := 1,b := true }] [1,4,43] [.mp 0 0 0,.i l2_4,.bool true] ⟨[(0,b_0)],1⟩ _ (by kernel_rfl) (cjC ((ixE hy5).1) (cjC (mapGet AV.i (ixE hy5).2) (cjC (hc6) (cjC (hc6) (cjC (hc6) (cjC (hc6) (cjC (hc6) (cjC (hc6) (cj1 (hc6)))))))))) (kj3 true rfl)
       ·replace hj3 := Option.some.inj hj3; subst hj3
        exact run1z (c108 36) [{},{},{},{ k := 1,x := AV.i y5 },{},{},{},{},{},{},{},{ k := 1,x := AV.i y5 },{},{},{ k := 1,b := false }] [1,4,43] [.mp 0 0 0,.i l2_4,.bool (decide (127 < y5))] ⟨[(0,b_0)],1⟩ _ (by kernel_rfl) (cjC ((ixE hy5).1) (cjC (mapGet AV.i (ixE hy5).2) (cjC (hc6) (cjC (hc6) (cjC (hc6) (cjC (hc6) (cjC ((ixE hy5).1) (cjC (mapGet AV.i (ixE hy5).2) (cjC (hc6) (cjC (hc6) (cj1 (hc6)))))))))))) (kj3 (decide (127 < y5)) rfl)
      ·rintro _ rfl
       rcases iteE hl2 with ⟨hc7,hl2⟩ | ⟨hc7,hl2⟩
       ·refine run_cT 43 (c108 37) (c108 40) j3_43 hc7 (by kernel_rfl) (by kernel_rfl) ?_
        refine run1z (c108 39) [] [2] [.i 11] ⟨[],1⟩ _ (by kernel_rfl) cj0 ?_
        replace hl2 := Option.some.inj hl2; subst hl2
        have hr := rl2 _ rfl
        subst hr
        replace h := elimR h
        refine run_t (by kernel_rfl) ?_
        refine thenR ?_
        refine inbR ?_
        refine thenR ?_
        refine ⟨⟨_,rfl⟩,?_⟩
        refine inbR ?_
        refine thenR ?_
        replace h := Option.some.inj h; subst h
        exact fin_r (by kernel_rfl) rfl
       ·refine run_cF 43 (c108 37) (c108 40) j3_43 hc7 (by kernel_rfl) (by kernel_rfl) ?_
        refine run_k (by kernel_rfl) ?_
        refine thenN ?_
        obtain ⟨y8,hy8,hl2⟩ := bindE hl2
        refine run0z [{},{},{},{ k := 1,x := AV.i y8 }] [1,3,4] [.mp 0 0 0,.i y8,.i l2_4] ⟨[(0,b_0)],1⟩ _ (by kernel_rfl) (cjC ((ixE hy8).1) (cj1 (mapGet AV.i (ixE hy8).2))) ?_
        refine inbN ?_
        refine thenN ?_
        refine run0z [] [1,3,4] [.mp 0 0 0,.i y8,.i (wr (l2_4 + 1))] ⟨[(0,b_0)],1⟩ _ (by kernel_rfl) cj0 ?_
        replace hl2 := Option.some.inj hl2; subst hl2
        exact ⟨_,rfl,pi [],mkInto (ks := [1,3,4]) (ys := [.mp 0 0 0,.i y8,.i (wr (l2_4 + 1))]) (by kernel_rfl) (by kernel_rfl) (.k (.mp rfl rfl) (.k (.c rfl) (.k (.c rfl) .z))) (.k rfl (.cells (.k (.c (cl_GInstrument a0)) .z)) .z)⟩
     ·refine run_cF 26 (c108 29) (c108 30) (decide (l2_4 < (a0.steps.length : Int))) hc4 (by kernel_rfl) (by kernel_rfl) ?_
      replace hl2 := Option.some.inj hl2; subst hl2
      have hr := rl2 _ rfl
      subst hr
      refine awp_p [1] [0] (zipE [1] [.mp 0 0 0]) ⟨[(0,b_0)],1⟩ (by kernel_rfl) (?_)
      refine run_e 0 (by kernel_rfl) ?_
      refine thenE ?_
      refine ⟨⟨_,rfl⟩,?_⟩
      refine inbE ?_
      exact kl2 () rfl
    ·rintro ⟨⟩ rfl
     replace h := elimL h
     refine thenN ?_
     refine run_s (c108 44) (c108 96) (by kernel_rfl) ?_
     refine run1z (c108 46) [] [1,5] [.mp 0 0 0,.i 0] ⟨[(0,b_0)],1⟩ _ (by kernel_rfl) cj0 ?_
     obtain ⟨ol4x,hll4x,h⟩ := bindE h
     refine run_tq (fun (_ : Unit) => (zipE [] [])) (fun (_ : Unit) => ⟨[],1⟩) (fun j => ol4x = .inl j) (fun kl4 => ?_) ?_
     ·refine run_b 2 (c108 47) (by kernel_rfl) ?_
      refine run_l (c108 48) _ hll4x (fun (l4_5 : Int) => (zipE [1,5] [.mp 0 0 0,.i l4_5])) (fun (l4_5 : Int) => ⟨[(0,b_0)],1⟩) [] (by intro i e; cases e <;> exact Nat.le_of_ble_eq_true rfl) (by kernel_rfl) (mkInto (ks := [1,5]) (ys := [.mp 0 0 0,.i 0]) (by kernel_rfl) (by kernel_rfl) (.k (.mp rfl rfl) (.k (.c rfl) .z)) (.k rfl (.cells (.k (.c (cl_GInstrument a0)) .z)) .z)) ?_
      rintro l4_5 out hl4 rl4
      refine run_s (c108 49) (c108 54) (by kernel_rfl) ?_
      refine run1z (c108 51) [{},{},{},{ k := 1,n := a0.courses.length }] [1,5,53] [.mp 0 0 0,.i l4_5,.bool (decide (l4_5 < (a0.courses.length : Int)))] ⟨[(0,b_0)],1⟩ _ (by kernel_rfl) (cj1 (mapLen a0.courses E_GCourse)) ?_
      rcases iteE hl4 with ⟨hc9,hl4⟩ | ⟨hc9,hl4⟩
      ·refine run_cT 53 (c108 52) (c108 53) (decide (l4_5 < (a0.courses.length : Int))) hc9 (by kernel_rfl) (by kernel_rfl) ?_
       refine run_k (by kernel_rfl) ?_
       refine thenN ?_
       refine run_s (c108 55) (c108 95) (by kernel_rfl) ?_
       refine run_b 3 (c108 56) (by kernel_rfl) ?_
       obtain ⟨y10,hy10,hl4⟩ := bindE hl4
       let b_1 : Blk := .cells 3 [E_GCourse y10]
       let s_0 : St := ⟨[(1,b_1),(0,b_0)],2⟩
       refine run1z (c108 58) [{},{},{},{ k := 1,x := E_GCourse y10 }] [1,5,6] [.mp 0 0 0,.i l4_5,.mp 1 0 0] s_0 _ (by kernel_rfl) (cjC ((ixE hy10).1) (cj1 (mapGet E_GCourse (ixE hy10).2))) ?_
       refine run_s (c108 59) (c108 66) (by kernel_rfl) ?_
       obtain ⟨j5_71,hj5,hl4⟩ := bindE hl4
       refine run_gq (c108 61) (fun (j5_71 : Bool) => (zipE [1,5,6,71] [.mp 0 0 0,.i l4_5,.mp 1 0 0,.bool j5_71])) (fun (j5_71 : Bool) => s_0) (fun j => j5_71 = j) (fun kj5 => ?_) ?_
       ·rcases iteE hj5 with ⟨hc11,hj5⟩ | ⟨hc11,hj5⟩
        ·replace hj5 := Option.some.inj hj5; subst hj5
         exact run1z (c108 61) [{},{},{},{},{ g := false },{ g := false },{ g := false },{ g := false },{ g := false },{ g := false },{ k := 1,b := true }] [1,5,6,71] [.mp 0 0 0,.i l4_5,.mp 1 0 0,.bool true] s_0 _ (by kernel_rfl) (cjC (hc11) (cjC (hc11) (cjC (hc11) (cjC (hc11) (cjC (hc11) (cjC (hc11) (cj1 (hc11)))))))) (kj5 true rfl)
        ·replace hj5 := Option.some.inj hj5; subst hj5
         exact run1z (c108 61) [{},{},{},{},{},{},{},{},{ k := 1,n := a0.steps.length },{},{ k := 1,b := false }] [1,5,6,71] [.mp 0 0 0,.i l4_5,.mp 1 0 0,.bool (decide ((a0.steps.length : Int) < y10.frets))] s_0 _ (by kernel_rfl) (cjC (hc11) (cjC (hc11) (cjC (hc11) (cjC (hc11) (cjC (hc11) (cjC (mapLen a0.steps AV.i) (cjC (hc11) (cj1 (hc11))))))))) (kj5 (decide ((a0.steps.length : Int) < y10.frets)) rfl)
       ·rintro _ rfl
        rcases iteE hl4 with ⟨hc12,hl4⟩ | ⟨hc12,hl4⟩
        ·refine run_cT 71 (c108 62) (c108 65) j5_71 hc12 (by kernel_rfl) (by kernel_rfl) ?_
         refine run1z (c108 64) [] [2] [.i 13] ⟨[],2⟩ _ (by kernel_rfl) cj0 ?_
         replace hl4 := Option.some.inj hl4; subst hl4
         have hr := rl4 _ rfl
         subst hr
         replace h := elimR h
         refine run_t (by kernel_rfl) ?_
         refine thenR ?_
         refine inbR ?_
         refine thenR ?_
         refine ⟨⟨_,rfl⟩,?_⟩
         refine inbR ?_
         refine thenR ?_
         replace h := Option.some.inj h; subst h
         exact fin_r (by kernel_rfl) rfl
        ·refine run_cF 71 (c108 62) (c108 65) j5_71 hc12 (by kernel_rfl) (by kernel_rfl) ?_
         refine run_k (by kernel_rfl) ?_
         refine thenN ?_
         refine run_s (c108 67) (c108 74) (by kernel_rfl) ?_
         obtain ⟨j6_79,hj6,hl4⟩ := bindE hl4
         refine run_gq (c108 69) (fun (j6_79 : Bool) => (zipE [1,5,6,79] [.mp 0 0 0,.i l4_5,.mp 1 0 0,.bool j6_79])) (fun (j6_79 : Bool) => s_0) (fun j => j6_79 = j) (fun kj6 => ?_) ?_
         ·rcases iteE hj6 with ⟨hc13,hj6⟩ | ⟨hc13,hj6⟩
          ·replace hj6 := Option.some.inj hj6; subst hj6
           exact run1z (c108 69) [{},{},{},{},{ g := false },{ g := false },{ g := false },{ k := 1,b := true }] [1,5,6,79] [.mp 0 0 0,.i l4_5,.mp 1 0 0,.bool true] s_0 _ (by kernel_rfl) (cjC (hc13) (cjC (hc13) (cjC (hc13) (cj1 (hc13))))) (kj6 true rfl)
          ·replace hj6 := Option.some.inj hj6; subst hj6
           exact run1z (c108 69) [{},{},{},{},{},{},{},{ k := 1,b := false }] [1,5,6,79] [.mp 0 0 0,.i l4_5,.mp 1 0 0,.bool (decide (127 < y10.pitch))] s_0 _ (by kernel_rfl) (cjC (hc13) (cjC (hc13) (cjC (hc13) (cj1 (hc13))))) (kj6 (decide (127 < y10.pitch)) rfl)
         ·rintro _ rfl
          rcases iteE hl4 with ⟨hc14,hl4⟩ | ⟨hc14,hl4⟩
          ·refine run_cT 79 (c108 70) (c108 73) j6_79 hc14 (by kernel_rfl) (by kernel_rfl) ?_
           refine run1z (c108 72) [] [2] [.i 10] ⟨[],2⟩ _ (by kernel_rfl) cj0 ?_
           replace hl4 := Option.some.inj hl4; subst hl4
           have hr := rl4 _ rfl
           subst hr
           replace h := elimR h
           refine run_t (by kernel_rfl) ?_
           refine thenR ?_
           refine inbR ?_
           refine thenR ?_
           refine ⟨⟨_,rfl⟩,?_⟩
           refine inbR ?_
           refine thenR ?_
           replace h := Option.some.inj h; subst h
           exact fin_r (by kernel_rfl) rfl
          ·refine run_cF 79 (c108 70) (c108 73) j6_79 hc14 (by kernel_rfl) (by kernel_rfl) ?_
           refine run_k (by kernel_rfl) ?_
           refine thenN ?_
           refine run1z (c108 76) [] [1,5,6,7] [.mp 0 0 0,.i l4_5,.mp 1 0 0,.i y10.pitch] s_0 _ (by kernel_rfl) cj0 ?_
           obtain ⟨j7_7,hj7,hl4⟩ := bindE hl4
           refine run_jq (c108 77) (c108 82) (fun (j7_7 : Int) => (zipE [1,5,6,7] [.mp 0 0 0,.i l4_5,.mp 1 0 0,.i j7_7])) (fun (j7_7 : Int) => s_0) (fun j => j7_7 = j) (by kernel_rfl) (fun kj7 => ?_) ?_
           ·refine run1z (c108 79) [] [1,5,6,7,84] [.mp 0 0 0,.i l4_5,.mp 1 0 0,.i y10.pitch,.bool (decide (0 < y10.frets))] s_0 _ (by kernel_rfl) cj0 ?_
            rcases iteE hj7 with ⟨hc15,hj7⟩ | ⟨hc15,hj7⟩
            ·refine run_cT 84 (c108 80) (c108 81) (decide (0 < y10.frets)) hc15 (by kernel_rfl) (by kernel_rfl) ?_
             obtain ⟨y16,hy16,hj7⟩ := bindE hj7
             refine run0z [{},{},{},{},{},{},{ k := 1,x := AV.i y16 }] [1,5,6,7] [.mp 0 0 0,.i l4_5,.mp 1 0 0,.i (wr (y10.pitch + y16))] s_0 _ (by kernel_rfl) (cjC ((ixE hy16).1) (cj1 (mapGet AV.i (ixE hy16).2))) ?_
             replace hj7 := Option.some.inj hj7; subst hj7
             refine thenN ?_
             exact kj7 (wr (y10.pitch + y16)) rfl
            ·refine run_cF 84 (c108 80) (c108 81) (decide (0 < y10.frets)) hc15 (by kernel_rfl) (by kernel_rfl) ?_
             replace hj7 := Option.some.inj hj7; subst hj7
             refine awp_p [1,5,6,7] [1,0] (zipE [1,5,6,7] [.mp 0 0 0,.i l4_5,.mp 1 0 0,.i y10.pitch]) s_0 (by kernel_rfl) (?_)
             refine run_k (by kernel_rfl) ?_
             refine thenN ?_
             exact kj7 y10.pitch rfl
           ·rintro _ rfl
            obtain ⟨j8_7,hj8,hl4⟩ := bindE hl4
            refine run_jq (c108 83) (c108 88) (fun (j8_7 : Int) => (zipE [1,5,7] [.mp 0 0 0,.i l4_5,.i j8_7])) (fun (j8_7 : Int) => ⟨[(0,b_0)],2⟩) (fun j => j8_7 = j) (by kernel_rfl) (fun kj8 => ?_) ?_
            ·refine run1z (c108 85) [] [1,5,7,95] [.mp 0 0 0,.i l4_5,.i j7_7,.bool y10.octave] ⟨[(0,b_0)],2⟩ _ (by kernel_rfl) cj0 ?_
             rcases iteE hj8 with ⟨hc17,hj8⟩ | ⟨hc17,hj8⟩
             ·refine run_cT 95 (c108 86) (c108 87) y10.octave hc17 (by kernel_rfl) (by kernel_rfl) ?_
              refine run0z [] [1,5,7] [.mp 0 0 0,.i l4_5,.i (wr (j7_7 + 12))] ⟨[(0,b_0)],2⟩ _ (by kernel_rfl) cj0 ?_
              replace hj8 := Option.some.inj hj8; subst hj8
              refine thenN ?_
              exact kj8 (wr (j7_7 + 12)) rfl
             ·refine run_cF 95 (c108 86) (c108 87) y10.octave hc17 (by kernel_rfl) (by kernel_rfl) ?_
              replace hj8 := Option.some.inj hj8; subst hj8
              refine awp_p [1,5,7] [0] (zipE [1,5,7] [.mp 0 0 0,.i l4_5,.i j7_7]) ⟨[(0,b_0)],2⟩ (by kernel_rfl) (?_)
              refine run_k (by kernel_rfl) ?_
              refine thenN ?_
              exact kj8 j7_7 rfl
            ·rintro _ rfl
             refine run1z (c108 90) [] [1,5,99] [.mp 0 0 0,.i l4_5,.bool (decide (127 < j8_7))] ⟨[(0,b_0)],2⟩ _ (by kernel_rfl) cj0 ?_
             rcases iteE hl4 with ⟨hc18,hl4⟩ | ⟨hc18,hl4⟩
             ·refine run_cT 99 (c108 91) (c108 94) (decide (127 < j8_7)) hc18 (by kernel_rfl) (by kernel_rfl) ?_
              refine run1z (c108 93) [] [2] [.i 10] ⟨[],2⟩ _ (by kernel_rfl) cj0 ?_
              replace hl4 := Option.some.inj hl4; subst hl4
              have hr := rl4 _ rfl
              subst hr
              replace h := elimR h
              refine run_t (by kernel_rfl) ?_
              refine inbR ?_
              refine thenR ?_
              refine ⟨⟨_,rfl⟩,?_⟩
              refine inbR ?_
              refine thenR ?_
              replace h := Option.some.inj h; subst h
              exact fin_r (by kernel_rfl) rfl
             ·refine run_cF 99 (c108 91) (c108 94) (decide (127 < j8_7)) hc18 (by kernel_rfl) (by kernel_rfl) ?_
              refine run_k (by kernel_rfl) ?_
              refine inbN ?_
              refine thenN ?_
              refine run0z [] [1,5] [.mp 0 0 0,.i (wr (l4_5 + 1))] ⟨[(0,b_0)],2⟩ _ (by kernel_rfl) cj0 ?_
              replace hl4 := Option.some.inj hl4; subst hl4
              exact ⟨_,rfl,pi [],mkInto (ks := [1,5]) (ys := [.mp 0 0 0,.i (wr (l4_5 + 1))]) (by kernel_rfl) (by kernel_rfl) (.k (.mp rfl rfl) (.k (.c rfl) .z)) (.k rfl (.cells (.k (.c (cl_GInstrument a0)) .z)) .z)⟩
      ·refine run_cF 53 (c108 52) (c108 53) (decide (l4_5 < (a0.courses.length : Int))) hc9 (by kernel_rfl) (by kernel_rfl) ?_
       replace hl4 := Option.some.inj hl4; subst hl4
       have hr := rl4 _ rfl
       subst hr
       refine awp_p [] [] (zipE [] []) ⟨[],1⟩ (by kernel_rfl) (?_)
       refine run_e 2 (by kernel_rfl) ?_
       refine thenE ?_
       refine ⟨⟨_,rfl⟩,?_⟩
       refine inbE ?_
       exact kl4 () rfl
     ·rintro ⟨⟩ rfl
      replace h := elimL h
      refine thenN ?_
      refine run1z (c108 98) [] [2] [.i 0] ⟨[],1⟩ _ (by kernel_rfl) cj0 ?_
      refine run_t (by kernel_rfl) ?_
      replace h := Option.some.inj h; subst h
      exact fin_r (by kernel_rfl) rfl
def f165 (a0 : Int) : Option Bool := ((bif (decide (a0 < -24)) then (some true) else (some (decide (24 < a0)))) : Option Bool).bind fun (j1_2 : Bool) => some j1_2
theorem f165_ok (a0 : Int) (r : Bool) (h : f165 a0 = some r) : APure Tryz.prog 165 [.i a0] (.bool r) := by
 refine apure (clK rfl clZ) rfl ?_
 refine run_f 9 [.tmp 2] (c165 0) (zipE [0] [.i a0]) (by kernel_rfl) (by kernel_rfl) (by kernel_rfl) rfl ?_
 unfold f165 at h
 refine run1z (c165 2) [] [0] [.i a0] ⟨[],0⟩ _ (by kernel_rfl) cj0 ?_
 obtain ⟨j1_2,hj1,h⟩ := bindE h
 refine run_gq (c165 4) (fun (j1_2 : Bool) => (zipE [2] [.bool j1_2])) (fun (j1_2 : Bool) => ⟨[],0⟩) (fun j => j1_2 = j) (fun kj1 => ?_) ?_
 ·rcases iteE hj1 with ⟨hc1,hj1⟩ | ⟨hc1,hj1⟩
  ·replace hj1 := Option.some.inj hj1; subst hj1
   exact run1z (c165 4) [{},{},{},{ g := false },{ g := false },{ k := 1,b := true }] [2] [.bool true] ⟨[],0⟩ _ (by kernel_rfl) (cjC (hc1) (cjC (hc1) (cj1 (hc1)))) (kj1 true rfl)
  ·replace hj1 := Option.some.inj hj1; subst hj1
   exact run1z (c165 4) [{},{},{},{},{},{ k := 1,b := false }] [2] [.bool (decide (24 < a0))] ⟨[],0⟩ _ (by kernel_rfl) (cjC (hc1) (cjC (hc1) (cj1 (hc1)))) (kj1 (decide (24 < a0)) rfl)
 ·rintro _ rfl
  refine run_t (by kernel_rfl) ?_
  replace h := Option.some.inj h; subst h
  exact fin_r (by kernel_rfl) rfl
def f119 (a0 : GInstrument) (a1 : GPlace) : Option Int := (ix a0.courses (wr (a1.course - 1))).bind fun y1 => ((bif (decide (0 < a1.fret)) then ((ix a0.steps (wr (a1.fret - 1))).bind fun y3 => some (wr (y1.pitch + y3))) else (some y1.pitch)) : Option Int).bind fun (j1_5 : Int) => some j1_5
theorem f119_ok (a0 : GInstrument) (a1 : GPlace) (r : Int) (h : f119 a0 a1 = some r) : APure Tryz.prog 119 [E_GInstrument a0,E_GPlace a1] (.i r) := by
 refine apure (clK (cl_GInstrument a0) (clK (cl_GPlace a1) clZ)) rfl ?_
 refine run_f 27 [.tmp 4] (c119 0) (zipE [0,1] [E_GInstrument a0,E_GPlace a1]) (by kernel_rfl) (by kernel_rfl) (by kernel_rfl) rfl ?_
 unfold f119 at h
 let b_0 : Blk := .cells 2 [E_GInstrument a0]
 let b_1 : Blk := .cells 2 [E_GPlace a1]
 let s_0 : St := ⟨[(1,b_1),(0,b_0)],2⟩
 refine run1z (c119 2) [] [2,3] [.mp 0 0 0,.mp 1 0 0] s_0 _ (by kernel_rfl) cj0 ?_
 obtain ⟨y1,hy1,h⟩ := bindE h
 refine run1z (c119 4) [{},{},{},{},{},{ k := 1,x := E_GCourse y1 }] [2,3,5] [.mp 0 0 0,.mp 1 0 0,.i y1.pitch] s_0 _ (by kernel_rfl) (cjC ((ixE hy1).1) (cj1 (mapGet E_GCourse (ixE hy1).2))) ?_
 obtain ⟨j1_5,hj1,h⟩ := bindE h
 refine run_jq (c119 5) (c119 10) (fun (j1_5 : Int) => (zipE [5] [.i j1_5])) (fun (j1_5 : Int) => ⟨[],2⟩) (fun j => j1_5 = j) (by kernel_rfl) (fun kj1 => ?_) ?_
 ·refine run1z (c119 7) [] [2,3,5,16] [.mp 0 0 0,.mp 1 0 0,.i y1.pitch,.bool (decide (0 < a1.fret))] s_0 _ (by kernel_rfl) cj0 ?_
  rcases iteE hj1 with ⟨hc2,hj1⟩ | ⟨hc2,hj1⟩
  ·refine run_cT 16 (c119 8) (c119 9) (decide (0 < a1.fret)) hc2 (by kernel_rfl) (by kernel_rfl) ?_
   obtain ⟨y3,hy3,hj1⟩ := bindE hj1
   refine run0z [{},{},{},{},{},{},{ k := 1,x := AV.i y3 }] [5] [.i (wr (y1.pitch + y3))] ⟨[],2⟩ _ (by kernel_rfl) (cjC ((ixE hy3).1) (cj1 (mapGet AV.i (ixE hy3).2))) ?_
   replace hj1 := Option.some.inj hj1; subst hj1
   refine thenN ?_
   exact kj1 (wr (y1.pitch + y3)) rfl
  ·refine run_cF 16 (c119 8) (c119 9) (decide (0 < a1.fret)) hc2 (by kernel_rfl) (by kernel_rfl) ?_
   replace hj1 := Option.some.inj hj1; subst hj1
   refine awp_p [5] [] (zipE [5] [.i y1.pitch]) ⟨[],2⟩ (by kernel_rfl) (?_)
   refine run_k (by kernel_rfl) ?_
   refine thenN ?_
   exact kj1 y1.pitch rfl
 ·rintro _ rfl
  refine run1z (c119 12) [] [4] [.i j1_5] ⟨[],2⟩ _ (by kernel_rfl) cj0 ?_
  refine run_t (by kernel_rfl) ?_
  replace h := Option.some.inj h; subst h
  exact fin_r (by kernel_rfl) rfl
def f230 (a0 : GInstrument) (a1 : Int) : Option (((List GPlace)) × Int) := (f108 a0).bind fun r1 => bif (decide (r1 ≠ 0)) then (some (([] : List GPlace),r1)) else (((bif (decide (a1 < 0)) then (some true) else (some (decide (127 < a1)))) : Option Bool).bind fun (j1_20 : Bool) => bif j1_20 then (some (([] : List GPlace),10)) else ((loopN (σ := (List GPlace × Int)) (τ := (List GPlace)) (fun ((l2_7,l2_8) : (List GPlace × Int)) => bif (decide (l2_8 ≤ (a0.courses.length : Int))) then ((loopN (σ := (List GPlace × Int)) (τ := (List GPlace)) (fun ((l3_7,l3_9) : (List GPlace × Int)) => (ix a0.courses (wr (l2_8 - 1))).bind fun y6 => bif (decide (l3_9 ≤ y6.frets)) then ((((f119 a0 (⟨l2_8,l3_9⟩ : GPlace)).bind fun r8 => bif (decide (r8 = a1)) then (need (l3_7.length + 1 ≤ maxElems) <| some (l3_7 ++ [(⟨l2_8,l3_9⟩ : GPlace)])) else (some l3_7)) : Option (List GPlace)).bind fun (j4_7 : (List GPlace)) => some (.inl (j4_7,(wr (l3_9 + 1))))) else (some (.inr l3_7))) FUEL (l2_7,0)).bind fun (l3x_7 : (List GPlace)) => some (.inl (l3x_7,(wr (l2_8 + 1))))) else (some (.inr l2_7))) FUEL (([] : List GPlace),1)).bind fun (l2x_7 : (List GPlace)) => some (l2x_7,0)))
theorem f230_ok (a0 : GInstrument) (a1 : Int) (r : (((List GPlace)) × Int)) (h : f230 a0 a1 = some r) : APure Tryz.prog 230 [E_GInstrument a0,.i a1] (.tup [.sl false (r.1.map E_GPlace),.i r.2]) := by
 refine apure (clK (cl_GInstrument a0) (clK rfl clZ)) (clK (cleanMap r.1 _ cl_GPlace) (clK rfl clZ)) ?_
 refine run_f 53 [.tmp 4,.tmp 5] (c230 0) (zipE [0,1] [E_GInstrument a0,.i a1]) (by kernel_rfl) (by kernel_rfl) (by kernel_rfl) rfl ?_
 unfold f230 at h
 let b_0 : Blk := .cells 2 [E_GInstrument a0]
 refine run1z (c230 2) [] [1,2] [.i a1,.mp 0 0 0] ⟨[(0,b_0)],1⟩ _ (by kernel_rfl) cj0 ?_
 obtain ⟨r1,hr1,h⟩ := bindE h
 refine run1z (c230 4) [{},{ c := some (.i r1,⟨[(0,b_0)],1⟩) }] [1,2,6] [.i a1,.mp 0 0 0,.i r1] ⟨[(0,b_0)],1⟩ _ (by kernel_rfl) (cj1 (f108_ok a0 _ hr1 ⟨[(0,b_0)],1⟩)) ?_
 refine run_s (c230 5) (c230 12) (by kernel_rfl) ?_
 refine run1z (c230 7) [] [1,2,6,13] [.i a1,.mp 0 0 0,.i r1,.bool (decide (r1 ≠ 0))] ⟨[(0,b_0)],1⟩ _ (by kernel_rfl) cj0 ?_
 rcases iteE h with ⟨hc2,h⟩ | ⟨hc2,h⟩
 ·refine run_cT 13 (c230 8) (c230 11) (decide (r1 ≠ 0)) hc2 (by kernel_rfl) (by kernel_rfl) ?_
  refine run1z (c230 10) [] [4,5] [.sl true [],.i r1] ⟨[],1⟩ _ (by kernel_rfl) cj0 ?_
  refine run_i 1 [] [4,5] [.sl true [],.i r1] (xs := [.sl false (([] : List GPlace).map E_GPlace),.i r1]) (S2 := ⟨[],1⟩) ?_ (by intro i e; cases e <;> exact Nat.le_of_ble_eq_true rfl) (by kernel_rfl) (by kernel_rfl) (by kernel_rfl) (.k (.s (cleanMap (([] : List GPlace)) _ cl_GPlace)) (.k (.c rfl) .z)) .z
  refine run_t (by kernel_rfl) ?_
  refine thenR ?_
  replace h := Option.some.inj h; subst h
  exact fin_r (by kernel_rfl) rfl
 ·refine run_cF 13 (c230 8) (c230 11) (decide (r1 ≠ 0)) hc2 (by kernel_rfl) (by kernel_rfl) ?_
  refine run_k (by kernel_rfl) ?_
  refine thenN ?_
  refine run_s (c230 13) (c230 20) (by kernel_rfl) ?_
  obtain ⟨j1_20,hj1,h⟩ := bindE h
  refine run_gq (c230 15) (fun (j1_20 : Bool) => (zipE [1,2,20] [.i a1,.mp 0 0 0,.bool j1_20])) (fun (j1_20 : Bool) => ⟨[(0,b_0)],1⟩) (fun j => j1_20 = j) (fun kj1 => ?_) ?_
  ·rcases iteE hj1 with ⟨hc3,hj1⟩ | ⟨hc3,hj1⟩
   ·replace hj1 := Option.some.inj hj1; subst hj1
    exact run1z (c230 15) [{},{},{},{ g := false },{ g := false },{ k := 1,b := true }] [1,2,20] [.i a1,.mp 0 0 0,.bool true] ⟨[(0,b_0)],1⟩ _ (by kernel_rfl) (cjC (hc3) (cjC (hc3) (cj1 (hc3)))) (kj1 true rfl)
   ·replace hj1 := Option.some.inj hj1; subst hj1
    exact run1z (c230 15) [{},{},{},{},{},{ k := 1,b := false }] [1,2,20] [.i a1,.mp 0 0 0,.bool (decide (127 < a1))] ⟨[(0,b_0)],1⟩ _ (by kernel_rfl) (cjC (hc3) (cjC (hc3) (cj1 (hc3)))) (kj1 (decide (127 < a1)) rfl)
  ·rintro _ rfl
   rcases iteE h with ⟨hc4,h⟩ | ⟨hc4,h⟩
   ·refine run_cT 20 (c230 16) (c230 19) j1_20 hc4 (by kernel_rfl) (by kernel_rfl) ?_
    refine run1z (c230 18) [] [4,5] [.sl true [],.i 10] ⟨[],1⟩ _ (by kernel_rfl) cj0 ?_
    refine run_i 1 [] [4,5] [.sl true [],.i 10] (xs := [.sl false (([] : List GPlace).map E_GPlace),.i 10]) (S2 := ⟨[],1⟩) ?_ (by intro i e; cases e <;> exact Nat.le_of_ble_eq_true rfl) (by kernel_rfl) (by kernel_rfl) (by kernel_rfl) (.k (.s (cleanMap (([] : List GPlace)) _ cl_GPlace)) (.k (.c rfl) .z)) .z
    refine run_t (by kernel_rfl) ?_
    refine thenR ?_
    replace h := Option.some.inj h; subst h
    exact fin_r (by kernel_rfl) rfl
   ·refine run_cF 20 (c230 16) (c230 19) j1_20 hc4 (by kernel_rfl) (by kernel_rfl) ?_
    refine run_k (by kernel_rfl) ?_
    refine thenN ?_
    refine run1z (c230 22) [] [1,2,7] [.i a1,.mp 0 0 0,.sl true []] ⟨[(0,b_0)],1⟩ _ (by kernel_rfl) cj0 ?_
    refine run_s (c230 23) (c230 54) (by kernel_rfl) ?_
    refine run1z (c230 25) [] [1,2,7,8] [.i a1,.mp 0 0 0,.sl true [],.i 1] ⟨[(0,b_0)],1⟩ _ (by kernel_rfl) cj0 ?_
    obtain ⟨l2x_7,hll2x,h⟩ := bindE h
    refine run_tq (fun (l2x_7 : (List GPlace)) => (zipE [7] [.ms 1 0 l2x_7.length])) (fun (l2x_7 : (List GPlace)) => ⟨[(1,.cells 2 (l2x_7.map E_GPlace))],2⟩) (fun j => l2x_7 = j) (fun kl2 => ?_) ?_
    ·refine run_b 0 (c230 26) (by kernel_rfl) ?_
     refine run_l (c230 27) _ hll2x (fun ((l2_7,l2_8) : (List GPlace × Int)) => (zipE [1,2,7,8] [.i a1,.mp 0 0 0,.ms 1 0 l2_7.length,.i l2_8])) (fun ((l2_7,l2_8) : (List GPlace × Int)) => ⟨[(1,.cells 2 (l2_7.map E_GPlace)),(0,b_0)],2⟩) [(1,1000000)] (by intro i e; cases e <;> exact Nat.le_of_ble_eq_true rfl) (by kernel_rfl) (mkInto (ks := [1,2,7,8]) (ys := [.i a1,.mp 0 0 0,.sl true [],.i 1]) (by kernel_rfl) (by kernel_rfl) (.k (.c rfl) (.k (.mp rfl rfl) (.k (.n) (.k (.c rfl) .z)))) (.n rfl rfl rfl (.k rfl (.cells (.k (.c (cl_GInstrument a0)) .z)) .z))) ?_
     rintro ⟨l2_7,l2_8⟩ out hl2 rl2
     refine run_s (c230 28) (c230 33) (by kernel_rfl) ?_
     let v_0 : AV := .ms 1 0 l2_7.length
     let b_1 : Blk := .cells 2 (l2_7.map E_GPlace)
     refine run1z (c230 30) [{},{},{},{ k := 1,n := a0.courses.length }] [1,2,7,8,25] [.i a1,.mp 0 0 0,v_0,.i l2_8,.bool (decide (l2_8 ≤ (a0.courses.length : Int)))] ⟨[(1,b_1),(0,b_0)],2⟩ _ (by kernel_rfl) (cj1 (mapLen a0.courses E_GCourse)) ?_
     rcases iteE hl2 with ⟨hc5,hl2⟩ | ⟨hc5,hl2⟩
     ·refine run_cT 25 (c230 31) (c230 32) (decide (l2_8 ≤ (a0.courses.length : Int))) hc5 (by kernel_rfl) (by kernel_rfl) ?_
      refine run_k (by kernel_rfl) ?_
      refine thenN ?_
      refine run_s (c230 34) (c230 53) (by kernel_rfl) ?_
      refine run_b 1 (c230 35) (by kernel_rfl) ?_
      refine run1z (c230 37) [] [1,2,7,8,9] [.i a1,.mp 0 0 0,v_0,.i l2_8,.i 0] ⟨[(1,b_1),(0,b_0)],2⟩ _ (by kernel_rfl) cj0 ?_
      obtain ⟨l3x_7,hll3x,hl2⟩ := bindE hl2
      refine run_tq (fun (l3x_7 : (List GPlace)) => (zipE [1,2,7,8] [.i a1,.mp 0 0 0,.ms 2 0 l3x_7.length,.i l2_8])) (fun (l3x_7 : (List GPlace)) => ⟨[(2,.cells 2 (l3x_7.map E_GPlace)),(0,b_0)],3⟩) (fun j => l3x_7 = j) (fun kl3 => ?_) ?_
      ·refine run_b 2 (c230 38) (by kernel_rfl) ?_
       refine run_l (c230 39) _ hll3x (fun ((l3_7,l3_9) : (List GPlace × Int)) => (zipE [1,2,7,8,9] [.i a1,.mp 0 0 0,.ms 2 0 l3_7.length,.i l2_8,.i l3_9])) (fun ((l3_7,l3_9) : (List GPlace × Int)) => ⟨[(2,.cells 2 (l3_7.map E_GPlace)),(0,b_0)],3⟩) [(2,1)] (by intro i e; cases e <;> exact Nat.le_of_ble_eq_true rfl) (by kernel_rfl) (mkInto (ks := [1,2,7,8,9]) (ys := [.i a1,.mp 0 0 0,v_0,.i l2_8,.i 0]) (by kernel_rfl) (by kernel_rfl) (.k (.c rfl) (.k (.mp rfl rfl) (.k (.ms rfl rfl) (.k (.c rfl) (.k (.c rfl) .z))))) (.k rfl (.cells (.r (cleanMap _ _ cl_GPlace))) (.k rfl (.cells (.k (.c (cl_GInstrument a0)) .z)) .z))) ?_
       rintro ⟨l3_7,l3_9⟩ out hl3 rl3
       refine run_s (c230 40) (c230 45) (by kernel_rfl) ?_
       obtain ⟨y6,hy6,hl3⟩ := bindE hl3
       let v_1 : AV := .ms 2 0 l3_7.length
       let b_2 : Blk := .cells 2 (l3_7.map E_GPlace)
       let s_0 : St := ⟨[(2,b_2),(0,b_0)],3⟩
       refine run1z (c230 42) [{},{},{},{},{},{ k := 1,x := E_GCourse y6 }] [1,2,7,8,9,36] [.i a1,.mp 0 0 0,v_1,.i l2_8,.i l3_9,.bool (decide (l3_9 ≤ y6.frets))] s_0 _ (by kernel_rfl) (cjC ((ixE hy6).1) (cj1 (mapGet E_GCourse (ixE hy6).2))) ?_
       rcases iteE hl3 with ⟨hc7,hl3⟩ | ⟨hc7,hl3⟩
       ·refine run_cT 36 (c230 43) (c230 44) (decide (l3_9 ≤ y6.frets)) hc7 (by kernel_rfl) (by kernel_rfl) ?_
        refine run_k (by kernel_rfl) ?_
        refine thenN ?_
        obtain ⟨j4_7,hj4,hl3⟩ := bindE hl3
        refine run_jq (c230 46) (c230 52) (fun (j4_7 : (List GPlace)) => (zipE [1,2,7,8,9] [.i a1,.mp 0 0 0,.ms 4 0 j4_7.length,.i l2_8,.i l3_9])) (fun (j4_7 : (List GPlace)) => ⟨[(4,.cells 2 (j4_7.map E_GPlace)),(0,b_0)],5⟩) (fun j => j4_7 = j) (by kernel_rfl) (fun kj4 => ?_) ?_
        ·refine run_b 3 (c230 47) (by kernel_rfl) ?_
         obtain ⟨r8,hr8,hj4⟩ := bindE hj4
         refine run1z (c230 49) [{},{},{},{},{ c := some (.i r8,s_0) }] [1,2,7,8,9,45] [.i a1,.mp 0 0 0,v_1,.i l2_8,.i l3_9,.bool (decide (r8 = a1))] s_0 _ (by kernel_rfl) (cj1 (f119_ok a0 (⟨l2_8,l3_9⟩ : GPlace) _ hr8 s_0)) ?_
         rcases iteE hj4 with ⟨hc9,hj4⟩ | ⟨hc9,hj4⟩
         ·refine run_cT 45 (c230 50) (c230 51) (decide (r8 = a1)) hc9 (by kernel_rfl) (by kernel_rfl) ?_
          obtain ⟨hn10,hj4⟩ := needE hj4
          refine run0z [{},{},{},{},{},{ k := 1,n := (l3_7 ++ [(⟨l2_8,l3_9⟩ : GPlace)]).length,l := (l3_7 ++ [(⟨l2_8,l3_9⟩ : GPlace)]).map E_GPlace }] [1,2,7,8,9] [.i a1,.mp 0 0 0,.ms 3 0 (l3_7 ++ [(⟨l2_8,l3_9⟩ : GPlace)]).length,.i l2_8,.i l3_9] ⟨[(3,.cells 2 ((l3_7 ++ [(⟨l2_8,l3_9⟩ : GPlace)]).map E_GPlace)),(0,b_0)],4⟩ _ (by kernel_rfl) (cjC (@List.cons_ne_nil AV (.agg [.i l2_8,.i l3_9]) []) (cjC (mLe l3_7 E_GPlace) (cjC (hn10) (cjC (lenA l3_7 ([(⟨l2_8,l3_9⟩ : GPlace)] : List GPlace)) (cjC (appA l3_7 ([(⟨l2_8,l3_9⟩ : GPlace)] : List GPlace) E_GPlace) (cj1 (fitsOne (P := Tryz.prog) (t := 187) (x := .agg [.i l2_8,.i l3_9]) (r := []) (by kernel_rfl)))))))) ?_
          replace hj4 := Option.some.inj hj4; subst hj4
          refine inbN ?_
          refine thenN ?_
          exact run_i 4 [(4,3)] [1,2,7,8,9] [.i a1,.mp 0 0 0,.ms 3 0 (l3_7 ++ [(⟨l2_8,l3_9⟩ : GPlace)]).length,.i l2_8,.i l3_9] (kj4 (l3_7 ++ [(⟨l2_8,l3_9⟩ : GPlace)]) rfl) (by intro i e; cases e <;> exact Nat.le_of_ble_eq_true rfl) (by kernel_rfl) (by kernel_rfl) (by kernel_rfl) (.k (.c rfl) (.k (.mp rfl rfl) (.k (.ms rfl rfl) (.k (.c rfl) (.k (.c rfl) .z))))) (.k rfl (.cells (.r (cleanMap _ _ cl_GPlace))) (.k rfl (.cells (.k (.c (cl_GInstrument a0)) .z)) .z))
         ·refine run_cF 45 (c230 50) (c230 51) (decide (r8 = a1)) hc9 (by kernel_rfl) (by kernel_rfl) ?_
          replace hj4 := Option.some.inj hj4; subst hj4
          refine run_i 4 [(4,2)] [1,2,7,8,9] [.i a1,.mp 0 0 0,v_1,.i l2_8,.i l3_9] (xs := [.i a1,.mp 0 0 0,.ms 4 0 l3_7.length,.i l2_8,.i l3_9]) (S2 := ⟨[(4,b_2),(0,b_0)],5⟩) ?_ (by intro i e; cases e <;> exact Nat.le_of_ble_eq_true rfl) (by kernel_rfl) (by kernel_rfl) (by kernel_rfl) (.k (.c rfl) (.k (.mp rfl rfl) (.k (.ms rfl rfl) (.k (.c rfl) (.k (.c rfl) .z))))) (.k rfl (.cells (.r (cleanMap _ _ cl_GPlace))) (.k rfl (.cells (.k (.c (cl_GInstrument a0)) .z)) .z))
          refine run_k (by kernel_rfl) ?_
          refine inbN ?_
          refine thenN ?_
          exact kj4 l3_7 rfl
        ·rintro _ rfl
         refine run0z [] [1,2,7,8,9] [.i a1,.mp 0 0 0,.ms 4 0 j4_7.length,.i l2_8,.i (wr (l3_9 + 1))] ⟨[(4,.cells 2 (j4_7.map E_GPlace)),(0,b_0)],5⟩ _ (by kernel_rfl) cj0 ?_
         replace hl3 := Option.some.inj hl3; subst hl3
         exact ⟨_,rfl,pi [(2,4)],mkInto (ks := [1,2,7,8,9]) (ys := [.i a1,.mp 0 0 0,.ms 4 0 j4_7.length,.i l2_8,.i (wr (l3_9 + 1))]) (by kernel_rfl) (by kernel_rfl) (.k (.c rfl) (.k (.mp rfl rfl) (.k (.ms rfl rfl) (.k (.c rfl) (.k (.c rfl) .z))))) (.k rfl (.cells (.r (cleanMap _ _ cl_GPlace))) (.k rfl (.cells (.k (.c (cl_GInstrument a0)) .z)) .z))⟩
       ·refine run_cF 36 (c230 43) (c230 44) (decide (l3_9 ≤ y6.frets)) hc7 (by kernel_rfl) (by kernel_rfl) ?_
        replace hl3 := Option.some.inj hl3; subst hl3
        have hr := rl3 _ rfl
        subst hr
        refine awp_p [1,2,7,8] [2,0] (zipE [1,2,7,8] [.i a1,.mp 0 0 0,v_1,.i l2_8]) s_0 (by kernel_rfl) (?_)
        refine run_e 2 (by kernel_rfl) ?_
        refine thenE ?_
        refine ⟨⟨_,rfl⟩,?_⟩
        refine inbE ?_
        exact kl3 l3_7 rfl
      ·rintro _ rfl
       refine inbN ?_
       refine thenN ?_
       refine run0z [] [1,2,7,8] [.i a1,.mp 0 0 0,.ms 2 0 l3x_7.length,.i (wr (l2_8 + 1))] ⟨[(2,.cells 2 (l3x_7.map E_GPlace)),(0,b_0)],3⟩ _ (by kernel_rfl) cj0 ?_
       replace hl2 := Option.some.inj hl2; subst hl2
       exact ⟨_,rfl,pi [(1,2)],mkInto (ks := [1,2,7,8]) (ys := [.i a1,.mp 0 0 0,.ms 2 0 l3x_7.length,.i (wr (l2_8 + 1))]) (by kernel_rfl) (by kernel_rfl) (.k (.c rfl) (.k (.mp rfl rfl) (.k (.ms rfl rfl) (.k (.c rfl) .z)))) (.k rfl (.cells (.r (cleanMap _ _ cl_GPlace))) (.k rfl (.cells (.k (.c (cl_GInstrument a0)) .z)) .z))⟩
     ·refine run_cF 25 (c230 31) (c230 32) (decide (l2_8 ≤ (a0.courses.length : Int))) hc5 (by kernel_rfl) (by kernel_rfl) ?_
      replace hl2 := Option.some.inj hl2; subst hl2
      have hr := rl2 _ rfl
      subst hr
      refine awp_p [7] [1] (zipE [7] [v_0]) ⟨[(1,b_1)],2⟩ (by kernel_rfl) (?_)
      refine run_e 0 (by kernel_rfl) ?_
      refine thenE ?_
      refine ⟨⟨_,rfl⟩,?_⟩
      refine inbE ?_
      exact kl2 l2_7 rfl
    ·rintro _ rfl
     refine thenN ?_
     refine run1z (c230 56) [] [4,5] [.ms 1 0 l2x_7.length,.i 0] ⟨[(1,.cells 2 (l2x_7.map E_GPlace))],2⟩ _ (by kernel_rfl) cj0 ?_
     refine run_z 1 2 (l2x_7.map E_GPlace) [4,5] [.ms 1 0 l2x_7.length,.i 0] (xs := [.sl false (l2x_7.map E_GPlace),.i 0]) (S2 := ⟨[],2⟩) ?_ (by kernel_rfl) (by kernel_rfl) (.k (.m (mLe l2x_7 E_GPlace) (mapAll l2x_7 E_GPlace)) (.k (.r _) .z)) .z rfl rfl
     refine run_t (by kernel_rfl) ?_
     replace h := Option.some.inj h; subst h
     exact fin_r (by kernel_rfl) rfl
def f199 (a0 : GInstrument) (a1 : Int) : Option ((List GPlace)) := (f230 a0 a1).bind fun r1 => some r1.1
theorem f199_ok (a0 : GInstrument) (a1 : Int) (r : ((List GPlace))) (h : f199 a0 a1 = some r) : APure Tryz.prog 199 [E_GInstrument a0,.i a1] (.sl false (r.map E_GPlace)) := by
 refine apure (clK (cl_GInstrument a0) (clK rfl clZ)) (cleanMap r _ cl_GPlace) ?_
 refine run_f 14 [.tmp 4] (c199 0) (zipE [0,1] [E_GInstrument a0,.i a1]) (by kernel_rfl) (by kernel_rfl) (by kernel_rfl) rfl ?_
 unfold f199 at h
 let b_0 : Blk := .cells 2 [E_GInstrument a0]
 refine run1z (c199 2) [] [1,2] [.i a1,.mp 0 0 0] ⟨[(0,b_0)],1⟩ _ (by kernel_rfl) cj0 ?_
 obtain ⟨r1,hr1,h⟩ := bindE h
 let v_0 : AV := .sl false (r1.1.map E_GPlace)
 refine run1z (c199 4) [{},{},{ c := some (.tup [v_0,.i r1.2],⟨[(0,b_0)],1⟩) }] [5] [v_0] ⟨[],1⟩ _ (by kernel_rfl) (cj1 (f230_ok a0 a1 _ hr1 ⟨[(0,b_0)],1⟩)) ?_
 refine run1z (c199 6) [] [4] [v_0] ⟨[],1⟩ _ (by kernel_rfl) cj0 ?_
 refine run_t (by kernel_rfl) ?_
 replace h := Option.some.inj h; subst h
 exact fin_r (by kernel_rfl) rfl
def f166 (a0 : List (List GTone)) (a1 : GInstrument) (a2 : Int) : Option Int := (loopN (σ := (Int × Int)) (τ := Int) (fun ((l1_7,l1_8) : (Int × Int)) => bif (decide (l1_8 < (a0.length : Int))) then ((loopN (σ := (Int × Int)) (τ := Int) (fun ((l2_7,l2_9) : (Int × Int)) => (ix a0 l1_8).bind fun y2 => bif (decide (l2_9 < (y2.length : Int))) then ((((ix y2 l2_9).bind fun y4 => (f199 a1 (wr (y4.pitch + a2))).bind fun r5 => bif (decide ((r5.length : Int) = 0)) then (some (wr (l2_7 + 1))) else (some l2_7)) : Option Int).bind fun (j3_7 : Int) => some (.inl (j3_7,(wr (l2_9 + 1))))) else (some (.inr l2_7))) FUEL (l1_7,0)).bind fun (l2x_7 : Int) => some (.inl (l2x_7,(wr (l1_8 + 1))))) else (some (.inr l1_7))) FUEL (0,0)).bind fun (l1x_7 : Int) => some l1x_7
theorem f166_ok (a0 : List (List GTone)) (a1 : GInstrument) (a2 : Int) (r : Int) (h : f166 a0 a1 a2 = some r) : APure Tryz.prog 166 [.sl false (a0.map (SL E_GTone)),E_GInstrument a1,.i a2] (.i r) := by
 refine apure (clK (cleanMap a0 _ (cl_SL cl_GTone)) (clK (cl_GInstrument a1) (clK rfl clZ))) rfl ?_
 let v_0 : AV := .sl false (a0.map (SL E_GTone))
 refine run_f 42 [.tmp 6] (c166 0) (zipE [0,1,2] [v_0,E_GInstrument a1,.i a2]) (by kernel_rfl) (by kernel_rfl) (by kernel_rfl) rfl ?_
 unfold f166 at h
 let b_0 : Blk := .cells 2 [E_GInstrument a1]
 refine run1z (c166 2) [] [0,2,4] [v_0,.i a2,.mp 0 0 0] ⟨[(0,b_0)],1⟩ _ (by kernel_rfl) cj0 ?_
 refine run1z (c166 4) [] [0,2,4,7] [v_0,.i a2,.mp 0 0 0,.i 0] ⟨[(0,b_0)],1⟩ _ (by kernel_rfl) cj0 ?_
 refine run_s (c166 5) (c166 36) (by kernel_rfl) ?_
 refine run1z (c166 7) [] [0,2,4,7,8] [v_0,.i a2,.mp 0 0 0,.i 0,.i 0] ⟨[(0,b_0)],1⟩ _ (by kernel_rfl) cj0 ?_
 obtain ⟨l1x_7,hll1x,h⟩ := bindE h
 refine run_tq (fun (l1x_7 : Int) => (zipE [7] [.i l1x_7])) (fun (l1x_7 : Int) => ⟨[],1⟩) (fun j => l1x_7 = j) (fun kl1 => ?_) ?_
 ·refine run_b 0 (c166 8) (by kernel_rfl) ?_
  refine run_l (c166 9) _ hll1x (fun ((l1_7,l1_8) : (Int × Int)) => (zipE [0,2,4,7,8] [v_0,.i a2,.mp 0 0 0,.i l1_7,.i l1_8])) (fun ((l1_7,l1_8) : (Int × Int)) => ⟨[(0,b_0)],1⟩) [] (by intro i e; cases e <;> exact Nat.le_of_ble_eq_true rfl) (by kernel_rfl) (mkInto (ks := [0,2,4,7,8]) (ys := [v_0,.i a2,.mp 0 0 0,.i 0,.i 0]) (by kernel_rfl) (by kernel_rfl) (.k (.c (cleanMap _ _ (cl_SL cl_GTone))) (.k (.c rfl) (.k (.mp rfl rfl) (.k (.c rfl) (.k (.c rfl) .z))))) (.k rfl (.cells (.k (.c (cl_GInstrument a1)) .z)) .z)) ?_
  rintro ⟨l1_7,l1_8⟩ out hl1 rl1
  refine run_s (c166 10) (c166 15) (by kernel_rfl) ?_
  refine run1z (c166 12) [{},{},{ k := 1,n := a0.length }] [0,2,4,7,8,13] [v_0,.i a2,.mp 0 0 0,.i l1_7,.i l1_8,.bool (decide (l1_8 < (a0.length : Int)))] ⟨[(0,b_0)],1⟩ _ (by kernel_rfl) (cj1 (mapLen a0 (SL E_GTone))) ?_
  rcases iteE hl1 with ⟨hc1,hl1⟩ | ⟨hc1,hl1⟩
  ·refine run_cT 13 (c166 13) (c166 14) (decide (l1_8 < (a0.length : Int))) hc1 (by kernel_rfl) (by kernel_rfl) ?_
   refine run_k (by kernel_rfl) ?_
   refine thenN ?_
   refine run_s (c166 16) (c166 35) (by kernel_rfl) ?_
   refine run_b 1 (c166 17) (by kernel_rfl) ?_
   refine run1z (c166 19) [] [0,2,4,7,8,9] [v_0,.i a2,.mp 0 0 0,.i l1_7,.i l1_8,.i 0] ⟨[(0,b_0)],1⟩ _ (by kernel_rfl) cj0 ?_
   obtain ⟨l2x_7,hll2x,hl1⟩ := bindE hl1
   refine run_tq (fun (l2x_7 : Int) => (zipE [0,2,4,7,8] [v_0,.i a2,.mp 0 0 0,.i l2x_7,.i l1_8])) (fun (l2x_7 : Int) => ⟨[(0,b_0)],1⟩) (fun j => l2x_7 = j) (fun kl2 => ?_) ?_
   ·refine run_b 2 (c166 20) (by kernel_rfl) ?_
    refine run_l (c166 21) _ hll2x (fun ((l2_7,l2_9) : (Int × Int)) => (zipE [0,2,4,7,8,9] [v_0,.i a2,.mp 0 0 0,.i l2_7,.i l1_8,.i l2_9])) (fun ((l2_7,l2_9) : (Int × Int)) => ⟨[(0,b_0)],1⟩) [] (by intro i e; cases e <;> exact Nat.le_of_ble_eq_true rfl) (by kernel_rfl) (mkInto (ks := [0,2,4,7,8,9]) (ys := [v_0,.i a2,.mp 0 0 0,.i l1_7,.i l1_8,.i 0]) (by kernel_rfl) (by kernel_rfl) (.k (.c (cleanMap _ _ (cl_SL cl_GTone))) (.k (.c rfl) (.k (.mp rfl rfl) (.k (.c rfl) (.k (.c rfl) (.k (.c rfl) .z)))))) (.k rfl (.cells (.k (.c (cl_GInstrument a1)) .z)) .z)) ?_
    rintro ⟨l2_7,l2_9⟩ out hl2 rl2
    refine run_s (c166 22) (c166 27) (by kernel_rfl) ?_
    obtain ⟨y2,hy2,hl2⟩ := bindE hl2
    refine run1z (c166 24) [{},{},{},{ k := 1,x := (SL E_GTone) y2 },{},{ k := 1,n := y2.length }] [0,2,4,7,8,9,22] [v_0,.i a2,.mp 0 0 0,.i l2_7,.i l1_8,.i l2_9,.bool (decide (l2_9 < (y2.length : Int)))] ⟨[(0,b_0)],1⟩ _ (by kernel_rfl) (cjC ((ixE hy2).1) (cjC (mapGet (SL E_GTone) (ixE hy2).2) (cj1 (mapLen y2 E_GTone)))) ?_
    rcases iteE hl2 with ⟨hc3,hl2⟩ | ⟨hc3,hl2⟩
    ·refine run_cT 22 (c166 25) (c166 26) (decide (l2_9 < (y2.length : Int))) hc3 (by kernel_rfl) (by kernel_rfl) ?_
     refine run_k (by kernel_rfl) ?_
     refine thenN ?_
     obtain ⟨j3_7,hj3,hl2⟩ := bindE hl2
     refine run_jq (c166 28) (c166 34) (fun (j3_7 : Int) => (zipE [0,2,4,7,8,9] [v_0,.i a2,.mp 0 0 0,.i j3_7,.i l1_8,.i l2_9])) (fun (j3_7 : Int) => ⟨[(0,b_0)],1⟩) (fun j => j3_7 = j) (by kernel_rfl) (fun kj3 => ?_) ?_
     ·refine run_b 3 (c166 29) (by kernel_rfl) ?_
      obtain ⟨y4,hy4,hj3⟩ := bindE hj3
      obtain ⟨r5,hr5,hj3⟩ := bindE hj3
      refine yun1z (c166 31) [[],[],[],[1,2],[1,2,3],[],[1,2,3,4,5],[1,2,3,4,5,6],[1,2,3,4,5,6,7],[],[1,2,3,4,5,6,7,8,9],[0,1,2,3,4,5,6,7,8,9,10],[0,1,2,3,4,5,6,7,8,9,10,11],[0,1,2,3,4,5,6,7,8,9,10,11,12]] [.light 0 false,.light 1 false,.light 2 false,.light 3 false,.light 4 false,.light 5 false,.light 6 false,.light 7 false,.light 8 false,.light 9 false,.light 10 false,.heavy 11 [],.light 12 false,.light 13 false] [{},{},{},{ k := 1,x := (SL E_GTone) y2 },{},{},{ k := 1,x := E_GTone y4 },{},{},{},{},{ c := some (.sl false (r5.map E_GPlace),⟨[(0,b_0)],1⟩) },{ k := 1,n := r5.length }] [0,2,4,7,8,9,38] [v_0,.i a2,.mp 0 0 0,.i l2_7,.i l1_8,.i l2_9,.bool (decide ((r5.length : Int) = 0))] ⟨[(0,b_0)],1⟩ _ (by kernel_rfl) (cjC ((ixE hy2).1) (cjC (mapGet (SL E_GTone) (ixE hy2).2) (cjC ((ixE hy4).1) (cjC (mapGet E_GTone (ixE hy4).2) (cjC (f199_ok a1 (wr (y4.pitch + a2)) _ hr5 ⟨[(0,b_0)],1⟩) (cj1 (mapLen r5 E_GPlace))))))) ?_
      rcases iteE hj3 with ⟨hc6,hj3⟩ | ⟨hc6,hj3⟩
      ·refine run_cT 38 (c166 32) (c166 33) (decide ((r5.length : Int) = 0)) hc6 (by kernel_rfl) (by kernel_rfl) ?_
       refine run0z [] [0,2,4,7,8,9] [v_0,.i a2,.mp 0 0 0,.i (wr (l2_7 + 1)),.i l1_8,.i l2_9] ⟨[(0,b_0)],1⟩ _ (by kernel_rfl) cj0 ?_
       replace hj3 := Option.some.inj hj3; subst hj3
       refine inbN ?_
       refine thenN ?_
       exact kj3 (wr (l2_7 + 1)) rfl
      ·refine run_cF 38 (c166 32) (c166 33) (decide ((r5.length : Int) = 0)) hc6 (by kernel_rfl) (by kernel_rfl) ?_
       replace hj3 := Option.some.inj hj3; subst hj3
       refine awp_p [0,2,4,7,8,9] [0] (zipE [0,2,4,7,8,9] [v_0,.i a2,.mp 0 0 0,.i l2_7,.i l1_8,.i l2_9]) ⟨[(0,b_0)],1⟩ (by kernel_rfl) (?_)
       refine run_k (by kernel_rfl) ?_
       refine inbN ?_
       refine thenN ?_
       exact kj3 l2_7 rfl
     ·rintro _ rfl
      refine run0z [] [0,2,4,7,8,9] [v_0,.i a2,.mp 0 0 0,.i j3_7,.i l1_8,.i (wr (l2_9 + 1))] ⟨[(0,b_0)],1⟩ _ (by kernel_rfl) cj0 ?_
      replace hl2 := Option.some.inj hl2; subst hl2
      exact ⟨_,rfl,pi [],mkInto (ks := [0,2,4,7,8,9]) (ys := [v_0,.i a2,.mp 0 0 0,.i j3_7,.i l1_8,.i (wr (l2_9 + 1))]) (by kernel_rfl) (by kernel_rfl) (.k (.c (cleanMap _ _ (cl_SL cl_GTone))) (.k (.c rfl) (.k (.mp rfl rfl) (.k (.c rfl) (.k (.c rfl) (.k (.c rfl) .z)))))) (.k rfl (.cells (.k (.c (cl_GInstrument a1)) .z)) .z)⟩
    ·refine run_cF 22 (c166 25) (c166 26) (decide (l2_9 < (y2.length : Int))) hc3 (by kernel_rfl) (by kernel_rfl) ?_
     replace hl2 := Option.some.inj hl2; subst hl2
     have hr := rl2 _ rfl
     subst hr
     refine awp_p [0,2,4,7,8] [0] (zipE [0,2,4,7,8] [v_0,.i a2,.mp 0 0 0,.i l2_7,.i l1_8]) ⟨[(0,b_0)],1⟩ (by kernel_rfl) (?_)
     refine run_e 2 (by kernel_rfl) ?_
     refine thenE ?_
     refine ⟨⟨_,rfl⟩,?_⟩
     refine inbE ?_
     exact kl2 l2_7 rfl
   ·rintro _ rfl
    refine inbN ?_
    refine thenN ?_
    refine run0z [] [0,2,4,7,8] [v_0,.i a2,.mp 0 0 0,.i l2x_7,.i (wr (l1_8 + 1))] ⟨[(0,b_0)],1⟩ _ (by kernel_rfl) cj0 ?_
    replace hl1 := Option.some.inj hl1; subst hl1
    exact ⟨_,rfl,pi [],mkInto (ks := [0,2,4,7,8]) (ys := [v_0,.i a2,.mp 0 0 0,.i l2x_7,.i (wr (l1_8 + 1))]) (by kernel_rfl) (by kernel_rfl) (.k (.c (cleanMap _ _ (cl_SL cl_GTone))) (.k (.c rfl) (.k (.mp rfl rfl) (.k (.c rfl) (.k (.c rfl) .z))))) (.k rfl (.cells (.k (.c (cl_GInstrument a1)) .z)) .z)⟩
  ·refine run_cF 13 (c166 13) (c166 14) (decide (l1_8 < (a0.length : Int))) hc1 (by kernel_rfl) (by kernel_rfl) ?_
   replace hl1 := Option.some.inj hl1; subst hl1
   have hr := rl1 _ rfl
   subst hr
   refine awp_p [7] [] (zipE [7] [.i l1_7]) ⟨[],1⟩ (by kernel_rfl) (?_)
   refine run_e 0 (by kernel_rfl) ?_
   refine thenE ?_
   refine ⟨⟨_,rfl⟩,?_⟩
   refine inbE ?_
   exact kl1 l1_7 rfl
 ·rintro _ rfl
  refine thenN ?_
  refine run1z (c166 38) [] [6] [.i l1x_7] ⟨[],1⟩ _ (by kernel_rfl) cj0 ?_
  refine run_t (by kernel_rfl) ?_
  replace h := Option.some.inj h; subst h
  exact fin_r (by kernel_rfl) rfl
def f109 (a0 : List (List GTone)) (a1 : GInstrument) (a2 : Int) : Option (Int × Int) := (f102 a0).bind fun r1 => bif (decide (r1 ≠ 0)) then (some (0,r1)) else ((f108 a1).bind fun r3 => bif (decide (r3 ≠ 0)) then (some (0,r3)) else ((f165 a2).bind fun r5 => bif r5 then (some (0,1)) else ((f166 a0 a1 a2).bind fun r7 => some (r7,0))))
theorem f109_ok (a0 : List (List GTone)) (a1 : GInstrument) (a2 : Int) (r : (Int × Int)) (h : f109 a0 a1 a2 = some r) : APure Tryz.prog 109 [.sl false (a0.map (SL E_GTone)),E_GInstrument a1,.i a2] (.tup [.i r.1,.i r.2]) := by
 refine apure (clK (cleanMap a0 _ (cl_SL cl_GTone)) (clK (cl_GInstrument a1) (clK rfl clZ))) (clK rfl (clK rfl clZ)) ?_
 let v_0 : AV := .sl false (a0.map (SL E_GTone))
 refine run_f 26 [.tmp 6,.tmp 7] (c109 0) (zipE [0,1,2] [v_0,E_GInstrument a1,.i a2]) (by kernel_rfl) (by kernel_rfl) (by kernel_rfl) rfl ?_
 unfold f109 at h
 let b_0 : Blk := .cells 2 [E_GInstrument a1]
 refine run1z (c109 2) [] [0,2,4] [v_0,.i a2,.mp 0 0 0] ⟨[(0,b_0)],1⟩ _ (by kernel_rfl) cj0 ?_
 refine run_s (c109 3) (c109 12) (by kernel_rfl) ?_
 obtain ⟨r1,hr1,h⟩ := bindE h
 refine run1z (c109 5) [{},{ c := some (.i r1,⟨[(0,b_0)],1⟩) }] [0,2,4,8] [v_0,.i a2,.mp 0 0 0,.i r1] ⟨[(0,b_0)],1⟩ _ (by kernel_rfl) (cj1 (f102_ok a0 _ hr1 ⟨[(0,b_0)],1⟩)) ?_
 refine run1z (c109 7) [] [0,2,4,8,13] [v_0,.i a2,.mp 0 0 0,.i r1,.bool (decide (r1 ≠ 0))] ⟨[(0,b_0)],1⟩ _ (by kernel_rfl) cj0 ?_
 rcases iteE h with ⟨hc2,h⟩ | ⟨hc2,h⟩
 ·refine run_cT 13 (c109 8) (c109 11) (decide (r1 ≠ 0)) hc2 (by kernel_rfl) (by kernel_rfl) ?_
  refine run1z (c109 10) [] [6,7] [.i 0,.i r1] ⟨[],1⟩ _ (by kernel_rfl) cj0 ?_
  refine run_t (by kernel_rfl) ?_
  refine thenR ?_
  replace h := Option.some.inj h; subst h
  exact fin_r (by kernel_rfl) rfl
 ·refine run_cF 13 (c109 8) (c109 11) (decide (r1 ≠ 0)) hc2 (by kernel_rfl) (by kernel_rfl) ?_
  refine run_k (by kernel_rfl) ?_
  refine thenN ?_
  refine run_s (c109 13) (c109 22) (by kernel_rfl) ?_
  obtain ⟨r3,hr3,h⟩ := bindE h
  refine run1z (c109 15) [{},{ c := some (.i r3,⟨[(0,b_0)],1⟩) }] [0,2,4,9] [v_0,.i a2,.mp 0 0 0,.i r3] ⟨[(0,b_0)],1⟩ _ (by kernel_rfl) (cj1 (f108_ok a1 _ hr3 ⟨[(0,b_0)],1⟩)) ?_
  refine run1z (c109 17) [] [0,2,4,9,18] [v_0,.i a2,.mp 0 0 0,.i r3,.bool (decide (r3 ≠ 0))] ⟨[(0,b_0)],1⟩ _ (by kernel_rfl) cj0 ?_
  rcases iteE h with ⟨hc4,h⟩ | ⟨hc4,h⟩
  ·refine run_cT 18 (c109 18) (c109 21) (decide (r3 ≠ 0)) hc4 (by kernel_rfl) (by kernel_rfl) ?_
   refine run1z (c109 20) [] [6,7] [.i 0,.i r3] ⟨[],1⟩ _ (by kernel_rfl) cj0 ?_
   refine run_t (by kernel_rfl) ?_
   refine thenR ?_
   replace h := Option.some.inj h; subst h
   exact fin_r (by kernel_rfl) rfl
  ·refine run_cF 18 (c109 18) (c109 21) (decide (r3 ≠ 0)) hc4 (by kernel_rfl) (by kernel_rfl) ?_
   refine run_k (by kernel_rfl) ?_
   refine thenN ?_
   refine run_s (c109 23) (c109 30) (by kernel_rfl) ?_
   obtain ⟨r5,hr5,h⟩ := bindE h
   refine run1z (c109 25) [{},{ c := some (.bool r5,⟨[(0,b_0)],1⟩) }] [0,2,4,21] [v_0,.i a2,.mp 0 0 0,.bool r5] ⟨[(0,b_0)],1⟩ _ (by kernel_rfl) (cj1 (f165_ok a2 _ hr5 ⟨[(0,b_0)],1⟩)) ?_
   rcases iteE h with ⟨hc6,h⟩ | ⟨hc6,h⟩
   ·refine run_cT 21 (c109 26) (c109 29) r5 hc6 (by kernel_rfl) (by kernel_rfl) ?_
    refine run1z (c109 28) [] [6,7] [.i 0,.i 1] ⟨[],1⟩ _ (by kernel_rfl) cj0 ?_
    refine run_t (by kernel_rfl) ?_
    refine thenR ?_
    replace h := Option.some.inj h; subst h
    exact fin_r (by kernel_rfl) rfl
   ·refine run_cF 21 (c109 26) (c109 29) r5 hc6 (by kernel_rfl) (by kernel_rfl) ?_
    refine run_k (by kernel_rfl) ?_
    refine thenN ?_
    obtain ⟨r7,hr7,h⟩ := bindE h
    refine run1z (c109 32) [{},{},{},{ c := some (.i r7,⟨[(0,b_0)],1⟩) }] [6,7] [.i r7,.i 0] ⟨[],1⟩ _ (by kernel_rfl) (cj1 (f166_ok a0 a1 a2 _ hr7 ⟨[(0,b_0)],1⟩)) ?_
    refine run_t (by kernel_rfl) ?_
    replace h := Option.some.inj h; subst h
    exact fin_r (by kernel_rfl) rfl
def f110 (a0 : List (List Int)) (a1 : List Int) (a2 : Int) (a3 : Int) : Option (Int × Bool) := need (0 ≤ a2) <| need (a2 ≤ (maxElems : Int)) <| (loopN (σ := (List Int × Int × Int)) (τ := (Int ⊕ (Int × Bool))) (fun ((l1_10,l1_11,l1_12) : (List Int × Int × Int)) => bif (decide (l1_12 < (a1.length : Int))) then ((ix a0 l1_12).bind fun y4 => (ix a1 l1_12).bind fun y5 => (ix y4 y5).bind fun y6 => (ix l1_10 y5).bind fun y7 => (ix (l1_10.set y5.toNat (wr (y7 + 1))) y5).bind fun y8 => bif (decide (a3 < y8)) then (some (.inr (.inr (0,false)))) else (some (.inl ((l1_10.set y5.toNat (wr (y7 + 1))),(wr (l1_11 + y6)),(wr (l1_12 + 1)))))) else (some (.inr (.inl l1_11)))) FUEL ((List.replicate a2.toNat (0 : Int)),0,0)).bind (Sum.elim (fun (l1x_11 : Int) => some (l1x_11,true)) some)
theorem f110_ok (a0 : List (List Int)) (a1 : List Int) (a2 : Int) (a3 : Int) (r : (Int × Bool)) (h : f110 a0 a1 a2 a3 = some r) : ACalls Tryz.prog 110 [.ms 0 0 a0.length,.ms 1 0 a1.length,.i a2,.i a3] ⟨[(1,.cells 1 (a1.map AV.i)),(0,.cells 1 (a0.map (SL AV.i)))],2⟩ (fun y t => y = .tup [.i r.1,.bool r.2] ∧ t = ⟨[(1,.cells 1 (a1.map AV.i)),(0,.cells 1 (a0.map (SL AV.i)))],3⟩) := by
 let v_0 : AV := .ms 0 0 a0.length
 let v_1 : AV := .ms 1 0 a1.length
 refine run_f 52 [.tmp 8,.tmp 9] (c110 0) (zipE [0,1,2,3] [v_0,v_1,.i a2,.i a3]) (by kernel_rfl) (by kernel_rfl) (by kernel_rfl) rfl ?_
 unfold f110 at h
 let b_0 : Blk := .cells 1 (a0.map (SL AV.i))
 let b_1 : Blk := .cells 1 (a1.map AV.i)
 refine run1z (c110 2) [] [0,1,2,3] [v_0,v_1,.i a2,.i a3] ⟨[(1,b_1),(0,b_0)],2⟩ _ (by kernel_rfl) cj0 ?_
 obtain ⟨hn1,h⟩ := needE h
 obtain ⟨hn2,h⟩ := needE h
 let b_2 : Blk := .cells 1 ((List.replicate a2.toNat (0 : Int)).map AV.i)
 let s_0 : St := ⟨[(2,b_2),(1,b_1),(0,b_0)],3⟩
 refine run1z (c110 4) [{},{ k := 1,n := a2.toNat,l := (List.replicate a2.toNat (0 : Int)).map AV.i }] [0,1,3,10] [v_0,v_1,.i a3,.ms 2 0 a2.toNat] s_0 _ (by kernel_rfl) (cjC (hn1) (cjC (Int.le_refl a2) (cjC (hn2) (cjC (Eq.refl (a2.toNat)) (cj1 (mapRep a2.toNat AV.i (0 : Int))))))) ?_
 refine run_i 3 [] [0,1,3,10] [v_0,v_1,.i a3,.ms 2 0 a2.toNat] (xs := [v_0,v_1,.i a3,.ms 2 0 (List.replicate a2.toNat (0 : Int)).length]) (S2 := s_0) ?_ (by intro i e; cases e <;> exact Nat.le_of_ble_eq_true rfl) (by kernel_rfl) (by kernel_rfl) (by kernel_rfl) (.k (.ms rfl rfl) (.k (.ms rfl rfl) (.k (.c rfl) (.k (.e rfl rfl (by simp)) .z)))) (.k rfl (.cells (.r (cleanMap _ _ cl_i))) (.k rfl (.cells (.r (cleanMap _ _ cl_i))) (.k rfl (.cells (.r (cleanMap _ _ (cl_SL cl_i)))) .z)))
 refine run1z (c110 6) [] [0,1,3,10,11] [v_0,v_1,.i a3,.ms 2 0 (List.replicate a2.toNat (0 : Int)).length,.i 0] s_0 _ (by kernel_rfl) cj0 ?_
 refine run_s (c110 7) (c110 31) (by kernel_rfl) ?_
 refine run1z (c110 9) [] [0,1,3,10,11,12] [v_0,v_1,.i a3,.ms 2 0 (List.replicate a2.toNat (0 : Int)).length,.i 0,.i 0] s_0 _ (by kernel_rfl) cj0 ?_
 obtain ⟨ol1x,hll1x,h⟩ := bindE h
 let s_1 : St := ⟨[(1,b_1),(0,b_0)],3⟩
 refine run_tq (fun (l1x_11 : Int) => (zipE [11] [.i l1x_11])) (fun (l1x_11 : Int) => s_1) (fun j => ol1x = .inl j) (fun kl1 => ?_) ?_
 ·refine run_b 0 (c110 10) (by kernel_rfl) ?_
  refine run_l (c110 11) _ hll1x (fun ((l1_10,l1_11,l1_12) : (List Int × Int × Int)) => (zipE [0,1,3,10,11,12] [v_0,v_1,.i a3,.ms 2 0 l1_10.length,.i l1_11,.i l1_12])) (fun ((l1_10,l1_11,l1_12) : (List Int × Int × Int)) => ⟨[(2,.cells 1 (l1_10.map AV.i)),(1,b_1),(0,b_0)],3⟩) [] (by intro i e; cases e <;> exact Nat.le_of_ble_eq_true rfl) (by kernel_rfl) (mkInto (ks := [0,1,3,10,11,12]) (ys := [v_0,v_1,.i a3,.ms 2 0 (List.replicate a2.toNat (0 : Int)).length,.i 0,.i 0]) (by kernel_rfl) (by kernel_rfl) (.k (.ms rfl rfl) (.k (.ms rfl rfl) (.k (.c rfl) (.k (.ms rfl rfl) (.k (.c rfl) (.k (.c rfl) .z)))))) (.k rfl (.cells (.r (cleanMap _ _ cl_i))) (.k rfl (.cells (.r (cleanMap _ _ cl_i))) (.k rfl (.cells (.r (cleanMap _ _ (cl_SL cl_i)))) .z)))) ?_
  rintro ⟨l1_10,l1_11,l1_12⟩ out hl1 rl1
  refine run_s (c110 12) (c110 17) (by kernel_rfl) ?_
  let v_2 : AV := .ms 2 0 l1_10.length
  let s_2 : St := ⟨[(2,.cells 1 (l1_10.map AV.i)),(1,b_1),(0,b_0)],3⟩
  refine run1z (c110 14) [] [0,1,3,10,11,12,18] [v_0,v_1,.i a3,v_2,.i l1_11,.i l1_12,.bool (decide (l1_12 < (a1.length : Int)))] s_2 _ (by kernel_rfl) cj0 ?_
  rcases iteE hl1 with ⟨hc3,hl1⟩ | ⟨hc3,hl1⟩
  ·refine run_cT 18 (c110 15) (c110 16) (decide (l1_12 < (a1.length : Int))) hc3 (by kernel_rfl) (by kernel_rfl) ?_
   refine run_k (by kernel_rfl) ?_
   refine thenN ?_
   refine run_s (c110 18) (c110 30) (by kernel_rfl) ?_
   refine run_b 1 (c110 19) (by kernel_rfl) ?_
   obtain ⟨y4,hy4,hl1⟩ := bindE hl1
   obtain ⟨y5,hy5,hl1⟩ := bindE hl1
   obtain ⟨y6,hy6,hl1⟩ := bindE hl1
   let v_3 : AV := .i (wr (l1_11 + y6))
   refine yun1z (c110 21) [[],[],[],[1,2],[1,2,3],[],[],[5,6],[5,6,7],[1,2,3,4,5,6,7,8],[1,2,3,4,5,6,7,8,9],[0,1,2,3,4,5,6,7,8,9,10],[0,1,2,3,4,5,6,7,8,9,10,11]] [.light 0 false,.light 1 false,.light 2 false,.light 3 false,.light 4 false,.light 5 false,.light 6 false,.light 7 false,.light 8 false,.light 9 false,.light 10 false,.light 11 false,.light 12 false] [{},{},{},{ k := 1,n := l1_12.toNat },{ k := 1,x := (SL AV.i) y4 },{},{},{ k := 1,n := l1_12.toNat },{ k := 1,x := AV.i y5 },{ k := 1,x := AV.i y6 }] [0,1,3,10,11,12] [v_0,v_1,.i a3,v_2,v_3,.i l1_12] s_2 _ (by kernel_rfl) (cjC ((ixE hy4).1) (cjC (ixLt hy4) (cjC (Nat.zero_add l1_12.toNat) (cjC (mapGet (SL AV.i) (ixE hy4).2) (cjC ((ixE hy5).1) (cjC (ixLt hy5) (cjC (Nat.zero_add l1_12.toNat) (cjC (mapGet AV.i (ixE hy5).2) (cjC ((ixE hy6).1) (cj1 (mapGet AV.i (ixE hy6).2))))))))))) ?_
   obtain ⟨y7,hy7,hl1⟩ := bindE hl1
   let b_3 : Blk := .cells 1 ((l1_10.set y5.toNat (wr (y7 + 1))).map AV.i)
   let s_3 : St := ⟨[(2,b_3),(1,b_1),(0,b_0)],3⟩
   refine run1z (c110 23) [{},{},{},{ k := 1,n := l1_12.toNat },{ k := 1,x := AV.i y5 },{ k := 1,n := y5.toNat },{ k := 1,x := AV.i y7 },{},{ k := 1,n := y5.toNat },{ k := 1,x := AV.i y7,l := (l1_10.set y5.toNat (wr (y7 + 1))).map AV.i }] [0,1,3,10,11,12] [v_0,v_1,.i a3,v_2,v_3,.i l1_12] s_3 _ (by kernel_rfl) (cjC ((ixE hy5).1) (cjC (ixLt hy5) (cjC (Nat.zero_add l1_12.toNat) (cjC (mapGet AV.i (ixE hy5).2) (cjC ((ixE hy7).1) (cjC (ixLt hy7) (cjC (Nat.zero_add y5.toNat) (cjC (mapGet AV.i (ixE hy7).2) (cjC ((ixE hy7).1) (cjC (ixLt hy7) (cjC (Nat.zero_add y5.toNat) (cjC (mapGet AV.i (ixE hy7).2) (cjC ((by decide : (1 : Nat) ≤ 1)) (cj1 (mapSet l1_10 AV.i y5.toNat (wr (y7 + 1))))))))))))))))) ?_
   refine run_i 3 [] [0,1,3,10,11,12] [v_0,v_1,.i a3,v_2,v_3,.i l1_12] (xs := [v_0,v_1,.i a3,.ms 2 0 (l1_10.set y5.toNat (wr (y7 + 1))).length,v_3,.i l1_12]) (S2 := s_3) ?_ (by intro i e; cases e <;> exact Nat.le_of_ble_eq_true rfl) (by kernel_rfl) (by kernel_rfl) (by kernel_rfl) (.k (.ms rfl rfl) (.k (.ms rfl rfl) (.k (.c rfl) (.k (.e rfl rfl (by simp)) (.k (.c rfl) (.k (.c rfl) .z)))))) (.k (x' := b_3) (by kernel_rfl) (.cells (.r (cleanMap _ _ cl_i))) (.k rfl (.cells (.r (cleanMap _ _ cl_i))) (.k rfl (.cells (.r (cleanMap _ _ (cl_SL cl_i)))) .z)))
   obtain ⟨y8,hy8,hl1⟩ := bindE hl1
   refine run1z (c110 25) [{},{},{},{ k := 1,n := l1_12.toNat },{ k := 1,x := AV.i y5 },{ k := 1,n := y5.toNat },{ k := 1,x := AV.i y8 }] [0,1,3,10,11,12,50] [v_0,v_1,.i a3,.ms 2 0 (l1_10.set y5.toNat (wr (y7 + 1))).length,v_3,.i l1_12,.bool (decide (a3 < y8))] s_3 _ (by kernel_rfl) (cjC ((ixE hy5).1) (cjC (ixLt hy5) (cjC (Nat.zero_add l1_12.toNat) (cjC (mapGet AV.i (ixE hy5).2) (cjC ((ixE hy8).1) (cjC (ixLt hy8) (cjC (Nat.zero_add y5.toNat) (cj1 (mapGet AV.i (ixE hy8).2))))))))) ?_
   rcases iteE hl1 with ⟨hc9,hl1⟩ | ⟨hc9,hl1⟩
   ·refine run_cT 50 (c110 26) (c110 29) (decide (a3 < y8)) hc9 (by kernel_rfl) (by kernel_rfl) ?_
    refine run1z (c110 28) [] [8,9] [.i 0,.bool false] s_1 _ (by kernel_rfl) cj0 ?_
    replace hl1 := Option.some.inj hl1; subst hl1
    have hr := rl1 _ rfl
    subst hr
    replace h := elimR h
    refine run_t (by kernel_rfl) ?_
    refine inbR ?_
    refine thenR ?_
    refine ⟨⟨_,rfl⟩,?_⟩
    refine inbR ?_
    refine thenR ?_
    replace h := Option.some.inj h; subst h
    exact fin_p [1,0] s_1 (by kernel_rfl) (by kernel_rfl) rfl ⟨rfl,rfl⟩
   ·refine run_cF 50 (c110 26) (c110 29) (decide (a3 < y8)) hc9 (by kernel_rfl) (by kernel_rfl) ?_
    refine run_k (by kernel_rfl) ?_
    refine inbN ?_
    refine thenN ?_
    refine run0z [] [0,1,3,10,11,12] [v_0,v_1,.i a3,.ms 2 0 (l1_10.set y5.toNat (wr (y7 + 1))).length,v_3,.i (wr (l1_12 + 1))] s_3 _ (by kernel_rfl) cj0 ?_
    replace hl1 := Option.some.inj hl1; subst hl1
    exact ⟨_,rfl,pi [],mkInto (ks := [0,1,3,10,11,12]) (ys := [v_0,v_1,.i a3,.ms 2 0 (l1_10.set y5.toNat (wr (y7 + 1))).length,v_3,.i (wr (l1_12 + 1))]) (by kernel_rfl) (by kernel_rfl) (.k (.ms rfl rfl) (.k (.ms rfl rfl) (.k (.c rfl) (.k (.ms rfl rfl) (.k (.c rfl) (.k (.c rfl) .z)))))) (.k (x' := b_3) (by kernel_rfl) (.cells (.r (cleanMap _ _ cl_i))) (.k rfl (.cells (.r (cleanMap _ _ cl_i))) (.k rfl (.cells (.r (cleanMap _ _ (cl_SL cl_i)))) .z)))⟩
  ·refine run_cF 18 (c110 15) (c110 16) (decide (l1_12 < (a1.length : Int))) hc3 (by kernel_rfl) (by kernel_rfl) ?_
   replace hl1 := Option.some.inj hl1; subst hl1
   have hr := rl1 _ rfl
   subst hr
   refine awp_p [11] [1,0] (zipE [11] [.i l1_11]) s_1 (by kernel_rfl) (?_)
   refine run_e 0 (by kernel_rfl) ?_
   refine thenE ?_
   refine ⟨⟨_,rfl⟩,?_⟩
   refine inbE ?_
   exact kl1 l1_11 rfl
 ·rintro l1x_11 rfl
  replace h := elimL h
  refine thenN ?_
  refine run1z (c110 33) [] [8,9] [.i l1x_11,.bool true] s_1 _ (by kernel_rfl) cj0 ?_
  refine run_t (by kernel_rfl) ?_
  replace h := Option.some.inj h; subst h
  exact fin_p [1,0] s_1 (by kernel_rfl) (by kernel_rfl) rfl ⟨rfl,rfl⟩
end Go.Proofs.YtodkhgjhodmeoaaGreat
