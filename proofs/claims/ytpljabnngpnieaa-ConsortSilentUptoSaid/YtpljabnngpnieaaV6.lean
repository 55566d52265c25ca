/-
 Functions of the program as Lean functions,and the walks. Written by a program of ours.
-/
import Derived.Test.YtpljabnngpnieaaV32
import Derived.Test.YtpljabnngpnieaaV11
import Derived.Test.YtpljabnngpnieaaV16
import Derived.Test.YtpljabnngpnieaaV14
import Derived.Test.YtpljabnngpnieaaV8
import Derived.Test.YtpljabnngpnieaaV25
import Derived.Test.YtpljabnngpnieaaV21
namespace Go.Proofs.Ytpljabnngpnieaa
open Go Go.Am
set_option maxRecDepth 100000
set_option linter.all false
noncomputable def c6 (k : Nat) : Code := nthC (subs (Try.f6.body.getD .skip)) k
def f6 (a0 : GConsort) (a1 : Int) : Option Bool := (((f9 a0.pieces).bind fun r1 => bif r1 then (some true) else (some (decide ((a0.pieces.length : Int) = 0)))) : Option Bool).bind fun (j1_19 : Bool) => bif j1_19 then ((f10).bind fun r4 => some r4) else ((f11 a0).bind (Sum.elim (fun r5a => bif (decide (r5a ≠ 0)) then ((f10).bind fun r7 => some r7) else ((f12 a1 (a0.pieces.length : Int)).bind fun r8 => (f25 r8 true).bind fun r9 => bif (decide (r9.2 ≠ 0)) then (some false) else ((f16).bind fun r11 => bif (!r11.2) then (some false) else ((((f20).bind fun r13 => (f21 a0 r13 r8 0).bind fun r14 => bif r14 then ((f19).bind fun r16 => (f14 a0).bind fun r17 => bif (decide (r16 = r17)) then ((f10).bind fun r19 => some r19) else (some false)) else (some false)) : Option Bool).bind fun (j2_4 : Bool) => some j2_4)))) (fun r5b => (f12 a1 (a0.pieces.length : Int)).bind fun r20 => (f25_1 (⟨(⟨0⟩ : GCClock),0,r5b.1,true,r5b.2,0,0,0,(⟨([] : List GCLive)⟩ : GCShelf_live),([] : List GTake)⟩ : GCPlayer) r20 true).bind fun r21 => bif (decide (r21.2.1 ≠ 0)) then (some false) else ((f16_1 (⟨(⟨0⟩ : GCClock),0,r5b.1,true,r21.2.2.1,0,0,0,(⟨r21.2.2.2.1⟩ : GCShelf_live),r21.2.2.2.2⟩ : GCPlayer)).bind fun r23 => bif (!r23.2.1) then (some false) else ((((f20_1 (⟨(⟨r23.2.2.1⟩ : GCClock),r23.2.2.2.1,r5b.1,r23.2.2.2.2.1,r23.2.2.2.2.2.1,0,0,r23.2.2.2.2.2.2.1,(⟨r23.2.2.2.2.2.2.2.1⟩ : GCShelf_live),r23.2.2.2.2.2.2.2.2⟩ : GCPlayer)).bind fun r25 => (f21 a0 r25 r20 0).bind fun r26 => bif r26 then ((f19_1 (⟨(⟨r23.2.2.1⟩ : GCClock),r23.2.2.2.1,r5b.1,r23.2.2.2.2.1,r23.2.2.2.2.2.1,0,0,r23.2.2.2.2.2.2.1,(⟨r23.2.2.2.2.2.2.2.1⟩ : GCShelf_live),r23.2.2.2.2.2.2.2.2⟩ : GCPlayer)).bind fun r28 => (f14 a0).bind fun r29 => bif (decide (r23.2.2.1 = r29)) then ((f10).bind fun r31 => some r31) else (some false)) else (some false)) : Option Bool).bind fun (j3_4 : Bool) => some j3_4)))))
theorem f6_ok (a0 : GConsort) (a1 : Int) (r : Bool) (h : f6 a0 a1 = some r) : APure Try.prog 6 [E_GConsort a0,.i a1] (.bool r) := by
 refine apure (clK (cl_GConsort a0) (clK rfl clZ)) rfl ?_
 refine run_f 64 [.tmp 4] (c6 0) (zipE [0,1] [E_GConsort a0,.i a1]) (by kernel_rfl) (by kernel_rfl) (by kernel_rfl) rfl ?_
 unfold f6 at h
 let b_0 : Blk := .cells 1 [E_GConsort a0]
 refine run1z (c6 2) [] [1,2] [.i a1,.mp 0 0 0] ⟨[(0,b_0)],1⟩ _ (by kernel_rfl) cj0 ?_
 refine run_s (c6 3) (c6 10) (by kernel_rfl) ?_
 obtain ⟨j1_19,hj1,h⟩ := bindE h
 refine run_gq (c6 5) (fun (j1_19 : Bool) => (zipE [1,2,19] [.i a1,.mp 0 0 0,.bool j1_19])) (fun (j1_19 : Bool) => ⟨[(0,b_0)],1⟩) (fun j => j1_19 = j) (fun kj1 => ?_) ?_
 ·obtain ⟨r1,hr1,hj1⟩ := bindE hj1
  rcases iteE hj1 with ⟨hc2,hj1⟩ | ⟨hc2,hj1⟩
  ·replace hj1 := Option.some.inj hj1; subst hj1
   exact run1z (c6 5) [{},{},{ c := some (.bool r1,⟨[(0,b_0)],1⟩) },{},{ g := false },{ g := false },{ g := false },{ g := false },{ k := 1,b := true }] [1,2,19] [.i a1,.mp 0 0 0,.bool true] ⟨[(0,b_0)],1⟩ _ (by kernel_rfl) (cjC (f9_ok a0.pieces _ hr1 ⟨[(0,b_0)],1⟩) (cjC (hc2) (cjC (hc2) (cjC (hc2) (cjC (hc2) (cj1 (hc2))))))) (kj1 true rfl)
  ·replace hj1 := Option.some.inj hj1; subst hj1
   exact run1z (c6 5) [{},{},{ c := some (.bool r1,⟨[(0,b_0)],1⟩) },{},{},{},{ k := 1,n := a0.pieces.length },{},{ k := 1,b := false }] [1,2,19] [.i a1,.mp 0 0 0,.bool (decide ((a0.pieces.length : Int) = 0))] ⟨[(0,b_0)],1⟩ _ (by kernel_rfl) (cjC (f9_ok a0.pieces _ hr1 ⟨[(0,b_0)],1⟩) (cjC (hc2) (cjC (hc2) (cjC (hc2) (cjC (mapLen a0.pieces E_GPiece) (cjC (hc2) (cj1 (hc2)))))))) (kj1 (decide ((a0.pieces.length : Int) = 0)) rfl)
 ·rintro _ rfl
  rcases iteE h with ⟨hc3,h⟩ | ⟨hc3,h⟩
  ·refine run_cT 19 (c6 6) (c6 9) j1_19 hc3 (by kernel_rfl) (by kernel_rfl) ?_
   obtain ⟨r4,hr4,h⟩ := bindE h
   refine run1z (c6 8) [{ c := some (.bool r4,⟨[(0,b_0)],1⟩) }] [4] [.bool r4] ⟨[],1⟩ _ (by kernel_rfl) (cj1 (f10_ok  _ hr4 ⟨[(0,b_0)],1⟩)) ?_
   refine run_t (by kernel_rfl) ?_
   refine thenR ?_
   replace h := Option.some.inj h; subst h
   exact fin_r (by kernel_rfl) rfl
  ·refine run_cF 19 (c6 6) (c6 9) j1_19 hc3 (by kernel_rfl) (by kernel_rfl) ?_
   refine run_k (by kernel_rfl) ?_
   refine thenN ?_
   obtain ⟨r5,hr5,h⟩ := bindE h
   rcases r5 with r5a | r5b
   ·replace h := elimL h
    refine run1z (c6 12) [{},{ c := some (.tup [.nilp,.i r5a],⟨[(0,b_0)],5⟩) }] [1,2,5,6] [.i a1,.mp 0 0 0,.nilp,.i r5a] ⟨[(0,b_0)],5⟩ _ (by kernel_rfl) (cj1 (callF (f11_ok a0 (.inl r5a) hr5) [] [] [0] [E_GConsort a0] ⟨[(0,b_0)],1⟩ (.tup [.nilp,.i r5a]) ⟨[(0,b_0)],5⟩ (by kernel_rfl) (.k (.c (cl_GConsort a0)) .z) (.t (.k (.c rfl) (.k (.c rfl) .z))) .z (.f rfl (by kernel_rfl) .z))) ?_
    refine run_s (c6 13) (c6 20) (by kernel_rfl) ?_
    refine run1z (c6 15) [] [1,2,5,27] [.i a1,.mp 0 0 0,.nilp,.bool (decide (r5a ≠ 0))] ⟨[(0,b_0)],5⟩ _ (by kernel_rfl) cj0 ?_
    rcases iteE h with ⟨hc6,h⟩ | ⟨hc6,h⟩
    ·refine run_cT 27 (c6 16) (c6 19) (decide (r5a ≠ 0)) hc6 (by kernel_rfl) (by kernel_rfl) ?_
     obtain ⟨r7,hr7,h⟩ := bindE h
     refine run1z (c6 18) [{ c := some (.bool r7,⟨[(0,b_0)],5⟩) }] [4] [.bool r7] ⟨[],5⟩ _ (by kernel_rfl) (cj1 (f10_ok  _ hr7 ⟨[(0,b_0)],5⟩)) ?_
     refine run_t (by kernel_rfl) ?_
     refine thenR ?_
     replace h := Option.some.inj h; subst h
     exact fin_r (by kernel_rfl) rfl
    ·refine run_cF 27 (c6 16) (c6 19) (decide (r5a ≠ 0)) hc6 (by kernel_rfl) (by kernel_rfl) ?_
     refine run_k (by kernel_rfl) ?_
     refine thenN ?_
     obtain ⟨r8,hr8,h⟩ := bindE h
     refine run1z (c6 22) [{},{},{},{ k := 1,n := a0.pieces.length },{ c := some (.i r8,⟨[(0,b_0)],5⟩) }] [1,2,5] [.i r8,.mp 0 0 0,.nilp] ⟨[(0,b_0)],5⟩ _ (by kernel_rfl) (cjC (mapLen a0.pieces E_GPiece) (cj1 (f12_ok a1 (a0.pieces.length : Int) _ hr8 ⟨[(0,b_0)],5⟩))) ?_
     refine run_s (c6 23) (c6 32) (by kernel_rfl) ?_
     obtain ⟨r9,hr9,h⟩ := bindE h
     refine run1z (c6 25) [{},{},{ c := some (.tup [E_GFrame r9.1,.i r9.2],⟨[(0,b_0)],5⟩) }] [1,2,5,8] [.i r8,.mp 0 0 0,.nilp,.i r9.2] ⟨[(0,b_0)],6⟩ _ (by kernel_rfl) (cj1 (APure.co (ok := fun _ => false) (π := id) (args := [.nilp,.i r8,.bool true]) (f25_ok r8 true _ hr9) (.k (.c rfl) (.k (.c rfl) (.k (.c rfl) .z))) ⟨[(0,b_0)],5⟩)) ?_
     refine run1z (c6 27) [] [1,2,5,41] [.i r8,.mp 0 0 0,.nilp,.bool (decide (r9.2 ≠ 0))] ⟨[(0,b_0)],6⟩ _ (by kernel_rfl) cj0 ?_
     rcases iteE h with ⟨hc10,h⟩ | ⟨hc10,h⟩
     ·refine run_cT 41 (c6 28) (c6 31) (decide (r9.2 ≠ 0)) hc10 (by kernel_rfl) (by kernel_rfl) ?_
      refine run1z (c6 30) [] [4] [.bool false] ⟨[],6⟩ _ (by kernel_rfl) cj0 ?_
      refine run_t (by kernel_rfl) ?_
      refine thenR ?_
      replace h := Option.some.inj h; subst h
      exact fin_r (by kernel_rfl) rfl
     ·refine run_cF 41 (c6 28) (c6 31) (decide (r9.2 ≠ 0)) hc10 (by kernel_rfl) (by kernel_rfl) ?_
      refine run_k (by kernel_rfl) ?_
      refine thenN ?_
      refine run_s (c6 33) (c6 42) (by kernel_rfl) ?_
      obtain ⟨r11,hr11,h⟩ := bindE h
      refine run1z (c6 35) [{},{ c := some (.tup [.sl false (r11.1.map E_GFrame),.bool r11.2],⟨[(0,b_0)],6⟩) }] [1,2,5,10] [.i r8,.mp 0 0 0,.nilp,.bool r11.2] ⟨[(0,b_0)],6⟩ _ (by kernel_rfl) (cj1 (APure.co (ok := fun _ => false) (π := id) (args := [.nilp]) (f16_ok  _ hr11) (.k (.c rfl) .z) ⟨[(0,b_0)],6⟩)) ?_
      refine run1z (c6 37) [] [1,2,5,48] [.i r8,.mp 0 0 0,.nilp,.bool (!r11.2)] ⟨[(0,b_0)],6⟩ _ (by kernel_rfl) cj0 ?_
      rcases iteE h with ⟨hc12,h⟩ | ⟨hc12,h⟩
      ·refine run_cT 48 (c6 38) (c6 41) (!r11.2) hc12 (by kernel_rfl) (by kernel_rfl) ?_
       refine run1z (c6 40) [] [4] [.bool false] ⟨[],6⟩ _ (by kernel_rfl) cj0 ?_
       refine run_t (by kernel_rfl) ?_
       refine thenR ?_
       replace h := Option.some.inj h; subst h
       exact fin_r (by kernel_rfl) rfl
      ·refine run_cF 48 (c6 38) (c6 41) (!r11.2) hc12 (by kernel_rfl) (by kernel_rfl) ?_
       refine run_k (by kernel_rfl) ?_
       refine thenN ?_
       obtain ⟨j2_4,hj2,h⟩ := bindE h
       refine run_gq (c6 44) (fun (j2_4 : Bool) => (zipE [4] [.bool j2_4])) (fun (j2_4 : Bool) => ⟨[],6⟩) (fun j => j2_4 = j) (fun kj2 => ?_) ?_
       ·obtain ⟨r13,hr13,hj2⟩ := bindE hj2
        obtain ⟨r14,hr14,hj2⟩ := bindE hj2
        rcases iteE hj2 with ⟨hc15,hj2⟩ | ⟨hc15,hj2⟩
        ·obtain ⟨r16,hr16,hj2⟩ := bindE hj2
         obtain ⟨r17,hr17,hj2⟩ := bindE hj2
         rcases iteE hj2 with ⟨hc18,hj2⟩ | ⟨hc18,hj2⟩
         ·obtain ⟨r19,hr19,hj2⟩ := bindE hj2
          replace hj2 := Option.some.inj hj2; subst hj2
          exact yun1z (c6 44) [[],[],[1],[],[0,1,2,3],[0,1,2,3,4],[0,1,2,3,4,5],[0,1,2,3,4,5,6],[0,1,2,3,4,5],[0,1,2,3,4,5,6,7,8],[0,1,2,3,4,5,6,7,8,9],[0,1,2,3,4,5,6,7,8,9,10],[0,1,2,3,4,5,6,7,8,9,10,11],[0,1,2,3,4,5,6,7,8,9,10,11,12],[0,1,2,3,4,5,6,7,8,9,10,11,12,13],[0,1,2,3,4,5,6,7,8,9,10,11,12,13,14]] [.light 0 true,.light 1 false,.light 3 false,.heavy 2 [0],.heavy 4 [],.light 5 false,.light 6 false,.light 8 true,.heavy 7 [8],.heavy 9 [],.light 10 false,.light 11 false,.light 12 false,.heavy 13 [],.light 14 false,.light 15 false] [{},{},{},{ c := some (.sl false (r13.map E_GTake),⟨[(0,b_0)],6⟩) },{ c := some (.bool r14,⟨[(0,b_0)],6⟩) },{},{},{},{ c := some (.i r16,⟨[(0,b_0)],6⟩) },{ c := some (.i r17,⟨[(0,b_0)],6⟩) },{},{},{},{ c := some (.bool r19,⟨[(0,b_0)],6⟩) }] [4] [.bool r19] ⟨[],6⟩ _ (by kernel_rfl) (cjC (APure.co (ok := fun _ => false) (π := id) (args := [.nilp]) (f20_ok  _ hr13) (.k (.c rfl) .z) ⟨[(0,b_0)],6⟩) (cjC (@Eq.refl AV (E_GConsort a0)) (cjC (f21_ok a0 r13 r8 0 _ hr14 ⟨[(0,b_0)],6⟩) (cjC (hc15) (cjC (Eq.refl true) (cjC (Eq.refl true) (cjC (APure.co (ok := fun _ => false) (π := id) (args := [.nilp]) (f19_ok  _ hr16) (.k (.c rfl) .z) ⟨[(0,b_0)],6⟩) (cjC (@Eq.refl AV (E_GConsort a0)) (cjC (Eq.refl true) (cjC (f14_ok a0 _ hr17 ⟨[(0,b_0)],6⟩) (cjC (Eq.refl true) (cjC (hc18) (cj1 (f10_ok  _ hr19 ⟨[(0,b_0)],6⟩)))))))))))))) (kj2 r19 rfl)
         ·replace hj2 := Option.some.inj hj2; subst hj2
          exact yun1z (c6 44) [[],[],[1],[],[0,1,2,3],[0,1,2,3,4],[0,1,2,3,4,5],[0,1,2,3,4,5,6],[0,1,2,3,4,5],[0,1,2,3,4,5,6,7,8],[0,1,2,3,4,5,6,7,8,9],[0,1,2,3,4,5,6,7,8,9,10],[0,1,2,3,4,5,6,7,8,9,10,11],[0,1,2,3,4,5,6,7,8,9,10,11,12],[0,1,2,3,4,5,6,7,8,9,10,11,12,13],[0,1,2,3,4,5,6,7,8,9,10,11,12,13,14]] [.light 0 true,.light 1 false,.light 3 false,.heavy 2 [0],.heavy 4 [],.light 5 false,.light 6 false,.light 8 true,.heavy 7 [8],.heavy 9 [],.light 10 false,.light 11 false,.light 12 false,.heavy 13 [],.light 14 false,.light 15 false] [{},{},{},{ c := some (.sl false (r13.map E_GTake),⟨[(0,b_0)],6⟩) },{ c := some (.bool r14,⟨[(0,b_0)],6⟩) },{},{},{},{ c := some (.i r16,⟨[(0,b_0)],6⟩) },{ c := some (.i r17,⟨[(0,b_0)],6⟩) },{},{},{},{ g := false }] [4] [.bool false] ⟨[],6⟩ _ (by kernel_rfl) (cjC (APure.co (ok := fun _ => false) (π := id) (args := [.nilp]) (f20_ok  _ hr13) (.k (.c rfl) .z) ⟨[(0,b_0)],6⟩) (cjC (@Eq.refl AV (E_GConsort a0)) (cjC (f21_ok a0 r13 r8 0 _ hr14 ⟨[(0,b_0)],6⟩) (cjC (hc15) (cjC (Eq.refl true) (cjC (Eq.refl true) (cjC (APure.co (ok := fun _ => false) (π := id) (args := [.nilp]) (f19_ok  _ hr16) (.k (.c rfl) .z) ⟨[(0,b_0)],6⟩) (cjC (@Eq.refl AV (E_GConsort a0)) (cjC (Eq.refl true) (cjC (f14_ok a0 _ hr17 ⟨[(0,b_0)],6⟩) (cjC (Eq.refl true) (cj1 (hc18))))))))))))) (kj2 false rfl)
        ·replace hj2 := Option.some.inj hj2; subst hj2
         exact yun1z (c6 44) [[],[],[1],[],[0,1,2,3],[0,1,2,3,4],[0,1,2,3,4,5],[0,1,2,3,4,5,6],[0,1,2,3,4,5],[0,1,2,3,4,5,6,7,8],[0,1,2,3,4,5,6,7,8,9],[0,1,2,3,4,5,6,7,8,9,10],[0,1,2,3,4,5,6,7,8,9,10,11],[0,1,2,3,4,5,6,7,8,9,10,11,12],[0,1,2,3,4,5,6,7,8,9,10,11,12,13],[0,1,2,3,4,5,6,7,8,9,10,11,12,13,14]] [.light 0 true,.light 1 false,.light 3 false,.heavy 2 [0],.heavy 4 [],.light 5 false,.light 6 false,.light 8 true,.heavy 7 [8],.heavy 9 [],.light 10 false,.light 11 false,.light 12 false,.heavy 13 [],.light 14 false,.light 15 false] [{},{},{},{ c := some (.sl false (r13.map E_GTake),⟨[(0,b_0)],6⟩) },{ c := some (.bool r14,⟨[(0,b_0)],6⟩) },{},{ g := false },{ g := false },{ g := false },{ g := false },{ g := false },{},{},{ g := false }] [4] [.bool false] ⟨[],6⟩ _ (by kernel_rfl) (cjC (APure.co (ok := fun _ => false) (π := id) (args := [.nilp]) (f20_ok  _ hr13) (.k (.c rfl) .z) ⟨[(0,b_0)],6⟩) (cjC (@Eq.refl AV (E_GConsort a0)) (cjC (f21_ok a0 r13 r8 0 _ hr14 ⟨[(0,b_0)],6⟩) (cjC (hc15) (cjC (Eq.refl false) (cjC (Eq.refl false) (cjC (Eq.refl false) (cjC (Eq.refl false) (cj1 (Eq.refl false)))))))))) (kj2 false rfl)
       ·rintro _ rfl
        refine run_t (by kernel_rfl) ?_
        replace h := Option.some.inj h; subst h
        exact fin_r (by kernel_rfl) rfl
   ·replace h := elimR h
    let v_0 : AV := .ms 3 0 r5b.2.length
    let w_0 : AV := .agg [.i 0,.i 0,.i r5b.1,.bool true,v_0,.i 0,.i 0,.i 0,.ms 5 0 ([] : List GCLive).length,.fn 31 [],.ms 4 0 ([] : List GTake).length]
    let b_1 : Blk := .cells 7 (([] : List GCLive).map E_GCLive)
    let b_2 : Blk := .cells 5 (([] : List GTake).map E_GTake)
    let b_3 : Blk := .cells 3 (r5b.2.map E_GCDesk)
    let s_0 : St := ⟨[(5,b_1),(4,b_2),(3,b_3),(2,.cells 11 [w_0]),(0,b_0)],6⟩
    refine run1z (c6 12) [{},{ c := some (.tup [.mp 2 0 0,.i 0],s_0) }] [1,2,5,6] [.i a1,.mp 0 0 0,.mp 2 0 0,.i 0] s_0 _ (by kernel_rfl) (cj1 (callF (f11_ok a0 (.inr r5b) hr5) [] [(5,4),(4,3),(3,2),(2,1)] [0] [E_GConsort a0] ⟨[(0,b_0)],1⟩ (.tup [.mp 2 0 0,.i 0]) s_0 (by kernel_rfl) (.k (.c (cl_GConsort a0)) .z) (.t (.k (.mp rfl rfl) (.k (.c rfl) .z))) .z (.d (x' := b_1) rfl (by kernel_rfl) (.cells (.r (cleanMap _ _ cl_GCLive))) (.d (x' := b_2) rfl (by kernel_rfl) (.cells (.r (cleanMap _ _ cl_GTake))) (.d (x' := b_3) rfl (by kernel_rfl) (.cells (.r (cleanMap _ _ cl_GCDesk))) (.d (x' := .cells 11 [.agg [.i 0,.i 0,.i r5b.1,.bool true,.ms 2 0 r5b.2.length,.i 0,.i 0,.i 0,.ms 4 0 ([] : List GCLive).length,.fn 31 [],.ms 3 0 ([] : List GTake).length]]) rfl (by kernel_rfl) (.cells (.k (.a (.k (.c rfl) (.k (.c rfl) (.k (.c rfl) (.k (.c rfl) (.k (.ms rfl rfl) (.k (.c rfl) (.k (.c rfl) (.k (.c rfl) (.k (.ms rfl rfl) (.k (.c rfl) (.k (.ms rfl rfl) .z)))))))))))) .z)) (.f rfl (by kernel_rfl) .z))))))) ?_
    refine run_s (c6 13) (c6 20) (by kernel_rfl) ?_
    refine run1z (c6 15) [] [1,2,5,27] [.i a1,.mp 0 0 0,.mp 2 0 0,.bool false] s_0 _ (by kernel_rfl) cj0 ?_
    refine run_cF 27 (c6 16) (c6 19) false rfl (by kernel_rfl) (by kernel_rfl) ?_
    refine run_k (by kernel_rfl) ?_
    refine thenN ?_
    obtain ⟨r20,hr20,h⟩ := bindE h
    refine run1z (c6 22) [{},{},{},{ k := 1,n := a0.pieces.length },{ c := some (.i r20,s_0) }] [1,2,5] [.i r20,.mp 0 0 0,.mp 2 0 0] s_0 _ (by kernel_rfl) (cjC (mapLen a0.pieces E_GPiece) (cj1 (f12_ok a1 (a0.pieces.length : Int) _ hr20 s_0))) ?_
    refine run_s (c6 23) (c6 32) (by kernel_rfl) ?_
    obtain ⟨r21,hr21,h⟩ := bindE h
    let v_1 : AV := .sl false (r21.1.begin.map E_GVoice)
    let v_2 : AV := .sl false (r21.1.end_.map E_GVoice)
    let v_3 : AV := .ms 13 0 r21.2.2.2.1.length
    let v_4 : AV := .ms 14 0 r21.2.2.2.2.length
    let v_5 : AV := .ms 3 0 r21.2.2.1.length
    let w_1 : AV := .agg [.i 0,.i 0,.i r5b.1,.bool true,v_5,.i 0,.i 0,.i 0,v_3,.fn 31 [],v_4]
    let w_2 : AV := .tup [.agg [.i r21.1.time,v_1,v_2],.i r21.2.1]
    let b_4 : Blk := .cells 7 (r21.2.2.2.1.map E_GCLive)
    let b_5 : Blk := .cells 5 (r21.2.2.2.2.map E_GTake)
    let b_6 : Blk := .cells 3 (r21.2.2.1.map E_GCDesk)
    let s_1 : St := ⟨[(14,b_5),(13,b_4),(3,b_6),(2,.cells 11 [w_1]),(0,b_0)],15⟩
    let s_2 : St := ⟨[(14,b_5),(13,b_4),(3,b_6),(2,.cells 11 [w_1]),(0,b_0)],16⟩
    refine run1z (c6 25) [{},{},{ c := some (w_2,s_1) }] [1,2,5,8] [.i r20,.mp 0 0 0,.mp 2 0 0,.i r21.2.1] s_2 _ (by kernel_rfl) (cj1 (callF (f25_1_ok (⟨(⟨0⟩ : GCClock),0,r5b.1,true,r5b.2,0,0,0,(⟨([] : List GCLive)⟩ : GCShelf_live),([] : List GTake)⟩ : GCPlayer) r20 true _ hr21) [(0,2),(1,3),(2,5),(3,4)] [(14,12),(13,11),(3,1),(2,0)] [0] [.mp 2 0 0,.i r20,.bool true] s_0 (w_2) s_1 (by kernel_rfl) (.k (.mp rfl rfl) (.k (.c rfl) (.k (.c rfl) .z))) (.t (.k (.c (cl_GFrame (⟨r21.1.time,r21.1.begin,r21.1.end_⟩ : GFrame))) (.k (.c rfl) .z))) (.k rfl (.cells (.r (cleanMap _ _ cl_GTake))) (.k rfl (.cells (.r (cleanMap _ _ cl_GCLive))) (.k rfl (.cells (.r (cleanMap _ _ cl_GCDesk))) (.k rfl (.cells (.k (.a (.k (.c rfl) (.k (.c rfl) (.k (.c rfl) (.k (.c rfl) (.k (.ms rfl rfl) (.k (.c rfl) (.k (.c rfl) (.k (.c rfl) (.k (.ms rfl rfl) (.k (.c rfl) (.k (.ms rfl rfl) .z)))))))))))) .z)) .z)))) (.d (x' := b_5) rfl (by kernel_rfl) (.cells (.r (cleanMap _ _ cl_GTake))) (.d (x' := b_4) rfl (by kernel_rfl) (.cells (.r (cleanMap _ _ cl_GCLive))) (.d (x' := b_6) rfl (by kernel_rfl) (.cells (.r (cleanMap _ _ cl_GCDesk))) (.d (x' := .cells 11 [.agg [.i 0,.i 0,.i r5b.1,.bool true,.ms 1 0 r21.2.2.1.length,.i 0,.i 0,.i 0,.ms 11 0 r21.2.2.2.1.length,.fn 31 [],.ms 12 0 r21.2.2.2.2.length]]) rfl (by kernel_rfl) (.cells (.k (.a (.k (.c rfl) (.k (.c rfl) (.k (.c rfl) (.k (.c rfl) (.k (.ms rfl rfl) (.k (.c rfl) (.k (.c rfl) (.k (.c rfl) (.k (.ms rfl rfl) (.k (.c rfl) (.k (.ms rfl rfl) .z)))))))))))) .z)) (.f rfl (by kernel_rfl) .z))))))) ?_
    refine run1z (c6 27) [] [1,2,5,41] [.i r20,.mp 0 0 0,.mp 2 0 0,.bool (decide (r21.2.1 ≠ 0))] s_2 _ (by kernel_rfl) cj0 ?_
    rcases iteE h with ⟨hc22,h⟩ | ⟨hc22,h⟩
    ·refine run_cT 41 (c6 28) (c6 31) (decide (r21.2.1 ≠ 0)) hc22 (by kernel_rfl) (by kernel_rfl) ?_
     refine run1z (c6 30) [] [4] [.bool false] ⟨[],16⟩ _ (by kernel_rfl) cj0 ?_
     refine run_t (by kernel_rfl) ?_
     refine thenR ?_
     replace h := Option.some.inj h; subst h
     exact fin_r (by kernel_rfl) rfl
    ·refine run_cF 41 (c6 28) (c6 31) (decide (r21.2.1 ≠ 0)) hc22 (by kernel_rfl) (by kernel_rfl) ?_
     refine run_k (by kernel_rfl) ?_
     refine thenN ?_
     refine run_s (c6 33) (c6 42) (by kernel_rfl) ?_
     obtain ⟨r23,hr23,h⟩ := bindE h
     let v_6 : AV := .ms 32 0 r23.2.2.2.2.2.2.2.1.length
     let v_7 : AV := .ms 33 0 r23.2.2.2.2.2.2.2.2.length
     let v_8 : AV := .ms 3 0 r23.2.2.2.2.2.1.length
     let v_9 : AV := .ms 1 0 r23.2.2.2.2.2.1.length
     let v_10 : AV := .i r23.2.2.2.2.2.2.1
     let v_11 : AV := .bool r23.2.2.2.2.1
     let v_12 : AV := .i r23.2.2.2.1
     let w_3 : AV := .agg [.i r23.2.2.1,v_12,.i r5b.1,v_11,v_8,.i 0,.i 0,v_10,v_6,.fn 31 [],v_7]
     let w_4 : AV := .tup [.sl false (r23.1.map E_GFrame),.bool r23.2.1]
     let b_7 : Blk := .cells 7 (r23.2.2.2.2.2.2.2.1.map E_GCLive)
     let b_8 : Blk := .cells 5 (r23.2.2.2.2.2.2.2.2.map E_GTake)
     let b_9 : Blk := .cells 3 (r23.2.2.2.2.2.1.map E_GCDesk)
     let s_3 : St := ⟨[(33,b_8),(32,b_7),(3,b_9),(2,.cells 11 [w_3]),(0,b_0)],34⟩
     refine run1z (c6 35) [{},{ c := some (w_4,s_3) }] [1,2,5,10] [.i r20,.mp 0 0 0,.mp 2 0 0,.bool r23.2.1] s_3 _ (by kernel_rfl) (cj1 (callF (f16_1_ok (⟨(⟨0⟩ : GCClock),0,r5b.1,true,r21.2.2.1,0,0,0,(⟨r21.2.2.2.1⟩ : GCShelf_live),r21.2.2.2.2⟩ : GCPlayer) _ hr23) [(0,2),(1,3),(2,13),(3,14)] [(33,21),(32,20),(3,1),(2,0)] [0] [.mp 2 0 0] s_2 (w_4) s_3 (by kernel_rfl) (.k (.mp rfl rfl) .z) (.t (.k (.c (cleanMap _ _ cl_GFrame)) (.k (.c rfl) .z))) (.k rfl (.cells (.r (cleanMap _ _ cl_GTake))) (.k rfl (.cells (.r (cleanMap _ _ cl_GCLive))) (.k rfl (.cells (.r (cleanMap _ _ cl_GCDesk))) (.k rfl (.cells (.k (.a (.k (.c rfl) (.k (.c rfl) (.k (.c rfl) (.k (.c rfl) (.k (.ms rfl rfl) (.k (.c rfl) (.k (.c rfl) (.k (.c rfl) (.k (.ms rfl rfl) (.k (.c rfl) (.k (.ms rfl rfl) .z)))))))))))) .z)) .z)))) (.d (x' := b_8) rfl (by kernel_rfl) (.cells (.r (cleanMap _ _ cl_GTake))) (.d (x' := b_7) rfl (by kernel_rfl) (.cells (.r (cleanMap _ _ cl_GCLive))) (.d (x' := b_9) rfl (by kernel_rfl) (.cells (.r (cleanMap _ _ cl_GCDesk))) (.d (x' := .cells 11 [.agg [.i r23.2.2.1,v_12,.i r5b.1,v_11,v_9,.i 0,.i 0,v_10,.ms 20 0 r23.2.2.2.2.2.2.2.1.length,.fn 31 [],.ms 21 0 r23.2.2.2.2.2.2.2.2.length]]) rfl (by kernel_rfl) (.cells (.k (.a (.k (.c rfl) (.k (.c rfl) (.k (.c rfl) (.k (.c rfl) (.k (.ms rfl rfl) (.k (.c rfl) (.k (.c rfl) (.k (.c rfl) (.k (.ms rfl rfl) (.k (.c rfl) (.k (.ms rfl rfl) .z)))))))))))) .z)) (.f rfl (by kernel_rfl) .z))))))) ?_
     refine run1z (c6 37) [] [1,2,5,48] [.i r20,.mp 0 0 0,.mp 2 0 0,.bool (!r23.2.1)] s_3 _ (by kernel_rfl) cj0 ?_
     rcases iteE h with ⟨hc24,h⟩ | ⟨hc24,h⟩
     ·refine run_cT 48 (c6 38) (c6 41) (!r23.2.1) hc24 (by kernel_rfl) (by kernel_rfl) ?_
      refine run1z (c6 40) [] [4] [.bool false] ⟨[],34⟩ _ (by kernel_rfl) cj0 ?_
      refine run_t (by kernel_rfl) ?_
      refine thenR ?_
      replace h := Option.some.inj h; subst h
      exact fin_r (by kernel_rfl) rfl
     ·refine run_cF 48 (c6 38) (c6 41) (!r23.2.1) hc24 (by kernel_rfl) (by kernel_rfl) ?_
      refine run_k (by kernel_rfl) ?_
      refine thenN ?_
      obtain ⟨j3_4,hj3,h⟩ := bindE h
      refine run_gq (c6 44) (fun (j3_4 : Bool) => (zipE [4] [.bool j3_4])) (fun (j3_4 : Bool) => ⟨[],37⟩) (fun j => j3_4 = j) (fun kj3 => ?_) ?_
      ·obtain ⟨r25,hr25,hj3⟩ := bindE hj3
       obtain ⟨r26,hr26,hj3⟩ := bindE hj3
       rcases iteE hj3 with ⟨hc27,hj3⟩ | ⟨hc27,hj3⟩
       ·obtain ⟨r28,hr28,hj3⟩ := bindE hj3
        obtain ⟨r29,hr29,hj3⟩ := bindE hj3
        rcases iteE hj3 with ⟨hc30,hj3⟩ | ⟨hc30,hj3⟩
        ·obtain ⟨r31,hr31,hj3⟩ := bindE hj3
         replace hj3 := Option.some.inj hj3; subst hj3
         let w_5 : AV := .agg [.i r23.2.2.1,v_12,.i r5b.1,v_11,v_9,.i 0,.i 0,v_10,.ms 2 0 r23.2.2.2.2.2.2.2.1.length,.fn 31 [],.ms 3 0 r23.2.2.2.2.2.2.2.2.length]
         let s_4 : St := ⟨[(33,b_8),(32,b_7),(3,b_9),(2,.cells 11 [w_3]),(0,b_0)],37⟩
         exact yun1z (c6 44) [[],[],[1],[],[0,1,2,3],[0,1,2,3,4],[0,1,2,3,4,5],[0,1,2,3,4,5,6],[0,1,2,3,4,5],[0,1,2,3,4,5,6,7,8],[0,1,2,3,4,5,6,7,8,9],[0,1,2,3,4,5,6,7,8,9,10],[0,1,2,3,4,5,6,7,8,9,10,11],[0,1,2,3,4,5,6,7,8,9,10,11,12],[0,1,2,3,4,5,6,7,8,9,10,11,12,13],[0,1,2,3,4,5,6,7,8,9,10,11,12,13,14]] [.light 0 true,.light 1 false,.light 3 false,.heavy 2 [0],.heavy 4 [],.light 5 false,.light 6 false,.light 8 true,.heavy 7 [8],.heavy 9 [],.light 10 false,.light 11 false,.light 12 false,.heavy 13 [],.light 14 false,.light 15 false] [{},{},{},{ c := some (.sl false (r25.map E_GTake),s_4) },{ c := some (.bool r26,s_4) },{},{},{},{ c := some (.i r23.2.2.1,s_4) },{ c := some (.i r29,s_4) },{},{},{},{ c := some (.bool r31,s_4) }] [4] [.bool r31] ⟨[],37⟩ _ (by kernel_rfl) (cjC (callF (f20_1_ok (⟨(⟨r23.2.2.1⟩ : GCClock),r23.2.2.2.1,r5b.1,r23.2.2.2.2.1,r23.2.2.2.2.2.1,0,0,r23.2.2.2.2.2.2.1,(⟨r23.2.2.2.2.2.2.2.1⟩ : GCShelf_live),r23.2.2.2.2.2.2.2.2⟩ : GCPlayer) _ hr25) [(0,2),(1,3),(2,32),(3,33)] [(33,3),(32,2),(3,1),(2,0)] [0] [.mp 2 0 0] s_3 (.sl false (r25.map E_GTake)) s_4 (by kernel_rfl) (.k (.mp rfl rfl) .z) (.c (cleanMap _ _ cl_GTake)) (.k rfl (.cells (.r (cleanMap _ _ cl_GTake))) (.k rfl (.cells (.r (cleanMap _ _ cl_GCLive))) (.k rfl (.cells (.r (cleanMap _ _ cl_GCDesk))) (.k rfl (.cells (.k (.a (.k (.c rfl) (.k (.c rfl) (.k (.c rfl) (.k (.c rfl) (.k (.ms rfl rfl) (.k (.c rfl) (.k (.c rfl) (.k (.c rfl) (.k (.ms rfl rfl) (.k (.c rfl) (.k (.ms rfl rfl) .z)))))))))))) .z)) .z)))) (.d (x' := b_8) rfl (by kernel_rfl) (.cells (.r (cleanMap _ _ cl_GTake))) (.d (x' := b_7) rfl (by kernel_rfl) (.cells (.r (cleanMap _ _ cl_GCLive))) (.d (x' := b_9) rfl (by kernel_rfl) (.cells (.r (cleanMap _ _ cl_GCDesk))) (.d (x' := .cells 11 [w_5]) rfl (by kernel_rfl) (.cells (.k (.a (.k (.c rfl) (.k (.c rfl) (.k (.c rfl) (.k (.c rfl) (.k (.ms rfl rfl) (.k (.c rfl) (.k (.c rfl) (.k (.c rfl) (.k (.ms rfl rfl) (.k (.c rfl) (.k (.ms rfl rfl) .z)))))))))))) .z)) (.f rfl (by kernel_rfl) .z)))))) (cjC (@Eq.refl AV (E_GConsort a0)) (cjC (f21_ok a0 r25 r20 0 _ hr26 s_4) (cjC (hc27) (cjC (Eq.refl true) (cjC (Eq.refl true) (cjC (callF (f19_1_ok (⟨(⟨r23.2.2.1⟩ : GCClock),r23.2.2.2.1,r5b.1,r23.2.2.2.2.1,r23.2.2.2.2.2.1,0,0,r23.2.2.2.2.2.2.1,(⟨r23.2.2.2.2.2.2.2.1⟩ : GCShelf_live),r23.2.2.2.2.2.2.2.2⟩ : GCPlayer) _ hr28) [(0,2),(1,3),(2,32),(3,33)] [(33,3),(32,2),(3,1),(2,0)] [0] [.mp 2 0 0] s_4 (.i r23.2.2.1) s_4 (by kernel_rfl) (.k (.mp rfl rfl) .z) (.c rfl) (.k rfl (.cells (.r (cleanMap _ _ cl_GTake))) (.k rfl (.cells (.r (cleanMap _ _ cl_GCLive))) (.k rfl (.cells (.r (cleanMap _ _ cl_GCDesk))) (.k rfl (.cells (.k (.a (.k (.c rfl) (.k (.c rfl) (.k (.c rfl) (.k (.c rfl) (.k (.ms rfl rfl) (.k (.c rfl) (.k (.c rfl) (.k (.c rfl) (.k (.ms rfl rfl) (.k (.c rfl) (.k (.ms rfl rfl) .z)))))))))))) .z)) .z)))) (.d (x' := b_8) rfl (by kernel_rfl) (.cells (.r (cleanMap _ _ cl_GTake))) (.d (x' := b_7) rfl (by kernel_rfl) (.cells (.r (cleanMap _ _ cl_GCLive))) (.d (x' := b_9) rfl (by kernel_rfl) (.cells (.r (cleanMap _ _ cl_GCDesk))) (.d (x' := .cells 11 [w_5]) rfl (by kernel_rfl) (.cells (.k (.a (.k (.c rfl) (.k (.c rfl) (.k (.c rfl) (.k (.c rfl) (.k (.ms rfl rfl) (.k (.c rfl) (.k (.c rfl) (.k (.c rfl) (.k (.ms rfl rfl) (.k (.c rfl) (.k (.ms rfl rfl) .z)))))))))))) .z)) (.f rfl (by kernel_rfl) .z)))))) (cjC (@Eq.refl AV (E_GConsort a0)) (cjC (Eq.refl true) (cjC (f14_ok a0 _ hr29 s_4) (cjC (Eq.refl true) (cjC (hc30) (cj1 (f10_ok  _ hr31 s_4)))))))))))))) (kj3 r31 rfl)
        ·replace hj3 := Option.some.inj hj3; subst hj3
         let w_6 : AV := .agg [.i r23.2.2.1,v_12,.i r5b.1,v_11,v_9,.i 0,.i 0,v_10,.ms 2 0 r23.2.2.2.2.2.2.2.1.length,.fn 31 [],.ms 3 0 r23.2.2.2.2.2.2.2.2.length]
         let s_5 : St := ⟨[(33,b_8),(32,b_7),(3,b_9),(2,.cells 11 [w_3]),(0,b_0)],37⟩
         exact yun1z (c6 44) [[],[],[1],[],[0,1,2,3],[0,1,2,3,4],[0,1,2,3,4,5],[0,1,2,3,4,5,6],[0,1,2,3,4,5],[0,1,2,3,4,5,6,7,8],[0,1,2,3,4,5,6,7,8,9],[0,1,2,3,4,5,6,7,8,9,10],[0,1,2,3,4,5,6,7,8,9,10,11],[0,1,2,3,4,5,6,7,8,9,10,11,12],[0,1,2,3,4,5,6,7,8,9,10,11,12,13],[0,1,2,3,4,5,6,7,8,9,10,11,12,13,14]] [.light 0 true,.light 1 false,.light 3 false,.heavy 2 [0],.heavy 4 [],.light 5 false,.light 6 false,.light 8 true,.heavy 7 [8],.heavy 9 [],.light 10 false,.light 11 false,.light 12 false,.heavy 13 [],.light 14 false,.light 15 false] [{},{},{},{ c := some (.sl false (r25.map E_GTake),s_5) },{ c := some (.bool r26,s_5) },{},{},{},{ c := some (.i r23.2.2.1,s_5) },{ c := some (.i r29,s_5) },{},{},{},{ g := false }] [4] [.bool false] ⟨[],37⟩ _ (by kernel_rfl) (cjC (callF (f20_1_ok (⟨(⟨r23.2.2.1⟩ : GCClock),r23.2.2.2.1,r5b.1,r23.2.2.2.2.1,r23.2.2.2.2.2.1,0,0,r23.2.2.2.2.2.2.1,(⟨r23.2.2.2.2.2.2.2.1⟩ : GCShelf_live),r23.2.2.2.2.2.2.2.2⟩ : GCPlayer) _ hr25) [(0,2),(1,3),(2,32),(3,33)] [(33,3),(32,2),(3,1),(2,0)] [0] [.mp 2 0 0] s_3 (.sl false (r25.map E_GTake)) s_5 (by kernel_rfl) (.k (.mp rfl rfl) .z) (.c (cleanMap _ _ cl_GTake)) (.k rfl (.cells (.r (cleanMap _ _ cl_GTake))) (.k rfl (.cells (.r (cleanMap _ _ cl_GCLive))) (.k rfl (.cells (.r (cleanMap _ _ cl_GCDesk))) (.k rfl (.cells (.k (.a (.k (.c rfl) (.k (.c rfl) (.k (.c rfl) (.k (.c rfl) (.k (.ms rfl rfl) (.k (.c rfl) (.k (.c rfl) (.k (.c rfl) (.k (.ms rfl rfl) (.k (.c rfl) (.k (.ms rfl rfl) .z)))))))))))) .z)) .z)))) (.d (x' := b_8) rfl (by kernel_rfl) (.cells (.r (cleanMap _ _ cl_GTake))) (.d (x' := b_7) rfl (by kernel_rfl) (.cells (.r (cleanMap _ _ cl_GCLive))) (.d (x' := b_9) rfl (by kernel_rfl) (.cells (.r (cleanMap _ _ cl_GCDesk))) (.d (x' := .cells 11 [w_6]) rfl (by kernel_rfl) (.cells (.k (.a (.k (.c rfl) (.k (.c rfl) (.k (.c rfl) (.k (.c rfl) (.k (.ms rfl rfl) (.k (.c rfl) (.k (.c rfl) (.k (.c rfl) (.k (.ms rfl rfl) (.k (.c rfl) (.k (.ms rfl rfl) .z)))))))))))) .z)) (.f rfl (by kernel_rfl) .z)))))) (cjC (@Eq.refl AV (E_GConsort a0)) (cjC (f21_ok a0 r25 r20 0 _ hr26 s_5) (cjC (hc27) (cjC (Eq.refl true) (cjC (Eq.refl true) (cjC (callF (f19_1_ok (⟨(⟨r23.2.2.1⟩ : GCClock),r23.2.2.2.1,r5b.1,r23.2.2.2.2.1,r23.2.2.2.2.2.1,0,0,r23.2.2.2.2.2.2.1,(⟨r23.2.2.2.2.2.2.2.1⟩ : GCShelf_live),r23.2.2.2.2.2.2.2.2⟩ : GCPlayer) _ hr28) [(0,2),(1,3),(2,32),(3,33)] [(33,3),(32,2),(3,1),(2,0)] [0] [.mp 2 0 0] s_5 (.i r23.2.2.1) s_5 (by kernel_rfl) (.k (.mp rfl rfl) .z) (.c rfl) (.k rfl (.cells (.r (cleanMap _ _ cl_GTake))) (.k rfl (.cells (.r (cleanMap _ _ cl_GCLive))) (.k rfl (.cells (.r (cleanMap _ _ cl_GCDesk))) (.k rfl (.cells (.k (.a (.k (.c rfl) (.k (.c rfl) (.k (.c rfl) (.k (.c rfl) (.k (.ms rfl rfl) (.k (.c rfl) (.k (.c rfl) (.k (.c rfl) (.k (.ms rfl rfl) (.k (.c rfl) (.k (.ms rfl rfl) .z)))))))))))) .z)) .z)))) (.d (x' := b_8) rfl (by kernel_rfl) (.cells (.r (cleanMap _ _ cl_GTake))) (.d (x' := b_7) rfl (by kernel_rfl) (.cells (.r (cleanMap _ _ cl_GCLive))) (.d (x' := b_9) rfl (by kernel_rfl) (.cells (.r (cleanMap _ _ cl_GCDesk))) (.d (x' := .cells 11 [w_6]) rfl (by kernel_rfl) (.cells (.k (.a (.k (.c rfl) (.k (.c rfl) (.k (.c rfl) (.k (.c rfl) (.k (.ms rfl rfl) (.k (.c rfl) (.k (.c rfl) (.k (.c rfl) (.k (.ms rfl rfl) (.k (.c rfl) (.k (.ms rfl rfl) .z)))))))))))) .z)) (.f rfl (by kernel_rfl) .z)))))) (cjC (@Eq.refl AV (E_GConsort a0)) (cjC (Eq.refl true) (cjC (f14_ok a0 _ hr29 s_5) (cjC (Eq.refl true) (cj1 (hc30))))))))))))) (kj3 false rfl)
       ·replace hj3 := Option.some.inj hj3; subst hj3
        let s_6 : St := ⟨[(33,b_8),(32,b_7),(3,b_9),(2,.cells 11 [w_3]),(0,b_0)],37⟩
        exact yun1z (c6 44) [[],[],[1],[],[0,1,2,3],[0,1,2,3,4],[0,1,2,3,4,5],[0,1,2,3,4,5,6],[0,1,2,3,4,5],[0,1,2,3,4,5,6,7,8],[0,1,2,3,4,5,6,7,8,9],[0,1,2,3,4,5,6,7,8,9,10],[0,1,2,3,4,5,6,7,8,9,10,11],[0,1,2,3,4,5,6,7,8,9,10,11,12],[0,1,2,3,4,5,6,7,8,9,10,11,12,13],[0,1,2,3,4,5,6,7,8,9,10,11,12,13,14]] [.light 0 true,.light 1 false,.light 3 false,.heavy 2 [0],.heavy 4 [],.light 5 false,.light 6 false,.light 8 true,.heavy 7 [8],.heavy 9 [],.light 10 false,.light 11 false,.light 12 false,.heavy 13 [],.light 14 false,.light 15 false] [{},{},{},{ c := some (.sl false (r25.map E_GTake),s_6) },{ c := some (.bool r26,s_6) },{},{ g := false },{ g := false },{ g := false },{ g := false },{ g := false },{},{},{ g := false }] [4] [.bool false] ⟨[],37⟩ _ (by kernel_rfl) (cjC (callF (f20_1_ok (⟨(⟨r23.2.2.1⟩ : GCClock),r23.2.2.2.1,r5b.1,r23.2.2.2.2.1,r23.2.2.2.2.2.1,0,0,r23.2.2.2.2.2.2.1,(⟨r23.2.2.2.2.2.2.2.1⟩ : GCShelf_live),r23.2.2.2.2.2.2.2.2⟩ : GCPlayer) _ hr25) [(0,2),(1,3),(2,32),(3,33)] [(33,3),(32,2),(3,1),(2,0)] [0] [.mp 2 0 0] s_3 (.sl false (r25.map E_GTake)) s_6 (by kernel_rfl) (.k (.mp rfl rfl) .z) (.c (cleanMap _ _ cl_GTake)) (.k rfl (.cells (.r (cleanMap _ _ cl_GTake))) (.k rfl (.cells (.r (cleanMap _ _ cl_GCLive))) (.k rfl (.cells (.r (cleanMap _ _ cl_GCDesk))) (.k rfl (.cells (.k (.a (.k (.c rfl) (.k (.c rfl) (.k (.c rfl) (.k (.c rfl) (.k (.ms rfl rfl) (.k (.c rfl) (.k (.c rfl) (.k (.c rfl) (.k (.ms rfl rfl) (.k (.c rfl) (.k (.ms rfl rfl) .z)))))))))))) .z)) .z)))) (.d (x' := b_8) rfl (by kernel_rfl) (.cells (.r (cleanMap _ _ cl_GTake))) (.d (x' := b_7) rfl (by kernel_rfl) (.cells (.r (cleanMap _ _ cl_GCLive))) (.d (x' := b_9) rfl (by kernel_rfl) (.cells (.r (cleanMap _ _ cl_GCDesk))) (.d (x' := .cells 11 [.agg [.i r23.2.2.1,v_12,.i r5b.1,v_11,v_9,.i 0,.i 0,v_10,.ms 2 0 r23.2.2.2.2.2.2.2.1.length,.fn 31 [],.ms 3 0 r23.2.2.2.2.2.2.2.2.length]]) rfl (by kernel_rfl) (.cells (.k (.a (.k (.c rfl) (.k (.c rfl) (.k (.c rfl) (.k (.c rfl) (.k (.ms rfl rfl) (.k (.c rfl) (.k (.c rfl) (.k (.c rfl) (.k (.ms rfl rfl) (.k (.c rfl) (.k (.ms rfl rfl) .z)))))))))))) .z)) (.f rfl (by kernel_rfl) .z)))))) (cjC (@Eq.refl AV (E_GConsort a0)) (cjC (f21_ok a0 r25 r20 0 _ hr26 s_6) (cjC (hc27) (cjC (Eq.refl false) (cjC (Eq.refl false) (cjC (Eq.refl false) (cjC (Eq.refl false) (cj1 (Eq.refl false)))))))))) (kj3 false rfl)
      ·rintro _ rfl
       refine run_t (by kernel_rfl) ?_
       replace h := Option.some.inj h; subst h
       exact fin_r (by kernel_rfl) rfl
end Go.Proofs.Ytpljabnngpnieaa
