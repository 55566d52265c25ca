/-
 Functions of the program as Lean functions,and the walks. Written by a program of ours.
-/
import Derived.Test.YtodkhgjhodmeoaaAm31
import Derived.Test.YtodkhgjhodmeoaaChecked
import Derived.Test.YtodkhgjhodmeoaaRo
import Derived.Test.YtodkhgjhodmeoaaRp
import Derived.Test.YtodkhgjhodmeoaaWk
namespace Go.Proofs.Ytodkhgjhodmeoaa
open Go Go.Am
set_option maxRecDepth 100000
set_option linter.all false
structure GTone where
 pitch : Int
 from_ : Int
 to_ : Int
 deriving DecidableEq
def E_GTone (x : GTone) : AV := .agg [.i x.pitch,.i x.from_,.i x.to_]
theorem cl_GTone (x : GTone) : (E_GTone x).clean = true := (clK rfl (clK rfl (clK rfl clZ)))
structure GCourse where
 pitch : Int
 frets : Int
 octave : Bool
 deriving DecidableEq
def E_GCourse (x : GCourse) : AV := .agg [.i x.pitch,.i x.frets,.bool x.octave]
theorem cl_GCourse (x : GCourse) : (E_GCourse x).clean = true := (clK rfl (clK rfl (clK rfl clZ)))
structure GInstrument where
 courses : (List GCourse)
 steps : (List Int)
 deriving DecidableEq
def E_GInstrument (x : GInstrument) : AV := .agg [.sl false (x.courses.map E_GCourse),.sl false (x.steps.map AV.i)]
theorem cl_GInstrument (x : GInstrument) : (E_GInstrument x).clean = true := (clK (cleanMap _ _ cl_GCourse) (clK (cleanMap _ _ cl_i) clZ))
structure GPlace where
 course : Int
 fret : Int
 deriving DecidableEq
def E_GPlace (x : GPlace) : AV := .agg [.i x.course,.i x.fret]
theorem cl_GPlace (x : GPlace) : (E_GPlace x).clean = true := (clK rfl (clK rfl clZ))
noncomputable def c3 (k : Nat) : Code := nthC (subs (Try.f3.body.getD .skip)) k
noncomputable def c4 (k : Nat) : Code := nthC (subs (Try.f4.body.getD .skip)) k
noncomputable def c6 (k : Nat) : Code := nthC (subs (Try.f6.body.getD .skip)) k
noncomputable def c7 (k : Nat) : Code := nthC (subs (Try.f7.body.getD .skip)) k
noncomputable def c8 (k : Nat) : Code := nthC (subs (Try.f8.body.getD .skip)) k
noncomputable def c9 (k : Nat) : Code := nthC (subs (Try.f9.body.getD .skip)) k
noncomputable def c15 (k : Nat) : Code := nthC (subs (Try.f15.body.getD .skip)) k
noncomputable def c16 (k : Nat) : Code := nthC (subs (Try.f16.body.getD .skip)) k
noncomputable def c17 (k : Nat) : Code := nthC (subs (Try.f17.body.getD .skip)) k
noncomputable def c18 (k : Nat) : Code := nthC (subs (Try.f18.body.getD .skip)) k
noncomputable def c19 (k : Nat) : Code := nthC (subs (Try.f19.body.getD .skip)) k
noncomputable def c20 (k : Nat) : Code := nthC (subs (Try.f20.body.getD .skip)) k
noncomputable def c34 (k : Nat) : Code := nthC (subs (Try.f34.body.getD .skip)) k
noncomputable def c35 (k : Nat) : Code := nthC (subs (Try.f35.body.getD .skip)) k
noncomputable def c36 (k : Nat) : Code := nthC (subs (Try.f36.body.getD .skip)) k
noncomputable def c37 (k : Nat) : Code := nthC (subs (Try.f37.body.getD .skip)) k
noncomputable def c38 (k : Nat) : Code := nthC (subs (Try.f38.body.getD .skip)) k
noncomputable def c39 (k : Nat) : Code := nthC (subs (Try.f39.body.getD .skip)) k
noncomputable def c40 (k : Nat) : Code := nthC (subs (Try.f40.body.getD .skip)) k
noncomputable def c42 (k : Nat) : Code := nthC (subs (Try.f42.body.getD .skip)) k
noncomputable def c43 (k : Nat) : Code := nthC (subs (Try.f43.body.getD .skip)) k
noncomputable def c60 (k : Nat) : Code := nthC (subs (Try.f60.body.getD .skip)) k
noncomputable def c61 (k : Nat) : Code := nthC (subs (Try.f61.body.getD .skip)) k
noncomputable def c76 (k : Nat) : Code := nthC (subs (Try.f76.body.getD .skip)) k
def f20 (a0 : List GTone) : Option Bool := (loopN (σ := Int) (τ := (Unit ⊕ Bool)) (fun (l1_3 : Int) => bif (decide (l1_3 < (a0.length : Int))) then ((ix a0 l1_3).bind fun y2 => ((bif (decide (y2.pitch < 0)) then (some true) else (bif (decide (127 < y2.pitch)) then (some true) else (bif (decide (y2.from_ < 0)) then (some true) else (bif (decide (y2.to_ ≤ y2.from_)) then (some true) else (bif (decide (262144 < y2.to_)) then (some true) else (bif (decide (0 < l1_3)) then ((ix a0 (wr (l1_3 - 1))).bind fun y9 => some (decide (y2.from_ < y9.to_))) else (some false))))))) : Option Bool).bind fun (j2_54 : Bool) => bif j2_54 then (some (.inr (.inr false))) else (some (.inl (wr (l1_3 + 1))))) else (some (.inr (.inl ())))) FUEL 0).bind (Sum.elim (fun (_ : Unit) => some true) some)
theorem f20_ok (a0 : List GTone) (r : Bool) (h : f20 a0 = some r) : APure Try.prog 20 [.sl false (a0.map E_GTone)] (.bool r) := by
 refine apure (clK (cleanMap a0 _ cl_GTone) clZ) rfl ?_
 let v_0 : AV := .sl false (a0.map E_GTone)
 refine run_f 55 [.tmp 2] (c20 0) (zipE [0] [v_0]) (by kernel_rfl) (by kernel_rfl) (by kernel_rfl) rfl ?_
 unfold f20 at h
 refine run1z (c20 2) [] [0] [v_0] ⟨[],0⟩ _ (by kernel_rfl) cj0 ?_
 refine run_s (c20 3) (c20 25) (by kernel_rfl) ?_
 refine run1z (c20 5) [] [0,3] [v_0,.i 0] ⟨[],0⟩ _ (by kernel_rfl) cj0 ?_
 obtain ⟨ol1x,hll1x,h⟩ := bindE h
 refine run_tq (fun (_ : Unit) => (zipE [] [])) (fun (_ : Unit) => ⟨[],0⟩) (fun j => ol1x = .inl j) (fun kl1 => ?_) ?_
 ·refine run_b 0 (c20 6) (by kernel_rfl) ?_
  refine run_l (c20 7) _ hll1x (fun (l1_3 : Int) => (zipE [0,3] [v_0,.i l1_3])) (fun (l1_3 : Int) => ⟨[],0⟩) [] (by intro i e; cases e <;> exact Nat.le_of_ble_eq_true rfl) (by kernel_rfl) (mkInto (ks := [0,3]) (ys := [v_0,.i 0]) (by kernel_rfl) (by kernel_rfl) (.k (.c (cleanMap _ _ cl_GTone)) (.k (.c rfl) .z)) .z) ?_
  rintro l1_3 out hl1 rl1
  refine run_s (c20 8) (c20 13) (by kernel_rfl) ?_
  refine run1z (c20 10) [{},{},{ k := 1,n := a0.length }] [0,3,8] [v_0,.i l1_3,.bool (decide (l1_3 < (a0.length : Int)))] ⟨[],0⟩ _ (by kernel_rfl) (cj1 (mapLen a0 E_GTone)) ?_
  rcases iteE hl1 with ⟨hc1,hl1⟩ | ⟨hc1,hl1⟩
  ·refine run_cT 8 (c20 11) (c20 12) (decide (l1_3 < (a0.length : Int))) hc1 (by kernel_rfl) (by kernel_rfl) ?_
   refine run_k (by kernel_rfl) ?_
   refine thenN ?_
   refine run_s (c20 14) (c20 24) (by kernel_rfl) ?_
   refine run_b 1 (c20 15) (by kernel_rfl) ?_
   obtain ⟨y2,hy2,hl1⟩ := bindE hl1
   refine run1z (c20 17) [{},{},{ k := 1,x := E_GTone y2 }] [0,3,4] [v_0,.i l1_3,.mp 0 0 0] ⟨[(0,.cells 3 [E_GTone y2])],1⟩ _ (by kernel_rfl) (cjC ((ixE hy2).1) (cj1 (mapGet E_GTone (ixE hy2).2))) ?_
   obtain ⟨j2_54,hj2,hl1⟩ := bindE hl1
   refine run_gq (c20 19) (fun (j2_54 : Bool) => (zipE [0,3,54] [v_0,.i l1_3,.bool j2_54])) (fun (j2_54 : Bool) => ⟨[],1⟩) (fun j => j2_54 = j) (fun kj2 => ?_) ?_
   ·rcases iteE hj2 with ⟨hc3,hj2⟩ | ⟨hc3,hj2⟩
    ·replace hj2 := Option.some.inj hj2; subst hj2
     exact yun1z (c20 19) [[],[0],[0,1],[0,1,2],[0,1,2,3],[0,1,2,3,4],[0,1,2,3,4,5],[0,1,2,3,4,5,6],[0,1,2,3,4,5,6,7],[0,1,2,3,4,5,6,7,8],[0,1,2,3,4,5,6,7,8,9],[0,1,2,3,4,5,6,7,8,9,10],[0,1,2,3,4,5,6,7,8,9,10,11],[0,1,2,3,4,5,6,7,8,9,10,11,12],[0,1,2,3,4,5,6,7,8,9,10,11,12,13],[0,1,2,3,4,5,6,7,8,9,10,11,12,13,14],[0,1,2,3,4,5,6,7,8,9,10,11,12,13],[0,1,2,3,4,5,6,7,8,9,10,11,12,13,16],[0,1,2,3,4,5,6,7,8,9,10,11,12,13,14,15,16,17],[0,1,2,3,4,5,6,7,8,9,10,11,12,13,14,15,16,17,18],[0,1,2,3,4,5,6,7,8,9,10,11,12,13,14,15,16,17,18,19],[0,1,2,3,4,5,6,7,8,9,10,11,12,13,14,15,16,17,18,19,20],[0,1,2,3,4,5,6,7,8,9,10,11,12,13,14,15,16,17,18,19,20,21],[0,1,2,3,4,5,6,7,8,9,10,11,12,13,14,15,16,17,18,19,20,21,22],[0,1,2,3,4,5,6,7,8,9,10,11,12,13,14,15,16,17,18,19,20,21,22,23],[0,1,2,3,4,5,6,7,8,9,10,11,12,13,14,15,16,17,18,19,20,21,22,23,24],[0,1,2,3,4,5,6,7,8,9,10,11,12,13,14,15,16,17,18,19,20,21,22,23,24,25],[0,1,2,3,4,5,6,7,8,9,10,11,12,13,14,15,16,17,18,19,20,21,22,23,24,25,26],[0,1,2,3,4,5,6,7,8,9,10,11,12,13,14,15,16,17,18,19,20,21,22,23,24,25,26,27],[0,1,2,3,4,5,6,7,8,9,10,11,12,13,14,15,16,17,18,19,20,21,22,23,24,25,26,27,28],[0,1,2,3,4,5,6,7,8,9,10,11,12,13,14,15,16,17,18,19,20,21,22,23,24,25,26,27,28,29],[0,1,2,3,4,5,6,7,8,9,10,11,12,13,14,15,16,17,18,19,20,21,22,23,24,25,26,27,28],[0,1,2,3,4,5,6,7,8,9,10,11,12,13,14,15,16,17,18,19,20,21,22,23,24,25,26,27,28],[0,1,2,3,4,5,6,7,8,9,10,11,12,13,14,15,16,17,18,19,20,21,22,23,24,25,26,27,28,32],[0,1,2,3,4,5,6,7,8,9,10,11,12,13,14,15,16,17,18,19,20,21,22,23,24,25,26,27,28,31,32,33],[0,1,2,3,4,5,6,7,8,9,10,11,12,13,14,15,16,17,18,19,20,21,22,23,24,25,26,27,28,31,32,33,34],[0,1,2,3,4,5,6,7,8,9,10,11,12,13,14,15,16,17,18,19,20,21,22,23,24,25,26,27,28,31,32,33,34,35],[0,1,2,3,4,5,6,7,8,9,10,11,12,13,14,15,16,17,18,19,20,21,22,23,24,25,26,27,28,29,30,31,32,33,34,35,36],[0,1,2,3,4,5,6,7,8,9,10,11,12,13,14,15,16,17,18,19,20,21,22,23,24,25,26,27,28,29,30,31,32,33,34,35,36,37],[0,1,2,3,4,5,6,7,8,9,10,11,12,13,14,15,16,17,18,19,20,21,22,23,24,25,26,27,28,29,30,31,32,33,34,35,36,37,38]] [.light 0 false,.light 1 false,.light 2 false,.light 3 false,.light 4 false,.light 5 false,.light 6 false,.light 7 false,.light 8 false,.light 9 false,.light 10 false,.light 11 false,.light 12 false,.light 13 false,.light 14 false,.light 15 false,.light 16 false,.light 17 false,.light 18 false,.light 19 false,.light 20 false,.light 21 false,.light 22 false,.light 23 false,.light 24 false,.light 25 false,.light 26 false,.light 27 false,.light 28 false,.light 29 false,.light 30 false,.light 31 false,.light 32 false,.light 33 false,.light 34 false,.light 35 false,.light 36 false,.light 37 false,.light 38 false,.light 39 false] [{},{},{},{},{ g := false },{ g := false },{ g := false },{},{},{ g := false },{ g := false },{ g := false },{},{},{ g := false },{ g := false },{ g := false },{ g := false },{ g := false },{},{},{ g := false },{ g := false },{ g := false },{},{},{ g := false },{ g := false },{ g := false },{},{},{},{},{},{},{},{},{},{ g := false }] [0,3,54] [v_0,.i l1_3,.bool true] ⟨[],1⟩ _ (by kernel_rfl) (cjC (hc3) (cjC (Eq.refl true) (cjC (Eq.refl true) (cjC (Eq.refl true) (cjC (Eq.refl true) (cjC (Eq.refl true) (cjC (Eq.refl true) (cjC (Eq.refl true) (cjC (Eq.refl true) (cjC (Eq.refl true) (cjC (Eq.refl true) (cjC (Eq.refl true) (cjC (Eq.refl true) (cjC (Eq.refl true) (cjC (Eq.refl true) (cjC (Eq.refl true) (cjC (Eq.refl true) (cj1 (Eq.refl true))))))))))))))))))) (kj2 true rfl)
    ·rcases iteE hj2 with ⟨hc4,hj2⟩ | ⟨hc4,hj2⟩
     ·replace hj2 := Option.some.inj hj2; subst hj2
      exact yun1z (c20 19) [[],[0],[0,1],[0,1,2],[0,1,2,3],[0,1,2,3,4],[0,1,2,3,4,5],[0,1,2,3,4,5,6],[0,1,2,3,4,5,6,7],[0,1,2,3,4,5,6,7,8],[0,1,2,3,4,5,6,7,8,9],[0,1,2,3,4,5,6,7,8,9,10],[0,1,2,3,4,5,6,7,8,9,10,11],[0,1,2,3,4,5,6,7,8,9,10,11,12],[0,1,2,3,4,5,6,7,8,9,10,11,12,13],[0,1,2,3,4,5,6,7,8,9,10,11,12,13,14],[0,1,2,3,4,5,6,7,8,9,10,11,12,13],[0,1,2,3,4,5,6,7,8,9,10,11,12,13,16],[0,1,2,3,4,5,6,7,8,9,10,11,12,13,14,15,16,17],[0,1,2,3,4,5,6,7,8,9,10,11,12,13,14,15,16,17,18],[0,1,2,3,4,5,6,7,8,9,10,11,12,13,14,15,16,17,18,19],[0,1,2,3,4,5,6,7,8,9,10,11,12,13,14,15,16,17,18,19,20],[0,1,2,3,4,5,6,7,8,9,10,11,12,13,14,15,16,17,18,19,20,21],[0,1,2,3,4,5,6,7,8,9,10,11,12,13,14,15,16,17,18,19,20,21,22],[0,1,2,3,4,5,6,7,8,9,10,11,12,13,14,15,16,17,18,19,20,21,22,23],[0,1,2,3,4,5,6,7,8,9,10,11,12,13,14,15,16,17,18,19,20,21,22,23,24],[0,1,2,3,4,5,6,7,8,9,10,11,12,13,14,15,16,17,18,19,20,21,22,23,24,25],[0,1,2,3,4,5,6,7,8,9,10,11,12,13,14,15,16,17,18,19,20,21,22,23,24,25,26],[0,1,2,3,4,5,6,7,8,9,10,11,12,13,14,15,16,17,18,19,20,21,22,23,24,25,26,27],[0,1,2,3,4,5,6,7,8,9,10,11,12,13,14,15,16,17,18,19,20,21,22,23,24,25,26,27,28],[0,1,2,3,4,5,6,7,8,9,10,11,12,13,14,15,16,17,18,19,20,21,22,23,24,25,26,27,28,29],[0,1,2,3,4,5,6,7,8,9,10,11,12,13,14,15,16,17,18,19,20,21,22,23,24,25,26,27,28],[0,1,2,3,4,5,6,7,8,9,10,11,12,13,14,15,16,17,18,19,20,21,22,23,24,25,26,27,28],[0,1,2,3,4,5,6,7,8,9,10,11,12,13,14,15,16,17,18,19,20,21,22,23,24,25,26,27,28,32],[0,1,2,3,4,5,6,7,8,9,10,11,12,13,14,15,16,17,18,19,20,21,22,23,24,25,26,27,28,31,32,33],[0,1,2,3,4,5,6,7,8,9,10,11,12,13,14,15,16,17,18,19,20,21,22,23,24,25,26,27,28,31,32,33,34],[0,1,2,3,4,5,6,7,8,9,10,11,12,13,14,15,16,17,18,19,20,21,22,23,24,25,26,27,28,31,32,33,34,35],[0,1,2,3,4,5,6,7,8,9,10,11,12,13,14,15,16,17,18,19,20,21,22,23,24,25,26,27,28,29,30,31,32,33,34,35,36],[0,1,2,3,4,5,6,7,8,9,10,11,12,13,14,15,16,17,18,19,20,21,22,23,24,25,26,27,28,29,30,31,32,33,34,35,36,37],[0,1,2,3,4,5,6,7,8,9,10,11,12,13,14,15,16,17,18,19,20,21,22,23,24,25,26,27,28,29,30,31,32,33,34,35,36,37,38]] [.light 0 false,.light 1 false,.light 2 false,.light 3 false,.light 4 false,.light 5 false,.light 6 false,.light 7 false,.light 8 false,.light 9 false,.light 10 false,.light 11 false,.light 12 false,.light 13 false,.light 14 false,.light 15 false,.light 16 false,.light 17 false,.light 18 false,.light 19 false,.light 20 false,.light 21 false,.light 22 false,.light 23 false,.light 24 false,.light 25 false,.light 26 false,.light 27 false,.light 28 false,.light 29 false,.light 30 false,.light 31 false,.light 32 false,.light 33 false,.light 34 false,.light 35 false,.light 36 false,.light 37 false,.light 38 false,.light 39 false] [{},{},{},{},{},{},{},{},{},{ g := false },{ g := false },{ g := false },{},{},{ g := false },{ g := false },{ g := false },{ g := false },{ g := false },{},{},{ g := false },{ g := false },{ g := false },{},{},{ g := false },{ g := false },{ g := false },{},{},{},{},{},{},{},{},{},{ g := false }] [0,3,54] [v_0,.i l1_3,.bool true] ⟨[],1⟩ _ (by kernel_rfl) (cjC (hc3) (cjC (Eq.refl false) (cjC (Eq.refl false) (cjC (hc4) (cjC (Eq.refl true) (cjC (Eq.refl true) (cjC (Eq.refl true) (cjC (Eq.refl true) (cjC (Eq.refl true) (cjC (Eq.refl true) (cjC (Eq.refl true) (cjC (Eq.refl true) (cjC (Eq.refl true) (cjC (Eq.refl true) (cjC (Eq.refl true) (cjC (Eq.refl true) (cjC (Eq.refl true) (cj1 (Eq.refl true))))))))))))))))))) (kj2 true rfl)
     ·rcases iteE hj2 with ⟨hc5,hj2⟩ | ⟨hc5,hj2⟩
      ·replace hj2 := Option.some.inj hj2; subst hj2
       exact yun1z (c20 19) [[],[0],[0,1],[0,1,2],[0,1,2,3],[0,1,2,3,4],[0,1,2,3,4,5],[0,1,2,3,4,5,6],[0,1,2,3,4,5,6,7],[0,1,2,3,4,5,6,7,8],[0,1,2,3,4,5,6,7,8,9],[0,1,2,3,4,5,6,7,8,9,10],[0,1,2,3,4,5,6,7,8,9,10,11],[0,1,2,3,4,5,6,7,8,9,10,11,12],[0,1,2,3,4,5,6,7,8,9,10,11,12,13],[0,1,2,3,4,5,6,7,8,9,10,11,12,13,14],[0,1,2,3,4,5,6,7,8,9,10,11,12,13],[0,1,2,3,4,5,6,7,8,9,10,11,12,13,16],[0,1,2,3,4,5,6,7,8,9,10,11,12,13,14,15,16,17],[0,1,2,3,4,5,6,7,8,9,10,11,12,13,14,15,16,17,18],[0,1,2,3,4,5,6,7,8,9,10,11,12,13,14,15,16,17,18,19],[0,1,2,3,4,5,6,7,8,9,10,11,12,13,14,15,16,17,18,19,20],[0,1,2,3,4,5,6,7,8,9,10,11,12,13,14,15,16,17,18,19,20,21],[0,1,2,3,4,5,6,7,8,9,10,11,12,13,14,15,16,17,18,19,20,21,22],[0,1,2,3,4,5,6,7,8,9,10,11,12,13,14,15,16,17,18,19,20,21,22,23],[0,1,2,3,4,5,6,7,8,9,10,11,12,13,14,15,16,17,18,19,20,21,22,23,24],[0,1,2,3,4,5,6,7,8,9,10,11,12,13,14,15,16,17,18,19,20,21,22,23,24,25],[0,1,2,3,4,5,6,7,8,9,10,11,12,13,14,15,16,17,18,19,20,21,22,23,24,25,26],[0,1,2,3,4,5,6,7,8,9,10,11,12,13,14,15,16,17,18,19,20,21,22,23,24,25,26,27],[0,1,2,3,4,5,6,7,8,9,10,11,12,13,14,15,16,17,18,19,20,21,22,23,24,25,26,27,28],[0,1,2,3,4,5,6,7,8,9,10,11,12,13,14,15,16,17,18,19,20,21,22,23,24,25,26,27,28,29],[0,1,2,3,4,5,6,7,8,9,10,11,12,13,14,15,16,17,18,19,20,21,22,23,24,25,26,27,28],[0,1,2,3,4,5,6,7,8,9,10,11,12,13,14,15,16,17,18,19,20,21,22,23,24,25,26,27,28],[0,1,2,3,4,5,6,7,8,9,10,11,12,13,14,15,16,17,18,19,20,21,22,23,24,25,26,27,28,32],[0,1,2,3,4,5,6,7,8,9,10,11,12,13,14,15,16,17,18,19,20,21,22,23,24,25,26,27,28,31,32,33],[0,1,2,3,4,5,6,7,8,9,10,11,12,13,14,15,16,17,18,19,20,21,22,23,24,25,26,27,28,31,32,33,34],[0,1,2,3,4,5,6,7,8,9,10,11,12,13,14,15,16,17,18,19,20,21,22,23,24,25,26,27,28,31,32,33,34,35],[0,1,2,3,4,5,6,7,8,9,10,11,12,13,14,15,16,17,18,19,20,21,22,23,24,25,26,27,28,29,30,31,32,33,34,35,36],[0,1,2,3,4,5,6,7,8,9,10,11,12,13,14,15,16,17,18,19,20,21,22,23,24,25,26,27,28,29,30,31,32,33,34,35,36,37],[0,1,2,3,4,5,6,7,8,9,10,11,12,13,14,15,16,17,18,19,20,21,22,23,24,25,26,27,28,29,30,31,32,33,34,35,36,37,38]] [.light 0 false,.light 1 false,.light 2 false,.light 3 false,.light 4 false,.light 5 false,.light 6 false,.light 7 false,.light 8 false,.light 9 false,.light 10 false,.light 11 false,.light 12 false,.light 13 false,.light 14 false,.light 15 false,.light 16 false,.light 17 false,.light 18 false,.light 19 false,.light 20 false,.light 21 false,.light 22 false,.light 23 false,.light 24 false,.light 25 false,.light 26 false,.light 27 false,.light 28 false,.light 29 false,.light 30 false,.light 31 false,.light 32 false,.light 33 false,.light 34 false,.light 35 false,.light 36 false,.light 37 false,.light 38 false,.light 39 false] [{},{},{},{},{},{},{},{},{},{},{},{},{},{},{ g := false },{ g := false },{ g := false },{ g := false },{ g := false },{},{},{ g := false },{ g := false },{ g := false },{},{},{ g := false },{ g := false },{ g := false },{},{},{},{},{},{},{},{},{},{ g := false }] [0,3,54] [v_0,.i l1_3,.bool true] ⟨[],1⟩ _ (by kernel_rfl) (cjC (hc3) (cjC (Eq.refl false) (cjC (Eq.refl false) (cjC (hc4) (cjC (Eq.refl false) (cjC (Eq.refl false) (cjC (hc5) (cjC (Eq.refl true) (cjC (Eq.refl true) (cjC (Eq.refl true) (cjC (Eq.refl true) (cjC (Eq.refl true) (cjC (Eq.refl true) (cjC (Eq.refl true) (cjC (Eq.refl true) (cjC (Eq.refl true) (cjC (Eq.refl true) (cj1 (Eq.refl true))))))))))))))))))) (kj2 true rfl)
      ·rcases iteE hj2 with ⟨hc6,hj2⟩ | ⟨hc6,hj2⟩
       ·replace hj2 := Option.some.inj hj2; subst hj2
        exact yun1z (c20 19) [[],[0],[0,1],[0,1,2],[0,1,2,3],[0,1,2,3,4],[0,1,2,3,4,5],[0,1,2,3,4,5,6],[0,1,2,3,4,5,6,7],[0,1,2,3,4,5,6,7,8],[0,1,2,3,4,5,6,7,8,9],[0,1,2,3,4,5,6,7,8,9,10],[0,1,2,3,4,5,6,7,8,9,10,11],[0,1,2,3,4,5,6,7,8,9,10,11,12],[0,1,2,3,4,5,6,7,8,9,10,11,12,13],[0,1,2,3,4,5,6,7,8,9,10,11,12,13,14],[0,1,2,3,4,5,6,7,8,9,10,11,12,13],[0,1,2,3,4,5,6,7,8,9,10,11,12,13,16],[0,1,2,3,4,5,6,7,8,9,10,11,12,13,14,15,16,17],[0,1,2,3,4,5,6,7,8,9,10,11,12,13,14,15,16,17,18],[0,1,2,3,4,5,6,7,8,9,10,11,12,13,14,15,16,17,18,19],[0,1,2,3,4,5,6,7,8,9,10,11,12,13,14,15,16,17,18,19,20],[0,1,2,3,4,5,6,7,8,9,10,11,12,13,14,15,16,17,18,19,20,21],[0,1,2,3,4,5,6,7,8,9,10,11,12,13,14,15,16,17,18,19,20,21,22],[0,1,2,3,4,5,6,7,8,9,10,11,12,13,14,15,16,17,18,19,20,21,22,23],[0,1,2,3,4,5,6,7,8,9,10,11,12,13,14,15,16,17,18,19,20,21,22,23,24],[0,1,2,3,4,5,6,7,8,9,10,11,12,13,14,15,16,17,18,19,20,21,22,23,24,25],[0,1,2,3,4,5,6,7,8,9,10,11,12,13,14,15,16,17,18,19,20,21,22,23,24,25,26],[0,1,2,3,4,5,6,7,8,9,10,11,12,13,14,15,16,17,18,19,20,21,22,23,24,25,26,27],[0,1,2,3,4,5,6,7,8,9,10,11,12,13,14,15,16,17,18,19,20,21,22,23,24,25,26,27,28],[0,1,2,3,4,5,6,7,8,9,10,11,12,13,14,15,16,17,18,19,20,21,22,23,24,25,26,27,28,29],[0,1,2,3,4,5,6,7,8,9,10,11,12,13,14,15,16,17,18,19,20,21,22,23,24,25,26,27,28],[0,1,2,3,4,5,6,7,8,9,10,11,12,13,14,15,16,17,18,19,20,21,22,23,24,25,26,27,28],[0,1,2,3,4,5,6,7,8,9,10,11,12,13,14,15,16,17,18,19,20,21,22,23,24,25,26,27,28,32],[0,1,2,3,4,5,6,7,8,9,10,11,12,13,14,15,16,17,18,19,20,21,22,23,24,25,26,27,28,31,32,33],[0,1,2,3,4,5,6,7,8,9,10,11,12,13,14,15,16,17,18,19,20,21,22,23,24,25,26,27,28,31,32,33,34],[0,1,2,3,4,5,6,7,8,9,10,11,12,13,14,15,16,17,18,19,20,21,22,23,24,25,26,27,28,31,32,33,34,35],[0,1,2,3,4,5,6,7,8,9,10,11,12,13,14,15,16,17,18,19,20,21,22,23,24,25,26,27,28,29,30,31,32,33,34,35,36],[0,1,2,3,4,5,6,7,8,9,10,11,12,13,14,15,16,17,18,19,20,21,22,23,24,25,26,27,28,29,30,31,32,33,34,35,36,37],[0,1,2,3,4,5,6,7,8,9,10,11,12,13,14,15,16,17,18,19,20,21,22,23,24,25,26,27,28,29,30,31,32,33,34,35,36,37,38]] [.light 0 false,.light 1 false,.light 2 false,.light 3 false,.light 4 false,.light 5 false,.light 6 false,.light 7 false,.light 8 false,.light 9 false,.light 10 false,.light 11 false,.light 12 false,.light 13 false,.light 14 false,.light 15 false,.light 16 false,.light 17 false,.light 18 false,.light 19 false,.light 20 false,.light 21 false,.light 22 false,.light 23 false,.light 24 false,.light 25 false,.light 26 false,.light 27 false,.light 28 false,.light 29 false,.light 30 false,.light 31 false,.light 32 false,.light 33 false,.light 34 false,.light 35 false,.light 36 false,.light 37 false,.light 38 false,.light 39 false] [{},{},{},{},{},{},{},{},{},{},{},{},{},{},{},{},{},{},{},{},{},{ g := false },{ g := false },{ g := false },{},{},{ g := false },{ g := false },{ g := false },{},{},{},{},{},{},{},{},{},{ g := false }] [0,3,54] [v_0,.i l1_3,.bool true] ⟨[],1⟩ _ (by kernel_rfl) (cjC (hc3) (cjC (Eq.refl false) (cjC (Eq.refl false) (cjC (hc4) (cjC (Eq.refl false) (cjC (Eq.refl false) (cjC (hc5) (cjC (Eq.refl false) (cjC (Eq.refl false) (cjC (Eq.refl false) (cjC (Eq.refl false) (cjC (hc6) (cjC (Eq.refl true) (cjC (Eq.refl true) (cjC (Eq.refl true) (cjC (Eq.refl true) (cjC (Eq.refl true) (cj1 (Eq.refl true))))))))))))))))))) (kj2 true rfl)
       ·rcases iteE hj2 with ⟨hc7,hj2⟩ | ⟨hc7,hj2⟩
        ·replace hj2 := Option.some.inj hj2; subst hj2
         exact yun1z (c20 19) [[],[0],[0,1],[0,1,2],[0,1,2,3],[0,1,2,3,4],[0,1,2,3,4,5],[0,1,2,3,4,5,6],[0,1,2,3,4,5,6,7],[0,1,2,3,4,5,6,7,8],[0,1,2,3,4,5,6,7,8,9],[0,1,2,3,4,5,6,7,8,9,10],[0,1,2,3,4,5,6,7,8,9,10,11],[0,1,2,3,4,5,6,7,8,9,10,11,12],[0,1,2,3,4,5,6,7,8,9,10,11,12,13],[0,1,2,3,4,5,6,7,8,9,10,11,12,13,14],[0,1,2,3,4,5,6,7,8,9,10,11,12,13],[0,1,2,3,4,5,6,7,8,9,10,11,12,13,16],[0,1,2,3,4,5,6,7,8,9,10,11,12,13,14,15,16,17],[0,1,2,3,4,5,6,7,8,9,10,11,12,13,14,15,16,17,18],[0,1,2,3,4,5,6,7,8,9,10,11,12,13,14,15,16,17,18,19],[0,1,2,3,4,5,6,7,8,9,10,11,12,13,14,15,16,17,18,19,20],[0,1,2,3,4,5,6,7,8,9,10,11,12,13,14,15,16,17,18,19,20,21],[0,1,2,3,4,5,6,7,8,9,10,11,12,13,14,15,16,17,18,19,20,21,22],[0,1,2,3,4,5,6,7,8,9,10,11,12,13,14,15,16,17,18,19,20,21,22,23],[0,1,2,3,4,5,6,7,8,9,10,11,12,13,14,15,16,17,18,19,20,21,22,23,24],[0,1,2,3,4,5,6,7,8,9,10,11,12,13,14,15,16,17,18,19,20,21,22,23,24,25],[0,1,2,3,4,5,6,7,8,9,10,11,12,13,14,15,16,17,18,19,20,21,22,23,24,25,26],[0,1,2,3,4,5,6,7,8,9,10,11,12,13,14,15,16,17,18,19,20,21,22,23,24,25,26,27],[0,1,2,3,4,5,6,7,8,9,10,11,12,13,14,15,16,17,18,19,20,21,22,23,24,25,26,27,28],[0,1,2,3,4,5,6,7,8,9,10,11,12,13,14,15,16,17,18,19,20,21,22,23,24,25,26,27,28,29],[0,1,2,3,4,5,6,7,8,9,10,11,12,13,14,15,16,17,18,19,20,21,22,23,24,25,26,27,28],[0,1,2,3,4,5,6,7,8,9,10,11,12,13,14,15,16,17,18,19,20,21,22,23,24,25,26,27,28],[0,1,2,3,4,5,6,7,8,9,10,11,12,13,14,15,16,17,18,19,20,21,22,23,24,25,26,27,28,32],[0,1,2,3,4,5,6,7,8,9,10,11,12,13,14,15,16,17,18,19,20,21,22,23,24,25,26,27,28,31,32,33],[0,1,2,3,4,5,6,7,8,9,10,11,12,13,14,15,16,17,18,19,20,21,22,23,24,25,26,27,28,31,32,33,34],[0,1,2,3,4,5,6,7,8,9,10,11,12,13,14,15,16,17,18,19,20,21,22,23,24,25,26,27,28,31,32,33,34,35],[0,1,2,3,4,5,6,7,8,9,10,11,12,13,14,15,16,17,18,19,20,21,22,23,24,25,26,27,28,29,30,31,32,33,34,35,36],[0,1,2,3,4,5,6,7,8,9,10,11,12,13,14,15,16,17,18,19,20,21,22,23,24,25,26,27,28,29,30,31,32,33,34,35,36,37],[0,1,2,3,4,5,6,7,8,9,10,11,12,13,14,15,16,17,18,19,20,21,22,23,24,25,26,27,28,29,30,31,32,33,34,35,36,37,38]] [.light 0 false,.light 1 false,.light 2 false,.light 3 false,.light 4 false,.light 5 false,.light 6 false,.light 7 false,.light 8 false,.light 9 false,.light 10 false,.light 11 false,.light 12 false,.light 13 false,.light 14 false,.light 15 false,.light 16 false,.light 17 false,.light 18 false,.light 19 false,.light 20 false,.light 21 false,.light 22 false,.light 23 false,.light 24 false,.light 25 false,.light 26 false,.light 27 false,.light 28 false,.light 29 false,.light 30 false,.light 31 false,.light 32 false,.light 33 false,.light 34 false,.light 35 false,.light 36 false,.light 37 false,.light 38 false,.light 39 false] [{},{},{},{},{},{},{},{},{},{},{},{},{},{},{},{},{},{},{},{},{},{},{},{},{},{},{ g := false },{ g := false },{ g := false },{},{},{},{},{},{},{},{},{},{ g := false }] [0,3,54] [v_0,.i l1_3,.bool true] ⟨[],1⟩ _ (by kernel_rfl) (cjC (hc3) (cjC (Eq.refl false) (cjC (Eq.refl false) (cjC (hc4) (cjC (Eq.refl false) (cjC (Eq.refl false) (cjC (hc5) (cjC (Eq.refl false) (cjC (Eq.refl false) (cjC (Eq.refl false) (cjC (Eq.refl false) (cjC (hc6) (cjC (Eq.refl false) (cjC (Eq.refl false) (cjC (hc7) (cjC (Eq.refl true) (cjC (Eq.refl true) (cj1 (Eq.refl true))))))))))))))))))) (kj2 true rfl)
        ·rcases iteE hj2 with ⟨hc8,hj2⟩ | ⟨hc8,hj2⟩
         ·obtain ⟨y9,hy9,hj2⟩ := bindE hj2
          replace hj2 := Option.some.inj hj2; subst hj2
          exact yun1z (c20 19) [[],[0],[0,1],[0,1,2],[0,1,2,3],[0,1,2,3,4],[0,1,2,3,4,5],[0,1,2,3,4,5,6],[0,1,2,3,4,5,6,7],[0,1,2,3,4,5,6,7,8],[0,1,2,3,4,5,6,7,8,9],[0,1,2,3,4,5,6,7,8,9,10],[0,1,2,3,4,5,6,7,8,9,10,11],[0,1,2,3,4,5,6,7,8,9,10,11,12],[0,1,2,3,4,5,6,7,8,9,10,11,12,13],[0,1,2,3,4,5,6,7,8,9,10,11,12,13,14],[0,1,2,3,4,5,6,7,8,9,10,11,12,13],[0,1,2,3,4,5,6,7,8,9,10,11,12,13,16],[0,1,2,3,4,5,6,7,8,9,10,11,12,13,14,15,16,17],[0,1,2,3,4,5,6,7,8,9,10,11,12,13,14,15,16,17,18],[0,1,2,3,4,5,6,7,8,9,10,11,12,13,14,15,16,17,18,19],[0,1,2,3,4,5,6,7,8,9,10,11,12,13,14,15,16,17,18,19,20],[0,1,2,3,4,5,6,7,8,9,10,11,12,13,14,15,16,17,18,19,20,21],[0,1,2,3,4,5,6,7,8,9,10,11,12,13,14,15,16,17,18,19,20,21,22],[0,1,2,3,4,5,6,7,8,9,10,11,12,13,14,15,16,17,18,19,20,21,22,23],[0,1,2,3,4,5,6,7,8,9,10,11,12,13,14,15,16,17,18,19,20,21,22,23,24],[0,1,2,3,4,5,6,7,8,9,10,11,12,13,14,15,16,17,18,19,20,21,22,23,24,25],[0,1,2,3,4,5,6,7,8,9,10,11,12,13,14,15,16,17,18,19,20,21,22,23,24,25,26],[0,1,2,3,4,5,6,7,8,9,10,11,12,13,14,15,16,17,18,19,20,21,22,23,24,25,26,27],[0,1,2,3,4,5,6,7,8,9,10,11,12,13,14,15,16,17,18,19,20,21,22,23,24,25,26,27,28],[0,1,2,3,4,5,6,7,8,9,10,11,12,13,14,15,16,17,18,19,20,21,22,23,24,25,26,27,28,29],[0,1,2,3,4,5,6,7,8,9,10,11,12,13,14,15,16,17,18,19,20,21,22,23,24,25,26,27,28],[0,1,2,3,4,5,6,7,8,9,10,11,12,13,14,15,16,17,18,19,20,21,22,23,24,25,26,27,28],[0,1,2,3,4,5,6,7,8,9,10,11,12,13,14,15,16,17,18,19,20,21,22,23,24,25,26,27,28,32],[0,1,2,3,4,5,6,7,8,9,10,11,12,13,14,15,16,17,18,19,20,21,22,23,24,25,26,27,28,31,32,33],[0,1,2,3,4,5,6,7,8,9,10,11,12,13,14,15,16,17,18,19,20,21,22,23,24,25,26,27,28,31,32,33,34],[0,1,2,3,4,5,6,7,8,9,10,11,12,13,14,15,16,17,18,19,20,21,22,23,24,25,26,27,28,31,32,33,34,35],[0,1,2,3,4,5,6,7,8,9,10,11,12,13,14,15,16,17,18,19,20,21,22,23,24,25,26,27,28,29,30,31,32,33,34,35,36],[0,1,2,3,4,5,6,7,8,9,10,11,12,13,14,15,16,17,18,19,20,21,22,23,24,25,26,27,28,29,30,31,32,33,34,35,36,37],[0,1,2,3,4,5,6,7,8,9,10,11,12,13,14,15,16,17,18,19,20,21,22,23,24,25,26,27,28,29,30,31,32,33,34,35,36,37,38]] [.light 0 false,.light 1 false,.light 2 false,.light 3 false,.light 4 false,.light 5 false,.light 6 false,.light 7 false,.light 8 false,.light 9 false,.light 10 false,.light 11 false,.light 12 false,.light 13 false,.light 14 false,.light 15 false,.light 16 false,.light 17 false,.light 18 false,.light 19 false,.light 20 false,.light 21 false,.light 22 false,.light 23 false,.light 24 false,.light 25 false,.light 26 false,.light 27 false,.light 28 false,.light 29 false,.light 30 false,.light 31 false,.light 32 false,.light 33 false,.light 34 false,.light 35 false,.light 36 false,.light 37 false,.light 38 false,.light 39 false] [{},{},{},{},{},{},{},{},{},{},{},{},{},{},{},{},{},{},{},{},{},{},{},{},{},{},{},{},{},{},{},{},{},{},{ k := 1,x := E_GTone y9 }] [0,3,54] [v_0,.i l1_3,.bool (decide (y2.from_ < y9.to_))] ⟨[],1⟩ _ (by kernel_rfl) (cjC (hc3) (cjC (Eq.refl false) (cjC (Eq.refl false) (cjC (hc4) (cjC (Eq.refl false) (cjC (Eq.refl false) (cjC (hc5) (cjC (Eq.refl false) (cjC (Eq.refl false) (cjC (Eq.refl false) (cjC (Eq.refl false) (cjC (hc6) (cjC (Eq.refl false) (cjC (Eq.refl false) (cjC (hc7) (cjC (Eq.refl false) (cjC (Eq.refl false) (cjC (hc8) (cjC (Eq.refl true) (cjC (Eq.refl true) (cjC (Eq.refl true) (cjC (Eq.refl true) (cjC (Eq.refl true) (cjC ((ixE hy9).1) (cjC (mapGet E_GTone (ixE hy9).2) (cjC (Eq.refl true) (cjC (Eq.refl true) (cjC (Eq.refl true) (cj1 (Eq.refl false)))))))))))))))))))))))))))))) (kj2 (decide (y2.from_ < y9.to_)) rfl)
         ·replace hj2 := Option.some.inj hj2; subst hj2
          exact yun1z (c20 19) [[],[0],[0,1],[0,1,2],[0,1,2,3],[0,1,2,3,4],[0,1,2,3,4,5],[0,1,2,3,4,5,6],[0,1,2,3,4,5,6,7],[0,1,2,3,4,5,6,7,8],[0,1,2,3,4,5,6,7,8,9],[0,1,2,3,4,5,6,7,8,9,10],[0,1,2,3,4,5,6,7,8,9,10,11],[0,1,2,3,4,5,6,7,8,9,10,11,12],[0,1,2,3,4,5,6,7,8,9,10,11,12,13],[0,1,2,3,4,5,6,7,8,9,10,11,12,13,14],[0,1,2,3,4,5,6,7,8,9,10,11,12,13],[0,1,2,3,4,5,6,7,8,9,10,11,12,13,16],[0,1,2,3,4,5,6,7,8,9,10,11,12,13,14,15,16,17],[0,1,2,3,4,5,6,7,8,9,10,11,12,13,14,15,16,17,18],[0,1,2,3,4,5,6,7,8,9,10,11,12,13,14,15,16,17,18,19],[0,1,2,3,4,5,6,7,8,9,10,11,12,13,14,15,16,17,18,19,20],[0,1,2,3,4,5,6,7,8,9,10,11,12,13,14,15,16,17,18,19,20,21],[0,1,2,3,4,5,6,7,8,9,10,11,12,13,14,15,16,17,18,19,20,21,22],[0,1,2,3,4,5,6,7,8,9,10,11,12,13,14,15,16,17,18,19,20,21,22,23],[0,1,2,3,4,5,6,7,8,9,10,11,12,13,14,15,16,17,18,19,20,21,22,23,24],[0,1,2,3,4,5,6,7,8,9,10,11,12,13,14,15,16,17,18,19,20,21,22,23,24,25],[0,1,2,3,4,5,6,7,8,9,10,11,12,13,14,15,16,17,18,19,20,21,22,23,24,25,26],[0,1,2,3,4,5,6,7,8,9,10,11,12,13,14,15,16,17,18,19,20,21,22,23,24,25,26,27],[0,1,2,3,4,5,6,7,8,9,10,11,12,13,14,15,16,17,18,19,20,21,22,23,24,25,26,27,28],[0,1,2,3,4,5,6,7,8,9,10,11,12,13,14,15,16,17,18,19,20,21,22,23,24,25,26,27,28,29],[0,1,2,3,4,5,6,7,8,9,10,11,12,13,14,15,16,17,18,19,20,21,22,23,24,25,26,27,28],[0,1,2,3,4,5,6,7,8,9,10,11,12,13,14,15,16,17,18,19,20,21,22,23,24,25,26,27,28],[0,1,2,3,4,5,6,7,8,9,10,11,12,13,14,15,16,17,18,19,20,21,22,23,24,25,26,27,28,32],[0,1,2,3,4,5,6,7,8,9,10,11,12,13,14,15,16,17,18,19,20,21,22,23,24,25,26,27,28,31,32,33],[0,1,2,3,4,5,6,7,8,9,10,11,12,13,14,15,16,17,18,19,20,21,22,23,24,25,26,27,28,31,32,33,34],[0,1,2,3,4,5,6,7,8,9,10,11,12,13,14,15,16,17,18,19,20,21,22,23,24,25,26,27,28,31,32,33,34,35],[0,1,2,3,4,5,6,7,8,9,10,11,12,13,14,15,16,17,18,19,20,21,22,23,24,25,26,27,28,29,30,31,32,33,34,35,36],[0,1,2,3,4,5,6,7,8,9,10,11,12,13,14,15,16,17,18,19,20,21,22,23,24,25,26,27,28,29,30,31,32,33,34,35,36,37],[0,1,2,3,4,5,6,7,8,9,10,11,12,13,14,15,16,17,18,19,20,21,22,23,24,25,26,27,28,29,30,31,32,33,34,35,36,37,38]] [.light 0 false,.light 1 false,.light 2 false,.light 3 false,.light 4 false,.light 5 false,.light 6 false,.light 7 false,.light 8 false,.light 9 false,.light 10 false,.light 11 false,.light 12 false,.light 13 false,.light 14 false,.light 15 false,.light 16 false,.light 17 false,.light 18 false,.light 19 false,.light 20 false,.light 21 false,.light 22 false,.light 23 false,.light 24 false,.light 25 false,.light 26 false,.light 27 false,.light 28 false,.light 29 false,.light 30 false,.light 31 false,.light 32 false,.light 33 false,.light 34 false,.light 35 false,.light 36 false,.light 37 false,.light 38 false,.light 39 false] [{},{},{},{},{},{},{},{},{},{},{},{},{},{},{},{},{},{},{},{},{},{},{},{},{},{},{},{},{},{ g := false },{ g := false },{ g := false },{ g := false },{ g := false },{ g := false },{ g := false },{ g := false },{ g := false }] [0,3,54] [v_0,.i l1_3,.bool false] ⟨[],1⟩ _ (by kernel_rfl) (cjC (hc3) (cjC (Eq.refl false) (cjC (Eq.refl false) (cjC (hc4) (cjC (Eq.refl false) (cjC (Eq.refl false) (cjC (hc5) (cjC (Eq.refl false) (cjC (Eq.refl false) (cjC (Eq.refl false) (cjC (Eq.refl false) (cjC (hc6) (cjC (Eq.refl false) (cjC (Eq.refl false) (cjC (hc7) (cjC (Eq.refl false) (cjC (Eq.refl false) (cjC (hc8) (cjC (Eq.refl false) (cjC (Eq.refl false) (cjC (Eq.refl false) (cjC (Eq.refl false) (cjC (Eq.refl false) (cjC (Eq.refl false) (cjC (Eq.refl false) (cjC (Eq.refl false) (cj1 (Eq.refl false)))))))))))))))))))))))))))) (kj2 false rfl)
   ·rintro _ rfl
    rcases iteE hl1 with ⟨hc10,hl1⟩ | ⟨hc10,hl1⟩
    ·refine run_cT 54 (c20 20) (c20 23) j2_54 hc10 (by kernel_rfl) (by kernel_rfl) ?_
     refine run1z (c20 22) [] [2] [.bool false] ⟨[],1⟩ _ (by kernel_rfl) cj0 ?_
     replace hl1 := Option.some.inj hl1; subst hl1
     have hr := rl1 _ rfl
     subst hr
     replace h := elimR h
     refine run_t (by kernel_rfl) ?_
     refine inbR ?_
     refine thenR ?_
     refine ⟨⟨_,rfl⟩,?_⟩
     refine inbR ?_
     refine thenR ?_
     replace h := Option.some.inj h; subst h
     exact fin_r (by kernel_rfl) rfl
    ·refine run_cF 54 (c20 20) (c20 23) j2_54 hc10 (by kernel_rfl) (by kernel_rfl) ?_
     refine run_k (by kernel_rfl) ?_
     refine inbN ?_
     refine thenN ?_
     refine run0z [] [0,3] [v_0,.i (wr (l1_3 + 1))] ⟨[],1⟩ _ (by kernel_rfl) cj0 ?_
     replace hl1 := Option.some.inj hl1; subst hl1
     exact ⟨_,rfl,pi [],mkInto (ks := [0,3]) (ys := [v_0,.i (wr (l1_3 + 1))]) (by kernel_rfl) (by kernel_rfl) (.k (.c (cleanMap _ _ cl_GTone)) (.k (.c rfl) .z)) .z⟩
  ·refine run_cF 8 (c20 11) (c20 12) (decide (l1_3 < (a0.length : Int))) hc1 (by kernel_rfl) (by kernel_rfl) ?_
   replace hl1 := Option.some.inj hl1; subst hl1
   have hr := rl1 _ rfl
   subst hr
   refine awp_p [] [] (zipE [] []) ⟨[],0⟩ (by kernel_rfl) (?_)
   refine run_e 0 (by kernel_rfl) ?_
   refine thenE ?_
   refine ⟨⟨_,rfl⟩,?_⟩
   refine inbE ?_
   exact kl1 () rfl
 ·rintro ⟨⟩ rfl
  replace h := elimL h
  refine thenN ?_
  refine run1z (c20 27) [] [2] [.bool true] ⟨[],0⟩ _ (by kernel_rfl) cj0 ?_
  refine run_t (by kernel_rfl) ?_
  replace h := Option.some.inj h; subst h
  exact fin_r (by kernel_rfl) rfl
def f9 (a0 : List (List GTone)) : Option Int := (loopN (σ := (Bool × Int)) (τ := Bool) (fun ((l1_3,l1_4) : (Bool × Int)) => bif (decide (l1_4 < (a0.length : Int))) then (((bif l1_3 then (some true) else ((ix a0 l1_4).bind fun y3 => some (decide (400 < (y3.length : Int))))) : Option Bool).bind fun (j2_3 : Bool) => some (.inl (j2_3,(wr (l1_4 + 1))))) else (some (.inr l1_3))) FUEL ((decide (6 < (a0.length : Int))),0)).bind fun (l1x_3 : Bool) => bif l1x_3 then (some 2) else ((loopN (σ := Int) (τ := (Unit ⊕ Int)) (fun (l3_5 : Int) => bif (decide (l3_5 < (a0.length : Int))) then ((ix a0 l3_5).bind fun y6 => (f20 y6).bind fun r7 => bif (!r7) then (some (.inr (.inr 80))) else (some (.inl (wr (l3_5 + 1))))) else (some (.inr (.inl ())))) FUEL 0).bind (Sum.elim (fun (_ : Unit) => some 0) some))
theorem f9_ok (a0 : List (List GTone)) (r : Int) (h : f9 a0 = some r) : APure Try.prog 9 [.sl false (a0.map (SL E_GTone))] (.i r) := by
 refine apure (clK (cleanMap a0 _ (cl_SL cl_GTone)) clZ) rfl ?_
 let v_0 : AV := .sl false (a0.map (SL E_GTone))
 refine run_f 37 [.tmp 2] (c9 0) (zipE [0] [v_0]) (by kernel_rfl) (by kernel_rfl) (by kernel_rfl) rfl ?_
 unfold f9 at h
 refine run1z (c9 2) [] [0] [v_0] ⟨[],0⟩ _ (by kernel_rfl) cj0 ?_
 let v_1 : AV := .bool (decide (6 < (a0.length : Int)))
 refine run1z (c9 4) [{},{ k := 1,n := a0.length }] [0,3] [v_0,v_1] ⟨[],0⟩ _ (by kernel_rfl) (cj1 (mapLen a0 (SL E_GTone))) ?_
 refine run_s (c9 5) (c9 19) (by kernel_rfl) ?_
 refine run1z (c9 7) [] [0,3,4] [v_0,v_1,.i 0] ⟨[],0⟩ _ (by kernel_rfl) cj0 ?_
 obtain ⟨l1x_3,hll1x,h⟩ := bindE h
 refine run_tq (fun (l1x_3 : Bool) => (zipE [0,3] [v_0,.bool l1x_3])) (fun (l1x_3 : Bool) => ⟨[],0⟩) (fun j => l1x_3 = j) (fun kl1 => ?_) ?_
 ·refine run_b 0 (c9 8) (by kernel_rfl) ?_
  refine run_l (c9 9) _ hll1x (fun ((l1_3,l1_4) : (Bool × Int)) => (zipE [0,3,4] [v_0,.bool l1_3,.i l1_4])) (fun ((l1_3,l1_4) : (Bool × Int)) => ⟨[],0⟩) [] (by intro i e; cases e <;> exact Nat.le_of_ble_eq_true rfl) (by kernel_rfl) (mkInto (ks := [0,3,4]) (ys := [v_0,v_1,.i 0]) (by kernel_rfl) (by kernel_rfl) (.k (.c (cleanMap _ _ (cl_SL cl_GTone))) (.k (.c rfl) (.k (.c rfl) .z))) .z) ?_
  rintro ⟨l1_3,l1_4⟩ out hl1 rl1
  refine run_s (c9 10) (c9 15) (by kernel_rfl) ?_
  refine run1z (c9 12) [{},{},{ k := 1,n := a0.length }] [0,3,4,12] [v_0,.bool l1_3,.i l1_4,.bool (decide (l1_4 < (a0.length : Int)))] ⟨[],0⟩ _ (by kernel_rfl) (cj1 (mapLen a0 (SL E_GTone))) ?_
  rcases iteE hl1 with ⟨hc1,hl1⟩ | ⟨hc1,hl1⟩
  ·refine run_cT 12 (c9 13) (c9 14) (decide (l1_4 < (a0.length : Int))) hc1 (by kernel_rfl) (by kernel_rfl) ?_
   refine run_k (by kernel_rfl) ?_
   refine thenN ?_
   refine run_s (c9 16) (c9 18) (by kernel_rfl) ?_
   refine run_b 1 (c9 17) (by kernel_rfl) ?_
   obtain ⟨j2_3,hj2,hl1⟩ := bindE hl1
   refine run_tq (fun (j2_3 : Bool) => (zipE [0,3,4] [v_0,.bool j2_3,.i l1_4])) (fun (j2_3 : Bool) => ⟨[],0⟩) (fun j => j2_3 = j) (fun kj2 => ?_) ?_
   ·rcases iteE hj2 with ⟨hc2,hj2⟩ | ⟨hc2,hj2⟩
    ·replace hj2 := Option.some.inj hj2; subst hj2
     exact run0z [{},{},{ g := false },{ g := false },{ g := false },{ g := false },{ g := false },{ g := false },{ k := 1,b := true }] [0,3,4] [v_0,.bool true,.i l1_4] ⟨[],0⟩ _ (by kernel_rfl) (cjC (hc2) (cjC (hc2) (cjC (hc2) (cjC (hc2) (cjC (hc2) (cjC (hc2) (cj1 (hc2)))))))) (kj2 true rfl)
    ·obtain ⟨y3,hy3,hj2⟩ := bindE hj2
     replace hj2 := Option.some.inj hj2; subst hj2
     exact run0z [{},{},{},{},{ k := 1,x := (SL E_GTone) y3 },{},{ k := 1,n := y3.length },{},{ k := 1,b := false }] [0,3,4] [v_0,.bool (decide (400 < (y3.length : Int))),.i l1_4] ⟨[],0⟩ _ (by kernel_rfl) (cjC (hc2) (cjC (hc2) (cjC (hc2) (cjC ((ixE hy3).1) (cjC (mapGet (SL E_GTone) (ixE hy3).2) (cjC (hc2) (cjC (hc2) (cjC (mapLen y3 E_GTone) (cjC (hc2) (cj1 (hc2))))))))))) (kj2 (decide (400 < (y3.length : Int))) rfl)
   ·rintro _ rfl
    refine inbN ?_
    refine thenN ?_
    refine run0z [] [0,3,4] [v_0,.bool j2_3,.i (wr (l1_4 + 1))] ⟨[],0⟩ _ (by kernel_rfl) cj0 ?_
    replace hl1 := Option.some.inj hl1; subst hl1
    exact ⟨_,rfl,pi [],mkInto (ks := [0,3,4]) (ys := [v_0,.bool j2_3,.i (wr (l1_4 + 1))]) (by kernel_rfl) (by kernel_rfl) (.k (.c (cleanMap _ _ (cl_SL cl_GTone))) (.k (.c rfl) (.k (.c rfl) .z))) .z⟩
  ·refine run_cF 12 (c9 13) (c9 14) (decide (l1_4 < (a0.length : Int))) hc1 (by kernel_rfl) (by kernel_rfl) ?_
   replace hl1 := Option.some.inj hl1; subst hl1
   have hr := rl1 _ rfl
   subst hr
   refine awp_p [0,3] [] (zipE [0,3] [v_0,.bool l1_3]) ⟨[],0⟩ (by kernel_rfl) (?_)
   refine run_e 0 (by kernel_rfl) ?_
   refine thenE ?_
   refine ⟨⟨_,rfl⟩,?_⟩
   refine inbE ?_
   exact kl1 l1_3 rfl
 ·rintro _ rfl
  refine thenN ?_
  refine run_s (c9 20) (c9 27) (by kernel_rfl) ?_
  refine run1z (c9 22) [] [0,24] [v_0,.bool l1x_3] ⟨[],0⟩ _ (by kernel_rfl) cj0 ?_
  rcases iteE h with ⟨hc4,h⟩ | ⟨hc4,h⟩
  ·refine run_cT 24 (c9 23) (c9 26) l1x_3 hc4 (by kernel_rfl) (by kernel_rfl) ?_
   refine run1z (c9 25) [] [2] [.i 2] ⟨[],0⟩ _ (by kernel_rfl) cj0 ?_
   refine run_t (by kernel_rfl) ?_
   refine thenR ?_
   replace h := Option.some.inj h; subst h
   exact fin_r (by kernel_rfl) rfl
  ·refine run_cF 24 (c9 23) (c9 26) l1x_3 hc4 (by kernel_rfl) (by kernel_rfl) ?_
   refine run_k (by kernel_rfl) ?_
   refine thenN ?_
   refine run_s (c9 28) (c9 48) (by kernel_rfl) ?_
   refine run1z (c9 30) [] [0,5] [v_0,.i 0] ⟨[],0⟩ _ (by kernel_rfl) cj0 ?_
   obtain ⟨ol3x,hll3x,h⟩ := bindE h
   refine run_tq (fun (_ : Unit) => (zipE [] [])) (fun (_ : Unit) => ⟨[],0⟩) (fun j => ol3x = .inl j) (fun kl3 => ?_) ?_
   ·refine run_b 2 (c9 31) (by kernel_rfl) ?_
    refine run_l (c9 32) _ hll3x (fun (l3_5 : Int) => (zipE [0,5] [v_0,.i l3_5])) (fun (l3_5 : Int) => ⟨[],0⟩) [] (by intro i e; cases e <;> exact Nat.le_of_ble_eq_true rfl) (by kernel_rfl) (mkInto (ks := [0,5]) (ys := [v_0,.i 0]) (by kernel_rfl) (by kernel_rfl) (.k (.c (cleanMap _ _ (cl_SL cl_GTone))) (.k (.c rfl) .z)) .z) ?_
    rintro l3_5 out hl3 rl3
    refine run_s (c9 33) (c9 38) (by kernel_rfl) ?_
    refine run1z (c9 35) [{},{},{ k := 1,n := a0.length }] [0,5,28] [v_0,.i l3_5,.bool (decide (l3_5 < (a0.length : Int)))] ⟨[],0⟩ _ (by kernel_rfl) (cj1 (mapLen a0 (SL E_GTone))) ?_
    rcases iteE hl3 with ⟨hc5,hl3⟩ | ⟨hc5,hl3⟩
    ·refine run_cT 28 (c9 36) (c9 37) (decide (l3_5 < (a0.length : Int))) hc5 (by kernel_rfl) (by kernel_rfl) ?_
     refine run_k (by kernel_rfl) ?_
     refine thenN ?_
     refine run_s (c9 39) (c9 47) (by kernel_rfl) ?_
     refine run_b 3 (c9 40) (by kernel_rfl) ?_
     obtain ⟨y6,hy6,hl3⟩ := bindE hl3
     obtain ⟨r7,hr7,hl3⟩ := bindE hl3
     refine run1z (c9 42) [{},{},{ k := 1,x := (SL E_GTone) y6 },{},{ c := some (.bool r7,⟨[],0⟩) }] [0,5,36] [v_0,.i l3_5,.bool (!r7)] ⟨[],0⟩ _ (by kernel_rfl) (cjC ((ixE hy6).1) (cjC (mapGet (SL E_GTone) (ixE hy6).2) (cj1 (f20_ok y6 _ hr7 ⟨[],0⟩)))) ?_
     rcases iteE hl3 with ⟨hc8,hl3⟩ | ⟨hc8,hl3⟩
     ·refine run_cT 36 (c9 43) (c9 46) (!r7) hc8 (by kernel_rfl) (by kernel_rfl) ?_
      refine run1z (c9 45) [] [2] [.i 80] ⟨[],0⟩ _ (by kernel_rfl) cj0 ?_
      replace hl3 := Option.some.inj hl3; subst hl3
      have hr := rl3 _ rfl
      subst hr
      replace h := elimR h
      refine run_t (by kernel_rfl) ?_
      refine inbR ?_
      refine thenR ?_
      refine ⟨⟨_,rfl⟩,?_⟩
      refine inbR ?_
      refine thenR ?_
      replace h := Option.some.inj h; subst h
      exact fin_r (by kernel_rfl) rfl
     ·refine run_cF 36 (c9 43) (c9 46) (!r7) hc8 (by kernel_rfl) (by kernel_rfl) ?_
      refine run_k (by kernel_rfl) ?_
      refine inbN ?_
      refine thenN ?_
      refine run0z [] [0,5] [v_0,.i (wr (l3_5 + 1))] ⟨[],0⟩ _ (by kernel_rfl) cj0 ?_
      replace hl3 := Option.some.inj hl3; subst hl3
      exact ⟨_,rfl,pi [],mkInto (ks := [0,5]) (ys := [v_0,.i (wr (l3_5 + 1))]) (by kernel_rfl) (by kernel_rfl) (.k (.c (cleanMap _ _ (cl_SL cl_GTone))) (.k (.c rfl) .z)) .z⟩
    ·refine run_cF 28 (c9 36) (c9 37) (decide (l3_5 < (a0.length : Int))) hc5 (by kernel_rfl) (by kernel_rfl) ?_
     replace hl3 := Option.some.inj hl3; subst hl3
     have hr := rl3 _ rfl
     subst hr
     refine awp_p [] [] (zipE [] []) ⟨[],0⟩ (by kernel_rfl) (?_)
     refine run_e 2 (by kernel_rfl) ?_
     refine thenE ?_
     refine ⟨⟨_,rfl⟩,?_⟩
     refine inbE ?_
     exact kl3 () rfl
   ·rintro ⟨⟩ rfl
    replace h := elimL h
    refine thenN ?_
    refine run1z (c9 50) [] [2] [.i 0] ⟨[],0⟩ _ (by kernel_rfl) cj0 ?_
    refine run_t (by kernel_rfl) ?_
    replace h := Option.some.inj h; subst h
    exact fin_r (by kernel_rfl) rfl
def f4 (a0 : List (List GTone)) : Option Bool := (loopN (σ := (Int × Int)) (τ := Int) (fun ((l1_3,l1_4) : (Int × Int)) => bif (decide (l1_4 < (a0.length : Int))) then ((ix a0 l1_4).bind fun y2 => some (.inl ((wr (l1_3 + (y2.length : Int))),(wr (l1_4 + 1))))) else (some (.inr l1_3))) FUEL (0,0)).bind fun (l1x_3 : Int) => ((bif (decide (l1x_3 ≤ 64)) then (some true) else ((f9 a0).bind fun r4 => some (decide (r4 ≠ 0)))) : Option Bool).bind fun (j2_2 : Bool) => some j2_2
theorem f4_ok (a0 : List (List GTone)) (r : Bool) (h : f4 a0 = some r) : APure Try.prog 4 [.sl false (a0.map (SL E_GTone))] (.bool r) := by
 refine apure (clK (cleanMap a0 _ (cl_SL cl_GTone)) clZ) rfl ?_
 let v_0 : AV := .sl false (a0.map (SL E_GTone))
 refine run_f 25 [.tmp 2] (c4 0) (zipE [0] [v_0]) (by kernel_rfl) (by kernel_rfl) (by kernel_rfl) rfl ?_
 unfold f4 at h
 refine run1z (c4 2) [] [0] [v_0] ⟨[],0⟩ _ (by kernel_rfl) cj0 ?_
 refine run1z (c4 4) [] [0,3] [v_0,.i 0] ⟨[],0⟩ _ (by kernel_rfl) cj0 ?_
 refine run_s (c4 5) (c4 19) (by kernel_rfl) ?_
 refine run1z (c4 7) [] [0,3,4] [v_0,.i 0,.i 0] ⟨[],0⟩ _ (by kernel_rfl) cj0 ?_
 obtain ⟨l1x_3,hll1x,h⟩ := bindE h
 refine run_tq (fun (l1x_3 : Int) => (zipE [0,3] [v_0,.i l1x_3])) (fun (l1x_3 : Int) => ⟨[],0⟩) (fun j => l1x_3 = j) (fun kl1 => ?_) ?_
 ·refine run_b 0 (c4 8) (by kernel_rfl) ?_
  refine run_l (c4 9) _ hll1x (fun ((l1_3,l1_4) : (Int × Int)) => (zipE [0,3,4] [v_0,.i l1_3,.i l1_4])) (fun ((l1_3,l1_4) : (Int × Int)) => ⟨[],0⟩) [] (by intro i e; cases e <;> exact Nat.le_of_ble_eq_true rfl) (by kernel_rfl) (mkInto (ks := [0,3,4]) (ys := [v_0,.i 0,.i 0]) (by kernel_rfl) (by kernel_rfl) (.k (.c (cleanMap _ _ (cl_SL cl_GTone))) (.k (.c rfl) (.k (.c rfl) .z))) .z) ?_
  rintro ⟨l1_3,l1_4⟩ out hl1 rl1
  refine run_s (c4 10) (c4 15) (by kernel_rfl) ?_
  refine run1z (c4 12) [{},{},{ k := 1,n := a0.length }] [0,3,4,8] [v_0,.i l1_3,.i l1_4,.bool (decide (l1_4 < (a0.length : Int)))] ⟨[],0⟩ _ (by kernel_rfl) (cj1 (mapLen a0 (SL E_GTone))) ?_
  rcases iteE hl1 with ⟨hc1,hl1⟩ | ⟨hc1,hl1⟩
  ·refine run_cT 8 (c4 13) (c4 14) (decide (l1_4 < (a0.length : Int))) hc1 (by kernel_rfl) (by kernel_rfl) ?_
   refine run_k (by kernel_rfl) ?_
   refine thenN ?_
   refine run_s (c4 16) (c4 18) (by kernel_rfl) ?_
   refine run_b 1 (c4 17) (by kernel_rfl) ?_
   obtain ⟨y2,hy2,hl1⟩ := bindE hl1
   let v_1 : AV := .i (wr (l1_3 + (y2.length : Int)))
   refine run0z [{},{},{},{ k := 1,x := (SL E_GTone) y2 },{},{ k := 1,n := y2.length }] [0,3,4] [v_0,v_1,.i l1_4] ⟨[],0⟩ _ (by kernel_rfl) (cjC ((ixE hy2).1) (cjC (mapGet (SL E_GTone) (ixE hy2).2) (cj1 (mapLen y2 E_GTone)))) ?_
   refine inbN ?_
   refine thenN ?_
   refine run0z [] [0,3,4] [v_0,v_1,.i (wr (l1_4 + 1))] ⟨[],0⟩ _ (by kernel_rfl) cj0 ?_
   replace hl1 := Option.some.inj hl1; subst hl1
   exact ⟨_,rfl,pi [],mkInto (ks := [0,3,4]) (ys := [v_0,v_1,.i (wr (l1_4 + 1))]) (by kernel_rfl) (by kernel_rfl) (.k (.c (cleanMap _ _ (cl_SL cl_GTone))) (.k (.c rfl) (.k (.c rfl) .z))) .z⟩
  ·refine run_cF 8 (c4 13) (c4 14) (decide (l1_4 < (a0.length : Int))) hc1 (by kernel_rfl) (by kernel_rfl) ?_
   replace hl1 := Option.some.inj hl1; subst hl1
   have hr := rl1 _ rfl
   subst hr
   refine awp_p [0,3] [] (zipE [0,3] [v_0,.i l1_3]) ⟨[],0⟩ (by kernel_rfl) (?_)
   refine run_e 0 (by kernel_rfl) ?_
   refine thenE ?_
   refine ⟨⟨_,rfl⟩,?_⟩
   refine inbE ?_
   exact kl1 l1_3 rfl
 ·rintro _ rfl
  refine thenN ?_
  obtain ⟨j2_2,hj2,h⟩ := bindE h
  refine run_gq (c4 21) (fun (j2_2 : Bool) => (zipE [2] [.bool j2_2])) (fun (j2_2 : Bool) => ⟨[],0⟩) (fun j => j2_2 = j) (fun kj2 => ?_) ?_
  ·rcases iteE hj2 with ⟨hc3,hj2⟩ | ⟨hc3,hj2⟩
   ·replace hj2 := Option.some.inj hj2; subst hj2
    exact run1z (c4 21) [{},{},{},{ g := false },{ g := false },{ g := false },{ k := 1,b := true }] [2] [.bool true] ⟨[],0⟩ _ (by kernel_rfl) (cjC (hc3) (cjC (hc3) (cjC (hc3) (cj1 (hc3))))) (kj2 true rfl)
   ·obtain ⟨r4,hr4,hj2⟩ := bindE hj2
    replace hj2 := Option.some.inj hj2; subst hj2
    exact run1z (c4 21) [{},{},{},{},{ c := some (.i r4,⟨[],0⟩) },{},{ k := 1,b := false }] [2] [.bool (decide (r4 ≠ 0))] ⟨[],0⟩ _ (by kernel_rfl) (cjC (hc3) (cjC (hc3) (cjC (f9_ok a0 _ hr4 ⟨[],0⟩) (cjC (hc3) (cj1 (hc3)))))) (kj2 (decide (r4 ≠ 0)) rfl)
  ·rintro _ rfl
   refine run_t (by kernel_rfl) ?_
   replace h := Option.some.inj h; subst h
   exact fin_r (by kernel_rfl) rfl
def f5 : Option Bool := some true
theorem f5_ok (r : Bool) (h : f5 = some r) : APure Try.prog 5 [] (.bool r) := by cases h; exact works_ok
def f35 (a0 : List GTone) : Option Bool := some (decide (400 < (a0.length : Int)))
theorem f35_ok (a0 : List GTone) (r : Bool) (h : f35 a0 = some r) : APure Try.prog 35 [.sl false (a0.map E_GTone)] (.bool r) := by
 refine apure (clK (cleanMap a0 _ cl_GTone) clZ) rfl ?_
 let v_0 : AV := .sl false (a0.map E_GTone)
 refine run_f 6 [.tmp 2] (c35 0) (zipE [0] [v_0]) (by kernel_rfl) (by kernel_rfl) (by kernel_rfl) rfl ?_
 unfold f35 at h
 refine run1z (c35 2) [] [0] [v_0] ⟨[],0⟩ _ (by kernel_rfl) cj0 ?_
 refine run1z (c35 4) [{},{ k := 1,n := a0.length }] [2] [.bool (decide (400 < (a0.length : Int)))] ⟨[],0⟩ _ (by kernel_rfl) (cj1 (mapLen a0 E_GTone)) ?_
 refine run_t (by kernel_rfl) ?_
 replace h := Option.some.inj h; subst h
 exact fin_r (by kernel_rfl) rfl
def f60 (a0 : List (List GTone)) : Option Int := (loopN (σ := Int) (τ := (Unit ⊕ Int)) (fun (l1_8 : Int) => bif (decide (l1_8 < (a0.length : Int))) then ((ix a0 l1_8).bind fun y2 => (f35 y2).bind fun r3 => bif r3 then (some (.inr (.inr l1_8))) else (some (.inl (wr (l1_8 + 1))))) else (some (.inr (.inl ())))) FUEL 0).bind (Sum.elim (fun (_ : Unit) => some (-1)) some)
theorem f60_ok (a0 : List (List GTone)) (r : Int) (h : f60 a0 = some r) : APure Try.prog 60 [.sl false (a0.map (SL E_GTone)),.fn 35 []] (.i r) := by
 refine apure (clK (cleanMap a0 _ (cl_SL cl_GTone)) (clK rfl clZ)) rfl ?_
 let v_0 : AV := .sl false (a0.map (SL E_GTone))
 refine run_f 19 [.tmp 4] (c60 0) (zipE [0,1] [v_0,.fn 35 []]) (by kernel_rfl) (by kernel_rfl) (by kernel_rfl) rfl ?_
 unfold f60 at h
 refine run1z (c60 2) [] [0,1] [v_0,.fn 35 []] ⟨[],0⟩ _ (by kernel_rfl) cj0 ?_
 refine run_s (c60 3) (c60 25) (by kernel_rfl) ?_
 let v_1 : AV := .i (a0.length : Int)
 refine run1z (c60 5) [{},{ k := 1,n := a0.length }] [0,1,7,8] [v_0,.fn 35 [],v_1,.i 0] ⟨[],0⟩ _ (by kernel_rfl) (cj1 (mapLen a0 (SL E_GTone))) ?_
 obtain ⟨ol1x,hll1x,h⟩ := bindE h
 refine run_tq (fun (_ : Unit) => (zipE [] [])) (fun (_ : Unit) => ⟨[],0⟩) (fun j => ol1x = .inl j) (fun kl1 => ?_) ?_
 ·refine run_b 0 (c60 6) (by kernel_rfl) ?_
  refine run_l (c60 7) _ hll1x (fun (l1_8 : Int) => (zipE [0,1,7,8] [v_0,.fn 35 [],v_1,.i l1_8])) (fun (l1_8 : Int) => ⟨[],0⟩) [] (by intro i e; cases e <;> exact Nat.le_of_ble_eq_true rfl) (by kernel_rfl) (mkInto (ks := [0,1,7,8]) (ys := [v_0,.fn 35 [],v_1,.i 0]) (by kernel_rfl) (by kernel_rfl) (.k (.c (cleanMap _ _ (cl_SL cl_GTone))) (.k (.c rfl) (.k (.c rfl) (.k (.c rfl) .z)))) .z) ?_
  rintro l1_8 out hl1 rl1
  refine run1z (c60 9) [] [0,1,7,8,9] [v_0,.fn 35 [],v_1,.i l1_8,.bool (decide (l1_8 < (a0.length : Int)))] ⟨[],0⟩ _ (by kernel_rfl) cj0 ?_
  refine run_s (c60 10) (c60 13) (by kernel_rfl) ?_
  rcases iteE hl1 with ⟨hc1,hl1⟩ | ⟨hc1,hl1⟩
  ·refine run_cT 9 (c60 11) (c60 12) (decide (l1_8 < (a0.length : Int))) hc1 (by kernel_rfl) (by kernel_rfl) ?_
   refine run_k (by kernel_rfl) ?_
   refine thenN ?_
   refine run_s (c60 14) (c60 24) (by kernel_rfl) ?_
   refine run_b 1 (c60 15) (by kernel_rfl) ?_
   refine run1z (c60 17) [] [0,1,5,7,8] [v_0,.fn 35 [],.i l1_8,v_1,.i l1_8] ⟨[],0⟩ _ (by kernel_rfl) cj0 ?_
   obtain ⟨y2,hy2,hl1⟩ := bindE hl1
   obtain ⟨r3,hr3,hl1⟩ := bindE hl1
   refine run1z (c60 19) [{},{},{},{ k := 1,x := (SL E_GTone) y2 },{},{ c := some (.bool r3,⟨[],0⟩) }] [0,1,5,7,8,16] [v_0,.fn 35 [],.i l1_8,v_1,.i l1_8,.bool r3] ⟨[],0⟩ _ (by kernel_rfl) (cjC ((ixE hy2).1) (cjC (mapGet (SL E_GTone) (ixE hy2).2) (cj1 (f35_ok y2 _ hr3 ⟨[],0⟩)))) ?_
   rcases iteE hl1 with ⟨hc4,hl1⟩ | ⟨hc4,hl1⟩
   ·refine run_cT 16 (c60 20) (c60 23) r3 hc4 (by kernel_rfl) (by kernel_rfl) ?_
    refine run1z (c60 22) [] [4] [.i l1_8] ⟨[],0⟩ _ (by kernel_rfl) cj0 ?_
    replace hl1 := Option.some.inj hl1; subst hl1
    have hr := rl1 _ rfl
    subst hr
    replace h := elimR h
    refine run_t (by kernel_rfl) ?_
    refine inbR ?_
    refine thenR ?_
    refine ⟨⟨_,rfl⟩,?_⟩
    refine inbR ?_
    refine thenR ?_
    replace h := Option.some.inj h; subst h
    exact fin_r (by kernel_rfl) rfl
   ·refine run_cF 16 (c60 20) (c60 23) r3 hc4 (by kernel_rfl) (by kernel_rfl) ?_
    refine run_k (by kernel_rfl) ?_
    refine inbN ?_
    refine thenN ?_
    refine run0z [] [0,1,7,8] [v_0,.fn 35 [],v_1,.i (wr (l1_8 + 1))] ⟨[],0⟩ _ (by kernel_rfl) cj0 ?_
    replace hl1 := Option.some.inj hl1; subst hl1
    exact ⟨_,rfl,pi [],mkInto (ks := [0,1,7,8]) (ys := [v_0,.fn 35 [],v_1,.i (wr (l1_8 + 1))]) (by kernel_rfl) (by kernel_rfl) (.k (.c (cleanMap _ _ (cl_SL cl_GTone))) (.k (.c rfl) (.k (.c rfl) (.k (.c rfl) .z)))) .z⟩
  ·refine run_cF 9 (c60 11) (c60 12) (decide (l1_8 < (a0.length : Int))) hc1 (by kernel_rfl) (by kernel_rfl) ?_
   replace hl1 := Option.some.inj hl1; subst hl1
   have hr := rl1 _ rfl
   subst hr
   refine awp_p [] [] (zipE [] []) ⟨[],0⟩ (by kernel_rfl) (?_)
   refine run_e 0 (by kernel_rfl) ?_
   refine thenE ?_
   refine ⟨⟨_,rfl⟩,?_⟩
   refine inbE ?_
   exact kl1 () rfl
 ·rintro ⟨⟩ rfl
  replace h := elimL h
  refine thenN ?_
  refine run1z (c60 27) [] [4] [.i (-1)] ⟨[],0⟩ _ (by kernel_rfl) cj0 ?_
  refine run_t (by kernel_rfl) ?_
  replace h := Option.some.inj h; subst h
  exact fin_r (by kernel_rfl) rfl
def f34 (a0 : List (List GTone)) : Option Bool := (f60 a0).bind fun r1 => some (decide (0 ≤ r1))
theorem f34_ok (a0 : List (List GTone)) (r : Bool) (h : f34 a0 = some r) : APure Try.prog 34 [.sl false (a0.map (SL E_GTone)),.fn 35 []] (.bool r) := by
 refine apure (clK (cleanMap a0 _ (cl_SL cl_GTone)) (clK rfl clZ)) rfl ?_
 let v_0 : AV := .sl false (a0.map (SL E_GTone))
 refine run_f 9 [.tmp 4] (c34 0) (zipE [0,1] [v_0,.fn 35 []]) (by kernel_rfl) (by kernel_rfl) (by kernel_rfl) rfl ?_
 unfold f34 at h
 refine run1z (c34 2) [] [0,1] [v_0,.fn 35 []] ⟨[],0⟩ _ (by kernel_rfl) cj0 ?_
 obtain ⟨r1,hr1,h⟩ := bindE h
 refine run1z (c34 4) [{},{},{ c := some (.i r1,⟨[],0⟩) }] [4] [.bool (decide (0 ≤ r1))] ⟨[],0⟩ _ (by kernel_rfl) (cj1 (f60_ok a0 _ hr1 ⟨[],0⟩)) ?_
 refine run_t (by kernel_rfl) ?_
 replace h := Option.some.inj h; subst h
 exact fin_r (by kernel_rfl) rfl
def f36 (a0 : Int) (a1 : Int) (a2 : Int) : Option Bool := ((bif (decide (a1 ≤ a0)) then (some (decide (a0 ≤ a2))) else (some false)) : Option Bool).bind fun (j1_6 : Bool) => some j1_6
theorem f36_ok (a0 : Int) (a1 : Int) (a2 : Int) (r : Bool) (h : f36 a0 a1 a2 = some r) : APure Try.prog 36 [.i a0,.i a1,.i a2] (.bool r) := by
 refine apure (clK rfl (clK rfl (clK rfl clZ))) rfl ?_
 refine run_f 15 [.tmp 6] (c36 0) (zipE [0,1,2] [.i a0,.i a1,.i a2]) (by kernel_rfl) (by kernel_rfl) (by kernel_rfl) rfl ?_
 unfold f36 at h
 refine run1z (c36 2) [] [0,1,2] [.i a0,.i a1,.i a2] ⟨[],0⟩ _ (by kernel_rfl) cj0 ?_
 obtain ⟨j1_6,hj1,h⟩ := bindE h
 refine run_gq (c36 4) (fun (j1_6 : Bool) => (zipE [6] [.bool j1_6])) (fun (j1_6 : Bool) => ⟨[],0⟩) (fun j => j1_6 = j) (fun kj1 => ?_) ?_
 ·rcases iteE hj1 with ⟨hc1,hj1⟩ | ⟨hc1,hj1⟩
  ·replace hj1 := Option.some.inj hj1; subst hj1
   exact run1z (c36 4) [{},{},{},{},{},{},{},{ k := 1,b := true }] [6] [.bool (decide (a0 ≤ a2))] ⟨[],0⟩ _ (by kernel_rfl) (cjC (hc1) (cjC (hc1) (cjC (hc1) (cj1 (hc1))))) (kj1 (decide (a0 ≤ a2)) rfl)
  ·replace hj1 := Option.some.inj hj1; subst hj1
   exact run1z (c36 4) [{},{},{},{},{ g := false },{ g := false },{ g := false },{ k := 1,b := false }] [6] [.bool false] ⟨[],0⟩ _ (by kernel_rfl) (cjC (hc1) (cjC (hc1) (cjC (hc1) (cj1 (hc1))))) (kj1 false rfl)
 ·rintro _ rfl
  refine run_t (by kernel_rfl) ?_
  replace h := Option.some.inj h; subst h
  exact fin_r (by kernel_rfl) rfl
def f15 (a0 : List (List GTone)) : Option Int := ((bif (decide (6 < (a0.length : Int))) then (some true) else ((f34 a0).bind fun r2 => some r2)) : Option Bool).bind fun (j1_14 : Bool) => bif j1_14 then (some 2) else ((loopN (σ := Int) (τ := (Unit ⊕ Int)) (fun (l2_17 : Int) => bif (decide (l2_17 < (a0.length : Int))) then ((ix a0 l2_17).bind fun y5 => (loopN (σ := (Int × Int)) (τ := (Unit ⊕ (Int ⊕ (Unit ⊕ Int)))) (fun ((l3_5,l3_23) : (Int × Int)) => bif (decide (l3_23 < (y5.length : Int))) then ((ix y5 l3_23).bind fun y7 => (((f36 y7.pitch 0 127).bind fun r8 => bif (!r8) then (some true) else (bif (decide (y7.from_ < l3_5)) then (some true) else (bif (decide (y7.to_ ≤ y7.from_)) then (some true) else (some (decide (262144 < y7.to_)))))) : Option Bool).bind fun (j4_48 : Bool) => bif j4_48 then (some (.inr (.inr (.inr (.inr 80))))) else (some (.inl (y7.to_,(wr (l3_23 + 1)))))) else (some (.inr (.inl ())))) FUEL (0,0)).bind (Sum.elim (fun (_ : Unit) => some (.inl (wr (l2_17 + 1)))) some)) else (some (.inr (.inl ())))) FUEL 0).bind (Sum.elim (fun (_ : Unit) => some 0) some))
theorem f15_ok (a0 : List (List GTone)) (r : Int) (h : f15 a0 = some r) : APure Try.prog 15 [.sl false (a0.map (SL E_GTone))] (.i r) := by
 refine apure (clK (cleanMap a0 _ (cl_SL cl_GTone)) clZ) rfl ?_
 let v_0 : AV := .sl false (a0.map (SL E_GTone))
 refine run_f 53 [.tmp 2] (c15 0) (zipE [0] [v_0]) (by kernel_rfl) (by kernel_rfl) (by kernel_rfl) rfl ?_
 unfold f15 at h
 refine run1z (c15 2) [] [0] [v_0] ⟨[],0⟩ _ (by kernel_rfl) cj0 ?_
 refine run_s (c15 3) (c15 10) (by kernel_rfl) ?_
 obtain ⟨j1_14,hj1,h⟩ := bindE h
 refine run_gq (c15 5) (fun (j1_14 : Bool) => (zipE [0,14] [v_0,.bool j1_14])) (fun (j1_14 : Bool) => ⟨[],0⟩) (fun j => j1_14 = j) (fun kj1 => ?_) ?_
 ·rcases iteE hj1 with ⟨hc1,hj1⟩ | ⟨hc1,hj1⟩
  ·replace hj1 := Option.some.inj hj1; subst hj1
   exact run1z (c15 5) [{},{ k := 1,n := a0.length },{},{},{ g := false },{ g := false },{ k := 1,b := true }] [0,14] [v_0,.bool true] ⟨[],0⟩ _ (by kernel_rfl) (cjC (mapLen a0 (SL E_GTone)) (cjC (hc1) (cjC (hc1) (cj1 (hc1))))) (kj1 true rfl)
  ·obtain ⟨r2,hr2,hj1⟩ := bindE hj1
   replace hj1 := Option.some.inj hj1; subst hj1
   exact run1z (c15 5) [{},{ k := 1,n := a0.length },{},{},{},{ c := some (.bool r2,⟨[],0⟩) },{ k := 1,b := false }] [0,14] [v_0,.bool r2] ⟨[],0⟩ _ (by kernel_rfl) (cjC (mapLen a0 (SL E_GTone)) (cjC (hc1) (cjC (hc1) (cjC (f34_ok a0 _ hr2 ⟨[],0⟩) (cj1 (hc1)))))) (kj1 r2 rfl)
 ·rintro _ rfl
  rcases iteE h with ⟨hc3,h⟩ | ⟨hc3,h⟩
  ·refine run_cT 14 (c15 6) (c15 9) j1_14 hc3 (by kernel_rfl) (by kernel_rfl) ?_
   refine run1z (c15 8) [] [2] [.i 2] ⟨[],0⟩ _ (by kernel_rfl) cj0 ?_
   refine run_t (by kernel_rfl) ?_
   refine thenR ?_
   replace h := Option.some.inj h; subst h
   exact fin_r (by kernel_rfl) rfl
  ·refine run_cF 14 (c15 6) (c15 9) j1_14 hc3 (by kernel_rfl) (by kernel_rfl) ?_
   refine run_k (by kernel_rfl) ?_
   refine thenN ?_
   refine run_s (c15 11) (c15 52) (by kernel_rfl) ?_
   let v_1 : AV := .i (a0.length : Int)
   refine run1z (c15 13) [{},{ k := 1,n := a0.length }] [15,16,17] [v_0,v_1,.i 0] ⟨[],0⟩ _ (by kernel_rfl) (cj1 (mapLen a0 (SL E_GTone))) ?_
   obtain ⟨ol2x,hll2x,h⟩ := bindE h
   refine run_tq (fun (_ : Unit) => (zipE [] [])) (fun (_ : Unit) => ⟨[],0⟩) (fun j => ol2x = .inl j) (fun kl2 => ?_) ?_
   ·refine run_b 0 (c15 14) (by kernel_rfl) ?_
    refine run_l (c15 15) _ hll2x (fun (l2_17 : Int) => (zipE [15,16,17] [v_0,v_1,.i l2_17])) (fun (l2_17 : Int) => ⟨[],0⟩) [] (by intro i e; cases e <;> exact Nat.le_of_ble_eq_true rfl) (by kernel_rfl) (mkInto (ks := [15,16,17]) (ys := [v_0,v_1,.i 0]) (by kernel_rfl) (by kernel_rfl) (.k (.c (cleanMap _ _ (cl_SL cl_GTone))) (.k (.c rfl) (.k (.c rfl) .z))) .z) ?_
    rintro l2_17 out hl2 rl2
    refine run1z (c15 17) [] [15,16,17,18] [v_0,v_1,.i l2_17,.bool (decide (l2_17 < (a0.length : Int)))] ⟨[],0⟩ _ (by kernel_rfl) cj0 ?_
    refine run_s (c15 18) (c15 21) (by kernel_rfl) ?_
    rcases iteE hl2 with ⟨hc4,hl2⟩ | ⟨hc4,hl2⟩
    ·refine run_cT 18 (c15 19) (c15 20) (decide (l2_17 < (a0.length : Int))) hc4 (by kernel_rfl) (by kernel_rfl) ?_
     refine run_k (by kernel_rfl) ?_
     refine thenN ?_
     refine run_s (c15 22) (c15 51) (by kernel_rfl) ?_
     refine run_b 1 (c15 23) (by kernel_rfl) ?_
     obtain ⟨y5,hy5,hl2⟩ := bindE hl2
     let v_2 : AV := .sl false (y5.map E_GTone)
     refine run1z (c15 25) [{ k := 1,x := (SL E_GTone) y5 }] [4,15,16,17] [v_2,v_0,v_1,.i l2_17] ⟨[],0⟩ _ (by kernel_rfl) (cjC ((ixE hy5).1) (cj1 (mapGet (SL E_GTone) (ixE hy5).2))) ?_
     refine run1z (c15 27) [] [4,5,15,16,17] [v_2,.i 0,v_0,v_1,.i l2_17] ⟨[],0⟩ _ (by kernel_rfl) cj0 ?_
     let v_3 : AV := .i (y5.length : Int)
     refine run1z (c15 29) [{},{ k := 1,n := y5.length }] [5,15,16,17,21,22,23] [.i 0,v_0,v_1,.i l2_17,v_2,v_3,.i 0] ⟨[],0⟩ _ (by kernel_rfl) (cj1 (mapLen y5 E_GTone)) ?_
     obtain ⟨ol3x,hll3x,hl2⟩ := bindE hl2
     refine run_tq (fun (_ : Unit) => (zipE [15,16,17] [v_0,v_1,.i l2_17])) (fun (_ : Unit) => ⟨[],0⟩) (fun j => ol3x = .inl j) (fun kl3 => ?_) ?_
     ·refine run_b 2 (c15 30) (by kernel_rfl) ?_
      refine run_l (c15 31) _ hll3x (fun ((l3_5,l3_23) : (Int × Int)) => (zipE [5,15,16,17,21,22,23] [.i l3_5,v_0,v_1,.i l2_17,v_2,v_3,.i l3_23])) (fun ((l3_5,l3_23) : (Int × Int)) => ⟨[],0⟩) [] (by intro i e; cases e <;> exact Nat.le_of_ble_eq_true rfl) (by kernel_rfl) (mkInto (ks := [5,15,16,17,21,22,23]) (ys := [.i 0,v_0,v_1,.i l2_17,v_2,v_3,.i 0]) (by kernel_rfl) (by kernel_rfl) (.k (.c rfl) (.k (.c (cleanMap _ _ (cl_SL cl_GTone))) (.k (.c rfl) (.k (.c rfl) (.k (.c (cleanMap _ _ cl_GTone)) (.k (.c rfl) (.k (.c rfl) .z))))))) .z) ?_
      rintro ⟨l3_5,l3_23⟩ out hl3 rl3
      refine run1z (c15 33) [] [5,15,16,17,21,22,23,24] [.i l3_5,v_0,v_1,.i l2_17,v_2,v_3,.i l3_23,.bool (decide (l3_23 < (y5.length : Int)))] ⟨[],0⟩ _ (by kernel_rfl) cj0 ?_
      refine run_s (c15 34) (c15 37) (by kernel_rfl) ?_
      rcases iteE hl3 with ⟨hc6,hl3⟩ | ⟨hc6,hl3⟩
      ·refine run_cT 24 (c15 35) (c15 36) (decide (l3_23 < (y5.length : Int))) hc6 (by kernel_rfl) (by kernel_rfl) ?_
       refine run_k (by kernel_rfl) ?_
       refine thenN ?_
       refine run_s (c15 38) (c15 50) (by kernel_rfl) ?_
       refine run_b 3 (c15 39) (by kernel_rfl) ?_
       obtain ⟨y7,hy7,hl3⟩ := bindE hl3
       let b_0 : Blk := .cells 3 [E_GTone y7]
       refine run1z (c15 41) [{ k := 1,x := E_GTone y7 }] [5,7,15,16,17,21,22,23] [.i l3_5,.mp 0 0 0,v_0,v_1,.i l2_17,v_2,v_3,.i l3_23] ⟨[(0,b_0)],1⟩ _ (by kernel_rfl) (cjC ((ixE hy7).1) (cj1 (mapGet E_GTone (ixE hy7).2))) ?_
       refine run_s (c15 42) (c15 49) (by kernel_rfl) ?_
       obtain ⟨j4_48,hj4,hl3⟩ := bindE hl3
       refine run_gq (c15 44) (fun (j4_48 : Bool) => (zipE [7,15,16,17,21,22,23,48] [.mp 0 0 0,v_0,v_1,.i l2_17,v_2,v_3,.i l3_23,.bool j4_48])) (fun (j4_48 : Bool) => ⟨[(0,b_0)],1⟩) (fun j => j4_48 = j) (fun kj4 => ?_) ?_
       ·obtain ⟨r8,hr8,hj4⟩ := bindE hj4
        rcases iteE hj4 with ⟨hc9,hj4⟩ | ⟨hc9,hj4⟩
        ·replace hj4 := Option.some.inj hj4; subst hj4
         exact run1z (c15 44) [{},{},{ c := some (.bool r8,⟨[(0,b_0)],1⟩) },{},{},{ g := false },{ g := false },{ g := false },{ g := false },{ k := 1,b := true },{},{ g := false },{ g := false },{ g := false },{ g := false },{ g := false },{},{},{ g := false },{ g := false },{ g := false }] [7,15,16,17,21,22,23,48] [.mp 0 0 0,v_0,v_1,.i l2_17,v_2,v_3,.i l3_23,.bool true] ⟨[(0,b_0)],1⟩ _ (by kernel_rfl) (cjC (f36_ok y7.pitch 0 127 _ hr8 ⟨[(0,b_0)],1⟩) (cjC (hc9) (cjC (hc9) (cjC (hc9) (cjC (hc9) (cjC (hc9) (cjC (Eq.refl true) (cjC (Eq.refl true) (cjC (Eq.refl true) (cjC (Eq.refl true) (cjC (Eq.refl true) (cjC (Eq.refl true) (cjC (Eq.refl true) (cj1 (Eq.refl true))))))))))))))) (kj4 true rfl)
        ·rcases iteE hj4 with ⟨hc10,hj4⟩ | ⟨hc10,hj4⟩
         ·replace hj4 := Option.some.inj hj4; subst hj4
          exact run1z (c15 44) [{},{},{ c := some (.bool r8,⟨[(0,b_0)],1⟩) },{},{},{},{},{},{},{ k := 1,b := false },{},{ g := false },{ g := false },{ g := false },{ g := false },{ g := false },{ k := 1,b := true },{},{ g := false },{ g := false },{ g := false }] [7,15,16,17,21,22,23,48] [.mp 0 0 0,v_0,v_1,.i l2_17,v_2,v_3,.i l3_23,.bool true] ⟨[(0,b_0)],1⟩ _ (by kernel_rfl) (cjC (f36_ok y7.pitch 0 127 _ hr8 ⟨[(0,b_0)],1⟩) (cjC (hc9) (cjC (hc9) (cjC (hc9) (cjC (hc9) (cjC (hc9) (cjC (hc10) (cjC (hc10) (cjC (hc10) (cjC (hc10) (cjC (hc10) (cjC (hc10) (cjC (Eq.refl true) (cjC (Eq.refl true) (cj1 (Eq.refl true)))))))))))))))) (kj4 true rfl)
         ·rcases iteE hj4 with ⟨hc11,hj4⟩ | ⟨hc11,hj4⟩
          ·replace hj4 := Option.some.inj hj4; subst hj4
           exact run1z (c15 44) [{},{},{ c := some (.bool r8,⟨[(0,b_0)],1⟩) },{},{},{},{},{},{},{ k := 1,b := false },{},{},{},{},{},{},{ k := 1,b := false },{},{ g := false },{ g := false },{ g := false },{ k := 1,b := true }] [7,15,16,17,21,22,23,48] [.mp 0 0 0,v_0,v_1,.i l2_17,v_2,v_3,.i l3_23,.bool true] ⟨[(0,b_0)],1⟩ _ (by kernel_rfl) (cjC (f36_ok y7.pitch 0 127 _ hr8 ⟨[(0,b_0)],1⟩) (cjC (hc9) (cjC (hc9) (cjC (hc9) (cjC (hc9) (cjC (hc9) (cjC (hc10) (cjC (hc10) (cjC (hc10) (cjC (hc10) (cjC (hc10) (cjC (hc10) (cjC (hc11) (cjC (hc11) (cjC (hc11) (cj1 (hc11))))))))))))))))) (kj4 true rfl)
          ·replace hj4 := Option.some.inj hj4; subst hj4
           exact run1z (c15 44) [{},{},{ c := some (.bool r8,⟨[(0,b_0)],1⟩) },{},{},{},{},{},{},{ k := 1,b := false },{},{},{},{},{},{},{ k := 1,b := false },{},{},{},{},{ k := 1,b := false }] [7,15,16,17,21,22,23,48] [.mp 0 0 0,v_0,v_1,.i l2_17,v_2,v_3,.i l3_23,.bool (decide (262144 < y7.to_))] ⟨[(0,b_0)],1⟩ _ (by kernel_rfl) (cjC (f36_ok y7.pitch 0 127 _ hr8 ⟨[(0,b_0)],1⟩) (cjC (hc9) (cjC (hc9) (cjC (hc9) (cjC (hc9) (cjC (hc9) (cjC (hc10) (cjC (hc10) (cjC (hc10) (cjC (hc10) (cjC (hc10) (cjC (hc10) (cjC (hc11) (cjC (hc11) (cjC (hc11) (cj1 (hc11))))))))))))))))) (kj4 (decide (262144 < y7.to_)) rfl)
       ·rintro _ rfl
        rcases iteE hl3 with ⟨hc12,hl3⟩ | ⟨hc12,hl3⟩
        ·refine run_cT 48 (c15 45) (c15 48) j4_48 hc12 (by kernel_rfl) (by kernel_rfl) ?_
         refine run1z (c15 47) [] [2] [.i 80] ⟨[],1⟩ _ (by kernel_rfl) cj0 ?_
         replace hl3 := Option.some.inj hl3; subst hl3
         have hr := rl3 _ rfl
         subst hr
         replace hl2 := elimR hl2
         replace hl2 := Option.some.inj hl2; subst hl2
         have hr := rl2 _ rfl
         subst hr
         replace h := elimR h
         refine run_t (by kernel_rfl) ?_
         refine thenR ?_
         refine inbR ?_
         refine thenR ?_
         refine ⟨⟨_,rfl⟩,?_⟩
         refine inbR ?_
         refine inbR ?_
         refine thenR ?_
         refine ⟨⟨_,rfl⟩,?_⟩
         refine inbR ?_
         refine thenR ?_
         replace h := Option.some.inj h; subst h
         exact fin_r (by kernel_rfl) rfl
        ·refine run_cF 48 (c15 45) (c15 48) j4_48 hc12 (by kernel_rfl) (by kernel_rfl) ?_
         refine run_k (by kernel_rfl) ?_
         refine thenN ?_
         refine run0z [] [5,15,16,17,21,22,23] [.i y7.to_,v_0,v_1,.i l2_17,v_2,v_3,.i l3_23] ⟨[],1⟩ _ (by kernel_rfl) cj0 ?_
         refine inbN ?_
         refine thenN ?_
         refine run0z [] [5,15,16,17,21,22,23] [.i y7.to_,v_0,v_1,.i l2_17,v_2,v_3,.i (wr (l3_23 + 1))] ⟨[],1⟩ _ (by kernel_rfl) cj0 ?_
         replace hl3 := Option.some.inj hl3; subst hl3
         exact ⟨_,rfl,pi [],mkInto (ks := [5,15,16,17,21,22,23]) (ys := [.i y7.to_,v_0,v_1,.i l2_17,v_2,v_3,.i (wr (l3_23 + 1))]) (by kernel_rfl) (by kernel_rfl) (.k (.c rfl) (.k (.c (cleanMap _ _ (cl_SL cl_GTone))) (.k (.c rfl) (.k (.c rfl) (.k (.c (cleanMap _ _ cl_GTone)) (.k (.c rfl) (.k (.c rfl) .z))))))) .z⟩
      ·refine run_cF 24 (c15 35) (c15 36) (decide (l3_23 < (y5.length : Int))) hc6 (by kernel_rfl) (by kernel_rfl) ?_
       replace hl3 := Option.some.inj hl3; subst hl3
       have hr := rl3 _ rfl
       subst hr
       refine awp_p [15,16,17] [] (zipE [15,16,17] [v_0,v_1,.i l2_17]) ⟨[],0⟩ (by kernel_rfl) (?_)
       refine run_e 2 (by kernel_rfl) ?_
       refine thenE ?_
       refine ⟨⟨_,rfl⟩,?_⟩
       refine inbE ?_
       exact kl3 () rfl
     ·rintro ⟨⟩ rfl
      replace hl2 := elimL hl2
      refine inbN ?_
      refine thenN ?_
      refine run0z [] [15,16,17] [v_0,v_1,.i (wr (l2_17 + 1))] ⟨[],0⟩ _ (by kernel_rfl) cj0 ?_
      replace hl2 := Option.some.inj hl2; subst hl2
      exact ⟨_,rfl,pi [],mkInto (ks := [15,16,17]) (ys := [v_0,v_1,.i (wr (l2_17 + 1))]) (by kernel_rfl) (by kernel_rfl) (.k (.c (cleanMap _ _ (cl_SL cl_GTone))) (.k (.c rfl) (.k (.c rfl) .z))) .z⟩
    ·refine run_cF 18 (c15 19) (c15 20) (decide (l2_17 < (a0.length : Int))) hc4 (by kernel_rfl) (by kernel_rfl) ?_
     replace hl2 := Option.some.inj hl2; subst hl2
     have hr := rl2 _ rfl
     subst hr
     refine awp_p [] [] (zipE [] []) ⟨[],0⟩ (by kernel_rfl) (?_)
     refine run_e 0 (by kernel_rfl) ?_
     refine thenE ?_
     refine ⟨⟨_,rfl⟩,?_⟩
     refine inbE ?_
     exact kl2 () rfl
   ·rintro ⟨⟩ rfl
    replace h := elimL h
    refine thenN ?_
    refine run1z (c15 54) [] [2] [.i 0] ⟨[],0⟩ _ (by kernel_rfl) cj0 ?_
    refine run_t (by kernel_rfl) ?_
    replace h := Option.some.inj h; subst h
    exact fin_r (by kernel_rfl) rfl
def f37 (a0 : GInstrument) (a1 : GCourse) : Option Int := ((bif (decide (0 < a1.frets)) then ((ix a0.steps (wr (a1.frets - 1))).bind fun y2 => some (wr (a1.pitch + y2))) else (some a1.pitch)) : Option Int).bind fun (j1_5 : Int) => ((bif a1.octave then (some (wr (j1_5 + 12))) else (some j1_5)) : Option Int).bind fun (j2_5 : Int) => some j2_5
theorem f37_ok (a0 : GInstrument) (a1 : GCourse) (r : Int) (h : f37 a0 a1 = some r) : APure Try.prog 37 [E_GInstrument a0,E_GCourse a1] (.i r) := by
 refine apure (clK (cl_GInstrument a0) (clK (cl_GCourse a1) clZ)) rfl ?_
 refine run_f 25 [.tmp 4] (c37 0) (zipE [0,1] [E_GInstrument a0,E_GCourse a1]) (by kernel_rfl) (by kernel_rfl) (by kernel_rfl) rfl ?_
 unfold f37 at h
 let b_0 : Blk := .cells 2 [E_GInstrument a0]
 let b_1 : Blk := .cells 3 [E_GCourse a1]
 let s_0 : St := ⟨[(1,b_1),(0,b_0)],2⟩
 refine run1z (c37 2) [] [2,3] [.mp 0 0 0,.mp 1 0 0] s_0 _ (by kernel_rfl) cj0 ?_
 refine run1z (c37 4) [] [2,3,5] [.mp 0 0 0,.mp 1 0 0,.i a1.pitch] s_0 _ (by kernel_rfl) cj0 ?_
 obtain ⟨j1_5,hj1,h⟩ := bindE h
 refine run_jq (c37 5) (c37 10) (fun (j1_5 : Int) => (zipE [3,5] [.mp 1 0 0,.i j1_5])) (fun (j1_5 : Int) => ⟨[(1,b_1)],2⟩) (fun j => j1_5 = j) (by kernel_rfl) (fun kj1 => ?_) ?_
 ·refine run1z (c37 7) [] [2,3,5,10] [.mp 0 0 0,.mp 1 0 0,.i a1.pitch,.bool (decide (0 < a1.frets))] s_0 _ (by kernel_rfl) cj0 ?_
  rcases iteE hj1 with ⟨hc1,hj1⟩ | ⟨hc1,hj1⟩
  ·refine run_cT 10 (c37 8) (c37 9) (decide (0 < a1.frets)) hc1 (by kernel_rfl) (by kernel_rfl) ?_
   obtain ⟨y2,hy2,hj1⟩ := bindE hj1
   refine run0z [{},{},{},{},{},{},{ k := 1,x := AV.i y2 }] [3,5] [.mp 1 0 0,.i (wr (a1.pitch + y2))] ⟨[(1,b_1)],2⟩ _ (by kernel_rfl) (cjC ((ixE hy2).1) (cj1 (mapGet AV.i (ixE hy2).2))) ?_
   replace hj1 := Option.some.inj hj1; subst hj1
   refine thenN ?_
   exact kj1 (wr (a1.pitch + y2)) rfl
  ·refine run_cF 10 (c37 8) (c37 9) (decide (0 < a1.frets)) hc1 (by kernel_rfl) (by kernel_rfl) ?_
   replace hj1 := Option.some.inj hj1; subst hj1
   refine awp_p [3,5] [1] (zipE [3,5] [.mp 1 0 0,.i a1.pitch]) ⟨[(1,b_1)],2⟩ (by kernel_rfl) (?_)
   refine run_k (by kernel_rfl) ?_
   refine thenN ?_
   exact kj1 a1.pitch rfl
 ·rintro _ rfl
  obtain ⟨j2_5,hj2,h⟩ := bindE h
  refine run_jq (c37 11) (c37 16) (fun (j2_5 : Int) => (zipE [5] [.i j2_5])) (fun (j2_5 : Int) => ⟨[],2⟩) (fun j => j2_5 = j) (by kernel_rfl) (fun kj2 => ?_) ?_
  ·refine run1z (c37 13) [] [5,21] [.i j1_5,.bool a1.octave] ⟨[],2⟩ _ (by kernel_rfl) cj0 ?_
   rcases iteE hj2 with ⟨hc3,hj2⟩ | ⟨hc3,hj2⟩
   ·refine run_cT 21 (c37 14) (c37 15) a1.octave hc3 (by kernel_rfl) (by kernel_rfl) ?_
    refine run0z [] [5] [.i (wr (j1_5 + 12))] ⟨[],2⟩ _ (by kernel_rfl) cj0 ?_
    replace hj2 := Option.some.inj hj2; subst hj2
    refine thenN ?_
    exact kj2 (wr (j1_5 + 12)) rfl
   ·refine run_cF 21 (c37 14) (c37 15) a1.octave hc3 (by kernel_rfl) (by kernel_rfl) ?_
    replace hj2 := Option.some.inj hj2; subst hj2
    refine awp_p [5] [] (zipE [5] [.i j1_5]) ⟨[],2⟩ (by kernel_rfl) (?_)
    refine run_k (by kernel_rfl) ?_
    refine thenN ?_
    exact kj2 j1_5 rfl
  ·rintro _ rfl
   refine run1z (c37 18) [] [4] [.i j2_5] ⟨[],2⟩ _ (by kernel_rfl) cj0 ?_
   refine run_t (by kernel_rfl) ?_
   replace h := Option.some.inj h; subst h
   exact fin_r (by kernel_rfl) rfl
def f16 (a0 : GInstrument) : Option Int := ((bif (decide (14 < (a0.courses.length : Int))) then (some true) else (some (decide (18 < (a0.steps.length : Int))))) : Option Bool).bind fun (j1_17 : Bool) => bif j1_17 then (some 2) else (bif (decide ((a0.courses.length : Int) = 0)) then (some 11) else ((loopN (σ := (Int × Int)) (τ := (Unit ⊕ Int)) (fun ((l2_3,l2_25) : (Int × Int)) => bif (decide (l2_25 < (a0.steps.length : Int))) then ((ix a0.steps l2_25).bind fun y5 => ((bif (decide (y5 ≤ l2_3)) then (some true) else (some (decide (127 < y5)))) : Option Bool).bind fun (j3_35 : Bool) => bif j3_35 then (some (.inr (.inr 11))) else (some (.inl (y5,(wr (l2_25 + 1)))))) else (some (.inr (.inl ())))) FUEL (0,0)).bind (Sum.elim (fun (_ : Unit) => (loopN (σ := Int) (τ := (Unit ⊕ Int)) (fun (l4_41 : Int) => bif (decide (l4_41 < (a0.courses.length : Int))) then ((ix a0.courses l4_41).bind fun y9 => ((bif (decide (y9.frets < 0)) then (some true) else (some (decide ((a0.steps.length : Int) < y9.frets)))) : Option Bool).bind fun (j5_55 : Bool) => bif j5_55 then (some (.inr (.inr 13))) else (((bif (decide (y9.pitch < 0)) then (some true) else (bif (decide (127 < y9.pitch)) then (some true) else ((f37 a0 y9).bind fun r14 => some (decide (127 < r14))))) : Option Bool).bind fun (j6_69 : Bool) => bif j6_69 then (some (.inr (.inr 10))) else (some (.inl (wr (l4_41 + 1)))))) else (some (.inr (.inl ())))) FUEL 0).bind (Sum.elim (fun (_ : Unit) => some 0) some)) some)))
theorem f16_ok (a0 : GInstrument) (r : Int) (h : f16 a0 = some r) : APure Try.prog 16 [E_GInstrument a0] (.i r) := by
 refine apure (clK (cl_GInstrument a0) clZ) rfl ?_
 refine run_f 71 [.tmp 2] (c16 0) (zipE [0] [E_GInstrument a0]) (by kernel_rfl) (by kernel_rfl) (by kernel_rfl) rfl ?_
 unfold f16 at h
 let b_0 : Blk := .cells 2 [E_GInstrument a0]
 refine run1z (c16 2) [] [1] [.mp 0 0 0] ⟨[(0,b_0)],1⟩ _ (by kernel_rfl) cj0 ?_
 refine run_s (c16 3) (c16 10) (by kernel_rfl) ?_
 obtain ⟨j1_17,hj1,h⟩ := bindE h
 refine run_gq (c16 5) (fun (j1_17 : Bool) => (zipE [1,17] [.mp 0 0 0,.bool j1_17])) (fun (j1_17 : Bool) => ⟨[(0,b_0)],1⟩) (fun j => j1_17 = j) (fun kj1 => ?_) ?_
 ·rcases iteE hj1 with ⟨hc1,hj1⟩ | ⟨hc1,hj1⟩
  ·replace hj1 := Option.some.inj hj1; subst hj1
   exact run1z (c16 5) [{},{},{ k := 1,n := a0.courses.length },{},{},{ g := false },{ g := false },{ g := false },{ g := false },{ k := 1,b := true }] [1,17] [.mp 0 0 0,.bool true] ⟨[(0,b_0)],1⟩ _ (by kernel_rfl) (cjC (mapLen a0.courses E_GCourse) (cjC (hc1) (cjC (hc1) (cjC (hc1) (cjC (hc1) (cj1 (hc1))))))) (kj1 true rfl)
  ·replace hj1 := Option.some.inj hj1; subst hj1
   exact run1z (c16 5) [{},{},{ k := 1,n := a0.courses.length },{},{},{},{},{ k := 1,n := a0.steps.length },{},{ k := 1,b := false }] [1,17] [.mp 0 0 0,.bool (decide (18 < (a0.steps.length : Int)))] ⟨[(0,b_0)],1⟩ _ (by kernel_rfl) (cjC (mapLen a0.courses E_GCourse) (cjC (hc1) (cjC (hc1) (cjC (hc1) (cjC (mapLen a0.steps AV.i) (cjC (hc1) (cj1 (hc1)))))))) (kj1 (decide (18 < (a0.steps.length : Int))) rfl)
 ·rintro _ rfl
  rcases iteE h with ⟨hc2,h⟩ | ⟨hc2,h⟩
  ·refine run_cT 17 (c16 6) (c16 9) j1_17 hc2 (by kernel_rfl) (by kernel_rfl) ?_
   refine run1z (c16 8) [] [2] [.i 2] ⟨[],1⟩ _ (by kernel_rfl) cj0 ?_
   refine run_t (by kernel_rfl) ?_
   refine thenR ?_
   replace h := Option.some.inj h; subst h
   exact fin_r (by kernel_rfl) rfl
  ·refine run_cF 17 (c16 6) (c16 9) j1_17 hc2 (by kernel_rfl) (by kernel_rfl) ?_
   refine run_k (by kernel_rfl) ?_
   refine thenN ?_
   refine run_s (c16 11) (c16 18) (by kernel_rfl) ?_
   refine run1z (c16 13) [{},{},{ k := 1,n := a0.courses.length }] [1,21] [.mp 0 0 0,.bool (decide ((a0.courses.length : Int) = 0))] ⟨[(0,b_0)],1⟩ _ (by kernel_rfl) (cj1 (mapLen a0.courses E_GCourse)) ?_
   rcases iteE h with ⟨hc3,h⟩ | ⟨hc3,h⟩
   ·refine run_cT 21 (c16 14) (c16 17) (decide ((a0.courses.length : Int) = 0)) hc3 (by kernel_rfl) (by kernel_rfl) ?_
    refine run1z (c16 16) [] [2] [.i 11] ⟨[],1⟩ _ (by kernel_rfl) cj0 ?_
    refine run_t (by kernel_rfl) ?_
    refine thenR ?_
    replace h := Option.some.inj h; subst h
    exact fin_r (by kernel_rfl) rfl
   ·refine run_cF 21 (c16 14) (c16 17) (decide ((a0.courses.length : Int) = 0)) hc3 (by kernel_rfl) (by kernel_rfl) ?_
    refine run_k (by kernel_rfl) ?_
    refine thenN ?_
    refine run1z (c16 20) [] [1,3] [.mp 0 0 0,.i 0] ⟨[(0,b_0)],1⟩ _ (by kernel_rfl) cj0 ?_
    refine run_s (c16 21) (c16 45) (by kernel_rfl) ?_
    let v_0 : AV := .sl false (a0.steps.map AV.i)
    let v_1 : AV := .i (a0.steps.length : Int)
    refine run1z (c16 23) [{},{},{ k := 1,n := a0.steps.length }] [1,3,23,24,25] [.mp 0 0 0,.i 0,v_0,v_1,.i 0] ⟨[(0,b_0)],1⟩ _ (by kernel_rfl) (cj1 (mapLen a0.steps AV.i)) ?_
    obtain ⟨ol2x,hll2x,h⟩ := bindE h
    refine run_tq (fun (_ : Unit) => (zipE [1] [.mp 0 0 0])) (fun (_ : Unit) => ⟨[(0,b_0)],1⟩) (fun j => ol2x = .inl j) (fun kl2 => ?_) ?_
    ·refine run_b 0 (c16 24) (by kernel_rfl) ?_
     refine run_l (c16 25) _ hll2x (fun ((l2_3,l2_25) : (Int × Int)) => (zipE [1,3,23,24,25] [.mp 0 0 0,.i l2_3,v_0,v_1,.i l2_25])) (fun ((l2_3,l2_25) : (Int × Int)) => ⟨[(0,b_0)],1⟩) [] (by intro i e; cases e <;> exact Nat.le_of_ble_eq_true rfl) (by kernel_rfl) (mkInto (ks := [1,3,23,24,25]) (ys := [.mp 0 0 0,.i 0,v_0,v_1,.i 0]) (by kernel_rfl) (by kernel_rfl) (.k (.mp rfl rfl) (.k (.c rfl) (.k (.c (cleanMap _ _ cl_i)) (.k (.c rfl) (.k (.c rfl) .z))))) (.k rfl (.cells (.k (.c (cl_GInstrument a0)) .z)) .z)) ?_
     rintro ⟨l2_3,l2_25⟩ out hl2 rl2
     refine run1z (c16 27) [] [1,3,23,24,25,26] [.mp 0 0 0,.i l2_3,v_0,v_1,.i l2_25,.bool (decide (l2_25 < (a0.steps.length : Int)))] ⟨[(0,b_0)],1⟩ _ (by kernel_rfl) cj0 ?_
     refine run_s (c16 28) (c16 31) (by kernel_rfl) ?_
     rcases iteE hl2 with ⟨hc4,hl2⟩ | ⟨hc4,hl2⟩
     ·refine run_cT 26 (c16 29) (c16 30) (decide (l2_25 < (a0.steps.length : Int))) hc4 (by kernel_rfl) (by kernel_rfl) ?_
      refine run_k (by kernel_rfl) ?_
      refine thenN ?_
      refine run_s (c16 32) (c16 44) (by kernel_rfl) ?_
      refine run_b 1 (c16 33) (by kernel_rfl) ?_
      obtain ⟨y5,hy5,hl2⟩ := bindE hl2
      refine run1z (c16 35) [{ k := 1,x := AV.i y5 }] [1,3,5,23,24,25] [.mp 0 0 0,.i l2_3,.i y5,v_0,v_1,.i l2_25] ⟨[(0,b_0)],1⟩ _ (by kernel_rfl) (cjC ((ixE hy5).1) (cj1 (mapGet AV.i (ixE hy5).2))) ?_
      refine run_s (c16 36) (c16 43) (by kernel_rfl) ?_
      obtain ⟨j3_35,hj3,hl2⟩ := bindE hl2
      refine run_gq (c16 38) (fun (j3_35 : Bool) => (zipE [1,5,23,24,25,35] [.mp 0 0 0,.i y5,v_0,v_1,.i l2_25,.bool j3_35])) (fun (j3_35 : Bool) => ⟨[(0,b_0)],1⟩) (fun j => j3_35 = j) (fun kj3 => ?_) ?_
      ·rcases iteE hj3 with ⟨hc6,hj3⟩ | ⟨hc6,hj3⟩
       ·replace hj3 := Option.some.inj hj3; subst hj3
        exact run1z (c16 38) [{},{},{},{},{ g := false },{ g := false },{ k := 1,b := true }] [1,5,23,24,25,35] [.mp 0 0 0,.i y5,v_0,v_1,.i l2_25,.bool true] ⟨[(0,b_0)],1⟩ _ (by kernel_rfl) (cjC (hc6) (cjC (hc6) (cj1 (hc6)))) (kj3 true rfl)
       ·replace hj3 := Option.some.inj hj3; subst hj3
        exact run1z (c16 38) [{},{},{},{},{},{},{ k := 1,b := false }] [1,5,23,24,25,35] [.mp 0 0 0,.i y5,v_0,v_1,.i l2_25,.bool (decide (127 < y5))] ⟨[(0,b_0)],1⟩ _ (by kernel_rfl) (cjC (hc6) (cjC (hc6) (cj1 (hc6)))) (kj3 (decide (127 < y5)) rfl)
      ·rintro _ rfl
       rcases iteE hl2 with ⟨hc7,hl2⟩ | ⟨hc7,hl2⟩
       ·refine run_cT 35 (c16 39) (c16 42) j3_35 hc7 (by kernel_rfl) (by kernel_rfl) ?_
        refine run1z (c16 41) [] [2] [.i 11] ⟨[],1⟩ _ (by kernel_rfl) cj0 ?_
        replace hl2 := Option.some.inj hl2; subst hl2
        have hr := rl2 _ rfl
        subst hr
        replace h := elimR h
        refine run_t (by kernel_rfl) ?_
        refine thenR ?_
        refine inbR ?_
        refine thenR ?_
        refine ⟨⟨_,rfl⟩,?_⟩
        refine inbR ?_
        refine thenR ?_
        replace h := Option.some.inj h; subst h
        exact fin_r (by kernel_rfl) rfl
       ·refine run_cF 35 (c16 39) (c16 42) j3_35 hc7 (by kernel_rfl) (by kernel_rfl) ?_
        refine run_k (by kernel_rfl) ?_
        refine thenN ?_
        refine run0z [] [1,3,23,24,25] [.mp 0 0 0,.i y5,v_0,v_1,.i l2_25] ⟨[(0,b_0)],1⟩ _ (by kernel_rfl) cj0 ?_
        refine inbN ?_
        refine thenN ?_
        refine run0z [] [1,3,23,24,25] [.mp 0 0 0,.i y5,v_0,v_1,.i (wr (l2_25 + 1))] ⟨[(0,b_0)],1⟩ _ (by kernel_rfl) cj0 ?_
        replace hl2 := Option.some.inj hl2; subst hl2
        exact ⟨_,rfl,pi [],mkInto (ks := [1,3,23,24,25]) (ys := [.mp 0 0 0,.i y5,v_0,v_1,.i (wr (l2_25 + 1))]) (by kernel_rfl) (by kernel_rfl) (.k (.mp rfl rfl) (.k (.c rfl) (.k (.c (cleanMap _ _ cl_i)) (.k (.c rfl) (.k (.c rfl) .z))))) (.k rfl (.cells (.k (.c (cl_GInstrument a0)) .z)) .z)⟩
     ·refine run_cF 26 (c16 29) (c16 30) (decide (l2_25 < (a0.steps.length : Int))) hc4 (by kernel_rfl) (by kernel_rfl) ?_
      replace hl2 := Option.some.inj hl2; subst hl2
      have hr := rl2 _ rfl
      subst hr
      refine awp_p [1] [0] (zipE [1] [.mp 0 0 0]) ⟨[(0,b_0)],1⟩ (by kernel_rfl) (?_)
      refine run_e 0 (by kernel_rfl) ?_
      refine thenE ?_
      refine ⟨⟨_,rfl⟩,?_⟩
      refine inbE ?_
      exact kl2 () rfl
    ·rintro ⟨⟩ rfl
     replace h := elimL h
     refine thenN ?_
     refine run_s (c16 46) (c16 76) (by kernel_rfl) ?_
     let v_2 : AV := .sl false (a0.courses.map E_GCourse)
     let v_3 : AV := .i (a0.courses.length : Int)
     refine run1z (c16 48) [{},{},{ k := 1,n := a0.courses.length }] [1,39,40,41] [.mp 0 0 0,v_2,v_3,.i 0] ⟨[(0,b_0)],1⟩ _ (by kernel_rfl) (cj1 (mapLen a0.courses E_GCourse)) ?_
     obtain ⟨ol4x,hll4x,h⟩ := bindE h
     refine run_tq (fun (_ : Unit) => (zipE [] [])) (fun (_ : Unit) => ⟨[],1⟩) (fun j => ol4x = .inl j) (fun kl4 => ?_) ?_
     ·refine run_b 2 (c16 49) (by kernel_rfl) ?_
      refine run_l (c16 50) _ hll4x (fun (l4_41 : Int) => (zipE [1,39,40,41] [.mp 0 0 0,v_2,v_3,.i l4_41])) (fun (l4_41 : Int) => ⟨[(0,b_0)],1⟩) [] (by intro i e; cases e <;> exact Nat.le_of_ble_eq_true rfl) (by kernel_rfl) (mkInto (ks := [1,39,40,41]) (ys := [.mp 0 0 0,v_2,v_3,.i 0]) (by kernel_rfl) (by kernel_rfl) (.k (.mp rfl rfl) (.k (.c (cleanMap _ _ cl_GCourse)) (.k (.c rfl) (.k (.c rfl) .z)))) (.k rfl (.cells (.k (.c (cl_GInstrument a0)) .z)) .z)) ?_
      rintro l4_41 out hl4 rl4
      refine run1z (c16 52) [] [1,39,40,41,42] [.mp 0 0 0,v_2,v_3,.i l4_41,.bool (decide (l4_41 < (a0.courses.length : Int)))] ⟨[(0,b_0)],1⟩ _ (by kernel_rfl) cj0 ?_
      refine run_s (c16 53) (c16 56) (by kernel_rfl) ?_
      rcases iteE hl4 with ⟨hc8,hl4⟩ | ⟨hc8,hl4⟩
      ·refine run_cT 42 (c16 54) (c16 55) (decide (l4_41 < (a0.courses.length : Int))) hc8 (by kernel_rfl) (by kernel_rfl) ?_
       refine run_k (by kernel_rfl) ?_
       refine thenN ?_
       refine run_s (c16 57) (c16 75) (by kernel_rfl) ?_
       refine run_b 3 (c16 58) (by kernel_rfl) ?_
       obtain ⟨y9,hy9,hl4⟩ := bindE hl4
       let b_1 : Blk := .cells 3 [E_GCourse y9]
       let s_0 : St := ⟨[(1,b_1),(0,b_0)],2⟩
       refine run1z (c16 60) [{ k := 1,x := E_GCourse y9 }] [1,7,39,40,41] [.mp 0 0 0,.mp 1 0 0,v_2,v_3,.i l4_41] s_0 _ (by kernel_rfl) (cjC ((ixE hy9).1) (cj1 (mapGet E_GCourse (ixE hy9).2))) ?_
       refine run_s (c16 61) (c16 68) (by kernel_rfl) ?_
       obtain ⟨j5_55,hj5,hl4⟩ := bindE hl4
       refine run_gq (c16 63) (fun (j5_55 : Bool) => (zipE [1,7,39,40,41,55] [.mp 0 0 0,.mp 1 0 0,v_2,v_3,.i l4_41,.bool j5_55])) (fun (j5_55 : Bool) => s_0) (fun j => j5_55 = j) (fun kj5 => ?_) ?_
       ·rcases iteE hj5 with ⟨hc10,hj5⟩ | ⟨hc10,hj5⟩
        ·replace hj5 := Option.some.inj hj5; subst hj5
         exact run1z (c16 63) [{},{},{},{},{ g := false },{ g := false },{ g := false },{ g := false },{ g := false },{ g := false },{ k := 1,b := true }] [1,7,39,40,41,55] [.mp 0 0 0,.mp 1 0 0,v_2,v_3,.i l4_41,.bool true] s_0 _ (by kernel_rfl) (cjC (hc10) (cjC (hc10) (cjC (hc10) (cjC (hc10) (cjC (hc10) (cjC (hc10) (cj1 (hc10)))))))) (kj5 true rfl)
        ·replace hj5 := Option.some.inj hj5; subst hj5
         exact run1z (c16 63) [{},{},{},{},{},{},{},{},{ k := 1,n := a0.steps.length },{},{ k := 1,b := false }] [1,7,39,40,41,55] [.mp 0 0 0,.mp 1 0 0,v_2,v_3,.i l4_41,.bool (decide ((a0.steps.length : Int) < y9.frets))] s_0 _ (by kernel_rfl) (cjC (hc10) (cjC (hc10) (cjC (hc10) (cjC (hc10) (cjC (hc10) (cjC (mapLen a0.steps AV.i) (cjC (hc10) (cj1 (hc10))))))))) (kj5 (decide ((a0.steps.length : Int) < y9.frets)) rfl)
       ·rintro _ rfl
        rcases iteE hl4 with ⟨hc11,hl4⟩ | ⟨hc11,hl4⟩
        ·refine run_cT 55 (c16 64) (c16 67) j5_55 hc11 (by kernel_rfl) (by kernel_rfl) ?_
         refine run1z (c16 66) [] [2] [.i 13] ⟨[],2⟩ _ (by kernel_rfl) cj0 ?_
         replace hl4 := Option.some.inj hl4; subst hl4
         have hr := rl4 _ rfl
         subst hr
         replace h := elimR h
         refine run_t (by kernel_rfl) ?_
         refine thenR ?_
         refine inbR ?_
         refine thenR ?_
         refine ⟨⟨_,rfl⟩,?_⟩
         refine inbR ?_
         refine thenR ?_
         replace h := Option.some.inj h; subst h
         exact fin_r (by kernel_rfl) rfl
        ·refine run_cF 55 (c16 64) (c16 67) j5_55 hc11 (by kernel_rfl) (by kernel_rfl) ?_
         refine run_k (by kernel_rfl) ?_
         refine thenN ?_
         obtain ⟨j6_69,hj6,hl4⟩ := bindE hl4
         refine run_gq (c16 70) (fun (j6_69 : Bool) => (zipE [1,39,40,41,69] [.mp 0 0 0,v_2,v_3,.i l4_41,.bool j6_69])) (fun (j6_69 : Bool) => ⟨[(0,b_0)],2⟩) (fun j => j6_69 = j) (fun kj6 => ?_) ?_
         ·rcases iteE hj6 with ⟨hc12,hj6⟩ | ⟨hc12,hj6⟩
          ·replace hj6 := Option.some.inj hj6; subst hj6
           exact run1z (c16 70) [{},{},{},{},{ g := false },{ g := false },{ g := false },{ k := 1,b := true },{},{ g := false },{ g := false },{ g := false },{ g := false }] [1,39,40,41,69] [.mp 0 0 0,v_2,v_3,.i l4_41,.bool true] ⟨[(0,b_0)],2⟩ _ (by kernel_rfl) (cjC (hc12) (cjC (hc12) (cjC (hc12) (cjC (hc12) (cjC (Eq.refl true) (cjC (Eq.refl true) (cjC (Eq.refl true) (cj1 (Eq.refl true))))))))) (kj6 true rfl)
          ·rcases iteE hj6 with ⟨hc13,hj6⟩ | ⟨hc13,hj6⟩
           ·replace hj6 := Option.some.inj hj6; subst hj6
            exact run1z (c16 70) [{},{},{},{},{},{},{},{ k := 1,b := false },{},{ g := false },{ g := false },{ g := false },{ g := false },{ k := 1,b := true }] [1,39,40,41,69] [.mp 0 0 0,v_2,v_3,.i l4_41,.bool true] ⟨[(0,b_0)],2⟩ _ (by kernel_rfl) (cjC (hc12) (cjC (hc12) (cjC (hc12) (cjC (hc12) (cjC (hc13) (cjC (hc13) (cjC (hc13) (cjC (hc13) (cj1 (hc13)))))))))) (kj6 true rfl)
           ·obtain ⟨r14,hr14,hj6⟩ := bindE hj6
            replace hj6 := Option.some.inj hj6; subst hj6
            exact run1z (c16 70) [{},{},{},{},{},{},{},{ k := 1,b := false },{},{},{},{ c := some (.i r14,s_0) },{},{ k := 1,b := false }] [1,39,40,41,69] [.mp 0 0 0,v_2,v_3,.i l4_41,.bool (decide (127 < r14))] ⟨[(0,b_0)],2⟩ _ (by kernel_rfl) (cjC (hc12) (cjC (hc12) (cjC (hc12) (cjC (hc12) (cjC (hc13) (cjC (hc13) (cjC (hc13) (cjC (f37_ok a0 y9 _ hr14 s_0) (cjC (hc13) (cj1 (hc13))))))))))) (kj6 (decide (127 < r14)) rfl)
         ·rintro _ rfl
          rcases iteE hl4 with ⟨hc15,hl4⟩ | ⟨hc15,hl4⟩
          ·refine run_cT 69 (c16 71) (c16 74) j6_69 hc15 (by kernel_rfl) (by kernel_rfl) ?_
           refine run1z (c16 73) [] [2] [.i 10] ⟨[],2⟩ _ (by kernel_rfl) cj0 ?_
           replace hl4 := Option.some.inj hl4; subst hl4
           have hr := rl4 _ rfl
           subst hr
           replace h := elimR h
           refine run_t (by kernel_rfl) ?_
           refine inbR ?_
           refine thenR ?_
           refine ⟨⟨_,rfl⟩,?_⟩
           refine inbR ?_
           refine thenR ?_
           replace h := Option.some.inj h; subst h
           exact fin_r (by kernel_rfl) rfl
          ·refine run_cF 69 (c16 71) (c16 74) j6_69 hc15 (by kernel_rfl) (by kernel_rfl) ?_
           refine run_k (by kernel_rfl) ?_
           refine inbN ?_
           refine thenN ?_
           refine run0z [] [1,39,40,41] [.mp 0 0 0,v_2,v_3,.i (wr (l4_41 + 1))] ⟨[(0,b_0)],2⟩ _ (by kernel_rfl) cj0 ?_
           replace hl4 := Option.some.inj hl4; subst hl4
           exact ⟨_,rfl,pi [],mkInto (ks := [1,39,40,41]) (ys := [.mp 0 0 0,v_2,v_3,.i (wr (l4_41 + 1))]) (by kernel_rfl) (by kernel_rfl) (.k (.mp rfl rfl) (.k (.c (cleanMap _ _ cl_GCourse)) (.k (.c rfl) (.k (.c rfl) .z)))) (.k rfl (.cells (.k (.c (cl_GInstrument a0)) .z)) .z)⟩
      ·refine run_cF 42 (c16 54) (c16 55) (decide (l4_41 < (a0.courses.length : Int))) hc8 (by kernel_rfl) (by kernel_rfl) ?_
       replace hl4 := Option.some.inj hl4; subst hl4
       have hr := rl4 _ rfl
       subst hr
       refine awp_p [] [] (zipE [] []) ⟨[],1⟩ (by kernel_rfl) (?_)
       refine run_e 2 (by kernel_rfl) ?_
       refine thenE ?_
       refine ⟨⟨_,rfl⟩,?_⟩
       refine inbE ?_
       exact kl4 () rfl
     ·rintro ⟨⟩ rfl
      replace h := elimL h
      refine thenN ?_
      refine run1z (c16 78) [] [2] [.i 0] ⟨[],1⟩ _ (by kernel_rfl) cj0 ?_
      refine run_t (by kernel_rfl) ?_
      replace h := Option.some.inj h; subst h
      exact fin_r (by kernel_rfl) rfl
def f17 (a0 : Int) (a1 : Int) (a2 : Int) : Option Bool := ((bif (decide (a1 ≤ a0)) then (some (decide (a0 ≤ a2))) else (some false)) : Option Bool).bind fun (j1_6 : Bool) => some j1_6
theorem f17_ok (a0 : Int) (a1 : Int) (a2 : Int) (r : Bool) (h : f17 a0 a1 a2 = some r) : APure Try.prog 17 [.i a0,.i a1,.i a2] (.bool r) := by
 refine apure (clK rfl (clK rfl (clK rfl clZ))) rfl ?_
 refine run_f 15 [.tmp 6] (c17 0) (zipE [0,1,2] [.i a0,.i a1,.i a2]) (by kernel_rfl) (by kernel_rfl) (by kernel_rfl) rfl ?_
 unfold f17 at h
 refine run1z (c17 2) [] [0,1,2] [.i a0,.i a1,.i a2] ⟨[],0⟩ _ (by kernel_rfl) cj0 ?_
 obtain ⟨j1_6,hj1,h⟩ := bindE h
 refine run_gq (c17 4) (fun (j1_6 : Bool) => (zipE [6] [.bool j1_6])) (fun (j1_6 : Bool) => ⟨[],0⟩) (fun j => j1_6 = j) (fun kj1 => ?_) ?_
 ·rcases iteE hj1 with ⟨hc1,hj1⟩ | ⟨hc1,hj1⟩
  ·replace hj1 := Option.some.inj hj1; subst hj1
   exact run1z (c17 4) [{},{},{},{},{},{},{},{ k := 1,b := true }] [6] [.bool (decide (a0 ≤ a2))] ⟨[],0⟩ _ (by kernel_rfl) (cjC (hc1) (cjC (hc1) (cjC (hc1) (cj1 (hc1))))) (kj1 (decide (a0 ≤ a2)) rfl)
  ·replace hj1 := Option.some.inj hj1; subst hj1
   exact run1z (c17 4) [{},{},{},{},{ g := false },{ g := false },{ g := false },{ k := 1,b := false }] [6] [.bool false] ⟨[],0⟩ _ (by kernel_rfl) (cjC (hc1) (cjC (hc1) (cjC (hc1) (cj1 (hc1))))) (kj1 false rfl)
 ·rintro _ rfl
  refine run_t (by kernel_rfl) ?_
  replace h := Option.some.inj h; subst h
  exact fin_r (by kernel_rfl) rfl
def f38 (a0 : List (List GTone)) (a1 : GInstrument) : Option Int := (f15 a0).bind fun r1 => bif (decide (r1 ≠ 0)) then (some r1) else ((f16 a1).bind fun r3 => some r3)
theorem f38_ok (a0 : List (List GTone)) (a1 : GInstrument) (r : Int) (h : f38 a0 a1 = some r) : APure Try.prog 38 [.sl false (a0.map (SL E_GTone)),E_GInstrument a1] (.i r) := by
 refine apure (clK (cleanMap a0 _ (cl_SL cl_GTone)) (clK (cl_GInstrument a1) clZ)) rfl ?_
 let v_0 : AV := .sl false (a0.map (SL E_GTone))
 refine run_f 13 [.tmp 4] (c38 0) (zipE [0,1] [v_0,E_GInstrument a1]) (by kernel_rfl) (by kernel_rfl) (by kernel_rfl) rfl ?_
 unfold f38 at h
 let b_0 : Blk := .cells 2 [E_GInstrument a1]
 refine run1z (c38 2) [] [0,3] [v_0,.mp 0 0 0] ⟨[(0,b_0)],1⟩ _ (by kernel_rfl) cj0 ?_
 refine run_s (c38 3) (c38 12) (by kernel_rfl) ?_
 obtain ⟨r1,hr1,h⟩ := bindE h
 refine run1z (c38 5) [{},{ c := some (.i r1,⟨[(0,b_0)],1⟩) }] [3,5] [.mp 0 0 0,.i r1] ⟨[(0,b_0)],1⟩ _ (by kernel_rfl) (cj1 (f15_ok a0 _ hr1 ⟨[(0,b_0)],1⟩)) ?_
 refine run1z (c38 7) [] [3,5,9] [.mp 0 0 0,.i r1,.bool (decide (r1 ≠ 0))] ⟨[(0,b_0)],1⟩ _ (by kernel_rfl) cj0 ?_
 rcases iteE h with ⟨hc2,h⟩ | ⟨hc2,h⟩
 ·refine run_cT 9 (c38 8) (c38 11) (decide (r1 ≠ 0)) hc2 (by kernel_rfl) (by kernel_rfl) ?_
  refine run1z (c38 10) [] [4] [.i r1] ⟨[],1⟩ _ (by kernel_rfl) cj0 ?_
  refine run_t (by kernel_rfl) ?_
  refine thenR ?_
  replace h := Option.some.inj h; subst h
  exact fin_r (by kernel_rfl) rfl
 ·refine run_cF 9 (c38 8) (c38 11) (decide (r1 ≠ 0)) hc2 (by kernel_rfl) (by kernel_rfl) ?_
  refine run_k (by kernel_rfl) ?_
  refine thenN ?_
  obtain ⟨r3,hr3,h⟩ := bindE h
  refine run1z (c38 14) [{},{ c := some (.i r3,⟨[(0,b_0)],1⟩) }] [4] [.i r3] ⟨[],1⟩ _ (by kernel_rfl) (cj1 (f16_ok a1 _ hr3 ⟨[(0,b_0)],1⟩)) ?_
  refine run_t (by kernel_rfl) ?_
  replace h := Option.some.inj h; subst h
  exact fin_r (by kernel_rfl) rfl
def f39 (a0 : Int) (a1 : Int) (a2 : Int) : Option Bool := ((bif (decide (a1 ≤ a0)) then (some (decide (a0 ≤ a2))) else (some false)) : Option Bool).bind fun (j1_6 : Bool) => some j1_6
theorem f39_ok (a0 : Int) (a1 : Int) (a2 : Int) (r : Bool) (h : f39 a0 a1 a2 = some r) : APure Try.prog 39 [.i a0,.i a1,.i a2] (.bool r) := by
 refine apure (clK rfl (clK rfl (clK rfl clZ))) rfl ?_
 refine run_f 15 [.tmp 6] (c39 0) (zipE [0,1,2] [.i a0,.i a1,.i a2]) (by kernel_rfl) (by kernel_rfl) (by kernel_rfl) rfl ?_
 unfold f39 at h
 refine run1z (c39 2) [] [0,1,2] [.i a0,.i a1,.i a2] ⟨[],0⟩ _ (by kernel_rfl) cj0 ?_
 obtain ⟨j1_6,hj1,h⟩ := bindE h
 refine run_gq (c39 4) (fun (j1_6 : Bool) => (zipE [6] [.bool j1_6])) (fun (j1_6 : Bool) => ⟨[],0⟩) (fun j => j1_6 = j) (fun kj1 => ?_) ?_
 ·rcases iteE hj1 with ⟨hc1,hj1⟩ | ⟨hc1,hj1⟩
  ·replace hj1 := Option.some.inj hj1; subst hj1
   exact run1z (c39 4) [{},{},{},{},{},{},{},{ k := 1,b := true }] [6] [.bool (decide (a0 ≤ a2))] ⟨[],0⟩ _ (by kernel_rfl) (cjC (hc1) (cjC (hc1) (cjC (hc1) (cj1 (hc1))))) (kj1 (decide (a0 ≤ a2)) rfl)
  ·replace hj1 := Option.some.inj hj1; subst hj1
   exact run1z (c39 4) [{},{},{},{},{ g := false },{ g := false },{ g := false },{ k := 1,b := false }] [6] [.bool false] ⟨[],0⟩ _ (by kernel_rfl) (cjC (hc1) (cjC (hc1) (cjC (hc1) (cj1 (hc1))))) (kj1 false rfl)
 ·rintro _ rfl
  refine run_t (by kernel_rfl) ?_
  replace h := Option.some.inj h; subst h
  exact fin_r (by kernel_rfl) rfl
def f76 (a0 : GInstrument) (a1 : GCourse) (a2 : Int) : Option Int := bif (decide (a2 = 0)) then (some a1.pitch) else ((ix a0.steps (wr (a2 - 1))).bind fun y2 => some (wr (a1.pitch + y2)))
theorem f76_ok (a0 : GInstrument) (a1 : GCourse) (a2 : Int) (r : Int) (h : f76 a0 a1 a2 = some r) : APure Try.prog 76 [E_GInstrument a0,E_GCourse a1,.i a2] (.i r) := by
 refine apure (clK (cl_GInstrument a0) (clK (cl_GCourse a1) (clK rfl clZ))) rfl ?_
 refine run_f 20 [.tmp 6] (c76 0) (zipE [0,1,2] [E_GInstrument a0,E_GCourse a1,.i a2]) (by kernel_rfl) (by kernel_rfl) (by kernel_rfl) rfl ?_
 unfold f76 at h
 let b_0 : Blk := .cells 2 [E_GInstrument a0]
 let s_0 : St := ⟨[(1,.cells 3 [E_GCourse a1]),(0,b_0)],2⟩
 refine run1z (c76 2) [] [2,3,4] [.i a2,.mp 0 0 0,.mp 1 0 0] s_0 _ (by kernel_rfl) cj0 ?_
 refine run_s (c76 3) (c76 10) (by kernel_rfl) ?_
 refine run1z (c76 5) [] [2,3,4,8] [.i a2,.mp 0 0 0,.mp 1 0 0,.bool (decide (a2 = 0))] s_0 _ (by kernel_rfl) cj0 ?_
 rcases iteE h with ⟨hc1,h⟩ | ⟨hc1,h⟩
 ·refine run_cT 8 (c76 6) (c76 9) (decide (a2 = 0)) hc1 (by kernel_rfl) (by kernel_rfl) ?_
  refine run1z (c76 8) [] [6] [.i a1.pitch] ⟨[],2⟩ _ (by kernel_rfl) cj0 ?_
  refine run_t (by kernel_rfl) ?_
  refine thenR ?_
  replace h := Option.some.inj h; subst h
  exact fin_r (by kernel_rfl) rfl
 ·refine run_cF 8 (c76 6) (c76 9) (decide (a2 = 0)) hc1 (by kernel_rfl) (by kernel_rfl) ?_
  refine run_k (by kernel_rfl) ?_
  refine thenN ?_
  obtain ⟨y2,hy2,h⟩ := bindE h
  refine yun1z (c76 12) [[],[0],[],[2],[],[4],[2,3,4,5],[2,3,4,5,6],[0,1,2,3,4,5,6,7],[0,1,2,3,4,5,6,7,8]] [.light 0 false,.light 1 false,.light 2 false,.light 3 false,.light 4 false,.light 5 false,.light 6 false,.light 7 false,.light 8 false,.light 9 false] [{},{},{},{},{},{},{ k := 1,x := AV.i y2 }] [6] [.i (wr (a1.pitch + y2))] ⟨[],2⟩ _ (by kernel_rfl) (cjC ((ixE hy2).1) (cj1 (mapGet AV.i (ixE hy2).2))) ?_
  refine run_t (by kernel_rfl) ?_
  replace h := Option.some.inj h; subst h
  exact fin_r (by kernel_rfl) rfl
def f61 (a0 : GInstrument) (a1 : Int) : Option (((List GPlace)) × Int) := (f16 a0).bind fun r1 => bif (decide (r1 ≠ 0)) then (some (([] : List GPlace),r1)) else (((bif (decide (a1 < 0)) then (some true) else (some (decide (127 < a1)))) : Option Bool).bind fun (j1_21 : Bool) => bif j1_21 then (some (([] : List GPlace),10)) else ((loopN (σ := (List GPlace × Int)) (τ := (List GPlace)) (fun ((l2_7,l2_25) : (List GPlace × Int)) => bif (decide (l2_25 < (a0.courses.length : Int))) then ((ix a0.courses l2_25).bind fun y6 => (loopN (σ := (List GPlace × Int)) (τ := (List GPlace)) (fun ((l3_7,l3_10) : (List GPlace × Int)) => bif (decide (l3_10 ≤ y6.frets)) then ((((f76 a0 y6 l3_10).bind fun r8 => bif (decide (r8 = a1)) then (need (l3_7.length + 1 ≤ maxElems) <| some (l3_7 ++ [(⟨(wr (l2_25 + 1)),l3_10⟩ : GPlace)])) else (some l3_7)) : Option (List GPlace)).bind fun (j4_7 : (List GPlace)) => some (.inl (j4_7,(wr (l3_10 + 1))))) else (some (.inr l3_7))) FUEL (l2_7,0)).bind fun (l3x_7 : (List GPlace)) => some (.inl (l3x_7,(wr (l2_25 + 1))))) else (some (.inr l2_7))) FUEL (([] : List GPlace),0)).bind fun (l2x_7 : (List GPlace)) => some (l2x_7,0)))
theorem f61_ok (a0 : GInstrument) (a1 : Int) (r : (((List GPlace)) × Int)) (h : f61 a0 a1 = some r) : APure Try.prog 61 [E_GInstrument a0,.i a1] (.tup [.sl false (r.1.map E_GPlace),.i r.2]) := by
 refine apure (clK (cl_GInstrument a0) (clK rfl clZ)) (clK (cleanMap r.1 _ cl_GPlace) (clK rfl clZ)) ?_
 refine run_f 51 [.tmp 4,.tmp 5] (c61 0) (zipE [0,1] [E_GInstrument a0,.i a1]) (by kernel_rfl) (by kernel_rfl) (by kernel_rfl) rfl ?_
 unfold f61 at h
 let b_0 : Blk := .cells 2 [E_GInstrument a0]
 refine run1z (c61 2) [] [1,2] [.i a1,.mp 0 0 0] ⟨[(0,b_0)],1⟩ _ (by kernel_rfl) cj0 ?_
 refine run_s (c61 3) (c61 12) (by kernel_rfl) ?_
 obtain ⟨r1,hr1,h⟩ := bindE h
 refine run1z (c61 5) [{},{ c := some (.i r1,⟨[(0,b_0)],1⟩) }] [1,2,6] [.i a1,.mp 0 0 0,.i r1] ⟨[(0,b_0)],1⟩ _ (by kernel_rfl) (cj1 (f16_ok a0 _ hr1 ⟨[(0,b_0)],1⟩)) ?_
 refine run1z (c61 7) [] [1,2,6,14] [.i a1,.mp 0 0 0,.i r1,.bool (decide (r1 ≠ 0))] ⟨[(0,b_0)],1⟩ _ (by kernel_rfl) cj0 ?_
 rcases iteE h with ⟨hc2,h⟩ | ⟨hc2,h⟩
 ·refine run_cT 14 (c61 8) (c61 11) (decide (r1 ≠ 0)) hc2 (by kernel_rfl) (by kernel_rfl) ?_
  refine run1z (c61 10) [] [4,5] [.sl true [],.i r1] ⟨[],1⟩ _ (by kernel_rfl) cj0 ?_
  refine run_i 1 [] [4,5] [.sl true [],.i r1] (xs := [.sl false (([] : List GPlace).map E_GPlace),.i r1]) (S2 := ⟨[],1⟩) ?_ (by intro i e; cases e <;> exact Nat.le_of_ble_eq_true rfl) (by kernel_rfl) (by kernel_rfl) (by kernel_rfl) (.k (.s (cleanMap (([] : List GPlace)) _ cl_GPlace)) (.k (.c rfl) .z)) .z
  refine run_t (by kernel_rfl) ?_
  refine thenR ?_
  replace h := Option.some.inj h; subst h
  exact fin_r (by kernel_rfl) rfl
 ·refine run_cF 14 (c61 8) (c61 11) (decide (r1 ≠ 0)) hc2 (by kernel_rfl) (by kernel_rfl) ?_
  refine run_k (by kernel_rfl) ?_
  refine thenN ?_
  refine run_s (c61 13) (c61 20) (by kernel_rfl) ?_
  obtain ⟨j1_21,hj1,h⟩ := bindE h
  refine run_gq (c61 15) (fun (j1_21 : Bool) => (zipE [1,2,21] [.i a1,.mp 0 0 0,.bool j1_21])) (fun (j1_21 : Bool) => ⟨[(0,b_0)],1⟩) (fun j => j1_21 = j) (fun kj1 => ?_) ?_
  ·rcases iteE hj1 with ⟨hc3,hj1⟩ | ⟨hc3,hj1⟩
   ·replace hj1 := Option.some.inj hj1; subst hj1
    exact run1z (c61 15) [{},{},{},{ g := false },{ g := false },{ k := 1,b := true }] [1,2,21] [.i a1,.mp 0 0 0,.bool true] ⟨[(0,b_0)],1⟩ _ (by kernel_rfl) (cjC (hc3) (cjC (hc3) (cj1 (hc3)))) (kj1 true rfl)
   ·replace hj1 := Option.some.inj hj1; subst hj1
    exact run1z (c61 15) [{},{},{},{},{},{ k := 1,b := false }] [1,2,21] [.i a1,.mp 0 0 0,.bool (decide (127 < a1))] ⟨[(0,b_0)],1⟩ _ (by kernel_rfl) (cjC (hc3) (cjC (hc3) (cj1 (hc3)))) (kj1 (decide (127 < a1)) rfl)
  ·rintro _ rfl
   rcases iteE h with ⟨hc4,h⟩ | ⟨hc4,h⟩
   ·refine run_cT 21 (c61 16) (c61 19) j1_21 hc4 (by kernel_rfl) (by kernel_rfl) ?_
    refine run1z (c61 18) [] [4,5] [.sl true [],.i 10] ⟨[],1⟩ _ (by kernel_rfl) cj0 ?_
    refine run_i 1 [] [4,5] [.sl true [],.i 10] (xs := [.sl false (([] : List GPlace).map E_GPlace),.i 10]) (S2 := ⟨[],1⟩) ?_ (by intro i e; cases e <;> exact Nat.le_of_ble_eq_true rfl) (by kernel_rfl) (by kernel_rfl) (by kernel_rfl) (.k (.s (cleanMap (([] : List GPlace)) _ cl_GPlace)) (.k (.c rfl) .z)) .z
    refine run_t (by kernel_rfl) ?_
    refine thenR ?_
    replace h := Option.some.inj h; subst h
    exact fin_r (by kernel_rfl) rfl
   ·refine run_cF 21 (c61 16) (c61 19) j1_21 hc4 (by kernel_rfl) (by kernel_rfl) ?_
    refine run_k (by kernel_rfl) ?_
    refine thenN ?_
    refine run1z (c61 22) [] [1,2,7] [.i a1,.mp 0 0 0,.sl true []] ⟨[(0,b_0)],1⟩ _ (by kernel_rfl) cj0 ?_
    refine run_s (c61 23) (c61 56) (by kernel_rfl) ?_
    let v_0 : AV := .sl false (a0.courses.map E_GCourse)
    let v_1 : AV := .i (a0.courses.length : Int)
    refine run1z (c61 25) [{},{},{ k := 1,n := a0.courses.length }] [1,2,7,23,24,25] [.i a1,.mp 0 0 0,.sl true [],v_0,v_1,.i 0] ⟨[(0,b_0)],1⟩ _ (by kernel_rfl) (cj1 (mapLen a0.courses E_GCourse)) ?_
    obtain ⟨l2x_7,hll2x,h⟩ := bindE h
    refine run_tq (fun (l2x_7 : (List GPlace)) => (zipE [7] [.ms 1 0 l2x_7.length])) (fun (l2x_7 : (List GPlace)) => ⟨[(1,.cells 2 (l2x_7.map E_GPlace))],2⟩) (fun j => l2x_7 = j) (fun kl2 => ?_) ?_
    ·refine run_b 0 (c61 26) (by kernel_rfl) ?_
     refine run_l (c61 27) _ hll2x (fun ((l2_7,l2_25) : (List GPlace × Int)) => (zipE [1,2,7,23,24,25] [.i a1,.mp 0 0 0,.ms 1 0 l2_7.length,v_0,v_1,.i l2_25])) (fun ((l2_7,l2_25) : (List GPlace × Int)) => ⟨[(1,.cells 2 (l2_7.map E_GPlace)),(0,b_0)],2⟩) [(1,1000000)] (by intro i e; cases e <;> exact Nat.le_of_ble_eq_true rfl) (by kernel_rfl) (mkInto (ks := [1,2,7,23,24,25]) (ys := [.i a1,.mp 0 0 0,.sl true [],v_0,v_1,.i 0]) (by kernel_rfl) (by kernel_rfl) (.k (.c rfl) (.k (.mp rfl rfl) (.k (.n) (.k (.c (cleanMap _ _ cl_GCourse)) (.k (.c rfl) (.k (.c rfl) .z)))))) (.n rfl rfl rfl (.k rfl (.cells (.k (.c (cl_GInstrument a0)) .z)) .z))) ?_
     rintro ⟨l2_7,l2_25⟩ out hl2 rl2
     let v_2 : AV := .ms 1 0 l2_7.length
     let b_1 : Blk := .cells 2 (l2_7.map E_GPlace)
     refine run1z (c61 29) [] [1,2,7,23,24,25,26] [.i a1,.mp 0 0 0,v_2,v_0,v_1,.i l2_25,.bool (decide (l2_25 < (a0.courses.length : Int)))] ⟨[(1,b_1),(0,b_0)],2⟩ _ (by kernel_rfl) cj0 ?_
     refine run_s (c61 30) (c61 33) (by kernel_rfl) ?_
     rcases iteE hl2 with ⟨hc5,hl2⟩ | ⟨hc5,hl2⟩
     ·refine run_cT 26 (c61 31) (c61 32) (decide (l2_25 < (a0.courses.length : Int))) hc5 (by kernel_rfl) (by kernel_rfl) ?_
      refine run_k (by kernel_rfl) ?_
      refine thenN ?_
      refine run_s (c61 34) (c61 55) (by kernel_rfl) ?_
      refine run_b 1 (c61 35) (by kernel_rfl) ?_
      obtain ⟨y6,hy6,hl2⟩ := bindE hl2
      let b_2 : Blk := .cells 3 [E_GCourse y6]
      refine run1z (c61 37) [{},{ k := 1,x := E_GCourse y6 }] [1,2,7,8,9,23,24,25] [.i a1,.mp 0 0 0,v_2,.i l2_25,.mp 2 0 0,v_0,v_1,.i l2_25] ⟨[(2,b_2),(1,b_1),(0,b_0)],3⟩ _ (by kernel_rfl) (cjC ((ixE hy6).1) (cj1 (mapGet E_GCourse (ixE hy6).2))) ?_
      refine run1z (c61 39) [] [1,2,7,8,9,10,23,24,25] [.i a1,.mp 0 0 0,v_2,.i l2_25,.mp 2 0 0,.i 0,v_0,v_1,.i l2_25] ⟨[(2,b_2),(1,b_1),(0,b_0)],3⟩ _ (by kernel_rfl) cj0 ?_
      obtain ⟨l3x_7,hll3x,hl2⟩ := bindE hl2
      refine run_tq (fun (l3x_7 : (List GPlace)) => (zipE [1,2,7,23,24,25] [.i a1,.mp 0 0 0,.ms 3 0 l3x_7.length,v_0,v_1,.i l2_25])) (fun (l3x_7 : (List GPlace)) => ⟨[(3,.cells 2 (l3x_7.map E_GPlace)),(0,b_0)],4⟩) (fun j => l3x_7 = j) (fun kl3 => ?_) ?_
      ·refine run_b 2 (c61 40) (by kernel_rfl) ?_
       refine run_l (c61 41) _ hll3x (fun ((l3_7,l3_10) : (List GPlace × Int)) => (zipE [1,2,7,8,9,10,23,24,25] [.i a1,.mp 0 0 0,.ms 3 0 l3_7.length,.i l2_25,.mp 2 0 0,.i l3_10,v_0,v_1,.i l2_25])) (fun ((l3_7,l3_10) : (List GPlace × Int)) => ⟨[(3,.cells 2 (l3_7.map E_GPlace)),(2,b_2),(0,b_0)],4⟩) [(3,1)] (by intro i e; cases e <;> exact Nat.le_of_ble_eq_true rfl) (by kernel_rfl) (mkInto (ks := [1,2,7,8,9,10,23,24,25]) (ys := [.i a1,.mp 0 0 0,v_2,.i l2_25,.mp 2 0 0,.i 0,v_0,v_1,.i l2_25]) (by kernel_rfl) (by kernel_rfl) (.k (.c rfl) (.k (.mp rfl rfl) (.k (.ms rfl rfl) (.k (.c rfl) (.k (.mp rfl rfl) (.k (.c rfl) (.k (.c (cleanMap _ _ cl_GCourse)) (.k (.c rfl) (.k (.c rfl) .z))))))))) (.k rfl (.cells (.r (cleanMap _ _ cl_GPlace))) (.k rfl (.cells (.k (.c (cl_GCourse y6)) .z)) (.k rfl (.cells (.k (.c (cl_GInstrument a0)) .z)) .z)))) ?_
       rintro ⟨l3_7,l3_10⟩ out hl3 rl3
       refine run_s (c61 42) (c61 47) (by kernel_rfl) ?_
       let v_3 : AV := .ms 3 0 l3_7.length
       let b_3 : Blk := .cells 2 (l3_7.map E_GPlace)
       let s_0 : St := ⟨[(3,b_3),(2,b_2),(0,b_0)],4⟩
       refine run1z (c61 44) [] [1,2,7,8,9,10,23,24,25,33] [.i a1,.mp 0 0 0,v_3,.i l2_25,.mp 2 0 0,.i l3_10,v_0,v_1,.i l2_25,.bool (decide (l3_10 ≤ y6.frets))] s_0 _ (by kernel_rfl) cj0 ?_
       rcases iteE hl3 with ⟨hc7,hl3⟩ | ⟨hc7,hl3⟩
       ·refine run_cT 33 (c61 45) (c61 46) (decide (l3_10 ≤ y6.frets)) hc7 (by kernel_rfl) (by kernel_rfl) ?_
        refine run_k (by kernel_rfl) ?_
        refine thenN ?_
        obtain ⟨j4_7,hj4,hl3⟩ := bindE hl3
        refine run_jq (c61 48) (c61 54) (fun (j4_7 : (List GPlace)) => (zipE [1,2,7,8,9,10,23,24,25] [.i a1,.mp 0 0 0,.ms 5 0 j4_7.length,.i l2_25,.mp 2 0 0,.i l3_10,v_0,v_1,.i l2_25])) (fun (j4_7 : (List GPlace)) => ⟨[(5,.cells 2 (j4_7.map E_GPlace)),(2,b_2),(0,b_0)],6⟩) (fun j => j4_7 = j) (by kernel_rfl) (fun kj4 => ?_) ?_
        ·refine run_b 3 (c61 49) (by kernel_rfl) ?_
         obtain ⟨r8,hr8,hj4⟩ := bindE hj4
         refine run1z (c61 51) [{},{},{},{ c := some (.i r8,s_0) }] [1,2,7,8,9,10,23,24,25,41] [.i a1,.mp 0 0 0,v_3,.i l2_25,.mp 2 0 0,.i l3_10,v_0,v_1,.i l2_25,.bool (decide (r8 = a1))] s_0 _ (by kernel_rfl) (cj1 (f76_ok a0 y6 l3_10 _ hr8 s_0)) ?_
         rcases iteE hj4 with ⟨hc9,hj4⟩ | ⟨hc9,hj4⟩
         ·refine run_cT 41 (c61 52) (c61 53) (decide (r8 = a1)) hc9 (by kernel_rfl) (by kernel_rfl) ?_
          obtain ⟨hn10,hj4⟩ := needE hj4
          let b_4 : Blk := .cells 2 ((l3_7 ++ [(⟨(wr (l2_25 + 1)),l3_10⟩ : GPlace)]).map E_GPlace)
          refine run0z [{},{},{},{},{},{},{ k := 1,n := (l3_7 ++ [(⟨(wr (l2_25 + 1)),l3_10⟩ : GPlace)]).length,l := (l3_7 ++ [(⟨(wr (l2_25 + 1)),l3_10⟩ : GPlace)]).map E_GPlace }] [1,2,7,8,9,10,23,24,25] [.i a1,.mp 0 0 0,.ms 4 0 (l3_7 ++ [(⟨(wr (l2_25 + 1)),l3_10⟩ : GPlace)]).length,.i l2_25,.mp 2 0 0,.i l3_10,v_0,v_1,.i l2_25] ⟨[(4,b_4),(2,b_2),(0,b_0)],5⟩ _ (by kernel_rfl) (cjC (@List.cons_ne_nil AV (.agg [.i (wr (l2_25 + 1)),.i l3_10]) []) (cjC (mLe l3_7 E_GPlace) (cjC (hn10) (cjC (lenA l3_7 ([(⟨(wr (l2_25 + 1)),l3_10⟩ : GPlace)] : List GPlace)) (cjC (appA l3_7 ([(⟨(wr (l2_25 + 1)),l3_10⟩ : GPlace)] : List GPlace) E_GPlace) (cj1 (fitsOne (P := Try.prog) (t := 147) (x := .agg [.i (wr (l2_25 + 1)),.i l3_10]) (r := []) (by kernel_rfl)))))))) ?_
          replace hj4 := Option.some.inj hj4; subst hj4
          refine inbN ?_
          refine thenN ?_
          exact run_i 5 [(5,4)] [1,2,7,8,9,10,23,24,25] [.i a1,.mp 0 0 0,.ms 4 0 (l3_7 ++ [(⟨(wr (l2_25 + 1)),l3_10⟩ : GPlace)]).length,.i l2_25,.mp 2 0 0,.i l3_10,v_0,v_1,.i l2_25] (kj4 (l3_7 ++ [(⟨(wr (l2_25 + 1)),l3_10⟩ : GPlace)]) rfl) (by intro i e; cases e <;> exact Nat.le_of_ble_eq_true rfl) (by kernel_rfl) (by kernel_rfl) (by kernel_rfl) (.k (.c rfl) (.k (.mp rfl rfl) (.k (.ms rfl rfl) (.k (.c rfl) (.k (.mp rfl rfl) (.k (.c rfl) (.k (.c (cleanMap _ _ cl_GCourse)) (.k (.c rfl) (.k (.c rfl) .z))))))))) (.k (x' := b_4) (by kernel_rfl) (.cells (.r (cleanMap _ _ cl_GPlace))) (.k rfl (.cells (.k (.c (cl_GCourse y6)) .z)) (.k rfl (.cells (.k (.c (cl_GInstrument a0)) .z)) .z)))
         ·refine run_cF 41 (c61 52) (c61 53) (decide (r8 = a1)) hc9 (by kernel_rfl) (by kernel_rfl) ?_
          replace hj4 := Option.some.inj hj4; subst hj4
          refine run_i 5 [(5,3)] [1,2,7,8,9,10,23,24,25] [.i a1,.mp 0 0 0,v_3,.i l2_25,.mp 2 0 0,.i l3_10,v_0,v_1,.i l2_25] (xs := [.i a1,.mp 0 0 0,.ms 5 0 l3_7.length,.i l2_25,.mp 2 0 0,.i l3_10,v_0,v_1,.i l2_25]) (S2 := ⟨[(5,b_3),(2,b_2),(0,b_0)],6⟩) ?_ (by intro i e; cases e <;> exact Nat.le_of_ble_eq_true rfl) (by kernel_rfl) (by kernel_rfl) (by kernel_rfl) (.k (.c rfl) (.k (.mp rfl rfl) (.k (.ms rfl rfl) (.k (.c rfl) (.k (.mp rfl rfl) (.k (.c rfl) (.k (.c (cleanMap _ _ cl_GCourse)) (.k (.c rfl) (.k (.c rfl) .z))))))))) (.k rfl (.cells (.r (cleanMap _ _ cl_GPlace))) (.k rfl (.cells (.k (.c (cl_GCourse y6)) .z)) (.k rfl (.cells (.k (.c (cl_GInstrument a0)) .z)) .z)))
          refine run_k (by kernel_rfl) ?_
          refine inbN ?_
          refine thenN ?_
          exact kj4 l3_7 rfl
        ·rintro _ rfl
         refine run0z [] [1,2,7,8,9,10,23,24,25] [.i a1,.mp 0 0 0,.ms 5 0 j4_7.length,.i l2_25,.mp 2 0 0,.i (wr (l3_10 + 1)),v_0,v_1,.i l2_25] ⟨[(5,.cells 2 (j4_7.map E_GPlace)),(2,b_2),(0,b_0)],6⟩ _ (by kernel_rfl) cj0 ?_
         replace hl3 := Option.some.inj hl3; subst hl3
         exact ⟨_,rfl,pi [(3,5)],mkInto (ks := [1,2,7,8,9,10,23,24,25]) (ys := [.i a1,.mp 0 0 0,.ms 5 0 j4_7.length,.i l2_25,.mp 2 0 0,.i (wr (l3_10 + 1)),v_0,v_1,.i l2_25]) (by kernel_rfl) (by kernel_rfl) (.k (.c rfl) (.k (.mp rfl rfl) (.k (.ms rfl rfl) (.k (.c rfl) (.k (.mp rfl rfl) (.k (.c rfl) (.k (.c (cleanMap _ _ cl_GCourse)) (.k (.c rfl) (.k (.c rfl) .z))))))))) (.k rfl (.cells (.r (cleanMap _ _ cl_GPlace))) (.k rfl (.cells (.k (.c (cl_GCourse y6)) .z)) (.k rfl (.cells (.k (.c (cl_GInstrument a0)) .z)) .z)))⟩
       ·refine run_cF 33 (c61 45) (c61 46) (decide (l3_10 ≤ y6.frets)) hc7 (by kernel_rfl) (by kernel_rfl) ?_
        replace hl3 := Option.some.inj hl3; subst hl3
        have hr := rl3 _ rfl
        subst hr
        refine awp_p [1,2,7,23,24,25] [3,0] (zipE [1,2,7,23,24,25] [.i a1,.mp 0 0 0,v_3,v_0,v_1,.i l2_25]) ⟨[(3,b_3),(0,b_0)],4⟩ (by kernel_rfl) (?_)
        refine run_e 2 (by kernel_rfl) ?_
        refine thenE ?_
        refine ⟨⟨_,rfl⟩,?_⟩
        refine inbE ?_
        exact kl3 l3_7 rfl
      ·rintro _ rfl
       refine inbN ?_
       refine thenN ?_
       refine run0z [] [1,2,7,23,24,25] [.i a1,.mp 0 0 0,.ms 3 0 l3x_7.length,v_0,v_1,.i (wr (l2_25 + 1))] ⟨[(3,.cells 2 (l3x_7.map E_GPlace)),(0,b_0)],4⟩ _ (by kernel_rfl) cj0 ?_
       replace hl2 := Option.some.inj hl2; subst hl2
       exact ⟨_,rfl,pi [(1,3)],mkInto (ks := [1,2,7,23,24,25]) (ys := [.i a1,.mp 0 0 0,.ms 3 0 l3x_7.length,v_0,v_1,.i (wr (l2_25 + 1))]) (by kernel_rfl) (by kernel_rfl) (.k (.c rfl) (.k (.mp rfl rfl) (.k (.ms rfl rfl) (.k (.c (cleanMap _ _ cl_GCourse)) (.k (.c rfl) (.k (.c rfl) .z)))))) (.k rfl (.cells (.r (cleanMap _ _ cl_GPlace))) (.k rfl (.cells (.k (.c (cl_GInstrument a0)) .z)) .z))⟩
     ·refine run_cF 26 (c61 31) (c61 32) (decide (l2_25 < (a0.courses.length : Int))) hc5 (by kernel_rfl) (by kernel_rfl) ?_
      replace hl2 := Option.some.inj hl2; subst hl2
      have hr := rl2 _ rfl
      subst hr
      refine awp_p [7] [1] (zipE [7] [v_2]) ⟨[(1,b_1)],2⟩ (by kernel_rfl) (?_)
      refine run_e 0 (by kernel_rfl) ?_
      refine thenE ?_
      refine ⟨⟨_,rfl⟩,?_⟩
      refine inbE ?_
      exact kl2 l2_7 rfl
    ·rintro _ rfl
     refine thenN ?_
     refine run1z (c61 58) [] [4,5] [.ms 1 0 l2x_7.length,.i 0] ⟨[(1,.cells 2 (l2x_7.map E_GPlace))],2⟩ _ (by kernel_rfl) cj0 ?_
     refine run_z 1 2 (l2x_7.map E_GPlace) [4,5] [.ms 1 0 l2x_7.length,.i 0] (xs := [.sl false (l2x_7.map E_GPlace),.i 0]) (S2 := ⟨[],2⟩) ?_ (by kernel_rfl) (by kernel_rfl) (.k (.m (mLe l2x_7 E_GPlace) (mapAll l2x_7 E_GPlace)) (.k (.r _) .z)) .z rfl rfl
     refine run_t (by kernel_rfl) ?_
     replace h := Option.some.inj h; subst h
     exact fin_r (by kernel_rfl) rfl
def f40 (a0 : List (List GTone)) (a1 : GInstrument) (a2 : Int) : Option Int := (loopN (σ := (Int × Int)) (τ := Int) (fun ((l1_6,l1_15) : (Int × Int)) => bif (decide (l1_15 < (a0.length : Int))) then ((ix a0 l1_15).bind fun y2 => (loopN (σ := (Int × Int)) (τ := Int) (fun ((l2_6,l2_21) : (Int × Int)) => bif (decide (l2_21 < (y2.length : Int))) then ((((ix y2 l2_21).bind fun y4 => (f61 a1 (wr (y4.pitch + a2))).bind fun r5 => ((bif (decide (r5.2 ≠ 0)) then (some true) else (some (decide ((r5.1.length : Int) = 0)))) : Option Bool).bind fun (j4_40 : Bool) => bif j4_40 then (some (wr (l2_6 + 1))) else (some l2_6)) : Option Int).bind fun (j3_6 : Int) => some (.inl (j3_6,(wr (l2_21 + 1))))) else (some (.inr l2_6))) FUEL (l1_6,0)).bind fun (l2x_6 : Int) => some (.inl (l2x_6,(wr (l1_15 + 1))))) else (some (.inr l1_6))) FUEL (0,0)).bind fun (l1x_6 : Int) => some l1x_6
theorem f40_ok (a0 : List (List GTone)) (a1 : GInstrument) (a2 : Int) (r : Int) (h : f40 a0 a1 a2 = some r) : APure Try.prog 40 [.sl false (a0.map (SL E_GTone)),E_GInstrument a1,.i a2] (.i r) := by
 refine apure (clK (cleanMap a0 _ (cl_SL cl_GTone)) (clK (cl_GInstrument a1) (clK rfl clZ))) rfl ?_
 let v_0 : AV := .sl false (a0.map (SL E_GTone))
 refine run_f 46 [.tmp 6] (c40 0) (zipE [0,1,2] [v_0,E_GInstrument a1,.i a2]) (by kernel_rfl) (by kernel_rfl) (by kernel_rfl) rfl ?_
 unfold f40 at h
 let b_0 : Blk := .cells 2 [E_GInstrument a1]
 refine run1z (c40 2) [] [0,2,4,6] [v_0,.i a2,.mp 0 0 0,.i 0] ⟨[(0,b_0)],1⟩ _ (by kernel_rfl) cj0 ?_
 refine run_s (c40 3) (c40 40) (by kernel_rfl) ?_
 let v_1 : AV := .i (a0.length : Int)
 refine run1z (c40 5) [{},{ k := 1,n := a0.length }] [2,4,6,13,14,15] [.i a2,.mp 0 0 0,.i 0,v_0,v_1,.i 0] ⟨[(0,b_0)],1⟩ _ (by kernel_rfl) (cj1 (mapLen a0 (SL E_GTone))) ?_
 obtain ⟨l1x_6,hll1x,h⟩ := bindE h
 refine run_tq (fun (l1x_6 : Int) => (zipE [6] [.i l1x_6])) (fun (l1x_6 : Int) => ⟨[],1⟩) (fun j => l1x_6 = j) (fun kl1 => ?_) ?_
 ·refine run_b 0 (c40 6) (by kernel_rfl) ?_
  refine run_l (c40 7) _ hll1x (fun ((l1_6,l1_15) : (Int × Int)) => (zipE [2,4,6,13,14,15] [.i a2,.mp 0 0 0,.i l1_6,v_0,v_1,.i l1_15])) (fun ((l1_6,l1_15) : (Int × Int)) => ⟨[(0,b_0)],1⟩) [] (by intro i e; cases e <;> exact Nat.le_of_ble_eq_true rfl) (by kernel_rfl) (mkInto (ks := [2,4,6,13,14,15]) (ys := [.i a2,.mp 0 0 0,.i 0,v_0,v_1,.i 0]) (by kernel_rfl) (by kernel_rfl) (.k (.c rfl) (.k (.mp rfl rfl) (.k (.c rfl) (.k (.c (cleanMap _ _ (cl_SL cl_GTone))) (.k (.c rfl) (.k (.c rfl) .z)))))) (.k rfl (.cells (.k (.c (cl_GInstrument a1)) .z)) .z)) ?_
  rintro ⟨l1_6,l1_15⟩ out hl1 rl1
  refine run1z (c40 9) [] [2,4,6,13,14,15,16] [.i a2,.mp 0 0 0,.i l1_6,v_0,v_1,.i l1_15,.bool (decide (l1_15 < (a0.length : Int)))] ⟨[(0,b_0)],1⟩ _ (by kernel_rfl) cj0 ?_
  refine run_s (c40 10) (c40 13) (by kernel_rfl) ?_
  rcases iteE hl1 with ⟨hc1,hl1⟩ | ⟨hc1,hl1⟩
  ·refine run_cT 16 (c40 11) (c40 12) (decide (l1_15 < (a0.length : Int))) hc1 (by kernel_rfl) (by kernel_rfl) ?_
   refine run_k (by kernel_rfl) ?_
   refine thenN ?_
   refine run_s (c40 14) (c40 39) (by kernel_rfl) ?_
   refine run_b 1 (c40 15) (by kernel_rfl) ?_
   obtain ⟨y2,hy2,hl1⟩ := bindE hl1
   let v_2 : AV := .sl false (y2.map E_GTone)
   refine run1z (c40 17) [{ k := 1,x := (SL E_GTone) y2 }] [2,4,6,8,13,14,15] [.i a2,.mp 0 0 0,.i l1_6,v_2,v_0,v_1,.i l1_15] ⟨[(0,b_0)],1⟩ _ (by kernel_rfl) (cjC ((ixE hy2).1) (cj1 (mapGet (SL E_GTone) (ixE hy2).2))) ?_
   let v_3 : AV := .i (y2.length : Int)
   refine run1z (c40 19) [{},{ k := 1,n := y2.length }] [2,4,6,13,14,15,19,20,21] [.i a2,.mp 0 0 0,.i l1_6,v_0,v_1,.i l1_15,v_2,v_3,.i 0] ⟨[(0,b_0)],1⟩ _ (by kernel_rfl) (cj1 (mapLen y2 E_GTone)) ?_
   obtain ⟨l2x_6,hll2x,hl1⟩ := bindE hl1
   refine run_tq (fun (l2x_6 : Int) => (zipE [2,4,6,13,14,15] [.i a2,.mp 0 0 0,.i l2x_6,v_0,v_1,.i l1_15])) (fun (l2x_6 : Int) => ⟨[(0,b_0)],1⟩) (fun j => l2x_6 = j) (fun kl2 => ?_) ?_
   ·refine run_b 2 (c40 20) (by kernel_rfl) ?_
    refine run_l (c40 21) _ hll2x (fun ((l2_6,l2_21) : (Int × Int)) => (zipE [2,4,6,13,14,15,19,20,21] [.i a2,.mp 0 0 0,.i l2_6,v_0,v_1,.i l1_15,v_2,v_3,.i l2_21])) (fun ((l2_6,l2_21) : (Int × Int)) => ⟨[(0,b_0)],1⟩) [] (by intro i e; cases e <;> exact Nat.le_of_ble_eq_true rfl) (by kernel_rfl) (mkInto (ks := [2,4,6,13,14,15,19,20,21]) (ys := [.i a2,.mp 0 0 0,.i l1_6,v_0,v_1,.i l1_15,v_2,v_3,.i 0]) (by kernel_rfl) (by kernel_rfl) (.k (.c rfl) (.k (.mp rfl rfl) (.k (.c rfl) (.k (.c (cleanMap _ _ (cl_SL cl_GTone))) (.k (.c rfl) (.k (.c rfl) (.k (.c (cleanMap _ _ cl_GTone)) (.k (.c rfl) (.k (.c rfl) .z))))))))) (.k rfl (.cells (.k (.c (cl_GInstrument a1)) .z)) .z)) ?_
    rintro ⟨l2_6,l2_21⟩ out hl2 rl2
    refine run1z (c40 23) [] [2,4,6,13,14,15,19,20,21,22] [.i a2,.mp 0 0 0,.i l2_6,v_0,v_1,.i l1_15,v_2,v_3,.i l2_21,.bool (decide (l2_21 < (y2.length : Int)))] ⟨[(0,b_0)],1⟩ _ (by kernel_rfl) cj0 ?_
    refine run_s (c40 24) (c40 27) (by kernel_rfl) ?_
    rcases iteE hl2 with ⟨hc3,hl2⟩ | ⟨hc3,hl2⟩
    ·refine run_cT 22 (c40 25) (c40 26) (decide (l2_21 < (y2.length : Int))) hc3 (by kernel_rfl) (by kernel_rfl) ?_
     refine run_k (by kernel_rfl) ?_
     refine thenN ?_
     obtain ⟨j3_6,hj3,hl2⟩ := bindE hl2
     refine run_jq (c40 28) (c40 38) (fun (j3_6 : Int) => (zipE [2,4,6,13,14,15,19,20,21] [.i a2,.mp 0 0 0,.i j3_6,v_0,v_1,.i l1_15,v_2,v_3,.i l2_21])) (fun (j3_6 : Int) => ⟨[(0,b_0)],2⟩) (fun j => j3_6 = j) (by kernel_rfl) (fun kj3 => ?_) ?_
     ·refine run_b 3 (c40 29) (by kernel_rfl) ?_
      obtain ⟨y4,hy4,hj3⟩ := bindE hj3
      let b_1 : Blk := .cells 3 [E_GTone y4]
      let s_0 : St := ⟨[(1,b_1),(0,b_0)],2⟩
      refine run1z (c40 31) [{ k := 1,x := E_GTone y4 }] [2,4,6,10,13,14,15,19,20,21] [.i a2,.mp 0 0 0,.i l2_6,.mp 1 0 0,v_0,v_1,.i l1_15,v_2,v_3,.i l2_21] s_0 _ (by kernel_rfl) (cjC ((ixE hy4).1) (cj1 (mapGet E_GTone (ixE hy4).2))) ?_
      obtain ⟨r5,hr5,hj3⟩ := bindE hj3
      refine run1z (c40 33) [{},{},{},{},{},{ c := some (.tup [.sl false (r5.1.map E_GPlace),.i r5.2],s_0) }] [2,4,6,11,12,13,14,15,19,20,21] [.i a2,.mp 0 0 0,.i l2_6,.sl false (r5.1.map E_GPlace),.i r5.2,v_0,v_1,.i l1_15,v_2,v_3,.i l2_21] ⟨[(0,b_0)],2⟩ _ (by kernel_rfl) (cj1 (f61_ok a1 (wr (y4.pitch + a2)) _ hr5 s_0)) ?_
      obtain ⟨j4_40,hj4,hj3⟩ := bindE hj3
      refine run_gq (c40 35) (fun (j4_40 : Bool) => (zipE [2,4,6,13,14,15,19,20,21,40] [.i a2,.mp 0 0 0,.i l2_6,v_0,v_1,.i l1_15,v_2,v_3,.i l2_21,.bool j4_40])) (fun (j4_40 : Bool) => ⟨[(0,b_0)],2⟩) (fun j => j4_40 = j) (fun kj4 => ?_) ?_
      ·rcases iteE hj4 with ⟨hc6,hj4⟩ | ⟨hc6,hj4⟩
       ·replace hj4 := Option.some.inj hj4; subst hj4
        exact run1z (c40 35) [{},{},{},{ g := false },{ g := false },{ g := false },{ k := 1,b := true }] [2,4,6,13,14,15,19,20,21,40] [.i a2,.mp 0 0 0,.i l2_6,v_0,v_1,.i l1_15,v_2,v_3,.i l2_21,.bool true] ⟨[(0,b_0)],2⟩ _ (by kernel_rfl) (cjC (hc6) (cjC (hc6) (cjC (hc6) (cj1 (hc6))))) (kj4 true rfl)
       ·replace hj4 := Option.some.inj hj4; subst hj4
        exact run1z (c40 35) [{},{},{},{},{ k := 1,n := r5.1.length },{},{ k := 1,b := false }] [2,4,6,13,14,15,19,20,21,40] [.i a2,.mp 0 0 0,.i l2_6,v_0,v_1,.i l1_15,v_2,v_3,.i l2_21,.bool (decide ((r5.1.length : Int) = 0))] ⟨[(0,b_0)],2⟩ _ (by kernel_rfl) (cjC (hc6) (cjC (hc6) (cjC (mapLen r5.1 E_GPlace) (cjC (hc6) (cj1 (hc6)))))) (kj4 (decide ((r5.1.length : Int) = 0)) rfl)
      ·rintro _ rfl
       rcases iteE hj3 with ⟨hc7,hj3⟩ | ⟨hc7,hj3⟩
       ·refine run_cT 40 (c40 36) (c40 37) j4_40 hc7 (by kernel_rfl) (by kernel_rfl) ?_
        refine run0z [] [2,4,6,13,14,15,19,20,21] [.i a2,.mp 0 0 0,.i (wr (l2_6 + 1)),v_0,v_1,.i l1_15,v_2,v_3,.i l2_21] ⟨[(0,b_0)],2⟩ _ (by kernel_rfl) cj0 ?_
        replace hj3 := Option.some.inj hj3; subst hj3
        refine inbN ?_
        refine thenN ?_
        exact kj3 (wr (l2_6 + 1)) rfl
       ·refine run_cF 40 (c40 36) (c40 37) j4_40 hc7 (by kernel_rfl) (by kernel_rfl) ?_
        replace hj3 := Option.some.inj hj3; subst hj3
        refine awp_p [2,4,6,13,14,15,19,20,21] [0] (zipE [2,4,6,13,14,15,19,20,21] [.i a2,.mp 0 0 0,.i l2_6,v_0,v_1,.i l1_15,v_2,v_3,.i l2_21]) ⟨[(0,b_0)],2⟩ (by kernel_rfl) (?_)
        refine run_k (by kernel_rfl) ?_
        refine inbN ?_
        refine thenN ?_
        exact kj3 l2_6 rfl
     ·rintro _ rfl
      refine run0z [] [2,4,6,13,14,15,19,20,21] [.i a2,.mp 0 0 0,.i j3_6,v_0,v_1,.i l1_15,v_2,v_3,.i (wr (l2_21 + 1))] ⟨[(0,b_0)],2⟩ _ (by kernel_rfl) cj0 ?_
      replace hl2 := Option.some.inj hl2; subst hl2
      exact ⟨_,rfl,pi [],mkInto (ks := [2,4,6,13,14,15,19,20,21]) (ys := [.i a2,.mp 0 0 0,.i j3_6,v_0,v_1,.i l1_15,v_2,v_3,.i (wr (l2_21 + 1))]) (by kernel_rfl) (by kernel_rfl) (.k (.c rfl) (.k (.mp rfl rfl) (.k (.c rfl) (.k (.c (cleanMap _ _ (cl_SL cl_GTone))) (.k (.c rfl) (.k (.c rfl) (.k (.c (cleanMap _ _ cl_GTone)) (.k (.c rfl) (.k (.c rfl) .z))))))))) (.k rfl (.cells (.k (.c (cl_GInstrument a1)) .z)) .z)⟩
    ·refine run_cF 22 (c40 25) (c40 26) (decide (l2_21 < (y2.length : Int))) hc3 (by kernel_rfl) (by kernel_rfl) ?_
     replace hl2 := Option.some.inj hl2; subst hl2
     have hr := rl2 _ rfl
     subst hr
     refine awp_p [2,4,6,13,14,15] [0] (zipE [2,4,6,13,14,15] [.i a2,.mp 0 0 0,.i l2_6,v_0,v_1,.i l1_15]) ⟨[(0,b_0)],1⟩ (by kernel_rfl) (?_)
     refine run_e 2 (by kernel_rfl) ?_
     refine thenE ?_
     refine ⟨⟨_,rfl⟩,?_⟩
     refine inbE ?_
     exact kl2 l2_6 rfl
   ·rintro _ rfl
    refine inbN ?_
    refine thenN ?_
    refine run0z [] [2,4,6,13,14,15] [.i a2,.mp 0 0 0,.i l2x_6,v_0,v_1,.i (wr (l1_15 + 1))] ⟨[(0,b_0)],1⟩ _ (by kernel_rfl) cj0 ?_
    replace hl1 := Option.some.inj hl1; subst hl1
    exact ⟨_,rfl,pi [],mkInto (ks := [2,4,6,13,14,15]) (ys := [.i a2,.mp 0 0 0,.i l2x_6,v_0,v_1,.i (wr (l1_15 + 1))]) (by kernel_rfl) (by kernel_rfl) (.k (.c rfl) (.k (.mp rfl rfl) (.k (.c rfl) (.k (.c (cleanMap _ _ (cl_SL cl_GTone))) (.k (.c rfl) (.k (.c rfl) .z)))))) (.k rfl (.cells (.k (.c (cl_GInstrument a1)) .z)) .z)⟩
  ·refine run_cF 16 (c40 11) (c40 12) (decide (l1_15 < (a0.length : Int))) hc1 (by kernel_rfl) (by kernel_rfl) ?_
   replace hl1 := Option.some.inj hl1; subst hl1
   have hr := rl1 _ rfl
   subst hr
   refine awp_p [6] [] (zipE [6] [.i l1_6]) ⟨[],1⟩ (by kernel_rfl) (?_)
   refine run_e 0 (by kernel_rfl) ?_
   refine thenE ?_
   refine ⟨⟨_,rfl⟩,?_⟩
   refine inbE ?_
   exact kl1 l1_6 rfl
 ·rintro _ rfl
  refine thenN ?_
  refine run1z (c40 42) [] [6] [.i l1x_6] ⟨[],1⟩ _ (by kernel_rfl) cj0 ?_
  refine run_t (by kernel_rfl) ?_
  replace h := Option.some.inj h; subst h
  exact fin_r (by kernel_rfl) rfl
def f18 (a0 : List (List GTone)) (a1 : GInstrument) (a2 : Int) : Option (Int × Int) := (f38 a0 a1).bind fun r1 => bif (decide (r1 ≠ 0)) then (some (0,r1)) else ((f39 a2 (-24) 24).bind fun r3 => bif (!r3) then (some (0,1)) else ((f40 a0 a1 a2).bind fun r5 => some (r5,0)))
theorem f18_ok (a0 : List (List GTone)) (a1 : GInstrument) (a2 : Int) (r : (Int × Int)) (h : f18 a0 a1 a2 = some r) : APure Try.prog 18 [.sl false (a0.map (SL E_GTone)),E_GInstrument a1,.i a2] (.tup [.i r.1,.i r.2]) := by
 refine apure (clK (cleanMap a0 _ (cl_SL cl_GTone)) (clK (cl_GInstrument a1) (clK rfl clZ))) (clK rfl (clK rfl clZ)) ?_
 let v_0 : AV := .sl false (a0.map (SL E_GTone))
 refine run_f 22 [.tmp 6,.tmp 7] (c18 0) (zipE [0,1,2] [v_0,E_GInstrument a1,.i a2]) (by kernel_rfl) (by kernel_rfl) (by kernel_rfl) rfl ?_
 unfold f18 at h
 let b_0 : Blk := .cells 2 [E_GInstrument a1]
 refine run1z (c18 2) [] [0,2,4] [v_0,.i a2,.mp 0 0 0] ⟨[(0,b_0)],1⟩ _ (by kernel_rfl) cj0 ?_
 refine run_s (c18 3) (c18 12) (by kernel_rfl) ?_
 obtain ⟨r1,hr1,h⟩ := bindE h
 refine run1z (c18 5) [{},{},{ c := some (.i r1,⟨[(0,b_0)],1⟩) }] [0,2,4,8] [v_0,.i a2,.mp 0 0 0,.i r1] ⟨[(0,b_0)],1⟩ _ (by kernel_rfl) (cj1 (f38_ok a0 a1 _ hr1 ⟨[(0,b_0)],1⟩)) ?_
 refine run1z (c18 7) [] [0,2,4,8,13] [v_0,.i a2,.mp 0 0 0,.i r1,.bool (decide (r1 ≠ 0))] ⟨[(0,b_0)],1⟩ _ (by kernel_rfl) cj0 ?_
 rcases iteE h with ⟨hc2,h⟩ | ⟨hc2,h⟩
 ·refine run_cT 13 (c18 8) (c18 11) (decide (r1 ≠ 0)) hc2 (by kernel_rfl) (by kernel_rfl) ?_
  refine run1z (c18 10) [] [6,7] [.i 0,.i r1] ⟨[],1⟩ _ (by kernel_rfl) cj0 ?_
  refine run_t (by kernel_rfl) ?_
  refine thenR ?_
  replace h := Option.some.inj h; subst h
  exact fin_r (by kernel_rfl) rfl
 ·refine run_cF 13 (c18 8) (c18 11) (decide (r1 ≠ 0)) hc2 (by kernel_rfl) (by kernel_rfl) ?_
  refine run_k (by kernel_rfl) ?_
  refine thenN ?_
  refine run_s (c18 13) (c18 20) (by kernel_rfl) ?_
  obtain ⟨r3,hr3,h⟩ := bindE h
  refine run1z (c18 15) [{},{ c := some (.bool r3,⟨[(0,b_0)],1⟩) }] [0,2,4,17] [v_0,.i a2,.mp 0 0 0,.bool (!r3)] ⟨[(0,b_0)],1⟩ _ (by kernel_rfl) (cj1 (f39_ok a2 (-24) 24 _ hr3 ⟨[(0,b_0)],1⟩)) ?_
  rcases iteE h with ⟨hc4,h⟩ | ⟨hc4,h⟩
  ·refine run_cT 17 (c18 16) (c18 19) (!r3) hc4 (by kernel_rfl) (by kernel_rfl) ?_
   refine run1z (c18 18) [] [6,7] [.i 0,.i 1] ⟨[],1⟩ _ (by kernel_rfl) cj0 ?_
   refine run_t (by kernel_rfl) ?_
   refine thenR ?_
   replace h := Option.some.inj h; subst h
   exact fin_r (by kernel_rfl) rfl
  ·refine run_cF 17 (c18 16) (c18 19) (!r3) hc4 (by kernel_rfl) (by kernel_rfl) ?_
   refine run_k (by kernel_rfl) ?_
   refine thenN ?_
   obtain ⟨r5,hr5,h⟩ := bindE h
   refine run1z (c18 22) [{},{},{},{ c := some (.i r5,⟨[(0,b_0)],1⟩) }] [6,7] [.i r5,.i 0] ⟨[],1⟩ _ (by kernel_rfl) (cj1 (f40_ok a0 a1 a2 _ hr5 ⟨[(0,b_0)],1⟩)) ?_
   refine run_t (by kernel_rfl) ?_
   replace h := Option.some.inj h; subst h
   exact fin_r (by kernel_rfl) rfl
def f41 (a0 : List Int) (a1 : Int) : Option (List Int) := repL a0 a1
theorem f41_ok (a0 : List Int) (a1 : Int) (r : List Int) (h : f41 a0 a1 = some r) : ACalls Try.prog 41 [.sl false (a0.map AV.i),.i a1] ⟨[],0⟩ (fun y t => y = .ms 0 0 r.length ∧ t = ⟨[(0,.cells 1 (r.map AV.i))],1⟩) := rep_calls a0 a1 r h
def f43 (a0 : List Int) : Option (List Int) := ((bif (decide (a0 = [])) then (some ([] : List Int)) else (need (a0.length ≤ maxElems) <| some a0)) : Option (List Int)).bind fun (j1_2 : (List Int)) => some j1_2
theorem f43_ok (a0 : List Int) (r : (List Int)) (h : f43 a0 = some r) : ACalls Try.prog 43 [.ms 0 0 a0.length] ⟨[(0,.cells 1 (a0.map AV.i))],1⟩ (fun y t => y = .ms 3 0 r.length ∧ t = ⟨[(3,.cells 1 (r.map AV.i)),(0,.cells 1 (a0.map AV.i))],4⟩) := by
 let v_0 : AV := .ms 0 0 a0.length
 refine run_f 8 [.tmp 2] (c43 0) (zipE [0] [v_0]) (by kernel_rfl) (by kernel_rfl) (by kernel_rfl) rfl ?_
 unfold f43 at h
 let b_0 : Blk := .cells 1 (a0.map AV.i)
 refine run1z (c43 2) [] [0] [v_0] ⟨[(0,b_0)],1⟩ _ (by kernel_rfl) cj0 ?_
 refine run_s (c43 3) (c43 10) (by kernel_rfl) ?_
 refine run_nl (c43 5) (some 4) (zipE [0,3] [v_0,v_0]) (.ms 0 0 a0.length) (by kernel_rfl) ?_
 rintro (_ | _) hb
 ·clear hb
  refine awp_p [0,4] [0] (zipE [0,4] [v_0,.bool false]) ⟨[(0,b_0)],1⟩ (by kernel_rfl) ?_
  refine run_cF 4 (c43 6) (c43 9) false rfl (by kernel_rfl) (by kernel_rfl) ?_
  refine run_k (by kernel_rfl) ?_
  refine thenN ?_
  obtain ⟨j1_2,hj1,h⟩ := bindE h
  refine run_gq (c43 12) (fun (j1_2 : (List Int)) => (zipE [2] [.ms 2 0 j1_2.length])) (fun (j1_2 : (List Int)) => ⟨[(2,.cells 1 (j1_2.map AV.i)),(0,b_0)],3⟩) (fun j => j1_2 = j) (fun kj1 => ?_) ?_
  ·rcases iteE hj1 with ⟨hc1,hj1⟩ | ⟨hc1,hj1⟩
   ·replace hj1 := Option.some.inj hj1; subst hj1
    exact run1z (c43 12) [{},{},{ k := 2 }] [2] [.sl true []] ⟨[(0,b_0)],1⟩ _ (by kernel_rfl) (cjC (mapNilM AV.i (of_decide_eq_true hc1)) (cj1 (mLe a0 AV.i))) (run_i 2 [(2,1000000)] [2] [.sl true []] (kj1 ([] : List Int) rfl) (by intro i e; cases e <;> exact Nat.le_of_ble_eq_true rfl) (by kernel_rfl) (by kernel_rfl) (by kernel_rfl) (.k (.n) .z) (.n rfl rfl rfl (.k rfl (.cells (.r (cleanMap _ _ cl_i))) .z)))
   ·obtain ⟨hn2,hj1⟩ := needE hj1
    replace hj1 := Option.some.inj hj1; subst hj1
    exact run1z (c43 12) [{},{},{ k := 1,n := a0.length,l := a0.map AV.i }] [2] [.ms 1 0 a0.length] ⟨[(1,b_0),(0,b_0)],2⟩ _ (by kernel_rfl) (cjC (mapNeM AV.i (of_decide_eq_false hc1)) (cjC (Eq.refl true) (cjC (bnd0M AV.i hn2) (cjC (fitsNil (P := Try.prog) (t := 3)) (cjC (len0M a0 AV.i) (cjC (app0M a0 AV.i) (cj1 (mLe a0 AV.i)))))))) (run_i 2 [(2,1)] [2] [.ms 1 0 a0.length] (kj1 a0 rfl) (by intro i e; cases e <;> exact Nat.le_of_ble_eq_true rfl) (by kernel_rfl) (by kernel_rfl) (by kernel_rfl) (.k (.ms rfl rfl) .z) (.k rfl (.cells (.r (cleanMap _ _ cl_i))) (.k rfl (.cells (.r (cleanMap _ _ cl_i))) .z)))
  ·rintro _ rfl
   let s_0 : St := ⟨[(3,.cells 1 (j1_2.map AV.i)),(0,b_0)],4⟩
   refine run_i 3 [(3,2)] [2] [.ms 2 0 j1_2.length] (xs := [.ms 3 0 j1_2.length]) (S2 := s_0) ?_ (by intro i e; cases e <;> exact Nat.le_of_ble_eq_true rfl) (by kernel_rfl) (by kernel_rfl) (by kernel_rfl) (.k (.ms rfl rfl) .z) (.k rfl (.cells (.r (cleanMap _ _ cl_i))) (.k rfl (.cells (.r (cleanMap _ _ cl_i))) .z))
   refine run_t (by kernel_rfl) ?_
   replace h := Option.some.inj h; subst h
   exact fin_p [3,0] s_0 (by kernel_rfl) (by kernel_rfl) rfl ⟨rfl,rfl⟩
 ·replace hb := nilMs (hb rfl)
  replace h : (some ([] : List Int)) = some r := by simpa [hb,need,maxElems] using h
  refine awp_p [0,4] [0] (zipE [0,4] [v_0,.bool true]) ⟨[(0,b_0)],1⟩ (by kernel_rfl) ?_
  refine run_cT 4 (c43 6) (c43 9) true rfl (by kernel_rfl) (by kernel_rfl) ?_
  refine run1z (c43 8) [] [2] [.sl true []] ⟨[(0,b_0)],1⟩ _ (by kernel_rfl) cj0 ?_
  let b_1 : Blk := .cells 1 (([] : List Int).map AV.i)
  refine run_i 1 [(3,1000000)] [2] [.sl true []] (xs := [.ms 3 0 ([] : List Int).length]) (S2 := ⟨[(3,b_1),(0,b_0)],4⟩) ?_ (by intro i e; cases e <;> exact Nat.le_of_ble_eq_true rfl) (by kernel_rfl) (by kernel_rfl) (by kernel_rfl) (.k (.n) .z) (.n rfl rfl rfl (.k rfl (.cells (.r (cleanMap _ _ cl_i))) .z))
  refine run_t (by kernel_rfl) ?_
  refine thenR ?_
  replace h := Option.some.inj h; subst h
  exact fin_p [3,0] ⟨[(3,b_1),(0,b_0)],4⟩ (by kernel_rfl) (by kernel_rfl) rfl ⟨rfl,rfl⟩
def f42r : Nat → Int → Int → (List Int) → (List (List Int)) → (List Int) → Int → (List Int) → Option (Int × List Int × List Int × List Int)
 | 0,_,_,_,_,_,_,_ => none
 | fu + 1,a0,a1,a2,a3,a4,a5,a6 => ((bif (decide (0 ≤ a1)) then (some (decide (a1 ≤ a0))) else (some false)) : Option Bool).bind fun (j1_17 : Bool) => bif j1_17 then (some (a1,a2,a4,a6)) else (bif (decide ((a2.length : Int) = (a3.length : Int))) then ((f43 a2).bind fun r4 => some (a0,a2,r4,a6)) else ((loopN (σ := (List Int × List Int × Int × List Int × Int)) (τ := (Int × List Int × List Int × List Int)) (fun ((l2_h1,l2_h7,l2_h0,l2_h4,l2_28) : (List Int × List Int × Int × List Int × Int)) => bif (decide (l2_28 < a5)) then ((((ix l2_h7 l2_28).bind fun y6 => bif (decide (y6 = 0)) then (some (l2_h1,l2_h7,l2_h0,l2_h4)) else (need (l2_h1.length + 1 ≤ maxElems) <| (ix a3 (a2.length : Int)).bind fun y9 => (ix y9 l2_28).bind fun y10 => (f42r fu (wr (a0 + y10)) l2_h0 (l2_h1 ++ [l2_28]) a3 l2_h4 a5 (l2_h7.set l2_28.toNat (wr (y6 - 1)))).bind fun r11 => need (0 ≤ (a2.length : Int)) <| need ((a2.length : Int).toNat ≤ r11.2.1.length) <| (ix r11.2.2.2 l2_28).bind fun y14 => some ((r11.2.1.take (a2.length : Int).toNat),(r11.2.2.2.set l2_28.toNat (wr (y14 + 1))),r11.1,r11.2.2.1))) : Option (List Int × List Int × Int × List Int)).bind fun ((j3_h1,j3_h7,j3_h0,j3_h4) : (List Int × List Int × Int × List Int)) => some (.inl (j3_h1,j3_h7,j3_h0,j3_h4,(wr (l2_28 + 1))))) else (some (.inr (l2_h0,l2_h1,l2_h4,l2_h7)))) FUEL (a2,a6,a1,a4,0)).bind fun ((l2x_h0,l2x_h1,l2x_h4,l2x_h7) : (Int × List Int × List Int × List Int)) => some (l2x_h0,l2x_h1,l2x_h4,l2x_h7)))
def f42 (a0 : Int) (a1 : Int) (a2 : List Int) (a3 : List (List Int)) (a4 : List Int) (a5 : Int) (a6 : List Int) : Option (Int × List Int × List Int × List Int) := f42r FUEL a0 a1 a2 a3 a4 a5 a6
theorem f42r_ok : ∀ (fu : Nat) (a0 : Int) (a1 : Int) (a2 : List Int) (a3 : List (List Int)) (a4 : List Int) (a5 : Int) (a6 : List Int) (r : (Int × List Int × List Int × List Int)) (h : f42r fu a0 a1 a2 a3 a4 a5 a6 = some r),ACalls Try.prog 42 [.i a0,.mp 0 0 0,.mp 1 0 0,.mp 3 0 0,.mp 4 0 0,.mp 6 0 0,.mp 7 0 0,.mp 9 0 0] ⟨[(9,.cells 1 [.fn 42 [.mp 0 0 0,.mp 1 0 0,.mp 3 0 0,.mp 4 0 0,.mp 6 0 0,.mp 7 0 0,.mp 9 0 0]]),(8,.cells 1 (a6.map AV.i)),(7,.cells 1 [.ms 8 0 a6.length]),(6,.cells 1 [.i a5]),(5,.cells 1 (a4.map AV.i)),(4,.cells 1 [.ms 5 0 a4.length]),(3,.cells 1 [.sl false (a3.map (SL AV.i))]),(2,.cells 1 (a2.map AV.i)),(1,.cells 1 [.ms 2 0 a2.length]),(0,.cells 1 [.i a1])],10⟩ (fun y t => y = .tup [] ∧ t = ⟨[(14,.cells 1 (r.2.2.1.map AV.i)),(13,.cells 1 (r.2.1.map AV.i)),(9,.cells 1 [.fn 42 [.mp 0 0 0,.mp 1 0 0,.mp 3 0 0,.mp 4 0 0,.mp 6 0 0,.mp 7 0 0,.mp 9 0 0]]),(8,.cells 1 (r.2.2.2.map AV.i)),(7,.cells 1 [.ms 8 0 r.2.2.2.length]),(6,.cells 1 [.i a5]),(4,.cells 1 [.ms 14 0 r.2.2.1.length]),(3,.cells 1 [.sl false (a3.map (SL AV.i))]),(1,.cells 1 [.ms 13 0 r.2.1.length]),(0,.cells 1 [.i r.1])],15⟩) := by
 intro fu
 induction fu with
 | zero => intro a0 a1 a2 a3 a4 a5 a6 r h; rw [f42r] at h; cases h
 | succ fu ih =>
 intro a0 a1 a2 a3 a4 a5 a6 r h
 refine run_f 67 [] (c42 0) (zipE [0,1,2,3,4,5,6,7] [.i a0,.mp 0 0 0,.mp 1 0 0,.mp 3 0 0,.mp 4 0 0,.mp 6 0 0,.mp 7 0 0,.mp 9 0 0]) (by kernel_rfl) (by kernel_rfl) (by kernel_rfl) rfl ?_
 rw [f42r] at h
 refine run_s (c42 1) (c42 6) (by kernel_rfl) ?_
 obtain ⟨j1_17,hj1,h⟩ := bindE h
 refine run_gq (c42 3) (fun (j1_17 : Bool) => (zipE [0,1,2,3,4,5,6,7,17] [.i a0,.mp 0 0 0,.mp 1 0 0,.mp 3 0 0,.mp 4 0 0,.mp 6 0 0,.mp 7 0 0,.mp 9 0 0,.bool j1_17])) (fun (j1_17 : Bool) => ⟨[(9,.cells 1 [.fn 42 [.mp 0 0 0,.mp 1 0 0,.mp 3 0 0,.mp 4 0 0,.mp 6 0 0,.mp 7 0 0,.mp 9 0 0]]),(8,.cells 1 (a6.map AV.i)),(7,.cells 1 [.ms 8 0 a6.length]),(6,.cells 1 [.i a5]),(5,.cells 1 (a4.map AV.i)),(4,.cells 1 [.ms 5 0 a4.length]),(3,.cells 1 [.sl false (a3.map (SL AV.i))]),(2,.cells 1 (a2.map AV.i)),(1,.cells 1 [.ms 2 0 a2.length]),(0,.cells 1 [.i a1])],10⟩) (fun j => j1_17 = j) (fun kj1 => ?_) ?_
 ·rcases iteE hj1 with ⟨hc1,hj1⟩ | ⟨hc1,hj1⟩
  ·replace hj1 := Option.some.inj hj1; subst hj1
   exact run1z (c42 3) [{},{},{},{},{},{},{ k := 1,b := true }] [0,1,2,3,4,5,6,7,17] [.i a0,.mp 0 0 0,.mp 1 0 0,.mp 3 0 0,.mp 4 0 0,.mp 6 0 0,.mp 7 0 0,.mp 9 0 0,.bool (decide (a1 ≤ a0))] ⟨[(9,.cells 1 [.fn 42 [.mp 0 0 0,.mp 1 0 0,.mp 3 0 0,.mp 4 0 0,.mp 6 0 0,.mp 7 0 0,.mp 9 0 0]]),(8,.cells 1 (a6.map AV.i)),(7,.cells 1 [.ms 8 0 a6.length]),(6,.cells 1 [.i a5]),(5,.cells 1 (a4.map AV.i)),(4,.cells 1 [.ms 5 0 a4.length]),(3,.cells 1 [.sl false (a3.map (SL AV.i))]),(2,.cells 1 (a2.map AV.i)),(1,.cells 1 [.ms 2 0 a2.length]),(0,.cells 1 [.i a1])],10⟩ _ (by kernel_rfl) (cjC (hc1) (cjC (hc1) (cjC (hc1) (cj1 (hc1))))) (kj1 (decide (a1 ≤ a0)) rfl)
  ·replace hj1 := Option.some.inj hj1; subst hj1
   exact run1z (c42 3) [{},{},{},{ g := false },{ g := false },{ g := false },{ k := 1,b := false }] [0,1,2,3,4,5,6,7,17] [.i a0,.mp 0 0 0,.mp 1 0 0,.mp 3 0 0,.mp 4 0 0,.mp 6 0 0,.mp 7 0 0,.mp 9 0 0,.bool false] ⟨[(9,.cells 1 [.fn 42 [.mp 0 0 0,.mp 1 0 0,.mp 3 0 0,.mp 4 0 0,.mp 6 0 0,.mp 7 0 0,.mp 9 0 0]]),(8,.cells 1 (a6.map AV.i)),(7,.cells 1 [.ms 8 0 a6.length]),(6,.cells 1 [.i a5]),(5,.cells 1 (a4.map AV.i)),(4,.cells 1 [.ms 5 0 a4.length]),(3,.cells 1 [.sl false (a3.map (SL AV.i))]),(2,.cells 1 (a2.map AV.i)),(1,.cells 1 [.ms 2 0 a2.length]),(0,.cells 1 [.i a1])],10⟩ _ (by kernel_rfl) (cjC (hc1) (cjC (hc1) (cjC (hc1) (cj1 (hc1))))) (kj1 false rfl)
 ·rintro _ rfl
  rcases iteE h with ⟨hc2,h⟩ | ⟨hc2,h⟩
  ·refine run_cT 17 (c42 4) (c42 5) j1_17 hc2 (by kernel_rfl) (by kernel_rfl) ?_
   refine run_i 10 [(13,2),(14,5)] [] [] (xs := []) (S2 := ⟨[(14,.cells 1 (a4.map AV.i)),(13,.cells 1 (a2.map AV.i)),(9,.cells 1 [.fn 42 [.mp 0 0 0,.mp 1 0 0,.mp 3 0 0,.mp 4 0 0,.mp 6 0 0,.mp 7 0 0,.mp 9 0 0]]),(8,.cells 1 (a6.map AV.i)),(7,.cells 1 [.ms 8 0 a6.length]),(6,.cells 1 [.i a5]),(4,.cells 1 [.ms 14 0 a4.length]),(3,.cells 1 [.sl false (a3.map (SL AV.i))]),(1,.cells 1 [.ms 13 0 a2.length]),(0,.cells 1 [.i a1])],15⟩) ?_ (by intro i e; cases e <;> exact Nat.le_of_ble_eq_true rfl) (by kernel_rfl) (by kernel_rfl) (by kernel_rfl) .z (.k (x' := .cells 1 (a4.map AV.i)) (by kernel_rfl) (.cells (.r (cleanMap _ _ cl_i))) (.k (x' := .cells 1 (a2.map AV.i)) (by kernel_rfl) (.cells (.r (cleanMap _ _ cl_i))) (.k (x' := .cells 1 [.fn 42 [.mp 0 0 0,.mp 1 0 0,.mp 3 0 0,.mp 4 0 0,.mp 6 0 0,.mp 7 0 0,.mp 9 0 0]]) (by kernel_rfl) (.cells (.k (.f (.k (.mp rfl rfl) (.k (.mp rfl rfl) (.k (.mp rfl rfl) (.k (.mp rfl rfl) (.k (.mp rfl rfl) (.k (.mp rfl rfl) (.k (.mp rfl rfl) .z)))))))) .z)) (.k (x' := .cells 1 (a6.map AV.i)) (by kernel_rfl) (.cells (.r (cleanMap _ _ cl_i))) (.k (x' := .cells 1 [.ms 8 0 a6.length]) (by kernel_rfl) (.cells (.k (.ms rfl rfl) .z)) (.k (x' := .cells 1 [.i a5]) (by kernel_rfl) (.cells (.k (.c rfl) .z)) (.k (x' := .cells 1 [.ms 5 0 a4.length]) (by kernel_rfl) (.cells (.k (.ms rfl rfl) .z)) (.k (x' := .cells 1 [.sl false (a3.map (SL AV.i))]) (by kernel_rfl) (.cells (.k (.c (cleanMap _ _ (cl_SL cl_i))) .z)) (.k (x' := .cells 1 [.ms 2 0 a2.length]) (by kernel_rfl) (.cells (.k (.ms rfl rfl) .z)) (.k (x' := .cells 1 [.i a1]) (by kernel_rfl) (.cells (.k (.c rfl) .z)) .z))))))))))
   refine run_t (by kernel_rfl) ?_
   refine thenR ?_
   replace h := Option.some.inj h; subst h
   exact fin_p [14,13,9,8,7,6,4,3,1,0] ⟨[(14,.cells 1 (a4.map AV.i)),(13,.cells 1 (a2.map AV.i)),(9,.cells 1 [.fn 42 [.mp 0 0 0,.mp 1 0 0,.mp 3 0 0,.mp 4 0 0,.mp 6 0 0,.mp 7 0 0,.mp 9 0 0]]),(8,.cells 1 (a6.map AV.i)),(7,.cells 1 [.ms 8 0 a6.length]),(6,.cells 1 [.i a5]),(4,.cells 1 [.ms 14 0 a4.length]),(3,.cells 1 [.sl false (a3.map (SL AV.i))]),(1,.cells 1 [.ms 13 0 a2.length]),(0,.cells 1 [.i a1])],15⟩ (by kernel_rfl) (by kernel_rfl) rfl ⟨rfl,rfl⟩
  ·refine run_cF 17 (c42 4) (c42 5) j1_17 hc2 (by kernel_rfl) (by kernel_rfl) ?_
   refine run_k (by kernel_rfl) ?_
   refine thenN ?_
   refine run1z (c42 8) [] [0,1,2,3,4,5,6,7,9] [.i a0,.mp 0 0 0,.mp 1 0 0,.mp 3 0 0,.mp 4 0 0,.mp 6 0 0,.mp 7 0 0,.mp 9 0 0,.i (a2.length : Int)] ⟨[(9,.cells 1 [.fn 42 [.mp 0 0 0,.mp 1 0 0,.mp 3 0 0,.mp 4 0 0,.mp 6 0 0,.mp 7 0 0,.mp 9 0 0]]),(8,.cells 1 (a6.map AV.i)),(7,.cells 1 [.ms 8 0 a6.length]),(6,.cells 1 [.i a5]),(5,.cells 1 (a4.map AV.i)),(4,.cells 1 [.ms 5 0 a4.length]),(3,.cells 1 [.sl false (a3.map (SL AV.i))]),(2,.cells 1 (a2.map AV.i)),(1,.cells 1 [.ms 2 0 a2.length]),(0,.cells 1 [.i a1])],10⟩ _ (by kernel_rfl) cj0 ?_
   refine run_s (c42 9) (c42 16) (by kernel_rfl) ?_
   refine run1z (c42 11) [{},{},{ k := 1,n := a3.length }] [0,1,2,3,4,5,6,7,9,23] [.i a0,.mp 0 0 0,.mp 1 0 0,.mp 3 0 0,.mp 4 0 0,.mp 6 0 0,.mp 7 0 0,.mp 9 0 0,.i (a2.length : Int),.bool (decide ((a2.length : Int) = (a3.length : Int)))] ⟨[(9,.cells 1 [.fn 42 [.mp 0 0 0,.mp 1 0 0,.mp 3 0 0,.mp 4 0 0,.mp 6 0 0,.mp 7 0 0,.mp 9 0 0]]),(8,.cells 1 (a6.map AV.i)),(7,.cells 1 [.ms 8 0 a6.length]),(6,.cells 1 [.i a5]),(5,.cells 1 (a4.map AV.i)),(4,.cells 1 [.ms 5 0 a4.length]),(3,.cells 1 [.sl false (a3.map (SL AV.i))]),(2,.cells 1 (a2.map AV.i)),(1,.cells 1 [.ms 2 0 a2.length]),(0,.cells 1 [.i a1])],10⟩ _ (by kernel_rfl) (cj1 (mapLen a3 (SL AV.i))) ?_
   rcases iteE h with ⟨hc3,h⟩ | ⟨hc3,h⟩
   ·refine run_cT 23 (c42 12) (c42 15) (decide ((a2.length : Int) = (a3.length : Int))) hc3 (by kernel_rfl) (by kernel_rfl) ?_
    obtain ⟨r4,hr4,h⟩ := bindE h
    refine run1z (c42 14) [{},{ c := some (.ms 12 0 r4.length,⟨[(12,.cells 1 (r4.map AV.i)),(9,.cells 1 [.fn 42 [.mp 0 0 0,.mp 1 0 0,.mp 3 0 0,.mp 4 0 0,.mp 6 0 0,.mp 7 0 0,.mp 9 0 0]]),(8,.cells 1 (a6.map AV.i)),(7,.cells 1 [.ms 8 0 a6.length]),(6,.cells 1 [.i a5]),(5,.cells 1 (a4.map AV.i)),(4,.cells 1 [.ms 5 0 a4.length]),(3,.cells 1 [.sl false (a3.map (SL AV.i))]),(2,.cells 1 (a2.map AV.i)),(1,.cells 1 [.ms 2 0 a2.length]),(0,.cells 1 [.i a1])],13⟩) }] [] [] ⟨[(12,.cells 1 (r4.map AV.i)),(9,.cells 1 [.fn 42 [.mp 0 0 0,.mp 1 0 0,.mp 3 0 0,.mp 4 0 0,.mp 6 0 0,.mp 7 0 0,.mp 9 0 0]]),(8,.cells 1 (a6.map AV.i)),(7,.cells 1 [.ms 8 0 a6.length]),(6,.cells 1 [.i a5]),(4,.cells 1 [.ms 12 0 r4.length]),(3,.cells 1 [.sl false (a3.map (SL AV.i))]),(2,.cells 1 (a2.map AV.i)),(1,.cells 1 [.ms 2 0 a2.length]),(0,.cells 1 [.i a0])],13⟩ _ (by kernel_rfl) (cj1 (callF (f43_ok a2 _ hr4) [(0,2)] [(12,3),(2,0)] [9,8,7,6,5,4,3,1,0] [.ms 2 0 a2.length] ⟨[(9,.cells 1 [.fn 42 [.mp 0 0 0,.mp 1 0 0,.mp 3 0 0,.mp 4 0 0,.mp 6 0 0,.mp 7 0 0,.mp 9 0 0]]),(8,.cells 1 (a6.map AV.i)),(7,.cells 1 [.ms 8 0 a6.length]),(6,.cells 1 [.i a5]),(5,.cells 1 (a4.map AV.i)),(4,.cells 1 [.ms 5 0 a4.length]),(3,.cells 1 [.sl false (a3.map (SL AV.i))]),(2,.cells 1 (a2.map AV.i)),(1,.cells 1 [.ms 2 0 a2.length]),(0,.cells 1 [.i a1])],10⟩ (.ms 12 0 r4.length) ⟨[(12,.cells 1 (r4.map AV.i)),(9,.cells 1 [.fn 42 [.mp 0 0 0,.mp 1 0 0,.mp 3 0 0,.mp 4 0 0,.mp 6 0 0,.mp 7 0 0,.mp 9 0 0]]),(8,.cells 1 (a6.map AV.i)),(7,.cells 1 [.ms 8 0 a6.length]),(6,.cells 1 [.i a5]),(5,.cells 1 (a4.map AV.i)),(4,.cells 1 [.ms 5 0 a4.length]),(3,.cells 1 [.sl false (a3.map (SL AV.i))]),(2,.cells 1 (a2.map AV.i)),(1,.cells 1 [.ms 2 0 a2.length]),(0,.cells 1 [.i a1])],13⟩ (by kernel_rfl) (.k (.ms rfl rfl) .z) (.ms rfl rfl) (.k (x' := .cells 1 (a2.map AV.i)) (by kernel_rfl) (.cells (.r (cleanMap _ _ cl_i))) .z) (.d (x' := .cells 1 (r4.map AV.i)) rfl (by kernel_rfl) (.cells (.r (cleanMap _ _ cl_i))) (.f rfl (by kernel_rfl) (.f rfl (by kernel_rfl) (.f rfl (by kernel_rfl) (.f rfl (by kernel_rfl) (.f rfl (by kernel_rfl) (.f rfl (by kernel_rfl) (.f rfl (by kernel_rfl) (.d (x' := .cells 1 (a2.map AV.i)) rfl (by kernel_rfl) (.cells (.r (cleanMap _ _ cl_i))) (.f rfl (by kernel_rfl) (.f rfl (by kernel_rfl) .z))))))))))))) ?_
    refine run_i 13 [(13,2),(14,12)] [] [] (xs := []) (S2 := ⟨[(14,.cells 1 (r4.map AV.i)),(13,.cells 1 (a2.map AV.i)),(9,.cells 1 [.fn 42 [.mp 0 0 0,.mp 1 0 0,.mp 3 0 0,.mp 4 0 0,.mp 6 0 0,.mp 7 0 0,.mp 9 0 0]]),(8,.cells 1 (a6.map AV.i)),(7,.cells 1 [.ms 8 0 a6.length]),(6,.cells 1 [.i a5]),(4,.cells 1 [.ms 14 0 r4.length]),(3,.cells 1 [.sl false (a3.map (SL AV.i))]),(1,.cells 1 [.ms 13 0 a2.length]),(0,.cells 1 [.i a0])],15⟩) ?_ (by intro i e; cases e <;> exact Nat.le_of_ble_eq_true rfl) (by kernel_rfl) (by kernel_rfl) (by kernel_rfl) .z (.k (x' := .cells 1 (r4.map AV.i)) (by kernel_rfl) (.cells (.r (cleanMap _ _ cl_i))) (.k (x' := .cells 1 (a2.map AV.i)) (by kernel_rfl) (.cells (.r (cleanMap _ _ cl_i))) (.k (x' := .cells 1 [.fn 42 [.mp 0 0 0,.mp 1 0 0,.mp 3 0 0,.mp 4 0 0,.mp 6 0 0,.mp 7 0 0,.mp 9 0 0]]) (by kernel_rfl) (.cells (.k (.f (.k (.mp rfl rfl) (.k (.mp rfl rfl) (.k (.mp rfl rfl) (.k (.mp rfl rfl) (.k (.mp rfl rfl) (.k (.mp rfl rfl) (.k (.mp rfl rfl) .z)))))))) .z)) (.k (x' := .cells 1 (a6.map AV.i)) (by kernel_rfl) (.cells (.r (cleanMap _ _ cl_i))) (.k (x' := .cells 1 [.ms 8 0 a6.length]) (by kernel_rfl) (.cells (.k (.ms rfl rfl) .z)) (.k (x' := .cells 1 [.i a5]) (by kernel_rfl) (.cells (.k (.c rfl) .z)) (.k (x' := .cells 1 [.ms 12 0 r4.length]) (by kernel_rfl) (.cells (.k (.ms rfl rfl) .z)) (.k (x' := .cells 1 [.sl false (a3.map (SL AV.i))]) (by kernel_rfl) (.cells (.k (.c (cleanMap _ _ (cl_SL cl_i))) .z)) (.k (x' := .cells 1 [.ms 2 0 a2.length]) (by kernel_rfl) (.cells (.k (.ms rfl rfl) .z)) (.k (x' := .cells 1 [.i a0]) (by kernel_rfl) (.cells (.k (.c rfl) .z)) .z))))))))))
    refine run_t (by kernel_rfl) ?_
    refine thenR ?_
    replace h := Option.some.inj h; subst h
    exact fin_p [14,13,9,8,7,6,4,3,1,0] ⟨[(14,.cells 1 (r4.map AV.i)),(13,.cells 1 (a2.map AV.i)),(9,.cells 1 [.fn 42 [.mp 0 0 0,.mp 1 0 0,.mp 3 0 0,.mp 4 0 0,.mp 6 0 0,.mp 7 0 0,.mp 9 0 0]]),(8,.cells 1 (a6.map AV.i)),(7,.cells 1 [.ms 8 0 a6.length]),(6,.cells 1 [.i a5]),(4,.cells 1 [.ms 14 0 r4.length]),(3,.cells 1 [.sl false (a3.map (SL AV.i))]),(1,.cells 1 [.ms 13 0 a2.length]),(0,.cells 1 [.i a0])],15⟩ (by kernel_rfl) (by kernel_rfl) rfl ⟨rfl,rfl⟩
   ·refine run_cF 23 (c42 12) (c42 15) (decide ((a2.length : Int) = (a3.length : Int))) hc3 (by kernel_rfl) (by kernel_rfl) ?_
    refine run_k (by kernel_rfl) ?_
    refine thenN ?_
    refine run1z (c42 18) [] [0,2,3,6,7,9,27,28] [.i a0,.mp 1 0 0,.mp 3 0 0,.mp 7 0 0,.mp 9 0 0,.i (a2.length : Int),.i a5,.i 0] ⟨[(9,.cells 1 [.fn 42 [.mp 0 0 0,.mp 1 0 0,.mp 3 0 0,.mp 4 0 0,.mp 6 0 0,.mp 7 0 0,.mp 9 0 0]]),(8,.cells 1 (a6.map AV.i)),(7,.cells 1 [.ms 8 0 a6.length]),(6,.cells 1 [.i a5]),(5,.cells 1 (a4.map AV.i)),(4,.cells 1 [.ms 5 0 a4.length]),(3,.cells 1 [.sl false (a3.map (SL AV.i))]),(2,.cells 1 (a2.map AV.i)),(1,.cells 1 [.ms 2 0 a2.length]),(0,.cells 1 [.i a1])],10⟩ _ (by kernel_rfl) cj0 ?_
    obtain ⟨ol2x,hll2x,h⟩ := bindE h
    refine awp_post (by intro i e; cases e <;> exact Nat.le_of_ble_eq_true rfl) ?_
    refine run_tq (fun ((l2x_h0,l2x_h1,l2x_h4,l2x_h7) : (Int × List Int × List Int × List Int)) => (zipE [] [])) (fun ((l2x_h0,l2x_h1,l2x_h4,l2x_h7) : (Int × List Int × List Int × List Int)) => ⟨[(11,.cells 1 (l2x_h4.map AV.i)),(10,.cells 1 (l2x_h1.map AV.i)),(9,.cells 1 [.fn 42 [.mp 0 0 0,.mp 1 0 0,.mp 3 0 0,.mp 4 0 0,.mp 6 0 0,.mp 7 0 0,.mp 9 0 0]]),(8,.cells 1 (l2x_h7.map AV.i)),(7,.cells 1 [.ms 8 0 l2x_h7.length]),(6,.cells 1 [.i a5]),(4,.cells 1 [.ms 11 0 l2x_h4.length]),(3,.cells 1 [.sl false (a3.map (SL AV.i))]),(1,.cells 1 [.ms 10 0 l2x_h1.length]),(0,.cells 1 [.i l2x_h0])],12⟩) (fun j => ol2x = j) (fun kl2 => ?_) ?_
    ·refine run_b 0 (c42 19) (by kernel_rfl) ?_
     refine run_l (c42 20) _ hll2x (fun ((l2_h1,l2_h7,l2_h0,l2_h4,l2_28) : (List Int × List Int × Int × List Int × Int)) => (zipE [0,2,3,6,7,9,27,28] [.i a0,.mp 1 0 0,.mp 3 0 0,.mp 7 0 0,.mp 9 0 0,.i (a2.length : Int),.i a5,.i l2_28])) (fun ((l2_h1,l2_h7,l2_h0,l2_h4,l2_28) : (List Int × List Int × Int × List Int × Int)) => ⟨[(11,.cells 1 (l2_h4.map AV.i)),(10,.cells 1 (l2_h1.map AV.i)),(9,.cells 1 [.fn 42 [.mp 0 0 0,.mp 1 0 0,.mp 3 0 0,.mp 4 0 0,.mp 6 0 0,.mp 7 0 0,.mp 9 0 0]]),(8,.cells 1 (l2_h7.map AV.i)),(7,.cells 1 [.ms 8 0 l2_h7.length]),(6,.cells 1 [.i a5]),(4,.cells 1 [.ms 11 0 l2_h4.length]),(3,.cells 1 [.sl false (a3.map (SL AV.i))]),(1,.cells 1 [.ms 10 0 l2_h1.length]),(0,.cells 1 [.i l2_h0])],12⟩) [(10,2),(11,5)] (by intro i e; cases e <;> exact Nat.le_of_ble_eq_true rfl) (by kernel_rfl) (mkInto (ks := [0,2,3,6,7,9,27,28]) (ys := [.i a0,.mp 1 0 0,.mp 3 0 0,.mp 7 0 0,.mp 9 0 0,.i (a2.length : Int),.i a5,.i 0]) (by kernel_rfl) (by kernel_rfl) (.k (.c rfl) (.k (.mp rfl rfl) (.k (.mp rfl rfl) (.k (.mp rfl rfl) (.k (.mp rfl rfl) (.k (.c rfl) (.k (.c rfl) (.k (.c rfl) .z)))))))) (.k (x' := .cells 1 (a4.map AV.i)) (by kernel_rfl) (.cells (.r (cleanMap _ _ cl_i))) (.k (x' := .cells 1 (a2.map AV.i)) (by kernel_rfl) (.cells (.r (cleanMap _ _ cl_i))) (.k (x' := .cells 1 [.fn 42 [.mp 0 0 0,.mp 1 0 0,.mp 3 0 0,.mp 4 0 0,.mp 6 0 0,.mp 7 0 0,.mp 9 0 0]]) (by kernel_rfl) (.cells (.k (.f (.k (.mp rfl rfl) (.k (.mp rfl rfl) (.k (.mp rfl rfl) (.k (.mp rfl rfl) (.k (.mp rfl rfl) (.k (.mp rfl rfl) (.k (.mp rfl rfl) .z)))))))) .z)) (.k (x' := .cells 1 (a6.map AV.i)) (by kernel_rfl) (.cells (.r (cleanMap _ _ cl_i))) (.k (x' := .cells 1 [.ms 8 0 a6.length]) (by kernel_rfl) (.cells (.k (.ms rfl rfl) .z)) (.k (x' := .cells 1 [.i a5]) (by kernel_rfl) (.cells (.k (.c rfl) .z)) (.k (x' := .cells 1 [.ms 5 0 a4.length]) (by kernel_rfl) (.cells (.k (.ms rfl rfl) .z)) (.k (x' := .cells 1 [.sl false (a3.map (SL AV.i))]) (by kernel_rfl) (.cells (.k (.c (cleanMap _ _ (cl_SL cl_i))) .z)) (.k (x' := .cells 1 [.ms 2 0 a2.length]) (by kernel_rfl) (.cells (.k (.ms rfl rfl) .z)) (.k (x' := .cells 1 [.i a1]) (by kernel_rfl) (.cells (.k (.c rfl) .z)) .z))))))))))) ?_
     rintro ⟨l2_h1,l2_h7,l2_h0,l2_h4,l2_28⟩ out hl2 rl2
     refine run1z (c42 22) [] [0,2,3,6,7,9,27,28,29] [.i a0,.mp 1 0 0,.mp 3 0 0,.mp 7 0 0,.mp 9 0 0,.i (a2.length : Int),.i a5,.i l2_28,.bool (decide (l2_28 < a5))] ⟨[(11,.cells 1 (l2_h4.map AV.i)),(10,.cells 1 (l2_h1.map AV.i)),(9,.cells 1 [.fn 42 [.mp 0 0 0,.mp 1 0 0,.mp 3 0 0,.mp 4 0 0,.mp 6 0 0,.mp 7 0 0,.mp 9 0 0]]),(8,.cells 1 (l2_h7.map AV.i)),(7,.cells 1 [.ms 8 0 l2_h7.length]),(6,.cells 1 [.i a5]),(4,.cells 1 [.ms 11 0 l2_h4.length]),(3,.cells 1 [.sl false (a3.map (SL AV.i))]),(1,.cells 1 [.ms 10 0 l2_h1.length]),(0,.cells 1 [.i l2_h0])],12⟩ _ (by kernel_rfl) cj0 ?_
     refine run_s (c42 23) (c42 26) (by kernel_rfl) ?_
     rcases iteE hl2 with ⟨hc5,hl2⟩ | ⟨hc5,hl2⟩
     ·refine run_cT 29 (c42 24) (c42 25) (decide (l2_28 < a5)) hc5 (by kernel_rfl) (by kernel_rfl) ?_
      refine run_k (by kernel_rfl) ?_
      refine thenN ?_
      obtain ⟨oj3,hj3,hl2⟩ := bindE hl2
      refine run_jq (c42 27) (c42 45) (fun ((j3_h1,j3_h7,j3_h0,j3_h4) : (List Int × List Int × Int × List Int)) => (zipE [0,2,3,6,7,9,27,28] [.i a0,.mp 1 0 0,.mp 3 0 0,.mp 7 0 0,.mp 9 0 0,.i (a2.length : Int),.i a5,.i l2_28])) (fun ((j3_h1,j3_h7,j3_h0,j3_h4) : (List Int × List Int × Int × List Int)) => ⟨[(19,.cells 1 (j3_h4.map AV.i)),(18,.cells 1 (j3_h1.map AV.i)),(9,.cells 1 [.fn 42 [.mp 0 0 0,.mp 1 0 0,.mp 3 0 0,.mp 4 0 0,.mp 6 0 0,.mp 7 0 0,.mp 9 0 0]]),(8,.cells 1 (j3_h7.map AV.i)),(7,.cells 1 [.ms 8 0 j3_h7.length]),(6,.cells 1 [.i a5]),(4,.cells 1 [.ms 19 0 j3_h4.length]),(3,.cells 1 [.sl false (a3.map (SL AV.i))]),(1,.cells 1 [.ms 18 0 j3_h1.length]),(0,.cells 1 [.i j3_h0])],20⟩) (fun j => oj3 = j) (by kernel_rfl) (fun kj3 => ?_) ?_
      ·refine run_b 1 (c42 28) (by kernel_rfl) ?_
       refine run1z (c42 30) [] [0,2,3,6,7,9,10,27,28] [.i a0,.mp 1 0 0,.mp 3 0 0,.mp 7 0 0,.mp 9 0 0,.i (a2.length : Int),.i l2_28,.i a5,.i l2_28] ⟨[(11,.cells 1 (l2_h4.map AV.i)),(10,.cells 1 (l2_h1.map AV.i)),(9,.cells 1 [.fn 42 [.mp 0 0 0,.mp 1 0 0,.mp 3 0 0,.mp 4 0 0,.mp 6 0 0,.mp 7 0 0,.mp 9 0 0]]),(8,.cells 1 (l2_h7.map AV.i)),(7,.cells 1 [.ms 8 0 l2_h7.length]),(6,.cells 1 [.i a5]),(4,.cells 1 [.ms 11 0 l2_h4.length]),(3,.cells 1 [.sl false (a3.map (SL AV.i))]),(1,.cells 1 [.ms 10 0 l2_h1.length]),(0,.cells 1 [.i l2_h0])],12⟩ _ (by kernel_rfl) cj0 ?_
       refine run_s (c42 31) (c42 36) (by kernel_rfl) ?_
       obtain ⟨y6,hy6,hj3⟩ := bindE hj3
       refine run1z (c42 33) [{},{},{ k := 1,n := l2_28.toNat },{ k := 1,x := AV.i y6 }] [0,2,3,6,7,9,10,27,28,35] [.i a0,.mp 1 0 0,.mp 3 0 0,.mp 7 0 0,.mp 9 0 0,.i (a2.length : Int),.i l2_28,.i a5,.i l2_28,.bool (decide (y6 = 0))] ⟨[(11,.cells 1 (l2_h4.map AV.i)),(10,.cells 1 (l2_h1.map AV.i)),(9,.cells 1 [.fn 42 [.mp 0 0 0,.mp 1 0 0,.mp 3 0 0,.mp 4 0 0,.mp 6 0 0,.mp 7 0 0,.mp 9 0 0]]),(8,.cells 1 (l2_h7.map AV.i)),(7,.cells 1 [.ms 8 0 l2_h7.length]),(6,.cells 1 [.i a5]),(4,.cells 1 [.ms 11 0 l2_h4.length]),(3,.cells 1 [.sl false (a3.map (SL AV.i))]),(1,.cells 1 [.ms 10 0 l2_h1.length]),(0,.cells 1 [.i l2_h0])],12⟩ _ (by kernel_rfl) (cjC ((ixE hy6).1) (cjC (ixLt hy6) (cjC (Nat.zero_add l2_28.toNat) (cj1 (mapGet AV.i (ixE hy6).2))))) ?_
       rcases iteE hj3 with ⟨hc7,hj3⟩ | ⟨hc7,hj3⟩
       ·refine run_cT 35 (c42 34) (c42 35) (decide (y6 = 0)) hc7 (by kernel_rfl) (by kernel_rfl) ?_
        replace hj3 := Option.some.inj hj3; subst hj3
        refine run_i 18 [(18,10),(19,11)] [0,2,3,6,7,9,27,28] [.i a0,.mp 1 0 0,.mp 3 0 0,.mp 7 0 0,.mp 9 0 0,.i (a2.length : Int),.i a5,.i l2_28] (xs := [.i a0,.mp 1 0 0,.mp 3 0 0,.mp 7 0 0,.mp 9 0 0,.i (a2.length : Int),.i a5,.i l2_28]) (S2 := ⟨[(19,.cells 1 (l2_h4.map AV.i)),(18,.cells 1 (l2_h1.map AV.i)),(9,.cells 1 [.fn 42 [.mp 0 0 0,.mp 1 0 0,.mp 3 0 0,.mp 4 0 0,.mp 6 0 0,.mp 7 0 0,.mp 9 0 0]]),(8,.cells 1 (l2_h7.map AV.i)),(7,.cells 1 [.ms 8 0 l2_h7.length]),(6,.cells 1 [.i a5]),(4,.cells 1 [.ms 19 0 l2_h4.length]),(3,.cells 1 [.sl false (a3.map (SL AV.i))]),(1,.cells 1 [.ms 18 0 l2_h1.length]),(0,.cells 1 [.i l2_h0])],20⟩) ?_ (by intro i e; cases e <;> exact Nat.le_of_ble_eq_true rfl) (by kernel_rfl) (by kernel_rfl) (by kernel_rfl) (.k (.c rfl) (.k (.mp rfl rfl) (.k (.mp rfl rfl) (.k (.mp rfl rfl) (.k (.mp rfl rfl) (.k (.c rfl) (.k (.c rfl) (.k (.c rfl) .z)))))))) (.k (x' := .cells 1 (l2_h4.map AV.i)) (by kernel_rfl) (.cells (.r (cleanMap _ _ cl_i))) (.k (x' := .cells 1 (l2_h1.map AV.i)) (by kernel_rfl) (.cells (.r (cleanMap _ _ cl_i))) (.k (x' := .cells 1 [.fn 42 [.mp 0 0 0,.mp 1 0 0,.mp 3 0 0,.mp 4 0 0,.mp 6 0 0,.mp 7 0 0,.mp 9 0 0]]) (by kernel_rfl) (.cells (.k (.f (.k (.mp rfl rfl) (.k (.mp rfl rfl) (.k (.mp rfl rfl) (.k (.mp rfl rfl) (.k (.mp rfl rfl) (.k (.mp rfl rfl) (.k (.mp rfl rfl) .z)))))))) .z)) (.k (x' := .cells 1 (l2_h7.map AV.i)) (by kernel_rfl) (.cells (.r (cleanMap _ _ cl_i))) (.k (x' := .cells 1 [.ms 8 0 l2_h7.length]) (by kernel_rfl) (.cells (.k (.ms rfl rfl) .z)) (.k (x' := .cells 1 [.i a5]) (by kernel_rfl) (.cells (.k (.c rfl) .z)) (.k (x' := .cells 1 [.ms 11 0 l2_h4.length]) (by kernel_rfl) (.cells (.k (.ms rfl rfl) .z)) (.k (x' := .cells 1 [.sl false (a3.map (SL AV.i))]) (by kernel_rfl) (.cells (.k (.c (cleanMap _ _ (cl_SL cl_i))) .z)) (.k (x' := .cells 1 [.ms 10 0 l2_h1.length]) (by kernel_rfl) (.cells (.k (.ms rfl rfl) .z)) (.k (x' := .cells 1 [.i l2_h0]) (by kernel_rfl) (.cells (.k (.c rfl) .z)) .z))))))))))
        refine run_e 1 (by kernel_rfl) ?_
        refine thenE ?_
        refine inbE ?_
        refine thenN ?_
        exact kj3 (l2_h1,l2_h7,l2_h0,l2_h4) rfl
       ·refine run_cF 35 (c42 34) (c42 35) (decide (y6 = 0)) hc7 (by kernel_rfl) (by kernel_rfl) ?_
        refine run_k (by kernel_rfl) ?_
        refine thenN ?_
        refine run1z (c42 38) [{},{},{ k := 1,n := l2_28.toNat },{ k := 1,x := AV.i y6 },{},{ k := 1,n := l2_28.toNat },{ k := 1,x := AV.i y6,l := (l2_h7.set l2_28.toNat (wr (y6 - 1))).map AV.i }] [0,2,3,6,7,9,10,27,28] [.i a0,.mp 1 0 0,.mp 3 0 0,.mp 7 0 0,.mp 9 0 0,.i (a2.length : Int),.i l2_28,.i a5,.i l2_28] ⟨[(11,.cells 1 (l2_h4.map AV.i)),(10,.cells 1 (l2_h1.map AV.i)),(9,.cells 1 [.fn 42 [.mp 0 0 0,.mp 1 0 0,.mp 3 0 0,.mp 4 0 0,.mp 6 0 0,.mp 7 0 0,.mp 9 0 0]]),(8,.cells 1 ((l2_h7.set l2_28.toNat (wr (y6 - 1))).map AV.i)),(7,.cells 1 [.ms 8 0 l2_h7.length]),(6,.cells 1 [.i a5]),(4,.cells 1 [.ms 11 0 l2_h4.length]),(3,.cells 1 [.sl false (a3.map (SL AV.i))]),(1,.cells 1 [.ms 10 0 l2_h1.length]),(0,.cells 1 [.i l2_h0])],12⟩ _ (by kernel_rfl) (cjC ((ixE hy6).1) (cjC (ixLt hy6) (cjC (Nat.zero_add l2_28.toNat) (cjC (mapGet AV.i (ixE hy6).2) (cjC ((ixE hy6).1) (cjC (ixLt hy6) (cjC (Nat.zero_add l2_28.toNat) (cjC (mapGet AV.i (ixE hy6).2) (cjC ((by decide : (1 : Nat) ≤ 1)) (cj1 (mapSet l2_h7 AV.i l2_28.toNat (wr (y6 - 1))))))))))))) ?_
        refine run_i 12 [] [0,2,3,6,7,9,10,27,28] [.i a0,.mp 1 0 0,.mp 3 0 0,.mp 7 0 0,.mp 9 0 0,.i (a2.length : Int),.i l2_28,.i a5,.i l2_28] (xs := [.i a0,.mp 1 0 0,.mp 3 0 0,.mp 7 0 0,.mp 9 0 0,.i (a2.length : Int),.i l2_28,.i a5,.i l2_28]) (S2 := ⟨[(11,.cells 1 (l2_h4.map AV.i)),(10,.cells 1 (l2_h1.map AV.i)),(9,.cells 1 [.fn 42 [.mp 0 0 0,.mp 1 0 0,.mp 3 0 0,.mp 4 0 0,.mp 6 0 0,.mp 7 0 0,.mp 9 0 0]]),(8,.cells 1 ((l2_h7.set l2_28.toNat (wr (y6 - 1))).map AV.i)),(7,.cells 1 [.ms 8 0 (l2_h7.set l2_28.toNat (wr (y6 - 1))).length]),(6,.cells 1 [.i a5]),(4,.cells 1 [.ms 11 0 l2_h4.length]),(3,.cells 1 [.sl false (a3.map (SL AV.i))]),(1,.cells 1 [.ms 10 0 l2_h1.length]),(0,.cells 1 [.i l2_h0])],12⟩) ?_ (by intro i e; cases e <;> exact Nat.le_of_ble_eq_true rfl) (by kernel_rfl) (by kernel_rfl) (by kernel_rfl) (.k (.c rfl) (.k (.mp rfl rfl) (.k (.mp rfl rfl) (.k (.mp rfl rfl) (.k (.mp rfl rfl) (.k (.c rfl) (.k (.c rfl) (.k (.c rfl) (.k (.c rfl) .z))))))))) (.k (x' := .cells 1 (l2_h4.map AV.i)) (by kernel_rfl) (.cells (.r (cleanMap _ _ cl_i))) (.k (x' := .cells 1 (l2_h1.map AV.i)) (by kernel_rfl) (.cells (.r (cleanMap _ _ cl_i))) (.k (x' := .cells 1 [.fn 42 [.mp 0 0 0,.mp 1 0 0,.mp 3 0 0,.mp 4 0 0,.mp 6 0 0,.mp 7 0 0,.mp 9 0 0]]) (by kernel_rfl) (.cells (.k (.f (.k (.mp rfl rfl) (.k (.mp rfl rfl) (.k (.mp rfl rfl) (.k (.mp rfl rfl) (.k (.mp rfl rfl) (.k (.mp rfl rfl) (.k (.mp rfl rfl) .z)))))))) .z)) (.k (x' := .cells 1 ((l2_h7.set l2_28.toNat (wr (y6 - 1))).map AV.i)) (by kernel_rfl) (.cells (.r (cleanMap _ _ cl_i))) (.k (x' := .cells 1 [.ms 8 0 l2_h7.length]) (by kernel_rfl) (.cells (.k (.e rfl rfl (by simp)) .z)) (.k (x' := .cells 1 [.i a5]) (by kernel_rfl) (.cells (.k (.c rfl) .z)) (.k (x' := .cells 1 [.ms 11 0 l2_h4.length]) (by kernel_rfl) (.cells (.k (.ms rfl rfl) .z)) (.k (x' := .cells 1 [.sl false (a3.map (SL AV.i))]) (by kernel_rfl) (.cells (.k (.c (cleanMap _ _ (cl_SL cl_i))) .z)) (.k (x' := .cells 1 [.ms 10 0 l2_h1.length]) (by kernel_rfl) (.cells (.k (.ms rfl rfl) .z)) (.k (x' := .cells 1 [.i l2_h0]) (by kernel_rfl) (.cells (.k (.c rfl) .z)) .z))))))))))
        obtain ⟨hn8,hj3⟩ := needE hj3
        refine run1z (c42 40) [{},{},{},{ k := 1,n := (l2_h1 ++ [l2_28]).length,l := (l2_h1 ++ [l2_28]).map AV.i }] [0,2,3,6,7,9,10,27,28] [.i a0,.mp 1 0 0,.mp 3 0 0,.mp 7 0 0,.mp 9 0 0,.i (a2.length : Int),.i l2_28,.i a5,.i l2_28] ⟨[(12,.cells 1 ((l2_h1 ++ [l2_28]).map AV.i)),(11,.cells 1 (l2_h4.map AV.i)),(9,.cells 1 [.fn 42 [.mp 0 0 0,.mp 1 0 0,.mp 3 0 0,.mp 4 0 0,.mp 6 0 0,.mp 7 0 0,.mp 9 0 0]]),(8,.cells 1 ((l2_h7.set l2_28.toNat (wr (y6 - 1))).map AV.i)),(7,.cells 1 [.ms 8 0 (l2_h7.set l2_28.toNat (wr (y6 - 1))).length]),(6,.cells 1 [.i a5]),(4,.cells 1 [.ms 11 0 l2_h4.length]),(3,.cells 1 [.sl false (a3.map (SL AV.i))]),(1,.cells 1 [.ms 12 0 (l2_h1 ++ [l2_28]).length]),(0,.cells 1 [.i l2_h0])],13⟩ _ (by kernel_rfl) (cjC (@List.cons_ne_nil AV (.i l2_28) []) (cjC (mLe l2_h1 AV.i) (cjC (hn8) (cjC (lenA l2_h1 ([l2_28] : List Int)) (cjC (appA l2_h1 ([l2_28] : List Int) AV.i) (cj1 (fitsOne (P := Try.prog) (t := 3) (x := .i l2_28) (r := []) (by kernel_rfl)))))))) ?_
        obtain ⟨y9,hy9,hj3⟩ := bindE hj3
        obtain ⟨y10,hy10,hj3⟩ := bindE hj3
        obtain ⟨r11,hr11,hj3⟩ := bindE hj3
        refine yun1z (c42 42) [[],[],[],[],[2,3],[2,3,4],[],[2,3,4,5,6],[2,3,4,5,6,7],[1,2,3,4,5,6,7,8],[0,1,2,3,4,5,6,7,8,9]] [.light 0 false,.light 1 false,.light 2 false,.light 3 false,.light 4 false,.light 5 false,.light 6 false,.light 7 false,.light 8 false,.light 9 false,.heavy 10 []] [{},{},{},{},{ k := 1,x := (SL AV.i) y9 },{},{},{ k := 1,x := AV.i y10 },{},{},{ c := some (.tup [],⟨[(17,.cells 1 (r11.2.2.1.map AV.i)),(16,.cells 1 (r11.2.1.map AV.i)),(9,.cells 1 [.fn 42 [.mp 0 0 0,.mp 1 0 0,.mp 3 0 0,.mp 4 0 0,.mp 6 0 0,.mp 7 0 0,.mp 9 0 0]]),(8,.cells 1 (r11.2.2.2.map AV.i)),(7,.cells 1 [.ms 8 0 r11.2.2.2.length]),(6,.cells 1 [.i a5]),(4,.cells 1 [.ms 17 0 r11.2.2.1.length]),(3,.cells 1 [.sl false (a3.map (SL AV.i))]),(1,.cells 1 [.ms 16 0 r11.2.1.length]),(0,.cells 1 [.i r11.1])],18⟩) }] [0,2,3,6,7,9,10,27,28] [.i a0,.mp 1 0 0,.mp 3 0 0,.mp 7 0 0,.mp 9 0 0,.i (a2.length : Int),.i l2_28,.i a5,.i l2_28] ⟨[(17,.cells 1 (r11.2.2.1.map AV.i)),(16,.cells 1 (r11.2.1.map AV.i)),(9,.cells 1 [.fn 42 [.mp 0 0 0,.mp 1 0 0,.mp 3 0 0,.mp 4 0 0,.mp 6 0 0,.mp 7 0 0,.mp 9 0 0]]),(8,.cells 1 (r11.2.2.2.map AV.i)),(7,.cells 1 [.ms 8 0 r11.2.2.2.length]),(6,.cells 1 [.i a5]),(4,.cells 1 [.ms 17 0 r11.2.2.1.length]),(3,.cells 1 [.sl false (a3.map (SL AV.i))]),(1,.cells 1 [.ms 16 0 r11.2.1.length]),(0,.cells 1 [.i r11.1])],18⟩ _ (by kernel_rfl) (cjC ((ixE hy9).1) (cjC (mapGet (SL AV.i) (ixE hy9).2) (cjC ((ixE hy10).1) (cjC (mapGet AV.i (ixE hy10).2) (cj1 (callF (ih (wr (a0 + y10)) l2_h0 (l2_h1 ++ [l2_28]) a3 l2_h4 a5 (l2_h7.set l2_28.toNat (wr (y6 - 1))) _ hr11) [(0,0),(1,1),(2,12),(3,3),(4,4),(5,11),(6,6),(7,7),(8,8),(9,9)] [(17,14),(16,13),(9,9),(8,8),(7,7),(6,6),(4,4),(3,3),(1,1),(0,0)] [] [.i (wr (a0 + y10)),.mp 0 0 0,.mp 1 0 0,.mp 3 0 0,.mp 4 0 0,.mp 6 0 0,.mp 7 0 0,.mp 9 0 0] ⟨[(12,.cells 1 ((l2_h1 ++ [l2_28]).map AV.i)),(11,.cells 1 (l2_h4.map AV.i)),(9,.cells 1 [.fn 42 [.mp 0 0 0,.mp 1 0 0,.mp 3 0 0,.mp 4 0 0,.mp 6 0 0,.mp 7 0 0,.mp 9 0 0]]),(8,.cells 1 ((l2_h7.set l2_28.toNat (wr (y6 - 1))).map AV.i)),(7,.cells 1 [.ms 8 0 (l2_h7.set l2_28.toNat (wr (y6 - 1))).length]),(6,.cells 1 [.i a5]),(4,.cells 1 [.ms 11 0 l2_h4.length]),(3,.cells 1 [.sl false (a3.map (SL AV.i))]),(1,.cells 1 [.ms 12 0 (l2_h1 ++ [l2_28]).length]),(0,.cells 1 [.i l2_h0])],13⟩ (.tup []) ⟨[(17,.cells 1 (r11.2.2.1.map AV.i)),(16,.cells 1 (r11.2.1.map AV.i)),(9,.cells 1 [.fn 42 [.mp 0 0 0,.mp 1 0 0,.mp 3 0 0,.mp 4 0 0,.mp 6 0 0,.mp 7 0 0,.mp 9 0 0]]),(8,.cells 1 (r11.2.2.2.map AV.i)),(7,.cells 1 [.ms 8 0 r11.2.2.2.length]),(6,.cells 1 [.i a5]),(4,.cells 1 [.ms 17 0 r11.2.2.1.length]),(3,.cells 1 [.sl false (a3.map (SL AV.i))]),(1,.cells 1 [.ms 16 0 r11.2.1.length]),(0,.cells 1 [.i r11.1])],18⟩ (by kernel_rfl) (.k (.c rfl) (.k (.mp rfl rfl) (.k (.mp rfl rfl) (.k (.mp rfl rfl) (.k (.mp rfl rfl) (.k (.mp rfl rfl) (.k (.mp rfl rfl) (.k (.mp rfl rfl) .z)))))))) (.t .z) (.k (x' := .cells 1 [.fn 42 [.mp 0 0 0,.mp 1 0 0,.mp 3 0 0,.mp 4 0 0,.mp 6 0 0,.mp 7 0 0,.mp 9 0 0]]) (by kernel_rfl) (.cells (.k (.f (.k (.mp rfl rfl) (.k (.mp rfl rfl) (.k (.mp rfl rfl) (.k (.mp rfl rfl) (.k (.mp rfl rfl) (.k (.mp rfl rfl) (.k (.mp rfl rfl) .z)))))))) .z)) (.k (x' := .cells 1 ((l2_h7.set l2_28.toNat (wr (y6 - 1))).map AV.i)) (by kernel_rfl) (.cells (.r (cleanMap _ _ cl_i))) (.k (x' := .cells 1 [.ms 8 0 (l2_h7.set l2_28.toNat (wr (y6 - 1))).length]) (by kernel_rfl) (.cells (.k (.ms rfl rfl) .z)) (.k (x' := .cells 1 [.i a5]) (by kernel_rfl) (.cells (.k (.c rfl) .z)) (.k (x' := .cells 1 (l2_h4.map AV.i)) (by kernel_rfl) (.cells (.r (cleanMap _ _ cl_i))) (.k (x' := .cells 1 [.ms 11 0 l2_h4.length]) (by kernel_rfl) (.cells (.k (.ms rfl rfl) .z)) (.k (x' := .cells 1 [.sl false (a3.map (SL AV.i))]) (by kernel_rfl) (.cells (.k (.c (cleanMap _ _ (cl_SL cl_i))) .z)) (.k (x' := .cells 1 ((l2_h1 ++ [l2_28]).map AV.i)) (by kernel_rfl) (.cells (.r (cleanMap _ _ cl_i))) (.k (x' := .cells 1 [.ms 12 0 (l2_h1 ++ [l2_28]).length]) (by kernel_rfl) (.cells (.k (.ms rfl rfl) .z)) (.k (x' := .cells 1 [.i l2_h0]) (by kernel_rfl) (.cells (.k (.c rfl) .z)) .z)))))))))) (.d (x' := .cells 1 (r11.2.2.1.map AV.i)) rfl (by kernel_rfl) (.cells (.r (cleanMap _ _ cl_i))) (.d (x' := .cells 1 (r11.2.1.map AV.i)) rfl (by kernel_rfl) (.cells (.r (cleanMap _ _ cl_i))) (.d (x' := .cells 1 [.fn 42 [.mp 0 0 0,.mp 1 0 0,.mp 3 0 0,.mp 4 0 0,.mp 6 0 0,.mp 7 0 0,.mp 9 0 0]]) rfl (by kernel_rfl) (.cells (.k (.f (.k (.mp rfl rfl) (.k (.mp rfl rfl) (.k (.mp rfl rfl) (.k (.mp rfl rfl) (.k (.mp rfl rfl) (.k (.mp rfl rfl) (.k (.mp rfl rfl) .z)))))))) .z)) (.d (x' := .cells 1 (r11.2.2.2.map AV.i)) rfl (by kernel_rfl) (.cells (.r (cleanMap _ _ cl_i))) (.d (x' := .cells 1 [.ms 8 0 r11.2.2.2.length]) rfl (by kernel_rfl) (.cells (.k (.ms rfl rfl) .z)) (.d (x' := .cells 1 [.i a5]) rfl (by kernel_rfl) (.cells (.k (.c rfl) .z)) (.d (x' := .cells 1 [.ms 14 0 r11.2.2.1.length]) rfl (by kernel_rfl) (.cells (.k (.ms rfl rfl) .z)) (.d (x' := .cells 1 [.sl false (a3.map (SL AV.i))]) rfl (by kernel_rfl) (.cells (.k (.c (cleanMap _ _ (cl_SL cl_i))) .z)) (.d (x' := .cells 1 [.ms 13 0 r11.2.1.length]) rfl (by kernel_rfl) (.cells (.k (.ms rfl rfl) .z)) (.d (x' := .cells 1 [.i r11.1]) rfl (by kernel_rfl) (.cells (.k (.c rfl) .z)) .z)))))))))))))))) ?_
        obtain ⟨hn12,hj3⟩ := needE hj3
        obtain ⟨hn13,hj3⟩ := needE hj3
        refine run1z (c42 44) [{},{},{ k := 1,n := 0,m := (a2.length : Int).toNat,q := 0,p := (a2.length : Int).toNat }] [0,2,3,6,7,9,10,27,28] [.i a0,.mp 1 0 0,.mp 3 0 0,.mp 7 0 0,.mp 9 0 0,.i (a2.length : Int),.i l2_28,.i a5,.i l2_28] ⟨[(17,.cells 1 (r11.2.2.1.map AV.i)),(16,.cells 1 (r11.2.1.map AV.i)),(9,.cells 1 [.fn 42 [.mp 0 0 0,.mp 1 0 0,.mp 3 0 0,.mp 4 0 0,.mp 6 0 0,.mp 7 0 0,.mp 9 0 0]]),(8,.cells 1 (r11.2.2.2.map AV.i)),(7,.cells 1 [.ms 8 0 r11.2.2.2.length]),(6,.cells 1 [.i a5]),(4,.cells 1 [.ms 17 0 r11.2.2.1.length]),(3,.cells 1 [.sl false (a3.map (SL AV.i))]),(1,.cells 1 [.ms 16 0 (a2.length : Int).toNat]),(0,.cells 1 [.i r11.1])],18⟩ _ (by kernel_rfl) (cjC (Nat.zero_le (a2.length : Int).toNat) (cjC (hn13) (cjC (Nat.zero_add 0) (cjC (Nat.sub_zero (a2.length : Int).toNat) (cjC (Eq.refl (0 : Nat)) (cjC (hn12) (cj1 (Eq.refl ((a2.length : Int).toNat))))))))) ?_
        refine run_i 18 [] [0,2,3,6,7,9,10,27,28] [.i a0,.mp 1 0 0,.mp 3 0 0,.mp 7 0 0,.mp 9 0 0,.i (a2.length : Int),.i l2_28,.i a5,.i l2_28] (xs := [.i a0,.mp 1 0 0,.mp 3 0 0,.mp 7 0 0,.mp 9 0 0,.i (a2.length : Int),.i l2_28,.i a5,.i l2_28]) (S2 := ⟨[(17,.cells 1 (r11.2.2.1.map AV.i)),(16,.cells 1 ((r11.2.1.take (a2.length : Int).toNat).map AV.i)),(9,.cells 1 [.fn 42 [.mp 0 0 0,.mp 1 0 0,.mp 3 0 0,.mp 4 0 0,.mp 6 0 0,.mp 7 0 0,.mp 9 0 0]]),(8,.cells 1 (r11.2.2.2.map AV.i)),(7,.cells 1 [.ms 8 0 r11.2.2.2.length]),(6,.cells 1 [.i a5]),(4,.cells 1 [.ms 17 0 r11.2.2.1.length]),(3,.cells 1 [.sl false (a3.map (SL AV.i))]),(1,.cells 1 [.ms 16 0 (r11.2.1.take (a2.length : Int).toNat).length]),(0,.cells 1 [.i r11.1])],18⟩) ?_ (by intro i e; cases e <;> exact Nat.le_of_ble_eq_true rfl) (by kernel_rfl) (by kernel_rfl) (by kernel_rfl) (.k (.c rfl) (.k (.mp rfl rfl) (.k (.mp rfl rfl) (.k (.mp rfl rfl) (.k (.mp rfl rfl) (.k (.c rfl) (.k (.c rfl) (.k (.c rfl) (.k (.c rfl) .z))))))))) (.k (x' := .cells 1 (r11.2.2.1.map AV.i)) (by kernel_rfl) (.cells (.r (cleanMap _ _ cl_i))) (.k (x' := .cells 1 (r11.2.1.map AV.i)) (by kernel_rfl) (cutT 1 r11.2.1 (a2.length : Int).toNat cl_i) (.k (x' := .cells 1 [.fn 42 [.mp 0 0 0,.mp 1 0 0,.mp 3 0 0,.mp 4 0 0,.mp 6 0 0,.mp 7 0 0,.mp 9 0 0]]) (by kernel_rfl) (.cells (.k (.f (.k (.mp rfl rfl) (.k (.mp rfl rfl) (.k (.mp rfl rfl) (.k (.mp rfl rfl) (.k (.mp rfl rfl) (.k (.mp rfl rfl) (.k (.mp rfl rfl) .z)))))))) .z)) (.k (x' := .cells 1 (r11.2.2.2.map AV.i)) (by kernel_rfl) (.cells (.r (cleanMap _ _ cl_i))) (.k (x' := .cells 1 [.ms 8 0 r11.2.2.2.length]) (by kernel_rfl) (.cells (.k (.ms rfl rfl) .z)) (.k (x' := .cells 1 [.i a5]) (by kernel_rfl) (.cells (.k (.c rfl) .z)) (.k (x' := .cells 1 [.ms 17 0 r11.2.2.1.length]) (by kernel_rfl) (.cells (.k (.ms rfl rfl) .z)) (.k (x' := .cells 1 [.sl false (a3.map (SL AV.i))]) (by kernel_rfl) (.cells (.k (.c (cleanMap _ _ (cl_SL cl_i))) .z)) (.k (x' := .cells 1 [.ms 16 0 (a2.length : Int).toNat]) (by kernel_rfl) (.cells (.k (.e rfl rfl (by simp; omega)) .z)) (.k (x' := .cells 1 [.i r11.1]) (by kernel_rfl) (.cells (.k (.c rfl) .z)) .z))))))))))
        obtain ⟨y14,hy14,hj3⟩ := bindE hj3
        refine awp_post (by intro i e; cases e <;> exact Nat.le_of_ble_eq_true rfl) ?_
        refine run0z [{},{},{ k := 1,n := l2_28.toNat },{ k := 1,x := AV.i y14 },{},{ k := 1,n := l2_28.toNat },{ k := 1,x := AV.i y14,l := (r11.2.2.2.set l2_28.toNat (wr (y14 + 1))).map AV.i }] [0,2,3,6,7,9,27,28] [.i a0,.mp 1 0 0,.mp 3 0 0,.mp 7 0 0,.mp 9 0 0,.i (a2.length : Int),.i a5,.i l2_28] ⟨[(17,.cells 1 (r11.2.2.1.map AV.i)),(16,.cells 1 ((r11.2.1.take (a2.length : Int).toNat).map AV.i)),(9,.cells 1 [.fn 42 [.mp 0 0 0,.mp 1 0 0,.mp 3 0 0,.mp 4 0 0,.mp 6 0 0,.mp 7 0 0,.mp 9 0 0]]),(8,.cells 1 ((r11.2.2.2.set l2_28.toNat (wr (y14 + 1))).map AV.i)),(7,.cells 1 [.ms 8 0 r11.2.2.2.length]),(6,.cells 1 [.i a5]),(4,.cells 1 [.ms 17 0 r11.2.2.1.length]),(3,.cells 1 [.sl false (a3.map (SL AV.i))]),(1,.cells 1 [.ms 16 0 (r11.2.1.take (a2.length : Int).toNat).length]),(0,.cells 1 [.i r11.1])],18⟩ _ (by kernel_rfl) (cjC ((ixE hy14).1) (cjC (ixLt hy14) (cjC (Nat.zero_add l2_28.toNat) (cjC (mapGet AV.i (ixE hy14).2) (cjC ((ixE hy14).1) (cjC (ixLt hy14) (cjC (Nat.zero_add l2_28.toNat) (cjC (mapGet AV.i (ixE hy14).2) (cjC ((by decide : (1 : Nat) ≤ 1)) (cj1 (mapSet r11.2.2.2 AV.i l2_28.toNat (wr (y14 + 1))))))))))))) ?_
        refine ⟨18,pi [],(zipE [0,2,3,6,7,9,27,28] [.i a0,.mp 1 0 0,.mp 3 0 0,.mp 7 0 0,.mp 9 0 0,.i (a2.length : Int),.i a5,.i l2_28]),⟨[(17,.cells 1 (r11.2.2.1.map AV.i)),(16,.cells 1 ((r11.2.1.take (a2.length : Int).toNat).map AV.i)),(9,.cells 1 [.fn 42 [.mp 0 0 0,.mp 1 0 0,.mp 3 0 0,.mp 4 0 0,.mp 6 0 0,.mp 7 0 0,.mp 9 0 0]]),(8,.cells 1 ((r11.2.2.2.set l2_28.toNat (wr (y14 + 1))).map AV.i)),(7,.cells 1 [.ms 8 0 (r11.2.2.2.set l2_28.toNat (wr (y14 + 1))).length]),(6,.cells 1 [.i a5]),(4,.cells 1 [.ms 17 0 r11.2.2.1.length]),(3,.cells 1 [.sl false (a3.map (SL AV.i))]),(1,.cells 1 [.ms 16 0 (r11.2.1.take (a2.length : Int).toNat).length]),(0,.cells 1 [.i r11.1])],18⟩,Nat.le_of_ble_eq_true rfl,mkInto (ks := [0,2,3,6,7,9,27,28]) (ys := [.i a0,.mp 1 0 0,.mp 3 0 0,.mp 7 0 0,.mp 9 0 0,.i (a2.length : Int),.i a5,.i l2_28]) (by kernel_rfl) (by kernel_rfl) (.k (.c rfl) (.k (.mp rfl rfl) (.k (.mp rfl rfl) (.k (.mp rfl rfl) (.k (.mp rfl rfl) (.k (.c rfl) (.k (.c rfl) (.k (.c rfl) .z)))))))) (.k (x' := .cells 1 (r11.2.2.1.map AV.i)) (by kernel_rfl) (.cells (.r (cleanMap _ _ cl_i))) (.k (x' := .cells 1 ((r11.2.1.take (a2.length : Int).toNat).map AV.i)) (by kernel_rfl) (.cells (.r (cleanMap _ _ cl_i))) (.k (x' := .cells 1 [.fn 42 [.mp 0 0 0,.mp 1 0 0,.mp 3 0 0,.mp 4 0 0,.mp 6 0 0,.mp 7 0 0,.mp 9 0 0]]) (by kernel_rfl) (.cells (.k (.f (.k (.mp rfl rfl) (.k (.mp rfl rfl) (.k (.mp rfl rfl) (.k (.mp rfl rfl) (.k (.mp rfl rfl) (.k (.mp rfl rfl) (.k (.mp rfl rfl) .z)))))))) .z)) (.k (x' := .cells 1 ((r11.2.2.2.set l2_28.toNat (wr (y14 + 1))).map AV.i)) (by kernel_rfl) (.cells (.r (cleanMap _ _ cl_i))) (.k (x' := .cells 1 [.ms 8 0 r11.2.2.2.length]) (by kernel_rfl) (.cells (.k (.e rfl rfl (by simp)) .z)) (.k (x' := .cells 1 [.i a5]) (by kernel_rfl) (.cells (.k (.c rfl) .z)) (.k (x' := .cells 1 [.ms 17 0 r11.2.2.1.length]) (by kernel_rfl) (.cells (.k (.ms rfl rfl) .z)) (.k (x' := .cells 1 [.sl false (a3.map (SL AV.i))]) (by kernel_rfl) (.cells (.k (.c (cleanMap _ _ (cl_SL cl_i))) .z)) (.k (x' := .cells 1 [.ms 16 0 (r11.2.1.take (a2.length : Int).toNat).length]) (by kernel_rfl) (.cells (.k (.ms rfl rfl) .z)) (.k (x' := .cells 1 [.i r11.1]) (by kernel_rfl) (.cells (.k (.c rfl) .z)) .z)))))))))),?_⟩
        replace hj3 := Option.some.inj hj3; subst hj3
        refine inbN ?_
        refine thenN ?_
        exact run_i 18 [(18,16),(19,17)] [0,2,3,6,7,9,27,28] [.i a0,.mp 1 0 0,.mp 3 0 0,.mp 7 0 0,.mp 9 0 0,.i (a2.length : Int),.i a5,.i l2_28] (kj3 ((r11.2.1.take (a2.length : Int).toNat),(r11.2.2.2.set l2_28.toNat (wr (y14 + 1))),r11.1,r11.2.2.1) rfl) (by intro i e; cases e <;> exact Nat.le_of_ble_eq_true rfl) (by kernel_rfl) (by kernel_rfl) (by kernel_rfl) (.k (.c rfl) (.k (.mp rfl rfl) (.k (.mp rfl rfl) (.k (.mp rfl rfl) (.k (.mp rfl rfl) (.k (.c rfl) (.k (.c rfl) (.k (.c rfl) .z)))))))) (.k (x' := .cells 1 (r11.2.2.1.map AV.i)) (by kernel_rfl) (.cells (.r (cleanMap _ _ cl_i))) (.k (x' := .cells 1 ((r11.2.1.take (a2.length : Int).toNat).map AV.i)) (by kernel_rfl) (.cells (.r (cleanMap _ _ cl_i))) (.k (x' := .cells 1 [.fn 42 [.mp 0 0 0,.mp 1 0 0,.mp 3 0 0,.mp 4 0 0,.mp 6 0 0,.mp 7 0 0,.mp 9 0 0]]) (by kernel_rfl) (.cells (.k (.f (.k (.mp rfl rfl) (.k (.mp rfl rfl) (.k (.mp rfl rfl) (.k (.mp rfl rfl) (.k (.mp rfl rfl) (.k (.mp rfl rfl) (.k (.mp rfl rfl) .z)))))))) .z)) (.k (x' := .cells 1 ((r11.2.2.2.set l2_28.toNat (wr (y14 + 1))).map AV.i)) (by kernel_rfl) (.cells (.r (cleanMap _ _ cl_i))) (.k (x' := .cells 1 [.ms 8 0 (r11.2.2.2.set l2_28.toNat (wr (y14 + 1))).length]) (by kernel_rfl) (.cells (.k (.ms rfl rfl) .z)) (.k (x' := .cells 1 [.i a5]) (by kernel_rfl) (.cells (.k (.c rfl) .z)) (.k (x' := .cells 1 [.ms 17 0 r11.2.2.1.length]) (by kernel_rfl) (.cells (.k (.ms rfl rfl) .z)) (.k (x' := .cells 1 [.sl false (a3.map (SL AV.i))]) (by kernel_rfl) (.cells (.k (.c (cleanMap _ _ (cl_SL cl_i))) .z)) (.k (x' := .cells 1 [.ms 16 0 (r11.2.1.take (a2.length : Int).toNat).length]) (by kernel_rfl) (.cells (.k (.ms rfl rfl) .z)) (.k (x' := .cells 1 [.i r11.1]) (by kernel_rfl) (.cells (.k (.c rfl) .z)) .z))))))))))
      ·rintro ⟨j3_h1,j3_h7,j3_h0,j3_h4⟩ rfl
       refine run0z [] [0,2,3,6,7,9,27,28] [.i a0,.mp 1 0 0,.mp 3 0 0,.mp 7 0 0,.mp 9 0 0,.i (a2.length : Int),.i a5,.i (wr (l2_28 + 1))] ⟨[(19,.cells 1 (j3_h4.map AV.i)),(18,.cells 1 (j3_h1.map AV.i)),(9,.cells 1 [.fn 42 [.mp 0 0 0,.mp 1 0 0,.mp 3 0 0,.mp 4 0 0,.mp 6 0 0,.mp 7 0 0,.mp 9 0 0]]),(8,.cells 1 (j3_h7.map AV.i)),(7,.cells 1 [.ms 8 0 j3_h7.length]),(6,.cells 1 [.i a5]),(4,.cells 1 [.ms 19 0 j3_h4.length]),(3,.cells 1 [.sl false (a3.map (SL AV.i))]),(1,.cells 1 [.ms 18 0 j3_h1.length]),(0,.cells 1 [.i j3_h0])],20⟩ _ (by kernel_rfl) cj0 ?_
       replace hl2 := Option.some.inj hl2; subst hl2
       exact ⟨_,rfl,pi [(10,18),(11,19)],mkInto (ks := [0,2,3,6,7,9,27,28]) (ys := [.i a0,.mp 1 0 0,.mp 3 0 0,.mp 7 0 0,.mp 9 0 0,.i (a2.length : Int),.i a5,.i (wr (l2_28 + 1))]) (by kernel_rfl) (by kernel_rfl) (.k (.c rfl) (.k (.mp rfl rfl) (.k (.mp rfl rfl) (.k (.mp rfl rfl) (.k (.mp rfl rfl) (.k (.c rfl) (.k (.c rfl) (.k (.c rfl) .z)))))))) (.k (x' := .cells 1 (j3_h4.map AV.i)) (by kernel_rfl) (.cells (.r (cleanMap _ _ cl_i))) (.k (x' := .cells 1 (j3_h1.map AV.i)) (by kernel_rfl) (.cells (.r (cleanMap _ _ cl_i))) (.k (x' := .cells 1 [.fn 42 [.mp 0 0 0,.mp 1 0 0,.mp 3 0 0,.mp 4 0 0,.mp 6 0 0,.mp 7 0 0,.mp 9 0 0]]) (by kernel_rfl) (.cells (.k (.f (.k (.mp rfl rfl) (.k (.mp rfl rfl) (.k (.mp rfl rfl) (.k (.mp rfl rfl) (.k (.mp rfl rfl) (.k (.mp rfl rfl) (.k (.mp rfl rfl) .z)))))))) .z)) (.k (x' := .cells 1 (j3_h7.map AV.i)) (by kernel_rfl) (.cells (.r (cleanMap _ _ cl_i))) (.k (x' := .cells 1 [.ms 8 0 j3_h7.length]) (by kernel_rfl) (.cells (.k (.ms rfl rfl) .z)) (.k (x' := .cells 1 [.i a5]) (by kernel_rfl) (.cells (.k (.c rfl) .z)) (.k (x' := .cells 1 [.ms 19 0 j3_h4.length]) (by kernel_rfl) (.cells (.k (.ms rfl rfl) .z)) (.k (x' := .cells 1 [.sl false (a3.map (SL AV.i))]) (by kernel_rfl) (.cells (.k (.c (cleanMap _ _ (cl_SL cl_i))) .z)) (.k (x' := .cells 1 [.ms 18 0 j3_h1.length]) (by kernel_rfl) (.cells (.k (.ms rfl rfl) .z)) (.k (x' := .cells 1 [.i j3_h0]) (by kernel_rfl) (.cells (.k (.c rfl) .z)) .z))))))))))⟩
     ·refine run_cF 29 (c42 24) (c42 25) (decide (l2_28 < a5)) hc5 (by kernel_rfl) (by kernel_rfl) ?_
      replace hl2 := Option.some.inj hl2; subst hl2
      have hr := rl2 _ rfl
      subst hr
      refine awp_p [] [11,10,9,8,7,6,4,3,1,0] (zipE [] []) ⟨[(11,.cells 1 (l2_h4.map AV.i)),(10,.cells 1 (l2_h1.map AV.i)),(9,.cells 1 [.fn 42 [.mp 0 0 0,.mp 1 0 0,.mp 3 0 0,.mp 4 0 0,.mp 6 0 0,.mp 7 0 0,.mp 9 0 0]]),(8,.cells 1 (l2_h7.map AV.i)),(7,.cells 1 [.ms 8 0 l2_h7.length]),(6,.cells 1 [.i a5]),(4,.cells 1 [.ms 11 0 l2_h4.length]),(3,.cells 1 [.sl false (a3.map (SL AV.i))]),(1,.cells 1 [.ms 10 0 l2_h1.length]),(0,.cells 1 [.i l2_h0])],12⟩ (by kernel_rfl) (?_)
      refine run_e 0 (by kernel_rfl) ?_
      refine thenE ?_
      refine ⟨⟨_,rfl⟩,?_⟩
      refine inbE ?_
      exact kl2 (l2_h0,l2_h1,l2_h4,l2_h7) rfl
    ·rintro ⟨l2x_h0,l2x_h1,l2x_h4,l2x_h7⟩ rfl
     refine ⟨12,pi [(13,10),(14,11)],zipE [] [],⟨[(14,.cells 1 (l2x_h4.map AV.i)),(13,.cells 1 (l2x_h1.map AV.i)),(9,.cells 1 [.fn 42 [.mp 0 0 0,.mp 1 0 0,.mp 3 0 0,.mp 4 0 0,.mp 6 0 0,.mp 7 0 0,.mp 9 0 0]]),(8,.cells 1 (l2x_h7.map AV.i)),(7,.cells 1 [.ms 8 0 l2x_h7.length]),(6,.cells 1 [.i a5]),(4,.cells 1 [.ms 14 0 l2x_h4.length]),(3,.cells 1 [.sl false (a3.map (SL AV.i))]),(1,.cells 1 [.ms 13 0 l2x_h1.length]),(0,.cells 1 [.i l2x_h0])],15⟩,Nat.le_of_ble_eq_true rfl,mkInto (ks := []) (ys := []) (by kernel_rfl) (by kernel_rfl) .z (.k (x' := .cells 1 (l2x_h4.map AV.i)) (by kernel_rfl) (.cells (.r (cleanMap _ _ cl_i))) (.k (x' := .cells 1 (l2x_h1.map AV.i)) (by kernel_rfl) (.cells (.r (cleanMap _ _ cl_i))) (.k (x' := .cells 1 [.fn 42 [.mp 0 0 0,.mp 1 0 0,.mp 3 0 0,.mp 4 0 0,.mp 6 0 0,.mp 7 0 0,.mp 9 0 0]]) (by kernel_rfl) (.cells (.k (.f (.k (.mp rfl rfl) (.k (.mp rfl rfl) (.k (.mp rfl rfl) (.k (.mp rfl rfl) (.k (.mp rfl rfl) (.k (.mp rfl rfl) (.k (.mp rfl rfl) .z)))))))) .z)) (.k (x' := .cells 1 (l2x_h7.map AV.i)) (by kernel_rfl) (.cells (.r (cleanMap _ _ cl_i))) (.k (x' := .cells 1 [.ms 8 0 l2x_h7.length]) (by kernel_rfl) (.cells (.k (.ms rfl rfl) .z)) (.k (x' := .cells 1 [.i a5]) (by kernel_rfl) (.cells (.k (.c rfl) .z)) (.k (x' := .cells 1 [.ms 11 0 l2x_h4.length]) (by kernel_rfl) (.cells (.k (.ms rfl rfl) .z)) (.k (x' := .cells 1 [.sl false (a3.map (SL AV.i))]) (by kernel_rfl) (.cells (.k (.c (cleanMap _ _ (cl_SL cl_i))) .z)) (.k (x' := .cells 1 [.ms 10 0 l2x_h1.length]) (by kernel_rfl) (.cells (.k (.ms rfl rfl) .z)) (.k (x' := .cells 1 [.i l2x_h0]) (by kernel_rfl) (.cells (.k (.c rfl) .z)) .z)))))))))),?_⟩
     replace h := Option.some.inj h; subst h
     exact fin_q [14,13,9,8,7,6,4,3,1,0] ⟨[(14,.cells 1 (l2x_h4.map AV.i)),(13,.cells 1 (l2x_h1.map AV.i)),(9,.cells 1 [.fn 42 [.mp 0 0 0,.mp 1 0 0,.mp 3 0 0,.mp 4 0 0,.mp 6 0 0,.mp 7 0 0,.mp 9 0 0]]),(8,.cells 1 (l2x_h7.map AV.i)),(7,.cells 1 [.ms 8 0 l2x_h7.length]),(6,.cells 1 [.i a5]),(4,.cells 1 [.ms 14 0 l2x_h4.length]),(3,.cells 1 [.sl false (a3.map (SL AV.i))]),(1,.cells 1 [.ms 13 0 l2x_h1.length]),(0,.cells 1 [.i l2x_h0])],15⟩ (by kernel_rfl) (by kernel_rfl) rfl ⟨rfl,rfl⟩
theorem f42_ok (a0 : Int) (a1 : Int) (a2 : List Int) (a3 : List (List Int)) (a4 : List Int) (a5 : Int) (a6 : List Int) (r : (Int × List Int × List Int × List Int)) (h : f42 a0 a1 a2 a3 a4 a5 a6 = some r) : ACalls Try.prog 42 [.i a0,.mp 0 0 0,.mp 1 0 0,.mp 3 0 0,.mp 4 0 0,.mp 6 0 0,.mp 7 0 0,.mp 9 0 0] ⟨[(9,.cells 1 [.fn 42 [.mp 0 0 0,.mp 1 0 0,.mp 3 0 0,.mp 4 0 0,.mp 6 0 0,.mp 7 0 0,.mp 9 0 0]]),(8,.cells 1 (a6.map AV.i)),(7,.cells 1 [.ms 8 0 a6.length]),(6,.cells 1 [.i a5]),(5,.cells 1 (a4.map AV.i)),(4,.cells 1 [.ms 5 0 a4.length]),(3,.cells 1 [.sl false (a3.map (SL AV.i))]),(2,.cells 1 (a2.map AV.i)),(1,.cells 1 [.ms 2 0 a2.length]),(0,.cells 1 [.i a1])],10⟩ (fun y t => y = .tup [] ∧ t = ⟨[(14,.cells 1 (r.2.2.1.map AV.i)),(13,.cells 1 (r.2.1.map AV.i)),(9,.cells 1 [.fn 42 [.mp 0 0 0,.mp 1 0 0,.mp 3 0 0,.mp 4 0 0,.mp 6 0 0,.mp 7 0 0,.mp 9 0 0]]),(8,.cells 1 (r.2.2.2.map AV.i)),(7,.cells 1 [.ms 8 0 r.2.2.2.length]),(6,.cells 1 [.i a5]),(4,.cells 1 [.ms 14 0 r.2.2.1.length]),(3,.cells 1 [.sl false (a3.map (SL AV.i))]),(1,.cells 1 [.ms 13 0 r.2.1.length]),(0,.cells 1 [.i r.1])],15⟩) := f42r_ok FUEL a0 a1 a2 a3 a4 a5 a6 r h
def f19 (a0 : List (List Int)) (a1 : Int) (a2 : Int) : Option (((List Int)) × Int) := (f41 ([a2] : List Int) a1).bind fun r1 => (f42 0 (-1) ([] : List Int) a0 ([] : List Int) a1 r1).bind fun r2 => some (r2.2.2.1,r2.1)
theorem f19_ok (a0 : List (List Int)) (a1 : Int) (a2 : Int) (r : (((List Int)) × Int)) (h : f19 a0 a1 a2 = some r) : APure Try.prog 19 [.sl false (a0.map (SL AV.i)),.i a1,.i a2] (.tup [.sl false (r.1.map AV.i),.i r.2]) := by
 refine apure (clK (cleanMap a0 _ (cl_SL cl_i)) (clK rfl (clK rfl clZ))) (clK (cleanMap r.1 _ cl_i) (clK rfl clZ)) ?_
 let v_0 : AV := .sl false (a0.map (SL AV.i))
 refine run_f 20 [.cell 6 24,.cell 7 3] (c19 0) (zipE [0,1,2] [v_0,.i a1,.i a2]) (by kernel_rfl) (by kernel_rfl) (by kernel_rfl) rfl ?_
 unfold f19 at h
 let b_0 : Blk := .cells 1 [.sl true []]
 let b_1 : Blk := .cells 1 [.i a1]
 refine run1z (c19 2) [] [2,3,4,6,7] [.i a2,.mp 0 0 0,.mp 1 0 0,.mp 2 0 0,.mp 3 0 0] ⟨[(3,.cells 1 [.i 0]),(2,b_0),(1,b_1),(0,.cells 1 [v_0])],4⟩ _ (by kernel_rfl) cj0 ?_
 let b_2 : Blk := .cells 1 [.i (-1)]
 refine run1z (c19 4) [] [2,3,4,6,7] [.i a2,.mp 0 0 0,.mp 1 0 0,.mp 2 0 0,.mp 3 0 0] ⟨[(3,b_2),(2,b_0),(1,b_1),(0,.cells 1 [v_0])],4⟩ _ (by kernel_rfl) cj0 ?_
 let s_0 : St := ⟨[(4,b_0),(3,b_2),(2,b_0),(1,b_1),(0,.cells 1 [v_0])],5⟩
 refine run1z (c19 6) [] [2,3,4,6,7,8] [.i a2,.mp 0 0 0,.mp 1 0 0,.mp 2 0 0,.mp 3 0 0,.mp 4 0 0] s_0 _ (by kernel_rfl) cj0 ?_
 obtain ⟨r1,hr1,h⟩ := bindE h
 let v_1 : AV := .ms 5 0 r1.length
 let b_3 : Blk := .cells 1 (r1.map AV.i)
 let s_1 : St := ⟨[(5,b_3),(4,b_0),(3,b_2),(2,b_0),(1,b_1),(0,.cells 1 [v_0])],6⟩
 refine run1z (c19 8) [{},{},{},{ c := some (v_1,s_1) }] [3,4,6,7,8,9] [.mp 0 0 0,.mp 1 0 0,.mp 2 0 0,.mp 3 0 0,.mp 4 0 0,.mp 6 0 0] ⟨[(6,.cells 1 [v_1]),(5,b_3),(4,b_0),(3,b_2),(2,b_0),(1,b_1),(0,.cells 1 [v_0])],7⟩ _ (by kernel_rfl) (cj1 (callF (f41_ok ([a2] : List Int) a1 _ hr1) [] [(5,0)] [4,3,2,1,0] [.sl true [.i a2],.i a1] s_0 (.ms 5 0 r1.length) s_1 (by kernel_rfl) (.k (.s (cleanMap (([a2] : List Int)) _ cl_i)) (.k (.c rfl) .z)) (.ms rfl rfl) .z (.d (x' := b_3) rfl (by kernel_rfl) (.cells (.r (cleanMap _ _ cl_i))) (.f rfl (by kernel_rfl) (.f rfl (by kernel_rfl) (.f rfl (by kernel_rfl) (.f rfl (by kernel_rfl) (.f rfl (by kernel_rfl) .z)))))))) ?_
 refine run1z (c19 10) [] [3,4,6,7,8,9,10] [.mp 0 0 0,.mp 1 0 0,.mp 2 0 0,.mp 3 0 0,.mp 4 0 0,.mp 6 0 0,.mp 7 0 0] ⟨[(7,.cells 1 [.nilf]),(6,.cells 1 [v_1]),(5,b_3),(4,b_0),(3,b_2),(2,b_0),(1,b_1),(0,.cells 1 [v_0])],8⟩ _ (by kernel_rfl) cj0 ?_
 let w_0 : AV := .fn 42 [.mp 3 0 0,.mp 4 0 0,.mp 0 0 0,.mp 2 0 0,.mp 1 0 0,.mp 6 0 0,.mp 7 0 0]
 refine run1z (c19 12) [] [6,7,10] [.mp 2 0 0,.mp 3 0 0,.mp 7 0 0] ⟨[(7,.cells 1 [w_0]),(6,.cells 1 [v_1]),(5,b_3),(4,b_0),(3,b_2),(2,b_0),(1,b_1),(0,.cells 1 [v_0])],8⟩ _ (by kernel_rfl) cj0 ?_
 let b_4 : Blk := .cells 1 [.ms 8 0 ([] : List Int).length]
 let b_5 : Blk := .cells 1 (([] : List Int).map AV.i)
 refine run_i 8 [(8,1000000)] [6,7,10] [.mp 2 0 0,.mp 3 0 0,.mp 7 0 0] (xs := [.mp 2 0 0,.mp 3 0 0,.mp 7 0 0]) (S2 := ⟨[(8,b_5),(7,.cells 1 [w_0]),(6,.cells 1 [v_1]),(5,b_3),(4,b_4),(3,b_2),(2,b_0),(1,b_1),(0,.cells 1 [v_0])],9⟩) ?_ (by intro i e; cases e <;> exact Nat.le_of_ble_eq_true rfl) (by kernel_rfl) (by kernel_rfl) (by kernel_rfl) (.k (.mp rfl rfl) (.k (.mp rfl rfl) (.k (.mp rfl rfl) .z))) (.n rfl rfl rfl (.k rfl (.cells (.k (.f (.k (.mp rfl rfl) (.k (.mp rfl rfl) (.k (.mp rfl rfl) (.k (.mp rfl rfl) (.k (.mp rfl rfl) (.k (.mp rfl rfl) (.k (.mp rfl rfl) .z)))))))) .z)) (.k rfl (.cells (.k (.ms rfl rfl) .z)) (.k rfl (.cells (.r (cleanMap _ _ cl_i))) (.k rfl (.cells (.k (.n) .z)) (.k rfl (.cells (.k (.c rfl) .z)) (.k rfl (.cells (.k (.c rfl) .z)) (.k rfl (.cells (.k (.c rfl) .z)) (.k rfl (.cells (.k (.c (cleanMap _ _ (cl_SL cl_i))) .z)) .z)))))))))
 let b_6 : Blk := .cells 1 [.ms 9 0 ([] : List Int).length]
 let s_2 : St := ⟨[(9,b_5),(8,b_5),(7,.cells 1 [w_0]),(6,.cells 1 [v_1]),(5,b_3),(4,b_4),(3,b_2),(2,b_6),(1,b_1),(0,.cells 1 [v_0])],10⟩
 refine run_i 9 [(9,1000000)] [6,7,10] [.mp 2 0 0,.mp 3 0 0,.mp 7 0 0] (xs := [.mp 2 0 0,.mp 3 0 0,.mp 7 0 0]) (S2 := s_2) ?_ (by intro i e; cases e <;> exact Nat.le_of_ble_eq_true rfl) (by kernel_rfl) (by kernel_rfl) (by kernel_rfl) (.k (.mp rfl rfl) (.k (.mp rfl rfl) (.k (.mp rfl rfl) .z))) (.n rfl rfl rfl (.k rfl (.cells (.r (cleanMap _ _ cl_i))) (.k rfl (.cells (.k (.f (.k (.mp rfl rfl) (.k (.mp rfl rfl) (.k (.mp rfl rfl) (.k (.mp rfl rfl) (.k (.mp rfl rfl) (.k (.mp rfl rfl) (.k (.mp rfl rfl) .z)))))))) .z)) (.k rfl (.cells (.k (.ms rfl rfl) .z)) (.k rfl (.cells (.r (cleanMap _ _ cl_i))) (.k rfl (.cells (.k (.ms rfl rfl) .z)) (.k rfl (.cells (.k (.c rfl) .z)) (.k rfl (.cells (.k (.n) .z)) (.k rfl (.cells (.k (.c rfl) .z)) (.k rfl (.cells (.k (.c (cleanMap _ _ (cl_SL cl_i))) .z)) .z))))))))))
 obtain ⟨r2,hr2,h⟩ := bindE h
 let v_2 : AV := .ms 14 0 r2.2.2.1.length
 let v_3 : AV := .ms 13 0 r2.2.1.length
 let b_7 : Blk := .cells 1 [.ms 5 0 r2.2.2.2.length]
 let b_8 : Blk := .cells 1 (r2.2.2.1.map AV.i)
 let b_9 : Blk := .cells 1 (r2.2.2.2.map AV.i)
 let b_10 : Blk := .cells 1 (r2.2.1.map AV.i)
 let b_11 : Blk := .cells 1 [.i r2.1]
 let s_3 : St := ⟨[(14,b_8),(13,b_10),(7,.cells 1 [w_0]),(6,b_7),(5,b_9),(4,.cells 1 [v_3]),(3,b_11),(2,.cells 1 [v_2]),(1,b_1),(0,.cells 1 [v_0])],15⟩
 let s_4 : St := ⟨[(14,b_8),(3,b_11),(2,.cells 1 [v_2])],15⟩
 refine run1z (c19 14) [{},{ c := some (.tup [],s_3) }] [6,7] [.mp 2 0 0,.mp 3 0 0] s_4 _ (by kernel_rfl) (cj1 (callF (f42_ok 0 (-1) ([] : List Int) a0 ([] : List Int) a1 r1 _ hr2) [(0,3),(1,4),(2,8),(3,0),(4,2),(5,9),(6,1),(7,6),(8,5),(9,7)] [(14,14),(13,13),(7,9),(5,8),(6,7),(1,6),(2,4),(0,3),(4,1),(3,0)] [] [.i 0,.mp 3 0 0,.mp 4 0 0,.mp 0 0 0,.mp 2 0 0,.mp 1 0 0,.mp 6 0 0,.mp 7 0 0] s_2 (.tup []) s_3 (by kernel_rfl) (.k (.c rfl) (.k (.mp rfl rfl) (.k (.mp rfl rfl) (.k (.mp rfl rfl) (.k (.mp rfl rfl) (.k (.mp rfl rfl) (.k (.mp rfl rfl) (.k (.mp rfl rfl) .z)))))))) (.t .z) (.k rfl (.cells (.k (.f (.k (.mp rfl rfl) (.k (.mp rfl rfl) (.k (.mp rfl rfl) (.k (.mp rfl rfl) (.k (.mp rfl rfl) (.k (.mp rfl rfl) (.k (.mp rfl rfl) .z)))))))) .z)) (.k rfl (.cells (.r (cleanMap _ _ cl_i))) (.k rfl (.cells (.k (.ms rfl rfl) .z)) (.k rfl (.cells (.k (.c rfl) .z)) (.k rfl (.cells (.r (cleanMap _ _ cl_i))) (.k rfl (.cells (.k (.ms rfl rfl) .z)) (.k rfl (.cells (.k (.c (cleanMap _ _ (cl_SL cl_i))) .z)) (.k rfl (.cells (.r (cleanMap _ _ cl_i))) (.k rfl (.cells (.k (.ms rfl rfl) .z)) (.k rfl (.cells (.k (.c rfl) .z)) .z)))))))))) (.d (x' := b_8) rfl (by kernel_rfl) (.cells (.r (cleanMap _ _ cl_i))) (.d (x' := b_10) rfl (by kernel_rfl) (.cells (.r (cleanMap _ _ cl_i))) (.d (x' := .cells 1 [.fn 42 [.mp 0 0 0,.mp 1 0 0,.mp 3 0 0,.mp 4 0 0,.mp 6 0 0,.mp 7 0 0,.mp 9 0 0]]) rfl (by kernel_rfl) (.cells (.k (.f (.k (.mp rfl rfl) (.k (.mp rfl rfl) (.k (.mp rfl rfl) (.k (.mp rfl rfl) (.k (.mp rfl rfl) (.k (.mp rfl rfl) (.k (.mp rfl rfl) .z)))))))) .z)) (.d (x' := .cells 1 [.ms 8 0 r2.2.2.2.length]) rfl (by kernel_rfl) (.cells (.k (.ms rfl rfl) .z)) (.d (x' := b_9) rfl (by kernel_rfl) (.cells (.r (cleanMap _ _ cl_i))) (.d (x' := .cells 1 [v_3]) rfl (by kernel_rfl) (.cells (.k (.ms rfl rfl) .z)) (.d (x' := b_11) rfl (by kernel_rfl) (.cells (.k (.c rfl) .z)) (.d (x' := .cells 1 [v_2]) rfl (by kernel_rfl) (.cells (.k (.ms rfl rfl) .z)) (.d (x' := b_1) rfl (by kernel_rfl) (.cells (.k (.c rfl) .z)) (.d (x' := .cells 1 [v_0]) rfl (by kernel_rfl) (.cells (.k (.c (cleanMap _ _ (cl_SL cl_i))) .z)) .z)))))))))))) ?_
 refine yun1z (c19 16) [[],[],[0],[0,1,2]] [.light 0 false,.light 1 true,.heavy 2 [1],.heavy 3 []] [] [6,7] [.mp 2 0 0,.mp 3 0 0] s_4 _ (by kernel_rfl) (cj1 (@Eq.refl AV (.i r2.1))) ?_
 refine run_z 14 1 (r2.2.2.1.map AV.i) [6,7] [.mp 2 0 0,.mp 3 0 0] (xs := [.mp 2 0 0,.mp 3 0 0]) (S2 := ⟨[(3,b_11),(2,.cells 1 [.sl false (r2.2.2.1.map AV.i)])],15⟩) ?_ (by kernel_rfl) (by kernel_rfl) (.k (.r _) (.k (.r _) .z)) (.k (x' := b_11) rfl (by kernel_rfl) (.r _) (.k (x' := .cells 1 [v_2]) rfl (by kernel_rfl) (.cells (.k (.m (mLe r2.2.2.1 AV.i) (mapAll r2.2.2.1 AV.i)) .z)) .z)) rfl rfl
 refine run_t (by kernel_rfl) ?_
 replace h := Option.some.inj h; subst h
 exact fin_r (by kernel_rfl) rfl
def f6 (a0 : List (List GTone)) (a1 : List GInstrument) (a2 : Int) : Option (((List Int)) × Int × Int) := (f15 a0).bind fun r1 => bif (decide (r1 ≠ 0)) then (some (([] : List Int),0,r1)) else (bif (decide ((a1.length : Int) = 0)) then (some (([] : List Int),0,90)) else (bif (decide (6 < (a1.length : Int))) then (some (([] : List Int),0,2)) else ((loopN (σ := Int) (τ := (Unit ⊕ (((List Int)) × Int × Int))) (fun (l1_35 : Int) => bif (decide (l1_35 < (a1.length : Int))) then ((ix a1 l1_35).bind fun y6 => (f16 y6).bind fun r7 => bif (decide (r7 ≠ 0)) then (some (.inr (.inr (([] : List Int),0,r7)))) else (some (.inl (wr (l1_35 + 1))))) else (some (.inr (.inl ())))) FUEL 0).bind (Sum.elim (fun (_ : Unit) => (f17 a2 1 6).bind fun r9 => bif (!r9) then (some (([] : List Int),0,1)) else (bif (decide ((wr (a2 * (a1.length : Int))) < (a0.length : Int))) then (some (([] : List Int),0,90)) else (need (0 ≤ (a0.length : Int)) <| need ((a0.length : Int) ≤ (maxElems : Int)) <| (loopN (σ := List (List Int)) (τ := ((List (List Int)) ⊕ (((List Int)) × Int × Int))) (fun (q : List (List Int)) => bif (decide ((q.length : Int) < (a0.length : Int))) then ((ix a0 (q.length : Int)).bind fun y15 => (loopN (σ := (List Int × Int)) (τ := ((List Int) ⊕ (List (List Int) ⊕ ((List (List Int)) ⊕ (((List Int)) × Int × Int))))) (fun ((w,k) : (List Int × Int)) => bif (decide (k < (a1.length : Int))) then ((ix a1 k).bind fun y17 => (f18 ([y15] : List (List GTone)) y17 0).bind fun r18 => bif (decide (r18.2 ≠ 0)) then (some (.inr (.inr (.inr (.inr (([] : List Int),0,r18.2)))))) else (need (w.length + 1 ≤ maxElems) <| some (.inl ((w ++ [r18.1]),(wr (k + 1)))))) else (some (.inr (.inl w)))) FUEL (([] : List Int),0)).bind (Sum.elim (fun (w : List Int) => some (.inl (q ++ [w]))) some)) else (need ((q.length : Int) = (a0.length : Int)) <| some (.inr (.inl q)))) FUEL ([] : List (List Int))).bind (Sum.elim (fun (l2x_13 : (List (List Int))) => (f19 l2x_13 (a1.length : Int) a2).bind fun r22 => some (r22.1,r22.2,0)) some)))) some))))
theorem f6_ok (a0 : List (List GTone)) (a1 : List GInstrument) (a2 : Int) (r : (((List Int)) × Int × Int)) (h : f6 a0 a1 a2 = some r) : APure Try.prog 6 [.sl false (a0.map (SL E_GTone)),.sl false (a1.map E_GInstrument),.i a2] (.tup [.sl false (r.1.map AV.i),.i r.2.1,.i r.2.2]) := by
 refine apure (clK (cleanMap a0 _ (cl_SL cl_GTone)) (clK (cleanMap a1 _ cl_GInstrument) (clK rfl clZ))) (clK (cleanMap r.1 _ cl_i) (clK rfl (clK rfl clZ))) ?_
 refine run_f 105 [.tmp 6,.tmp 7,.tmp 8] (c6 0) (zipE [0,1,2] [.sl false (a0.map (SL E_GTone)),.sl false (a1.map E_GInstrument),.i a2]) (by kernel_rfl) (by kernel_rfl) (by kernel_rfl) rfl ?_
 unfold f6 at h
 refine run1z (c6 2) [] [0,1,2] [.sl false (a0.map (SL E_GTone)),.sl false (a1.map E_GInstrument),.i a2] ⟨[],0⟩ _ (by kernel_rfl) cj0 ?_
 refine run_s (c6 3) (c6 12) (by kernel_rfl) ?_
 obtain ⟨r1,hr1,h⟩ := bindE h
 refine run1z (c6 5) [{},{ c := some (.i r1,⟨[],0⟩) }] [0,1,2,9] [.sl false (a0.map (SL E_GTone)),.sl false (a1.map E_GInstrument),.i a2,.i r1] ⟨[],0⟩ _ (by kernel_rfl) (cj1 (f15_ok a0 _ hr1 ⟨[],0⟩)) ?_
 refine run1z (c6 7) [] [0,1,2,9,23] [.sl false (a0.map (SL E_GTone)),.sl false (a1.map E_GInstrument),.i a2,.i r1,.bool (decide (r1 ≠ 0))] ⟨[],0⟩ _ (by kernel_rfl) cj0 ?_
 rcases iteE h with ⟨hc2,h⟩ | ⟨hc2,h⟩
 ·refine run_cT 23 (c6 8) (c6 11) (decide (r1 ≠ 0)) hc2 (by kernel_rfl) (by kernel_rfl) ?_
  refine run1z (c6 10) [] [6,7,8] [.sl true [],.i 0,.i r1] ⟨[],0⟩ _ (by kernel_rfl) cj0 ?_
  refine run_i 0 [] [6,7,8] [.sl true [],.i 0,.i r1] (xs := [.sl false (([] : List Int).map AV.i),.i 0,.i r1]) (S2 := ⟨[],0⟩) ?_ (by intro i e; cases e <;> exact Nat.le_of_ble_eq_true rfl) (by kernel_rfl) (by kernel_rfl) (by kernel_rfl) (.k (.s (cleanMap (([] : List Int)) _ cl_i)) (.k (.c rfl) (.k (.c rfl) .z))) .z
  refine run_t (by kernel_rfl) ?_
  refine thenR ?_
  replace h := Option.some.inj h; subst h
  exact fin_r (by kernel_rfl) rfl
 ·refine run_cF 23 (c6 8) (c6 11) (decide (r1 ≠ 0)) hc2 (by kernel_rfl) (by kernel_rfl) ?_
  refine run_k (by kernel_rfl) ?_
  refine thenN ?_
  refine run_s (c6 13) (c6 27) (by kernel_rfl) ?_
  refine run_b 0 (c6 14) (by kernel_rfl) ?_
  refine run1z (c6 16) [{},{ k := 1,n := a1.length }] [0,1,2,25] [.sl false (a0.map (SL E_GTone)),.sl false (a1.map E_GInstrument),.i a2,.bool (decide ((a1.length : Int) = 0))] ⟨[],0⟩ _ (by kernel_rfl) (cj1 (mapLen a1 E_GInstrument)) ?_
  rcases iteE h with ⟨hc3,h⟩ | ⟨hc3,h⟩
  ·refine run_cT 25 (c6 17) (c6 20) (decide ((a1.length : Int) = 0)) hc3 (by kernel_rfl) (by kernel_rfl) ?_
   refine run1z (c6 19) [] [6,7,8] [.sl true [],.i 0,.i 90] ⟨[],0⟩ _ (by kernel_rfl) cj0 ?_
   refine run_i 0 [] [6,7,8] [.sl true [],.i 0,.i 90] (xs := [.sl false (([] : List Int).map AV.i),.i 0,.i 90]) (S2 := ⟨[],0⟩) ?_ (by intro i e; cases e <;> exact Nat.le_of_ble_eq_true rfl) (by kernel_rfl) (by kernel_rfl) (by kernel_rfl) (.k (.s (cleanMap (([] : List Int)) _ cl_i)) (.k (.c rfl) (.k (.c rfl) .z))) .z
   refine run_t (by kernel_rfl) ?_
   refine inbR ?_
   refine thenR ?_
   replace h := Option.some.inj h; subst h
   exact fin_r (by kernel_rfl) rfl
  ·refine run_cF 25 (c6 17) (c6 20) (decide ((a1.length : Int) = 0)) hc3 (by kernel_rfl) (by kernel_rfl) ?_
   refine run1z (c6 22) [{},{ k := 1,n := a1.length }] [0,1,2,29] [.sl false (a0.map (SL E_GTone)),.sl false (a1.map E_GInstrument),.i a2,.bool (decide (6 < (a1.length : Int)))] ⟨[],0⟩ _ (by kernel_rfl) (cj1 (mapLen a1 E_GInstrument)) ?_
   rcases iteE h with ⟨hc4,h⟩ | ⟨hc4,h⟩
   ·refine run_cT 29 (c6 23) (c6 26) (decide (6 < (a1.length : Int))) hc4 (by kernel_rfl) (by kernel_rfl) ?_
    refine run1z (c6 25) [] [6,7,8] [.sl true [],.i 0,.i 2] ⟨[],0⟩ _ (by kernel_rfl) cj0 ?_
    refine run_i 0 [] [6,7,8] [.sl true [],.i 0,.i 2] (xs := [.sl false (([] : List Int).map AV.i),.i 0,.i 2]) (S2 := ⟨[],0⟩) ?_ (by intro i e; cases e <;> exact Nat.le_of_ble_eq_true rfl) (by kernel_rfl) (by kernel_rfl) (by kernel_rfl) (.k (.s (cleanMap (([] : List Int)) _ cl_i)) (.k (.c rfl) (.k (.c rfl) .z))) .z
    refine run_t (by kernel_rfl) ?_
    refine inbR ?_
    refine thenR ?_
    replace h := Option.some.inj h; subst h
    exact fin_r (by kernel_rfl) rfl
   ·refine run_cF 29 (c6 23) (c6 26) (decide (6 < (a1.length : Int))) hc4 (by kernel_rfl) (by kernel_rfl) ?_
    refine run_k (by kernel_rfl) ?_
    refine inbN ?_
    refine thenN ?_
    refine run_s (c6 28) (c6 52) (by kernel_rfl) ?_
    refine run1z (c6 30) [{},{ k := 1,n := a1.length }] [0,1,2,33,34,35] [.sl false (a0.map (SL E_GTone)),.sl false (a1.map E_GInstrument),.i a2,.sl false (a1.map E_GInstrument),.i (a1.length : Int),.i 0] ⟨[],0⟩ _ (by kernel_rfl) (cj1 (mapLen a1 E_GInstrument)) ?_
    obtain ⟨ol1x,hll1x,h⟩ := bindE h
    refine run_tq (fun (_ : Unit) => (zipE [0,1,2] [.sl false (a0.map (SL E_GTone)),.sl false (a1.map E_GInstrument),.i a2])) (fun (_ : Unit) => ⟨[],0⟩) (fun j => ol1x = .inl j) (fun kl1 => ?_) ?_
    ·refine run_b 1 (c6 31) (by kernel_rfl) ?_
     refine run_l (c6 32) _ hll1x (fun (l1_35 : Int) => (zipE [0,1,2,33,34,35] [.sl false (a0.map (SL E_GTone)),.sl false (a1.map E_GInstrument),.i a2,.sl false (a1.map E_GInstrument),.i (a1.length : Int),.i l1_35])) (fun (l1_35 : Int) => ⟨[],0⟩) [] (by intro i e; cases e <;> exact Nat.le_of_ble_eq_true rfl) (by kernel_rfl) (mkInto (ks := [0,1,2,33,34,35]) (ys := [.sl false (a0.map (SL E_GTone)),.sl false (a1.map E_GInstrument),.i a2,.sl false (a1.map E_GInstrument),.i (a1.length : Int),.i 0]) (by kernel_rfl) (by kernel_rfl) (.k (.c (cleanMap _ _ (cl_SL cl_GTone))) (.k (.c (cleanMap _ _ cl_GInstrument)) (.k (.c rfl) (.k (.c (cleanMap _ _ cl_GInstrument)) (.k (.c rfl) (.k (.c rfl) .z)))))) .z) ?_
     rintro l1_35 out hl1 rl1
     refine run1z (c6 34) [] [0,1,2,33,34,35,36] [.sl false (a0.map (SL E_GTone)),.sl false (a1.map E_GInstrument),.i a2,.sl false (a1.map E_GInstrument),.i (a1.length : Int),.i l1_35,.bool (decide (l1_35 < (a1.length : Int)))] ⟨[],0⟩ _ (by kernel_rfl) cj0 ?_
     refine run_s (c6 35) (c6 38) (by kernel_rfl) ?_
     rcases iteE hl1 with ⟨hc5,hl1⟩ | ⟨hc5,hl1⟩
     ·refine run_cT 36 (c6 36) (c6 37) (decide (l1_35 < (a1.length : Int))) hc5 (by kernel_rfl) (by kernel_rfl) ?_
      refine run_k (by kernel_rfl) ?_
      refine thenN ?_
      refine run_s (c6 39) (c6 51) (by kernel_rfl) ?_
      refine run_b 2 (c6 40) (by kernel_rfl) ?_
      obtain ⟨y6,hy6,hl1⟩ := bindE hl1
      refine run1z (c6 42) [{ k := 1,x := E_GInstrument y6 }] [0,1,2,11,33,34,35] [.sl false (a0.map (SL E_GTone)),.sl false (a1.map E_GInstrument),.i a2,.mp 0 0 0,.sl false (a1.map E_GInstrument),.i (a1.length : Int),.i l1_35] ⟨[(0,.cells 2 [E_GInstrument y6])],1⟩ _ (by kernel_rfl) (cjC ((ixE hy6).1) (cj1 (mapGet E_GInstrument (ixE hy6).2))) ?_
      obtain ⟨r7,hr7,hl1⟩ := bindE hl1
      refine run1z (c6 44) [{},{ c := some (.i r7,⟨[(0,.cells 2 [E_GInstrument y6])],1⟩) }] [0,1,2,12,33,34,35] [.sl false (a0.map (SL E_GTone)),.sl false (a1.map E_GInstrument),.i a2,.i r7,.sl false (a1.map E_GInstrument),.i (a1.length : Int),.i l1_35] ⟨[],1⟩ _ (by kernel_rfl) (cj1 (f16_ok y6 _ hr7 ⟨[(0,.cells 2 [E_GInstrument y6])],1⟩)) ?_
      refine run1z (c6 46) [] [0,1,2,12,33,34,35,42] [.sl false (a0.map (SL E_GTone)),.sl false (a1.map E_GInstrument),.i a2,.i r7,.sl false (a1.map E_GInstrument),.i (a1.length : Int),.i l1_35,.bool (decide (r7 ≠ 0))] ⟨[],1⟩ _ (by kernel_rfl) cj0 ?_
      rcases iteE hl1 with ⟨hc8,hl1⟩ | ⟨hc8,hl1⟩
      ·refine run_cT 42 (c6 47) (c6 50) (decide (r7 ≠ 0)) hc8 (by kernel_rfl) (by kernel_rfl) ?_
       refine run1z (c6 49) [] [6,7,8] [.sl true [],.i 0,.i r7] ⟨[],1⟩ _ (by kernel_rfl) cj0 ?_
       replace hl1 := Option.some.inj hl1; subst hl1
       have hr := rl1 _ rfl
       subst hr
       replace h := elimR h
       refine run_i 1 [] [6,7,8] [.sl true [],.i 0,.i r7] (xs := [.sl false (([] : List Int).map AV.i),.i 0,.i r7]) (S2 := ⟨[],1⟩) ?_ (by intro i e; cases e <;> exact Nat.le_of_ble_eq_true rfl) (by kernel_rfl) (by kernel_rfl) (by kernel_rfl) (.k (.s (cleanMap (([] : List Int)) _ cl_i)) (.k (.c rfl) (.k (.c rfl) .z))) .z
       refine run_t (by kernel_rfl) ?_
       refine inbR ?_
       refine thenR ?_
       refine ⟨⟨_,rfl⟩,?_⟩
       refine inbR ?_
       refine thenR ?_
       replace h := Option.some.inj h; subst h
       exact fin_r (by kernel_rfl) rfl
      ·refine run_cF 42 (c6 47) (c6 50) (decide (r7 ≠ 0)) hc8 (by kernel_rfl) (by kernel_rfl) ?_
       refine run_k (by kernel_rfl) ?_
       refine inbN ?_
       refine thenN ?_
       refine run0z [] [0,1,2,33,34,35] [.sl false (a0.map (SL E_GTone)),.sl false (a1.map E_GInstrument),.i a2,.sl false (a1.map E_GInstrument),.i (a1.length : Int),.i (wr (l1_35 + 1))] ⟨[],1⟩ _ (by kernel_rfl) cj0 ?_
       replace hl1 := Option.some.inj hl1; subst hl1
       exact ⟨_,rfl,pi [],mkInto (ks := [0,1,2,33,34,35]) (ys := [.sl false (a0.map (SL E_GTone)),.sl false (a1.map E_GInstrument),.i a2,.sl false (a1.map E_GInstrument),.i (a1.length : Int),.i (wr (l1_35 + 1))]) (by kernel_rfl) (by kernel_rfl) (.k (.c (cleanMap _ _ (cl_SL cl_GTone))) (.k (.c (cleanMap _ _ cl_GInstrument)) (.k (.c rfl) (.k (.c (cleanMap _ _ cl_GInstrument)) (.k (.c rfl) (.k (.c rfl) .z)))))) .z⟩
     ·refine run_cF 36 (c6 36) (c6 37) (decide (l1_35 < (a1.length : Int))) hc5 (by kernel_rfl) (by kernel_rfl) ?_
      replace hl1 := Option.some.inj hl1; subst hl1
      have hr := rl1 _ rfl
      subst hr
      refine awp_p [0,1,2] [] (zipE [0,1,2] [.sl false (a0.map (SL E_GTone)),.sl false (a1.map E_GInstrument),.i a2]) ⟨[],0⟩ (by kernel_rfl) (?_)
      refine run_e 1 (by kernel_rfl) ?_
      refine thenE ?_
      refine ⟨⟨_,rfl⟩,?_⟩
      refine inbE ?_
      exact kl1 () rfl
    ·rintro ⟨⟩ rfl
     replace h := elimL h
     refine thenN ?_
     refine run_s (c6 53) (c6 67) (by kernel_rfl) ?_
     refine run_b 3 (c6 54) (by kernel_rfl) ?_
     obtain ⟨r9,hr9,h⟩ := bindE h
     refine run1z (c6 56) [{},{ c := some (.bool r9,⟨[],0⟩) }] [0,1,2,45] [.sl false (a0.map (SL E_GTone)),.sl false (a1.map E_GInstrument),.i a2,.bool (!r9)] ⟨[],0⟩ _ (by kernel_rfl) (cj1 (f17_ok a2 1 6 _ hr9 ⟨[],0⟩)) ?_
     rcases iteE h with ⟨hc10,h⟩ | ⟨hc10,h⟩
     ·refine run_cT 45 (c6 57) (c6 60) (!r9) hc10 (by kernel_rfl) (by kernel_rfl) ?_
      refine run1z (c6 59) [] [6,7,8] [.sl true [],.i 0,.i 1] ⟨[],0⟩ _ (by kernel_rfl) cj0 ?_
      refine run_i 0 [] [6,7,8] [.sl true [],.i 0,.i 1] (xs := [.sl false (([] : List Int).map AV.i),.i 0,.i 1]) (S2 := ⟨[],0⟩) ?_ (by intro i e; cases e <;> exact Nat.le_of_ble_eq_true rfl) (by kernel_rfl) (by kernel_rfl) (by kernel_rfl) (.k (.s (cleanMap (([] : List Int)) _ cl_i)) (.k (.c rfl) (.k (.c rfl) .z))) .z
      refine run_t (by kernel_rfl) ?_
      refine inbR ?_
      refine thenR ?_
      replace h := Option.some.inj h; subst h
      exact fin_r (by kernel_rfl) rfl
     ·refine run_cF 45 (c6 57) (c6 60) (!r9) hc10 (by kernel_rfl) (by kernel_rfl) ?_
      refine run1z (c6 62) [{},{ k := 1,n := a0.length },{},{},{ k := 1,n := a1.length }] [0,1,2,49] [.sl false (a0.map (SL E_GTone)),.sl false (a1.map E_GInstrument),.i a2,.bool (decide ((wr (a2 * (a1.length : Int))) < (a0.length : Int)))] ⟨[],0⟩ _ (by kernel_rfl) (cjC (mapLen a0 (SL E_GTone)) (cj1 (mapLen a1 E_GInstrument))) ?_
      rcases iteE h with ⟨hc11,h⟩ | ⟨hc11,h⟩
      ·refine run_cT 49 (c6 63) (c6 66) (decide ((wr (a2 * (a1.length : Int))) < (a0.length : Int))) hc11 (by kernel_rfl) (by kernel_rfl) ?_
       refine run1z (c6 65) [] [6,7,8] [.sl true [],.i 0,.i 90] ⟨[],0⟩ _ (by kernel_rfl) cj0 ?_
       refine run_i 0 [] [6,7,8] [.sl true [],.i 0,.i 90] (xs := [.sl false (([] : List Int).map AV.i),.i 0,.i 90]) (S2 := ⟨[],0⟩) ?_ (by intro i e; cases e <;> exact Nat.le_of_ble_eq_true rfl) (by kernel_rfl) (by kernel_rfl) (by kernel_rfl) (.k (.s (cleanMap (([] : List Int)) _ cl_i)) (.k (.c rfl) (.k (.c rfl) .z))) .z
       refine run_t (by kernel_rfl) ?_
       refine inbR ?_
       refine thenR ?_
       replace h := Option.some.inj h; subst h
       exact fin_r (by kernel_rfl) rfl
      ·refine run_cF 49 (c6 63) (c6 66) (decide ((wr (a2 * (a1.length : Int))) < (a0.length : Int))) hc11 (by kernel_rfl) (by kernel_rfl) ?_
       refine run_k (by kernel_rfl) ?_
       refine inbN ?_
       refine thenN ?_
       obtain ⟨hn12,h⟩ := needE h
       obtain ⟨hn13,h⟩ := needE h
       let v_p : AV := .sl false (a0.map (SL E_GTone))
       let v_s : AV := .sl false (a1.map E_GInstrument)
       refine run1z (c6 69) [{},{ k := 1,n := a0.length },{ k := 1,n := (a0.length : Int).toNat,l := List.replicate (a0.length : Int).toNat (.sl true []) }] [0,1,2,13] [v_p,v_s,.i a2,.ms 0 0 (a0.length : Int).toNat] ⟨[(0,.cells 1 (List.replicate (a0.length : Int).toNat (.sl true [])))],1⟩ _ (by kernel_rfl) (cjC (mapLen a0 (SL E_GTone)) (cjC (hn12) (cjC (Int.le_refl (a0.length : Int)) (cjC (hn13) (cjC (Eq.refl ((a0.length : Int).toNat)) (cj1 (Eq.refl (List.replicate (a0.length : Int).toNat (AV.sl true []))))))))) ?_
       refine run_s (c6 70) (c6 111) (by kernel_rfl) ?_
       refine run1z (c6 72) [{},{ k := 1,n := a0.length }] [1,2,13,60,61,62] [v_s,.i a2,.ms 0 0 (a0.length : Int).toNat,v_p,.i (a0.length : Int),.i 0] ⟨[(0,.cells 1 (List.replicate (a0.length : Int).toNat (.sl true [])))],1⟩ _ (by kernel_rfl) (cj1 (mapLen a0 (SL E_GTone))) ?_
       obtain ⟨ol2x,hll2x,h⟩ := bindE h
       refine run_tq (fun (l2x_13 : (List (List Int))) => (zipE [1,2,13] [v_s,.i a2,.ms 0 0 l2x_13.length])) (fun (l2x_13 : (List (List Int))) => ⟨[(0,.cells 1 (l2x_13.map (SL AV.i)))],1⟩) (fun j => ol2x = .inl j) (fun kl2 => ?_) ?_
       ·refine run_b 4 (c6 73) (by kernel_rfl) ?_
        refine run_l (c6 74) _ hll2x (fun (q : List (List Int)) => (zipE [1,2,13,60,61,62] [v_s,.i a2,.ms 0 0 (a0.length : Int).toNat,v_p,.i (a0.length : Int),.i (q.length : Int)])) (fun (q : List (List Int)) => ⟨[(0,.cells 1 (q.map (SL AV.i) ++ List.replicate ((a0.length : Int).toNat - q.length) (.sl true [])))],1⟩) [] (by intro i e; cases e <;> exact Nat.le_of_ble_eq_true rfl) (by kernel_rfl) (mkInto (ks := [1,2,13,60,61,62]) (ys := [v_s,.i a2,.ms 0 0 (a0.length : Int).toNat,v_p,.i (a0.length : Int),.i 0]) (by kernel_rfl) (by kernel_rfl) (.k (.c (cleanMap _ _ cl_GInstrument)) (.k (.c rfl) (.k (.ms rfl rfl) (.k (.c (cleanMap _ _ (cl_SL cl_GTone))) (.k (.c rfl) (.k (.c rfl) .z)))))) (.k (x' := .cells 1 (List.replicate (a0.length : Int).toNat (.sl true []))) (by kernel_rfl) (.cells (.r (cleanRep _))) .z)) ?_
        intro q out hl2 rl2
        refine run1z (c6 76) [] [1,2,13,60,61,62,63] [v_s,.i a2,.ms 0 0 (a0.length : Int).toNat,v_p,.i (a0.length : Int),.i (q.length : Int),.bool (decide ((q.length : Int) < (a0.length : Int)))] ⟨[(0,.cells 1 (q.map (SL AV.i) ++ List.replicate ((a0.length : Int).toNat - q.length) (.sl true [])))],1⟩ _ (by kernel_rfl) cj0 ?_
        refine run_s (c6 77) (c6 80) (by kernel_rfl) ?_
        rcases iteE hl2 with ⟨hc14,hl2⟩ | ⟨hc14,hl2⟩
        ·refine run_cT 63 (c6 78) (c6 79) (decide ((q.length : Int) < (a0.length : Int))) hc14 (by kernel_rfl) (by kernel_rfl) ?_
         have hq : q.length < a0.length := by have := of_decide_eq_true hc14; omega
         refine run_k (by kernel_rfl) ?_
         refine thenN ?_
         refine run_s (c6 81) (c6 110) (by kernel_rfl) ?_
         refine run_b 5 (c6 82) (by kernel_rfl) ?_
         obtain ⟨y15,hy15,hl2⟩ := bindE hl2
         refine run1z (c6 84) [{},{ k := 1,x := (SL E_GTone) y15 }] [1,2,13,14,15,60,61,62] [v_s,.i a2,.ms 0 0 (a0.length : Int).toNat,.i (q.length : Int),.sl false (y15.map E_GTone),v_p,.i (a0.length : Int),.i (q.length : Int)] ⟨[(0,.cells 1 (q.map (SL AV.i) ++ List.replicate ((a0.length : Int).toNat - q.length) (.sl true [])))],1⟩ _ (by kernel_rfl) (cjC ((ixE hy15).1) (cj1 (mapGet (SL E_GTone) (ixE hy15).2))) ?_
         refine run1z (c6 86) [{},{ k := 1,n := a1.length }] [1,2,13,14,15,60,61,62,67,68,69] [v_s,.i a2,.ms 0 0 (a0.length : Int).toNat,.i (q.length : Int),.sl false (y15.map E_GTone),v_p,.i (a0.length : Int),.i (q.length : Int),v_s,.i (a1.length : Int),.i 0] ⟨[(0,.cells 1 (q.map (SL AV.i) ++ List.replicate ((a0.length : Int).toNat - q.length) (.sl true [])))],1⟩ _ (by kernel_rfl) (cj1 (mapLen a1 E_GInstrument)) ?_
         rw [rowsNext (a := q.length) (n := (a0.length : Int).toNat) (by omega)]
         refine run_i 1 [] [1,2,13,14,15,60,61,62,67,68,69] [v_s,.i a2,.ms 0 0 (a0.length : Int).toNat,.i (q.length : Int),.sl false (y15.map E_GTone),v_p,.i (a0.length : Int),.i (q.length : Int),v_s,.i (a1.length : Int),.i 0] (xs := [v_s,.i a2,.ms 0 0 (a0.length : Int).toNat,.i (q.length : Int),.sl false (y15.map E_GTone),v_p,.i (a0.length : Int),.i (q.length : Int),v_s,.i (a1.length : Int),.i 0]) (S2 := ⟨[(1,.cells 1 []),(0,.cells 1 (q.map (SL AV.i) ++ .ms 1 0 0 :: List.replicate ((a0.length : Int).toNat - q.length - 1) (.sl true [])))],2⟩) ?_ (by intro i e; cases e <;> exact Nat.le_of_ble_eq_true rfl) (by kernel_rfl) (by kernel_rfl) (by kernel_rfl) (.k (.c (cleanMap _ _ cl_GInstrument)) (.k (.c rfl) (.k (.ms rfl rfl) (.k (.c rfl) (.k (.c (cleanMap _ _ cl_GTone)) (.k (.c (cleanMap _ _ (cl_SL cl_GTone))) (.k (.c rfl) (.k (.c rfl) (.k (.c (cleanMap _ _ cl_GInstrument)) (.k (.c rfl) (.k (.c rfl) .z))))))))))) (.n (by kernel_rfl) (by kernel_rfl) (by kernel_rfl) (.k (x' := .cells 1 (q.map (SL AV.i) ++ .sl true [] :: List.replicate ((a0.length : Int).toNat - q.length - 1) (.sl true []))) (by kernel_rfl) (.cells (.p (.r (cleanMap _ _ (cl_SL cl_i))) (.k .n (.r (cleanRep _))))) .z))
         obtain ⟨ol3x,hll3x,hl2⟩ := bindE hl2
         refine run_tq (fun (l3x_13 : (List Int)) => (zipE [1,2,13,60,61,62] [v_s,.i a2,.ms 0 0 (a0.length : Int).toNat,v_p,.i (a0.length : Int),.i (q.length : Int)])) (fun (l3x_13 : (List Int)) => ⟨[(0,.cells 1 (q.map (SL AV.i) ++ .sl false (l3x_13.map AV.i) :: List.replicate ((a0.length : Int).toNat - q.length - 1) (.sl true [])))],3⟩) (fun j => ol3x = .inl j) (fun kl3 => ?_) ?_
         ·refine run_b 6 (c6 87) (by kernel_rfl) ?_
          refine run_l (c6 88) _ hll3x (fun ((w,k) : (List Int × Int)) => (zipE [1,2,13,14,15,60,61,62,67,68,69] [v_s,.i a2,.ms 0 0 (a0.length : Int).toNat,.i (q.length : Int),.sl false (y15.map E_GTone),v_p,.i (a0.length : Int),.i (q.length : Int),v_s,.i (a1.length : Int),.i k])) (fun ((w,k) : (List Int × Int)) => ⟨[(2,.cells 1 (w.map AV.i)),(0,.cells 1 (q.map (SL AV.i) ++ .ms 2 0 w.length :: List.replicate ((a0.length : Int).toNat - q.length - 1) (.sl true [])))],3⟩) [(2,1)] (by intro i e; cases e <;> exact Nat.le_of_ble_eq_true rfl) (by kernel_rfl) (mkInto (ks := [1,2,13,14,15,60,61,62,67,68,69]) (ys := [v_s,.i a2,.ms 0 0 (a0.length : Int).toNat,.i (q.length : Int),.sl false (y15.map E_GTone),v_p,.i (a0.length : Int),.i (q.length : Int),v_s,.i (a1.length : Int),.i 0]) (by kernel_rfl) (by kernel_rfl) (.k (.c (cleanMap _ _ cl_GInstrument)) (.k (.c rfl) (.k (.ms rfl rfl) (.k (.c rfl) (.k (.c (cleanMap _ _ cl_GTone)) (.k (.c (cleanMap _ _ (cl_SL cl_GTone))) (.k (.c rfl) (.k (.c rfl) (.k (.c (cleanMap _ _ cl_GInstrument)) (.k (.c rfl) (.k (.c rfl) .z))))))))))) (.k (x' := .cells 1 []) (by kernel_rfl) (.cells .z) (.k (x' := .cells 1 (q.map (SL AV.i) ++ .ms 1 0 0 :: List.replicate ((a0.length : Int).toNat - q.length - 1) (.sl true []))) (by kernel_rfl) (.cells (.p (.r (cleanMap _ _ (cl_SL cl_i))) (.k (.ms rfl rfl) (.r (cleanRep _))))) .z))) ?_
          rintro ⟨w,k⟩ out hl3 rl3
          let b_r : Blk := .cells 1 (w.map AV.i)
          let b_t : Blk := .cells 1 (q.map (SL AV.i) ++ .ms 2 0 w.length :: List.replicate ((a0.length : Int).toNat - q.length - 1) (.sl true []))
          refine run1z (c6 90) [] [1,2,13,14,15,60,61,62,67,68,69,70] [v_s,.i a2,.ms 0 0 (a0.length : Int).toNat,.i (q.length : Int),.sl false (y15.map E_GTone),v_p,.i (a0.length : Int),.i (q.length : Int),v_s,.i (a1.length : Int),.i k,.bool (decide (k < (a1.length : Int)))] ⟨[(2,b_r),(0,b_t)],3⟩ _ (by kernel_rfl) cj0 ?_
          refine run_s (c6 91) (c6 94) (by kernel_rfl) ?_
          rcases iteE hl3 with ⟨hc16,hl3⟩ | ⟨hc16,hl3⟩
          ·refine run_cT 70 (c6 92) (c6 93) (decide (k < (a1.length : Int))) hc16 (by kernel_rfl) (by kernel_rfl) ?_
           refine run_k (by kernel_rfl) ?_
           refine thenN ?_
           refine run_s (c6 95) (c6 109) (by kernel_rfl) ?_
           refine run_b 7 (c6 96) (by kernel_rfl) ?_
           obtain ⟨y17,hy17,hl3⟩ := bindE hl3
           refine run1z (c6 98) [{ k := 1,x := E_GInstrument y17 }] [1,2,13,14,15,17,60,61,62,67,68,69] [v_s,.i a2,.ms 0 0 (a0.length : Int).toNat,.i (q.length : Int),.sl false (y15.map E_GTone),.mp 3 0 0,v_p,.i (a0.length : Int),.i (q.length : Int),v_s,.i (a1.length : Int),.i k] ⟨[(3,.cells 2 [E_GInstrument y17]),(2,b_r),(0,b_t)],4⟩ _ (by kernel_rfl) (cjC ((ixE hy17).1) (cj1 (mapGet E_GInstrument (ixE hy17).2))) ?_
           obtain ⟨r18,hr18,hl3⟩ := bindE hl3
           refine run1z (c6 100) [{},{},{},{ c := some (.tup [.i r18.1,.i r18.2],⟨[(3,.cells 2 [E_GInstrument y17]),(2,b_r),(0,b_t)],4⟩) }] [1,2,13,14,15,18,19,60,61,62,67,68,69] [v_s,.i a2,.ms 0 0 (a0.length : Int).toNat,.i (q.length : Int),.sl false (y15.map E_GTone),.i r18.1,.i r18.2,v_p,.i (a0.length : Int),.i (q.length : Int),v_s,.i (a1.length : Int),.i k] ⟨[(2,b_r),(0,b_t)],4⟩ _ (by kernel_rfl) (cj1 (APure.co (ok := fun _ => false) (π := id) (args := [.sl true [.sl false (y15.map E_GTone)],E_GInstrument y17,.i 0]) (f18_ok ([y15] : List (List GTone)) y17 0 _ hr18) (.k (.s (cleanMap (([y15] : List (List GTone))) _ (cl_SL cl_GTone))) (.k (.c (cl_GInstrument y17)) (.k (.c rfl) .z))) ⟨[(3,.cells 2 [E_GInstrument y17]),(2,b_r),(0,b_t)],4⟩)) ?_
           refine run_s (c6 101) (c6 108) (by kernel_rfl) ?_
           refine run1z (c6 103) [] [1,2,13,14,15,18,19,60,61,62,67,68,69,81] [v_s,.i a2,.ms 0 0 (a0.length : Int).toNat,.i (q.length : Int),.sl false (y15.map E_GTone),.i r18.1,.i r18.2,v_p,.i (a0.length : Int),.i (q.length : Int),v_s,.i (a1.length : Int),.i k,.bool (decide (r18.2 ≠ 0))] ⟨[(2,b_r),(0,b_t)],4⟩ _ (by kernel_rfl) cj0 ?_
           rcases iteE hl3 with ⟨hc19,hl3⟩ | ⟨hc19,hl3⟩
           ·refine run_cT 81 (c6 104) (c6 107) (decide (r18.2 ≠ 0)) hc19 (by kernel_rfl) (by kernel_rfl) ?_
            refine run1z (c6 106) [] [6,7,8] [.sl true [],.i 0,.i r18.2] ⟨[],4⟩ _ (by kernel_rfl) cj0 ?_
            replace hl3 := Option.some.inj hl3; subst hl3
            have hr := rl3 _ rfl
            subst hr
            replace hl2 := elimR hl2
            replace hl2 := Option.some.inj hl2; subst hl2
            have hr := rl2 _ rfl
            subst hr
            replace h := elimR h
            refine run_i 4 [] [6,7,8] [.sl true [],.i 0,.i r18.2] (xs := [.sl false (([] : List Int).map AV.i),.i 0,.i r18.2]) (S2 := ⟨[],4⟩) ?_ (by intro i e; cases e <;> exact Nat.le_of_ble_eq_true rfl) (by kernel_rfl) (by kernel_rfl) (by kernel_rfl) (.k (.s (cleanMap (([] : List Int)) _ cl_i)) (.k (.c rfl) (.k (.c rfl) .z))) .z
            refine run_t (by kernel_rfl) ?_
            refine thenR ?_
            refine inbR ?_
            refine thenR ?_
            refine ⟨⟨_,rfl⟩,?_⟩
            refine inbR ?_
            refine inbR ?_
            refine thenR ?_
            refine ⟨⟨_,rfl⟩,?_⟩
            refine inbR ?_
            refine thenR ?_
            replace h := Option.some.inj h; subst h
            exact fin_r (by kernel_rfl) rfl
           ·refine run_cF 81 (c6 104) (c6 107) (decide (r18.2 ≠ 0)) hc19 (by kernel_rfl) (by kernel_rfl) ?_
            refine run_k (by kernel_rfl) ?_
            refine thenN ?_
            obtain ⟨hn21,hl3⟩ := needE hl3
            refine run0z [{},{},{},{},{ k := 1,n := (q.length : Int).toNat },{ k := 1,x := .ms 2 0 w.length },{},{},{ k := 1,n := (w ++ [r18.1]).length,l := (w ++ [r18.1]).map AV.i },{ k := 1,n := (q.length : Int).toNat },{ k := 1,x := .ms 2 0 w.length,l := q.map (SL AV.i) ++ .ms 4 0 (w ++ [r18.1]).length :: List.replicate ((a0.length : Int).toNat - q.length - 1) (.sl true []) }] [1,2,13,14,15,60,61,62,67,68,69] [v_s,.i a2,.ms 0 0 (a0.length : Int).toNat,.i (q.length : Int),.sl false (y15.map E_GTone),v_p,.i (a0.length : Int),.i (q.length : Int),v_s,.i (a1.length : Int),.i k] ⟨[(4,.cells 1 ((w ++ [r18.1]).map AV.i)),(0,.cells 1 (q.map (SL AV.i) ++ .ms 4 0 (w ++ [r18.1]).length :: List.replicate ((a0.length : Int).toNat - q.length - 1) (.sl true [])))],5⟩ _ (by kernel_rfl) (cjC (rowsNn q) (cjC (rowsLt hq) (cjC (Nat.zero_add (q.length : Int).toNat) (cjC (rowsGet (e := SL AV.i) q (.ms 2 0 w.length) (List.replicate ((a0.length : Int).toNat - q.length - 1) (AV.sl true []))) (cjC (@List.cons_ne_nil AV (.i r18.1) []) (cjC (mLe w AV.i) (cjC (hn21) (cjC (lenA w ([r18.1] : List Int)) (cjC (appA w ([r18.1] : List Int) AV.i) (cjC (fitsOne (P := Try.prog) (t := 3) (x := .i r18.1) (r := []) (by kernel_rfl)) (cjC (rowsNn q) (cjC (rowsLt hq) (cjC (Nat.zero_add (q.length : Int).toNat) (cjC (rowsGet (e := SL AV.i) q (.ms 2 0 w.length) (List.replicate ((a0.length : Int).toNat - q.length - 1) (AV.sl true []))) (cjC (by decide : (1 : Nat) ≤ 1) (cj1 (rowsSet (e := SL AV.i) q (.ms 2 0 w.length) (.ms 4 0 (w ++ [r18.1]).length) (List.replicate ((a0.length : Int).toNat - q.length - 1) (AV.sl true []))))))))))))))))))) ?_
            refine inbN ?_
            refine thenN ?_
            refine run0z [] [1,2,13,14,15,60,61,62,67,68,69] [v_s,.i a2,.ms 0 0 (a0.length : Int).toNat,.i (q.length : Int),.sl false (y15.map E_GTone),v_p,.i (a0.length : Int),.i (q.length : Int),v_s,.i (a1.length : Int),.i (wr (k + 1))] ⟨[(4,.cells 1 ((w ++ [r18.1]).map AV.i)),(0,.cells 1 (q.map (SL AV.i) ++ .ms 4 0 (w ++ [r18.1]).length :: List.replicate ((a0.length : Int).toNat - q.length - 1) (.sl true [])))],5⟩ _ (by kernel_rfl) cj0 ?_
            replace hl3 := Option.some.inj hl3; subst hl3
            exact ⟨_,rfl,pi [(2,4)],mkInto (ks := [1,2,13,14,15,60,61,62,67,68,69]) (ys := [v_s,.i a2,.ms 0 0 (a0.length : Int).toNat,.i (q.length : Int),.sl false (y15.map E_GTone),v_p,.i (a0.length : Int),.i (q.length : Int),v_s,.i (a1.length : Int),.i (wr (k + 1))]) (by kernel_rfl) (by kernel_rfl) (.k (.c (cleanMap _ _ cl_GInstrument)) (.k (.c rfl) (.k (.ms rfl rfl) (.k (.c rfl) (.k (.c (cleanMap _ _ cl_GTone)) (.k (.c (cleanMap _ _ (cl_SL cl_GTone))) (.k (.c rfl) (.k (.c rfl) (.k (.c (cleanMap _ _ cl_GInstrument)) (.k (.c rfl) (.k (.c rfl) .z))))))))))) (.k (x' := .cells 1 ((w ++ [r18.1]).map AV.i)) (by kernel_rfl) (.cells (.r (cleanMap _ _ cl_i))) (.k (x' := .cells 1 (q.map (SL AV.i) ++ .ms 4 0 (w ++ [r18.1]).length :: List.replicate ((a0.length : Int).toNat - q.length - 1) (.sl true []))) (by kernel_rfl) (.cells (.p (.r (cleanMap _ _ (cl_SL cl_i))) (.k (.ms rfl rfl) (.r (cleanRep _))))) .z))⟩
          ·refine run_cF 70 (c6 92) (c6 93) (decide (k < (a1.length : Int))) hc16 (by kernel_rfl) (by kernel_rfl) ?_
           replace hl3 := Option.some.inj hl3; subst hl3
           have hr := rl3 _ rfl
           subst hr
           refine awp_p [1,2,13,60,61,62] [2,0] (zipE [1,2,13,60,61,62] [v_s,.i a2,.ms 0 0 (a0.length : Int).toNat,v_p,.i (a0.length : Int),.i (q.length : Int)]) ⟨[(2,b_r),(0,b_t)],3⟩ (by kernel_rfl) (?_)
           refine run_z 2 1 (w.map AV.i) [1,2,13,60,61,62] [v_s,.i a2,.ms 0 0 (a0.length : Int).toNat,v_p,.i (a0.length : Int),.i (q.length : Int)] (xs := [v_s,.i a2,.ms 0 0 (a0.length : Int).toNat,v_p,.i (a0.length : Int),.i (q.length : Int)]) (S2 := ⟨[(0,.cells 1 (q.map (SL AV.i) ++ .sl false (w.map AV.i) :: List.replicate ((a0.length : Int).toNat - q.length - 1) (.sl true [])))],3⟩) ?_ (by kernel_rfl) (by kernel_rfl) (.k (.r _) (.k (.r _) (.k (.r _) (.k (.r _) (.k (.r _) (.k (.r _) .z)))))) (.k (x' := b_t) rfl (by kernel_rfl) (.cells (fzRows _ _ (.m (mLe w AV.i) (mapAll w AV.i)))) .z) rfl rfl
           refine run_e 6 (by kernel_rfl) ?_
           refine thenE ?_
           refine ⟨⟨_,rfl⟩,?_⟩
           refine inbE ?_
           exact kl3 w rfl
         ·rintro l3x_13 rfl
          replace hl2 := elimL hl2
          refine inbN ?_
          refine thenN ?_
          refine run0z [] [1,2,13,60,61,62] [v_s,.i a2,.ms 0 0 (a0.length : Int).toNat,v_p,.i (a0.length : Int),.i (wr ((q.length : Int) + 1))] ⟨[(0,.cells 1 (q.map (SL AV.i) ++ .sl false (l3x_13.map AV.i) :: List.replicate ((a0.length : Int).toNat - q.length - 1) (.sl true [])))],3⟩ _ (by kernel_rfl) cj0 ?_
          replace hl2 := Option.some.inj hl2; subst hl2
          rw [rowsWr q l3x_13 hq hn13,rowsSnoc q l3x_13]
          exact ⟨_,rfl,pi [],mkInto (ks := [1,2,13,60,61,62]) (ys := [v_s,.i a2,.ms 0 0 (a0.length : Int).toNat,v_p,.i (a0.length : Int),.i ((q ++ [l3x_13]).length : Int)]) (by kernel_rfl) (by kernel_rfl) (.k (.c (cleanMap _ _ cl_GInstrument)) (.k (.c rfl) (.k (.ms rfl rfl) (.k (.c (cleanMap _ _ (cl_SL cl_GTone))) (.k (.c rfl) (.k (.c rfl) .z)))))) (.k (x' := .cells 1 ((q ++ [l3x_13]).map (SL AV.i) ++ List.replicate ((a0.length : Int).toNat - (q ++ [l3x_13]).length) (.sl true []))) (by kernel_rfl) (.cells (.p (.r (cleanMap _ _ (cl_SL cl_i))) (.r (cleanRep _)))) .z)⟩
        ·refine run_cF 63 (c6 78) (c6 79) (decide ((q.length : Int) < (a0.length : Int))) hc14 (by kernel_rfl) (by kernel_rfl) ?_
         obtain ⟨hqe,hl2⟩ := needE hl2
         replace hl2 := Option.some.inj hl2; subst hl2
         have hr := rl2 _ rfl
         subst hr
         have hN : (a0.length : Int).toNat = q.length := by omega
         have hE : q.map (SL AV.i) ++ List.replicate ((a0.length : Int).toNat - q.length) (AV.sl true []) = q.map (SL AV.i) := by rw [hN,Nat.sub_self]; simp
         rw [hE,hN]
         refine awp_p [1,2,13] [0] (zipE [1,2,13] [v_s,.i a2,.ms 0 0 q.length]) ⟨[(0,.cells 1 (q.map (SL AV.i)))],1⟩ (by kernel_rfl) (?_)
         refine run_e 4 (by kernel_rfl) ?_
         refine thenE ?_
         refine ⟨⟨_,rfl⟩,?_⟩
         refine inbE ?_
         exact kl2 q rfl
       ·rintro l2x_13 rfl
        replace h := elimL h
        refine thenN ?_
        refine run_z 0 1 (l2x_13.map (SL AV.i)) [1,2,13] [.sl false (a1.map E_GInstrument),.i a2,.ms 0 0 l2x_13.length] (xs := [.sl false (a1.map E_GInstrument),.i a2,.sl false (l2x_13.map (SL AV.i))]) (S2 := ⟨[],1⟩) ?_ (by kernel_rfl) (by kernel_rfl) (.k (.r _) (.k (.r _) (.k (.m (mLe l2x_13 (SL AV.i)) (mapAll l2x_13 (SL AV.i))) .z))) .z rfl rfl
        obtain ⟨r22,hr22,h⟩ := bindE h
        refine run1z (c6 113) [{},{},{ k := 1,n := a1.length },{},{ c := some (.tup [.sl false (r22.1.map AV.i),.i r22.2],⟨[],1⟩) }] [6,7] [.sl false (r22.1.map AV.i),.i r22.2] ⟨[],1⟩ _ (by kernel_rfl) (cjC (mapLen a1 E_GInstrument) (cj1 (f19_ok l2x_13 (a1.length : Int) a2 _ hr22 ⟨[],1⟩))) ?_
        refine run1z (c6 115) [] [6,7,8] [.sl false (r22.1.map AV.i),.i r22.2,.i 0] ⟨[],1⟩ _ (by kernel_rfl) cj0 ?_
        refine run_t (by kernel_rfl) ?_
        replace h := Option.some.inj h; subst h
        exact fin_r (by kernel_rfl) rfl
def f7 (a0 : List (List GTone)) (a1 : List GInstrument) (a2 : List Int) (a3 : Int) : Option (Int × Bool) := need (0 ≤ (a1.length : Int)) <| need ((a1.length : Int) ≤ (maxElems : Int)) <| (loopN (σ := (List Int × Int × Int)) (τ := (Int ⊕ (Int × Bool))) (fun ((l1_10,l1_11,l1_21) : (List Int × Int × Int)) => bif (decide (l1_21 < (a2.length : Int))) then ((ix a2 l1_21).bind fun y4 => ((bif (decide (y4 < 0)) then (some true) else (some (decide ((a1.length : Int) ≤ y4)))) : Option Bool).bind fun (j2_33 : Bool) => bif j2_33 then (some (.inr (.inr (0,false)))) else (need (0 ≤ l1_21) <| need (0 ≤ (wr (l1_21 + 1))) <| need (l1_21.toNat ≤ (wr (l1_21 + 1)).toNat) <| need ((wr (l1_21 + 1)).toNat ≤ a0.length) <| (ix a1 y4).bind fun y11 => (f18 ((a0.take (wr (l1_21 + 1)).toNat).drop l1_21.toNat) y11 0).bind fun r12 => (ix l1_10 y4).bind fun y13 => ((bif (decide (r12.2 ≠ 0)) then (some true) else ((ix (l1_10.set y4.toNat (wr (y13 + 1))) y4).bind fun y15 => some (decide (a3 < y15)))) : Option Bool).bind fun (j3_62 : Bool) => bif j3_62 then (some (.inr (.inr (0,false)))) else (some (.inl ((l1_10.set y4.toNat (wr (y13 + 1))),(wr (l1_11 + r12.1)),(wr (l1_21 + 1))))))) else (some (.inr (.inl l1_11)))) FUEL ((List.replicate (a1.length : Int).toNat (0 : Int)),0,0)).bind (Sum.elim (fun (l1x_11 : Int) => some (l1x_11,true)) some)
theorem f7_ok (a0 : List (List GTone)) (a1 : List GInstrument) (a2 : List Int) (a3 : Int) (r : (Int × Bool)) (h : f7 a0 a1 a2 a3 = some r) : APure Try.prog 7 [.sl false (a0.map (SL E_GTone)),.sl false (a1.map E_GInstrument),.sl false (a2.map AV.i),.i a3] (.tup [.i r.1,.bool r.2]) := by
 refine apure (clK (cleanMap a0 _ (cl_SL cl_GTone)) (clK (cleanMap a1 _ cl_GInstrument) (clK (cleanMap a2 _ cl_i) (clK rfl clZ)))) (clK rfl (clK rfl clZ)) ?_
 let v_0 : AV := .sl false (a1.map E_GInstrument)
 let v_1 : AV := .sl false (a0.map (SL E_GTone))
 let v_2 : AV := .sl false (a2.map AV.i)
 refine run_f 68 [.tmp 8,.tmp 9] (c7 0) (zipE [0,1,2,3] [v_1,v_0,v_2,.i a3]) (by kernel_rfl) (by kernel_rfl) (by kernel_rfl) rfl ?_
 unfold f7 at h
 refine run1z (c7 2) [] [0,1,2,3] [v_1,v_0,v_2,.i a3] ⟨[],0⟩ _ (by kernel_rfl) cj0 ?_
 obtain ⟨hn1,h⟩ := needE h
 obtain ⟨hn2,h⟩ := needE h
 let b_0 : Blk := .cells 1 ((List.replicate (a1.length : Int).toNat (0 : Int)).map AV.i)
 refine run1z (c7 4) [{},{ k := 1,n := a1.length },{ k := 1,n := (a1.length : Int).toNat,l := (List.replicate (a1.length : Int).toNat (0 : Int)).map AV.i }] [0,1,2,3,10] [v_1,v_0,v_2,.i a3,.ms 0 0 (a1.length : Int).toNat] ⟨[(0,b_0)],1⟩ _ (by kernel_rfl) (cjC (mapLen a1 E_GInstrument) (cjC (hn1) (cjC (Int.le_refl (a1.length : Int)) (cjC (hn2) (cjC (Eq.refl ((a1.length : Int).toNat)) (cj1 (mapRep (a1.length : Int).toNat AV.i (0 : Int)))))))) ?_
 refine run_i 1 [] [0,1,2,3,10] [v_1,v_0,v_2,.i a3,.ms 0 0 (a1.length : Int).toNat] (xs := [v_1,v_0,v_2,.i a3,.ms 0 0 (List.replicate (a1.length : Int).toNat (0 : Int)).length]) (S2 := ⟨[(0,b_0)],1⟩) ?_ (by intro i e; cases e <;> exact Nat.le_of_ble_eq_true rfl) (by kernel_rfl) (by kernel_rfl) (by kernel_rfl) (.k (.c (cleanMap _ _ (cl_SL cl_GTone))) (.k (.c (cleanMap _ _ cl_GInstrument)) (.k (.c (cleanMap _ _ cl_i)) (.k (.c rfl) (.k (.e rfl rfl (by simp)) .z))))) (.k rfl (.cells (.r (cleanMap _ _ cl_i))) .z)
 refine run1z (c7 6) [] [0,1,2,3,10,11] [v_1,v_0,v_2,.i a3,.ms 0 0 (List.replicate (a1.length : Int).toNat (0 : Int)).length,.i 0] ⟨[(0,b_0)],1⟩ _ (by kernel_rfl) cj0 ?_
 refine run_s (c7 7) (c7 43) (by kernel_rfl) ?_
 let v_3 : AV := .i (a2.length : Int)
 refine run1z (c7 9) [{},{ k := 1,n := a2.length }] [0,1,3,10,11,19,20,21] [v_1,v_0,.i a3,.ms 0 0 (List.replicate (a1.length : Int).toNat (0 : Int)).length,.i 0,v_2,v_3,.i 0] ⟨[(0,b_0)],1⟩ _ (by kernel_rfl) (cj1 (mapLen a2 AV.i)) ?_
 obtain ⟨ol1x,hll1x,h⟩ := bindE h
 refine run_tq (fun (l1x_11 : Int) => (zipE [11] [.i l1x_11])) (fun (l1x_11 : Int) => ⟨[],1⟩) (fun j => ol1x = .inl j) (fun kl1 => ?_) ?_
 ·refine run_b 0 (c7 10) (by kernel_rfl) ?_
  refine run_l (c7 11) _ hll1x (fun ((l1_10,l1_11,l1_21) : (List Int × Int × Int)) => (zipE [0,1,3,10,11,19,20,21] [v_1,v_0,.i a3,.ms 0 0 l1_10.length,.i l1_11,v_2,v_3,.i l1_21])) (fun ((l1_10,l1_11,l1_21) : (List Int × Int × Int)) => ⟨[(0,.cells 1 (l1_10.map AV.i))],1⟩) [] (by intro i e; cases e <;> exact Nat.le_of_ble_eq_true rfl) (by kernel_rfl) (mkInto (ks := [0,1,3,10,11,19,20,21]) (ys := [v_1,v_0,.i a3,.ms 0 0 (List.replicate (a1.length : Int).toNat (0 : Int)).length,.i 0,v_2,v_3,.i 0]) (by kernel_rfl) (by kernel_rfl) (.k (.c (cleanMap _ _ (cl_SL cl_GTone))) (.k (.c (cleanMap _ _ cl_GInstrument)) (.k (.c rfl) (.k (.ms rfl rfl) (.k (.c rfl) (.k (.c (cleanMap _ _ cl_i)) (.k (.c rfl) (.k (.c rfl) .z)))))))) (.k rfl (.cells (.r (cleanMap _ _ cl_i))) .z)) ?_
  rintro ⟨l1_10,l1_11,l1_21⟩ out hl1 rl1
  let v_4 : AV := .ms 0 0 l1_10.length
  let b_1 : Blk := .cells 1 (l1_10.map AV.i)
  refine run1z (c7 13) [] [0,1,3,10,11,19,20,21,22] [v_1,v_0,.i a3,v_4,.i l1_11,v_2,v_3,.i l1_21,.bool (decide (l1_21 < (a2.length : Int)))] ⟨[(0,b_1)],1⟩ _ (by kernel_rfl) cj0 ?_
  refine run_s (c7 14) (c7 17) (by kernel_rfl) ?_
  rcases iteE hl1 with ⟨hc3,hl1⟩ | ⟨hc3,hl1⟩
  ·refine run_cT 22 (c7 15) (c7 16) (decide (l1_21 < (a2.length : Int))) hc3 (by kernel_rfl) (by kernel_rfl) ?_
   refine run_k (by kernel_rfl) ?_
   refine thenN ?_
   refine run_s (c7 18) (c7 42) (by kernel_rfl) ?_
   refine run_b 1 (c7 19) (by kernel_rfl) ?_
   obtain ⟨y4,hy4,hl1⟩ := bindE hl1
   refine run1z (c7 21) [{},{ k := 1,x := AV.i y4 }] [0,1,3,10,11,12,13,19,20,21] [v_1,v_0,.i a3,v_4,.i l1_11,.i l1_21,.i y4,v_2,v_3,.i l1_21] ⟨[(0,b_1)],1⟩ _ (by kernel_rfl) (cjC ((ixE hy4).1) (cj1 (mapGet AV.i (ixE hy4).2))) ?_
   refine run_s (c7 22) (c7 29) (by kernel_rfl) ?_
   obtain ⟨j2_33,hj2,hl1⟩ := bindE hl1
   refine run_gq (c7 24) (fun (j2_33 : Bool) => (zipE [0,1,3,10,11,12,13,19,20,21,33] [v_1,v_0,.i a3,v_4,.i l1_11,.i l1_21,.i y4,v_2,v_3,.i l1_21,.bool j2_33])) (fun (j2_33 : Bool) => ⟨[(0,b_1)],1⟩) (fun j => j2_33 = j) (fun kj2 => ?_) ?_
   ·rcases iteE hj2 with ⟨hc5,hj2⟩ | ⟨hc5,hj2⟩
    ·replace hj2 := Option.some.inj hj2; subst hj2
     exact run1z (c7 24) [{},{},{},{ g := false },{ g := false },{ g := false },{ g := false },{ k := 1,b := true }] [0,1,3,10,11,12,13,19,20,21,33] [v_1,v_0,.i a3,v_4,.i l1_11,.i l1_21,.i y4,v_2,v_3,.i l1_21,.bool true] ⟨[(0,b_1)],1⟩ _ (by kernel_rfl) (cjC (hc5) (cjC (hc5) (cjC (hc5) (cjC (hc5) (cj1 (hc5)))))) (kj2 true rfl)
    ·replace hj2 := Option.some.inj hj2; subst hj2
     exact run1z (c7 24) [{},{},{},{},{},{ k := 1,n := a1.length },{},{ k := 1,b := false }] [0,1,3,10,11,12,13,19,20,21,33] [v_1,v_0,.i a3,v_4,.i l1_11,.i l1_21,.i y4,v_2,v_3,.i l1_21,.bool (decide ((a1.length : Int) ≤ y4))] ⟨[(0,b_1)],1⟩ _ (by kernel_rfl) (cjC (hc5) (cjC (hc5) (cjC (hc5) (cjC (mapLen a1 E_GInstrument) (cjC (hc5) (cj1 (hc5))))))) (kj2 (decide ((a1.length : Int) ≤ y4)) rfl)
   ·rintro _ rfl
    rcases iteE hl1 with ⟨hc6,hl1⟩ | ⟨hc6,hl1⟩
    ·refine run_cT 33 (c7 25) (c7 28) j2_33 hc6 (by kernel_rfl) (by kernel_rfl) ?_
     refine run1z (c7 27) [] [8,9] [.i 0,.bool false] ⟨[],1⟩ _ (by kernel_rfl) cj0 ?_
     replace hl1 := Option.some.inj hl1; subst hl1
     have hr := rl1 _ rfl
     subst hr
     replace h := elimR h
     refine run_t (by kernel_rfl) ?_
     refine thenR ?_
     refine inbR ?_
     refine thenR ?_
     refine ⟨⟨_,rfl⟩,?_⟩
     refine inbR ?_
     refine thenR ?_
     replace h := Option.some.inj h; subst h
     exact fin_r (by kernel_rfl) rfl
    ·refine run_cF 33 (c7 25) (c7 28) j2_33 hc6 (by kernel_rfl) (by kernel_rfl) ?_
     refine run_k (by kernel_rfl) ?_
     refine thenN ?_
     obtain ⟨hn7,hl1⟩ := needE hl1
     obtain ⟨hn8,hl1⟩ := needE hl1
     obtain ⟨hn9,hl1⟩ := needE hl1
     obtain ⟨hn10,hl1⟩ := needE hl1
     obtain ⟨y11,hy11,hl1⟩ := bindE hl1
     obtain ⟨r12,hr12,hl1⟩ := bindE hl1
     refine yun1z (c7 31) [[],[],[],[2],[0,1,2,3],[],[],[5,6],[5,6,7],[0,1,2,3,4,5,6,7,8],[0,1,2,3,4,5,6,7,8,9],[0,1,2,3,4,5,6,7,8,9,10],[0,1,2,3,4,5,6,7,8,9,10],[0,1,2,3,4,5,6,7,8,9,10,11],[0,1,2,3,4,5,6,7,8,9,10,11,12,13]] [.light 0 false,.light 1 false,.light 2 false,.light 3 false,.light 4 false,.light 5 false,.light 6 false,.light 7 false,.light 8 false,.heavy 9 [],.light 10 false,.light 11 false,.light 12 false,.light 13 false,.light 14 false] [{},{},{},{},{ k := 1,n := l1_21.toNat,m := (wr (l1_21 + 1)).toNat,b := false,l := ((a0.take (wr (l1_21 + 1)).toNat).drop l1_21.toNat).map (SL E_GTone) },{},{},{ k := 1,x := E_GInstrument y11 },{},{ c := some (.tup [.i r12.1,.i r12.2],⟨[(0,b_1)],1⟩) }] [0,1,3,10,11,13,14,15,19,20,21] [v_1,v_0,.i a3,v_4,.i l1_11,.i y4,.i r12.1,.i r12.2,v_2,v_3,.i l1_21] ⟨[(0,b_1)],1⟩ _ (by kernel_rfl) (cjC (hn9) (cjC (leMap (SL E_GTone) hn10) (cjC (fitsMap (P := Try.prog) (t := 34) (k := 1) a0 (SL E_GTone) (by kernel_rfl) sz_SL) (cjC (Eq.refl false) (cjC (mapSub a0 (SL E_GTone) l1_21.toNat (wr (l1_21 + 1)).toNat) (cjC (hn7) (cjC (Eq.refl (l1_21.toNat)) (cjC (hn8) (cjC (Eq.refl ((wr (l1_21 + 1)).toNat)) (cjC ((ixE hy11).1) (cjC (mapGet E_GInstrument (ixE hy11).2) (cj1 (f18_ok ((a0.take (wr (l1_21 + 1)).toNat).drop l1_21.toNat) y11 0 _ hr12 ⟨[(0,b_1)],1⟩))))))))))))) ?_
     obtain ⟨y13,hy13,hl1⟩ := bindE hl1
     let b_2 : Blk := .cells 1 ((l1_10.set y4.toNat (wr (y13 + 1))).map AV.i)
     refine run1z (c7 33) [{},{},{ k := 1,n := y4.toNat },{ k := 1,x := AV.i y13 },{},{ k := 1,n := y4.toNat },{ k := 1,x := AV.i y13,l := (l1_10.set y4.toNat (wr (y13 + 1))).map AV.i }] [0,1,3,10,11,13,14,15,19,20,21] [v_1,v_0,.i a3,v_4,.i l1_11,.i y4,.i r12.1,.i r12.2,v_2,v_3,.i l1_21] ⟨[(0,b_2)],1⟩ _ (by kernel_rfl) (cjC ((ixE hy13).1) (cjC (ixLt hy13) (cjC (Nat.zero_add y4.toNat) (cjC (mapGet AV.i (ixE hy13).2) (cjC ((ixE hy13).1) (cjC (ixLt hy13) (cjC (Nat.zero_add y4.toNat) (cjC (mapGet AV.i (ixE hy13).2) (cjC ((by decide : (1 : Nat) ≤ 1)) (cj1 (mapSet l1_10 AV.i y4.toNat (wr (y13 + 1))))))))))))) ?_
     refine run_i 1 [] [0,1,3,10,11,13,14,15,19,20,21] [v_1,v_0,.i a3,v_4,.i l1_11,.i y4,.i r12.1,.i r12.2,v_2,v_3,.i l1_21] (xs := [v_1,v_0,.i a3,.ms 0 0 (l1_10.set y4.toNat (wr (y13 + 1))).length,.i l1_11,.i y4,.i r12.1,.i r12.2,v_2,v_3,.i l1_21]) (S2 := ⟨[(0,b_2)],1⟩) ?_ (by intro i e; cases e <;> exact Nat.le_of_ble_eq_true rfl) (by kernel_rfl) (by kernel_rfl) (by kernel_rfl) (.k (.c (cleanMap _ _ (cl_SL cl_GTone))) (.k (.c (cleanMap _ _ cl_GInstrument)) (.k (.c rfl) (.k (.e rfl rfl (by simp)) (.k (.c rfl) (.k (.c rfl) (.k (.c rfl) (.k (.c rfl) (.k (.c (cleanMap _ _ cl_i)) (.k (.c rfl) (.k (.c rfl) .z))))))))))) (.k (x' := b_2) (by kernel_rfl) (.cells (.r (cleanMap _ _ cl_i))) .z)
     refine run_s (c7 34) (c7 41) (by kernel_rfl) ?_
     obtain ⟨j3_62,hj3,hl1⟩ := bindE hl1
     refine run_gq (c7 36) (fun (j3_62 : Bool) => (zipE [0,1,3,10,11,14,19,20,21,62] [v_1,v_0,.i a3,.ms 0 0 (l1_10.set y4.toNat (wr (y13 + 1))).length,.i l1_11,.i r12.1,v_2,v_3,.i l1_21,.bool j3_62])) (fun (j3_62 : Bool) => ⟨[(0,b_2)],1⟩) (fun j => j3_62 = j) (fun kj3 => ?_) ?_
     ·rcases iteE hj3 with ⟨hc14,hj3⟩ | ⟨hc14,hj3⟩
      ·replace hj3 := Option.some.inj hj3; subst hj3
       exact run1z (c7 36) [{},{},{},{ g := false },{ g := false },{ g := false },{ g := false },{ g := false },{ g := false },{ k := 1,b := true }] [0,1,3,10,11,14,19,20,21,62] [v_1,v_0,.i a3,.ms 0 0 (l1_10.set y4.toNat (wr (y13 + 1))).length,.i l1_11,.i r12.1,v_2,v_3,.i l1_21,.bool true] ⟨[(0,b_2)],1⟩ _ (by kernel_rfl) (cjC (hc14) (cjC (hc14) (cjC (hc14) (cjC (hc14) (cjC (hc14) (cjC (hc14) (cj1 (hc14)))))))) (kj3 true rfl)
      ·obtain ⟨y15,hy15,hj3⟩ := bindE hj3
       replace hj3 := Option.some.inj hj3; subst hj3
       exact run1z (c7 36) [{},{},{},{},{},{ k := 1,n := y4.toNat },{ k := 1,x := AV.i y15 },{},{},{ k := 1,b := false }] [0,1,3,10,11,14,19,20,21,62] [v_1,v_0,.i a3,.ms 0 0 (l1_10.set y4.toNat (wr (y13 + 1))).length,.i l1_11,.i r12.1,v_2,v_3,.i l1_21,.bool (decide (a3 < y15))] ⟨[(0,b_2)],1⟩ _ (by kernel_rfl) (cjC (hc14) (cjC (hc14) (cjC (hc14) (cjC ((ixE hy15).1) (cjC (ixLt hy15) (cjC (Nat.zero_add y4.toNat) (cjC (hc14) (cjC (mapGet AV.i (ixE hy15).2) (cjC (hc14) (cjC (hc14) (cj1 (hc14)))))))))))) (kj3 (decide (a3 < y15)) rfl)
     ·rintro _ rfl
      rcases iteE hl1 with ⟨hc16,hl1⟩ | ⟨hc16,hl1⟩
      ·refine run_cT 62 (c7 37) (c7 40) j3_62 hc16 (by kernel_rfl) (by kernel_rfl) ?_
       refine run1z (c7 39) [] [8,9] [.i 0,.bool false] ⟨[],1⟩ _ (by kernel_rfl) cj0 ?_
       replace hl1 := Option.some.inj hl1; subst hl1
       have hr := rl1 _ rfl
       subst hr
       replace h := elimR h
       refine run_t (by kernel_rfl) ?_
       refine thenR ?_
       refine inbR ?_
       refine thenR ?_
       refine ⟨⟨_,rfl⟩,?_⟩
       refine inbR ?_
       refine thenR ?_
       replace h := Option.some.inj h; subst h
       exact fin_r (by kernel_rfl) rfl
      ·refine run_cF 62 (c7 37) (c7 40) j3_62 hc16 (by kernel_rfl) (by kernel_rfl) ?_
       refine run_k (by kernel_rfl) ?_
       refine thenN ?_
       let v_5 : AV := .i (wr (l1_11 + r12.1))
       refine run0z [] [0,1,3,10,11,19,20,21] [v_1,v_0,.i a3,.ms 0 0 (l1_10.set y4.toNat (wr (y13 + 1))).length,v_5,v_2,v_3,.i l1_21] ⟨[(0,b_2)],1⟩ _ (by kernel_rfl) cj0 ?_
       refine inbN ?_
       refine thenN ?_
       refine run0z [] [0,1,3,10,11,19,20,21] [v_1,v_0,.i a3,.ms 0 0 (l1_10.set y4.toNat (wr (y13 + 1))).length,v_5,v_2,v_3,.i (wr (l1_21 + 1))] ⟨[(0,b_2)],1⟩ _ (by kernel_rfl) cj0 ?_
       replace hl1 := Option.some.inj hl1; subst hl1
       exact ⟨_,rfl,pi [],mkInto (ks := [0,1,3,10,11,19,20,21]) (ys := [v_1,v_0,.i a3,.ms 0 0 (l1_10.set y4.toNat (wr (y13 + 1))).length,v_5,v_2,v_3,.i (wr (l1_21 + 1))]) (by kernel_rfl) (by kernel_rfl) (.k (.c (cleanMap _ _ (cl_SL cl_GTone))) (.k (.c (cleanMap _ _ cl_GInstrument)) (.k (.c rfl) (.k (.ms rfl rfl) (.k (.c rfl) (.k (.c (cleanMap _ _ cl_i)) (.k (.c rfl) (.k (.c rfl) .z)))))))) (.k (x' := b_2) (by kernel_rfl) (.cells (.r (cleanMap _ _ cl_i))) .z)⟩
  ·refine run_cF 22 (c7 15) (c7 16) (decide (l1_21 < (a2.length : Int))) hc3 (by kernel_rfl) (by kernel_rfl) ?_
   replace hl1 := Option.some.inj hl1; subst hl1
   have hr := rl1 _ rfl
   subst hr
   refine awp_p [11] [] (zipE [11] [.i l1_11]) ⟨[],1⟩ (by kernel_rfl) (?_)
   refine run_e 0 (by kernel_rfl) ?_
   refine thenE ?_
   refine ⟨⟨_,rfl⟩,?_⟩
   refine inbE ?_
   exact kl1 l1_11 rfl
 ·rintro l1x_11 rfl
  replace h := elimL h
  refine thenN ?_
  refine run1z (c7 45) [] [8,9] [.i l1x_11,.bool true] ⟨[],1⟩ _ (by kernel_rfl) cj0 ?_
  refine run_t (by kernel_rfl) ?_
  replace h := Option.some.inj h; subst h
  exact fin_r (by kernel_rfl) rfl
def f8 (a0 : Int) (a1 : Int) : Option Int := need (a1 ≠ 0) <| some (Int.tmod (wr ((Int.tmod a0 a1) + a1)) a1)
theorem f8_ok (a0 : Int) (a1 : Int) (r : Int) (h : f8 a0 a1 = some r) : APure Try.prog 8 [.i a0,.i a1] (.i r) := by
 refine apure (clK rfl (clK rfl clZ)) rfl ?_
 refine run_f 12 [.tmp 4] (c8 0) (zipE [0,1] [.i a0,.i a1]) (by kernel_rfl) (by kernel_rfl) (by kernel_rfl) rfl ?_
 unfold f8 at h
 refine run1z (c8 2) [] [0,1] [.i a0,.i a1] ⟨[],0⟩ _ (by kernel_rfl) cj0 ?_
 obtain ⟨hn1,h⟩ := needE h
 refine run1z (c8 4) [{},{},{ k := 1 },{},{},{},{ k := 1 }] [4] [.i (Int.tmod (wr ((Int.tmod a0 a1) + a1)) a1)] ⟨[],0⟩ _ (by kernel_rfl) (cjC (hn1) (cj1 (hn1))) ?_
 refine run_t (by kernel_rfl) ?_
 replace h := Option.some.inj h; subst h
 exact fin_r (by kernel_rfl) rfl
def f3 (a0 : List (List GTone)) (a1 : List GInstrument) (a2 : List Int) : Option Bool := (((f4 a0).bind fun r1 => bif (!r1) then (some true) else (bif (decide ((a1.length : Int) = 0)) then (some true) else (some (decide (4 < (a1.length : Int)))))) : Option Bool).bind fun (j1_30 : Bool) => bif j1_30 then ((f5).bind fun r5 => some r5) else (need ((a1.length : Int) ≠ 0) <| (f6 a0 a1 (wr (1 + (wr (Int.tdiv (a0.length : Int) (a1.length : Int)))))).bind fun r7 => bif (decide (r7.2.2 ≠ 0)) then ((f5).bind fun r9 => some r9) else (bif (decide ((r7.1.length : Int) ≠ (a0.length : Int))) then (some false) else ((f7 a0 a1 r7.1 (wr (1 + (wr (Int.tdiv (a0.length : Int) (a1.length : Int)))))).bind fun r11 => ((bif (!r11.2) then (some true) else (some (decide (r11.1 ≠ r7.2.1)))) : Option Bool).bind fun (j2_68 : Bool) => bif j2_68 then (some false) else ((loopN (σ := (List Int × Int)) (τ := (List Int)) (fun ((l3_13,l3_71) : (List Int × Int)) => bif (decide (l3_71 < (a0.length : Int))) then (((bif (decide (0 < (a2.length : Int))) then (need ((a2.length : Int) ≠ 0) <| (ix a2 (Int.tmod l3_71 (a2.length : Int))).bind fun y17 => some y17) else (some l3_71)) : Option Int).bind fun (j4_15 : Int) => (f8 j4_15 (a1.length : Int)).bind fun r18 => need (l3_13.length + 1 ≤ maxElems) <| some (.inl ((l3_13 ++ [r18]),(wr (l3_71 + 1))))) else (some (.inr l3_13))) FUEL (([] : List Int),0)).bind fun (l3x_13 : (List Int)) => (f7 a0 a1 l3x_13 (wr (1 + (wr (Int.tdiv (a0.length : Int) (a1.length : Int)))))).bind fun r20 => ((bif (!r20.2) then ((f5).bind fun r22 => some r22) else (bif (decide (r7.2.1 ≤ r20.1)) then ((f5).bind fun r24 => some r24) else (some false))) : Option Bool).bind fun (j5_6 : Bool) => some j5_6))))
theorem f3_ok (a0 : List (List GTone)) (a1 : List GInstrument) (a2 : List Int) (r : Bool) (h : f3 a0 a1 a2 = some r) : APure Try.prog 3 [.sl false (a0.map (SL E_GTone)),.sl false (a1.map E_GInstrument),.sl false (a2.map AV.i)] (.bool r) := by
 refine apure (clK (cleanMap a0 _ (cl_SL cl_GTone)) (clK (cleanMap a1 _ cl_GInstrument) (clK (cleanMap a2 _ cl_i) clZ))) rfl ?_
 let v_0 : AV := .sl false (a1.map E_GInstrument)
 let v_1 : AV := .sl false (a0.map (SL E_GTone))
 let v_2 : AV := .sl false (a2.map AV.i)
 refine run_f 111 [.tmp 6] (c3 0) (zipE [0,1,2] [v_1,v_0,v_2]) (by kernel_rfl) (by kernel_rfl) (by kernel_rfl) rfl ?_
 unfold f3 at h
 refine run1z (c3 2) [] [0,1,2] [v_1,v_0,v_2] ⟨[],0⟩ _ (by kernel_rfl) cj0 ?_
 refine run_s (c3 3) (c3 10) (by kernel_rfl) ?_
 obtain ⟨j1_30,hj1,h⟩ := bindE h
 refine run_gq (c3 5) (fun (j1_30 : Bool) => (zipE [0,1,2,30] [v_1,v_0,v_2,.bool j1_30])) (fun (j1_30 : Bool) => ⟨[],0⟩) (fun j => j1_30 = j) (fun kj1 => ?_) ?_
 ·obtain ⟨r1,hr1,hj1⟩ := bindE hj1
  rcases iteE hj1 with ⟨hc2,hj1⟩ | ⟨hc2,hj1⟩
  ·replace hj1 := Option.some.inj hj1; subst hj1
   exact run1z (c3 5) [{},{ c := some (.bool r1,⟨[],0⟩) },{},{},{ g := false },{ g := false },{ g := false },{ k := 1,b := true },{},{ g := false },{ g := false },{ g := false }] [0,1,2,30] [v_1,v_0,v_2,.bool true] ⟨[],0⟩ _ (by kernel_rfl) (cjC (f4_ok a0 _ hr1 ⟨[],0⟩) (cjC (hc2) (cjC (hc2) (cjC (hc2) (cjC (hc2) (cjC (Eq.refl true) (cjC (Eq.refl true) (cj1 (Eq.refl true))))))))) (kj1 true rfl)
  ·rcases iteE hj1 with ⟨hc3,hj1⟩ | ⟨hc3,hj1⟩
   ·replace hj1 := Option.some.inj hj1; subst hj1
    exact run1z (c3 5) [{},{ c := some (.bool r1,⟨[],0⟩) },{},{},{},{ k := 1,n := a1.length },{},{ k := 1,b := false },{},{ g := false },{ g := false },{ g := false },{ k := 1,b := true }] [0,1,2,30] [v_1,v_0,v_2,.bool true] ⟨[],0⟩ _ (by kernel_rfl) (cjC (f4_ok a0 _ hr1 ⟨[],0⟩) (cjC (hc2) (cjC (hc2) (cjC (mapLen a1 E_GInstrument) (cjC (hc2) (cjC (hc2) (cjC (hc3) (cjC (hc3) (cjC (hc3) (cj1 (hc3))))))))))) (kj1 true rfl)
   ·replace hj1 := Option.some.inj hj1; subst hj1
    exact run1z (c3 5) [{},{ c := some (.bool r1,⟨[],0⟩) },{},{},{},{ k := 1,n := a1.length },{},{ k := 1,b := false },{},{},{ k := 1,n := a1.length },{},{ k := 1,b := false }] [0,1,2,30] [v_1,v_0,v_2,.bool (decide (4 < (a1.length : Int)))] ⟨[],0⟩ _ (by kernel_rfl) (cjC (f4_ok a0 _ hr1 ⟨[],0⟩) (cjC (hc2) (cjC (hc2) (cjC (mapLen a1 E_GInstrument) (cjC (hc2) (cjC (hc2) (cjC (hc3) (cjC (hc3) (cjC (mapLen a1 E_GInstrument) (cjC (hc3) (cj1 (hc3)))))))))))) (kj1 (decide (4 < (a1.length : Int))) rfl)
 ·rintro _ rfl
  rcases iteE h with ⟨hc4,h⟩ | ⟨hc4,h⟩
  ·refine run_cT 30 (c3 6) (c3 9) j1_30 hc4 (by kernel_rfl) (by kernel_rfl) ?_
   obtain ⟨r5,hr5,h⟩ := bindE h
   refine run1z (c3 8) [{ c := some (.bool r5,⟨[],0⟩) }] [6] [.bool r5] ⟨[],0⟩ _ (by kernel_rfl) (cj1 (f5_ok  _ hr5 ⟨[],0⟩)) ?_
   refine run_t (by kernel_rfl) ?_
   refine thenR ?_
   replace h := Option.some.inj h; subst h
   exact fin_r (by kernel_rfl) rfl
  ·refine run_cF 30 (c3 6) (c3 9) j1_30 hc4 (by kernel_rfl) (by kernel_rfl) ?_
   refine run_k (by kernel_rfl) ?_
   refine thenN ?_
   obtain ⟨hn6,h⟩ := needE h
   let v_3 : AV := .i (wr (1 + (wr (Int.tdiv (a0.length : Int) (a1.length : Int)))))
   refine run1z (c3 12) [{},{ k := 1,n := a0.length },{},{ k := 1,n := a1.length },{ k := 1 }] [0,1,2,7] [v_1,v_0,v_2,v_3] ⟨[],0⟩ _ (by kernel_rfl) (cjC (mapLen a0 (SL E_GTone)) (cjC (mapLen a1 E_GInstrument) (cj1 (hn6)))) ?_
   obtain ⟨r7,hr7,h⟩ := bindE h
   let v_4 : AV := .sl false (r7.1.map AV.i)
   refine run1z (c3 14) [{},{},{},{ c := some (.tup [v_4,.i r7.2.1,.i r7.2.2],⟨[],0⟩) }] [0,1,2,7,8,9,10] [v_1,v_0,v_2,v_3,v_4,.i r7.2.1,.i r7.2.2] ⟨[],0⟩ _ (by kernel_rfl) (cj1 (f6_ok a0 a1 (wr (1 + (wr (Int.tdiv (a0.length : Int) (a1.length : Int))))) _ hr7 ⟨[],0⟩)) ?_
   refine run_s (c3 15) (c3 22) (by kernel_rfl) ?_
   refine run1z (c3 17) [] [0,1,2,7,8,9,47] [v_1,v_0,v_2,v_3,v_4,.i r7.2.1,.bool (decide (r7.2.2 ≠ 0))] ⟨[],0⟩ _ (by kernel_rfl) cj0 ?_
   rcases iteE h with ⟨hc8,h⟩ | ⟨hc8,h⟩
   ·refine run_cT 47 (c3 18) (c3 21) (decide (r7.2.2 ≠ 0)) hc8 (by kernel_rfl) (by kernel_rfl) ?_
    obtain ⟨r9,hr9,h⟩ := bindE h
    refine run1z (c3 20) [{ c := some (.bool r9,⟨[],0⟩) }] [6] [.bool r9] ⟨[],0⟩ _ (by kernel_rfl) (cj1 (f5_ok  _ hr9 ⟨[],0⟩)) ?_
    refine run_t (by kernel_rfl) ?_
    refine thenR ?_
    replace h := Option.some.inj h; subst h
    exact fin_r (by kernel_rfl) rfl
   ·refine run_cF 47 (c3 18) (c3 21) (decide (r7.2.2 ≠ 0)) hc8 (by kernel_rfl) (by kernel_rfl) ?_
    refine run_k (by kernel_rfl) ?_
    refine thenN ?_
    refine run_s (c3 23) (c3 30) (by kernel_rfl) ?_
    refine run1z (c3 25) [{},{ k := 1,n := r7.1.length },{},{ k := 1,n := a0.length }] [0,1,2,7,8,9,53] [v_1,v_0,v_2,v_3,v_4,.i r7.2.1,.bool (decide ((r7.1.length : Int) ≠ (a0.length : Int)))] ⟨[],0⟩ _ (by kernel_rfl) (cjC (mapLen r7.1 AV.i) (cj1 (mapLen a0 (SL E_GTone)))) ?_
    rcases iteE h with ⟨hc10,h⟩ | ⟨hc10,h⟩
    ·refine run_cT 53 (c3 26) (c3 29) (decide ((r7.1.length : Int) ≠ (a0.length : Int))) hc10 (by kernel_rfl) (by kernel_rfl) ?_
     refine run1z (c3 28) [] [6] [.bool false] ⟨[],0⟩ _ (by kernel_rfl) cj0 ?_
     refine run_t (by kernel_rfl) ?_
     refine thenR ?_
     replace h := Option.some.inj h; subst h
     exact fin_r (by kernel_rfl) rfl
    ·refine run_cF 53 (c3 26) (c3 29) (decide ((r7.1.length : Int) ≠ (a0.length : Int))) hc10 (by kernel_rfl) (by kernel_rfl) ?_
     refine run_k (by kernel_rfl) ?_
     refine thenN ?_
     refine run_s (c3 31) (c3 40) (by kernel_rfl) ?_
     obtain ⟨r11,hr11,h⟩ := bindE h
     refine run1z (c3 33) [{},{},{},{},{ c := some (.tup [.i r11.1,.bool r11.2],⟨[],0⟩) }] [0,1,2,7,9,11,12] [v_1,v_0,v_2,v_3,.i r7.2.1,.i r11.1,.bool r11.2] ⟨[],0⟩ _ (by kernel_rfl) (cj1 (f7_ok a0 a1 r7.1 (wr (1 + (wr (Int.tdiv (a0.length : Int) (a1.length : Int))))) _ hr11 ⟨[],0⟩)) ?_
     obtain ⟨j2_68,hj2,h⟩ := bindE h
     refine run_gq (c3 35) (fun (j2_68 : Bool) => (zipE [0,1,2,7,9,68] [v_1,v_0,v_2,v_3,.i r7.2.1,.bool j2_68])) (fun (j2_68 : Bool) => ⟨[],0⟩) (fun j => j2_68 = j) (fun kj2 => ?_) ?_
     ·rcases iteE hj2 with ⟨hc12,hj2⟩ | ⟨hc12,hj2⟩
      ·replace hj2 := Option.some.inj hj2; subst hj2
       exact run1z (c3 35) [{},{},{},{ g := false },{ g := false },{ g := false },{ k := 1,b := true }] [0,1,2,7,9,68] [v_1,v_0,v_2,v_3,.i r7.2.1,.bool true] ⟨[],0⟩ _ (by kernel_rfl) (cjC (hc12) (cjC (hc12) (cjC (hc12) (cj1 (hc12))))) (kj2 true rfl)
      ·replace hj2 := Option.some.inj hj2; subst hj2
       exact run1z (c3 35) [{},{},{},{},{},{},{ k := 1,b := false }] [0,1,2,7,9,68] [v_1,v_0,v_2,v_3,.i r7.2.1,.bool (decide (r11.1 ≠ r7.2.1))] ⟨[],0⟩ _ (by kernel_rfl) (cjC (hc12) (cjC (hc12) (cjC (hc12) (cj1 (hc12))))) (kj2 (decide (r11.1 ≠ r7.2.1)) rfl)
     ·rintro _ rfl
      rcases iteE h with ⟨hc13,h⟩ | ⟨hc13,h⟩
      ·refine run_cT 68 (c3 36) (c3 39) j2_68 hc13 (by kernel_rfl) (by kernel_rfl) ?_
       refine run1z (c3 38) [] [6] [.bool false] ⟨[],0⟩ _ (by kernel_rfl) cj0 ?_
       refine run_t (by kernel_rfl) ?_
       refine thenR ?_
       replace h := Option.some.inj h; subst h
       exact fin_r (by kernel_rfl) rfl
      ·refine run_cF 68 (c3 36) (c3 39) j2_68 hc13 (by kernel_rfl) (by kernel_rfl) ?_
       refine run_k (by kernel_rfl) ?_
       refine thenN ?_
       refine run1z (c3 42) [] [0,1,2,7,9,13] [v_1,v_0,v_2,v_3,.i r7.2.1,.sl true []] ⟨[],0⟩ _ (by kernel_rfl) cj0 ?_
       refine run_s (c3 43) (c3 67) (by kernel_rfl) ?_
       let v_5 : AV := .i (a0.length : Int)
       refine run1z (c3 45) [{},{ k := 1,n := a0.length }] [0,1,2,7,9,13,70,71] [v_1,v_0,v_2,v_3,.i r7.2.1,.sl true [],v_5,.i 0] ⟨[],0⟩ _ (by kernel_rfl) (cj1 (mapLen a0 (SL E_GTone))) ?_
       obtain ⟨l3x_13,hll3x,h⟩ := bindE h
       refine run_tq (fun (l3x_13 : (List Int)) => (zipE [0,1,7,9,13] [v_1,v_0,v_3,.i r7.2.1,.ms 0 0 l3x_13.length])) (fun (l3x_13 : (List Int)) => ⟨[(0,.cells 1 (l3x_13.map AV.i))],1⟩) (fun j => l3x_13 = j) (fun kl3 => ?_) ?_
       ·refine run_b 0 (c3 46) (by kernel_rfl) ?_
        refine run_l (c3 47) _ hll3x (fun ((l3_13,l3_71) : (List Int × Int)) => (zipE [0,1,2,7,9,13,70,71] [v_1,v_0,v_2,v_3,.i r7.2.1,.ms 0 0 l3_13.length,v_5,.i l3_71])) (fun ((l3_13,l3_71) : (List Int × Int)) => ⟨[(0,.cells 1 (l3_13.map AV.i))],1⟩) [(0,1000000)] (by intro i e; cases e <;> exact Nat.le_of_ble_eq_true rfl) (by kernel_rfl) (mkInto (ks := [0,1,2,7,9,13,70,71]) (ys := [v_1,v_0,v_2,v_3,.i r7.2.1,.sl true [],v_5,.i 0]) (by kernel_rfl) (by kernel_rfl) (.k (.c (cleanMap _ _ (cl_SL cl_GTone))) (.k (.c (cleanMap _ _ cl_GInstrument)) (.k (.c (cleanMap _ _ cl_i)) (.k (.c rfl) (.k (.c rfl) (.k (.n) (.k (.c rfl) (.k (.c rfl) .z)))))))) (.n rfl rfl rfl .z)) ?_
        rintro ⟨l3_13,l3_71⟩ out hl3 rl3
        let v_6 : AV := .ms 0 0 l3_13.length
        let b_0 : Blk := .cells 1 (l3_13.map AV.i)
        refine run1z (c3 49) [] [0,1,2,7,9,13,70,71,72] [v_1,v_0,v_2,v_3,.i r7.2.1,v_6,v_5,.i l3_71,.bool (decide (l3_71 < (a0.length : Int)))] ⟨[(0,b_0)],1⟩ _ (by kernel_rfl) cj0 ?_
        refine run_s (c3 50) (c3 53) (by kernel_rfl) ?_
        rcases iteE hl3 with ⟨hc14,hl3⟩ | ⟨hc14,hl3⟩
        ·refine run_cT 72 (c3 51) (c3 52) (decide (l3_71 < (a0.length : Int))) hc14 (by kernel_rfl) (by kernel_rfl) ?_
         refine run_k (by kernel_rfl) ?_
         refine thenN ?_
         refine run_s (c3 54) (c3 66) (by kernel_rfl) ?_
         refine run_b 1 (c3 55) (by kernel_rfl) ?_
         refine run1z (c3 57) [] [0,1,2,7,9,13,14,70,71] [v_1,v_0,v_2,v_3,.i r7.2.1,v_6,.i l3_71,v_5,.i l3_71] ⟨[(0,b_0)],1⟩ _ (by kernel_rfl) cj0 ?_
         refine run1z (c3 59) [] [0,1,2,7,9,13,14,15,70,71] [v_1,v_0,v_2,v_3,.i r7.2.1,v_6,.i l3_71,.i l3_71,v_5,.i l3_71] ⟨[(0,b_0)],1⟩ _ (by kernel_rfl) cj0 ?_
         obtain ⟨j4_15,hj4,hl3⟩ := bindE hl3
         refine run_jq (c3 60) (c3 65) (fun (j4_15 : Int) => (zipE [0,1,2,7,9,13,15,70,71] [v_1,v_0,v_2,v_3,.i r7.2.1,v_6,.i j4_15,v_5,.i l3_71])) (fun (j4_15 : Int) => ⟨[(0,b_0)],1⟩) (fun j => j4_15 = j) (by kernel_rfl) (fun kj4 => ?_) ?_
         ·refine run1z (c3 62) [{},{ k := 1,n := a2.length }] [0,1,2,7,9,13,14,15,70,71,77] [v_1,v_0,v_2,v_3,.i r7.2.1,v_6,.i l3_71,.i l3_71,v_5,.i l3_71,.bool (decide (0 < (a2.length : Int)))] ⟨[(0,b_0)],1⟩ _ (by kernel_rfl) (cj1 (mapLen a2 AV.i)) ?_
          rcases iteE hj4 with ⟨hc15,hj4⟩ | ⟨hc15,hj4⟩
          ·refine run_cT 77 (c3 63) (c3 64) (decide (0 < (a2.length : Int))) hc15 (by kernel_rfl) (by kernel_rfl) ?_
           obtain ⟨hn16,hj4⟩ := needE hj4
           obtain ⟨y17,hy17,hj4⟩ := bindE hj4
           refine run0z [{},{},{},{ k := 1,n := a2.length },{ k := 1 },{ k := 1,x := AV.i y17 }] [0,1,2,7,9,13,15,70,71] [v_1,v_0,v_2,v_3,.i r7.2.1,v_6,.i y17,v_5,.i l3_71] ⟨[(0,b_0)],1⟩ _ (by kernel_rfl) (cjC (mapLen a2 AV.i) (cjC (hn16) (cjC ((ixE hy17).1) (cj1 (mapGet AV.i (ixE hy17).2))))) ?_
           replace hj4 := Option.some.inj hj4; subst hj4
           refine thenN ?_
           exact kj4 y17 rfl
          ·refine run_cF 77 (c3 63) (c3 64) (decide (0 < (a2.length : Int))) hc15 (by kernel_rfl) (by kernel_rfl) ?_
           replace hj4 := Option.some.inj hj4; subst hj4
           refine awp_p [0,1,2,7,9,13,15,70,71] [0] (zipE [0,1,2,7,9,13,15,70,71] [v_1,v_0,v_2,v_3,.i r7.2.1,v_6,.i l3_71,v_5,.i l3_71]) ⟨[(0,b_0)],1⟩ (by kernel_rfl) (?_)
           refine run_k (by kernel_rfl) ?_
           refine thenN ?_
           exact kj4 l3_71 rfl
         ·rintro _ rfl
          obtain ⟨r18,hr18,hl3⟩ := bindE hl3
          obtain ⟨hn19,hl3⟩ := needE hl3
          let s_0 : St := ⟨[(1,.cells 1 ((l3_13 ++ [r18]).map AV.i))],2⟩
          refine run0z [{},{},{},{ k := 1,n := a1.length },{ c := some (.i r18,⟨[(0,b_0)],1⟩) },{},{ k := 1,n := (l3_13 ++ [r18]).length,l := (l3_13 ++ [r18]).map AV.i }] [0,1,2,7,9,13,70,71] [v_1,v_0,v_2,v_3,.i r7.2.1,.ms 1 0 (l3_13 ++ [r18]).length,v_5,.i l3_71] s_0 _ (by kernel_rfl) (cjC (mapLen a1 E_GInstrument) (cjC (f8_ok j4_15 (a1.length : Int) _ hr18 ⟨[(0,b_0)],1⟩) (cjC (@List.cons_ne_nil AV (.i r18) []) (cjC (mLe l3_13 AV.i) (cjC (hn19) (cjC (lenA l3_13 ([r18] : List Int)) (cjC (appA l3_13 ([r18] : List Int) AV.i) (cj1 (fitsOne (P := Try.prog) (t := 3) (x := .i r18) (r := []) (by kernel_rfl)))))))))) ?_
          refine inbN ?_
          refine thenN ?_
          refine run0z [] [0,1,2,7,9,13,70,71] [v_1,v_0,v_2,v_3,.i r7.2.1,.ms 1 0 (l3_13 ++ [r18]).length,v_5,.i (wr (l3_71 + 1))] s_0 _ (by kernel_rfl) cj0 ?_
          replace hl3 := Option.some.inj hl3; subst hl3
          exact ⟨_,rfl,pi [(0,1)],mkInto (ks := [0,1,2,7,9,13,70,71]) (ys := [v_1,v_0,v_2,v_3,.i r7.2.1,.ms 1 0 (l3_13 ++ [r18]).length,v_5,.i (wr (l3_71 + 1))]) (by kernel_rfl) (by kernel_rfl) (.k (.c (cleanMap _ _ (cl_SL cl_GTone))) (.k (.c (cleanMap _ _ cl_GInstrument)) (.k (.c (cleanMap _ _ cl_i)) (.k (.c rfl) (.k (.c rfl) (.k (.ms rfl rfl) (.k (.c rfl) (.k (.c rfl) .z)))))))) (.k rfl (.cells (.r (cleanMap _ _ cl_i))) .z)⟩
        ·refine run_cF 72 (c3 51) (c3 52) (decide (l3_71 < (a0.length : Int))) hc14 (by kernel_rfl) (by kernel_rfl) ?_
         replace hl3 := Option.some.inj hl3; subst hl3
         have hr := rl3 _ rfl
         subst hr
         refine awp_p [0,1,7,9,13] [0] (zipE [0,1,7,9,13] [v_1,v_0,v_3,.i r7.2.1,v_6]) ⟨[(0,b_0)],1⟩ (by kernel_rfl) (?_)
         refine run_e 0 (by kernel_rfl) ?_
         refine thenE ?_
         refine ⟨⟨_,rfl⟩,?_⟩
         refine inbE ?_
         exact kl3 l3_13 rfl
       ·rintro _ rfl
        refine thenN ?_
        refine run_z 0 1 (l3x_13.map AV.i) [0,1,7,9,13] [v_1,v_0,v_3,.i r7.2.1,.ms 0 0 l3x_13.length] (xs := [v_1,v_0,v_3,.i r7.2.1,.sl false (l3x_13.map AV.i)]) (S2 := ⟨[],1⟩) ?_ (by kernel_rfl) (by kernel_rfl) (.k (.r _) (.k (.r _) (.k (.r _) (.k (.r _) (.k (.m (mLe l3x_13 AV.i) (mapAll l3x_13 AV.i)) .z))))) .z rfl rfl
        obtain ⟨r20,hr20,h⟩ := bindE h
        refine run1z (c3 69) [{},{},{},{},{ c := some (.tup [.i r20.1,.bool r20.2],⟨[],1⟩) }] [9,16,17] [.i r7.2.1,.i r20.1,.bool r20.2] ⟨[],1⟩ _ (by kernel_rfl) (cj1 (f7_ok a0 a1 l3x_13 (wr (1 + (wr (Int.tdiv (a0.length : Int) (a1.length : Int))))) _ hr20 ⟨[],1⟩)) ?_
        obtain ⟨j5_6,hj5,h⟩ := bindE h
        refine run_gq (c3 71) (fun (j5_6 : Bool) => (zipE [6] [.bool j5_6])) (fun (j5_6 : Bool) => ⟨[],1⟩) (fun j => j5_6 = j) (fun kj5 => ?_) ?_
        ·rcases iteE hj5 with ⟨hc21,hj5⟩ | ⟨hc21,hj5⟩
         ·obtain ⟨r22,hr22,hj5⟩ := bindE hj5
          replace hj5 := Option.some.inj hj5; subst hj5
          exact run1z (c3 71) [{},{},{},{ g := false },{ g := false },{ g := false },{ k := 1,b := true },{},{ c := some (.bool r22,⟨[],1⟩) }] [6] [.bool r22] ⟨[],1⟩ _ (by kernel_rfl) (cjC (hc21) (cjC (hc21) (cjC (hc21) (cjC (hc21) (cjC (Eq.refl true) (cj1 (f5_ok  _ hr22 ⟨[],1⟩))))))) (kj5 r22 rfl)
         ·rcases iteE hj5 with ⟨hc23,hj5⟩ | ⟨hc23,hj5⟩
          ·obtain ⟨r24,hr24,hj5⟩ := bindE hj5
           replace hj5 := Option.some.inj hj5; subst hj5
           exact run1z (c3 71) [{},{},{},{},{},{},{ k := 1,b := false },{},{ c := some (.bool r24,⟨[],1⟩) },{ k := 1,b := true }] [6] [.bool r24] ⟨[],1⟩ _ (by kernel_rfl) (cjC (hc21) (cjC (hc21) (cjC (hc21) (cjC (hc21) (cjC (hc23) (cjC (f5_ok  _ hr24 ⟨[],1⟩) (cj1 (hc23)))))))) (kj5 r24 rfl)
          ·replace hj5 := Option.some.inj hj5; subst hj5
           exact run1z (c3 71) [{},{},{},{},{},{},{ k := 1,b := false },{},{ g := false },{ k := 1,b := false }] [6] [.bool false] ⟨[],1⟩ _ (by kernel_rfl) (cjC (hc21) (cjC (hc21) (cjC (hc21) (cjC (hc21) (cjC (hc23) (cj1 (hc23))))))) (kj5 false rfl)
        ·rintro _ rfl
         refine run_t (by kernel_rfl) ?_
         replace h := Option.some.inj h; subst h
         exact fin_r (by kernel_rfl) rfl
end Go.Proofs.Ytodkhgjhodmeoaa
