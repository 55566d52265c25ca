/-
 Functions of the program as Lean functions,and the walks. Written by a program of ours.
-/
import Derived.Test.YtodkhgjhodmeoaaGreatAm31
import Derived.Test.YtodkhgjhodmeoaaGreatChecked
import Derived.Test.YtodkhgjhodmeoaaGreatRo
import Derived.Test.YtodkhgjhodmeoaaGreatRp
import Derived.Test.YtodkhgjhodmeoaaGreatWk
namespace Go.Proofs.YtodkhgjhodmeoaaGreat
open Go Go.Am
set_option maxRecDepth 100000
set_option linter.all false
structure GTone where
 pitch : Int
 from_ : Int
 to_ : Int
 deriving DecidableEq
def E_GTone (x : GTone) : AV := .agg [.i x.pitch,.i x.from_,.i x.to_]
theorem cl_GTone (x : GTone) : (E_GTone x).clean = true := (clK rfl (clK rfl (clK rfl clZ)))
structure GCourse where
 pitch : Int
 frets : Int
 octave : Bool
 deriving DecidableEq
def E_GCourse (x : GCourse) : AV := .agg [.i x.pitch,.i x.frets,.bool x.octave]
theorem cl_GCourse (x : GCourse) : (E_GCourse x).clean = true := (clK rfl (clK rfl (clK rfl clZ)))
structure GInstrument where
 courses : (List GCourse)
 steps : (List Int)
 deriving DecidableEq
def E_GInstrument (x : GInstrument) : AV := .agg [.sl false (x.courses.map E_GCourse),.sl false (x.steps.map AV.i)]
theorem cl_GInstrument (x : GInstrument) : (E_GInstrument x).clean = true := (clK (cleanMap _ _ cl_GCourse) (clK (cleanMap _ _ cl_i) clZ))
structure GPlace where
 course : Int
 fret : Int
 deriving DecidableEq
def E_GPlace (x : GPlace) : AV := .agg [.i x.course,.i x.fret]
theorem cl_GPlace (x : GPlace) : (E_GPlace x).clean = true := (clK rfl (clK rfl clZ))
noncomputable def c8 (k : Nat) : Code := nthC (subs (Tryz.f8.body.getD .skip)) k
noncomputable def c44 (k : Nat) : Code := nthC (subs (Tryz.f44.body.getD .skip)) k
noncomputable def c45 (k : Nat) : Code := nthC (subs (Tryz.f45.body.getD .skip)) k
noncomputable def c46 (k : Nat) : Code := nthC (subs (Tryz.f46.body.getD .skip)) k
noncomputable def c47 (k : Nat) : Code := nthC (subs (Tryz.f47.body.getD .skip)) k
noncomputable def c76 (k : Nat) : Code := nthC (subs (Tryz.f76.body.getD .skip)) k
noncomputable def c102 (k : Nat) : Code := nthC (subs (Tryz.f102.body.getD .skip)) k
noncomputable def c103 (k : Nat) : Code := nthC (subs (Tryz.f103.body.getD .skip)) k
noncomputable def c104 (k : Nat) : Code := nthC (subs (Tryz.f104.body.getD .skip)) k
noncomputable def c105 (k : Nat) : Code := nthC (subs (Tryz.f105.body.getD .skip)) k
noncomputable def c106 (k : Nat) : Code := nthC (subs (Tryz.f106.body.getD .skip)) k
noncomputable def c107 (k : Nat) : Code := nthC (subs (Tryz.f107.body.getD .skip)) k
noncomputable def c108 (k : Nat) : Code := nthC (subs (Tryz.f108.body.getD .skip)) k
noncomputable def c109 (k : Nat) : Code := nthC (subs (Tryz.f109.body.getD .skip)) k
noncomputable def c110 (k : Nat) : Code := nthC (subs (Tryz.f110.body.getD .skip)) k
noncomputable def c119 (k : Nat) : Code := nthC (subs (Tryz.f119.body.getD .skip)) k
noncomputable def c132 (k : Nat) : Code := nthC (subs (Tryz.f132.body.getD .skip)) k
noncomputable def c155 (k : Nat) : Code := nthC (subs (Tryz.f155.body.getD .skip)) k
noncomputable def c156 (k : Nat) : Code := nthC (subs (Tryz.f156.body.getD .skip)) k
noncomputable def c157 (k : Nat) : Code := nthC (subs (Tryz.f157.body.getD .skip)) k
noncomputable def c158 (k : Nat) : Code := nthC (subs (Tryz.f158.body.getD .skip)) k
noncomputable def c159 (k : Nat) : Code := nthC (subs (Tryz.f159.body.getD .skip)) k
noncomputable def c160 (k : Nat) : Code := nthC (subs (Tryz.f160.body.getD .skip)) k
noncomputable def c161 (k : Nat) : Code := nthC (subs (Tryz.f161.body.getD .skip)) k
noncomputable def c162 (k : Nat) : Code := nthC (subs (Tryz.f162.body.getD .skip)) k
noncomputable def c164 (k : Nat) : Code := nthC (subs (Tryz.f164.body.getD .skip)) k
noncomputable def c165 (k : Nat) : Code := nthC (subs (Tryz.f165.body.getD .skip)) k
noncomputable def c166 (k : Nat) : Code := nthC (subs (Tryz.f166.body.getD .skip)) k
noncomputable def c196 (k : Nat) : Code := nthC (subs (Tryz.f196.body.getD .skip)) k
noncomputable def c197 (k : Nat) : Code := nthC (subs (Tryz.f197.body.getD .skip)) k
noncomputable def c199 (k : Nat) : Code := nthC (subs (Tryz.f199.body.getD .skip)) k
noncomputable def c204 (k : Nat) : Code := nthC (subs (Tryz.f204.body.getD .skip)) k
noncomputable def c230 (k : Nat) : Code := nthC (subs (Tryz.f230.body.getD .skip)) k
def f155 (a0 : List GTone) : Option Bool := (loopN (σ := Int) (τ := (Unit ⊕ Bool)) (fun (l1_3 : Int) => bif (decide (l1_3 < (a0.length : Int))) then ((ix a0 l1_3).bind fun y2 => ((bif (decide (y2.pitch < 0)) then (some true) else (bif (decide (127 < y2.pitch)) then (some true) else (bif (decide (y2.from_ < 0)) then (some true) else (bif (decide (y2.to_ ≤ y2.from_)) then (some true) else (bif (decide (262144 < y2.to_)) then (some true) else (bif (decide (0 < l1_3)) then ((ix a0 (wr (l1_3 - 1))).bind fun y9 => some (decide (y2.from_ < y9.to_))) else (some false))))))) : Option Bool).bind fun (j2_54 : Bool) => bif j2_54 then (some (.inr (.inr false))) else (some (.inl (wr (l1_3 + 1))))) else (some (.inr (.inl ())))) FUEL 0).bind (Sum.elim (fun (_ : Unit) => some true) some)
theorem f155_ok (a0 : List GTone) (r : Bool) (h : f155 a0 = some r) : APure Tryz.prog 155 [.sl false (a0.map E_GTone)] (.bool r) := by
 refine apure (clK (cleanMap a0 _ cl_GTone) clZ) rfl ?_
 let v_0 : AV := .sl false (a0.map E_GTone)
 refine run_f 55 [.tmp 2] (c155 0) (zipE [0] [v_0]) (by kernel_rfl) (by kernel_rfl) (by kernel_rfl) rfl ?_
 unfold f155 at h
 refine run1z (c155 2) [] [0] [v_0] ⟨[],0⟩ _ (by kernel_rfl) cj0 ?_
 refine run_s (c155 3) (c155 25) (by kernel_rfl) ?_
 refine run1z (c155 5) [] [0,3] [v_0,.i 0] ⟨[],0⟩ _ (by kernel_rfl) cj0 ?_
 obtain ⟨ol1x,hll1x,h⟩ := bindE h
 refine run_tq (fun (_ : Unit) => (zipE [] [])) (fun (_ : Unit) => ⟨[],0⟩) (fun j => ol1x = .inl j) (fun kl1 => ?_) ?_
 ·refine run_b 0 (c155 6) (by kernel_rfl) ?_
  refine run_l (c155 7) _ hll1x (fun (l1_3 : Int) => (zipE [0,3] [v_0,.i l1_3])) (fun (l1_3 : Int) => ⟨[],0⟩) [] (by intro i e; cases e <;> exact Nat.le_of_ble_eq_true rfl) (by kernel_rfl) (mkInto (ks := [0,3]) (ys := [v_0,.i 0]) (by kernel_rfl) (by kernel_rfl) (.k (.c (cleanMap _ _ cl_GTone)) (.k (.c rfl) .z)) .z) ?_
  rintro l1_3 out hl1 rl1
  refine run_s (c155 8) (c155 13) (by kernel_rfl) ?_
  refine run1z (c155 10) [{},{},{ k := 1,n := a0.length }] [0,3,8] [v_0,.i l1_3,.bool (decide (l1_3 < (a0.length : Int)))] ⟨[],0⟩ _ (by kernel_rfl) (cj1 (mapLen a0 E_GTone)) ?_
  rcases iteE hl1 with ⟨hc1,hl1⟩ | ⟨hc1,hl1⟩
  ·refine run_cT 8 (c155 11) (c155 12) (decide (l1_3 < (a0.length : Int))) hc1 (by kernel_rfl) (by kernel_rfl) ?_
   refine run_k (by kernel_rfl) ?_
   refine thenN ?_
   refine run_s (c155 14) (c155 24) (by kernel_rfl) ?_
   refine run_b 1 (c155 15) (by kernel_rfl) ?_
   obtain ⟨y2,hy2,hl1⟩ := bindE hl1
   refine run1z (c155 17) [{},{},{ k := 1,x := E_GTone y2 }] [0,3,4] [v_0,.i l1_3,.mp 0 0 0] ⟨[(0,.cells 3 [E_GTone y2])],1⟩ _ (by kernel_rfl) (cjC ((ixE hy2).1) (cj1 (mapGet E_GTone (ixE hy2).2))) ?_
   obtain ⟨j2_54,hj2,hl1⟩ := bindE hl1
   refine run_gq (c155 19) (fun (j2_54 : Bool) => (zipE [0,3,54] [v_0,.i l1_3,.bool j2_54])) (fun (j2_54 : Bool) => ⟨[],1⟩) (fun j => j2_54 = j) (fun kj2 => ?_) ?_
   ·rcases iteE hj2 with ⟨hc3,hj2⟩ | ⟨hc3,hj2⟩
    ·replace hj2 := Option.some.inj hj2; subst hj2
     exact yun1z (c155 19) [[],[0],[0,1],[0,1,2],[0,1,2,3],[0,1,2,3,4],[0,1,2,3,4,5],[0,1,2,3,4,5,6],[0,1,2,3,4,5,6,7],[0,1,2,3,4,5,6,7,8],[0,1,2,3,4,5,6,7,8,9],[0,1,2,3,4,5,6,7,8,9,10],[0,1,2,3,4,5,6,7,8,9,10,11],[0,1,2,3,4,5,6,7,8,9,10,11,12],[0,1,2,3,4,5,6,7,8,9,10,11,12,13],[0,1,2,3,4,5,6,7,8,9,10,11,12,13,14],[0,1,2,3,4,5,6,7,8,9,10,11,12,13],[0,1,2,3,4,5,6,7,8,9,10,11,12,13,16],[0,1,2,3,4,5,6,7,8,9,10,11,12,13,14,15,16,17],[0,1,2,3,4,5,6,7,8,9,10,11,12,13,14,15,16,17,18],[0,1,2,3,4,5,6,7,8,9,10,11,12,13,14,15,16,17,18,19],[0,1,2,3,4,5,6,7,8,9,10,11,12,13,14,15,16,17,18,19,20],[0,1,2,3,4,5,6,7,8,9,10,11,12,13,14,15,16,17,18,19,20,21],[0,1,2,3,4,5,6,7,8,9,10,11,12,13,14,15,16,17,18,19,20,21,22],[0,1,2,3,4,5,6,7,8,9,10,11,12,13,14,15,16,17,18,19,20,21,22,23],[0,1,2,3,4,5,6,7,8,9,10,11,12,13,14,15,16,17,18,19,20,21,22,23,24],[0,1,2,3,4,5,6,7,8,9,10,11,12,13,14,15,16,17,18,19,20,21,22,23,24,25],[0,1,2,3,4,5,6,7,8,9,10,11,12,13,14,15,16,17,18,19,20,21,22,23,24,25,26],[0,1,2,3,4,5,6,7,8,9,10,11,12,13,14,15,16,17,18,19,20,21,22,23,24,25,26,27],[0,1,2,3,4,5,6,7,8,9,10,11,12,13,14,15,16,17,18,19,20,21,22,23,24,25,26,27,28],[0,1,2,3,4,5,6,7,8,9,10,11,12,13,14,15,16,17,18,19,20,21,22,23,24,25,26,27,28,29],[0,1,2,3,4,5,6,7,8,9,10,11,12,13,14,15,16,17,18,19,20,21,22,23,24,25,26,27,28],[0,1,2,3,4,5,6,7,8,9,10,11,12,13,14,15,16,17,18,19,20,21,22,23,24,25,26,27,28],[0,1,2,3,4,5,6,7,8,9,10,11,12,13,14,15,16,17,18,19,20,21,22,23,24,25,26,27,28,32],[0,1,2,3,4,5,6,7,8,9,10,11,12,13,14,15,16,17,18,19,20,21,22,23,24,25,26,27,28,31,32,33],[0,1,2,3,4,5,6,7,8,9,10,11,12,13,14,15,16,17,18,19,20,21,22,23,24,25,26,27,28,31,32,33,34],[0,1,2,3,4,5,6,7,8,9,10,11,12,13,14,15,16,17,18,19,20,21,22,23,24,25,26,27,28,31,32,33,34,35],[0,1,2,3,4,5,6,7,8,9,10,11,12,13,14,15,16,17,18,19,20,21,22,23,24,25,26,27,28,29,30,31,32,33,34,35,36],[0,1,2,3,4,5,6,7,8,9,10,11,12,13,14,15,16,17,18,19,20,21,22,23,24,25,26,27,28,29,30,31,32,33,34,35,36,37],[0,1,2,3,4,5,6,7,8,9,10,11,12,13,14,15,16,17,18,19,20,21,22,23,24,25,26,27,28,29,30,31,32,33,34,35,36,37,38]] [.light 0 false,.light 1 false,.light 2 false,.light 3 false,.light 4 false,.light 5 false,.light 6 false,.light 7 false,.light 8 false,.light 9 false,.light 10 false,.light 11 false,.light 12 false,.light 13 false,.light 14 false,.light 15 false,.light 16 false,.light 17 false,.light 18 false,.light 19 false,.light 20 false,.light 21 false,.light 22 false,.light 23 false,.light 24 false,.light 25 false,.light 26 false,.light 27 false,.light 28 false,.light 29 false,.light 30 false,.light 31 false,.light 32 false,.light 33 false,.light 34 false,.light 35 false,.light 36 false,.light 37 false,.light 38 false,.light 39 false] [{},{},{},{},{ g := false },{ g := false },{ g := false },{},{},{ g := false },{ g := false },{ g := false },{},{},{ g := false },{ g := false },{ g := false },{ g := false },{ g := false },{},{},{ g := false },{ g := false },{ g := false },{},{},{ g := false },{ g := false },{ g := false },{},{},{},{},{},{},{},{},{},{ g := false }] [0,3,54] [v_0,.i l1_3,.bool true] ⟨[],1⟩ _ (by kernel_rfl) (cjC (hc3) (cjC (Eq.refl true) (cjC (Eq.refl true) (cjC (Eq.refl true) (cjC (Eq.refl true) (cjC (Eq.refl true) (cjC (Eq.refl true) (cjC (Eq.refl true) (cjC (Eq.refl true) (cjC (Eq.refl true) (cjC (Eq.refl true) (cjC (Eq.refl true) (cjC (Eq.refl true) (cjC (Eq.refl true) (cjC (Eq.refl true) (cjC (Eq.refl true) (cjC (Eq.refl true) (cj1 (Eq.refl true))))))))))))))))))) (kj2 true rfl)
    ·rcases iteE hj2 with ⟨hc4,hj2⟩ | ⟨hc4,hj2⟩
     ·replace hj2 := Option.some.inj hj2; subst hj2
      exact yun1z (c155 19) [[],[0],[0,1],[0,1,2],[0,1,2,3],[0,1,2,3,4],[0,1,2,3,4,5],[0,1,2,3,4,5,6],[0,1,2,3,4,5,6,7],[0,1,2,3,4,5,6,7,8],[0,1,2,3,4,5,6,7,8,9],[0,1,2,3,4,5,6,7,8,9,10],[0,1,2,3,4,5,6,7,8,9,10,11],[0,1,2,3,4,5,6,7,8,9,10,11,12],[0,1,2,3,4,5,6,7,8,9,10,11,12,13],[0,1,2,3,4,5,6,7,8,9,10,11,12,13,14],[0,1,2,3,4,5,6,7,8,9,10,11,12,13],[0,1,2,3,4,5,6,7,8,9,10,11,12,13,16],[0,1,2,3,4,5,6,7,8,9,10,11,12,13,14,15,16,17],[0,1,2,3,4,5,6,7,8,9,10,11,12,13,14,15,16,17,18],[0,1,2,3,4,5,6,7,8,9,10,11,12,13,14,15,16,17,18,19],[0,1,2,3,4,5,6,7,8,9,10,11,12,13,14,15,16,17,18,19,20],[0,1,2,3,4,5,6,7,8,9,10,11,12,13,14,15,16,17,18,19,20,21],[0,1,2,3,4,5,6,7,8,9,10,11,12,13,14,15,16,17,18,19,20,21,22],[0,1,2,3,4,5,6,7,8,9,10,11,12,13,14,15,16,17,18,19,20,21,22,23],[0,1,2,3,4,5,6,7,8,9,10,11,12,13,14,15,16,17,18,19,20,21,22,23,24],[0,1,2,3,4,5,6,7,8,9,10,11,12,13,14,15,16,17,18,19,20,21,22,23,24,25],[0,1,2,3,4,5,6,7,8,9,10,11,12,13,14,15,16,17,18,19,20,21,22,23,24,25,26],[0,1,2,3,4,5,6,7,8,9,10,11,12,13,14,15,16,17,18,19,20,21,22,23,24,25,26,27],[0,1,2,3,4,5,6,7,8,9,10,11,12,13,14,15,16,17,18,19,20,21,22,23,24,25,26,27,28],[0,1,2,3,4,5,6,7,8,9,10,11,12,13,14,15,16,17,18,19,20,21,22,23,24,25,26,27,28,29],[0,1,2,3,4,5,6,7,8,9,10,11,12,13,14,15,16,17,18,19,20,21,22,23,24,25,26,27,28],[0,1,2,3,4,5,6,7,8,9,10,11,12,13,14,15,16,17,18,19,20,21,22,23,24,25,26,27,28],[0,1,2,3,4,5,6,7,8,9,10,11,12,13,14,15,16,17,18,19,20,21,22,23,24,25,26,27,28,32],[0,1,2,3,4,5,6,7,8,9,10,11,12,13,14,15,16,17,18,19,20,21,22,23,24,25,26,27,28,31,32,33],[0,1,2,3,4,5,6,7,8,9,10,11,12,13,14,15,16,17,18,19,20,21,22,23,24,25,26,27,28,31,32,33,34],[0,1,2,3,4,5,6,7,8,9,10,11,12,13,14,15,16,17,18,19,20,21,22,23,24,25,26,27,28,31,32,33,34,35],[0,1,2,3,4,5,6,7,8,9,10,11,12,13,14,15,16,17,18,19,20,21,22,23,24,25,26,27,28,29,30,31,32,33,34,35,36],[0,1,2,3,4,5,6,7,8,9,10,11,12,13,14,15,16,17,18,19,20,21,22,23,24,25,26,27,28,29,30,31,32,33,34,35,36,37],[0,1,2,3,4,5,6,7,8,9,10,11,12,13,14,15,16,17,18,19,20,21,22,23,24,25,26,27,28,29,30,31,32,33,34,35,36,37,38]] [.light 0 false,.light 1 false,.light 2 false,.light 3 false,.light 4 false,.light 5 false,.light 6 false,.light 7 false,.light 8 false,.light 9 false,.light 10 false,.light 11 false,.light 12 false,.light 13 false,.light 14 false,.light 15 false,.light 16 false,.light 17 false,.light 18 false,.light 19 false,.light 20 false,.light 21 false,.light 22 false,.light 23 false,.light 24 false,.light 25 false,.light 26 false,.light 27 false,.light 28 false,.light 29 false,.light 30 false,.light 31 false,.light 32 false,.light 33 false,.light 34 false,.light 35 false,.light 36 false,.light 37 false,.light 38 false,.light 39 false] [{},{},{},{},{},{},{},{},{},{ g := false },{ g := false },{ g := false },{},{},{ g := false },{ g := false },{ g := false },{ g := false },{ g := false },{},{},{ g := false },{ g := false },{ g := false },{},{},{ g := false },{ g := false },{ g := false },{},{},{},{},{},{},{},{},{},{ g := false }] [0,3,54] [v_0,.i l1_3,.bool true] ⟨[],1⟩ _ (by kernel_rfl) (cjC (hc3) (cjC (Eq.refl false) (cjC (Eq.refl false) (cjC (hc4) (cjC (Eq.refl true) (cjC (Eq.refl true) (cjC (Eq.refl true) (cjC (Eq.refl true) (cjC (Eq.refl true) (cjC (Eq.refl true) (cjC (Eq.refl true) (cjC (Eq.refl true) (cjC (Eq.refl true) (cjC (Eq.refl true) (cjC (Eq.refl true) (cjC (Eq.refl true) (cjC (Eq.refl true) (cj1 (Eq.refl true))))))))))))))))))) (kj2 true rfl)
     ·rcases iteE hj2 with ⟨hc5,hj2⟩ | ⟨hc5,hj2⟩
      ·replace hj2 := Option.some.inj hj2; subst hj2
       exact yun1z (c155 19) [[],[0],[0,1],[0,1,2],[0,1,2,3],[0,1,2,3,4],[0,1,2,3,4,5],[0,1,2,3,4,5,6],[0,1,2,3,4,5,6,7],[0,1,2,3,4,5,6,7,8],[0,1,2,3,4,5,6,7,8,9],[0,1,2,3,4,5,6,7,8,9,10],[0,1,2,3,4,5,6,7,8,9,10,11],[0,1,2,3,4,5,6,7,8,9,10,11,12],[0,1,2,3,4,5,6,7,8,9,10,11,12,13],[0,1,2,3,4,5,6,7,8,9,10,11,12,13,14],[0,1,2,3,4,5,6,7,8,9,10,11,12,13],[0,1,2,3,4,5,6,7,8,9,10,11,12,13,16],[0,1,2,3,4,5,6,7,8,9,10,11,12,13,14,15,16,17],[0,1,2,3,4,5,6,7,8,9,10,11,12,13,14,15,16,17,18],[0,1,2,3,4,5,6,7,8,9,10,11,12,13,14,15,16,17,18,19],[0,1,2,3,4,5,6,7,8,9,10,11,12,13,14,15,16,17,18,19,20],[0,1,2,3,4,5,6,7,8,9,10,11,12,13,14,15,16,17,18,19,20,21],[0,1,2,3,4,5,6,7,8,9,10,11,12,13,14,15,16,17,18,19,20,21,22],[0,1,2,3,4,5,6,7,8,9,10,11,12,13,14,15,16,17,18,19,20,21,22,23],[0,1,2,3,4,5,6,7,8,9,10,11,12,13,14,15,16,17,18,19,20,21,22,23,24],[0,1,2,3,4,5,6,7,8,9,10,11,12,13,14,15,16,17,18,19,20,21,22,23,24,25],[0,1,2,3,4,5,6,7,8,9,10,11,12,13,14,15,16,17,18,19,20,21,22,23,24,25,26],[0,1,2,3,4,5,6,7,8,9,10,11,12,13,14,15,16,17,18,19,20,21,22,23,24,25,26,27],[0,1,2,3,4,5,6,7,8,9,10,11,12,13,14,15,16,17,18,19,20,21,22,23,24,25,26,27,28],[0,1,2,3,4,5,6,7,8,9,10,11,12,13,14,15,16,17,18,19,20,21,22,23,24,25,26,27,28,29],[0,1,2,3,4,5,6,7,8,9,10,11,12,13,14,15,16,17,18,19,20,21,22,23,24,25,26,27,28],[0,1,2,3,4,5,6,7,8,9,10,11,12,13,14,15,16,17,18,19,20,21,22,23,24,25,26,27,28],[0,1,2,3,4,5,6,7,8,9,10,11,12,13,14,15,16,17,18,19,20,21,22,23,24,25,26,27,28,32],[0,1,2,3,4,5,6,7,8,9,10,11,12,13,14,15,16,17,18,19,20,21,22,23,24,25,26,27,28,31,32,33],[0,1,2,3,4,5,6,7,8,9,10,11,12,13,14,15,16,17,18,19,20,21,22,23,24,25,26,27,28,31,32,33,34],[0,1,2,3,4,5,6,7,8,9,10,11,12,13,14,15,16,17,18,19,20,21,22,23,24,25,26,27,28,31,32,33,34,35],[0,1,2,3,4,5,6,7,8,9,10,11,12,13,14,15,16,17,18,19,20,21,22,23,24,25,26,27,28,29,30,31,32,33,34,35,36],[0,1,2,3,4,5,6,7,8,9,10,11,12,13,14,15,16,17,18,19,20,21,22,23,24,25,26,27,28,29,30,31,32,33,34,35,36,37],[0,1,2,3,4,5,6,7,8,9,10,11,12,13,14,15,16,17,18,19,20,21,22,23,24,25,26,27,28,29,30,31,32,33,34,35,36,37,38]] [.light 0 false,.light 1 false,.light 2 false,.light 3 false,.light 4 false,.light 5 false,.light 6 false,.light 7 false,.light 8 false,.light 9 false,.light 10 false,.light 11 false,.light 12 false,.light 13 false,.light 14 false,.light 15 false,.light 16 false,.light 17 false,.light 18 false,.light 19 false,.light 20 false,.light 21 false,.light 22 false,.light 23 false,.light 24 false,.light 25 false,.light 26 false,.light 27 false,.light 28 false,.light 29 false,.light 30 false,.light 31 false,.light 32 false,.light 33 false,.light 34 false,.light 35 false,.light 36 false,.light 37 false,.light 38 false,.light 39 false] [{},{},{},{},{},{},{},{},{},{},{},{},{},{},{ g := false },{ g := false },{ g := false },{ g := false },{ g := false },{},{},{ g := false },{ g := false },{ g := false },{},{},{ g := false },{ g := false },{ g := false },{},{},{},{},{},{},{},{},{},{ g := false }] [0,3,54] [v_0,.i l1_3,.bool true] ⟨[],1⟩ _ (by kernel_rfl) (cjC (hc3) (cjC (Eq.refl false) (cjC (Eq.refl false) (cjC (hc4) (cjC (Eq.refl false) (cjC (Eq.refl false) (cjC (hc5) (cjC (Eq.refl true) (cjC (Eq.refl true) (cjC (Eq.refl true) (cjC (Eq.refl true) (cjC (Eq.refl true) (cjC (Eq.refl true) (cjC (Eq.refl true) (cjC (Eq.refl true) (cjC (Eq.refl true) (cjC (Eq.refl true) (cj1 (Eq.refl true))))))))))))))))))) (kj2 true rfl)
      ·rcases iteE hj2 with ⟨hc6,hj2⟩ | ⟨hc6,hj2⟩
       ·replace hj2 := Option.some.inj hj2; subst hj2
        exact yun1z (c155 19) [[],[0],[0,1],[0,1,2],[0,1,2,3],[0,1,2,3,4],[0,1,2,3,4,5],[0,1,2,3,4,5,6],[0,1,2,3,4,5,6,7],[0,1,2,3,4,5,6,7,8],[0,1,2,3,4,5,6,7,8,9],[0,1,2,3,4,5,6,7,8,9,10],[0,1,2,3,4,5,6,7,8,9,10,11],[0,1,2,3,4,5,6,7,8,9,10,11,12],[0,1,2,3,4,5,6,7,8,9,10,11,12,13],[0,1,2,3,4,5,6,7,8,9,10,11,12,13,14],[0,1,2,3,4,5,6,7,8,9,10,11,12,13],[0,1,2,3,4,5,6,7,8,9,10,11,12,13,16],[0,1,2,3,4,5,6,7,8,9,10,11,12,13,14,15,16,17],[0,1,2,3,4,5,6,7,8,9,10,11,12,13,14,15,16,17,18],[0,1,2,3,4,5,6,7,8,9,10,11,12,13,14,15,16,17,18,19],[0,1,2,3,4,5,6,7,8,9,10,11,12,13,14,15,16,17,18,19,20],[0,1,2,3,4,5,6,7,8,9,10,11,12,13,14,15,16,17,18,19,20,21],[0,1,2,3,4,5,6,7,8,9,10,11,12,13,14,15,16,17,18,19,20,21,22],[0,1,2,3,4,5,6,7,8,9,10,11,12,13,14,15,16,17,18,19,20,21,22,23],[0,1,2,3,4,5,6,7,8,9,10,11,12,13,14,15,16,17,18,19,20,21,22,23,24],[0,1,2,3,4,5,6,7,8,9,10,11,12,13,14,15,16,17,18,19,20,21,22,23,24,25],[0,1,2,3,4,5,6,7,8,9,10,11,12,13,14,15,16,17,18,19,20,21,22,23,24,25,26],[0,1,2,3,4,5,6,7,8,9,10,11,12,13,14,15,16,17,18,19,20,21,22,23,24,25,26,27],[0,1,2,3,4,5,6,7,8,9,10,11,12,13,14,15,16,17,18,19,20,21,22,23,24,25,26,27,28],[0,1,2,3,4,5,6,7,8,9,10,11,12,13,14,15,16,17,18,19,20,21,22,23,24,25,26,27,28,29],[0,1,2,3,4,5,6,7,8,9,10,11,12,13,14,15,16,17,18,19,20,21,22,23,24,25,26,27,28],[0,1,2,3,4,5,6,7,8,9,10,11,12,13,14,15,16,17,18,19,20,21,22,23,24,25,26,27,28],[0,1,2,3,4,5,6,7,8,9,10,11,12,13,14,15,16,17,18,19,20,21,22,23,24,25,26,27,28,32],[0,1,2,3,4,5,6,7,8,9,10,11,12,13,14,15,16,17,18,19,20,21,22,23,24,25,26,27,28,31,32,33],[0,1,2,3,4,5,6,7,8,9,10,11,12,13,14,15,16,17,18,19,20,21,22,23,24,25,26,27,28,31,32,33,34],[0,1,2,3,4,5,6,7,8,9,10,11,12,13,14,15,16,17,18,19,20,21,22,23,24,25,26,27,28,31,32,33,34,35],[0,1,2,3,4,5,6,7,8,9,10,11,12,13,14,15,16,17,18,19,20,21,22,23,24,25,26,27,28,29,30,31,32,33,34,35,36],[0,1,2,3,4,5,6,7,8,9,10,11,12,13,14,15,16,17,18,19,20,21,22,23,24,25,26,27,28,29,30,31,32,33,34,35,36,37],[0,1,2,3,4,5,6,7,8,9,10,11,12,13,14,15,16,17,18,19,20,21,22,23,24,25,26,27,28,29,30,31,32,33,34,35,36,37,38]] [.light 0 false,.light 1 false,.light 2 false,.light 3 false,.light 4 false,.light 5 false,.light 6 false,.light 7 false,.light 8 false,.light 9 false,.light 10 false,.light 11 false,.light 12 false,.light 13 false,.light 14 false,.light 15 false,.light 16 false,.light 17 false,.light 18 false,.light 19 false,.light 20 false,.light 21 false,.light 22 false,.light 23 false,.light 24 false,.light 25 false,.light 26 false,.light 27 false,.light 28 false,.light 29 false,.light 30 false,.light 31 false,.light 32 false,.light 33 false,.light 34 false,.light 35 false,.light 36 false,.light 37 false,.light 38 false,.light 39 false] [{},{},{},{},{},{},{},{},{},{},{},{},{},{},{},{},{},{},{},{},{},{ g := false },{ g := false },{ g := false },{},{},{ g := false },{ g := false },{ g := false },{},{},{},{},{},{},{},{},{},{ g := false }] [0,3,54] [v_0,.i l1_3,.bool true] ⟨[],1⟩ _ (by kernel_rfl) (cjC (hc3) (cjC (Eq.refl false) (cjC (Eq.refl false) (cjC (hc4) (cjC (Eq.refl false) (cjC (Eq.refl false) (cjC (hc5) (cjC (Eq.refl false) (cjC (Eq.refl false) (cjC (Eq.refl false) (cjC (Eq.refl false) (cjC (hc6) (cjC (Eq.refl true) (cjC (Eq.refl true) (cjC (Eq.refl true) (cjC (Eq.refl true) (cjC (Eq.refl true) (cj1 (Eq.refl true))))))))))))))))))) (kj2 true rfl)
       ·rcases iteE hj2 with ⟨hc7,hj2⟩ | ⟨hc7,hj2⟩
        ·replace hj2 := Option.some.inj hj2; subst hj2
         exact yun1z (c155 19) [[],[0],[0,1],[0,1,2],[0,1,2,3],[0,1,2,3,4],[0,1,2,3,4,5],[0,1,2,3,4,5,6],[0,1,2,3,4,5,6,7],[0,1,2,3,4,5,6,7,8],[0,1,2,3,4,5,6,7,8,9],[0,1,2,3,4,5,6,7,8,9,10],[0,1,2,3,4,5,6,7,8,9,10,11],[0,1,2,3,4,5,6,7,8,9,10,11,12],[0,1,2,3,4,5,6,7,8,9,10,11,12,13],[0,1,2,3,4,5,6,7,8,9,10,11,12,13,14],[0,1,2,3,4,5,6,7,8,9,10,11,12,13],[0,1,2,3,4,5,6,7,8,9,10,11,12,13,16],[0,1,2,3,4,5,6,7,8,9,10,11,12,13,14,15,16,17],[0,1,2,3,4,5,6,7,8,9,10,11,12,13,14,15,16,17,18],[0,1,2,3,4,5,6,7,8,9,10,11,12,13,14,15,16,17,18,19],[0,1,2,3,4,5,6,7,8,9,10,11,12,13,14,15,16,17,18,19,20],[0,1,2,3,4,5,6,7,8,9,10,11,12,13,14,15,16,17,18,19,20,21],[0,1,2,3,4,5,6,7,8,9,10,11,12,13,14,15,16,17,18,19,20,21,22],[0,1,2,3,4,5,6,7,8,9,10,11,12,13,14,15,16,17,18,19,20,21,22,23],[0,1,2,3,4,5,6,7,8,9,10,11,12,13,14,15,16,17,18,19,20,21,22,23,24],[0,1,2,3,4,5,6,7,8,9,10,11,12,13,14,15,16,17,18,19,20,21,22,23,24,25],[0,1,2,3,4,5,6,7,8,9,10,11,12,13,14,15,16,17,18,19,20,21,22,23,24,25,26],[0,1,2,3,4,5,6,7,8,9,10,11,12,13,14,15,16,17,18,19,20,21,22,23,24,25,26,27],[0,1,2,3,4,5,6,7,8,9,10,11,12,13,14,15,16,17,18,19,20,21,22,23,24,25,26,27,28],[0,1,2,3,4,5,6,7,8,9,10,11,12,13,14,15,16,17,18,19,20,21,22,23,24,25,26,27,28,29],[0,1,2,3,4,5,6,7,8,9,10,11,12,13,14,15,16,17,18,19,20,21,22,23,24,25,26,27,28],[0,1,2,3,4,5,6,7,8,9,10,11,12,13,14,15,16,17,18,19,20,21,22,23,24,25,26,27,28],[0,1,2,3,4,5,6,7,8,9,10,11,12,13,14,15,16,17,18,19,20,21,22,23,24,25,26,27,28,32],[0,1,2,3,4,5,6,7,8,9,10,11,12,13,14,15,16,17,18,19,20,21,22,23,24,25,26,27,28,31,32,33],[0,1,2,3,4,5,6,7,8,9,10,11,12,13,14,15,16,17,18,19,20,21,22,23,24,25,26,27,28,31,32,33,34],[0,1,2,3,4,5,6,7,8,9,10,11,12,13,14,15,16,17,18,19,20,21,22,23,24,25,26,27,28,31,32,33,34,35],[0,1,2,3,4,5,6,7,8,9,10,11,12,13,14,15,16,17,18,19,20,21,22,23,24,25,26,27,28,29,30,31,32,33,34,35,36],[0,1,2,3,4,5,6,7,8,9,10,11,12,13,14,15,16,17,18,19,20,21,22,23,24,25,26,27,28,29,30,31,32,33,34,35,36,37],[0,1,2,3,4,5,6,7,8,9,10,11,12,13,14,15,16,17,18,19,20,21,22,23,24,25,26,27,28,29,30,31,32,33,34,35,36,37,38]] [.light 0 false,.light 1 false,.light 2 false,.light 3 false,.light 4 false,.light 5 false,.light 6 false,.light 7 false,.light 8 false,.light 9 false,.light 10 false,.light 11 false,.light 12 false,.light 13 false,.light 14 false,.light 15 false,.light 16 false,.light 17 false,.light 18 false,.light 19 false,.light 20 false,.light 21 false,.light 22 false,.light 23 false,.light 24 false,.light 25 false,.light 26 false,.light 27 false,.light 28 false,.light 29 false,.light 30 false,.light 31 false,.light 32 false,.light 33 false,.light 34 false,.light 35 false,.light 36 false,.light 37 false,.light 38 false,.light 39 false] [{},{},{},{},{},{},{},{},{},{},{},{},{},{},{},{},{},{},{},{},{},{},{},{},{},{},{ g := false },{ g := false },{ g := false },{},{},{},{},{},{},{},{},{},{ g := false }] [0,3,54] [v_0,.i l1_3,.bool true] ⟨[],1⟩ _ (by kernel_rfl) (cjC (hc3) (cjC (Eq.refl false) (cjC (Eq.refl false) (cjC (hc4) (cjC (Eq.refl false) (cjC (Eq.refl false) (cjC (hc5) (cjC (Eq.refl false) (cjC (Eq.refl false) (cjC (Eq.refl false) (cjC (Eq.refl false) (cjC (hc6) (cjC (Eq.refl false) (cjC (Eq.refl false) (cjC (hc7) (cjC (Eq.refl true) (cjC (Eq.refl true) (cj1 (Eq.refl true))))))))))))))))))) (kj2 true rfl)
        ·rcases iteE hj2 with ⟨hc8,hj2⟩ | ⟨hc8,hj2⟩
         ·obtain ⟨y9,hy9,hj2⟩ := bindE hj2
          replace hj2 := Option.some.inj hj2; subst hj2
          exact yun1z (c155 19) [[],[0],[0,1],[0,1,2],[0,1,2,3],[0,1,2,3,4],[0,1,2,3,4,5],[0,1,2,3,4,5,6],[0,1,2,3,4,5,6,7],[0,1,2,3,4,5,6,7,8],[0,1,2,3,4,5,6,7,8,9],[0,1,2,3,4,5,6,7,8,9,10],[0,1,2,3,4,5,6,7,8,9,10,11],[0,1,2,3,4,5,6,7,8,9,10,11,12],[0,1,2,3,4,5,6,7,8,9,10,11,12,13],[0,1,2,3,4,5,6,7,8,9,10,11,12,13,14],[0,1,2,3,4,5,6,7,8,9,10,11,12,13],[0,1,2,3,4,5,6,7,8,9,10,11,12,13,16],[0,1,2,3,4,5,6,7,8,9,10,11,12,13,14,15,16,17],[0,1,2,3,4,5,6,7,8,9,10,11,12,13,14,15,16,17,18],[0,1,2,3,4,5,6,7,8,9,10,11,12,13,14,15,16,17,18,19],[0,1,2,3,4,5,6,7,8,9,10,11,12,13,14,15,16,17,18,19,20],[0,1,2,3,4,5,6,7,8,9,10,11,12,13,14,15,16,17,18,19,20,21],[0,1,2,3,4,5,6,7,8,9,10,11,12,13,14,15,16,17,18,19,20,21,22],[0,1,2,3,4,5,6,7,8,9,10,11,12,13,14,15,16,17,18,19,20,21,22,23],[0,1,2,3,4,5,6,7,8,9,10,11,12,13,14,15,16,17,18,19,20,21,22,23,24],[0,1,2,3,4,5,6,7,8,9,10,11,12,13,14,15,16,17,18,19,20,21,22,23,24,25],[0,1,2,3,4,5,6,7,8,9,10,11,12,13,14,15,16,17,18,19,20,21,22,23,24,25,26],[0,1,2,3,4,5,6,7,8,9,10,11,12,13,14,15,16,17,18,19,20,21,22,23,24,25,26,27],[0,1,2,3,4,5,6,7,8,9,10,11,12,13,14,15,16,17,18,19,20,21,22,23,24,25,26,27,28],[0,1,2,3,4,5,6,7,8,9,10,11,12,13,14,15,16,17,18,19,20,21,22,23,24,25,26,27,28,29],[0,1,2,3,4,5,6,7,8,9,10,11,12,13,14,15,16,17,18,19,20,21,22,23,24,25,26,27,28],[0,1,2,3,4,5,6,7,8,9,10,11,12,13,14,15,16,17,18,19,20,21,22,23,24,25,26,27,28],[0,1,2,3,4,5,6,7,8,9,10,11,12,13,14,15,16,17,18,19,20,21,22,23,24,25,26,27,28,32],[0,1,2,3,4,5,6,7,8,9,10,11,12,13,14,15,16,17,18,19,20,21,22,23,24,25,26,27,28,31,32,33],[0,1,2,3,4,5,6,7,8,9,10,11,12,13,14,15,16,17,18,19,20,21,22,23,24,25,26,27,28,31,32,33,34],[0,1,2,3,4,5,6,7,8,9,10,11,12,13,14,15,16,17,18,19,20,21,22,23,24,25,26,27,28,31,32,33,34,35],[0,1,2,3,4,5,6,7,8,9,10,11,12,13,14,15,16,17,18,19,20,21,22,23,24,25,26,27,28,29,30,31,32,33,34,35,36],[0,1,2,3,4,5,6,7,8,9,10,11,12,13,14,15,16,17,18,19,20,21,22,23,24,25,26,27,28,29,30,31,32,33,34,35,36,37],[0,1,2,3,4,5,6,7,8,9,10,11,12,13,14,15,16,17,18,19,20,21,22,23,24,25,26,27,28,29,30,31,32,33,34,35,36,37,38]] [.light 0 false,.light 1 false,.light 2 false,.light 3 false,.light 4 false,.light 5 false,.light 6 false,.light 7 false,.light 8 false,.light 9 false,.light 10 false,.light 11 false,.light 12 false,.light 13 false,.light 14 false,.light 15 false,.light 16 false,.light 17 false,.light 18 false,.light 19 false,.light 20 false,.light 21 false,.light 22 false,.light 23 false,.light 24 false,.light 25 false,.light 26 false,.light 27 false,.light 28 false,.light 29 false,.light 30 false,.light 31 false,.light 32 false,.light 33 false,.light 34 false,.light 35 false,.light 36 false,.light 37 false,.light 38 false,.light 39 false] [{},{},{},{},{},{},{},{},{},{},{},{},{},{},{},{},{},{},{},{},{},{},{},{},{},{},{},{},{},{},{},{},{},{},{ k := 1,x := E_GTone y9 }] [0,3,54] [v_0,.i l1_3,.bool (decide (y2.from_ < y9.to_))] ⟨[],1⟩ _ (by kernel_rfl) (cjC (hc3) (cjC (Eq.refl false) (cjC (Eq.refl false) (cjC (hc4) (cjC (Eq.refl false) (cjC (Eq.refl false) (cjC (hc5) (cjC (Eq.refl false) (cjC (Eq.refl false) (cjC (Eq.refl false) (cjC (Eq.refl false) (cjC (hc6) (cjC (Eq.refl false) (cjC (Eq.refl false) (cjC (hc7) (cjC (Eq.refl false) (cjC (Eq.refl false) (cjC (hc8) (cjC (Eq.refl true) (cjC (Eq.refl true) (cjC (Eq.refl true) (cjC (Eq.refl true) (cjC (Eq.refl true) (cjC ((ixE hy9).1) (cjC (mapGet E_GTone (ixE hy9).2) (cjC (Eq.refl true) (cjC (Eq.refl true) (cjC (Eq.refl true) (cj1 (Eq.refl false)))))))))))))))))))))))))))))) (kj2 (decide (y2.from_ < y9.to_)) rfl)
         ·replace hj2 := Option.some.inj hj2; subst hj2
          exact yun1z (c155 19) [[],[0],[0,1],[0,1,2],[0,1,2,3],[0,1,2,3,4],[0,1,2,3,4,5],[0,1,2,3,4,5,6],[0,1,2,3,4,5,6,7],[0,1,2,3,4,5,6,7,8],[0,1,2,3,4,5,6,7,8,9],[0,1,2,3,4,5,6,7,8,9,10],[0,1,2,3,4,5,6,7,8,9,10,11],[0,1,2,3,4,5,6,7,8,9,10,11,12],[0,1,2,3,4,5,6,7,8,9,10,11,12,13],[0,1,2,3,4,5,6,7,8,9,10,11,12,13,14],[0,1,2,3,4,5,6,7,8,9,10,11,12,13],[0,1,2,3,4,5,6,7,8,9,10,11,12,13,16],[0,1,2,3,4,5,6,7,8,9,10,11,12,13,14,15,16,17],[0,1,2,3,4,5,6,7,8,9,10,11,12,13,14,15,16,17,18],[0,1,2,3,4,5,6,7,8,9,10,11,12,13,14,15,16,17,18,19],[0,1,2,3,4,5,6,7,8,9,10,11,12,13,14,15,16,17,18,19,20],[0,1,2,3,4,5,6,7,8,9,10,11,12,13,14,15,16,17,18,19,20,21],[0,1,2,3,4,5,6,7,8,9,10,11,12,13,14,15,16,17,18,19,20,21,22],[0,1,2,3,4,5,6,7,8,9,10,11,12,13,14,15,16,17,18,19,20,21,22,23],[0,1,2,3,4,5,6,7,8,9,10,11,12,13,14,15,16,17,18,19,20,21,22,23,24],[0,1,2,3,4,5,6,7,8,9,10,11,12,13,14,15,16,17,18,19,20,21,22,23,24,25],[0,1,2,3,4,5,6,7,8,9,10,11,12,13,14,15,16,17,18,19,20,21,22,23,24,25,26],[0,1,2,3,4,5,6,7,8,9,10,11,12,13,14,15,16,17,18,19,20,21,22,23,24,25,26,27],[0,1,2,3,4,5,6,7,8,9,10,11,12,13,14,15,16,17,18,19,20,21,22,23,24,25,26,27,28],[0,1,2,3,4,5,6,7,8,9,10,11,12,13,14,15,16,17,18,19,20,21,22,23,24,25,26,27,28,29],[0,1,2,3,4,5,6,7,8,9,10,11,12,13,14,15,16,17,18,19,20,21,22,23,24,25,26,27,28],[0,1,2,3,4,5,6,7,8,9,10,11,12,13,14,15,16,17,18,19,20,21,22,23,24,25,26,27,28],[0,1,2,3,4,5,6,7,8,9,10,11,12,13,14,15,16,17,18,19,20,21,22,23,24,25,26,27,28,32],[0,1,2,3,4,5,6,7,8,9,10,11,12,13,14,15,16,17,18,19,20,21,22,23,24,25,26,27,28,31,32,33],[0,1,2,3,4,5,6,7,8,9,10,11,12,13,14,15,16,17,18,19,20,21,22,23,24,25,26,27,28,31,32,33,34],[0,1,2,3,4,5,6,7,8,9,10,11,12,13,14,15,16,17,18,19,20,21,22,23,24,25,26,27,28,31,32,33,34,35],[0,1,2,3,4,5,6,7,8,9,10,11,12,13,14,15,16,17,18,19,20,21,22,23,24,25,26,27,28,29,30,31,32,33,34,35,36],[0,1,2,3,4,5,6,7,8,9,10,11,12,13,14,15,16,17,18,19,20,21,22,23,24,25,26,27,28,29,30,31,32,33,34,35,36,37],[0,1,2,3,4,5,6,7,8,9,10,11,12,13,14,15,16,17,18,19,20,21,22,23,24,25,26,27,28,29,30,31,32,33,34,35,36,37,38]] [.light 0 false,.light 1 false,.light 2 false,.light 3 false,.light 4 false,.light 5 false,.light 6 false,.light 7 false,.light 8 false,.light 9 false,.light 10 false,.light 11 false,.light 12 false,.light 13 false,.light 14 false,.light 15 false,.light 16 false,.light 17 false,.light 18 false,.light 19 false,.light 20 false,.light 21 false,.light 22 false,.light 23 false,.light 24 false,.light 25 false,.light 26 false,.light 27 false,.light 28 false,.light 29 false,.light 30 false,.light 31 false,.light 32 false,.light 33 false,.light 34 false,.light 35 false,.light 36 false,.light 37 false,.light 38 false,.light 39 false] [{},{},{},{},{},{},{},{},{},{},{},{},{},{},{},{},{},{},{},{},{},{},{},{},{},{},{},{},{},{ g := false },{ g := false },{ g := false },{ g := false },{ g := false },{ g := false },{ g := false },{ g := false },{ g := false }] [0,3,54] [v_0,.i l1_3,.bool false] ⟨[],1⟩ _ (by kernel_rfl) (cjC (hc3) (cjC (Eq.refl false) (cjC (Eq.refl false) (cjC (hc4) (cjC (Eq.refl false) (cjC (Eq.refl false) (cjC (hc5) (cjC (Eq.refl false) (cjC (Eq.refl false) (cjC (Eq.refl false) (cjC (Eq.refl false) (cjC (hc6) (cjC (Eq.refl false) (cjC (Eq.refl false) (cjC (hc7) (cjC (Eq.refl false) (cjC (Eq.refl false) (cjC (hc8) (cjC (Eq.refl false) (cjC (Eq.refl false) (cjC (Eq.refl false) (cjC (Eq.refl false) (cjC (Eq.refl false) (cjC (Eq.refl false) (cjC (Eq.refl false) (cjC (Eq.refl false) (cj1 (Eq.refl false)))))))))))))))))))))))))))) (kj2 false rfl)
   ·rintro _ rfl
    rcases iteE hl1 with ⟨hc10,hl1⟩ | ⟨hc10,hl1⟩
    ·refine run_cT 54 (c155 20) (c155 23) j2_54 hc10 (by kernel_rfl) (by kernel_rfl) ?_
     refine run1z (c155 22) [] [2] [.bool false] ⟨[],1⟩ _ (by kernel_rfl) cj0 ?_
     replace hl1 := Option.some.inj hl1; subst hl1
     have hr := rl1 _ rfl
     subst hr
     replace h := elimR h
     refine run_t (by kernel_rfl) ?_
     refine inbR ?_
     refine thenR ?_
     refine ⟨⟨_,rfl⟩,?_⟩
     refine inbR ?_
     refine thenR ?_
     replace h := Option.some.inj h; subst h
     exact fin_r (by kernel_rfl) rfl
    ·refine run_cF 54 (c155 20) (c155 23) j2_54 hc10 (by kernel_rfl) (by kernel_rfl) ?_
     refine run_k (by kernel_rfl) ?_
     refine inbN ?_
     refine thenN ?_
     refine run0z [] [0,3] [v_0,.i (wr (l1_3 + 1))] ⟨[],1⟩ _ (by kernel_rfl) cj0 ?_
     replace hl1 := Option.some.inj hl1; subst hl1
     exact ⟨_,rfl,pi [],mkInto (ks := [0,3]) (ys := [v_0,.i (wr (l1_3 + 1))]) (by kernel_rfl) (by kernel_rfl) (.k (.c (cleanMap _ _ cl_GTone)) (.k (.c rfl) .z)) .z⟩
  ·refine run_cF 8 (c155 11) (c155 12) (decide (l1_3 < (a0.length : Int))) hc1 (by kernel_rfl) (by kernel_rfl) ?_
   replace hl1 := Option.some.inj hl1; subst hl1
   have hr := rl1 _ rfl
   subst hr
   refine awp_p [] [] (zipE [] []) ⟨[],0⟩ (by kernel_rfl) (?_)
   refine run_e 0 (by kernel_rfl) ?_
   refine thenE ?_
   refine ⟨⟨_,rfl⟩,?_⟩
   refine inbE ?_
   exact kl1 () rfl
 ·rintro ⟨⟩ rfl
  replace h := elimL h
  refine thenN ?_
  refine run1z (c155 27) [] [2] [.bool true] ⟨[],0⟩ _ (by kernel_rfl) cj0 ?_
  refine run_t (by kernel_rfl) ?_
  replace h := Option.some.inj h; subst h
  exact fin_r (by kernel_rfl) rfl
def f102 (a0 : List (List GTone)) : Option Int := (loopN (σ := (Bool × Int)) (τ := Bool) (fun ((l1_3,l1_4) : (Bool × Int)) => bif (decide (l1_4 < (a0.length : Int))) then (((bif l1_3 then (some true) else ((ix a0 l1_4).bind fun y3 => some (decide (400 < (y3.length : Int))))) : Option Bool).bind fun (j2_3 : Bool) => some (.inl (j2_3,(wr (l1_4 + 1))))) else (some (.inr l1_3))) FUEL ((decide (6 < (a0.length : Int))),0)).bind fun (l1x_3 : Bool) => bif l1x_3 then (some 2) else ((loopN (σ := Int) (τ := (Unit ⊕ Int)) (fun (l3_5 : Int) => bif (decide (l3_5 < (a0.length : Int))) then ((ix a0 l3_5).bind fun y6 => (f155 y6).bind fun r7 => bif (!r7) then (some (.inr (.inr 80))) else (some (.inl (wr (l3_5 + 1))))) else (some (.inr (.inl ())))) FUEL 0).bind (Sum.elim (fun (_ : Unit) => some 0) some))
theorem f102_ok (a0 : List (List GTone)) (r : Int) (h : f102 a0 = some r) : APure Tryz.prog 102 [.sl false (a0.map (SL E_GTone))] (.i r) := by
 refine apure (clK (cleanMap a0 _ (cl_SL cl_GTone)) clZ) rfl ?_
 let v_0 : AV := .sl false (a0.map (SL E_GTone))
 refine run_f 37 [.tmp 2] (c102 0) (zipE [0] [v_0]) (by kernel_rfl) (by kernel_rfl) (by kernel_rfl) rfl ?_
 unfold f102 at h
 refine run1z (c102 2) [] [0] [v_0] ⟨[],0⟩ _ (by kernel_rfl) cj0 ?_
 let v_1 : AV := .bool (decide (6 < (a0.length : Int)))
 refine run1z (c102 4) [{},{ k := 1,n := a0.length }] [0,3] [v_0,v_1] ⟨[],0⟩ _ (by kernel_rfl) (cj1 (mapLen a0 (SL E_GTone))) ?_
 refine run_s (c102 5) (c102 19) (by kernel_rfl) ?_
 refine run1z (c102 7) [] [0,3,4] [v_0,v_1,.i 0] ⟨[],0⟩ _ (by kernel_rfl) cj0 ?_
 obtain ⟨l1x_3,hll1x,h⟩ := bindE h
 refine run_tq (fun (l1x_3 : Bool) => (zipE [0,3] [v_0,.bool l1x_3])) (fun (l1x_3 : Bool) => ⟨[],0⟩) (fun j => l1x_3 = j) (fun kl1 => ?_) ?_
 ·refine run_b 0 (c102 8) (by kernel_rfl) ?_
  refine run_l (c102 9) _ hll1x (fun ((l1_3,l1_4) : (Bool × Int)) => (zipE [0,3,4] [v_0,.bool l1_3,.i l1_4])) (fun ((l1_3,l1_4) : (Bool × Int)) => ⟨[],0⟩) [] (by intro i e; cases e <;> exact Nat.le_of_ble_eq_true rfl) (by kernel_rfl) (mkInto (ks := [0,3,4]) (ys := [v_0,v_1,.i 0]) (by kernel_rfl) (by kernel_rfl) (.k (.c (cleanMap _ _ (cl_SL cl_GTone))) (.k (.c rfl) (.k (.c rfl) .z))) .z) ?_
  rintro ⟨l1_3,l1_4⟩ out hl1 rl1
  refine run_s (c102 10) (c102 15) (by kernel_rfl) ?_
  refine run1z (c102 12) [{},{},{ k := 1,n := a0.length }] [0,3,4,12] [v_0,.bool l1_3,.i l1_4,.bool (decide (l1_4 < (a0.length : Int)))] ⟨[],0⟩ _ (by kernel_rfl) (cj1 (mapLen a0 (SL E_GTone))) ?_
  rcases iteE hl1 with ⟨hc1,hl1⟩ | ⟨hc1,hl1⟩
  ·refine run_cT 12 (c102 13) (c102 14) (decide (l1_4 < (a0.length : Int))) hc1 (by kernel_rfl) (by kernel_rfl) ?_
   refine run_k (by kernel_rfl) ?_
   refine thenN ?_
   refine run_s (c102 16) (c102 18) (by kernel_rfl) ?_
   refine run_b 1 (c102 17) (by kernel_rfl) ?_
   obtain ⟨j2_3,hj2,hl1⟩ := bindE hl1
   refine run_tq (fun (j2_3 : Bool) => (zipE [0,3,4] [v_0,.bool j2_3,.i l1_4])) (fun (j2_3 : Bool) => ⟨[],0⟩) (fun j => j2_3 = j) (fun kj2 => ?_) ?_
   ·rcases iteE hj2 with ⟨hc2,hj2⟩ | ⟨hc2,hj2⟩
    ·replace hj2 := Option.some.inj hj2; subst hj2
     exact run0z [{},{},{ g := false },{ g := false },{ g := false },{ g := false },{ g := false },{ g := false },{ k := 1,b := true }] [0,3,4] [v_0,.bool true,.i l1_4] ⟨[],0⟩ _ (by kernel_rfl) (cjC (hc2) (cjC (hc2) (cjC (hc2) (cjC (hc2) (cjC (hc2) (cjC (hc2) (cj1 (hc2)))))))) (kj2 true rfl)
    ·obtain ⟨y3,hy3,hj2⟩ := bindE hj2
     replace hj2 := Option.some.inj hj2; subst hj2
     exact run0z [{},{},{},{},{ k := 1,x := (SL E_GTone) y3 },{},{ k := 1,n := y3.length },{},{ k := 1,b := false }] [0,3,4] [v_0,.bool (decide (400 < (y3.length : Int))),.i l1_4] ⟨[],0⟩ _ (by kernel_rfl) (cjC (hc2) (cjC (hc2) (cjC (hc2) (cjC ((ixE hy3).1) (cjC (mapGet (SL E_GTone) (ixE hy3).2) (cjC (hc2) (cjC (hc2) (cjC (mapLen y3 E_GTone) (cjC (hc2) (cj1 (hc2))))))))))) (kj2 (decide (400 < (y3.length : Int))) rfl)
   ·rintro _ rfl
    refine inbN ?_
    refine thenN ?_
    refine run0z [] [0,3,4] [v_0,.bool j2_3,.i (wr (l1_4 + 1))] ⟨[],0⟩ _ (by kernel_rfl) cj0 ?_
    replace hl1 := Option.some.inj hl1; subst hl1
    exact ⟨_,rfl,pi [],mkInto (ks := [0,3,4]) (ys := [v_0,.bool j2_3,.i (wr (l1_4 + 1))]) (by kernel_rfl) (by kernel_rfl) (.k (.c (cleanMap _ _ (cl_SL cl_GTone))) (.k (.c rfl) (.k (.c rfl) .z))) .z⟩
  ·refine run_cF 12 (c102 13) (c102 14) (decide (l1_4 < (a0.length : Int))) hc1 (by kernel_rfl) (by kernel_rfl) ?_
   replace hl1 := Option.some.inj hl1; subst hl1
   have hr := rl1 _ rfl
   subst hr
   refine awp_p [0,3] [] (zipE [0,3] [v_0,.bool l1_3]) ⟨[],0⟩ (by kernel_rfl) (?_)
   refine run_e 0 (by kernel_rfl) ?_
   refine thenE ?_
   refine ⟨⟨_,rfl⟩,?_⟩
   refine inbE ?_
   exact kl1 l1_3 rfl
 ·rintro _ rfl
  refine thenN ?_
  refine run_s (c102 20) (c102 27) (by kernel_rfl) ?_
  refine run1z (c102 22) [] [0,24] [v_0,.bool l1x_3] ⟨[],0⟩ _ (by kernel_rfl) cj0 ?_
  rcases iteE h with ⟨hc4,h⟩ | ⟨hc4,h⟩
  ·refine run_cT 24 (c102 23) (c102 26) l1x_3 hc4 (by kernel_rfl) (by kernel_rfl) ?_
   refine run1z (c102 25) [] [2] [.i 2] ⟨[],0⟩ _ (by kernel_rfl) cj0 ?_
   refine run_t (by kernel_rfl) ?_
   refine thenR ?_
   replace h := Option.some.inj h; subst h
   exact fin_r (by kernel_rfl) rfl
  ·refine run_cF 24 (c102 23) (c102 26) l1x_3 hc4 (by kernel_rfl) (by kernel_rfl) ?_
   refine run_k (by kernel_rfl) ?_
   refine thenN ?_
   refine run_s (c102 28) (c102 48) (by kernel_rfl) ?_
   refine run1z (c102 30) [] [0,5] [v_0,.i 0] ⟨[],0⟩ _ (by kernel_rfl) cj0 ?_
   obtain ⟨ol3x,hll3x,h⟩ := bindE h
   refine run_tq (fun (_ : Unit) => (zipE [] [])) (fun (_ : Unit) => ⟨[],0⟩) (fun j => ol3x = .inl j) (fun kl3 => ?_) ?_
   ·refine run_b 2 (c102 31) (by kernel_rfl) ?_
    refine run_l (c102 32) _ hll3x (fun (l3_5 : Int) => (zipE [0,5] [v_0,.i l3_5])) (fun (l3_5 : Int) => ⟨[],0⟩) [] (by intro i e; cases e <;> exact Nat.le_of_ble_eq_true rfl) (by kernel_rfl) (mkInto (ks := [0,5]) (ys := [v_0,.i 0]) (by kernel_rfl) (by kernel_rfl) (.k (.c (cleanMap _ _ (cl_SL cl_GTone))) (.k (.c rfl) .z)) .z) ?_
    rintro l3_5 out hl3 rl3
    refine run_s (c102 33) (c102 38) (by kernel_rfl) ?_
    refine run1z (c102 35) [{},{},{ k := 1,n := a0.length }] [0,5,28] [v_0,.i l3_5,.bool (decide (l3_5 < (a0.length : Int)))] ⟨[],0⟩ _ (by kernel_rfl) (cj1 (mapLen a0 (SL E_GTone))) ?_
    rcases iteE hl3 with ⟨hc5,hl3⟩ | ⟨hc5,hl3⟩
    ·refine run_cT 28 (c102 36) (c102 37) (decide (l3_5 < (a0.length : Int))) hc5 (by kernel_rfl) (by kernel_rfl) ?_
     refine run_k (by kernel_rfl) ?_
     refine thenN ?_
     refine run_s (c102 39) (c102 47) (by kernel_rfl) ?_
     refine run_b 3 (c102 40) (by kernel_rfl) ?_
     obtain ⟨y6,hy6,hl3⟩ := bindE hl3
     obtain ⟨r7,hr7,hl3⟩ := bindE hl3
     refine run1z (c102 42) [{},{},{ k := 1,x := (SL E_GTone) y6 },{},{ c := some (.bool r7,⟨[],0⟩) }] [0,5,36] [v_0,.i l3_5,.bool (!r7)] ⟨[],0⟩ _ (by kernel_rfl) (cjC ((ixE hy6).1) (cjC (mapGet (SL E_GTone) (ixE hy6).2) (cj1 (f155_ok y6 _ hr7 ⟨[],0⟩)))) ?_
     rcases iteE hl3 with ⟨hc8,hl3⟩ | ⟨hc8,hl3⟩
     ·refine run_cT 36 (c102 43) (c102 46) (!r7) hc8 (by kernel_rfl) (by kernel_rfl) ?_
      refine run1z (c102 45) [] [2] [.i 80] ⟨[],0⟩ _ (by kernel_rfl) cj0 ?_
      replace hl3 := Option.some.inj hl3; subst hl3
      have hr := rl3 _ rfl
      subst hr
      replace h := elimR h
      refine run_t (by kernel_rfl) ?_
      refine inbR ?_
      refine thenR ?_
      refine ⟨⟨_,rfl⟩,?_⟩
      refine inbR ?_
      refine thenR ?_
      replace h := Option.some.inj h; subst h
      exact fin_r (by kernel_rfl) rfl
     ·refine run_cF 36 (c102 43) (c102 46) (!r7) hc8 (by kernel_rfl) (by kernel_rfl) ?_
      refine run_k (by kernel_rfl) ?_
      refine inbN ?_
      refine thenN ?_
      refine run0z [] [0,5] [v_0,.i (wr (l3_5 + 1))] ⟨[],0⟩ _ (by kernel_rfl) cj0 ?_
      replace hl3 := Option.some.inj hl3; subst hl3
      exact ⟨_,rfl,pi [],mkInto (ks := [0,5]) (ys := [v_0,.i (wr (l3_5 + 1))]) (by kernel_rfl) (by kernel_rfl) (.k (.c (cleanMap _ _ (cl_SL cl_GTone))) (.k (.c rfl) .z)) .z⟩
    ·refine run_cF 28 (c102 36) (c102 37) (decide (l3_5 < (a0.length : Int))) hc5 (by kernel_rfl) (by kernel_rfl) ?_
     replace hl3 := Option.some.inj hl3; subst hl3
     have hr := rl3 _ rfl
     subst hr
     refine awp_p [] [] (zipE [] []) ⟨[],0⟩ (by kernel_rfl) (?_)
     refine run_e 2 (by kernel_rfl) ?_
     refine thenE ?_
     refine ⟨⟨_,rfl⟩,?_⟩
     refine inbE ?_
     exact kl3 () rfl
   ·rintro ⟨⟩ rfl
    replace h := elimL h
    refine thenN ?_
    refine run1z (c102 50) [] [2] [.i 0] ⟨[],0⟩ _ (by kernel_rfl) cj0 ?_
    refine run_t (by kernel_rfl) ?_
    replace h := Option.some.inj h; subst h
    exact fin_r (by kernel_rfl) rfl
def f45 (a0 : List (List GTone)) : Option Bool := (loopN (σ := (Int × Int)) (τ := Int) (fun ((l1_3,l1_4) : (Int × Int)) => bif (decide (l1_4 < (a0.length : Int))) then ((ix a0 l1_4).bind fun y2 => some (.inl ((wr (l1_3 + (y2.length : Int))),(wr (l1_4 + 1))))) else (some (.inr l1_3))) FUEL (0,0)).bind fun (l1x_3 : Int) => ((bif (decide (l1x_3 ≤ 64)) then (some true) else ((f102 a0).bind fun r4 => some (decide (r4 ≠ 0)))) : Option Bool).bind fun (j2_2 : Bool) => some j2_2
theorem f45_ok (a0 : List (List GTone)) (r : Bool) (h : f45 a0 = some r) : APure Tryz.prog 45 [.sl false (a0.map (SL E_GTone))] (.bool r) := by
 refine apure (clK (cleanMap a0 _ (cl_SL cl_GTone)) clZ) rfl ?_
 let v_0 : AV := .sl false (a0.map (SL E_GTone))
 refine run_f 25 [.tmp 2] (c45 0) (zipE [0] [v_0]) (by kernel_rfl) (by kernel_rfl) (by kernel_rfl) rfl ?_
 unfold f45 at h
 refine run1z (c45 2) [] [0] [v_0] ⟨[],0⟩ _ (by kernel_rfl) cj0 ?_
 refine run1z (c45 4) [] [0,3] [v_0,.i 0] ⟨[],0⟩ _ (by kernel_rfl) cj0 ?_
 refine run_s (c45 5) (c45 19) (by kernel_rfl) ?_
 refine run1z (c45 7) [] [0,3,4] [v_0,.i 0,.i 0] ⟨[],0⟩ _ (by kernel_rfl) cj0 ?_
 obtain ⟨l1x_3,hll1x,h⟩ := bindE h
 refine run_tq (fun (l1x_3 : Int) => (zipE [0,3] [v_0,.i l1x_3])) (fun (l1x_3 : Int) => ⟨[],0⟩) (fun j => l1x_3 = j) (fun kl1 => ?_) ?_
 ·refine run_b 0 (c45 8) (by kernel_rfl) ?_
  refine run_l (c45 9) _ hll1x (fun ((l1_3,l1_4) : (Int × Int)) => (zipE [0,3,4] [v_0,.i l1_3,.i l1_4])) (fun ((l1_3,l1_4) : (Int × Int)) => ⟨[],0⟩) [] (by intro i e; cases e <;> exact Nat.le_of_ble_eq_true rfl) (by kernel_rfl) (mkInto (ks := [0,3,4]) (ys := [v_0,.i 0,.i 0]) (by kernel_rfl) (by kernel_rfl) (.k (.c (cleanMap _ _ (cl_SL cl_GTone))) (.k (.c rfl) (.k (.c rfl) .z))) .z) ?_
  rintro ⟨l1_3,l1_4⟩ out hl1 rl1
  refine run_s (c45 10) (c45 15) (by kernel_rfl) ?_
  refine run1z (c45 12) [{},{},{ k := 1,n := a0.length }] [0,3,4,8] [v_0,.i l1_3,.i l1_4,.bool (decide (l1_4 < (a0.length : Int)))] ⟨[],0⟩ _ (by kernel_rfl) (cj1 (mapLen a0 (SL E_GTone))) ?_
  rcases iteE hl1 with ⟨hc1,hl1⟩ | ⟨hc1,hl1⟩
  ·refine run_cT 8 (c45 13) (c45 14) (decide (l1_4 < (a0.length : Int))) hc1 (by kernel_rfl) (by kernel_rfl) ?_
   refine run_k (by kernel_rfl) ?_
   refine thenN ?_
   refine run_s (c45 16) (c45 18) (by kernel_rfl) ?_
   refine run_b 1 (c45 17) (by kernel_rfl) ?_
   obtain ⟨y2,hy2,hl1⟩ := bindE hl1
   let v_1 : AV := .i (wr (l1_3 + (y2.length : Int)))
   refine run0z [{},{},{},{ k := 1,x := (SL E_GTone) y2 },{},{ k := 1,n := y2.length }] [0,3,4] [v_0,v_1,.i l1_4] ⟨[],0⟩ _ (by kernel_rfl) (cjC ((ixE hy2).1) (cjC (mapGet (SL E_GTone) (ixE hy2).2) (cj1 (mapLen y2 E_GTone)))) ?_
   refine inbN ?_
   refine thenN ?_
   refine run0z [] [0,3,4] [v_0,v_1,.i (wr (l1_4 + 1))] ⟨[],0⟩ _ (by kernel_rfl) cj0 ?_
   replace hl1 := Option.some.inj hl1; subst hl1
   exact ⟨_,rfl,pi [],mkInto (ks := [0,3,4]) (ys := [v_0,v_1,.i (wr (l1_4 + 1))]) (by kernel_rfl) (by kernel_rfl) (.k (.c (cleanMap _ _ (cl_SL cl_GTone))) (.k (.c rfl) (.k (.c rfl) .z))) .z⟩
  ·refine run_cF 8 (c45 13) (c45 14) (decide (l1_4 < (a0.length : Int))) hc1 (by kernel_rfl) (by kernel_rfl) ?_
   replace hl1 := Option.some.inj hl1; subst hl1
   have hr := rl1 _ rfl
   subst hr
   refine awp_p [0,3] [] (zipE [0,3] [v_0,.i l1_3]) ⟨[],0⟩ (by kernel_rfl) (?_)
   refine run_e 0 (by kernel_rfl) ?_
   refine thenE ?_
   refine ⟨⟨_,rfl⟩,?_⟩
   refine inbE ?_
   exact kl1 l1_3 rfl
 ·rintro _ rfl
  refine thenN ?_
  obtain ⟨j2_2,hj2,h⟩ := bindE h
  refine run_gq (c45 21) (fun (j2_2 : Bool) => (zipE [2] [.bool j2_2])) (fun (j2_2 : Bool) => ⟨[],0⟩) (fun j => j2_2 = j) (fun kj2 => ?_) ?_
  ·rcases iteE hj2 with ⟨hc3,hj2⟩ | ⟨hc3,hj2⟩
   ·replace hj2 := Option.some.inj hj2; subst hj2
    exact run1z (c45 21) [{},{},{},{ g := false },{ g := false },{ g := false },{ k := 1,b := true }] [2] [.bool true] ⟨[],0⟩ _ (by kernel_rfl) (cjC (hc3) (cjC (hc3) (cjC (hc3) (cj1 (hc3))))) (kj2 true rfl)
   ·obtain ⟨r4,hr4,hj2⟩ := bindE hj2
    replace hj2 := Option.some.inj hj2; subst hj2
    exact run1z (c45 21) [{},{},{},{},{ c := some (.i r4,⟨[],0⟩) },{},{ k := 1,b := false }] [2] [.bool (decide (r4 ≠ 0))] ⟨[],0⟩ _ (by kernel_rfl) (cjC (hc3) (cjC (hc3) (cjC (f102_ok a0 _ hr4 ⟨[],0⟩) (cjC (hc3) (cj1 (hc3)))))) (kj2 (decide (r4 ≠ 0)) rfl)
  ·rintro _ rfl
   refine run_t (by kernel_rfl) ?_
   replace h := Option.some.inj h; subst h
   exact fin_r (by kernel_rfl) rfl
def f10 : Option Bool := some true
theorem f10_ok (r : Bool) (h : f10 = some r) : APure Tryz.prog 10 [] (.bool r) := by cases h; exact works_ok
def f157 (a0 : List GTone) : Option Bool := some (decide (400 < (a0.length : Int)))
theorem f157_ok (a0 : List GTone) (r : Bool) (h : f157 a0 = some r) : APure Tryz.prog 157 [.sl false (a0.map E_GTone)] (.bool r) := by
 refine apure (clK (cleanMap a0 _ cl_GTone) clZ) rfl ?_
 let v_0 : AV := .sl false (a0.map E_GTone)
 refine run_f 6 [.tmp 2] (c157 0) (zipE [0] [v_0]) (by kernel_rfl) (by kernel_rfl) (by kernel_rfl) rfl ?_
 unfold f157 at h
 refine run1z (c157 2) [] [0] [v_0] ⟨[],0⟩ _ (by kernel_rfl) cj0 ?_
 refine run1z (c157 4) [{},{ k := 1,n := a0.length }] [2] [.bool (decide (400 < (a0.length : Int)))] ⟨[],0⟩ _ (by kernel_rfl) (cj1 (mapLen a0 E_GTone)) ?_
 refine run_t (by kernel_rfl) ?_
 replace h := Option.some.inj h; subst h
 exact fin_r (by kernel_rfl) rfl
def f196 (a0 : List (List GTone)) : Option Int := (loopN (σ := Int) (τ := (Unit ⊕ Int)) (fun (l1_8 : Int) => bif (decide (l1_8 < (a0.length : Int))) then ((ix a0 l1_8).bind fun y2 => (f157 y2).bind fun r3 => bif r3 then (some (.inr (.inr l1_8))) else (some (.inl (wr (l1_8 + 1))))) else (some (.inr (.inl ())))) FUEL 0).bind (Sum.elim (fun (_ : Unit) => some (-1)) some)
theorem f196_ok (a0 : List (List GTone)) (r : Int) (h : f196 a0 = some r) : APure Tryz.prog 196 [.sl false (a0.map (SL E_GTone)),.fn 157 []] (.i r) := by
 refine apure (clK (cleanMap a0 _ (cl_SL cl_GTone)) (clK rfl clZ)) rfl ?_
 let v_0 : AV := .sl false (a0.map (SL E_GTone))
 refine run_f 19 [.tmp 4] (c196 0) (zipE [0,1] [v_0,.fn 157 []]) (by kernel_rfl) (by kernel_rfl) (by kernel_rfl) rfl ?_
 unfold f196 at h
 refine run1z (c196 2) [] [0,1] [v_0,.fn 157 []] ⟨[],0⟩ _ (by kernel_rfl) cj0 ?_
 refine run_s (c196 3) (c196 25) (by kernel_rfl) ?_
 let v_1 : AV := .i (a0.length : Int)
 refine run1z (c196 5) [{},{ k := 1,n := a0.length }] [0,1,7,8] [v_0,.fn 157 [],v_1,.i 0] ⟨[],0⟩ _ (by kernel_rfl) (cj1 (mapLen a0 (SL E_GTone))) ?_
 obtain ⟨ol1x,hll1x,h⟩ := bindE h
 refine run_tq (fun (_ : Unit) => (zipE [] [])) (fun (_ : Unit) => ⟨[],0⟩) (fun j => ol1x = .inl j) (fun kl1 => ?_) ?_
 ·refine run_b 0 (c196 6) (by kernel_rfl) ?_
  refine run_l (c196 7) _ hll1x (fun (l1_8 : Int) => (zipE [0,1,7,8] [v_0,.fn 157 [],v_1,.i l1_8])) (fun (l1_8 : Int) => ⟨[],0⟩) [] (by intro i e; cases e <;> exact Nat.le_of_ble_eq_true rfl) (by kernel_rfl) (mkInto (ks := [0,1,7,8]) (ys := [v_0,.fn 157 [],v_1,.i 0]) (by kernel_rfl) (by kernel_rfl) (.k (.c (cleanMap _ _ (cl_SL cl_GTone))) (.k (.c rfl) (.k (.c rfl) (.k (.c rfl) .z)))) .z) ?_
  rintro l1_8 out hl1 rl1
  refine run1z (c196 9) [] [0,1,7,8,9] [v_0,.fn 157 [],v_1,.i l1_8,.bool (decide (l1_8 < (a0.length : Int)))] ⟨[],0⟩ _ (by kernel_rfl) cj0 ?_
  refine run_s (c196 10) (c196 13) (by kernel_rfl) ?_
  rcases iteE hl1 with ⟨hc1,hl1⟩ | ⟨hc1,hl1⟩
  ·refine run_cT 9 (c196 11) (c196 12) (decide (l1_8 < (a0.length : Int))) hc1 (by kernel_rfl) (by kernel_rfl) ?_
   refine run_k (by kernel_rfl) ?_
   refine thenN ?_
   refine run_s (c196 14) (c196 24) (by kernel_rfl) ?_
   refine run_b 1 (c196 15) (by kernel_rfl) ?_
   refine run1z (c196 17) [] [0,1,5,7,8] [v_0,.fn 157 [],.i l1_8,v_1,.i l1_8] ⟨[],0⟩ _ (by kernel_rfl) cj0 ?_
   obtain ⟨y2,hy2,hl1⟩ := bindE hl1
   obtain ⟨r3,hr3,hl1⟩ := bindE hl1
   refine run1z (c196 19) [{},{},{},{ k := 1,x := (SL E_GTone) y2 },{},{ c := some (.bool r3,⟨[],0⟩) }] [0,1,5,7,8,16] [v_0,.fn 157 [],.i l1_8,v_1,.i l1_8,.bool r3] ⟨[],0⟩ _ (by kernel_rfl) (cjC ((ixE hy2).1) (cjC (mapGet (SL E_GTone) (ixE hy2).2) (cj1 (f157_ok y2 _ hr3 ⟨[],0⟩)))) ?_
   rcases iteE hl1 with ⟨hc4,hl1⟩ | ⟨hc4,hl1⟩
   ·refine run_cT 16 (c196 20) (c196 23) r3 hc4 (by kernel_rfl) (by kernel_rfl) ?_
    refine run1z (c196 22) [] [4] [.i l1_8] ⟨[],0⟩ _ (by kernel_rfl) cj0 ?_
    replace hl1 := Option.some.inj hl1; subst hl1
    have hr := rl1 _ rfl
    subst hr
    replace h := elimR h
    refine run_t (by kernel_rfl) ?_
    refine inbR ?_
    refine thenR ?_
    refine ⟨⟨_,rfl⟩,?_⟩
    refine inbR ?_
    refine thenR ?_
    replace h := Option.some.inj h; subst h
    exact fin_r (by kernel_rfl) rfl
   ·refine run_cF 16 (c196 20) (c196 23) r3 hc4 (by kernel_rfl) (by kernel_rfl) ?_
    refine run_k (by kernel_rfl) ?_
    refine inbN ?_
    refine thenN ?_
    refine run0z [] [0,1,7,8] [v_0,.fn 157 [],v_1,.i (wr (l1_8 + 1))] ⟨[],0⟩ _ (by kernel_rfl) cj0 ?_
    replace hl1 := Option.some.inj hl1; subst hl1
    exact ⟨_,rfl,pi [],mkInto (ks := [0,1,7,8]) (ys := [v_0,.fn 157 [],v_1,.i (wr (l1_8 + 1))]) (by kernel_rfl) (by kernel_rfl) (.k (.c (cleanMap _ _ (cl_SL cl_GTone))) (.k (.c rfl) (.k (.c rfl) (.k (.c rfl) .z)))) .z⟩
  ·refine run_cF 9 (c196 11) (c196 12) (decide (l1_8 < (a0.length : Int))) hc1 (by kernel_rfl) (by kernel_rfl) ?_
   replace hl1 := Option.some.inj hl1; subst hl1
   have hr := rl1 _ rfl
   subst hr
   refine awp_p [] [] (zipE [] []) ⟨[],0⟩ (by kernel_rfl) (?_)
   refine run_e 0 (by kernel_rfl) ?_
   refine thenE ?_
   refine ⟨⟨_,rfl⟩,?_⟩
   refine inbE ?_
   exact kl1 () rfl
 ·rintro ⟨⟩ rfl
  replace h := elimL h
  refine thenN ?_
  refine run1z (c196 27) [] [4] [.i (-1)] ⟨[],0⟩ _ (by kernel_rfl) cj0 ?_
  refine run_t (by kernel_rfl) ?_
  replace h := Option.some.inj h; subst h
  exact fin_r (by kernel_rfl) rfl
def f156 (a0 : List (List GTone)) : Option Bool := (f196 a0).bind fun r1 => some (decide (0 ≤ r1))
theorem f156_ok (a0 : List (List GTone)) (r : Bool) (h : f156 a0 = some r) : APure Tryz.prog 156 [.sl false (a0.map (SL E_GTone)),.fn 157 []] (.bool r) := by
 refine apure (clK (cleanMap a0 _ (cl_SL cl_GTone)) (clK rfl clZ)) rfl ?_
 let v_0 : AV := .sl false (a0.map (SL E_GTone))
 refine run_f 9 [.tmp 4] (c156 0) (zipE [0,1] [v_0,.fn 157 []]) (by kernel_rfl) (by kernel_rfl) (by kernel_rfl) rfl ?_
 unfold f156 at h
 refine run1z (c156 2) [] [0,1] [v_0,.fn 157 []] ⟨[],0⟩ _ (by kernel_rfl) cj0 ?_
 obtain ⟨r1,hr1,h⟩ := bindE h
 refine run1z (c156 4) [{},{},{ c := some (.i r1,⟨[],0⟩) }] [4] [.bool (decide (0 ≤ r1))] ⟨[],0⟩ _ (by kernel_rfl) (cj1 (f196_ok a0 _ hr1 ⟨[],0⟩)) ?_
 refine run_t (by kernel_rfl) ?_
 replace h := Option.some.inj h; subst h
 exact fin_r (by kernel_rfl) rfl
def f158 (a0 : Int) (a1 : Int) (a2 : Int) : Option Bool := ((bif (decide (a1 ≤ a0)) then (some (decide (a0 ≤ a2))) else (some false)) : Option Bool).bind fun (j1_6 : Bool) => some j1_6
theorem f158_ok (a0 : Int) (a1 : Int) (a2 : Int) (r : Bool) (h : f158 a0 a1 a2 = some r) : APure Tryz.prog 158 [.i a0,.i a1,.i a2] (.bool r) := by
 refine apure (clK rfl (clK rfl (clK rfl clZ))) rfl ?_
 refine run_f 15 [.tmp 6] (c158 0) (zipE [0,1,2] [.i a0,.i a1,.i a2]) (by kernel_rfl) (by kernel_rfl) (by kernel_rfl) rfl ?_
 unfold f158 at h
 refine run1z (c158 2) [] [0,1,2] [.i a0,.i a1,.i a2] ⟨[],0⟩ _ (by kernel_rfl) cj0 ?_
 obtain ⟨j1_6,hj1,h⟩ := bindE h
 refine run_gq (c158 4) (fun (j1_6 : Bool) => (zipE [6] [.bool j1_6])) (fun (j1_6 : Bool) => ⟨[],0⟩) (fun j => j1_6 = j) (fun kj1 => ?_) ?_
 ·rcases iteE hj1 with ⟨hc1,hj1⟩ | ⟨hc1,hj1⟩
  ·replace hj1 := Option.some.inj hj1; subst hj1
   exact run1z (c158 4) [{},{},{},{},{},{},{},{ k := 1,b := true }] [6] [.bool (decide (a0 ≤ a2))] ⟨[],0⟩ _ (by kernel_rfl) (cjC (hc1) (cjC (hc1) (cjC (hc1) (cj1 (hc1))))) (kj1 (decide (a0 ≤ a2)) rfl)
  ·replace hj1 := Option.some.inj hj1; subst hj1
   exact run1z (c158 4) [{},{},{},{},{ g := false },{ g := false },{ g := false },{ k := 1,b := false }] [6] [.bool false] ⟨[],0⟩ _ (by kernel_rfl) (cjC (hc1) (cjC (hc1) (cjC (hc1) (cj1 (hc1))))) (kj1 false rfl)
 ·rintro _ rfl
  refine run_t (by kernel_rfl) ?_
  replace h := Option.some.inj h; subst h
  exact fin_r (by kernel_rfl) rfl
def f103 (a0 : List (List GTone)) : Option Int := ((bif (decide (6 < (a0.length : Int))) then (some true) else ((f156 a0).bind fun r2 => some r2)) : Option Bool).bind fun (j1_14 : Bool) => bif j1_14 then (some 2) else ((loopN (σ := Int) (τ := (Unit ⊕ Int)) (fun (l2_17 : Int) => bif (decide (l2_17 < (a0.length : Int))) then ((ix a0 l2_17).bind fun y5 => (loopN (σ := (Int × Int)) (τ := (Unit ⊕ (Int ⊕ (Unit ⊕ Int)))) (fun ((l3_5,l3_23) : (Int × Int)) => bif (decide (l3_23 < (y5.length : Int))) then ((ix y5 l3_23).bind fun y7 => (((f158 y7.pitch 0 127).bind fun r8 => bif (!r8) then (some true) else (bif (decide (y7.from_ < l3_5)) then (some true) else (bif (decide (y7.to_ ≤ y7.from_)) then (some true) else (some (decide (262144 < y7.to_)))))) : Option Bool).bind fun (j4_48 : Bool) => bif j4_48 then (some (.inr (.inr (.inr (.inr 80))))) else (some (.inl (y7.to_,(wr (l3_23 + 1)))))) else (some (.inr (.inl ())))) FUEL (0,0)).bind (Sum.elim (fun (_ : Unit) => some (.inl (wr (l2_17 + 1)))) some)) else (some (.inr (.inl ())))) FUEL 0).bind (Sum.elim (fun (_ : Unit) => some 0) some))
theorem f103_ok (a0 : List (List GTone)) (r : Int) (h : f103 a0 = some r) : APure Tryz.prog 103 [.sl false (a0.map (SL E_GTone))] (.i r) := by
 refine apure (clK (cleanMap a0 _ (cl_SL cl_GTone)) clZ) rfl ?_
 let v_0 : AV := .sl false (a0.map (SL E_GTone))
 refine run_f 53 [.tmp 2] (c103 0) (zipE [0] [v_0]) (by kernel_rfl) (by kernel_rfl) (by kernel_rfl) rfl ?_
 unfold f103 at h
 refine run1z (c103 2) [] [0] [v_0] ⟨[],0⟩ _ (by kernel_rfl) cj0 ?_
 refine run_s (c103 3) (c103 10) (by kernel_rfl) ?_
 obtain ⟨j1_14,hj1,h⟩ := bindE h
 refine run_gq (c103 5) (fun (j1_14 : Bool) => (zipE [0,14] [v_0,.bool j1_14])) (fun (j1_14 : Bool) => ⟨[],0⟩) (fun j => j1_14 = j) (fun kj1 => ?_) ?_
 ·rcases iteE hj1 with ⟨hc1,hj1⟩ | ⟨hc1,hj1⟩
  ·replace hj1 := Option.some.inj hj1; subst hj1
   exact run1z (c103 5) [{},{ k := 1,n := a0.length },{},{},{ g := false },{ g := false },{ k := 1,b := true }] [0,14] [v_0,.bool true] ⟨[],0⟩ _ (by kernel_rfl) (cjC (mapLen a0 (SL E_GTone)) (cjC (hc1) (cjC (hc1) (cj1 (hc1))))) (kj1 true rfl)
  ·obtain ⟨r2,hr2,hj1⟩ := bindE hj1
   replace hj1 := Option.some.inj hj1; subst hj1
   exact run1z (c103 5) [{},{ k := 1,n := a0.length },{},{},{},{ c := some (.bool r2,⟨[],0⟩) },{ k := 1,b := false }] [0,14] [v_0,.bool r2] ⟨[],0⟩ _ (by kernel_rfl) (cjC (mapLen a0 (SL E_GTone)) (cjC (hc1) (cjC (hc1) (cjC (f156_ok a0 _ hr2 ⟨[],0⟩) (cj1 (hc1)))))) (kj1 r2 rfl)
 ·rintro _ rfl
  rcases iteE h with ⟨hc3,h⟩ | ⟨hc3,h⟩
  ·refine run_cT 14 (c103 6) (c103 9) j1_14 hc3 (by kernel_rfl) (by kernel_rfl) ?_
   refine run1z (c103 8) [] [2] [.i 2] ⟨[],0⟩ _ (by kernel_rfl) cj0 ?_
   refine run_t (by kernel_rfl) ?_
   refine thenR ?_
   replace h := Option.some.inj h; subst h
   exact fin_r (by kernel_rfl) rfl
  ·refine run_cF 14 (c103 6) (c103 9) j1_14 hc3 (by kernel_rfl) (by kernel_rfl) ?_
   refine run_k (by kernel_rfl) ?_
   refine thenN ?_
   refine run_s (c103 11) (c103 52) (by kernel_rfl) ?_
   let v_1 : AV := .i (a0.length : Int)
   refine run1z (c103 13) [{},{ k := 1,n := a0.length }] [15,16,17] [v_0,v_1,.i 0] ⟨[],0⟩ _ (by kernel_rfl) (cj1 (mapLen a0 (SL E_GTone))) ?_
   obtain ⟨ol2x,hll2x,h⟩ := bindE h
   refine run_tq (fun (_ : Unit) => (zipE [] [])) (fun (_ : Unit) => ⟨[],0⟩) (fun j => ol2x = .inl j) (fun kl2 => ?_) ?_
   ·refine run_b 0 (c103 14) (by kernel_rfl) ?_
    refine run_l (c103 15) _ hll2x (fun (l2_17 : Int) => (zipE [15,16,17] [v_0,v_1,.i l2_17])) (fun (l2_17 : Int) => ⟨[],0⟩) [] (by intro i e; cases e <;> exact Nat.le_of_ble_eq_true rfl) (by kernel_rfl) (mkInto (ks := [15,16,17]) (ys := [v_0,v_1,.i 0]) (by kernel_rfl) (by kernel_rfl) (.k (.c (cleanMap _ _ (cl_SL cl_GTone))) (.k (.c rfl) (.k (.c rfl) .z))) .z) ?_
    rintro l2_17 out hl2 rl2
    refine run1z (c103 17) [] [15,16,17,18] [v_0,v_1,.i l2_17,.bool (decide (l2_17 < (a0.length : Int)))] ⟨[],0⟩ _ (by kernel_rfl) cj0 ?_
    refine run_s (c103 18) (c103 21) (by kernel_rfl) ?_
    rcases iteE hl2 with ⟨hc4,hl2⟩ | ⟨hc4,hl2⟩
    ·refine run_cT 18 (c103 19) (c103 20) (decide (l2_17 < (a0.length : Int))) hc4 (by kernel_rfl) (by kernel_rfl) ?_
     refine run_k (by kernel_rfl) ?_
     refine thenN ?_
     refine run_s (c103 22) (c103 51) (by kernel_rfl) ?_
     refine run_b 1 (c103 23) (by kernel_rfl) ?_
     obtain ⟨y5,hy5,hl2⟩ := bindE hl2
     let v_2 : AV := .sl false (y5.map E_GTone)
     refine run1z (c103 25) [{ k := 1,x := (SL E_GTone) y5 }] [4,15,16,17] [v_2,v_0,v_1,.i l2_17] ⟨[],0⟩ _ (by kernel_rfl) (cjC ((ixE hy5).1) (cj1 (mapGet (SL E_GTone) (ixE hy5).2))) ?_
     refine run1z (c103 27) [] [4,5,15,16,17] [v_2,.i 0,v_0,v_1,.i l2_17] ⟨[],0⟩ _ (by kernel_rfl) cj0 ?_
     let v_3 : AV := .i (y5.length : Int)
     refine run1z (c103 29) [{},{ k := 1,n := y5.length }] [5,15,16,17,21,22,23] [.i 0,v_0,v_1,.i l2_17,v_2,v_3,.i 0] ⟨[],0⟩ _ (by kernel_rfl) (cj1 (mapLen y5 E_GTone)) ?_
     obtain ⟨ol3x,hll3x,hl2⟩ := bindE hl2
     refine run_tq (fun (_ : Unit) => (zipE [15,16,17] [v_0,v_1,.i l2_17])) (fun (_ : Unit) => ⟨[],0⟩) (fun j => ol3x = .inl j) (fun kl3 => ?_) ?_
     ·refine run_b 2 (c103 30) (by kernel_rfl) ?_
      refine run_l (c103 31) _ hll3x (fun ((l3_5,l3_23) : (Int × Int)) => (zipE [5,15,16,17,21,22,23] [.i l3_5,v_0,v_1,.i l2_17,v_2,v_3,.i l3_23])) (fun ((l3_5,l3_23) : (Int × Int)) => ⟨[],0⟩) [] (by intro i e; cases e <;> exact Nat.le_of_ble_eq_true rfl) (by kernel_rfl) (mkInto (ks := [5,15,16,17,21,22,23]) (ys := [.i 0,v_0,v_1,.i l2_17,v_2,v_3,.i 0]) (by kernel_rfl) (by kernel_rfl) (.k (.c rfl) (.k (.c (cleanMap _ _ (cl_SL cl_GTone))) (.k (.c rfl) (.k (.c rfl) (.k (.c (cleanMap _ _ cl_GTone)) (.k (.c rfl) (.k (.c rfl) .z))))))) .z) ?_
      rintro ⟨l3_5,l3_23⟩ out hl3 rl3
      refine run1z (c103 33) [] [5,15,16,17,21,22,23,24] [.i l3_5,v_0,v_1,.i l2_17,v_2,v_3,.i l3_23,.bool (decide (l3_23 < (y5.length : Int)))] ⟨[],0⟩ _ (by kernel_rfl) cj0 ?_
      refine run_s (c103 34) (c103 37) (by kernel_rfl) ?_
      rcases iteE hl3 with ⟨hc6,hl3⟩ | ⟨hc6,hl3⟩
      ·refine run_cT 24 (c103 35) (c103 36) (decide (l3_23 < (y5.length : Int))) hc6 (by kernel_rfl) (by kernel_rfl) ?_
       refine run_k (by kernel_rfl) ?_
       refine thenN ?_
       refine run_s (c103 38) (c103 50) (by kernel_rfl) ?_
       refine run_b 3 (c103 39) (by kernel_rfl) ?_
       obtain ⟨y7,hy7,hl3⟩ := bindE hl3
       let b_0 : Blk := .cells 3 [E_GTone y7]
       refine run1z (c103 41) [{ k := 1,x := E_GTone y7 }] [5,7,15,16,17,21,22,23] [.i l3_5,.mp 0 0 0,v_0,v_1,.i l2_17,v_2,v_3,.i l3_23] ⟨[(0,b_0)],1⟩ _ (by kernel_rfl) (cjC ((ixE hy7).1) (cj1 (mapGet E_GTone (ixE hy7).2))) ?_
       refine run_s (c103 42) (c103 49) (by kernel_rfl) ?_
       obtain ⟨j4_48,hj4,hl3⟩ := bindE hl3
       refine run_gq (c103 44) (fun (j4_48 : Bool) => (zipE [7,15,16,17,21,22,23,48] [.mp 0 0 0,v_0,v_1,.i l2_17,v_2,v_3,.i l3_23,.bool j4_48])) (fun (j4_48 : Bool) => ⟨[(0,b_0)],1⟩) (fun j => j4_48 = j) (fun kj4 => ?_) ?_
       ·obtain ⟨r8,hr8,hj4⟩ := bindE hj4
        rcases iteE hj4 with ⟨hc9,hj4⟩ | ⟨hc9,hj4⟩
        ·replace hj4 := Option.some.inj hj4; subst hj4
         exact run1z (c103 44) [{},{},{ c := some (.bool r8,⟨[(0,b_0)],1⟩) },{},{},{ g := false },{ g := false },{ g := false },{ g := false },{ k := 1,b := true },{},{ g := false },{ g := false },{ g := false },{ g := false },{ g := false },{},{},{ g := false },{ g := false },{ g := false }] [7,15,16,17,21,22,23,48] [.mp 0 0 0,v_0,v_1,.i l2_17,v_2,v_3,.i l3_23,.bool true] ⟨[(0,b_0)],1⟩ _ (by kernel_rfl) (cjC (f158_ok y7.pitch 0 127 _ hr8 ⟨[(0,b_0)],1⟩) (cjC (hc9) (cjC (hc9) (cjC (hc9) (cjC (hc9) (cjC (hc9) (cjC (Eq.refl true) (cjC (Eq.refl true) (cjC (Eq.refl true) (cjC (Eq.refl true) (cjC (Eq.refl true) (cjC (Eq.refl true) (cjC (Eq.refl true) (cj1 (Eq.refl true))))))))))))))) (kj4 true rfl)
        ·rcases iteE hj4 with ⟨hc10,hj4⟩ | ⟨hc10,hj4⟩
         ·replace hj4 := Option.some.inj hj4; subst hj4
          exact run1z (c103 44) [{},{},{ c := some (.bool r8,⟨[(0,b_0)],1⟩) },{},{},{},{},{},{},{ k := 1,b := false },{},{ g := false },{ g := false },{ g := false },{ g := false },{ g := false },{ k := 1,b := true },{},{ g := false },{ g := false },{ g := false }] [7,15,16,17,21,22,23,48] [.mp 0 0 0,v_0,v_1,.i l2_17,v_2,v_3,.i l3_23,.bool true] ⟨[(0,b_0)],1⟩ _ (by kernel_rfl) (cjC (f158_ok y7.pitch 0 127 _ hr8 ⟨[(0,b_0)],1⟩) (cjC (hc9) (cjC (hc9) (cjC (hc9) (cjC (hc9) (cjC (hc9) (cjC (hc10) (cjC (hc10) (cjC (hc10) (cjC (hc10) (cjC (hc10) (cjC (hc10) (cjC (Eq.refl true) (cjC (Eq.refl true) (cj1 (Eq.refl true)))))))))))))))) (kj4 true rfl)
         ·rcases iteE hj4 with ⟨hc11,hj4⟩ | ⟨hc11,hj4⟩
          ·replace hj4 := Option.some.inj hj4; subst hj4
           exact run1z (c103 44) [{},{},{ c := some (.bool r8,⟨[(0,b_0)],1⟩) },{},{},{},{},{},{},{ k := 1,b := false },{},{},{},{},{},{},{ k := 1,b := false },{},{ g := false },{ g := false },{ g := false },{ k := 1,b := true }] [7,15,16,17,21,22,23,48] [.mp 0 0 0,v_0,v_1,.i l2_17,v_2,v_3,.i l3_23,.bool true] ⟨[(0,b_0)],1⟩ _ (by kernel_rfl) (cjC (f158_ok y7.pitch 0 127 _ hr8 ⟨[(0,b_0)],1⟩) (cjC (hc9) (cjC (hc9) (cjC (hc9) (cjC (hc9) (cjC (hc9) (cjC (hc10) (cjC (hc10) (cjC (hc10) (cjC (hc10) (cjC (hc10) (cjC (hc10) (cjC (hc11) (cjC (hc11) (cjC (hc11) (cj1 (hc11))))))))))))))))) (kj4 true rfl)
          ·replace hj4 := Option.some.inj hj4; subst hj4
           exact run1z (c103 44) [{},{},{ c := some (.bool r8,⟨[(0,b_0)],1⟩) },{},{},{},{},{},{},{ k := 1,b := false },{},{},{},{},{},{},{ k := 1,b := false },{},{},{},{},{ k := 1,b := false }] [7,15,16,17,21,22,23,48] [.mp 0 0 0,v_0,v_1,.i l2_17,v_2,v_3,.i l3_23,.bool (decide (262144 < y7.to_))] ⟨[(0,b_0)],1⟩ _ (by kernel_rfl) (cjC (f158_ok y7.pitch 0 127 _ hr8 ⟨[(0,b_0)],1⟩) (cjC (hc9) (cjC (hc9) (cjC (hc9) (cjC (hc9) (cjC (hc9) (cjC (hc10) (cjC (hc10) (cjC (hc10) (cjC (hc10) (cjC (hc10) (cjC (hc10) (cjC (hc11) (cjC (hc11) (cjC (hc11) (cj1 (hc11))))))))))))))))) (kj4 (decide (262144 < y7.to_)) rfl)
       ·rintro _ rfl
        rcases iteE hl3 with ⟨hc12,hl3⟩ | ⟨hc12,hl3⟩
        ·refine run_cT 48 (c103 45) (c103 48) j4_48 hc12 (by kernel_rfl) (by kernel_rfl) ?_
         refine run1z (c103 47) [] [2] [.i 80] ⟨[],1⟩ _ (by kernel_rfl) cj0 ?_
         replace hl3 := Option.some.inj hl3; subst hl3
         have hr := rl3 _ rfl
         subst hr
         replace hl2 := elimR hl2
         replace hl2 := Option.some.inj hl2; subst hl2
         have hr := rl2 _ rfl
         subst hr
         replace h := elimR h
         refine run_t (by kernel_rfl) ?_
         refine thenR ?_
         refine inbR ?_
         refine thenR ?_
         refine ⟨⟨_,rfl⟩,?_⟩
         refine inbR ?_
         refine inbR ?_
         refine thenR ?_
         refine ⟨⟨_,rfl⟩,?_⟩
         refine inbR ?_
         refine thenR ?_
         replace h := Option.some.inj h; subst h
         exact fin_r (by kernel_rfl) rfl
        ·refine run_cF 48 (c103 45) (c103 48) j4_48 hc12 (by kernel_rfl) (by kernel_rfl) ?_
         refine run_k (by kernel_rfl) ?_
         refine thenN ?_
         refine run0z [] [5,15,16,17,21,22,23] [.i y7.to_,v_0,v_1,.i l2_17,v_2,v_3,.i l3_23] ⟨[],1⟩ _ (by kernel_rfl) cj0 ?_
         refine inbN ?_
         refine thenN ?_
         refine run0z [] [5,15,16,17,21,22,23] [.i y7.to_,v_0,v_1,.i l2_17,v_2,v_3,.i (wr (l3_23 + 1))] ⟨[],1⟩ _ (by kernel_rfl) cj0 ?_
         replace hl3 := Option.some.inj hl3; subst hl3
         exact ⟨_,rfl,pi [],mkInto (ks := [5,15,16,17,21,22,23]) (ys := [.i y7.to_,v_0,v_1,.i l2_17,v_2,v_3,.i (wr (l3_23 + 1))]) (by kernel_rfl) (by kernel_rfl) (.k (.c rfl) (.k (.c (cleanMap _ _ (cl_SL cl_GTone))) (.k (.c rfl) (.k (.c rfl) (.k (.c (cleanMap _ _ cl_GTone)) (.k (.c rfl) (.k (.c rfl) .z))))))) .z⟩
      ·refine run_cF 24 (c103 35) (c103 36) (decide (l3_23 < (y5.length : Int))) hc6 (by kernel_rfl) (by kernel_rfl) ?_
       replace hl3 := Option.some.inj hl3; subst hl3
       have hr := rl3 _ rfl
       subst hr
       refine awp_p [15,16,17] [] (zipE [15,16,17] [v_0,v_1,.i l2_17]) ⟨[],0⟩ (by kernel_rfl) (?_)
       refine run_e 2 (by kernel_rfl) ?_
       refine thenE ?_
       refine ⟨⟨_,rfl⟩,?_⟩
       refine inbE ?_
       exact kl3 () rfl
     ·rintro ⟨⟩ rfl
      replace hl2 := elimL hl2
      refine inbN ?_
      refine thenN ?_
      refine run0z [] [15,16,17] [v_0,v_1,.i (wr (l2_17 + 1))] ⟨[],0⟩ _ (by kernel_rfl) cj0 ?_
      replace hl2 := Option.some.inj hl2; subst hl2
      exact ⟨_,rfl,pi [],mkInto (ks := [15,16,17]) (ys := [v_0,v_1,.i (wr (l2_17 + 1))]) (by kernel_rfl) (by kernel_rfl) (.k (.c (cleanMap _ _ (cl_SL cl_GTone))) (.k (.c rfl) (.k (.c rfl) .z))) .z⟩
    ·refine run_cF 18 (c103 19) (c103 20) (decide (l2_17 < (a0.length : Int))) hc4 (by kernel_rfl) (by kernel_rfl) ?_
     replace hl2 := Option.some.inj hl2; subst hl2
     have hr := rl2 _ rfl
     subst hr
     refine awp_p [] [] (zipE [] []) ⟨[],0⟩ (by kernel_rfl) (?_)
     refine run_e 0 (by kernel_rfl) ?_
     refine thenE ?_
     refine ⟨⟨_,rfl⟩,?_⟩
     refine inbE ?_
     exact kl2 () rfl
   ·rintro ⟨⟩ rfl
    replace h := elimL h
    refine thenN ?_
    refine run1z (c103 54) [] [2] [.i 0] ⟨[],0⟩ _ (by kernel_rfl) cj0 ?_
    refine run_t (by kernel_rfl) ?_
    replace h := Option.some.inj h; subst h
    exact fin_r (by kernel_rfl) rfl
def f159 (a0 : GInstrument) (a1 : GCourse) : Option Int := ((bif (decide (0 < a1.frets)) then ((ix a0.steps (wr (a1.frets - 1))).bind fun y2 => some (wr (a1.pitch + y2))) else (some a1.pitch)) : Option Int).bind fun (j1_5 : Int) => ((bif a1.octave then (some (wr (j1_5 + 12))) else (some j1_5)) : Option Int).bind fun (j2_5 : Int) => some j2_5
theorem f159_ok (a0 : GInstrument) (a1 : GCourse) (r : Int) (h : f159 a0 a1 = some r) : APure Tryz.prog 159 [E_GInstrument a0,E_GCourse a1] (.i r) := by
 refine apure (clK (cl_GInstrument a0) (clK (cl_GCourse a1) clZ)) rfl ?_
 refine run_f 25 [.tmp 4] (c159 0) (zipE [0,1] [E_GInstrument a0,E_GCourse a1]) (by kernel_rfl) (by kernel_rfl) (by kernel_rfl) rfl ?_
 unfold f159 at h
 let b_0 : Blk := .cells 2 [E_GInstrument a0]
 let b_1 : Blk := .cells 3 [E_GCourse a1]
 let s_0 : St := ⟨[(1,b_1),(0,b_0)],2⟩
 refine run1z (c159 2) [] [2,3] [.mp 0 0 0,.mp 1 0 0] s_0 _ (by kernel_rfl) cj0 ?_
 refine run1z (c159 4) [] [2,3,5] [.mp 0 0 0,.mp 1 0 0,.i a1.pitch] s_0 _ (by kernel_rfl) cj0 ?_
 obtain ⟨j1_5,hj1,h⟩ := bindE h
 refine run_jq (c159 5) (c159 10) (fun (j1_5 : Int) => (zipE [3,5] [.mp 1 0 0,.i j1_5])) (fun (j1_5 : Int) => ⟨[(1,b_1)],2⟩) (fun j => j1_5 = j) (by kernel_rfl) (fun kj1 => ?_) ?_
 ·refine run1z (c159 7) [] [2,3,5,10] [.mp 0 0 0,.mp 1 0 0,.i a1.pitch,.bool (decide (0 < a1.frets))] s_0 _ (by kernel_rfl) cj0 ?_
  rcases iteE hj1 with ⟨hc1,hj1⟩ | ⟨hc1,hj1⟩
  ·refine run_cT 10 (c159 8) (c159 9) (decide (0 < a1.frets)) hc1 (by kernel_rfl) (by kernel_rfl) ?_
   obtain ⟨y2,hy2,hj1⟩ := bindE hj1
   refine run0z [{},{},{},{},{},{},{ k := 1,x := AV.i y2 }] [3,5] [.mp 1 0 0,.i (wr (a1.pitch + y2))] ⟨[(1,b_1)],2⟩ _ (by kernel_rfl) (cjC ((ixE hy2).1) (cj1 (mapGet AV.i (ixE hy2).2))) ?_
   replace hj1 := Option.some.inj hj1; subst hj1
   refine thenN ?_
   exact kj1 (wr (a1.pitch + y2)) rfl
  ·refine run_cF 10 (c159 8) (c159 9) (decide (0 < a1.frets)) hc1 (by kernel_rfl) (by kernel_rfl) ?_
   replace hj1 := Option.some.inj hj1; subst hj1
   refine awp_p [3,5] [1] (zipE [3,5] [.mp 1 0 0,.i a1.pitch]) ⟨[(1,b_1)],2⟩ (by kernel_rfl) (?_)
   refine run_k (by kernel_rfl) ?_
   refine thenN ?_
   exact kj1 a1.pitch rfl
 ·rintro _ rfl
  obtain ⟨j2_5,hj2,h⟩ := bindE h
  refine run_jq (c159 11) (c159 16) (fun (j2_5 : Int) => (zipE [5] [.i j2_5])) (fun (j2_5 : Int) => ⟨[],2⟩) (fun j => j2_5 = j) (by kernel_rfl) (fun kj2 => ?_) ?_
  ·refine run1z (c159 13) [] [5,21] [.i j1_5,.bool a1.octave] ⟨[],2⟩ _ (by kernel_rfl) cj0 ?_
   rcases iteE hj2 with ⟨hc3,hj2⟩ | ⟨hc3,hj2⟩
   ·refine run_cT 21 (c159 14) (c159 15) a1.octave hc3 (by kernel_rfl) (by kernel_rfl) ?_
    refine run0z [] [5] [.i (wr (j1_5 + 12))] ⟨[],2⟩ _ (by kernel_rfl) cj0 ?_
    replace hj2 := Option.some.inj hj2; subst hj2
    refine thenN ?_
    exact kj2 (wr (j1_5 + 12)) rfl
   ·refine run_cF 21 (c159 14) (c159 15) a1.octave hc3 (by kernel_rfl) (by kernel_rfl) ?_
    replace hj2 := Option.some.inj hj2; subst hj2
    refine awp_p [5] [] (zipE [5] [.i j1_5]) ⟨[],2⟩ (by kernel_rfl) (?_)
    refine run_k (by kernel_rfl) ?_
    refine thenN ?_
    exact kj2 j1_5 rfl
  ·rintro _ rfl
   refine run1z (c159 18) [] [4] [.i j2_5] ⟨[],2⟩ _ (by kernel_rfl) cj0 ?_
   refine run_t (by kernel_rfl) ?_
   replace h := Option.some.inj h; subst h
   exact fin_r (by kernel_rfl) rfl
def f104 (a0 : GInstrument) : Option Int := ((bif (decide (14 < (a0.courses.length : Int))) then (some true) else (some (decide (18 < (a0.steps.length : Int))))) : Option Bool).bind fun (j1_17 : Bool) => bif j1_17 then (some 2) else (bif (decide ((a0.courses.length : Int) = 0)) then (some 11) else ((loopN (σ := (Int × Int)) (τ := (Unit ⊕ Int)) (fun ((l2_3,l2_25) : (Int × Int)) => bif (decide (l2_25 < (a0.steps.length : Int))) then ((ix a0.steps l2_25).bind fun y5 => ((bif (decide (y5 ≤ l2_3)) then (some true) else (some (decide (127 < y5)))) : Option Bool).bind fun (j3_35 : Bool) => bif j3_35 then (some (.inr (.inr 11))) else (some (.inl (y5,(wr (l2_25 + 1)))))) else (some (.inr (.inl ())))) FUEL (0,0)).bind (Sum.elim (fun (_ : Unit) => (loopN (σ := Int) (τ := (Unit ⊕ Int)) (fun (l4_41 : Int) => bif (decide (l4_41 < (a0.courses.length : Int))) then ((ix a0.courses l4_41).bind fun y9 => ((bif (decide (y9.frets < 0)) then (some true) else (some (decide ((a0.steps.length : Int) < y9.frets)))) : Option Bool).bind fun (j5_55 : Bool) => bif j5_55 then (some (.inr (.inr 13))) else (((bif (decide (y9.pitch < 0)) then (some true) else (bif (decide (127 < y9.pitch)) then (some true) else ((f159 a0 y9).bind fun r14 => some (decide (127 < r14))))) : Option Bool).bind fun (j6_69 : Bool) => bif j6_69 then (some (.inr (.inr 10))) else (some (.inl (wr (l4_41 + 1)))))) else (some (.inr (.inl ())))) FUEL 0).bind (Sum.elim (fun (_ : Unit) => some 0) some)) some)))
theorem f104_ok (a0 : GInstrument) (r : Int) (h : f104 a0 = some r) : APure Tryz.prog 104 [E_GInstrument a0] (.i r) := by
 refine apure (clK (cl_GInstrument a0) clZ) rfl ?_
 refine run_f 71 [.tmp 2] (c104 0) (zipE [0] [E_GInstrument a0]) (by kernel_rfl) (by kernel_rfl) (by kernel_rfl) rfl ?_
 unfold f104 at h
 let b_0 : Blk := .cells 2 [E_GInstrument a0]
 refine run1z (c104 2) [] [1] [.mp 0 0 0] ⟨[(0,b_0)],1⟩ _ (by kernel_rfl) cj0 ?_
 refine run_s (c104 3) (c104 10) (by kernel_rfl) ?_
 obtain ⟨j1_17,hj1,h⟩ := bindE h
 refine run_gq (c104 5) (fun (j1_17 : Bool) => (zipE [1,17] [.mp 0 0 0,.bool j1_17])) (fun (j1_17 : Bool) => ⟨[(0,b_0)],1⟩) (fun j => j1_17 = j) (fun kj1 => ?_) ?_
 ·rcases iteE hj1 with ⟨hc1,hj1⟩ | ⟨hc1,hj1⟩
  ·replace hj1 := Option.some.inj hj1; subst hj1
   exact run1z (c104 5) [{},{},{ k := 1,n := a0.courses.length },{},{},{ g := false },{ g := false },{ g := false },{ g := false },{ k := 1,b := true }] [1,17] [.mp 0 0 0,.bool true] ⟨[(0,b_0)],1⟩ _ (by kernel_rfl) (cjC (mapLen a0.courses E_GCourse) (cjC (hc1) (cjC (hc1) (cjC (hc1) (cjC (hc1) (cj1 (hc1))))))) (kj1 true rfl)
  ·replace hj1 := Option.some.inj hj1; subst hj1
   exact run1z (c104 5) [{},{},{ k := 1,n := a0.courses.length },{},{},{},{},{ k := 1,n := a0.steps.length },{},{ k := 1,b := false }] [1,17] [.mp 0 0 0,.bool (decide (18 < (a0.steps.length : Int)))] ⟨[(0,b_0)],1⟩ _ (by kernel_rfl) (cjC (mapLen a0.courses E_GCourse) (cjC (hc1) (cjC (hc1) (cjC (hc1) (cjC (mapLen a0.steps AV.i) (cjC (hc1) (cj1 (hc1)))))))) (kj1 (decide (18 < (a0.steps.length : Int))) rfl)
 ·rintro _ rfl
  rcases iteE h with ⟨hc2,h⟩ | ⟨hc2,h⟩
  ·refine run_cT 17 (c104 6) (c104 9) j1_17 hc2 (by kernel_rfl) (by kernel_rfl) ?_
   refine run1z (c104 8) [] [2] [.i 2] ⟨[],1⟩ _ (by kernel_rfl) cj0 ?_
   refine run_t (by kernel_rfl) ?_
   refine thenR ?_
   replace h := Option.some.inj h; subst h
   exact fin_r (by kernel_rfl) rfl
  ·refine run_cF 17 (c104 6) (c104 9) j1_17 hc2 (by kernel_rfl) (by kernel_rfl) ?_
   refine run_k (by kernel_rfl) ?_
   refine thenN ?_
   refine run_s (c104 11) (c104 18) (by kernel_rfl) ?_
   refine run1z (c104 13) [{},{},{ k := 1,n := a0.courses.length }] [1,21] [.mp 0 0 0,.bool (decide ((a0.courses.length : Int) = 0))] ⟨[(0,b_0)],1⟩ _ (by kernel_rfl) (cj1 (mapLen a0.courses E_GCourse)) ?_
   rcases iteE h with ⟨hc3,h⟩ | ⟨hc3,h⟩
   ·refine run_cT 21 (c104 14) (c104 17) (decide ((a0.courses.length : Int) = 0)) hc3 (by kernel_rfl) (by kernel_rfl) ?_
    refine run1z (c104 16) [] [2] [.i 11] ⟨[],1⟩ _ (by kernel_rfl) cj0 ?_
    refine run_t (by kernel_rfl) ?_
    refine thenR ?_
    replace h := Option.some.inj h; subst h
    exact fin_r (by kernel_rfl) rfl
   ·refine run_cF 21 (c104 14) (c104 17) (decide ((a0.courses.length : Int) = 0)) hc3 (by kernel_rfl) (by kernel_rfl) ?_
    refine run_k (by kernel_rfl) ?_
    refine thenN ?_
    refine run1z (c104 20) [] [1,3] [.mp 0 0 0,.i 0] ⟨[(0,b_0)],1⟩ _ (by kernel_rfl) cj0 ?_
    refine run_s (c104 21) (c104 45) (by kernel_rfl) ?_
    let v_0 : AV := .sl false (a0.steps.map AV.i)
    let v_1 : AV := .i (a0.steps.length : Int)
    refine run1z (c104 23) [{},{},{ k := 1,n := a0.steps.length }] [1,3,23,24,25] [.mp 0 0 0,.i 0,v_0,v_1,.i 0] ⟨[(0,b_0)],1⟩ _ (by kernel_rfl) (cj1 (mapLen a0.steps AV.i)) ?_
    obtain ⟨ol2x,hll2x,h⟩ := bindE h
    refine run_tq (fun (_ : Unit) => (zipE [1] [.mp 0 0 0])) (fun (_ : Unit) => ⟨[(0,b_0)],1⟩) (fun j => ol2x = .inl j) (fun kl2 => ?_) ?_
    ·refine run_b 0 (c104 24) (by kernel_rfl) ?_
     refine run_l (c104 25) _ hll2x (fun ((l2_3,l2_25) : (Int × Int)) => (zipE [1,3,23,24,25] [.mp 0 0 0,.i l2_3,v_0,v_1,.i l2_25])) (fun ((l2_3,l2_25) : (Int × Int)) => ⟨[(0,b_0)],1⟩) [] (by intro i e; cases e <;> exact Nat.le_of_ble_eq_true rfl) (by kernel_rfl) (mkInto (ks := [1,3,23,24,25]) (ys := [.mp 0 0 0,.i 0,v_0,v_1,.i 0]) (by kernel_rfl) (by kernel_rfl) (.k (.mp rfl rfl) (.k (.c rfl) (.k (.c (cleanMap _ _ cl_i)) (.k (.c rfl) (.k (.c rfl) .z))))) (.k rfl (.cells (.k (.c (cl_GInstrument a0)) .z)) .z)) ?_
     rintro ⟨l2_3,l2_25⟩ out hl2 rl2
     refine run1z (c104 27) [] [1,3,23,24,25,26] [.mp 0 0 0,.i l2_3,v_0,v_1,.i l2_25,.bool (decide (l2_25 < (a0.steps.length : Int)))] ⟨[(0,b_0)],1⟩ _ (by kernel_rfl) cj0 ?_
     refine run_s (c104 28) (c104 31) (by kernel_rfl) ?_
     rcases iteE hl2 with ⟨hc4,hl2⟩ | ⟨hc4,hl2⟩
     ·refine run_cT 26 (c104 29) (c104 30) (decide (l2_25 < (a0.steps.length : Int))) hc4 (by kernel_rfl) (by kernel_rfl) ?_
      refine run_k (by kernel_rfl) ?_
      refine thenN ?_
      refine run_s (c104 32) (c104 44) (by kernel_rfl) ?_
      refine run_b 1 (c104 33) (by kernel_rfl) ?_
      obtain ⟨y5,hy5,hl2⟩ := bindE hl2
      refine run1z (c104 35) [{ k := 1,x := AV.i y5 }] [1,3,5,23,24,25] [.mp 0 0 0,.i l2_3,.i y5,v_0,v_1,.i l2_25] ⟨[(0,b_0)],1⟩ _ (by kernel_rfl) (cjC ((ixE hy5).1) (cj1 (mapGet AV.i (ixE hy5).2))) ?_
      refine run_s (c104 36) (c104 43) (by kernel_rfl) ?_
      obtain ⟨j3_35,hj3,hl2⟩ := bindE hl2
      refine run_gq (c104 38) (fun (j3_35 : Bool) => (zipE [1,5,23,24,25,35] [.mp 0 0 0,.i y5,v_0,v_1,.i l2_25,.bool j3_35])) (fun (j3_35 : Bool) => ⟨[(0,b_0)],1⟩) (fun j => j3_35 = j) (fun kj3 => ?_) ?_
      ·rcases iteE hj3 with ⟨hc6,hj3⟩ | ⟨hc6,hj3⟩
       ·replace hj3 := Option.some.inj hj3; subst hj3
        exact run1z (c104 38) [{},{},{},{},{ g := false },{ g := false },{ k := 1,b := true }] [1,5,23,24,25,35] [.mp 0 0 0,.i y5,v_0,v_1,.i l2_25,.bool true] ⟨[(0,b_0)],1⟩ _ (by kernel_rfl) (cjC (hc6) (cjC (hc6) (cj1 (hc6)))) (kj3 true rfl)
       ·replace hj3 := Option.some.inj hj3; subst hj3
        exact run1z (c104 38) [{},{},{},{},{},{},{ k := 1,b := false }] [1,5,23,24,25,35] [.mp 0 0 0,.i y5,v_0,v_1,.i l2_25,.bool (decide (127 < y5))] ⟨[(0,b_0)],1⟩ _ (by kernel_rfl) (cjC (hc6) (cjC (hc6) (cj1 (hc6)))) (kj3 (decide (127 < y5)) rfl)
      ·rintro _ rfl
       rcases iteE hl2 with ⟨hc7,hl2⟩ | ⟨hc7,hl2⟩
       ·refine run_cT 35 (c104 39) (c104 42) j3_35 hc7 (by kernel_rfl) (by kernel_rfl) ?_
        refine run1z (c104 41) [] [2] [.i 11] ⟨[],1⟩ _ (by kernel_rfl) cj0 ?_
        replace hl2 := Option.some.inj hl2; subst hl2
        have hr := rl2 _ rfl
        subst hr
        replace h := elimR h
        refine run_t (by kernel_rfl) ?_
        refine thenR ?_
        refine inbR ?_
        refine thenR ?_
        refine ⟨⟨_,rfl⟩,?_⟩
        refine inbR ?_
        refine thenR ?_
        replace h := Option.some.inj h; subst h
        exact fin_r (by kernel_rfl) rfl
       ·refine run_cF 35 (c104 39) (c104 42) j3_35 hc7 (by kernel_rfl) (by kernel_rfl) ?_
        refine run_k (by kernel_rfl) ?_
        refine thenN ?_
        refine run0z [] [1,3,23,24,25] [.mp 0 0 0,.i y5,v_0,v_1,.i l2_25] ⟨[(0,b_0)],1⟩ _ (by kernel_rfl) cj0 ?_
        refine inbN ?_
        refine thenN ?_
        refine run0z [] [1,3,23,24,25] [.mp 0 0 0,.i y5,v_0,v_1,.i (wr (l2_25 + 1))] ⟨[(0,b_0)],1⟩ _ (by kernel_rfl) cj0 ?_
        replace hl2 := Option.some.inj hl2; subst hl2
        exact ⟨_,rfl,pi [],mkInto (ks := [1,3,23,24,25]) (ys := [.mp 0 0 0,.i y5,v_0,v_1,.i (wr (l2_25 + 1))]) (by kernel_rfl) (by kernel_rfl) (.k (.mp rfl rfl) (.k (.c rfl) (.k (.c (cleanMap _ _ cl_i)) (.k (.c rfl) (.k (.c rfl) .z))))) (.k rfl (.cells (.k (.c (cl_GInstrument a0)) .z)) .z)⟩
     ·refine run_cF 26 (c104 29) (c104 30) (decide (l2_25 < (a0.steps.length : Int))) hc4 (by kernel_rfl) (by kernel_rfl) ?_
      replace hl2 := Option.some.inj hl2; subst hl2
      have hr := rl2 _ rfl
      subst hr
      refine awp_p [1] [0] (zipE [1] [.mp 0 0 0]) ⟨[(0,b_0)],1⟩ (by kernel_rfl) (?_)
      refine run_e 0 (by kernel_rfl) ?_
      refine thenE ?_
      refine ⟨⟨_,rfl⟩,?_⟩
      refine inbE ?_
      exact kl2 () rfl
    ·rintro ⟨⟩ rfl
     replace h := elimL h
     refine thenN ?_
     refine run_s (c104 46) (c104 76) (by kernel_rfl) ?_
     let v_2 : AV := .sl false (a0.courses.map E_GCourse)
     let v_3 : AV := .i (a0.courses.length : Int)
     refine run1z (c104 48) [{},{},{ k := 1,n := a0.courses.length }] [1,39,40,41] [.mp 0 0 0,v_2,v_3,.i 0] ⟨[(0,b_0)],1⟩ _ (by kernel_rfl) (cj1 (mapLen a0.courses E_GCourse)) ?_
     obtain ⟨ol4x,hll4x,h⟩ := bindE h
     refine run_tq (fun (_ : Unit) => (zipE [] [])) (fun (_ : Unit) => ⟨[],1⟩) (fun j => ol4x = .inl j) (fun kl4 => ?_) ?_
     ·refine run_b 2 (c104 49) (by kernel_rfl) ?_
      refine run_l (c104 50) _ hll4x (fun (l4_41 : Int) => (zipE [1,39,40,41] [.mp 0 0 0,v_2,v_3,.i l4_41])) (fun (l4_41 : Int) => ⟨[(0,b_0)],1⟩) [] (by intro i e; cases e <;> exact Nat.le_of_ble_eq_true rfl) (by kernel_rfl) (mkInto (ks := [1,39,40,41]) (ys := [.mp 0 0 0,v_2,v_3,.i 0]) (by kernel_rfl) (by kernel_rfl) (.k (.mp rfl rfl) (.k (.c (cleanMap _ _ cl_GCourse)) (.k (.c rfl) (.k (.c rfl) .z)))) (.k rfl (.cells (.k (.c (cl_GInstrument a0)) .z)) .z)) ?_
      rintro l4_41 out hl4 rl4
      refine run1z (c104 52) [] [1,39,40,41,42] [.mp 0 0 0,v_2,v_3,.i l4_41,.bool (decide (l4_41 < (a0.courses.length : Int)))] ⟨[(0,b_0)],1⟩ _ (by kernel_rfl) cj0 ?_
      refine run_s (c104 53) (c104 56) (by kernel_rfl) ?_
      rcases iteE hl4 with ⟨hc8,hl4⟩ | ⟨hc8,hl4⟩
      ·refine run_cT 42 (c104 54) (c104 55) (decide (l4_41 < (a0.courses.length : Int))) hc8 (by kernel_rfl) (by kernel_rfl) ?_
       refine run_k (by kernel_rfl) ?_
       refine thenN ?_
       refine run_s (c104 57) (c104 75) (by kernel_rfl) ?_
       refine run_b 3 (c104 58) (by kernel_rfl) ?_
       obtain ⟨y9,hy9,hl4⟩ := bindE hl4
       let b_1 : Blk := .cells 3 [E_GCourse y9]
       let s_0 : St := ⟨[(1,b_1),(0,b_0)],2⟩
       refine run1z (c104 60) [{ k := 1,x := E_GCourse y9 }] [1,7,39,40,41] [.mp 0 0 0,.mp 1 0 0,v_2,v_3,.i l4_41] s_0 _ (by kernel_rfl) (cjC ((ixE hy9).1) (cj1 (mapGet E_GCourse (ixE hy9).2))) ?_
       refine run_s (c104 61) (c104 68) (by kernel_rfl) ?_
       obtain ⟨j5_55,hj5,hl4⟩ := bindE hl4
       refine run_gq (c104 63) (fun (j5_55 : Bool) => (zipE [1,7,39,40,41,55] [.mp 0 0 0,.mp 1 0 0,v_2,v_3,.i l4_41,.bool j5_55])) (fun (j5_55 : Bool) => s_0) (fun j => j5_55 = j) (fun kj5 => ?_) ?_
       ·rcases iteE hj5 with ⟨hc10,hj5⟩ | ⟨hc10,hj5⟩
        ·replace hj5 := Option.some.inj hj5; subst hj5
         exact run1z (c104 63) [{},{},{},{},{ g := false },{ g := false },{ g := false },{ g := false },{ g := false },{ g := false },{ k := 1,b := true }] [1,7,39,40,41,55] [.mp 0 0 0,.mp 1 0 0,v_2,v_3,.i l4_41,.bool true] s_0 _ (by kernel_rfl) (cjC (hc10) (cjC (hc10) (cjC (hc10) (cjC (hc10) (cjC (hc10) (cjC (hc10) (cj1 (hc10)))))))) (kj5 true rfl)
        ·replace hj5 := Option.some.inj hj5; subst hj5
         exact run1z (c104 63) [{},{},{},{},{},{},{},{},{ k := 1,n := a0.steps.length },{},{ k := 1,b := false }] [1,7,39,40,41,55] [.mp 0 0 0,.mp 1 0 0,v_2,v_3,.i l4_41,.bool (decide ((a0.steps.length : Int) < y9.frets))] s_0 _ (by kernel_rfl) (cjC (hc10) (cjC (hc10) (cjC (hc10) (cjC (hc10) (cjC (hc10) (cjC (mapLen a0.steps AV.i) (cjC (hc10) (cj1 (hc10))))))))) (kj5 (decide ((a0.steps.length : Int) < y9.frets)) rfl)
       ·rintro _ rfl
        rcases iteE hl4 with ⟨hc11,hl4⟩ | ⟨hc11,hl4⟩
        ·refine run_cT 55 (c104 64) (c104 67) j5_55 hc11 (by kernel_rfl) (by kernel_rfl) ?_
         refine run1z (c104 66) [] [2] [.i 13] ⟨[],2⟩ _ (by kernel_rfl) cj0 ?_
         replace hl4 := Option.some.inj hl4; subst hl4
         have hr := rl4 _ rfl
         subst hr
         replace h := elimR h
         refine run_t (by kernel_rfl) ?_
         refine thenR ?_
         refine inbR ?_
         refine thenR ?_
         refine ⟨⟨_,rfl⟩,?_⟩
         refine inbR ?_
         refine thenR ?_
         replace h := Option.some.inj h; subst h
         exact fin_r (by kernel_rfl) rfl
        ·refine run_cF 55 (c104 64) (c104 67) j5_55 hc11 (by kernel_rfl) (by kernel_rfl) ?_
         refine run_k (by kernel_rfl) ?_
         refine thenN ?_
         obtain ⟨j6_69,hj6,hl4⟩ := bindE hl4
         refine run_gq (c104 70) (fun (j6_69 : Bool) => (zipE [1,39,40,41,69] [.mp 0 0 0,v_2,v_3,.i l4_41,.bool j6_69])) (fun (j6_69 : Bool) => ⟨[(0,b_0)],2⟩) (fun j => j6_69 = j) (fun kj6 => ?_) ?_
         ·rcases iteE hj6 with ⟨hc12,hj6⟩ | ⟨hc12,hj6⟩
          ·replace hj6 := Option.some.inj hj6; subst hj6
           exact run1z (c104 70) [{},{},{},{},{ g := false },{ g := false },{ g := false },{ k := 1,b := true },{},{ g := false },{ g := false },{ g := false },{ g := false }] [1,39,40,41,69] [.mp 0 0 0,v_2,v_3,.i l4_41,.bool true] ⟨[(0,b_0)],2⟩ _ (by kernel_rfl) (cjC (hc12) (cjC (hc12) (cjC (hc12) (cjC (hc12) (cjC (Eq.refl true) (cjC (Eq.refl true) (cjC (Eq.refl true) (cj1 (Eq.refl true))))))))) (kj6 true rfl)
          ·rcases iteE hj6 with ⟨hc13,hj6⟩ | ⟨hc13,hj6⟩
           ·replace hj6 := Option.some.inj hj6; subst hj6
            exact run1z (c104 70) [{},{},{},{},{},{},{},{ k := 1,b := false },{},{ g := false },{ g := false },{ g := false },{ g := false },{ k := 1,b := true }] [1,39,40,41,69] [.mp 0 0 0,v_2,v_3,.i l4_41,.bool true] ⟨[(0,b_0)],2⟩ _ (by kernel_rfl) (cjC (hc12) (cjC (hc12) (cjC (hc12) (cjC (hc12) (cjC (hc13) (cjC (hc13) (cjC (hc13) (cjC (hc13) (cj1 (hc13)))))))))) (kj6 true rfl)
           ·obtain ⟨r14,hr14,hj6⟩ := bindE hj6
            replace hj6 := Option.some.inj hj6; subst hj6
            exact run1z (c104 70) [{},{},{},{},{},{},{},{ k := 1,b := false },{},{},{},{ c := some (.i r14,s_0) },{},{ k := 1,b := false }] [1,39,40,41,69] [.mp 0 0 0,v_2,v_3,.i l4_41,.bool (decide (127 < r14))] ⟨[(0,b_0)],2⟩ _ (by kernel_rfl) (cjC (hc12) (cjC (hc12) (cjC (hc12) (cjC (hc12) (cjC (hc13) (cjC (hc13) (cjC (hc13) (cjC (f159_ok a0 y9 _ hr14 s_0) (cjC (hc13) (cj1 (hc13))))))))))) (kj6 (decide (127 < r14)) rfl)
         ·rintro _ rfl
          rcases iteE hl4 with ⟨hc15,hl4⟩ | ⟨hc15,hl4⟩
          ·refine run_cT 69 (c104 71) (c104 74) j6_69 hc15 (by kernel_rfl) (by kernel_rfl) ?_
           refine run1z (c104 73) [] [2] [.i 10] ⟨[],2⟩ _ (by kernel_rfl) cj0 ?_
           replace hl4 := Option.some.inj hl4; subst hl4
           have hr := rl4 _ rfl
           subst hr
           replace h := elimR h
           refine run_t (by kernel_rfl) ?_
           refine inbR ?_
           refine thenR ?_
           refine ⟨⟨_,rfl⟩,?_⟩
           refine inbR ?_
           refine thenR ?_
           replace h := Option.some.inj h; subst h
           exact fin_r (by kernel_rfl) rfl
          ·refine run_cF 69 (c104 71) (c104 74) j6_69 hc15 (by kernel_rfl) (by kernel_rfl) ?_
           refine run_k (by kernel_rfl) ?_
           refine inbN ?_
           refine thenN ?_
           refine run0z [] [1,39,40,41] [.mp 0 0 0,v_2,v_3,.i (wr (l4_41 + 1))] ⟨[(0,b_0)],2⟩ _ (by kernel_rfl) cj0 ?_
           replace hl4 := Option.some.inj hl4; subst hl4
           exact ⟨_,rfl,pi [],mkInto (ks := [1,39,40,41]) (ys := [.mp 0 0 0,v_2,v_3,.i (wr (l4_41 + 1))]) (by kernel_rfl) (by kernel_rfl) (.k (.mp rfl rfl) (.k (.c (cleanMap _ _ cl_GCourse)) (.k (.c rfl) (.k (.c rfl) .z)))) (.k rfl (.cells (.k (.c (cl_GInstrument a0)) .z)) .z)⟩
      ·refine run_cF 42 (c104 54) (c104 55) (decide (l4_41 < (a0.courses.length : Int))) hc8 (by kernel_rfl) (by kernel_rfl) ?_
       replace hl4 := Option.some.inj hl4; subst hl4
       have hr := rl4 _ rfl
       subst hr
       refine awp_p [] [] (zipE [] []) ⟨[],1⟩ (by kernel_rfl) (?_)
       refine run_e 2 (by kernel_rfl) ?_
       refine thenE ?_
       refine ⟨⟨_,rfl⟩,?_⟩
       refine inbE ?_
       exact kl4 () rfl
     ·rintro ⟨⟩ rfl
      replace h := elimL h
      refine thenN ?_
      refine run1z (c104 78) [] [2] [.i 0] ⟨[],1⟩ _ (by kernel_rfl) cj0 ?_
      refine run_t (by kernel_rfl) ?_
      replace h := Option.some.inj h; subst h
      exact fin_r (by kernel_rfl) rfl
def f76 (a0 : Int) (a1 : Int) (a2 : Int) : Option Bool := ((bif (decide (a1 ≤ a0)) then (some (decide (a0 ≤ a2))) else (some false)) : Option Bool).bind fun (j1_6 : Bool) => some j1_6
theorem f76_ok (a0 : Int) (a1 : Int) (a2 : Int) (r : Bool) (h : f76 a0 a1 a2 = some r) : APure Tryz.prog 76 [.i a0,.i a1,.i a2] (.bool r) := by
 refine apure (clK rfl (clK rfl (clK rfl clZ))) rfl ?_
 refine run_f 15 [.tmp 6] (c76 0) (zipE [0,1,2] [.i a0,.i a1,.i a2]) (by kernel_rfl) (by kernel_rfl) (by kernel_rfl) rfl ?_
 unfold f76 at h
 refine run1z (c76 2) [] [0,1,2] [.i a0,.i a1,.i a2] ⟨[],0⟩ _ (by kernel_rfl) cj0 ?_
 obtain ⟨j1_6,hj1,h⟩ := bindE h
 refine run_gq (c76 4) (fun (j1_6 : Bool) => (zipE [6] [.bool j1_6])) (fun (j1_6 : Bool) => ⟨[],0⟩) (fun j => j1_6 = j) (fun kj1 => ?_) ?_
 ·rcases iteE hj1 with ⟨hc1,hj1⟩ | ⟨hc1,hj1⟩
  ·replace hj1 := Option.some.inj hj1; subst hj1
   exact run1z (c76 4) [{},{},{},{},{},{},{},{ k := 1,b := true }] [6] [.bool (decide (a0 ≤ a2))] ⟨[],0⟩ _ (by kernel_rfl) (cjC (hc1) (cjC (hc1) (cjC (hc1) (cj1 (hc1))))) (kj1 (decide (a0 ≤ a2)) rfl)
  ·replace hj1 := Option.some.inj hj1; subst hj1
   exact run1z (c76 4) [{},{},{},{},{ g := false },{ g := false },{ g := false },{ k := 1,b := false }] [6] [.bool false] ⟨[],0⟩ _ (by kernel_rfl) (cjC (hc1) (cjC (hc1) (cjC (hc1) (cj1 (hc1))))) (kj1 false rfl)
 ·rintro _ rfl
  refine run_t (by kernel_rfl) ?_
  replace h := Option.some.inj h; subst h
  exact fin_r (by kernel_rfl) rfl
def f160 (a0 : List (List GTone)) (a1 : GInstrument) : Option Int := (f103 a0).bind fun r1 => bif (decide (r1 ≠ 0)) then (some r1) else ((f104 a1).bind fun r3 => some r3)
theorem f160_ok (a0 : List (List GTone)) (a1 : GInstrument) (r : Int) (h : f160 a0 a1 = some r) : APure Tryz.prog 160 [.sl false (a0.map (SL E_GTone)),E_GInstrument a1] (.i r) := by
 refine apure (clK (cleanMap a0 _ (cl_SL cl_GTone)) (clK (cl_GInstrument a1) clZ)) rfl ?_
 let v_0 : AV := .sl false (a0.map (SL E_GTone))
 refine run_f 13 [.tmp 4] (c160 0) (zipE [0,1] [v_0,E_GInstrument a1]) (by kernel_rfl) (by kernel_rfl) (by kernel_rfl) rfl ?_
 unfold f160 at h
 let b_0 : Blk := .cells 2 [E_GInstrument a1]
 refine run1z (c160 2) [] [0,3] [v_0,.mp 0 0 0] ⟨[(0,b_0)],1⟩ _ (by kernel_rfl) cj0 ?_
 refine run_s (c160 3) (c160 12) (by kernel_rfl) ?_
 obtain ⟨r1,hr1,h⟩ := bindE h
 refine run1z (c160 5) [{},{ c := some (.i r1,⟨[(0,b_0)],1⟩) }] [3,5] [.mp 0 0 0,.i r1] ⟨[(0,b_0)],1⟩ _ (by kernel_rfl) (cj1 (f103_ok a0 _ hr1 ⟨[(0,b_0)],1⟩)) ?_
 refine run1z (c160 7) [] [3,5,9] [.mp 0 0 0,.i r1,.bool (decide (r1 ≠ 0))] ⟨[(0,b_0)],1⟩ _ (by kernel_rfl) cj0 ?_
 rcases iteE h with ⟨hc2,h⟩ | ⟨hc2,h⟩
 ·refine run_cT 9 (c160 8) (c160 11) (decide (r1 ≠ 0)) hc2 (by kernel_rfl) (by kernel_rfl) ?_
  refine run1z (c160 10) [] [4] [.i r1] ⟨[],1⟩ _ (by kernel_rfl) cj0 ?_
  refine run_t (by kernel_rfl) ?_
  refine thenR ?_
  replace h := Option.some.inj h; subst h
  exact fin_r (by kernel_rfl) rfl
 ·refine run_cF 9 (c160 8) (c160 11) (decide (r1 ≠ 0)) hc2 (by kernel_rfl) (by kernel_rfl) ?_
  refine run_k (by kernel_rfl) ?_
  refine thenN ?_
  obtain ⟨r3,hr3,h⟩ := bindE h
  refine run1z (c160 14) [{},{ c := some (.i r3,⟨[(0,b_0)],1⟩) }] [4] [.i r3] ⟨[],1⟩ _ (by kernel_rfl) (cj1 (f104_ok a1 _ hr3 ⟨[(0,b_0)],1⟩)) ?_
  refine run_t (by kernel_rfl) ?_
  replace h := Option.some.inj h; subst h
  exact fin_r (by kernel_rfl) rfl
def f161 (a0 : Int) (a1 : Int) (a2 : Int) : Option Bool := ((bif (decide (a1 ≤ a0)) then (some (decide (a0 ≤ a2))) else (some false)) : Option Bool).bind fun (j1_6 : Bool) => some j1_6
theorem f161_ok (a0 : Int) (a1 : Int) (a2 : Int) (r : Bool) (h : f161 a0 a1 a2 = some r) : APure Tryz.prog 161 [.i a0,.i a1,.i a2] (.bool r) := by
 refine apure (clK rfl (clK rfl (clK rfl clZ))) rfl ?_
 refine run_f 15 [.tmp 6] (c161 0) (zipE [0,1,2] [.i a0,.i a1,.i a2]) (by kernel_rfl) (by kernel_rfl) (by kernel_rfl) rfl ?_
 unfold f161 at h
 refine run1z (c161 2) [] [0,1,2] [.i a0,.i a1,.i a2] ⟨[],0⟩ _ (by kernel_rfl) cj0 ?_
 obtain ⟨j1_6,hj1,h⟩ := bindE h
 refine run_gq (c161 4) (fun (j1_6 : Bool) => (zipE [6] [.bool j1_6])) (fun (j1_6 : Bool) => ⟨[],0⟩) (fun j => j1_6 = j) (fun kj1 => ?_) ?_
 ·rcases iteE hj1 with ⟨hc1,hj1⟩ | ⟨hc1,hj1⟩
  ·replace hj1 := Option.some.inj hj1; subst hj1
   exact run1z (c161 4) [{},{},{},{},{},{},{},{ k := 1,b := true }] [6] [.bool (decide (a0 ≤ a2))] ⟨[],0⟩ _ (by kernel_rfl) (cjC (hc1) (cjC (hc1) (cjC (hc1) (cj1 (hc1))))) (kj1 (decide (a0 ≤ a2)) rfl)
  ·replace hj1 := Option.some.inj hj1; subst hj1
   exact run1z (c161 4) [{},{},{},{},{ g := false },{ g := false },{ g := false },{ k := 1,b := false }] [6] [.bool false] ⟨[],0⟩ _ (by kernel_rfl) (cjC (hc1) (cjC (hc1) (cjC (hc1) (cj1 (hc1))))) (kj1 false rfl)
 ·rintro _ rfl
  refine run_t (by kernel_rfl) ?_
  replace h := Option.some.inj h; subst h
  exact fin_r (by kernel_rfl) rfl
def f204 (a0 : GInstrument) (a1 : GCourse) (a2 : Int) : Option Int := bif (decide (a2 = 0)) then (some a1.pitch) else ((ix a0.steps (wr (a2 - 1))).bind fun y2 => some (wr (a1.pitch + y2)))
theorem f204_ok (a0 : GInstrument) (a1 : GCourse) (a2 : Int) (r : Int) (h : f204 a0 a1 a2 = some r) : APure Tryz.prog 204 [E_GInstrument a0,E_GCourse a1,.i a2] (.i r) := by
 refine apure (clK (cl_GInstrument a0) (clK (cl_GCourse a1) (clK rfl clZ))) rfl ?_
 refine run_f 20 [.tmp 6] (c204 0) (zipE [0,1,2] [E_GInstrument a0,E_GCourse a1,.i a2]) (by kernel_rfl) (by kernel_rfl) (by kernel_rfl) rfl ?_
 unfold f204 at h
 let b_0 : Blk := .cells 2 [E_GInstrument a0]
 let s_0 : St := ⟨[(1,.cells 3 [E_GCourse a1]),(0,b_0)],2⟩
 refine run1z (c204 2) [] [2,3,4] [.i a2,.mp 0 0 0,.mp 1 0 0] s_0 _ (by kernel_rfl) cj0 ?_
 refine run_s (c204 3) (c204 10) (by kernel_rfl) ?_
 refine run1z (c204 5) [] [2,3,4,8] [.i a2,.mp 0 0 0,.mp 1 0 0,.bool (decide (a2 = 0))] s_0 _ (by kernel_rfl) cj0 ?_
 rcases iteE h with ⟨hc1,h⟩ | ⟨hc1,h⟩
 ·refine run_cT 8 (c204 6) (c204 9) (decide (a2 = 0)) hc1 (by kernel_rfl) (by kernel_rfl) ?_
  refine run1z (c204 8) [] [6] [.i a1.pitch] ⟨[],2⟩ _ (by kernel_rfl) cj0 ?_
  refine run_t (by kernel_rfl) ?_
  refine thenR ?_
  replace h := Option.some.inj h; subst h
  exact fin_r (by kernel_rfl) rfl
 ·refine run_cF 8 (c204 6) (c204 9) (decide (a2 = 0)) hc1 (by kernel_rfl) (by kernel_rfl) ?_
  refine run_k (by kernel_rfl) ?_
  refine thenN ?_
  obtain ⟨y2,hy2,h⟩ := bindE h
  refine yun1z (c204 12) [[],[0],[],[2],[],[4],[2,3,4,5],[2,3,4,5,6],[0,1,2,3,4,5,6,7],[0,1,2,3,4,5,6,7,8]] [.light 0 false,.light 1 false,.light 2 false,.light 3 false,.light 4 false,.light 5 false,.light 6 false,.light 7 false,.light 8 false,.light 9 false] [{},{},{},{},{},{},{ k := 1,x := AV.i y2 }] [6] [.i (wr (a1.pitch + y2))] ⟨[],2⟩ _ (by kernel_rfl) (cjC ((ixE hy2).1) (cj1 (mapGet AV.i (ixE hy2).2))) ?_
  refine run_t (by kernel_rfl) ?_
  replace h := Option.some.inj h; subst h
  exact fin_r (by kernel_rfl) rfl
def f197 (a0 : GInstrument) (a1 : Int) : Option (((List GPlace)) × Int) := (f104 a0).bind fun r1 => bif (decide (r1 ≠ 0)) then (some (([] : List GPlace),r1)) else (((bif (decide (a1 < 0)) then (some true) else (some (decide (127 < a1)))) : Option Bool).bind fun (j1_21 : Bool) => bif j1_21 then (some (([] : List GPlace),10)) else ((loopN (σ := (List GPlace × Int)) (τ := (List GPlace)) (fun ((l2_7,l2_25) : (List GPlace × Int)) => bif (decide (l2_25 < (a0.courses.length : Int))) then ((ix a0.courses l2_25).bind fun y6 => (loopN (σ := (List GPlace × Int)) (τ := (List GPlace)) (fun ((l3_7,l3_10) : (List GPlace × Int)) => bif (decide (l3_10 ≤ y6.frets)) then ((((f204 a0 y6 l3_10).bind fun r8 => bif (decide (r8 = a1)) then (need (l3_7.length + 1 ≤ maxElems) <| some (l3_7 ++ [(⟨(wr (l2_25 + 1)),l3_10⟩ : GPlace)])) else (some l3_7)) : Option (List GPlace)).bind fun (j4_7 : (List GPlace)) => some (.inl (j4_7,(wr (l3_10 + 1))))) else (some (.inr l3_7))) FUEL (l2_7,0)).bind fun (l3x_7 : (List GPlace)) => some (.inl (l3x_7,(wr (l2_25 + 1))))) else (some (.inr l2_7))) FUEL (([] : List GPlace),0)).bind fun (l2x_7 : (List GPlace)) => some (l2x_7,0)))
theorem f197_ok (a0 : GInstrument) (a1 : Int) (r : (((List GPlace)) × Int)) (h : f197 a0 a1 = some r) : APure Tryz.prog 197 [E_GInstrument a0,.i a1] (.tup [.sl false (r.1.map E_GPlace),.i r.2]) := by
 refine apure (clK (cl_GInstrument a0) (clK rfl clZ)) (clK (cleanMap r.1 _ cl_GPlace) (clK rfl clZ)) ?_
 refine run_f 51 [.tmp 4,.tmp 5] (c197 0) (zipE [0,1] [E_GInstrument a0,.i a1]) (by kernel_rfl) (by kernel_rfl) (by kernel_rfl) rfl ?_
 unfold f197 at h
 let b_0 : Blk := .cells 2 [E_GInstrument a0]
 refine run1z (c197 2) [] [1,2] [.i a1,.mp 0 0 0] ⟨[(0,b_0)],1⟩ _ (by kernel_rfl) cj0 ?_
 refine run_s (c197 3) (c197 12) (by kernel_rfl) ?_
 obtain ⟨r1,hr1,h⟩ := bindE h
 refine run1z (c197 5) [{},{ c := some (.i r1,⟨[(0,b_0)],1⟩) }] [1,2,6] [.i a1,.mp 0 0 0,.i r1] ⟨[(0,b_0)],1⟩ _ (by kernel_rfl) (cj1 (f104_ok a0 _ hr1 ⟨[(0,b_0)],1⟩)) ?_
 refine run1z (c197 7) [] [1,2,6,14] [.i a1,.mp 0 0 0,.i r1,.bool (decide (r1 ≠ 0))] ⟨[(0,b_0)],1⟩ _ (by kernel_rfl) cj0 ?_
 rcases iteE h with ⟨hc2,h⟩ | ⟨hc2,h⟩
 ·refine run_cT 14 (c197 8) (c197 11) (decide (r1 ≠ 0)) hc2 (by kernel_rfl) (by kernel_rfl) ?_
  refine run1z (c197 10) [] [4,5] [.sl true [],.i r1] ⟨[],1⟩ _ (by kernel_rfl) cj0 ?_
  refine run_i 1 [] [4,5] [.sl true [],.i r1] (xs := [.sl false (([] : List GPlace).map E_GPlace),.i r1]) (S2 := ⟨[],1⟩) ?_ (by intro i e; cases e <;> exact Nat.le_of_ble_eq_true rfl) (by kernel_rfl) (by kernel_rfl) (by kernel_rfl) (.k (.s (cleanMap (([] : List GPlace)) _ cl_GPlace)) (.k (.c rfl) .z)) .z
  refine run_t (by kernel_rfl) ?_
  refine thenR ?_
  replace h := Option.some.inj h; subst h
  exact fin_r (by kernel_rfl) rfl
 ·refine run_cF 14 (c197 8) (c197 11) (decide (r1 ≠ 0)) hc2 (by kernel_rfl) (by kernel_rfl) ?_
  refine run_k (by kernel_rfl) ?_
  refine thenN ?_
  refine run_s (c197 13) (c197 20) (by kernel_rfl) ?_
  obtain ⟨j1_21,hj1,h⟩ := bindE h
  refine run_gq (c197 15) (fun (j1_21 : Bool) => (zipE [1,2,21] [.i a1,.mp 0 0 0,.bool j1_21])) (fun (j1_21 : Bool) => ⟨[(0,b_0)],1⟩) (fun j => j1_21 = j) (fun kj1 => ?_) ?_
  ·rcases iteE hj1 with ⟨hc3,hj1⟩ | ⟨hc3,hj1⟩
   ·replace hj1 := Option.some.inj hj1; subst hj1
    exact run1z (c197 15) [{},{},{},{ g := false },{ g := false },{ k := 1,b := true }] [1,2,21] [.i a1,.mp 0 0 0,.bool true] ⟨[(0,b_0)],1⟩ _ (by kernel_rfl) (cjC (hc3) (cjC (hc3) (cj1 (hc3)))) (kj1 true rfl)
   ·replace hj1 := Option.some.inj hj1; subst hj1
    exact run1z (c197 15) [{},{},{},{},{},{ k := 1,b := false }] [1,2,21] [.i a1,.mp 0 0 0,.bool (decide (127 < a1))] ⟨[(0,b_0)],1⟩ _ (by kernel_rfl) (cjC (hc3) (cjC (hc3) (cj1 (hc3)))) (kj1 (decide (127 < a1)) rfl)
  ·rintro _ rfl
   rcases iteE h with ⟨hc4,h⟩ | ⟨hc4,h⟩
   ·refine run_cT 21 (c197 16) (c197 19) j1_21 hc4 (by kernel_rfl) (by kernel_rfl) ?_
    refine run1z (c197 18) [] [4,5] [.sl true [],.i 10] ⟨[],1⟩ _ (by kernel_rfl) cj0 ?_
    refine run_i 1 [] [4,5] [.sl true [],.i 10] (xs := [.sl false (([] : List GPlace).map E_GPlace),.i 10]) (S2 := ⟨[],1⟩) ?_ (by intro i e; cases e <;> exact Nat.le_of_ble_eq_true rfl) (by kernel_rfl) (by kernel_rfl) (by kernel_rfl) (.k (.s (cleanMap (([] : List GPlace)) _ cl_GPlace)) (.k (.c rfl) .z)) .z
    refine run_t (by kernel_rfl) ?_
    refine thenR ?_
    replace h := Option.some.inj h; subst h
    exact fin_r (by kernel_rfl) rfl
   ·refine run_cF 21 (c197 16) (c197 19) j1_21 hc4 (by kernel_rfl) (by kernel_rfl) ?_
    refine run_k (by kernel_rfl) ?_
    refine thenN ?_
    refine run1z (c197 22) [] [1,2,7] [.i a1,.mp 0 0 0,.sl true []] ⟨[(0,b_0)],1⟩ _ (by kernel_rfl) cj0 ?_
    refine run_s (c197 23) (c197 56) (by kernel_rfl) ?_
    let v_0 : AV := .sl false (a0.courses.map E_GCourse)
    let v_1 : AV := .i (a0.courses.length : Int)
    refine run1z (c197 25) [{},{},{ k := 1,n := a0.courses.length }] [1,2,7,23,24,25] [.i a1,.mp 0 0 0,.sl true [],v_0,v_1,.i 0] ⟨[(0,b_0)],1⟩ _ (by kernel_rfl) (cj1 (mapLen a0.courses E_GCourse)) ?_
    obtain ⟨l2x_7,hll2x,h⟩ := bindE h
    refine run_tq (fun (l2x_7 : (List GPlace)) => (zipE [7] [.ms 1 0 l2x_7.length])) (fun (l2x_7 : (List GPlace)) => ⟨[(1,.cells 2 (l2x_7.map E_GPlace))],2⟩) (fun j => l2x_7 = j) (fun kl2 => ?_) ?_
    ·refine run_b 0 (c197 26) (by kernel_rfl) ?_
     refine run_l (c197 27) _ hll2x (fun ((l2_7,l2_25) : (List GPlace × Int)) => (zipE [1,2,7,23,24,25] [.i a1,.mp 0 0 0,.ms 1 0 l2_7.length,v_0,v_1,.i l2_25])) (fun ((l2_7,l2_25) : (List GPlace × Int)) => ⟨[(1,.cells 2 (l2_7.map E_GPlace)),(0,b_0)],2⟩) [(1,1000000)] (by intro i e; cases e <;> exact Nat.le_of_ble_eq_true rfl) (by kernel_rfl) (mkInto (ks := [1,2,7,23,24,25]) (ys := [.i a1,.mp 0 0 0,.sl true [],v_0,v_1,.i 0]) (by kernel_rfl) (by kernel_rfl) (.k (.c rfl) (.k (.mp rfl rfl) (.k (.n) (.k (.c (cleanMap _ _ cl_GCourse)) (.k (.c rfl) (.k (.c rfl) .z)))))) (.n rfl rfl rfl (.k rfl (.cells (.k (.c (cl_GInstrument a0)) .z)) .z))) ?_
     rintro ⟨l2_7,l2_25⟩ out hl2 rl2
     let v_2 : AV := .ms 1 0 l2_7.length
     let b_1 : Blk := .cells 2 (l2_7.map E_GPlace)
     refine run1z (c197 29) [] [1,2,7,23,24,25,26] [.i a1,.mp 0 0 0,v_2,v_0,v_1,.i l2_25,.bool (decide (l2_25 < (a0.courses.length : Int)))] ⟨[(1,b_1),(0,b_0)],2⟩ _ (by kernel_rfl) cj0 ?_
     refine run_s (c197 30) (c197 33) (by kernel_rfl) ?_
     rcases iteE hl2 with ⟨hc5,hl2⟩ | ⟨hc5,hl2⟩
     ·refine run_cT 26 (c197 31) (c197 32) (decide (l2_25 < (a0.courses.length : Int))) hc5 (by kernel_rfl) (by kernel_rfl) ?_
      refine run_k (by kernel_rfl) ?_
      refine thenN ?_
      refine run_s (c197 34) (c197 55) (by kernel_rfl) ?_
      refine run_b 1 (c197 35) (by kernel_rfl) ?_
      obtain ⟨y6,hy6,hl2⟩ := bindE hl2
      let b_2 : Blk := .cells 3 [E_GCourse y6]
      refine run1z (c197 37) [{},{ k := 1,x := E_GCourse y6 }] [1,2,7,8,9,23,24,25] [.i a1,.mp 0 0 0,v_2,.i l2_25,.mp 2 0 0,v_0,v_1,.i l2_25] ⟨[(2,b_2),(1,b_1),(0,b_0)],3⟩ _ (by kernel_rfl) (cjC ((ixE hy6).1) (cj1 (mapGet E_GCourse (ixE hy6).2))) ?_
      refine run1z (c197 39) [] [1,2,7,8,9,10,23,24,25] [.i a1,.mp 0 0 0,v_2,.i l2_25,.mp 2 0 0,.i 0,v_0,v_1,.i l2_25] ⟨[(2,b_2),(1,b_1),(0,b_0)],3⟩ _ (by kernel_rfl) cj0 ?_
      obtain ⟨l3x_7,hll3x,hl2⟩ := bindE hl2
      refine run_tq (fun (l3x_7 : (List GPlace)) => (zipE [1,2,7,23,24,25] [.i a1,.mp 0 0 0,.ms 3 0 l3x_7.length,v_0,v_1,.i l2_25])) (fun (l3x_7 : (List GPlace)) => ⟨[(3,.cells 2 (l3x_7.map E_GPlace)),(0,b_0)],4⟩) (fun j => l3x_7 = j) (fun kl3 => ?_) ?_
      ·refine run_b 2 (c197 40) (by kernel_rfl) ?_
       refine run_l (c197 41) _ hll3x (fun ((l3_7,l3_10) : (List GPlace × Int)) => (zipE [1,2,7,8,9,10,23,24,25] [.i a1,.mp 0 0 0,.ms 3 0 l3_7.length,.i l2_25,.mp 2 0 0,.i l3_10,v_0,v_1,.i l2_25])) (fun ((l3_7,l3_10) : (List GPlace × Int)) => ⟨[(3,.cells 2 (l3_7.map E_GPlace)),(2,b_2),(0,b_0)],4⟩) [(3,1)] (by intro i e; cases e <;> exact Nat.le_of_ble_eq_true rfl) (by kernel_rfl) (mkInto (ks := [1,2,7,8,9,10,23,24,25]) (ys := [.i a1,.mp 0 0 0,v_2,.i l2_25,.mp 2 0 0,.i 0,v_0,v_1,.i l2_25]) (by kernel_rfl) (by kernel_rfl) (.k (.c rfl) (.k (.mp rfl rfl) (.k (.ms rfl rfl) (.k (.c rfl) (.k (.mp rfl rfl) (.k (.c rfl) (.k (.c (cleanMap _ _ cl_GCourse)) (.k (.c rfl) (.k (.c rfl) .z))))))))) (.k rfl (.cells (.r (cleanMap _ _ cl_GPlace))) (.k rfl (.cells (.k (.c (cl_GCourse y6)) .z)) (.k rfl (.cells (.k (.c (cl_GInstrument a0)) .z)) .z)))) ?_
       rintro ⟨l3_7,l3_10⟩ out hl3 rl3
       refine run_s (c197 42) (c197 47) (by kernel_rfl) ?_
       let v_3 : AV := .ms 3 0 l3_7.length
       let b_3 : Blk := .cells 2 (l3_7.map E_GPlace)
       let s_0 : St := ⟨[(3,b_3),(2,b_2),(0,b_0)],4⟩
       refine run1z (c197 44) [] [1,2,7,8,9,10,23,24,25,33] [.i a1,.mp 0 0 0,v_3,.i l2_25,.mp 2 0 0,.i l3_10,v_0,v_1,.i l2_25,.bool (decide (l3_10 ≤ y6.frets))] s_0 _ (by kernel_rfl) cj0 ?_
       rcases iteE hl3 with ⟨hc7,hl3⟩ | ⟨hc7,hl3⟩
       ·refine run_cT 33 (c197 45) (c197 46) (decide (l3_10 ≤ y6.frets)) hc7 (by kernel_rfl) (by kernel_rfl) ?_
        refine run_k (by kernel_rfl) ?_
        refine thenN ?_
        obtain ⟨j4_7,hj4,hl3⟩ := bindE hl3
        refine run_jq (c197 48) (c197 54) (fun (j4_7 : (List GPlace)) => (zipE [1,2,7,8,9,10,23,24,25] [.i a1,.mp 0 0 0,.ms 5 0 j4_7.length,.i l2_25,.mp 2 0 0,.i l3_10,v_0,v_1,.i l2_25])) (fun (j4_7 : (List GPlace)) => ⟨[(5,.cells 2 (j4_7.map E_GPlace)),(2,b_2),(0,b_0)],6⟩) (fun j => j4_7 = j) (by kernel_rfl) (fun kj4 => ?_) ?_
        ·refine run_b 3 (c197 49) (by kernel_rfl) ?_
         obtain ⟨r8,hr8,hj4⟩ := bindE hj4
         refine run1z (c197 51) [{},{},{},{ c := some (.i r8,s_0) }] [1,2,7,8,9,10,23,24,25,41] [.i a1,.mp 0 0 0,v_3,.i l2_25,.mp 2 0 0,.i l3_10,v_0,v_1,.i l2_25,.bool (decide (r8 = a1))] s_0 _ (by kernel_rfl) (cj1 (f204_ok a0 y6 l3_10 _ hr8 s_0)) ?_
         rcases iteE hj4 with ⟨hc9,hj4⟩ | ⟨hc9,hj4⟩
         ·refine run_cT 41 (c197 52) (c197 53) (decide (r8 = a1)) hc9 (by kernel_rfl) (by kernel_rfl) ?_
          obtain ⟨hn10,hj4⟩ := needE hj4
          let b_4 : Blk := .cells 2 ((l3_7 ++ [(⟨(wr (l2_25 + 1)),l3_10⟩ : GPlace)]).map E_GPlace)
          refine run0z [{},{},{},{},{},{},{ k := 1,n := (l3_7 ++ [(⟨(wr (l2_25 + 1)),l3_10⟩ : GPlace)]).length,l := (l3_7 ++ [(⟨(wr (l2_25 + 1)),l3_10⟩ : GPlace)]).map E_GPlace }] [1,2,7,8,9,10,23,24,25] [.i a1,.mp 0 0 0,.ms 4 0 (l3_7 ++ [(⟨(wr (l2_25 + 1)),l3_10⟩ : GPlace)]).length,.i l2_25,.mp 2 0 0,.i l3_10,v_0,v_1,.i l2_25] ⟨[(4,b_4),(2,b_2),(0,b_0)],5⟩ _ (by kernel_rfl) (cjC (@List.cons_ne_nil AV (.agg [.i (wr (l2_25 + 1)),.i l3_10]) []) (cjC (mLe l3_7 E_GPlace) (cjC (hn10) (cjC (lenA l3_7 ([(⟨(wr (l2_25 + 1)),l3_10⟩ : GPlace)] : List GPlace)) (cjC (appA l3_7 ([(⟨(wr (l2_25 + 1)),l3_10⟩ : GPlace)] : List GPlace) E_GPlace) (cj1 (fitsOne (P := Tryz.prog) (t := 187) (x := .agg [.i (wr (l2_25 + 1)),.i l3_10]) (r := []) (by kernel_rfl)))))))) ?_
          replace hj4 := Option.some.inj hj4; subst hj4
          refine inbN ?_
          refine thenN ?_
          exact run_i 5 [(5,4)] [1,2,7,8,9,10,23,24,25] [.i a1,.mp 0 0 0,.ms 4 0 (l3_7 ++ [(⟨(wr (l2_25 + 1)),l3_10⟩ : GPlace)]).length,.i l2_25,.mp 2 0 0,.i l3_10,v_0,v_1,.i l2_25] (kj4 (l3_7 ++ [(⟨(wr (l2_25 + 1)),l3_10⟩ : GPlace)]) rfl) (by intro i e; cases e <;> exact Nat.le_of_ble_eq_true rfl) (by kernel_rfl) (by kernel_rfl) (by kernel_rfl) (.k (.c rfl) (.k (.mp rfl rfl) (.k (.ms rfl rfl) (.k (.c rfl) (.k (.mp rfl rfl) (.k (.c rfl) (.k (.c (cleanMap _ _ cl_GCourse)) (.k (.c rfl) (.k (.c rfl) .z))))))))) (.k (x' := b_4) (by kernel_rfl) (.cells (.r (cleanMap _ _ cl_GPlace))) (.k rfl (.cells (.k (.c (cl_GCourse y6)) .z)) (.k rfl (.cells (.k (.c (cl_GInstrument a0)) .z)) .z)))
         ·refine run_cF 41 (c197 52) (c197 53) (decide (r8 = a1)) hc9 (by kernel_rfl) (by kernel_rfl) ?_
          replace hj4 := Option.some.inj hj4; subst hj4
          refine run_i 5 [(5,3)] [1,2,7,8,9,10,23,24,25] [.i a1,.mp 0 0 0,v_3,.i l2_25,.mp 2 0 0,.i l3_10,v_0,v_1,.i l2_25] (xs := [.i a1,.mp 0 0 0,.ms 5 0 l3_7.length,.i l2_25,.mp 2 0 0,.i l3_10,v_0,v_1,.i l2_25]) (S2 := ⟨[(5,b_3),(2,b_2),(0,b_0)],6⟩) ?_ (by intro i e; cases e <;> exact Nat.le_of_ble_eq_true rfl) (by kernel_rfl) (by kernel_rfl) (by kernel_rfl) (.k (.c rfl) (.k (.mp rfl rfl) (.k (.ms rfl rfl) (.k (.c rfl) (.k (.mp rfl rfl) (.k (.c rfl) (.k (.c (cleanMap _ _ cl_GCourse)) (.k (.c rfl) (.k (.c rfl) .z))))))))) (.k rfl (.cells (.r (cleanMap _ _ cl_GPlace))) (.k rfl (.cells (.k (.c (cl_GCourse y6)) .z)) (.k rfl (.cells (.k (.c (cl_GInstrument a0)) .z)) .z)))
          refine run_k (by kernel_rfl) ?_
          refine inbN ?_
          refine thenN ?_
          exact kj4 l3_7 rfl
        ·rintro _ rfl
         refine run0z [] [1,2,7,8,9,10,23,24,25] [.i a1,.mp 0 0 0,.ms 5 0 j4_7.length,.i l2_25,.mp 2 0 0,.i (wr (l3_10 + 1)),v_0,v_1,.i l2_25] ⟨[(5,.cells 2 (j4_7.map E_GPlace)),(2,b_2),(0,b_0)],6⟩ _ (by kernel_rfl) cj0 ?_
         replace hl3 := Option.some.inj hl3; subst hl3
         exact ⟨_,rfl,pi [(3,5)],mkInto (ks := [1,2,7,8,9,10,23,24,25]) (ys := [.i a1,.mp 0 0 0,.ms 5 0 j4_7.length,.i l2_25,.mp 2 0 0,.i (wr (l3_10 + 1)),v_0,v_1,.i l2_25]) (by kernel_rfl) (by kernel_rfl) (.k (.c rfl) (.k (.mp rfl rfl) (.k (.ms rfl rfl) (.k (.c rfl) (.k (.mp rfl rfl) (.k (.c rfl) (.k (.c (cleanMap _ _ cl_GCourse)) (.k (.c rfl) (.k (.c rfl) .z))))))))) (.k rfl (.cells (.r (cleanMap _ _ cl_GPlace))) (.k rfl (.cells (.k (.c (cl_GCourse y6)) .z)) (.k rfl (.cells (.k (.c (cl_GInstrument a0)) .z)) .z)))⟩
       ·refine run_cF 33 (c197 45) (c197 46) (decide (l3_10 ≤ y6.frets)) hc7 (by kernel_rfl) (by kernel_rfl) ?_
        replace hl3 := Option.some.inj hl3; subst hl3
        have hr := rl3 _ rfl
        subst hr
        refine awp_p [1,2,7,23,24,25] [3,0] (zipE [1,2,7,23,24,25] [.i a1,.mp 0 0 0,v_3,v_0,v_1,.i l2_25]) ⟨[(3,b_3),(0,b_0)],4⟩ (by kernel_rfl) (?_)
        refine run_e 2 (by kernel_rfl) ?_
        refine thenE ?_
        refine ⟨⟨_,rfl⟩,?_⟩
        refine inbE ?_
        exact kl3 l3_7 rfl
      ·rintro _ rfl
       refine inbN ?_
       refine thenN ?_
       refine run0z [] [1,2,7,23,24,25] [.i a1,.mp 0 0 0,.ms 3 0 l3x_7.length,v_0,v_1,.i (wr (l2_25 + 1))] ⟨[(3,.cells 2 (l3x_7.map E_GPlace)),(0,b_0)],4⟩ _ (by kernel_rfl) cj0 ?_
       replace hl2 := Option.some.inj hl2; subst hl2
       exact ⟨_,rfl,pi [(1,3)],mkInto (ks := [1,2,7,23,24,25]) (ys := [.i a1,.mp 0 0 0,.ms 3 0 l3x_7.length,v_0,v_1,.i (wr (l2_25 + 1))]) (by kernel_rfl) (by kernel_rfl) (.k (.c rfl) (.k (.mp rfl rfl) (.k (.ms rfl rfl) (.k (.c (cleanMap _ _ cl_GCourse)) (.k (.c rfl) (.k (.c rfl) .z)))))) (.k rfl (.cells (.r (cleanMap _ _ cl_GPlace))) (.k rfl (.cells (.k (.c (cl_GInstrument a0)) .z)) .z))⟩
     ·refine run_cF 26 (c197 31) (c197 32) (decide (l2_25 < (a0.courses.length : Int))) hc5 (by kernel_rfl) (by kernel_rfl) ?_
      replace hl2 := Option.some.inj hl2; subst hl2
      have hr := rl2 _ rfl
      subst hr
      refine awp_p [7] [1] (zipE [7] [v_2]) ⟨[(1,b_1)],2⟩ (by kernel_rfl) (?_)
      refine run_e 0 (by kernel_rfl) ?_
      refine thenE ?_
      refine ⟨⟨_,rfl⟩,?_⟩
      refine inbE ?_
      exact kl2 l2_7 rfl
    ·rintro _ rfl
     refine thenN ?_
     refine run1z (c197 58) [] [4,5] [.ms 1 0 l2x_7.length,.i 0] ⟨[(1,.cells 2 (l2x_7.map E_GPlace))],2⟩ _ (by kernel_rfl) cj0 ?_
     refine run_z 1 2 (l2x_7.map E_GPlace) [4,5] [.ms 1 0 l2x_7.length,.i 0] (xs := [.sl false (l2x_7.map E_GPlace),.i 0]) (S2 := ⟨[],2⟩) ?_ (by kernel_rfl) (by kernel_rfl) (.k (.m (mLe l2x_7 E_GPlace) (mapAll l2x_7 E_GPlace)) (.k (.r _) .z)) .z rfl rfl
     refine run_t (by kernel_rfl) ?_
     replace h := Option.some.inj h; subst h
     exact fin_r (by kernel_rfl) rfl
def f162 (a0 : List (List GTone)) (a1 : GInstrument) (a2 : Int) : Option Int := (loopN (σ := (Int × Int)) (τ := Int) (fun ((l1_6,l1_15) : (Int × Int)) => bif (decide (l1_15 < (a0.length : Int))) then ((ix a0 l1_15).bind fun y2 => (loopN (σ := (Int × Int)) (τ := Int) (fun ((l2_6,l2_21) : (Int × Int)) => bif (decide (l2_21 < (y2.length : Int))) then ((((ix y2 l2_21).bind fun y4 => (f197 a1 (wr (y4.pitch + a2))).bind fun r5 => ((bif (decide (r5.2 ≠ 0)) then (some true) else (some (decide ((r5.1.length : Int) = 0)))) : Option Bool).bind fun (j4_40 : Bool) => bif j4_40 then (some (wr (l2_6 + 1))) else (some l2_6)) : Option Int).bind fun (j3_6 : Int) => some (.inl (j3_6,(wr (l2_21 + 1))))) else (some (.inr l2_6))) FUEL (l1_6,0)).bind fun (l2x_6 : Int) => some (.inl (l2x_6,(wr (l1_15 + 1))))) else (some (.inr l1_6))) FUEL (0,0)).bind fun (l1x_6 : Int) => some l1x_6
theorem f162_ok (a0 : List (List GTone)) (a1 : GInstrument) (a2 : Int) (r : Int) (h : f162 a0 a1 a2 = some r) : APure Tryz.prog 162 [.sl false (a0.map (SL E_GTone)),E_GInstrument a1,.i a2] (.i r) := by
 refine apure (clK (cleanMap a0 _ (cl_SL cl_GTone)) (clK (cl_GInstrument a1) (clK rfl clZ))) rfl ?_
 let v_0 : AV := .sl false (a0.map (SL E_GTone))
 refine run_f 46 [.tmp 6] (c162 0) (zipE [0,1,2] [v_0,E_GInstrument a1,.i a2]) (by kernel_rfl) (by kernel_rfl) (by kernel_rfl) rfl ?_
 unfold f162 at h
 let b_0 : Blk := .cells 2 [E_GInstrument a1]
 refine run1z (c162 2) [] [0,2,4,6] [v_0,.i a2,.mp 0 0 0,.i 0] ⟨[(0,b_0)],1⟩ _ (by kernel_rfl) cj0 ?_
 refine run_s (c162 3) (c162 40) (by kernel_rfl) ?_
 let v_1 : AV := .i (a0.length : Int)
 refine run1z (c162 5) [{},{ k := 1,n := a0.length }] [2,4,6,13,14,15] [.i a2,.mp 0 0 0,.i 0,v_0,v_1,.i 0] ⟨[(0,b_0)],1⟩ _ (by kernel_rfl) (cj1 (mapLen a0 (SL E_GTone))) ?_
 obtain ⟨l1x_6,hll1x,h⟩ := bindE h
 refine run_tq (fun (l1x_6 : Int) => (zipE [6] [.i l1x_6])) (fun (l1x_6 : Int) => ⟨[],1⟩) (fun j => l1x_6 = j) (fun kl1 => ?_) ?_
 ·refine run_b 0 (c162 6) (by kernel_rfl) ?_
  refine run_l (c162 7) _ hll1x (fun ((l1_6,l1_15) : (Int × Int)) => (zipE [2,4,6,13,14,15] [.i a2,.mp 0 0 0,.i l1_6,v_0,v_1,.i l1_15])) (fun ((l1_6,l1_15) : (Int × Int)) => ⟨[(0,b_0)],1⟩) [] (by intro i e; cases e <;> exact Nat.le_of_ble_eq_true rfl) (by kernel_rfl) (mkInto (ks := [2,4,6,13,14,15]) (ys := [.i a2,.mp 0 0 0,.i 0,v_0,v_1,.i 0]) (by kernel_rfl) (by kernel_rfl) (.k (.c rfl) (.k (.mp rfl rfl) (.k (.c rfl) (.k (.c (cleanMap _ _ (cl_SL cl_GTone))) (.k (.c rfl) (.k (.c rfl) .z)))))) (.k rfl (.cells (.k (.c (cl_GInstrument a1)) .z)) .z)) ?_
  rintro ⟨l1_6,l1_15⟩ out hl1 rl1
  refine run1z (c162 9) [] [2,4,6,13,14,15,16] [.i a2,.mp 0 0 0,.i l1_6,v_0,v_1,.i l1_15,.bool (decide (l1_15 < (a0.length : Int)))] ⟨[(0,b_0)],1⟩ _ (by kernel_rfl) cj0 ?_
  refine run_s (c162 10) (c162 13) (by kernel_rfl) ?_
  rcases iteE hl1 with ⟨hc1,hl1⟩ | ⟨hc1,hl1⟩
  ·refine run_cT 16 (c162 11) (c162 12) (decide (l1_15 < (a0.length : Int))) hc1 (by kernel_rfl) (by kernel_rfl) ?_
   refine run_k (by kernel_rfl) ?_
   refine thenN ?_
   refine run_s (c162 14) (c162 39) (by kernel_rfl) ?_
   refine run_b 1 (c162 15) (by kernel_rfl) ?_
   obtain ⟨y2,hy2,hl1⟩ := bindE hl1
   let v_2 : AV := .sl false (y2.map E_GTone)
   refine run1z (c162 17) [{ k := 1,x := (SL E_GTone) y2 }] [2,4,6,8,13,14,15] [.i a2,.mp 0 0 0,.i l1_6,v_2,v_0,v_1,.i l1_15] ⟨[(0,b_0)],1⟩ _ (by kernel_rfl) (cjC ((ixE hy2).1) (cj1 (mapGet (SL E_GTone) (ixE hy2).2))) ?_
   let v_3 : AV := .i (y2.length : Int)
   refine run1z (c162 19) [{},{ k := 1,n := y2.length }] [2,4,6,13,14,15,19,20,21] [.i a2,.mp 0 0 0,.i l1_6,v_0,v_1,.i l1_15,v_2,v_3,.i 0] ⟨[(0,b_0)],1⟩ _ (by kernel_rfl) (cj1 (mapLen y2 E_GTone)) ?_
   obtain ⟨l2x_6,hll2x,hl1⟩ := bindE hl1
   refine run_tq (fun (l2x_6 : Int) => (zipE [2,4,6,13,14,15] [.i a2,.mp 0 0 0,.i l2x_6,v_0,v_1,.i l1_15])) (fun (l2x_6 : Int) => ⟨[(0,b_0)],1⟩) (fun j => l2x_6 = j) (fun kl2 => ?_) ?_
   ·refine run_b 2 (c162 20) (by kernel_rfl) ?_
    refine run_l (c162 21) _ hll2x (fun ((l2_6,l2_21) : (Int × Int)) => (zipE [2,4,6,13,14,15,19,20,21] [.i a2,.mp 0 0 0,.i l2_6,v_0,v_1,.i l1_15,v_2,v_3,.i l2_21])) (fun ((l2_6,l2_21) : (Int × Int)) => ⟨[(0,b_0)],1⟩) [] (by intro i e; cases e <;> exact Nat.le_of_ble_eq_true rfl) (by kernel_rfl) (mkInto (ks := [2,4,6,13,14,15,19,20,21]) (ys := [.i a2,.mp 0 0 0,.i l1_6,v_0,v_1,.i l1_15,v_2,v_3,.i 0]) (by kernel_rfl) (by kernel_rfl) (.k (.c rfl) (.k (.mp rfl rfl) (.k (.c rfl) (.k (.c (cleanMap _ _ (cl_SL cl_GTone))) (.k (.c rfl) (.k (.c rfl) (.k (.c (cleanMap _ _ cl_GTone)) (.k (.c rfl) (.k (.c rfl) .z))))))))) (.k rfl (.cells (.k (.c (cl_GInstrument a1)) .z)) .z)) ?_
    rintro ⟨l2_6,l2_21⟩ out hl2 rl2
    refine run1z (c162 23) [] [2,4,6,13,14,15,19,20,21,22] [.i a2,.mp 0 0 0,.i l2_6,v_0,v_1,.i l1_15,v_2,v_3,.i l2_21,.bool (decide (l2_21 < (y2.length : Int)))] ⟨[(0,b_0)],1⟩ _ (by kernel_rfl) cj0 ?_
    refine run_s (c162 24) (c162 27) (by kernel_rfl) ?_
    rcases iteE hl2 with ⟨hc3,hl2⟩ | ⟨hc3,hl2⟩
    ·refine run_cT 22 (c162 25) (c162 26) (decide (l2_21 < (y2.length : Int))) hc3 (by kernel_rfl) (by kernel_rfl) ?_
     refine run_k (by kernel_rfl) ?_
     refine thenN ?_
     obtain ⟨j3_6,hj3,hl2⟩ := bindE hl2
     refine run_jq (c162 28) (c162 38) (fun (j3_6 : Int) => (zipE [2,4,6,13,14,15,19,20,21] [.i a2,.mp 0 0 0,.i j3_6,v_0,v_1,.i l1_15,v_2,v_3,.i l2_21])) (fun (j3_6 : Int) => ⟨[(0,b_0)],2⟩) (fun j => j3_6 = j) (by kernel_rfl) (fun kj3 => ?_) ?_
     ·refine run_b 3 (c162 29) (by kernel_rfl) ?_
      obtain ⟨y4,hy4,hj3⟩ := bindE hj3
      let b_1 : Blk := .cells 3 [E_GTone y4]
      let s_0 : St := ⟨[(1,b_1),(0,b_0)],2⟩
      refine run1z (c162 31) [{ k := 1,x := E_GTone y4 }] [2,4,6,10,13,14,15,19,20,21] [.i a2,.mp 0 0 0,.i l2_6,.mp 1 0 0,v_0,v_1,.i l1_15,v_2,v_3,.i l2_21] s_0 _ (by kernel_rfl) (cjC ((ixE hy4).1) (cj1 (mapGet E_GTone (ixE hy4).2))) ?_
      obtain ⟨r5,hr5,hj3⟩ := bindE hj3
      refine run1z (c162 33) [{},{},{},{},{},{ c := some (.tup [.sl false (r5.1.map E_GPlace),.i r5.2],s_0) }] [2,4,6,11,12,13,14,15,19,20,21] [.i a2,.mp 0 0 0,.i l2_6,.sl false (r5.1.map E_GPlace),.i r5.2,v_0,v_1,.i l1_15,v_2,v_3,.i l2_21] ⟨[(0,b_0)],2⟩ _ (by kernel_rfl) (cj1 (f197_ok a1 (wr (y4.pitch + a2)) _ hr5 s_0)) ?_
      obtain ⟨j4_40,hj4,hj3⟩ := bindE hj3
      refine run_gq (c162 35) (fun (j4_40 : Bool) => (zipE [2,4,6,13,14,15,19,20,21,40] [.i a2,.mp 0 0 0,.i l2_6,v_0,v_1,.i l1_15,v_2,v_3,.i l2_21,.bool j4_40])) (fun (j4_40 : Bool) => ⟨[(0,b_0)],2⟩) (fun j => j4_40 = j) (fun kj4 => ?_) ?_
      ·rcases iteE hj4 with ⟨hc6,hj4⟩ | ⟨hc6,hj4⟩
       ·replace hj4 := Option.some.inj hj4; subst hj4
        exact run1z (c162 35) [{},{},{},{ g := false },{ g := false },{ g := false },{ k := 1,b := true }] [2,4,6,13,14,15,19,20,21,40] [.i a2,.mp 0 0 0,.i l2_6,v_0,v_1,.i l1_15,v_2,v_3,.i l2_21,.bool true] ⟨[(0,b_0)],2⟩ _ (by kernel_rfl) (cjC (hc6) (cjC (hc6) (cjC (hc6) (cj1 (hc6))))) (kj4 true rfl)
       ·replace hj4 := Option.some.inj hj4; subst hj4
        exact run1z (c162 35) [{},{},{},{},{ k := 1,n := r5.1.length },{},{ k := 1,b := false }] [2,4,6,13,14,15,19,20,21,40] [.i a2,.mp 0 0 0,.i l2_6,v_0,v_1,.i l1_15,v_2,v_3,.i l2_21,.bool (decide ((r5.1.length : Int) = 0))] ⟨[(0,b_0)],2⟩ _ (by kernel_rfl) (cjC (hc6) (cjC (hc6) (cjC (mapLen r5.1 E_GPlace) (cjC (hc6) (cj1 (hc6)))))) (kj4 (decide ((r5.1.length : Int) = 0)) rfl)
      ·rintro _ rfl
       rcases iteE hj3 with ⟨hc7,hj3⟩ | ⟨hc7,hj3⟩
       ·refine run_cT 40 (c162 36) (c162 37) j4_40 hc7 (by kernel_rfl) (by kernel_rfl) ?_
        refine run0z [] [2,4,6,13,14,15,19,20,21] [.i a2,.mp 0 0 0,.i (wr (l2_6 + 1)),v_0,v_1,.i l1_15,v_2,v_3,.i l2_21] ⟨[(0,b_0)],2⟩ _ (by kernel_rfl) cj0 ?_
        replace hj3 := Option.some.inj hj3; subst hj3
        refine inbN ?_
        refine thenN ?_
        exact kj3 (wr (l2_6 + 1)) rfl
       ·refine run_cF 40 (c162 36) (c162 37) j4_40 hc7 (by kernel_rfl) (by kernel_rfl) ?_
        replace hj3 := Option.some.inj hj3; subst hj3
        refine awp_p [2,4,6,13,14,15,19,20,21] [0] (zipE [2,4,6,13,14,15,19,20,21] [.i a2,.mp 0 0 0,.i l2_6,v_0,v_1,.i l1_15,v_2,v_3,.i l2_21]) ⟨[(0,b_0)],2⟩ (by kernel_rfl) (?_)
        refine run_k (by kernel_rfl) ?_
        refine inbN ?_
        refine thenN ?_
        exact kj3 l2_6 rfl
     ·rintro _ rfl
      refine run0z [] [2,4,6,13,14,15,19,20,21] [.i a2,.mp 0 0 0,.i j3_6,v_0,v_1,.i l1_15,v_2,v_3,.i (wr (l2_21 + 1))] ⟨[(0,b_0)],2⟩ _ (by kernel_rfl) cj0 ?_
      replace hl2 := Option.some.inj hl2; subst hl2
      exact ⟨_,rfl,pi [],mkInto (ks := [2,4,6,13,14,15,19,20,21]) (ys := [.i a2,.mp 0 0 0,.i j3_6,v_0,v_1,.i l1_15,v_2,v_3,.i (wr (l2_21 + 1))]) (by kernel_rfl) (by kernel_rfl) (.k (.c rfl) (.k (.mp rfl rfl) (.k (.c rfl) (.k (.c (cleanMap _ _ (cl_SL cl_GTone))) (.k (.c rfl) (.k (.c rfl) (.k (.c (cleanMap _ _ cl_GTone)) (.k (.c rfl) (.k (.c rfl) .z))))))))) (.k rfl (.cells (.k (.c (cl_GInstrument a1)) .z)) .z)⟩
    ·refine run_cF 22 (c162 25) (c162 26) (decide (l2_21 < (y2.length : Int))) hc3 (by kernel_rfl) (by kernel_rfl) ?_
     replace hl2 := Option.some.inj hl2; subst hl2
     have hr := rl2 _ rfl
     subst hr
     refine awp_p [2,4,6,13,14,15] [0] (zipE [2,4,6,13,14,15] [.i a2,.mp 0 0 0,.i l2_6,v_0,v_1,.i l1_15]) ⟨[(0,b_0)],1⟩ (by kernel_rfl) (?_)
     refine run_e 2 (by kernel_rfl) ?_
     refine thenE ?_
     refine ⟨⟨_,rfl⟩,?_⟩
     refine inbE ?_
     exact kl2 l2_6 rfl
   ·rintro _ rfl
    refine inbN ?_
    refine thenN ?_
    refine run0z [] [2,4,6,13,14,15] [.i a2,.mp 0 0 0,.i l2x_6,v_0,v_1,.i (wr (l1_15 + 1))] ⟨[(0,b_0)],1⟩ _ (by kernel_rfl) cj0 ?_
    replace hl1 := Option.some.inj hl1; subst hl1
    exact ⟨_,rfl,pi [],mkInto (ks := [2,4,6,13,14,15]) (ys := [.i a2,.mp 0 0 0,.i l2x_6,v_0,v_1,.i (wr (l1_15 + 1))]) (by kernel_rfl) (by kernel_rfl) (.k (.c rfl) (.k (.mp rfl rfl) (.k (.c rfl) (.k (.c (cleanMap _ _ (cl_SL cl_GTone))) (.k (.c rfl) (.k (.c rfl) .z)))))) (.k rfl (.cells (.k (.c (cl_GInstrument a1)) .z)) .z)⟩
  ·refine run_cF 16 (c162 11) (c162 12) (decide (l1_15 < (a0.length : Int))) hc1 (by kernel_rfl) (by kernel_rfl) ?_
   replace hl1 := Option.some.inj hl1; subst hl1
   have hr := rl1 _ rfl
   subst hr
   refine awp_p [6] [] (zipE [6] [.i l1_6]) ⟨[],1⟩ (by kernel_rfl) (?_)
   refine run_e 0 (by kernel_rfl) ?_
   refine thenE ?_
   refine ⟨⟨_,rfl⟩,?_⟩
   refine inbE ?_
   exact kl1 l1_6 rfl
 ·rintro _ rfl
  refine thenN ?_
  refine run1z (c162 42) [] [6] [.i l1x_6] ⟨[],1⟩ _ (by kernel_rfl) cj0 ?_
  refine run_t (by kernel_rfl) ?_
  replace h := Option.some.inj h; subst h
  exact fin_r (by kernel_rfl) rfl
def f105 (a0 : List (List GTone)) (a1 : GInstrument) (a2 : Int) : Option (Int × Int) := (f160 a0 a1).bind fun r1 => bif (decide (r1 ≠ 0)) then (some (0,r1)) else ((f161 a2 (-24) 24).bind fun r3 => bif (!r3) then (some (0,1)) else ((f162 a0 a1 a2).bind fun r5 => some (r5,0)))
theorem f105_ok (a0 : List (List GTone)) (a1 : GInstrument) (a2 : Int) (r : (Int × Int)) (h : f105 a0 a1 a2 = some r) : APure Tryz.prog 105 [.sl false (a0.map (SL E_GTone)),E_GInstrument a1,.i a2] (.tup [.i r.1,.i r.2]) := by
 refine apure (clK (cleanMap a0 _ (cl_SL cl_GTone)) (clK (cl_GInstrument a1) (clK rfl clZ))) (clK rfl (clK rfl clZ)) ?_
 let v_0 : AV := .sl false (a0.map (SL E_GTone))
 refine run_f 22 [.tmp 6,.tmp 7] (c105 0) (zipE [0,1,2] [v_0,E_GInstrument a1,.i a2]) (by kernel_rfl) (by kernel_rfl) (by kernel_rfl) rfl ?_
 unfold f105 at h
 let b_0 : Blk := .cells 2 [E_GInstrument a1]
 refine run1z (c105 2) [] [0,2,4] [v_0,.i a2,.mp 0 0 0] ⟨[(0,b_0)],1⟩ _ (by kernel_rfl) cj0 ?_
 refine run_s (c105 3) (c105 12) (by kernel_rfl) ?_
 obtain ⟨r1,hr1,h⟩ := bindE h
 refine run1z (c105 5) [{},{},{ c := some (.i r1,⟨[(0,b_0)],1⟩) }] [0,2,4,8] [v_0,.i a2,.mp 0 0 0,.i r1] ⟨[(0,b_0)],1⟩ _ (by kernel_rfl) (cj1 (f160_ok a0 a1 _ hr1 ⟨[(0,b_0)],1⟩)) ?_
 refine run1z (c105 7) [] [0,2,4,8,13] [v_0,.i a2,.mp 0 0 0,.i r1,.bool (decide (r1 ≠ 0))] ⟨[(0,b_0)],1⟩ _ (by kernel_rfl) cj0 ?_
 rcases iteE h with ⟨hc2,h⟩ | ⟨hc2,h⟩
 ·refine run_cT 13 (c105 8) (c105 11) (decide (r1 ≠ 0)) hc2 (by kernel_rfl) (by kernel_rfl) ?_
  refine run1z (c105 10) [] [6,7] [.i 0,.i r1] ⟨[],1⟩ _ (by kernel_rfl) cj0 ?_
  refine run_t (by kernel_rfl) ?_
  refine thenR ?_
  replace h := Option.some.inj h; subst h
  exact fin_r (by kernel_rfl) rfl
 ·refine run_cF 13 (c105 8) (c105 11) (decide (r1 ≠ 0)) hc2 (by kernel_rfl) (by kernel_rfl) ?_
  refine run_k (by kernel_rfl) ?_
  refine thenN ?_
  refine run_s (c105 13) (c105 20) (by kernel_rfl) ?_
  obtain ⟨r3,hr3,h⟩ := bindE h
  refine run1z (c105 15) [{},{ c := some (.bool r3,⟨[(0,b_0)],1⟩) }] [0,2,4,17] [v_0,.i a2,.mp 0 0 0,.bool (!r3)] ⟨[(0,b_0)],1⟩ _ (by kernel_rfl) (cj1 (f161_ok a2 (-24) 24 _ hr3 ⟨[(0,b_0)],1⟩)) ?_
  rcases iteE h with ⟨hc4,h⟩ | ⟨hc4,h⟩
  ·refine run_cT 17 (c105 16) (c105 19) (!r3) hc4 (by kernel_rfl) (by kernel_rfl) ?_
   refine run1z (c105 18) [] [6,7] [.i 0,.i 1] ⟨[],1⟩ _ (by kernel_rfl) cj0 ?_
   refine run_t (by kernel_rfl) ?_
   refine thenR ?_
   replace h := Option.some.inj h; subst h
   exact fin_r (by kernel_rfl) rfl
  ·refine run_cF 17 (c105 16) (c105 19) (!r3) hc4 (by kernel_rfl) (by kernel_rfl) ?_
   refine run_k (by kernel_rfl) ?_
   refine thenN ?_
   obtain ⟨r5,hr5,h⟩ := bindE h
   refine run1z (c105 22) [{},{},{},{ c := some (.i r5,⟨[(0,b_0)],1⟩) }] [6,7] [.i r5,.i 0] ⟨[],1⟩ _ (by kernel_rfl) (cj1 (f162_ok a0 a1 a2 _ hr5 ⟨[(0,b_0)],1⟩)) ?_
   refine run_t (by kernel_rfl) ?_
   replace h := Option.some.inj h; subst h
   exact fin_r (by kernel_rfl) rfl
def f163 (a0 : List Int) (a1 : Int) : Option (List Int) := repL a0 a1
theorem f163_ok (a0 : List Int) (a1 : Int) (r : List Int) (h : f163 a0 a1 = some r) : ACalls Tryz.prog 163 [.sl false (a0.map AV.i),.i a1] ⟨[],0⟩ (fun y t => y = .ms 0 0 r.length ∧ t = ⟨[(0,.cells 1 (r.map AV.i))],1⟩) := rep_calls a0 a1 r h
def f132 (a0 : List Int) : Option (List Int) := ((bif (decide (a0 = [])) then (some ([] : List Int)) else (need (a0.length ≤ maxElems) <| some a0)) : Option (List Int)).bind fun (j1_2 : (List Int)) => some j1_2
theorem f132_ok (a0 : List Int) (r : (List Int)) (h : f132 a0 = some r) : ACalls Tryz.prog 132 [.ms 0 0 a0.length] ⟨[(0,.cells 1 (a0.map AV.i))],1⟩ (fun y t => y = .ms 3 0 r.length ∧ t = ⟨[(3,.cells 1 (r.map AV.i)),(0,.cells 1 (a0.map AV.i))],4⟩) := by
 let v_0 : AV := .ms 0 0 a0.length
 refine run_f 8 [.tmp 2] (c132 0) (zipE [0] [v_0]) (by kernel_rfl) (by kernel_rfl) (by kernel_rfl) rfl ?_
 unfold f132 at h
 let b_0 : Blk := .cells 1 (a0.map AV.i)
 refine run1z (c132 2) [] [0] [v_0] ⟨[(0,b_0)],1⟩ _ (by kernel_rfl) cj0 ?_
 refine run_s (c132 3) (c132 10) (by kernel_rfl) ?_
 refine run_nl (c132 5) (some 4) (zipE [0,3] [v_0,v_0]) (.ms 0 0 a0.length) (by kernel_rfl) ?_
 rintro (_ | _) hb
 ·clear hb
  refine awp_p [0,4] [0] (zipE [0,4] [v_0,.bool false]) ⟨[(0,b_0)],1⟩ (by kernel_rfl) ?_
  refine run_cF 4 (c132 6) (c132 9) false rfl (by kernel_rfl) (by kernel_rfl) ?_
  refine run_k (by kernel_rfl) ?_
  refine thenN ?_
  obtain ⟨j1_2,hj1,h⟩ := bindE h
  refine run_gq (c132 12) (fun (j1_2 : (List Int)) => (zipE [2] [.ms 2 0 j1_2.length])) (fun (j1_2 : (List Int)) => ⟨[(2,.cells 1 (j1_2.map AV.i)),(0,b_0)],3⟩) (fun j => j1_2 = j) (fun kj1 => ?_) ?_
  ·rcases iteE hj1 with ⟨hc1,hj1⟩ | ⟨hc1,hj1⟩
   ·replace hj1 := Option.some.inj hj1; subst hj1
    exact run1z (c132 12) [{},{},{ k := 2 }] [2] [.sl true []] ⟨[(0,b_0)],1⟩ _ (by kernel_rfl) (cjC (mapNilM AV.i (of_decide_eq_true hc1)) (cj1 (mLe a0 AV.i))) (run_i 2 [(2,1000000)] [2] [.sl true []] (kj1 ([] : List Int) rfl) (by intro i e; cases e <;> exact Nat.le_of_ble_eq_true rfl) (by kernel_rfl) (by kernel_rfl) (by kernel_rfl) (.k (.n) .z) (.n rfl rfl rfl (.k rfl (.cells (.r (cleanMap _ _ cl_i))) .z)))
   ·obtain ⟨hn2,hj1⟩ := needE hj1
    replace hj1 := Option.some.inj hj1; subst hj1
    exact run1z (c132 12) [{},{},{ k := 1,n := a0.length,l := a0.map AV.i }] [2] [.ms 1 0 a0.length] ⟨[(1,b_0),(0,b_0)],2⟩ _ (by kernel_rfl) (cjC (mapNeM AV.i (of_decide_eq_false hc1)) (cjC (Eq.refl true) (cjC (bnd0M AV.i hn2) (cjC (fitsNil (P := Tryz.prog) (t := 3)) (cjC (len0M a0 AV.i) (cjC (app0M a0 AV.i) (cj1 (mLe a0 AV.i)))))))) (run_i 2 [(2,1)] [2] [.ms 1 0 a0.length] (kj1 a0 rfl) (by intro i e; cases e <;> exact Nat.le_of_ble_eq_true rfl) (by kernel_rfl) (by kernel_rfl) (by kernel_rfl) (.k (.ms rfl rfl) .z) (.k rfl (.cells (.r (cleanMap _ _ cl_i))) (.k rfl (.cells (.r (cleanMap _ _ cl_i))) .z)))
  ·rintro _ rfl
   let s_0 : St := ⟨[(3,.cells 1 (j1_2.map AV.i)),(0,b_0)],4⟩
   refine run_i 3 [(3,2)] [2] [.ms 2 0 j1_2.length] (xs := [.ms 3 0 j1_2.length]) (S2 := s_0) ?_ (by intro i e; cases e <;> exact Nat.le_of_ble_eq_true rfl) (by kernel_rfl) (by kernel_rfl) (by kernel_rfl) (.k (.ms rfl rfl) .z) (.k rfl (.cells (.r (cleanMap _ _ cl_i))) (.k rfl (.cells (.r (cleanMap _ _ cl_i))) .z))
   refine run_t (by kernel_rfl) ?_
   replace h := Option.some.inj h; subst h
   exact fin_p [3,0] s_0 (by kernel_rfl) (by kernel_rfl) rfl ⟨rfl,rfl⟩
 ·replace hb := nilMs (hb rfl)
  replace h : (some ([] : List Int)) = some r := by simpa [hb,need,maxElems] using h
  refine awp_p [0,4] [0] (zipE [0,4] [v_0,.bool true]) ⟨[(0,b_0)],1⟩ (by kernel_rfl) ?_
  refine run_cT 4 (c132 6) (c132 9) true rfl (by kernel_rfl) (by kernel_rfl) ?_
  refine run1z (c132 8) [] [2] [.sl true []] ⟨[(0,b_0)],1⟩ _ (by kernel_rfl) cj0 ?_
  let b_1 : Blk := .cells 1 (([] : List Int).map AV.i)
  refine run_i 1 [(3,1000000)] [2] [.sl true []] (xs := [.ms 3 0 ([] : List Int).length]) (S2 := ⟨[(3,b_1),(0,b_0)],4⟩) ?_ (by intro i e; cases e <;> exact Nat.le_of_ble_eq_true rfl) (by kernel_rfl) (by kernel_rfl) (by kernel_rfl) (.k (.n) .z) (.n rfl rfl rfl (.k rfl (.cells (.r (cleanMap _ _ cl_i))) .z))
  refine run_t (by kernel_rfl) ?_
  refine thenR ?_
  replace h := Option.some.inj h; subst h
  exact fin_p [3,0] ⟨[(3,b_1),(0,b_0)],4⟩ (by kernel_rfl) (by kernel_rfl) rfl ⟨rfl,rfl⟩
end Go.Proofs.YtodkhgjhodmeoaaGreat
