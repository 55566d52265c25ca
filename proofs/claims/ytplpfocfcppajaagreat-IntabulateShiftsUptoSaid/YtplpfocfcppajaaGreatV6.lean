/-
  Functions of the program as Lean functions, and the walks. Written by a program of ours.
-/
import Derived.Test.YtplpfocfcppajaaGreatAm31
import Derived.Test.YtplpfocfcppajaaGreatChecked
import Derived.Test.YtplpfocfcppajaaGreatWk
namespace Go.Proofs.YtplpfocfcppajaaGreat
open Go Go.Am
set_option maxRecDepth 100000
set_option linter.all false
structure GTone where
  pitch : Int
  from_ : Int
  to_ : Int
  deriving DecidableEq

def E_GTone (x : GTone) : AV := .agg [.i x.pitch, .i x.from_, .i x.to_]
theorem cl_GTone (x : GTone) : (E_GTone x).clean = true := (clK rfl (clK rfl (clK rfl clZ)))
theorem sz_GTone (x : GTone) : (E_GTone x).cells.length = 3 := rfl
def eq_GTone (x y : GTone) : Bool := ((decide (x.pitch = y.pitch)) && ((decide (x.from_ = y.from_)) && ((decide (x.to_ = y.to_)) && true)))

structure GFigure where
  interval : Int
  moves : (List Int)
  shares : (List Int)
  deriving DecidableEq

def E_GFigure (x : GFigure) : AV := .agg [.i x.interval, .sl false (x.moves.map AV.i), .sl false (x.shares.map AV.i)]
theorem cl_GFigure (x : GFigure) : (E_GFigure x).clean = true := (clK rfl (clK (cleanMap _ _ cl_i) (clK (cleanMap _ _ cl_i) clZ)))
theorem sz_GFigure (x : GFigure) : (E_GFigure x).cells.length = 3 := rfl

structure GCourse where
  pitch : Int
  frets : Int
  octave : Bool
  deriving DecidableEq

def E_GCourse (x : GCourse) : AV := .agg [.i x.pitch, .i x.frets, .bool x.octave]
theorem cl_GCourse (x : GCourse) : (E_GCourse x).clean = true := (clK rfl (clK rfl (clK rfl clZ)))
theorem sz_GCourse (x : GCourse) : (E_GCourse x).cells.length = 3 := rfl
def eq_GCourse (x y : GCourse) : Bool := ((decide (x.pitch = y.pitch)) && ((decide (x.frets = y.frets)) && ((x.octave == y.octave) && true)))

structure GInstrument where
  courses : (List GCourse)
  steps : (List Int)
  deriving DecidableEq

def E_GInstrument (x : GInstrument) : AV := .agg [.sl false (x.courses.map E_GCourse), .sl false (x.steps.map AV.i)]
theorem cl_GInstrument (x : GInstrument) : (E_GInstrument x).clean = true := (clK (cleanMap _ _ cl_GCourse) (clK (cleanMap _ _ cl_i) clZ))
theorem sz_GInstrument (x : GInstrument) : (E_GInstrument x).cells.length = 2 := rfl

structure GPlace where
  course : Int
  fret : Int
  deriving DecidableEq

def E_GPlace (x : GPlace) : AV := .agg [.i x.course, .i x.fret]
theorem cl_GPlace (x : GPlace) : (E_GPlace x).clean = true := (clK rfl (clK rfl clZ))
theorem sz_GPlace (x : GPlace) : (E_GPlace x).cells.length = 2 := rfl
def eq_GPlace (x y : GPlace) : Bool := ((decide (x.course = y.course)) && ((decide (x.fret = y.fret)) && true))

noncomputable def c48 (k : Nat) : Code := nthC (subs (Tryz.f48.body.getD .skip)) k
noncomputable def c56 (k : Nat) : Code := nthC (subs (Tryz.f56.body.getD .skip)) k
noncomputable def c25 (k : Nat) : Code := nthC (subs (Tryz.f25.body.getD .skip)) k
noncomputable def c57 (k : Nat) : Code := nthC (subs (Tryz.f57.body.getD .skip)) k
noncomputable def c26 (k : Nat) : Code := nthC (subs (Tryz.f26.body.getD .skip)) k
noncomputable def c70 (k : Nat) : Code := nthC (subs (Tryz.f70.body.getD .skip)) k
noncomputable def c100 (k : Nat) : Code := nthC (subs (Tryz.f100.body.getD .skip)) k
noncomputable def c69 (k : Nat) : Code := nthC (subs (Tryz.f69.body.getD .skip)) k
noncomputable def c71 (k : Nat) : Code := nthC (subs (Tryz.f71.body.getD .skip)) k
noncomputable def c36 (k : Nat) : Code := nthC (subs (Tryz.f36.body.getD .skip)) k
noncomputable def c58 (k : Nat) : Code := nthC (subs (Tryz.f58.body.getD .skip)) k
noncomputable def c95 (k : Nat) : Code := nthC (subs (Tryz.f95.body.getD .skip)) k
noncomputable def c97 (k : Nat) : Code := nthC (subs (Tryz.f97.body.getD .skip)) k
noncomputable def c124 (k : Nat) : Code := nthC (subs (Tryz.f124.body.getD .skip)) k
noncomputable def c96 (k : Nat) : Code := nthC (subs (Tryz.f96.body.getD .skip)) k
noncomputable def c59 (k : Nat) : Code := nthC (subs (Tryz.f59.body.getD .skip)) k
noncomputable def c27 (k : Nat) : Code := nthC (subs (Tryz.f27.body.getD .skip)) k
noncomputable def c72 (k : Nat) : Code := nthC (subs (Tryz.f72.body.getD .skip)) k
noncomputable def c38 (k : Nat) : Code := nthC (subs (Tryz.f38.body.getD .skip)) k
noncomputable def c60 (k : Nat) : Code := nthC (subs (Tryz.f60.body.getD .skip)) k
noncomputable def c98 (k : Nat) : Code := nthC (subs (Tryz.f98.body.getD .skip)) k
noncomputable def c61 (k : Nat) : Code := nthC (subs (Tryz.f61.body.getD .skip)) k
noncomputable def c28 (k : Nat) : Code := nthC (subs (Tryz.f28.body.getD .skip)) k
noncomputable def c18 (k : Nat) : Code := nthC (subs (Tryz.f18.body.getD .skip)) k
noncomputable def c6 (k : Nat) : Code := nthC (subs (Tryz.f6.body.getD .skip)) k

noncomputable def c53 (k : Nat) : Code := nthC (subs (Tryz.f53.body.getD .skip)) k
noncomputable def c94 (k : Nat) : Code := nthC (subs (Tryz.f94.body.getD .skip)) k
/-- theorbo.intabulate.within -/
def f48 (a0 : Int) (a1 : Int) (a2 : Int) : Option Bool := ((bif (decide (a1 ≤ a0)) then (some (decide (a0 ≤ a2))) else (some false)) : Option Bool).bind fun (j1_6 : Bool) => some j1_6
theorem f48_ok (a0 : Int) (a1 : Int) (a2 : Int) (r : Bool) (h : f48 a0 a1 a2 = some r) : APure Tryz.prog 48 [.i a0, .i a1, .i a2] (.bool r) := by
  refine apure (clK rfl (clK rfl (clK rfl clZ))) rfl ?_
  refine run_f 15 [.tmp 6] (c48 0) (zipE [0, 1, 2] [.i a0, .i a1, .i a2]) (by kernel_rfl) (by kernel_rfl) (by kernel_rfl) rfl ?_
  unfold f48 at h
  refine run1 (c48 2) [] [0, 1, 2] [] (zipE [0, 1, 2] [.i a0, .i a1, .i a2]) ⟨[], 0⟩ _ (by kernel_rfl) cj0 ?_
  obtain ⟨j1_6, hj1, h⟩ := bindE h
  refine run_gq (c48 4) (fun (j1_6 : Bool) => (zipE [6] [.bool j1_6])) (fun (j1_6 : Bool) => ⟨[], 0⟩) (fun j => j1_6 = j) (fun kj1 => ?_) ?_
  · rcases iteE hj1 with ⟨hc1, hj1⟩ | ⟨hc1, hj1⟩
    · replace hj1 := Option.some.inj hj1; subst hj1
      exact run1 (c48 4) [{}, {}, {}, {}, {}, {}, {}, { k := 1, b := true }] [6] [] (zipE [6] [.bool (decide (a0 ≤ a2))]) ⟨[], 0⟩ _ (by kernel_rfl) (cjC (hc1) (cjC (hc1) (cjC (hc1) (cj1 (hc1))))) (kj1 (decide (a0 ≤ a2)) rfl)
    · replace hj1 := Option.some.inj hj1; subst hj1
      exact run1 (c48 4) [{}, {}, {}, {}, { g := false }, { g := false }, { g := false }, { k := 1, b := false }] [6] [] (zipE [6] [.bool false]) ⟨[], 0⟩ _ (by kernel_rfl) (cjC (hc1) (cjC (hc1) (cjC (hc1) (cj1 (hc1))))) (kj1 false rfl)
  · rintro _ rfl
    refine run_t (by kernel_rfl) ?_
    replace h := Option.some.inj h; subst h
    exact fin_r (by kernel_rfl) rfl

/-- theorbo.intabulate.right -/
def f56 (a0 : GFigure) : Option Bool := (((f48 a0.interval (-24) 24).bind fun r1 => bif (!r1) then (some true) else ((f48 (a0.moves.length : Int) 1 32).bind fun r3 => bif (!r3) then (some true) else (bif (decide ((a0.shares.length : Int) ≠ (a0.moves.length : Int))) then (some true) else ((ix a0.moves 0).bind fun y6 => some (decide (y6 ≠ 0)))))) : Option Bool).bind fun (j1_30 : Bool) => bif j1_30 then (some false) else ((loopN (σ := Int) (τ := (Unit ⊕ Bool)) (fun (l2_34 : Int) => bif (decide (l2_34 < (a0.moves.length : Int))) then ((((ix a0.moves l2_34).bind fun y9 => (f48 y9 (-24) 24).bind fun r10 => bif (!r10) then (some true) else ((ix a0.shares l2_34).bind fun y12 => (f48 y12 1 64).bind fun r13 => some (!r13))) : Option Bool).bind fun (j3_52 : Bool) => bif j3_52 then (some (.inr (.inr false))) else (some (.inl (wr (l2_34 + 1))))) else (some (.inr (.inl ())))) FUEL 0).bind (Sum.elim (fun (_ : Unit) => some true) some))
theorem f56_ok (a0 : GFigure) (r : Bool) (h : f56 a0 = some r) : APure Tryz.prog 56 [E_GFigure a0] (.bool r) := by
  refine apure (clK (cl_GFigure a0) clZ) rfl ?_
  refine run_f 54 [.tmp 2] (c56 0) (zipE [0] [E_GFigure a0]) (by kernel_rfl) (by kernel_rfl) (by kernel_rfl) rfl ?_
  unfold f56 at h
  refine run1 (c56 2) [] [1] [0] (zipE [1] [.mp 0 0 0]) ⟨[(0, .cells 3 [E_GFigure a0])], 1⟩ _ (by kernel_rfl) cj0 ?_
  refine run_s (c56 3) (c56 10) (by kernel_rfl) ?_
  obtain ⟨j1_30, hj1, h⟩ := bindE h
  refine run_gq (c56 5) (fun (j1_30 : Bool) => (zipE [1, 30] [.mp 0 0 0, .bool j1_30])) (fun (j1_30 : Bool) => ⟨[(0, .cells 3 [E_GFigure a0])], 1⟩) (fun j => j1_30 = j) (fun kj1 => ?_) ?_
  · obtain ⟨r1, hr1, hj1⟩ := bindE hj1
    rcases iteE hj1 with ⟨hc2, hj1⟩ | ⟨hc2, hj1⟩
    · replace hj1 := Option.some.inj hj1; subst hj1
      exact run1 (c56 5) [{}, {}, { c := some (.bool r1, ⟨[(0, .cells 3 [E_GFigure a0])], 1⟩) }, {}, {}, { g := false }, { g := false }, { g := false }, { g := false }, { g := false }, { k := 1, b := true }, {}, { g := false }, { g := false }, { g := false }, { g := false }, { g := false }, { g := false }, { g := false }, {}, {}, { g := false }, { g := false }, { g := false }, { g := false }, { g := false }] [1, 30] [0] (zipE [1, 30] [.mp 0 0 0, .bool true]) ⟨[(0, .cells 3 [E_GFigure a0])], 1⟩ _ (by kernel_rfl) (cjC (f48_ok a0.interval (-24) 24 _ hr1 ⟨[(0, .cells 3 [E_GFigure a0])], 1⟩) (cjC (hc2) (cjC (hc2) (cjC (hc2) (cjC (hc2) (cjC (hc2) (cjC (hc2) (cjC (Eq.refl true) (cjC (Eq.refl true) (cjC (Eq.refl true) (cjC (Eq.refl true) (cjC (Eq.refl true) (cjC (Eq.refl true) (cjC (Eq.refl true) (cjC (Eq.refl true) (cjC (Eq.refl true) (cjC (Eq.refl true) (cjC (Eq.refl true) (cj1 (Eq.refl true)))))))))))))))))))) (kj1 true rfl)
    · obtain ⟨r3, hr3, hj1⟩ := bindE hj1
      rcases iteE hj1 with ⟨hc4, hj1⟩ | ⟨hc4, hj1⟩
      · replace hj1 := Option.some.inj hj1; subst hj1
        exact run1 (c56 5) [{}, {}, { c := some (.bool r1, ⟨[(0, .cells 3 [E_GFigure a0])], 1⟩) }, {}, {}, {}, {}, { k := 1, n := a0.moves.length }, { c := some (.bool r3, ⟨[(0, .cells 3 [E_GFigure a0])], 1⟩) }, {}, { k := 1, b := false }, {}, { g := false }, { g := false }, { g := false }, { g := false }, { g := false }, { g := false }, { g := false }, { k := 1, b := true }, {}, { g := false }, { g := false }, { g := false }, { g := false }, { g := false }] [1, 30] [0] (zipE [1, 30] [.mp 0 0 0, .bool true]) ⟨[(0, .cells 3 [E_GFigure a0])], 1⟩ _ (by kernel_rfl) (cjC (f48_ok a0.interval (-24) 24 _ hr1 ⟨[(0, .cells 3 [E_GFigure a0])], 1⟩) (cjC (hc2) (cjC (hc2) (cjC (hc2) (cjC (mapLen a0.moves AV.i) (cjC (hc2) (cjC (f48_ok (a0.moves.length : Int) 1 32 _ hr3 ⟨[(0, .cells 3 [E_GFigure a0])], 1⟩) (cjC (hc2) (cjC (hc2) (cjC (hc4) (cjC (hc4) (cjC (hc4) (cjC (hc4) (cjC (hc4) (cjC (hc4) (cjC (hc4) (cjC (hc4) (cjC (Eq.refl true) (cjC (Eq.refl true) (cjC (Eq.refl true) (cjC (Eq.refl true) (cj1 (Eq.refl true))))))))))))))))))))))) (kj1 true rfl)
      · rcases iteE hj1 with ⟨hc5, hj1⟩ | ⟨hc5, hj1⟩
        · replace hj1 := Option.some.inj hj1; subst hj1
          exact run1 (c56 5) [{}, {}, { c := some (.bool r1, ⟨[(0, .cells 3 [E_GFigure a0])], 1⟩) }, {}, {}, {}, {}, { k := 1, n := a0.moves.length }, { c := some (.bool r3, ⟨[(0, .cells 3 [E_GFigure a0])], 1⟩) }, {}, { k := 1, b := false }, {}, {}, {}, { k := 1, n := a0.shares.length }, {}, {}, { k := 1, n := a0.moves.length }, {}, { k := 1, b := false }, {}, { g := false }, { g := false }, { g := false }, { g := false }, { g := false }, { k := 1, b := true }] [1, 30] [0] (zipE [1, 30] [.mp 0 0 0, .bool true]) ⟨[(0, .cells 3 [E_GFigure a0])], 1⟩ _ (by kernel_rfl) (cjC (f48_ok a0.interval (-24) 24 _ hr1 ⟨[(0, .cells 3 [E_GFigure a0])], 1⟩) (cjC (hc2) (cjC (hc2) (cjC (hc2) (cjC (mapLen a0.moves AV.i) (cjC (hc2) (cjC (f48_ok (a0.moves.length : Int) 1 32 _ hr3 ⟨[(0, .cells 3 [E_GFigure a0])], 1⟩) (cjC (hc2) (cjC (hc2) (cjC (hc4) (cjC (hc4) (cjC (hc4) (cjC (mapLen a0.shares AV.i) (cjC (hc4) (cjC (hc4) (cjC (hc4) (cjC (mapLen a0.moves AV.i) (cjC (hc4) (cjC (hc4) (cjC (hc5) (cjC (hc5) (cjC (hc5) (cjC (hc5) (cjC (hc5) (cj1 (hc5)))))))))))))))))))))))))) (kj1 true rfl)
        · obtain ⟨y6, hy6, hj1⟩ := bindE hj1
          replace hj1 := Option.some.inj hj1; subst hj1
          exact run1 (c56 5) [{}, {}, { c := some (.bool r1, ⟨[(0, .cells 3 [E_GFigure a0])], 1⟩) }, {}, {}, {}, {}, { k := 1, n := a0.moves.length }, { c := some (.bool r3, ⟨[(0, .cells 3 [E_GFigure a0])], 1⟩) }, {}, { k := 1, b := false }, {}, {}, {}, { k := 1, n := a0.shares.length }, {}, {}, { k := 1, n := a0.moves.length }, {}, { k := 1, b := false }, {}, {}, {}, { k := 1, x := AV.i y6 }, {}, {}, { k := 1, b := false }] [1, 30] [0] (zipE [1, 30] [.mp 0 0 0, .bool (decide (y6 ≠ 0))]) ⟨[(0, .cells 3 [E_GFigure a0])], 1⟩ _ (by kernel_rfl) (cjC (f48_ok a0.interval (-24) 24 _ hr1 ⟨[(0, .cells 3 [E_GFigure a0])], 1⟩) (cjC (hc2) (cjC (hc2) (cjC (hc2) (cjC (mapLen a0.moves AV.i) (cjC (hc2) (cjC (f48_ok (a0.moves.length : Int) 1 32 _ hr3 ⟨[(0, .cells 3 [E_GFigure a0])], 1⟩) (cjC (hc2) (cjC (hc2) (cjC (hc4) (cjC (hc4) (cjC (hc4) (cjC (mapLen a0.shares AV.i) (cjC (hc4) (cjC (hc4) (cjC (hc4) (cjC (mapLen a0.moves AV.i) (cjC (hc4) (cjC (hc4) (cjC (hc5) (cjC (hc5) (cjC (hc5) (cjC ((ixE hy6).1) (cjC (mapGet AV.i (ixE hy6).2) (cjC (hc5) (cjC (hc5) (cj1 (hc5)))))))))))))))))))))))))))) (kj1 (decide (y6 ≠ 0)) rfl)
  · rintro _ rfl
    rcases iteE h with ⟨hc7, h⟩ | ⟨hc7, h⟩
    · refine run_cT 30 (c56 6) (c56 9) j1_30 hc7 (by kernel_rfl) (by kernel_rfl) ?_
      refine run1 (c56 8) [] [2] [] (zipE [2] [.bool false]) ⟨[], 1⟩ _ (by kernel_rfl) cj0 ?_
      refine run_t (by kernel_rfl) ?_
      refine thenR ?_
      replace h := Option.some.inj h; subst h
      exact fin_r (by kernel_rfl) rfl
    · refine run_cF 30 (c56 6) (c56 9) j1_30 hc7 (by kernel_rfl) (by kernel_rfl) ?_
      refine run_k (by kernel_rfl) ?_
      refine thenN ?_
      refine run_s (c56 11) (c56 33) (by kernel_rfl) ?_
      refine run1 (c56 13) [{}, {}, { k := 1, n := a0.moves.length }] [1, 33, 34] [0] (zipE [1, 33, 34] [.mp 0 0 0, .i (a0.moves.length : Int), .i 0]) ⟨[(0, .cells 3 [E_GFigure a0])], 1⟩ _ (by kernel_rfl) (cj1 (mapLen a0.moves AV.i)) ?_
      obtain ⟨ol2x, hll2x, h⟩ := bindE h
      refine run_tq (fun (_ : Unit) => (zipE [] [])) (fun (_ : Unit) => ⟨[], 1⟩) (fun j => ol2x = .inl j) (fun kl2 => ?_) ?_
      · refine run_b 0 (c56 14) (by kernel_rfl) ?_
        refine run_l (c56 15) _ hll2x (fun (l2_34 : Int) => (zipE [1, 33, 34] [.mp 0 0 0, .i (a0.moves.length : Int), .i l2_34])) (fun (l2_34 : Int) => ⟨[(0, .cells 3 [E_GFigure a0])], 1⟩) [] (by intro i e; cases e <;> exact Nat.le_of_ble_eq_true rfl) (by kernel_rfl) (mkInto (ks := [1, 33, 34]) (ys := [.mp 0 0 0, .i (a0.moves.length : Int), .i 0]) (by kernel_rfl) (by kernel_rfl) (.k (.mp rfl rfl) (.k (.c rfl) (.k (.c rfl) .z))) (.k (x' := .cells 3 [E_GFigure a0]) (by kernel_rfl) (.cells (.k (.c (cl_GFigure a0)) .z)) .z)) ?_
        rintro l2_34 out hl2 rl2
        refine run1 (c56 17) [] [1, 33, 34, 35] [0] (zipE [1, 33, 34, 35] [.mp 0 0 0, .i (a0.moves.length : Int), .i l2_34, .bool (decide (l2_34 < (a0.moves.length : Int)))]) ⟨[(0, .cells 3 [E_GFigure a0])], 1⟩ _ (by kernel_rfl) cj0 ?_
        refine run_s (c56 18) (c56 21) (by kernel_rfl) ?_
        rcases iteE hl2 with ⟨hc8, hl2⟩ | ⟨hc8, hl2⟩
        · refine run_cT 35 (c56 19) (c56 20) (decide (l2_34 < (a0.moves.length : Int))) hc8 (by kernel_rfl) (by kernel_rfl) ?_
          refine run_k (by kernel_rfl) ?_
          refine thenN ?_
          refine run_s (c56 22) (c56 32) (by kernel_rfl) ?_
          refine run_b 1 (c56 23) (by kernel_rfl) ?_
          refine run1 (c56 25) [] [1, 3, 33, 34] [0] (zipE [1, 3, 33, 34] [.mp 0 0 0, .i l2_34, .i (a0.moves.length : Int), .i l2_34]) ⟨[(0, .cells 3 [E_GFigure a0])], 1⟩ _ (by kernel_rfl) cj0 ?_
          obtain ⟨j3_52, hj3, hl2⟩ := bindE hl2
          refine run_gq (c56 27) (fun (j3_52 : Bool) => (zipE [1, 33, 34, 52] [.mp 0 0 0, .i (a0.moves.length : Int), .i l2_34, .bool j3_52])) (fun (j3_52 : Bool) => ⟨[(0, .cells 3 [E_GFigure a0])], 1⟩) (fun j => j3_52 = j) (fun kj3 => ?_) ?_
          · obtain ⟨y9, hy9, hj3⟩ := bindE hj3
            obtain ⟨r10, hr10, hj3⟩ := bindE hj3
            rcases iteE hj3 with ⟨hc11, hj3⟩ | ⟨hc11, hj3⟩
            · replace hj3 := Option.some.inj hj3; subst hj3
              exact run1 (c56 27) [{}, {}, {}, { k := 1, x := AV.i y9 }, {}, { c := some (.bool r10, ⟨[(0, .cells 3 [E_GFigure a0])], 1⟩) }, {}, {}, { g := false }, { g := false }, { g := false }, { g := false }, { g := false }, { g := false }, { g := false }, { k := 1, b := true }] [1, 33, 34, 52] [0] (zipE [1, 33, 34, 52] [.mp 0 0 0, .i (a0.moves.length : Int), .i l2_34, .bool true]) ⟨[(0, .cells 3 [E_GFigure a0])], 1⟩ _ (by kernel_rfl) (cjC ((ixE hy9).1) (cjC (mapGet AV.i (ixE hy9).2) (cjC (f48_ok y9 (-24) 24 _ hr10 ⟨[(0, .cells 3 [E_GFigure a0])], 1⟩) (cjC (hc11) (cjC (hc11) (cjC (hc11) (cjC (hc11) (cjC (hc11) (cjC (hc11) (cjC (hc11) (cj1 (hc11)))))))))))) (kj3 true rfl)
            · obtain ⟨y12, hy12, hj3⟩ := bindE hj3
              obtain ⟨r13, hr13, hj3⟩ := bindE hj3
              replace hj3 := Option.some.inj hj3; subst hj3
              exact run1 (c56 27) [{}, {}, {}, { k := 1, x := AV.i y9 }, {}, { c := some (.bool r10, ⟨[(0, .cells 3 [E_GFigure a0])], 1⟩) }, {}, {}, {}, {}, {}, { k := 1, x := AV.i y12 }, {}, { c := some (.bool r13, ⟨[(0, .cells 3 [E_GFigure a0])], 1⟩) }, {}, { k := 1, b := false }] [1, 33, 34, 52] [0] (zipE [1, 33, 34, 52] [.mp 0 0 0, .i (a0.moves.length : Int), .i l2_34, .bool (!r13)]) ⟨[(0, .cells 3 [E_GFigure a0])], 1⟩ _ (by kernel_rfl) (cjC ((ixE hy9).1) (cjC (mapGet AV.i (ixE hy9).2) (cjC (f48_ok y9 (-24) 24 _ hr10 ⟨[(0, .cells 3 [E_GFigure a0])], 1⟩) (cjC (hc11) (cjC (hc11) (cjC (hc11) (cjC (hc11) (cjC ((ixE hy12).1) (cjC (mapGet AV.i (ixE hy12).2) (cjC (hc11) (cjC (hc11) (cjC (f48_ok y12 1 64 _ hr13 ⟨[(0, .cells 3 [E_GFigure a0])], 1⟩) (cjC (hc11) (cj1 (hc11))))))))))))))) (kj3 (!r13) rfl)
          · rintro _ rfl
            rcases iteE hl2 with ⟨hc14, hl2⟩ | ⟨hc14, hl2⟩
            · refine run_cT 52 (c56 28) (c56 31) j3_52 hc14 (by kernel_rfl) (by kernel_rfl) ?_
              refine run1 (c56 30) [] [2] [] (zipE [2] [.bool false]) ⟨[], 1⟩ _ (by kernel_rfl) cj0 ?_
              replace hl2 := Option.some.inj hl2; subst hl2
              have hr := rl2 _ rfl
              subst hr
              replace h := elimR h
              refine run_t (by kernel_rfl) ?_
              refine inbR ?_
              refine thenR ?_
              refine ⟨⟨_, rfl⟩, ?_⟩
              refine inbR ?_
              refine thenR ?_
              replace h := Option.some.inj h; subst h
              exact fin_r (by kernel_rfl) rfl
            · refine run_cF 52 (c56 28) (c56 31) j3_52 hc14 (by kernel_rfl) (by kernel_rfl) ?_
              refine run_k (by kernel_rfl) ?_
              refine inbN ?_
              refine thenN ?_
              refine run0 [] [1, 33, 34] [0] (zipE [1, 33, 34] [.mp 0 0 0, .i (a0.moves.length : Int), .i (wr (l2_34 + 1))]) ⟨[(0, .cells 3 [E_GFigure a0])], 1⟩ _ (by kernel_rfl) cj0 ?_
              replace hl2 := Option.some.inj hl2; subst hl2
              exact ⟨_, rfl, pi [], mkInto (ks := [1, 33, 34]) (ys := [.mp 0 0 0, .i (a0.moves.length : Int), .i (wr (l2_34 + 1))]) (by kernel_rfl) (by kernel_rfl) (.k (.mp rfl rfl) (.k (.c rfl) (.k (.c rfl) .z))) (.k (x' := .cells 3 [E_GFigure a0]) (by kernel_rfl) (.cells (.k (.c (cl_GFigure a0)) .z)) .z)⟩
        · refine run_cF 35 (c56 19) (c56 20) (decide (l2_34 < (a0.moves.length : Int))) hc8 (by kernel_rfl) (by kernel_rfl) ?_
          replace hl2 := Option.some.inj hl2; subst hl2
          have hr := rl2 _ rfl
          subst hr
          refine awp_p [] [] (zipE [] []) ⟨[], 1⟩ (by kernel_rfl) (?_)
          refine run_e 0 (by kernel_rfl) ?_
          refine thenE ?_
          refine ⟨⟨_, rfl⟩, ?_⟩
          refine inbE ?_
          exact kl2 () rfl
      · rintro ⟨⟩ rfl
        replace h := elimL h
        refine thenN ?_
        refine run1 (c56 35) [] [2] [] (zipE [2] [.bool true]) ⟨[], 1⟩ _ (by kernel_rfl) cj0 ?_
        refine run_t (by kernel_rfl) ?_
        replace h := Option.some.inj h; subst h
        exact fin_r (by kernel_rfl) rfl

/-- theorbo.intabulate.CheckTable -/
def f25 (a0 : List GFigure) : Option Int := bif (decide (64 < (a0.length : Int))) then (some 2) else ((loopN (σ := Int) (τ := (Unit ⊕ Int)) (fun (l1_10 : Int) => bif (decide (l1_10 < (a0.length : Int))) then ((ix a0 l1_10).bind fun y3 => (f56 y3).bind fun r4 => bif (!r4) then (some (.inr (.inr 81))) else (some (.inl (wr (l1_10 + 1))))) else (some (.inr (.inl ())))) FUEL 0).bind (Sum.elim (fun (_ : Unit) => some 0) some))
theorem f25_ok (a0 : List GFigure) (r : Int) (h : f25 a0 = some r) : APure Tryz.prog 25 [.sl false (a0.map E_GFigure)] (.i r) := by
  refine apure (clK (cleanMap a0 _ cl_GFigure) clZ) rfl ?_
  refine run_f 18 [.tmp 2] (c25 0) (zipE [0] [.sl false (a0.map E_GFigure)]) (by kernel_rfl) (by kernel_rfl) (by kernel_rfl) rfl ?_
  unfold f25 at h
  refine run1 (c25 2) [] [0] [] (zipE [0] [.sl false (a0.map E_GFigure)]) ⟨[], 0⟩ _ (by kernel_rfl) cj0 ?_
  refine run_s (c25 3) (c25 10) (by kernel_rfl) ?_
  refine run1 (c25 5) [{}, { k := 1, n := a0.length }] [0, 7] [] (zipE [0, 7] [.sl false (a0.map E_GFigure), .bool (decide (64 < (a0.length : Int)))]) ⟨[], 0⟩ _ (by kernel_rfl) (cj1 (mapLen a0 E_GFigure)) ?_
  rcases iteE h with ⟨hc1, h⟩ | ⟨hc1, h⟩
  · refine run_cT 7 (c25 6) (c25 9) (decide (64 < (a0.length : Int))) hc1 (by kernel_rfl) (by kernel_rfl) ?_
    refine run1 (c25 8) [] [2] [] (zipE [2] [.i 2]) ⟨[], 0⟩ _ (by kernel_rfl) cj0 ?_
    refine run_t (by kernel_rfl) ?_
    refine thenR ?_
    replace h := Option.some.inj h; subst h
    exact fin_r (by kernel_rfl) rfl
  · refine run_cF 7 (c25 6) (c25 9) (decide (64 < (a0.length : Int))) hc1 (by kernel_rfl) (by kernel_rfl) ?_
    refine run_k (by kernel_rfl) ?_
    refine thenN ?_
    refine run_s (c25 11) (c25 33) (by kernel_rfl) ?_
    refine run1 (c25 13) [{}, { k := 1, n := a0.length }] [8, 9, 10] [] (zipE [8, 9, 10] [.sl false (a0.map E_GFigure), .i (a0.length : Int), .i 0]) ⟨[], 0⟩ _ (by kernel_rfl) (cj1 (mapLen a0 E_GFigure)) ?_
    obtain ⟨ol1x, hll1x, h⟩ := bindE h
    refine run_tq (fun (_ : Unit) => (zipE [] [])) (fun (_ : Unit) => ⟨[], 0⟩) (fun j => ol1x = .inl j) (fun kl1 => ?_) ?_
    · refine run_b 0 (c25 14) (by kernel_rfl) ?_
      refine run_l (c25 15) _ hll1x (fun (l1_10 : Int) => (zipE [8, 9, 10] [.sl false (a0.map E_GFigure), .i (a0.length : Int), .i l1_10])) (fun (l1_10 : Int) => ⟨[], 0⟩) [] (by intro i e; cases e <;> exact Nat.le_of_ble_eq_true rfl) (by kernel_rfl) (mkInto (ks := [8, 9, 10]) (ys := [.sl false (a0.map E_GFigure), .i (a0.length : Int), .i 0]) (by kernel_rfl) (by kernel_rfl) (.k (.c (cleanMap _ _ cl_GFigure)) (.k (.c rfl) (.k (.c rfl) .z))) .z) ?_
      rintro l1_10 out hl1 rl1
      refine run1 (c25 17) [] [8, 9, 10, 11] [] (zipE [8, 9, 10, 11] [.sl false (a0.map E_GFigure), .i (a0.length : Int), .i l1_10, .bool (decide (l1_10 < (a0.length : Int)))]) ⟨[], 0⟩ _ (by kernel_rfl) cj0 ?_
      refine run_s (c25 18) (c25 21) (by kernel_rfl) ?_
      rcases iteE hl1 with ⟨hc2, hl1⟩ | ⟨hc2, hl1⟩
      · refine run_cT 11 (c25 19) (c25 20) (decide (l1_10 < (a0.length : Int))) hc2 (by kernel_rfl) (by kernel_rfl) ?_
        refine run_k (by kernel_rfl) ?_
        refine thenN ?_
        refine run_s (c25 22) (c25 32) (by kernel_rfl) ?_
        refine run_b 1 (c25 23) (by kernel_rfl) ?_
        obtain ⟨y3, hy3, hl1⟩ := bindE hl1
        refine run1 (c25 25) [{ k := 1, x := E_GFigure y3 }] [4, 8, 9, 10] [0] (zipE [4, 8, 9, 10] [.mp 0 0 0, .sl false (a0.map E_GFigure), .i (a0.length : Int), .i l1_10]) ⟨[(0, .cells 3 [E_GFigure y3])], 1⟩ _ (by kernel_rfl) (cjC ((ixE hy3).1) (cj1 (mapGet E_GFigure (ixE hy3).2))) ?_
        obtain ⟨r4, hr4, hl1⟩ := bindE hl1
        refine run1 (c25 27) [{}, { c := some (.bool r4, ⟨[(0, .cells 3 [E_GFigure y3])], 1⟩) }] [8, 9, 10, 16] [] (zipE [8, 9, 10, 16] [.sl false (a0.map E_GFigure), .i (a0.length : Int), .i l1_10, .bool (!r4)]) ⟨[], 1⟩ _ (by kernel_rfl) (cj1 (f56_ok y3 _ hr4 ⟨[(0, .cells 3 [E_GFigure y3])], 1⟩)) ?_
        rcases iteE hl1 with ⟨hc5, hl1⟩ | ⟨hc5, hl1⟩
        · refine run_cT 16 (c25 28) (c25 31) (!r4) hc5 (by kernel_rfl) (by kernel_rfl) ?_
          refine run1 (c25 30) [] [2] [] (zipE [2] [.i 81]) ⟨[], 1⟩ _ (by kernel_rfl) cj0 ?_
          replace hl1 := Option.some.inj hl1; subst hl1
          have hr := rl1 _ rfl
          subst hr
          replace h := elimR h
          refine run_t (by kernel_rfl) ?_
          refine inbR ?_
          refine thenR ?_
          refine ⟨⟨_, rfl⟩, ?_⟩
          refine inbR ?_
          refine thenR ?_
          replace h := Option.some.inj h; subst h
          exact fin_r (by kernel_rfl) rfl
        · refine run_cF 16 (c25 28) (c25 31) (!r4) hc5 (by kernel_rfl) (by kernel_rfl) ?_
          refine run_k (by kernel_rfl) ?_
          refine inbN ?_
          refine thenN ?_
          refine run0 [] [8, 9, 10] [] (zipE [8, 9, 10] [.sl false (a0.map E_GFigure), .i (a0.length : Int), .i (wr (l1_10 + 1))]) ⟨[], 1⟩ _ (by kernel_rfl) cj0 ?_
          replace hl1 := Option.some.inj hl1; subst hl1
          exact ⟨_, rfl, pi [], mkInto (ks := [8, 9, 10]) (ys := [.sl false (a0.map E_GFigure), .i (a0.length : Int), .i (wr (l1_10 + 1))]) (by kernel_rfl) (by kernel_rfl) (.k (.c (cleanMap _ _ cl_GFigure)) (.k (.c rfl) (.k (.c rfl) .z))) .z⟩
      · refine run_cF 11 (c25 19) (c25 20) (decide (l1_10 < (a0.length : Int))) hc2 (by kernel_rfl) (by kernel_rfl) ?_
        replace hl1 := Option.some.inj hl1; subst hl1
        have hr := rl1 _ rfl
        subst hr
        refine awp_p [] [] (zipE [] []) ⟨[], 0⟩ (by kernel_rfl) (?_)
        refine run_e 0 (by kernel_rfl) ?_
        refine thenE ?_
        refine ⟨⟨_, rfl⟩, ?_⟩
        refine inbE ?_
        exact kl1 () rfl
    · rintro ⟨⟩ rfl
      replace h := elimL h
      refine thenN ?_
      refine run1 (c25 35) [] [2] [] (zipE [2] [.i 0]) ⟨[], 0⟩ _ (by kernel_rfl) cj0 ?_
      refine run_t (by kernel_rfl) ?_
      replace h := Option.some.inj h; subst h
      exact fin_r (by kernel_rfl) rfl

/-- theorbo.theorboref08.right -/
def f57 (a0 : GFigure) : Option Bool := ((bif (decide (a0.interval < -24)) then (some true) else (bif (decide (24 < a0.interval)) then (some true) else (bif (decide ((a0.moves.length : Int) ≠ (a0.shares.length : Int))) then (some true) else (bif (decide ((a0.moves.length : Int) < 1)) then (some true) else (bif (decide (32 < (a0.moves.length : Int))) then (some true) else ((ix a0.moves 0).bind fun y6 => some (decide (y6 ≠ 0)))))))) : Option Bool).bind fun (j1_39 : Bool) => bif j1_39 then (some false) else ((loopN (σ := Int) (τ := (Unit ⊕ Bool)) (fun (l2_3 : Int) => bif (decide (l2_3 < (a0.moves.length : Int))) then ((((ix a0.moves l2_3).bind fun y9 => bif (decide (y9 < -24)) then (some true) else (bif (decide (24 < y9)) then (some true) else ((ix a0.shares l2_3).bind fun y12 => bif (decide (y12 < 1)) then (some true) else (some (decide (64 < y12)))))) : Option Bool).bind fun (j3_76 : Bool) => bif j3_76 then (some (.inr (.inr false))) else (some (.inl (wr (l2_3 + 1))))) else (some (.inr (.inl ())))) FUEL 0).bind (Sum.elim (fun (_ : Unit) => some true) some))
theorem f57_ok (a0 : GFigure) (r : Bool) (h : f57 a0 = some r) : APure Tryz.prog 57 [E_GFigure a0] (.bool r) := by
  refine apure (clK (cl_GFigure a0) clZ) rfl ?_
  refine run_f 77 [.tmp 2] (c57 0) (zipE [0] [E_GFigure a0]) (by kernel_rfl) (by kernel_rfl) (by kernel_rfl) rfl ?_
  unfold f57 at h
  refine run1 (c57 2) [] [1] [0] (zipE [1] [.mp 0 0 0]) ⟨[(0, .cells 3 [E_GFigure a0])], 1⟩ _ (by kernel_rfl) cj0 ?_
  refine run_s (c57 3) (c57 10) (by kernel_rfl) ?_
  obtain ⟨j1_39, hj1, h⟩ := bindE h
  refine run_gq (c57 5) (fun (j1_39 : Bool) => (zipE [1, 39] [.mp 0 0 0, .bool j1_39])) (fun (j1_39 : Bool) => ⟨[(0, .cells 3 [E_GFigure a0])], 1⟩) (fun j => j1_39 = j) (fun kj1 => ?_) ?_
  · rcases iteE hj1 with ⟨hc1, hj1⟩ | ⟨hc1, hj1⟩
    · replace hj1 := Option.some.inj hj1; subst hj1
      exact run1 (c57 5) [{}, {}, {}, {}, { g := false }, { g := false }, { g := false }, { k := 1, b := true }, {}, { g := false }, { g := false }, { g := false }, { g := false }, { g := false }, { g := false }, { g := false }, {}, {}, { g := false }, { g := false }, { g := false }, { g := false }, {}, {}, { g := false }, { g := false }, { g := false }, { g := false }, {}, {}, { g := false }, { g := false }, { g := false }, { g := false }, { g := false }] [1, 39] [0] (zipE [1, 39] [.mp 0 0 0, .bool true]) ⟨[(0, .cells 3 [E_GFigure a0])], 1⟩ _ (by kernel_rfl) (cjC (hc1) (cjC (hc1) (cjC (hc1) (cjC (hc1) (cjC (Eq.refl true) (cjC (Eq.refl true) (cjC (Eq.refl true) (cjC (Eq.refl true) (cjC (Eq.refl true) (cjC (Eq.refl true) (cjC (Eq.refl true) (cjC (Eq.refl true) (cjC (Eq.refl true) (cjC (Eq.refl true) (cjC (Eq.refl true) (cjC (Eq.refl true) (cjC (Eq.refl true) (cjC (Eq.refl true) (cjC (Eq.refl true) (cjC (Eq.refl true) (cjC (Eq.refl true) (cjC (Eq.refl true) (cjC (Eq.refl true) (cj1 (Eq.refl true))))))))))))))))))))))))) (kj1 true rfl)
    · rcases iteE hj1 with ⟨hc2, hj1⟩ | ⟨hc2, hj1⟩
      · replace hj1 := Option.some.inj hj1; subst hj1
        exact run1 (c57 5) [{}, {}, {}, {}, {}, {}, {}, { k := 1, b := false }, {}, { g := false }, { g := false }, { g := false }, { g := false }, { g := false }, { g := false }, { g := false }, { k := 1, b := true }, {}, { g := false }, { g := false }, { g := false }, { g := false }, {}, {}, { g := false }, { g := false }, { g := false }, { g := false }, {}, {}, { g := false }, { g := false }, { g := false }, { g := false }, { g := false }] [1, 39] [0] (zipE [1, 39] [.mp 0 0 0, .bool true]) ⟨[(0, .cells 3 [E_GFigure a0])], 1⟩ _ (by kernel_rfl) (cjC (hc1) (cjC (hc1) (cjC (hc1) (cjC (hc1) (cjC (hc2) (cjC (hc2) (cjC (hc2) (cjC (hc2) (cjC (hc2) (cjC (hc2) (cjC (hc2) (cjC (hc2) (cjC (Eq.refl true) (cjC (Eq.refl true) (cjC (Eq.refl true) (cjC (Eq.refl true) (cjC (Eq.refl true) (cjC (Eq.refl true) (cjC (Eq.refl true) (cjC (Eq.refl true) (cjC (Eq.refl true) (cjC (Eq.refl true) (cjC (Eq.refl true) (cjC (Eq.refl true) (cj1 (Eq.refl true)))))))))))))))))))))))))) (kj1 true rfl)
      · rcases iteE hj1 with ⟨hc3, hj1⟩ | ⟨hc3, hj1⟩
        · replace hj1 := Option.some.inj hj1; subst hj1
          exact run1 (c57 5) [{}, {}, {}, {}, {}, {}, {}, { k := 1, b := false }, {}, {}, {}, { k := 1, n := a0.moves.length }, {}, {}, { k := 1, n := a0.shares.length }, {}, { k := 1, b := false }, {}, { g := false }, { g := false }, { g := false }, { g := false }, { k := 1, b := true }, {}, { g := false }, { g := false }, { g := false }, { g := false }, {}, {}, { g := false }, { g := false }, { g := false }, { g := false }, { g := false }] [1, 39] [0] (zipE [1, 39] [.mp 0 0 0, .bool true]) ⟨[(0, .cells 3 [E_GFigure a0])], 1⟩ _ (by kernel_rfl) (cjC (hc1) (cjC (hc1) (cjC (hc1) (cjC (hc1) (cjC (hc2) (cjC (hc2) (cjC (hc2) (cjC (mapLen a0.moves AV.i) (cjC (hc2) (cjC (hc2) (cjC (hc2) (cjC (mapLen a0.shares AV.i) (cjC (hc2) (cjC (hc2) (cjC (hc3) (cjC (hc3) (cjC (hc3) (cjC (hc3) (cjC (hc3) (cjC (Eq.refl true) (cjC (Eq.refl true) (cjC (Eq.refl true) (cjC (Eq.refl true) (cjC (Eq.refl true) (cjC (Eq.refl true) (cjC (Eq.refl true) (cjC (Eq.refl true) (cj1 (Eq.refl true))))))))))))))))))))))))))))) (kj1 true rfl)
        · rcases iteE hj1 with ⟨hc4, hj1⟩ | ⟨hc4, hj1⟩
          · replace hj1 := Option.some.inj hj1; subst hj1
            exact run1 (c57 5) [{}, {}, {}, {}, {}, {}, {}, { k := 1, b := false }, {}, {}, {}, { k := 1, n := a0.moves.length }, {}, {}, { k := 1, n := a0.shares.length }, {}, { k := 1, b := false }, {}, {}, {}, { k := 1, n := a0.moves.length }, {}, { k := 1, b := false }, {}, { g := false }, { g := false }, { g := false }, { g := false }, { k := 1, b := true }, {}, { g := false }, { g := false }, { g := false }, { g := false }, { g := false }] [1, 39] [0] (zipE [1, 39] [.mp 0 0 0, .bool true]) ⟨[(0, .cells 3 [E_GFigure a0])], 1⟩ _ (by kernel_rfl) (cjC (hc1) (cjC (hc1) (cjC (hc1) (cjC (hc1) (cjC (hc2) (cjC (hc2) (cjC (hc2) (cjC (mapLen a0.moves AV.i) (cjC (hc2) (cjC (hc2) (cjC (hc2) (cjC (mapLen a0.shares AV.i) (cjC (hc2) (cjC (hc2) (cjC (hc3) (cjC (hc3) (cjC (hc3) (cjC (mapLen a0.moves AV.i) (cjC (hc3) (cjC (hc3) (cjC (hc4) (cjC (hc4) (cjC (hc4) (cjC (hc4) (cjC (hc4) (cjC (Eq.refl true) (cjC (Eq.refl true) (cjC (Eq.refl true) (cjC (Eq.refl true) (cj1 (Eq.refl true))))))))))))))))))))))))))))))) (kj1 true rfl)
          · rcases iteE hj1 with ⟨hc5, hj1⟩ | ⟨hc5, hj1⟩
            · replace hj1 := Option.some.inj hj1; subst hj1
              exact run1 (c57 5) [{}, {}, {}, {}, {}, {}, {}, { k := 1, b := false }, {}, {}, {}, { k := 1, n := a0.moves.length }, {}, {}, { k := 1, n := a0.shares.length }, {}, { k := 1, b := false }, {}, {}, {}, { k := 1, n := a0.moves.length }, {}, { k := 1, b := false }, {}, {}, {}, { k := 1, n := a0.moves.length }, {}, { k := 1, b := false }, {}, { g := false }, { g := false }, { g := false }, { g := false }, { g := false }, { k := 1, b := true }] [1, 39] [0] (zipE [1, 39] [.mp 0 0 0, .bool true]) ⟨[(0, .cells 3 [E_GFigure a0])], 1⟩ _ (by kernel_rfl) (cjC (hc1) (cjC (hc1) (cjC (hc1) (cjC (hc1) (cjC (hc2) (cjC (hc2) (cjC (hc2) (cjC (mapLen a0.moves AV.i) (cjC (hc2) (cjC (hc2) (cjC (hc2) (cjC (mapLen a0.shares AV.i) (cjC (hc2) (cjC (hc2) (cjC (hc3) (cjC (hc3) (cjC (hc3) (cjC (mapLen a0.moves AV.i) (cjC (hc3) (cjC (hc3) (cjC (hc4) (cjC (hc4) (cjC (hc4) (cjC (mapLen a0.moves AV.i) (cjC (hc4) (cjC (hc4) (cjC (hc5) (cjC (hc5) (cjC (hc5) (cjC (hc5) (cjC (hc5) (cj1 (hc5))))))))))))))))))))))))))))))))) (kj1 true rfl)
            · obtain ⟨y6, hy6, hj1⟩ := bindE hj1
              replace hj1 := Option.some.inj hj1; subst hj1
              exact run1 (c57 5) [{}, {}, {}, {}, {}, {}, {}, { k := 1, b := false }, {}, {}, {}, { k := 1, n := a0.moves.length }, {}, {}, { k := 1, n := a0.shares.length }, {}, { k := 1, b := false }, {}, {}, {}, { k := 1, n := a0.moves.length }, {}, { k := 1, b := false }, {}, {}, {}, { k := 1, n := a0.moves.length }, {}, { k := 1, b := false }, {}, {}, {}, { k := 1, x := AV.i y6 }, {}, {}, { k := 1, b := false }] [1, 39] [0] (zipE [1, 39] [.mp 0 0 0, .bool (decide (y6 ≠ 0))]) ⟨[(0, .cells 3 [E_GFigure a0])], 1⟩ _ (by kernel_rfl) (cjC (hc1) (cjC (hc1) (cjC (hc1) (cjC (hc1) (cjC (hc2) (cjC (hc2) (cjC (hc2) (cjC (mapLen a0.moves AV.i) (cjC (hc2) (cjC (hc2) (cjC (hc2) (cjC (mapLen a0.shares AV.i) (cjC (hc2) (cjC (hc2) (cjC (hc3) (cjC (hc3) (cjC (hc3) (cjC (mapLen a0.moves AV.i) (cjC (hc3) (cjC (hc3) (cjC (hc4) (cjC (hc4) (cjC (hc4) (cjC (mapLen a0.moves AV.i) (cjC (hc4) (cjC (hc4) (cjC (hc5) (cjC (hc5) (cjC (hc5) (cjC ((ixE hy6).1) (cjC (mapGet AV.i (ixE hy6).2) (cjC (hc5) (cjC (hc5) (cj1 (hc5))))))))))))))))))))))))))))))))))) (kj1 (decide (y6 ≠ 0)) rfl)
  · rintro _ rfl
    rcases iteE h with ⟨hc7, h⟩ | ⟨hc7, h⟩
    · refine run_cT 39 (c57 6) (c57 9) j1_39 hc7 (by kernel_rfl) (by kernel_rfl) ?_
      refine run1 (c57 8) [] [2] [] (zipE [2] [.bool false]) ⟨[], 1⟩ _ (by kernel_rfl) cj0 ?_
      refine run_t (by kernel_rfl) ?_
      refine thenR ?_
      replace h := Option.some.inj h; subst h
      exact fin_r (by kernel_rfl) rfl
    · refine run_cF 39 (c57 6) (c57 9) j1_39 hc7 (by kernel_rfl) (by kernel_rfl) ?_
      refine run_k (by kernel_rfl) ?_
      refine thenN ?_
      refine run_s (c57 11) (c57 31) (by kernel_rfl) ?_
      refine run1 (c57 13) [] [1, 3] [0] (zipE [1, 3] [.mp 0 0 0, .i 0]) ⟨[(0, .cells 3 [E_GFigure a0])], 1⟩ _ (by kernel_rfl) cj0 ?_
      obtain ⟨ol2x, hll2x, h⟩ := bindE h
      refine run_tq (fun (_ : Unit) => (zipE [] [])) (fun (_ : Unit) => ⟨[], 1⟩) (fun j => ol2x = .inl j) (fun kl2 => ?_) ?_
      · refine run_b 0 (c57 14) (by kernel_rfl) ?_
        refine run_l (c57 15) _ hll2x (fun (l2_3 : Int) => (zipE [1, 3] [.mp 0 0 0, .i l2_3])) (fun (l2_3 : Int) => ⟨[(0, .cells 3 [E_GFigure a0])], 1⟩) [] (by intro i e; cases e <;> exact Nat.le_of_ble_eq_true rfl) (by kernel_rfl) (mkInto (ks := [1, 3]) (ys := [.mp 0 0 0, .i 0]) (by kernel_rfl) (by kernel_rfl) (.k (.mp rfl rfl) (.k (.c rfl) .z)) (.k (x' := .cells 3 [E_GFigure a0]) (by kernel_rfl) (.cells (.k (.c (cl_GFigure a0)) .z)) .z)) ?_
        rintro l2_3 out hl2 rl2
        refine run_s (c57 16) (c57 21) (by kernel_rfl) ?_
        refine run1 (c57 18) [{}, {}, {}, { k := 1, n := a0.moves.length }] [1, 3, 44] [0] (zipE [1, 3, 44] [.mp 0 0 0, .i l2_3, .bool (decide (l2_3 < (a0.moves.length : Int)))]) ⟨[(0, .cells 3 [E_GFigure a0])], 1⟩ _ (by kernel_rfl) (cj1 (mapLen a0.moves AV.i)) ?_
        rcases iteE hl2 with ⟨hc8, hl2⟩ | ⟨hc8, hl2⟩
        · refine run_cT 44 (c57 19) (c57 20) (decide (l2_3 < (a0.moves.length : Int))) hc8 (by kernel_rfl) (by kernel_rfl) ?_
          refine run_k (by kernel_rfl) ?_
          refine thenN ?_
          refine run_s (c57 22) (c57 30) (by kernel_rfl) ?_
          refine run_b 1 (c57 23) (by kernel_rfl) ?_
          obtain ⟨j3_76, hj3, hl2⟩ := bindE hl2
          refine run_gq (c57 25) (fun (j3_76 : Bool) => (zipE [1, 3, 76] [.mp 0 0 0, .i l2_3, .bool j3_76])) (fun (j3_76 : Bool) => ⟨[(0, .cells 3 [E_GFigure a0])], 1⟩) (fun j => j3_76 = j) (fun kj3 => ?_) ?_
          · obtain ⟨y9, hy9, hj3⟩ := bindE hj3
            rcases iteE hj3 with ⟨hc10, hj3⟩ | ⟨hc10, hj3⟩
            · replace hj3 := Option.some.inj hj3; subst hj3
              exact run1 (c57 25) [{}, {}, {}, { k := 1, x := AV.i y9 }, {}, {}, {}, { g := false }, { g := false }, { g := false }, { g := false }, { g := false }, { g := false }, { k := 1, b := true }, {}, { g := false }, { g := false }, { g := false }, { g := false }, { g := false }, { g := false }, {}, {}, { g := false }, { g := false }, { g := false }, { g := false }, { g := false }, { g := false }] [1, 3, 76] [0] (zipE [1, 3, 76] [.mp 0 0 0, .i l2_3, .bool true]) ⟨[(0, .cells 3 [E_GFigure a0])], 1⟩ _ (by kernel_rfl) (cjC ((ixE hy9).1) (cjC (mapGet AV.i (ixE hy9).2) (cjC (hc10) (cjC (hc10) (cjC (hc10) (cjC (hc10) (cjC (hc10) (cjC (hc10) (cjC (hc10) (cjC (Eq.refl true) (cjC (Eq.refl true) (cjC (Eq.refl true) (cjC (Eq.refl true) (cjC (Eq.refl true) (cjC (Eq.refl true) (cjC (Eq.refl true) (cjC (Eq.refl true) (cjC (Eq.refl true) (cjC (Eq.refl true) (cjC (Eq.refl true) (cj1 (Eq.refl true)))))))))))))))))))))) (kj3 true rfl)
            · rcases iteE hj3 with ⟨hc11, hj3⟩ | ⟨hc11, hj3⟩
              · replace hj3 := Option.some.inj hj3; subst hj3
                exact run1 (c57 25) [{}, {}, {}, { k := 1, x := AV.i y9 }, {}, {}, {}, {}, {}, {}, { k := 1, x := AV.i y9 }, {}, {}, { k := 1, b := false }, {}, { g := false }, { g := false }, { g := false }, { g := false }, { g := false }, { g := false }, { k := 1, b := true }, {}, { g := false }, { g := false }, { g := false }, { g := false }, { g := false }, { g := false }] [1, 3, 76] [0] (zipE [1, 3, 76] [.mp 0 0 0, .i l2_3, .bool true]) ⟨[(0, .cells 3 [E_GFigure a0])], 1⟩ _ (by kernel_rfl) (cjC ((ixE hy9).1) (cjC (mapGet AV.i (ixE hy9).2) (cjC (hc10) (cjC (hc10) (cjC (hc10) (cjC (hc10) (cjC ((ixE hy9).1) (cjC (mapGet AV.i (ixE hy9).2) (cjC (hc10) (cjC (hc10) (cjC (hc10) (cjC (hc11) (cjC (hc11) (cjC (hc11) (cjC (hc11) (cjC (hc11) (cjC (hc11) (cjC (hc11) (cjC (Eq.refl true) (cjC (Eq.refl true) (cjC (Eq.refl true) (cjC (Eq.refl true) (cjC (Eq.refl true) (cj1 (Eq.refl true))))))))))))))))))))))))) (kj3 true rfl)
              · obtain ⟨y12, hy12, hj3⟩ := bindE hj3
                rcases iteE hj3 with ⟨hc13, hj3⟩ | ⟨hc13, hj3⟩
                · replace hj3 := Option.some.inj hj3; subst hj3
                  exact run1 (c57 25) [{}, {}, {}, { k := 1, x := AV.i y9 }, {}, {}, {}, {}, {}, {}, { k := 1, x := AV.i y9 }, {}, {}, { k := 1, b := false }, {}, {}, {}, {}, { k := 1, x := AV.i y12 }, {}, {}, { k := 1, b := false }, {}, { g := false }, { g := false }, { g := false }, { g := false }, { g := false }, { g := false }, { k := 1, b := true }] [1, 3, 76] [0] (zipE [1, 3, 76] [.mp 0 0 0, .i l2_3, .bool true]) ⟨[(0, .cells 3 [E_GFigure a0])], 1⟩ _ (by kernel_rfl) (cjC ((ixE hy9).1) (cjC (mapGet AV.i (ixE hy9).2) (cjC (hc10) (cjC (hc10) (cjC (hc10) (cjC (hc10) (cjC ((ixE hy9).1) (cjC (mapGet AV.i (ixE hy9).2) (cjC (hc10) (cjC (hc10) (cjC (hc10) (cjC (hc11) (cjC (hc11) (cjC (hc11) (cjC (hc11) (cjC ((ixE hy12).1) (cjC (mapGet AV.i (ixE hy12).2) (cjC (hc11) (cjC (hc11) (cjC (hc11) (cjC (hc13) (cjC (hc13) (cjC (hc13) (cjC (hc13) (cjC (hc13) (cjC (hc13) (cj1 (hc13)))))))))))))))))))))))))))) (kj3 true rfl)
                · replace hj3 := Option.some.inj hj3; subst hj3
                  exact run1 (c57 25) [{}, {}, {}, { k := 1, x := AV.i y9 }, {}, {}, {}, {}, {}, {}, { k := 1, x := AV.i y9 }, {}, {}, { k := 1, b := false }, {}, {}, {}, {}, { k := 1, x := AV.i y12 }, {}, {}, { k := 1, b := false }, {}, {}, {}, {}, { k := 1, x := AV.i y12 }, {}, {}, { k := 1, b := false }] [1, 3, 76] [0] (zipE [1, 3, 76] [.mp 0 0 0, .i l2_3, .bool (decide (64 < y12))]) ⟨[(0, .cells 3 [E_GFigure a0])], 1⟩ _ (by kernel_rfl) (cjC ((ixE hy9).1) (cjC (mapGet AV.i (ixE hy9).2) (cjC (hc10) (cjC (hc10) (cjC (hc10) (cjC (hc10) (cjC ((ixE hy9).1) (cjC (mapGet AV.i (ixE hy9).2) (cjC (hc10) (cjC (hc10) (cjC (hc10) (cjC (hc11) (cjC (hc11) (cjC (hc11) (cjC (hc11) (cjC ((ixE hy12).1) (cjC (mapGet AV.i (ixE hy12).2) (cjC (hc11) (cjC (hc11) (cjC (hc11) (cjC (hc13) (cjC (hc13) (cjC (hc13) (cjC (hc13) (cjC ((ixE hy12).1) (cjC (mapGet AV.i (ixE hy12).2) (cjC (hc13) (cjC (hc13) (cj1 (hc13)))))))))))))))))))))))))))))) (kj3 (decide (64 < y12)) rfl)
          · rintro _ rfl
            rcases iteE hl2 with ⟨hc14, hl2⟩ | ⟨hc14, hl2⟩
            · refine run_cT 76 (c57 26) (c57 29) j3_76 hc14 (by kernel_rfl) (by kernel_rfl) ?_
              refine run1 (c57 28) [] [2] [] (zipE [2] [.bool false]) ⟨[], 1⟩ _ (by kernel_rfl) cj0 ?_
              replace hl2 := Option.some.inj hl2; subst hl2
              have hr := rl2 _ rfl
              subst hr
              replace h := elimR h
              refine run_t (by kernel_rfl) ?_
              refine inbR ?_
              refine thenR ?_
              refine ⟨⟨_, rfl⟩, ?_⟩
              refine inbR ?_
              refine thenR ?_
              replace h := Option.some.inj h; subst h
              exact fin_r (by kernel_rfl) rfl
            · refine run_cF 76 (c57 26) (c57 29) j3_76 hc14 (by kernel_rfl) (by kernel_rfl) ?_
              refine run_k (by kernel_rfl) ?_
              refine inbN ?_
              refine thenN ?_
              refine run0 [] [1, 3] [0] (zipE [1, 3] [.mp 0 0 0, .i (wr (l2_3 + 1))]) ⟨[(0, .cells 3 [E_GFigure a0])], 1⟩ _ (by kernel_rfl) cj0 ?_
              replace hl2 := Option.some.inj hl2; subst hl2
              exact ⟨_, rfl, pi [], mkInto (ks := [1, 3]) (ys := [.mp 0 0 0, .i (wr (l2_3 + 1))]) (by kernel_rfl) (by kernel_rfl) (.k (.mp rfl rfl) (.k (.c rfl) .z)) (.k (x' := .cells 3 [E_GFigure a0]) (by kernel_rfl) (.cells (.k (.c (cl_GFigure a0)) .z)) .z)⟩
        · refine run_cF 44 (c57 19) (c57 20) (decide (l2_3 < (a0.moves.length : Int))) hc8 (by kernel_rfl) (by kernel_rfl) ?_
          replace hl2 := Option.some.inj hl2; subst hl2
          have hr := rl2 _ rfl
          subst hr
          refine awp_p [] [] (zipE [] []) ⟨[], 1⟩ (by kernel_rfl) (?_)
          refine run_e 0 (by kernel_rfl) ?_
          refine thenE ?_
          refine ⟨⟨_, rfl⟩, ?_⟩
          refine inbE ?_
          exact kl2 () rfl
      · rintro ⟨⟩ rfl
        replace h := elimL h
        refine thenN ?_
        refine run1 (c57 33) [] [2] [] (zipE [2] [.bool true]) ⟨[], 1⟩ _ (by kernel_rfl) cj0 ?_
        refine run_t (by kernel_rfl) ?_
        replace h := Option.some.inj h; subst h
        exact fin_r (by kernel_rfl) rfl

/-- theorbo.theorboref08.CheckTable -/
def f26 (a0 : List GFigure) : Option Int := bif (decide (64 < (a0.length : Int))) then (some 2) else ((loopN (σ := Int) (τ := (Unit ⊕ Int)) (fun (l1_3 : Int) => bif (decide (l1_3 < (a0.length : Int))) then ((ix a0 l1_3).bind fun y3 => (f57 y3).bind fun r4 => bif (!r4) then (some (.inr (.inr 81))) else (some (.inl (wr (l1_3 + 1))))) else (some (.inr (.inl ())))) FUEL 0).bind (Sum.elim (fun (_ : Unit) => some 0) some))
theorem f26_ok (a0 : List GFigure) (r : Int) (h : f26 a0 = some r) : APure Tryz.prog 26 [.sl false (a0.map E_GFigure)] (.i r) := by
  refine apure (clK (cleanMap a0 _ cl_GFigure) clZ) rfl ?_
  refine run_f 19 [.tmp 2] (c26 0) (zipE [0] [.sl false (a0.map E_GFigure)]) (by kernel_rfl) (by kernel_rfl) (by kernel_rfl) rfl ?_
  unfold f26 at h
  refine run1 (c26 2) [] [0] [] (zipE [0] [.sl false (a0.map E_GFigure)]) ⟨[], 0⟩ _ (by kernel_rfl) cj0 ?_
  refine run_s (c26 3) (c26 10) (by kernel_rfl) ?_
  refine run1 (c26 5) [{}, { k := 1, n := a0.length }] [0, 6] [] (zipE [0, 6] [.sl false (a0.map E_GFigure), .bool (decide (64 < (a0.length : Int)))]) ⟨[], 0⟩ _ (by kernel_rfl) (cj1 (mapLen a0 E_GFigure)) ?_
  rcases iteE h with ⟨hc1, h⟩ | ⟨hc1, h⟩
  · refine run_cT 6 (c26 6) (c26 9) (decide (64 < (a0.length : Int))) hc1 (by kernel_rfl) (by kernel_rfl) ?_
    refine run1 (c26 8) [] [2] [] (zipE [2] [.i 2]) ⟨[], 0⟩ _ (by kernel_rfl) cj0 ?_
    refine run_t (by kernel_rfl) ?_
    refine thenR ?_
    replace h := Option.some.inj h; subst h
    exact fin_r (by kernel_rfl) rfl
  · refine run_cF 6 (c26 6) (c26 9) (decide (64 < (a0.length : Int))) hc1 (by kernel_rfl) (by kernel_rfl) ?_
    refine run_k (by kernel_rfl) ?_
    refine thenN ?_
    refine run_s (c26 11) (c26 31) (by kernel_rfl) ?_
    refine run1 (c26 13) [] [0, 3] [] (zipE [0, 3] [.sl false (a0.map E_GFigure), .i 0]) ⟨[], 0⟩ _ (by kernel_rfl) cj0 ?_
    obtain ⟨ol1x, hll1x, h⟩ := bindE h
    refine run_tq (fun (_ : Unit) => (zipE [] [])) (fun (_ : Unit) => ⟨[], 0⟩) (fun j => ol1x = .inl j) (fun kl1 => ?_) ?_
    · refine run_b 0 (c26 14) (by kernel_rfl) ?_
      refine run_l (c26 15) _ hll1x (fun (l1_3 : Int) => (zipE [0, 3] [.sl false (a0.map E_GFigure), .i l1_3])) (fun (l1_3 : Int) => ⟨[], 0⟩) [] (by intro i e; cases e <;> exact Nat.le_of_ble_eq_true rfl) (by kernel_rfl) (mkInto (ks := [0, 3]) (ys := [.sl false (a0.map E_GFigure), .i 0]) (by kernel_rfl) (by kernel_rfl) (.k (.c (cleanMap _ _ cl_GFigure)) (.k (.c rfl) .z)) .z) ?_
      rintro l1_3 out hl1 rl1
      refine run_s (c26 16) (c26 21) (by kernel_rfl) ?_
      refine run1 (c26 18) [{}, {}, { k := 1, n := a0.length }] [0, 3, 10] [] (zipE [0, 3, 10] [.sl false (a0.map E_GFigure), .i l1_3, .bool (decide (l1_3 < (a0.length : Int)))]) ⟨[], 0⟩ _ (by kernel_rfl) (cj1 (mapLen a0 E_GFigure)) ?_
      rcases iteE hl1 with ⟨hc2, hl1⟩ | ⟨hc2, hl1⟩
      · refine run_cT 10 (c26 19) (c26 20) (decide (l1_3 < (a0.length : Int))) hc2 (by kernel_rfl) (by kernel_rfl) ?_
        refine run_k (by kernel_rfl) ?_
        refine thenN ?_
        refine run_s (c26 22) (c26 30) (by kernel_rfl) ?_
        refine run_b 1 (c26 23) (by kernel_rfl) ?_
        obtain ⟨y3, hy3, hl1⟩ := bindE hl1
        obtain ⟨r4, hr4, hl1⟩ := bindE hl1
        refine run1 (c26 25) [{}, {}, { k := 1, x := E_GFigure y3 }, {}, { c := some (.bool r4, ⟨[], 0⟩) }] [0, 3, 18] [] (zipE [0, 3, 18] [.sl false (a0.map E_GFigure), .i l1_3, .bool (!r4)]) ⟨[], 0⟩ _ (by kernel_rfl) (cjC ((ixE hy3).1) (cjC (mapGet E_GFigure (ixE hy3).2) (cj1 (f57_ok y3 _ hr4 ⟨[], 0⟩)))) ?_
        rcases iteE hl1 with ⟨hc5, hl1⟩ | ⟨hc5, hl1⟩
        · refine run_cT 18 (c26 26) (c26 29) (!r4) hc5 (by kernel_rfl) (by kernel_rfl) ?_
          refine run1 (c26 28) [] [2] [] (zipE [2] [.i 81]) ⟨[], 0⟩ _ (by kernel_rfl) cj0 ?_
          replace hl1 := Option.some.inj hl1; subst hl1
          have hr := rl1 _ rfl
          subst hr
          replace h := elimR h
          refine run_t (by kernel_rfl) ?_
          refine inbR ?_
          refine thenR ?_
          refine ⟨⟨_, rfl⟩, ?_⟩
          refine inbR ?_
          refine thenR ?_
          replace h := Option.some.inj h; subst h
          exact fin_r (by kernel_rfl) rfl
        · refine run_cF 18 (c26 26) (c26 29) (!r4) hc5 (by kernel_rfl) (by kernel_rfl) ?_
          refine run_k (by kernel_rfl) ?_
          refine inbN ?_
          refine thenN ?_
          refine run0 [] [0, 3] [] (zipE [0, 3] [.sl false (a0.map E_GFigure), .i (wr (l1_3 + 1))]) ⟨[], 0⟩ _ (by kernel_rfl) cj0 ?_
          replace hl1 := Option.some.inj hl1; subst hl1
          exact ⟨_, rfl, pi [], mkInto (ks := [0, 3]) (ys := [.sl false (a0.map E_GFigure), .i (wr (l1_3 + 1))]) (by kernel_rfl) (by kernel_rfl) (.k (.c (cleanMap _ _ cl_GFigure)) (.k (.c rfl) .z)) .z⟩
      · refine run_cF 10 (c26 19) (c26 20) (decide (l1_3 < (a0.length : Int))) hc2 (by kernel_rfl) (by kernel_rfl) ?_
        replace hl1 := Option.some.inj hl1; subst hl1
        have hr := rl1 _ rfl
        subst hr
        refine awp_p [] [] (zipE [] []) ⟨[], 0⟩ (by kernel_rfl) (?_)
        refine run_e 0 (by kernel_rfl) ?_
        refine thenE ?_
        refine ⟨⟨_, rfl⟩, ?_⟩
        refine inbE ?_
        exact kl1 () rfl
    · rintro ⟨⟩ rfl
      replace h := elimL h
      refine thenN ?_
      refine run1 (c26 33) [] [2] [] (zipE [2] [.i 0]) ⟨[], 0⟩ _ (by kernel_rfl) cj0 ?_
      refine run_t (by kernel_rfl) ?_
      replace h := Option.some.inj h; subst h
      exact fin_r (by kernel_rfl) rfl

/-- theorbo.voice.CheckParts$1 -/
def f70 (a0 : List GTone) : Option Bool := some (decide (400 < (a0.length : Int)))
theorem f70_ok (a0 : List GTone) (r : Bool) (h : f70 a0 = some r) : APure Tryz.prog 70 [.sl false (a0.map E_GTone)] (.bool r) := by
  refine apure (clK (cleanMap a0 _ cl_GTone) clZ) rfl ?_
  refine run_f 6 [.tmp 2] (c70 0) (zipE [0] [.sl false (a0.map E_GTone)]) (by kernel_rfl) (by kernel_rfl) (by kernel_rfl) rfl ?_
  unfold f70 at h
  refine run1 (c70 2) [] [0] [] (zipE [0] [.sl false (a0.map E_GTone)]) ⟨[], 0⟩ _ (by kernel_rfl) cj0 ?_
  refine run1 (c70 4) [{}, { k := 1, n := a0.length }] [2] [] (zipE [2] [.bool (decide (400 < (a0.length : Int)))]) ⟨[], 0⟩ _ (by kernel_rfl) (cj1 (mapLen a0 E_GTone)) ?_
  refine run_t (by kernel_rfl) ?_
  replace h := Option.some.inj h; subst h
  exact fin_r (by kernel_rfl) rfl

/-- slices.IndexFunc[[][]theorbo.api.Tone,[]theorbo.api.Tone] -/
def f100 (a0 : List (List GTone)) : Option Int := (loopN (σ := Int) (τ := (Unit ⊕ Int)) (fun (l1_8 : Int) => bif (decide (l1_8 < (a0.length : Int))) then ((ix a0 l1_8).bind fun y2 => (f70 y2).bind fun r3 => bif r3 then (some (.inr (.inr l1_8))) else (some (.inl (wr (l1_8 + 1))))) else (some (.inr (.inl ())))) FUEL 0).bind (Sum.elim (fun (_ : Unit) => some (-1)) some)
theorem f100_ok (a0 : List (List GTone)) (r : Int) (h : f100 a0 = some r) : APure Tryz.prog 100 [.sl false (a0.map (SL E_GTone)), .fn 70 []] (.i r) := by
  refine apure (clK (cleanMap a0 _ (cl_SL cl_GTone)) (clK rfl clZ)) rfl ?_
  refine run_f 19 [.tmp 4] (c100 0) (zipE [0, 1] [.sl false (a0.map (SL E_GTone)), .fn 70 []]) (by kernel_rfl) (by kernel_rfl) (by kernel_rfl) rfl ?_
  unfold f100 at h
  refine run1 (c100 2) [] [0, 1] [] (zipE [0, 1] [.sl false (a0.map (SL E_GTone)), .fn 70 []]) ⟨[], 0⟩ _ (by kernel_rfl) cj0 ?_
  refine run_s (c100 3) (c100 25) (by kernel_rfl) ?_
  refine run1 (c100 5) [{}, { k := 1, n := a0.length }] [0, 1, 7, 8] [] (zipE [0, 1, 7, 8] [.sl false (a0.map (SL E_GTone)), .fn 70 [], .i (a0.length : Int), .i 0]) ⟨[], 0⟩ _ (by kernel_rfl) (cj1 (mapLen a0 (SL E_GTone))) ?_
  obtain ⟨ol1x, hll1x, h⟩ := bindE h
  refine run_tq (fun (_ : Unit) => (zipE [] [])) (fun (_ : Unit) => ⟨[], 0⟩) (fun j => ol1x = .inl j) (fun kl1 => ?_) ?_
  · refine run_b 0 (c100 6) (by kernel_rfl) ?_
    refine run_l (c100 7) _ hll1x (fun (l1_8 : Int) => (zipE [0, 1, 7, 8] [.sl false (a0.map (SL E_GTone)), .fn 70 [], .i (a0.length : Int), .i l1_8])) (fun (l1_8 : Int) => ⟨[], 0⟩) [] (by intro i e; cases e <;> exact Nat.le_of_ble_eq_true rfl) (by kernel_rfl) (mkInto (ks := [0, 1, 7, 8]) (ys := [.sl false (a0.map (SL E_GTone)), .fn 70 [], .i (a0.length : Int), .i 0]) (by kernel_rfl) (by kernel_rfl) (.k (.c (cleanMap _ _ (cl_SL cl_GTone))) (.k (.c rfl) (.k (.c rfl) (.k (.c rfl) .z)))) .z) ?_
    rintro l1_8 out hl1 rl1
    refine run1 (c100 9) [] [0, 1, 7, 8, 9] [] (zipE [0, 1, 7, 8, 9] [.sl false (a0.map (SL E_GTone)), .fn 70 [], .i (a0.length : Int), .i l1_8, .bool (decide (l1_8 < (a0.length : Int)))]) ⟨[], 0⟩ _ (by kernel_rfl) cj0 ?_
    refine run_s (c100 10) (c100 13) (by kernel_rfl) ?_
    rcases iteE hl1 with ⟨hc1, hl1⟩ | ⟨hc1, hl1⟩
    · refine run_cT 9 (c100 11) (c100 12) (decide (l1_8 < (a0.length : Int))) hc1 (by kernel_rfl) (by kernel_rfl) ?_
      refine run_k (by kernel_rfl) ?_
      refine thenN ?_
      refine run_s (c100 14) (c100 24) (by kernel_rfl) ?_
      refine run_b 1 (c100 15) (by kernel_rfl) ?_
      refine run1 (c100 17) [] [0, 1, 5, 7, 8] [] (zipE [0, 1, 5, 7, 8] [.sl false (a0.map (SL E_GTone)), .fn 70 [], .i l1_8, .i (a0.length : Int), .i l1_8]) ⟨[], 0⟩ _ (by kernel_rfl) cj0 ?_
      obtain ⟨y2, hy2, hl1⟩ := bindE hl1
      obtain ⟨r3, hr3, hl1⟩ := bindE hl1
      refine run1 (c100 19) [{}, {}, {}, { k := 1, x := (SL E_GTone) y2 }, {}, { c := some (.bool r3, ⟨[], 0⟩) }] [0, 1, 5, 7, 8, 16] [] (zipE [0, 1, 5, 7, 8, 16] [.sl false (a0.map (SL E_GTone)), .fn 70 [], .i l1_8, .i (a0.length : Int), .i l1_8, .bool r3]) ⟨[], 0⟩ _ (by kernel_rfl) (cjC ((ixE hy2).1) (cjC (mapGet (SL E_GTone) (ixE hy2).2) (cj1 (f70_ok y2 _ hr3 ⟨[], 0⟩)))) ?_
      rcases iteE hl1 with ⟨hc4, hl1⟩ | ⟨hc4, hl1⟩
      · refine run_cT 16 (c100 20) (c100 23) r3 hc4 (by kernel_rfl) (by kernel_rfl) ?_
        refine run1 (c100 22) [] [4] [] (zipE [4] [.i l1_8]) ⟨[], 0⟩ _ (by kernel_rfl) cj0 ?_
        replace hl1 := Option.some.inj hl1; subst hl1
        have hr := rl1 _ rfl
        subst hr
        replace h := elimR h
        refine run_t (by kernel_rfl) ?_
        refine inbR ?_
        refine thenR ?_
        refine ⟨⟨_, rfl⟩, ?_⟩
        refine inbR ?_
        refine thenR ?_
        replace h := Option.some.inj h; subst h
        exact fin_r (by kernel_rfl) rfl
      · refine run_cF 16 (c100 20) (c100 23) r3 hc4 (by kernel_rfl) (by kernel_rfl) ?_
        refine run_k (by kernel_rfl) ?_
        refine inbN ?_
        refine thenN ?_
        refine run0 [] [0, 1, 7, 8] [] (zipE [0, 1, 7, 8] [.sl false (a0.map (SL E_GTone)), .fn 70 [], .i (a0.length : Int), .i (wr (l1_8 + 1))]) ⟨[], 0⟩ _ (by kernel_rfl) cj0 ?_
        replace hl1 := Option.some.inj hl1; subst hl1
        exact ⟨_, rfl, pi [], mkInto (ks := [0, 1, 7, 8]) (ys := [.sl false (a0.map (SL E_GTone)), .fn 70 [], .i (a0.length : Int), .i (wr (l1_8 + 1))]) (by kernel_rfl) (by kernel_rfl) (.k (.c (cleanMap _ _ (cl_SL cl_GTone))) (.k (.c rfl) (.k (.c rfl) (.k (.c rfl) .z)))) .z⟩
    · refine run_cF 9 (c100 11) (c100 12) (decide (l1_8 < (a0.length : Int))) hc1 (by kernel_rfl) (by kernel_rfl) ?_
      replace hl1 := Option.some.inj hl1; subst hl1
      have hr := rl1 _ rfl
      subst hr
      refine awp_p [] [] (zipE [] []) ⟨[], 0⟩ (by kernel_rfl) (?_)
      refine run_e 0 (by kernel_rfl) ?_
      refine thenE ?_
      refine ⟨⟨_, rfl⟩, ?_⟩
      refine inbE ?_
      exact kl1 () rfl
  · rintro ⟨⟩ rfl
    replace h := elimL h
    refine thenN ?_
    refine run1 (c100 27) [] [4] [] (zipE [4] [.i (-1)]) ⟨[], 0⟩ _ (by kernel_rfl) cj0 ?_
    refine run_t (by kernel_rfl) ?_
    replace h := Option.some.inj h; subst h
    exact fin_r (by kernel_rfl) rfl

/-- slices.ContainsFunc[[][]theorbo.api.Tone,[]theorbo.api.Tone] -/
def f69 (a0 : List (List GTone)) : Option Bool := (f100 a0).bind fun r1 => some (decide (0 ≤ r1))
theorem f69_ok (a0 : List (List GTone)) (r : Bool) (h : f69 a0 = some r) : APure Tryz.prog 69 [.sl false (a0.map (SL E_GTone)), .fn 70 []] (.bool r) := by
  refine apure (clK (cleanMap a0 _ (cl_SL cl_GTone)) (clK rfl clZ)) rfl ?_
  refine run_f 9 [.tmp 4] (c69 0) (zipE [0, 1] [.sl false (a0.map (SL E_GTone)), .fn 70 []]) (by kernel_rfl) (by kernel_rfl) (by kernel_rfl) rfl ?_
  unfold f69 at h
  refine run1 (c69 2) [] [0, 1] [] (zipE [0, 1] [.sl false (a0.map (SL E_GTone)), .fn 70 []]) ⟨[], 0⟩ _ (by kernel_rfl) cj0 ?_
  obtain ⟨r1, hr1, h⟩ := bindE h
  refine run1 (c69 4) [{}, {}, { c := some (.i r1, ⟨[], 0⟩) }] [4] [] (zipE [4] [.bool (decide (0 ≤ r1))]) ⟨[], 0⟩ _ (by kernel_rfl) (cj1 (f100_ok a0 _ hr1 ⟨[], 0⟩)) ?_
  refine run_t (by kernel_rfl) ?_
  replace h := Option.some.inj h; subst h
  exact fin_r (by kernel_rfl) rfl

/-- theorbo.voice.within -/
def f71 (a0 : Int) (a1 : Int) (a2 : Int) : Option Bool := ((bif (decide (a1 ≤ a0)) then (some (decide (a0 ≤ a2))) else (some false)) : Option Bool).bind fun (j1_6 : Bool) => some j1_6
theorem f71_ok (a0 : Int) (a1 : Int) (a2 : Int) (r : Bool) (h : f71 a0 a1 a2 = some r) : APure Tryz.prog 71 [.i a0, .i a1, .i a2] (.bool r) := by
  refine apure (clK rfl (clK rfl (clK rfl clZ))) rfl ?_
  refine run_f 15 [.tmp 6] (c71 0) (zipE [0, 1, 2] [.i a0, .i a1, .i a2]) (by kernel_rfl) (by kernel_rfl) (by kernel_rfl) rfl ?_
  unfold f71 at h
  refine run1 (c71 2) [] [0, 1, 2] [] (zipE [0, 1, 2] [.i a0, .i a1, .i a2]) ⟨[], 0⟩ _ (by kernel_rfl) cj0 ?_
  obtain ⟨j1_6, hj1, h⟩ := bindE h
  refine run_gq (c71 4) (fun (j1_6 : Bool) => (zipE [6] [.bool j1_6])) (fun (j1_6 : Bool) => ⟨[], 0⟩) (fun j => j1_6 = j) (fun kj1 => ?_) ?_
  · rcases iteE hj1 with ⟨hc1, hj1⟩ | ⟨hc1, hj1⟩
    · replace hj1 := Option.some.inj hj1; subst hj1
      exact run1 (c71 4) [{}, {}, {}, {}, {}, {}, {}, { k := 1, b := true }] [6] [] (zipE [6] [.bool (decide (a0 ≤ a2))]) ⟨[], 0⟩ _ (by kernel_rfl) (cjC (hc1) (cjC (hc1) (cjC (hc1) (cj1 (hc1))))) (kj1 (decide (a0 ≤ a2)) rfl)
    · replace hj1 := Option.some.inj hj1; subst hj1
      exact run1 (c71 4) [{}, {}, {}, {}, { g := false }, { g := false }, { g := false }, { k := 1, b := false }] [6] [] (zipE [6] [.bool false]) ⟨[], 0⟩ _ (by kernel_rfl) (cjC (hc1) (cjC (hc1) (cjC (hc1) (cj1 (hc1))))) (kj1 false rfl)
  · rintro _ rfl
    refine run_t (by kernel_rfl) ?_
    replace h := Option.some.inj h; subst h
    exact fin_r (by kernel_rfl) rfl

/-- theorbo.voice.CheckParts -/
def f36 (a0 : List (List GTone)) : Option Int := ((bif (decide (6 < (a0.length : Int))) then (some true) else ((f69 a0).bind fun r2 => some r2)) : Option Bool).bind fun (j1_14 : Bool) => bif j1_14 then (some 2) else ((loopN (σ := Int) (τ := (Unit ⊕ Int)) (fun (l2_17 : Int) => bif (decide (l2_17 < (a0.length : Int))) then ((ix a0 l2_17).bind fun y5 => (loopN (σ := (Int × Int)) (τ := (Unit ⊕ (Int ⊕ (Unit ⊕ Int)))) (fun ((l3_5, l3_23) : (Int × Int)) => bif (decide (l3_23 < (y5.length : Int))) then ((ix y5 l3_23).bind fun y7 => (((f71 y7.pitch 0 127).bind fun r8 => bif (!r8) then (some true) else (bif (decide (y7.from_ < l3_5)) then (some true) else (bif (decide (y7.to_ ≤ y7.from_)) then (some true) else (some (decide (262144 < y7.to_)))))) : Option Bool).bind fun (j4_48 : Bool) => bif j4_48 then (some (.inr (.inr (.inr (.inr 80))))) else (some (.inl (y7.to_, (wr (l3_23 + 1)))))) else (some (.inr (.inl ())))) FUEL (0, 0)).bind (Sum.elim (fun (_ : Unit) => some (.inl (wr (l2_17 + 1)))) some)) else (some (.inr (.inl ())))) FUEL 0).bind (Sum.elim (fun (_ : Unit) => some 0) some))
theorem f36_ok (a0 : List (List GTone)) (r : Int) (h : f36 a0 = some r) : APure Tryz.prog 36 [.sl false (a0.map (SL E_GTone))] (.i r) := by
  refine apure (clK (cleanMap a0 _ (cl_SL cl_GTone)) clZ) rfl ?_
  refine run_f 53 [.tmp 2] (c36 0) (zipE [0] [.sl false (a0.map (SL E_GTone))]) (by kernel_rfl) (by kernel_rfl) (by kernel_rfl) rfl ?_
  unfold f36 at h
  refine run1 (c36 2) [] [0] [] (zipE [0] [.sl false (a0.map (SL E_GTone))]) ⟨[], 0⟩ _ (by kernel_rfl) cj0 ?_
  refine run_s (c36 3) (c36 10) (by kernel_rfl) ?_
  obtain ⟨j1_14, hj1, h⟩ := bindE h
  refine run_gq (c36 5) (fun (j1_14 : Bool) => (zipE [0, 14] [.sl false (a0.map (SL E_GTone)), .bool j1_14])) (fun (j1_14 : Bool) => ⟨[], 0⟩) (fun j => j1_14 = j) (fun kj1 => ?_) ?_
  · rcases iteE hj1 with ⟨hc1, hj1⟩ | ⟨hc1, hj1⟩
    · replace hj1 := Option.some.inj hj1; subst hj1
      exact run1 (c36 5) [{}, { k := 1, n := a0.length }, {}, {}, { g := false }, { g := false }, { k := 1, b := true }] [0, 14] [] (zipE [0, 14] [.sl false (a0.map (SL E_GTone)), .bool true]) ⟨[], 0⟩ _ (by kernel_rfl) (cjC (mapLen a0 (SL E_GTone)) (cjC (hc1) (cjC (hc1) (cj1 (hc1))))) (kj1 true rfl)
    · obtain ⟨r2, hr2, hj1⟩ := bindE hj1
      replace hj1 := Option.some.inj hj1; subst hj1
      exact run1 (c36 5) [{}, { k := 1, n := a0.length }, {}, {}, {}, { c := some (.bool r2, ⟨[], 0⟩) }, { k := 1, b := false }] [0, 14] [] (zipE [0, 14] [.sl false (a0.map (SL E_GTone)), .bool r2]) ⟨[], 0⟩ _ (by kernel_rfl) (cjC (mapLen a0 (SL E_GTone)) (cjC (hc1) (cjC (hc1) (cjC (f69_ok a0 _ hr2 ⟨[], 0⟩) (cj1 (hc1)))))) (kj1 r2 rfl)
  · rintro _ rfl
    rcases iteE h with ⟨hc3, h⟩ | ⟨hc3, h⟩
    · refine run_cT 14 (c36 6) (c36 9) j1_14 hc3 (by kernel_rfl) (by kernel_rfl) ?_
      refine run1 (c36 8) [] [2] [] (zipE [2] [.i 2]) ⟨[], 0⟩ _ (by kernel_rfl) cj0 ?_
      refine run_t (by kernel_rfl) ?_
      refine thenR ?_
      replace h := Option.some.inj h; subst h
      exact fin_r (by kernel_rfl) rfl
    · refine run_cF 14 (c36 6) (c36 9) j1_14 hc3 (by kernel_rfl) (by kernel_rfl) ?_
      refine run_k (by kernel_rfl) ?_
      refine thenN ?_
      refine run_s (c36 11) (c36 52) (by kernel_rfl) ?_
      refine run1 (c36 13) [{}, { k := 1, n := a0.length }] [15, 16, 17] [] (zipE [15, 16, 17] [.sl false (a0.map (SL E_GTone)), .i (a0.length : Int), .i 0]) ⟨[], 0⟩ _ (by kernel_rfl) (cj1 (mapLen a0 (SL E_GTone))) ?_
      obtain ⟨ol2x, hll2x, h⟩ := bindE h
      refine run_tq (fun (_ : Unit) => (zipE [] [])) (fun (_ : Unit) => ⟨[], 0⟩) (fun j => ol2x = .inl j) (fun kl2 => ?_) ?_
      · refine run_b 0 (c36 14) (by kernel_rfl) ?_
        refine run_l (c36 15) _ hll2x (fun (l2_17 : Int) => (zipE [15, 16, 17] [.sl false (a0.map (SL E_GTone)), .i (a0.length : Int), .i l2_17])) (fun (l2_17 : Int) => ⟨[], 0⟩) [] (by intro i e; cases e <;> exact Nat.le_of_ble_eq_true rfl) (by kernel_rfl) (mkInto (ks := [15, 16, 17]) (ys := [.sl false (a0.map (SL E_GTone)), .i (a0.length : Int), .i 0]) (by kernel_rfl) (by kernel_rfl) (.k (.c (cleanMap _ _ (cl_SL cl_GTone))) (.k (.c rfl) (.k (.c rfl) .z))) .z) ?_
        rintro l2_17 out hl2 rl2
        refine run1 (c36 17) [] [15, 16, 17, 18] [] (zipE [15, 16, 17, 18] [.sl false (a0.map (SL E_GTone)), .i (a0.length : Int), .i l2_17, .bool (decide (l2_17 < (a0.length : Int)))]) ⟨[], 0⟩ _ (by kernel_rfl) cj0 ?_
        refine run_s (c36 18) (c36 21) (by kernel_rfl) ?_
        rcases iteE hl2 with ⟨hc4, hl2⟩ | ⟨hc4, hl2⟩
        · refine run_cT 18 (c36 19) (c36 20) (decide (l2_17 < (a0.length : Int))) hc4 (by kernel_rfl) (by kernel_rfl) ?_
          refine run_k (by kernel_rfl) ?_
          refine thenN ?_
          refine run_s (c36 22) (c36 51) (by kernel_rfl) ?_
          refine run_b 1 (c36 23) (by kernel_rfl) ?_
          obtain ⟨y5, hy5, hl2⟩ := bindE hl2
          refine run1 (c36 25) [{ k := 1, x := (SL E_GTone) y5 }] [4, 15, 16, 17] [] (zipE [4, 15, 16, 17] [.sl false (y5.map E_GTone), .sl false (a0.map (SL E_GTone)), .i (a0.length : Int), .i l2_17]) ⟨[], 0⟩ _ (by kernel_rfl) (cjC ((ixE hy5).1) (cj1 (mapGet (SL E_GTone) (ixE hy5).2))) ?_
          refine run1 (c36 27) [] [4, 5, 15, 16, 17] [] (zipE [4, 5, 15, 16, 17] [.sl false (y5.map E_GTone), .i 0, .sl false (a0.map (SL E_GTone)), .i (a0.length : Int), .i l2_17]) ⟨[], 0⟩ _ (by kernel_rfl) cj0 ?_
          refine run1 (c36 29) [{}, { k := 1, n := y5.length }] [5, 15, 16, 17, 21, 22, 23] [] (zipE [5, 15, 16, 17, 21, 22, 23] [.i 0, .sl false (a0.map (SL E_GTone)), .i (a0.length : Int), .i l2_17, .sl false (y5.map E_GTone), .i (y5.length : Int), .i 0]) ⟨[], 0⟩ _ (by kernel_rfl) (cj1 (mapLen y5 E_GTone)) ?_
          obtain ⟨ol3x, hll3x, hl2⟩ := bindE hl2
          refine run_tq (fun (_ : Unit) => (zipE [15, 16, 17] [.sl false (a0.map (SL E_GTone)), .i (a0.length : Int), .i l2_17])) (fun (_ : Unit) => ⟨[], 0⟩) (fun j => ol3x = .inl j) (fun kl3 => ?_) ?_
          · refine run_b 2 (c36 30) (by kernel_rfl) ?_
            refine run_l (c36 31) _ hll3x (fun ((l3_5, l3_23) : (Int × Int)) => (zipE [5, 15, 16, 17, 21, 22, 23] [.i l3_5, .sl false (a0.map (SL E_GTone)), .i (a0.length : Int), .i l2_17, .sl false (y5.map E_GTone), .i (y5.length : Int), .i l3_23])) (fun ((l3_5, l3_23) : (Int × Int)) => ⟨[], 0⟩) [] (by intro i e; cases e <;> exact Nat.le_of_ble_eq_true rfl) (by kernel_rfl) (mkInto (ks := [5, 15, 16, 17, 21, 22, 23]) (ys := [.i 0, .sl false (a0.map (SL E_GTone)), .i (a0.length : Int), .i l2_17, .sl false (y5.map E_GTone), .i (y5.length : Int), .i 0]) (by kernel_rfl) (by kernel_rfl) (.k (.c rfl) (.k (.c (cleanMap _ _ (cl_SL cl_GTone))) (.k (.c rfl) (.k (.c rfl) (.k (.c (cleanMap _ _ cl_GTone)) (.k (.c rfl) (.k (.c rfl) .z))))))) .z) ?_
            rintro ⟨l3_5, l3_23⟩ out hl3 rl3
            refine run1 (c36 33) [] [5, 15, 16, 17, 21, 22, 23, 24] [] (zipE [5, 15, 16, 17, 21, 22, 23, 24] [.i l3_5, .sl false (a0.map (SL E_GTone)), .i (a0.length : Int), .i l2_17, .sl false (y5.map E_GTone), .i (y5.length : Int), .i l3_23, .bool (decide (l3_23 < (y5.length : Int)))]) ⟨[], 0⟩ _ (by kernel_rfl) cj0 ?_
            refine run_s (c36 34) (c36 37) (by kernel_rfl) ?_
            rcases iteE hl3 with ⟨hc6, hl3⟩ | ⟨hc6, hl3⟩
            · refine run_cT 24 (c36 35) (c36 36) (decide (l3_23 < (y5.length : Int))) hc6 (by kernel_rfl) (by kernel_rfl) ?_
              refine run_k (by kernel_rfl) ?_
              refine thenN ?_
              refine run_s (c36 38) (c36 50) (by kernel_rfl) ?_
              refine run_b 3 (c36 39) (by kernel_rfl) ?_
              obtain ⟨y7, hy7, hl3⟩ := bindE hl3
              refine run1 (c36 41) [{ k := 1, x := E_GTone y7 }] [5, 7, 15, 16, 17, 21, 22, 23] [0] (zipE [5, 7, 15, 16, 17, 21, 22, 23] [.i l3_5, .mp 0 0 0, .sl false (a0.map (SL E_GTone)), .i (a0.length : Int), .i l2_17, .sl false (y5.map E_GTone), .i (y5.length : Int), .i l3_23]) ⟨[(0, .cells 3 [E_GTone y7])], 1⟩ _ (by kernel_rfl) (cjC ((ixE hy7).1) (cj1 (mapGet E_GTone (ixE hy7).2))) ?_
              refine run_s (c36 42) (c36 49) (by kernel_rfl) ?_
              obtain ⟨j4_48, hj4, hl3⟩ := bindE hl3
              refine run_gq (c36 44) (fun (j4_48 : Bool) => (zipE [7, 15, 16, 17, 21, 22, 23, 48] [.mp 0 0 0, .sl false (a0.map (SL E_GTone)), .i (a0.length : Int), .i l2_17, .sl false (y5.map E_GTone), .i (y5.length : Int), .i l3_23, .bool j4_48])) (fun (j4_48 : Bool) => ⟨[(0, .cells 3 [E_GTone y7])], 1⟩) (fun j => j4_48 = j) (fun kj4 => ?_) ?_
              · obtain ⟨r8, hr8, hj4⟩ := bindE hj4
                rcases iteE hj4 with ⟨hc9, hj4⟩ | ⟨hc9, hj4⟩
                · replace hj4 := Option.some.inj hj4; subst hj4
                  exact run1 (c36 44) [{}, {}, { c := some (.bool r8, ⟨[(0, .cells 3 [E_GTone y7])], 1⟩) }, {}, {}, { g := false }, { g := false }, { g := false }, { g := false }, { k := 1, b := true }, {}, { g := false }, { g := false }, { g := false }, { g := false }, { g := false }, {}, {}, { g := false }, { g := false }, { g := false }] [7, 15, 16, 17, 21, 22, 23, 48] [0] (zipE [7, 15, 16, 17, 21, 22, 23, 48] [.mp 0 0 0, .sl false (a0.map (SL E_GTone)), .i (a0.length : Int), .i l2_17, .sl false (y5.map E_GTone), .i (y5.length : Int), .i l3_23, .bool true]) ⟨[(0, .cells 3 [E_GTone y7])], 1⟩ _ (by kernel_rfl) (cjC (f71_ok y7.pitch 0 127 _ hr8 ⟨[(0, .cells 3 [E_GTone y7])], 1⟩) (cjC (hc9) (cjC (hc9) (cjC (hc9) (cjC (hc9) (cjC (hc9) (cjC (Eq.refl true) (cjC (Eq.refl true) (cjC (Eq.refl true) (cjC (Eq.refl true) (cjC (Eq.refl true) (cjC (Eq.refl true) (cjC (Eq.refl true) (cj1 (Eq.refl true))))))))))))))) (kj4 true rfl)
                · rcases iteE hj4 with ⟨hc10, hj4⟩ | ⟨hc10, hj4⟩
                  · replace hj4 := Option.some.inj hj4; subst hj4
                    exact run1 (c36 44) [{}, {}, { c := some (.bool r8, ⟨[(0, .cells 3 [E_GTone y7])], 1⟩) }, {}, {}, {}, {}, {}, {}, { k := 1, b := false }, {}, { g := false }, { g := false }, { g := false }, { g := false }, { g := false }, { k := 1, b := true }, {}, { g := false }, { g := false }, { g := false }] [7, 15, 16, 17, 21, 22, 23, 48] [0] (zipE [7, 15, 16, 17, 21, 22, 23, 48] [.mp 0 0 0, .sl false (a0.map (SL E_GTone)), .i (a0.length : Int), .i l2_17, .sl false (y5.map E_GTone), .i (y5.length : Int), .i l3_23, .bool true]) ⟨[(0, .cells 3 [E_GTone y7])], 1⟩ _ (by kernel_rfl) (cjC (f71_ok y7.pitch 0 127 _ hr8 ⟨[(0, .cells 3 [E_GTone y7])], 1⟩) (cjC (hc9) (cjC (hc9) (cjC (hc9) (cjC (hc9) (cjC (hc9) (cjC (hc10) (cjC (hc10) (cjC (hc10) (cjC (hc10) (cjC (hc10) (cjC (hc10) (cjC (Eq.refl true) (cjC (Eq.refl true) (cj1 (Eq.refl true)))))))))))))))) (kj4 true rfl)
                  · rcases iteE hj4 with ⟨hc11, hj4⟩ | ⟨hc11, hj4⟩
                    · replace hj4 := Option.some.inj hj4; subst hj4
                      exact run1 (c36 44) [{}, {}, { c := some (.bool r8, ⟨[(0, .cells 3 [E_GTone y7])], 1⟩) }, {}, {}, {}, {}, {}, {}, { k := 1, b := false }, {}, {}, {}, {}, {}, {}, { k := 1, b := false }, {}, { g := false }, { g := false }, { g := false }, { k := 1, b := true }] [7, 15, 16, 17, 21, 22, 23, 48] [0] (zipE [7, 15, 16, 17, 21, 22, 23, 48] [.mp 0 0 0, .sl false (a0.map (SL E_GTone)), .i (a0.length : Int), .i l2_17, .sl false (y5.map E_GTone), .i (y5.length : Int), .i l3_23, .bool true]) ⟨[(0, .cells 3 [E_GTone y7])], 1⟩ _ (by kernel_rfl) (cjC (f71_ok y7.pitch 0 127 _ hr8 ⟨[(0, .cells 3 [E_GTone y7])], 1⟩) (cjC (hc9) (cjC (hc9) (cjC (hc9) (cjC (hc9) (cjC (hc9) (cjC (hc10) (cjC (hc10) (cjC (hc10) (cjC (hc10) (cjC (hc10) (cjC (hc10) (cjC (hc11) (cjC (hc11) (cjC (hc11) (cj1 (hc11))))))))))))))))) (kj4 true rfl)
                    · replace hj4 := Option.some.inj hj4; subst hj4
                      exact run1 (c36 44) [{}, {}, { c := some (.bool r8, ⟨[(0, .cells 3 [E_GTone y7])], 1⟩) }, {}, {}, {}, {}, {}, {}, { k := 1, b := false }, {}, {}, {}, {}, {}, {}, { k := 1, b := false }, {}, {}, {}, {}, { k := 1, b := false }] [7, 15, 16, 17, 21, 22, 23, 48] [0] (zipE [7, 15, 16, 17, 21, 22, 23, 48] [.mp 0 0 0, .sl false (a0.map (SL E_GTone)), .i (a0.length : Int), .i l2_17, .sl false (y5.map E_GTone), .i (y5.length : Int), .i l3_23, .bool (decide (262144 < y7.to_))]) ⟨[(0, .cells 3 [E_GTone y7])], 1⟩ _ (by kernel_rfl) (cjC (f71_ok y7.pitch 0 127 _ hr8 ⟨[(0, .cells 3 [E_GTone y7])], 1⟩) (cjC (hc9) (cjC (hc9) (cjC (hc9) (cjC (hc9) (cjC (hc9) (cjC (hc10) (cjC (hc10) (cjC (hc10) (cjC (hc10) (cjC (hc10) (cjC (hc10) (cjC (hc11) (cjC (hc11) (cjC (hc11) (cj1 (hc11))))))))))))))))) (kj4 (decide (262144 < y7.to_)) rfl)
              · rintro _ rfl
                rcases iteE hl3 with ⟨hc12, hl3⟩ | ⟨hc12, hl3⟩
                · refine run_cT 48 (c36 45) (c36 48) j4_48 hc12 (by kernel_rfl) (by kernel_rfl) ?_
                  refine run1 (c36 47) [] [2] [] (zipE [2] [.i 80]) ⟨[], 1⟩ _ (by kernel_rfl) cj0 ?_
                  replace hl3 := Option.some.inj hl3; subst hl3
                  have hr := rl3 _ rfl
                  subst hr
                  replace hl2 := elimR hl2
                  replace hl2 := Option.some.inj hl2; subst hl2
                  have hr := rl2 _ rfl
                  subst hr
                  replace h := elimR h
                  refine run_t (by kernel_rfl) ?_
                  refine thenR ?_
                  refine inbR ?_
                  refine thenR ?_
                  refine ⟨⟨_, rfl⟩, ?_⟩
                  refine inbR ?_
                  refine inbR ?_
                  refine thenR ?_
                  refine ⟨⟨_, rfl⟩, ?_⟩
                  refine inbR ?_
                  refine thenR ?_
                  replace h := Option.some.inj h; subst h
                  exact fin_r (by kernel_rfl) rfl
                · refine run_cF 48 (c36 45) (c36 48) j4_48 hc12 (by kernel_rfl) (by kernel_rfl) ?_
                  refine run_k (by kernel_rfl) ?_
                  refine thenN ?_
                  refine run0 [] [5, 15, 16, 17, 21, 22, 23] [] (zipE [5, 15, 16, 17, 21, 22, 23] [.i y7.to_, .sl false (a0.map (SL E_GTone)), .i (a0.length : Int), .i l2_17, .sl false (y5.map E_GTone), .i (y5.length : Int), .i l3_23]) ⟨[], 1⟩ _ (by kernel_rfl) cj0 ?_
                  refine inbN ?_
                  refine thenN ?_
                  refine run0 [] [5, 15, 16, 17, 21, 22, 23] [] (zipE [5, 15, 16, 17, 21, 22, 23] [.i y7.to_, .sl false (a0.map (SL E_GTone)), .i (a0.length : Int), .i l2_17, .sl false (y5.map E_GTone), .i (y5.length : Int), .i (wr (l3_23 + 1))]) ⟨[], 1⟩ _ (by kernel_rfl) cj0 ?_
                  replace hl3 := Option.some.inj hl3; subst hl3
                  exact ⟨_, rfl, pi [], mkInto (ks := [5, 15, 16, 17, 21, 22, 23]) (ys := [.i y7.to_, .sl false (a0.map (SL E_GTone)), .i (a0.length : Int), .i l2_17, .sl false (y5.map E_GTone), .i (y5.length : Int), .i (wr (l3_23 + 1))]) (by kernel_rfl) (by kernel_rfl) (.k (.c rfl) (.k (.c (cleanMap _ _ (cl_SL cl_GTone))) (.k (.c rfl) (.k (.c rfl) (.k (.c (cleanMap _ _ cl_GTone)) (.k (.c rfl) (.k (.c rfl) .z))))))) .z⟩
            · refine run_cF 24 (c36 35) (c36 36) (decide (l3_23 < (y5.length : Int))) hc6 (by kernel_rfl) (by kernel_rfl) ?_
              replace hl3 := Option.some.inj hl3; subst hl3
              have hr := rl3 _ rfl
              subst hr
              refine awp_p [15, 16, 17] [] (zipE [15, 16, 17] [.sl false (a0.map (SL E_GTone)), .i (a0.length : Int), .i l2_17]) ⟨[], 0⟩ (by kernel_rfl) (?_)
              refine run_e 2 (by kernel_rfl) ?_
              refine thenE ?_
              refine ⟨⟨_, rfl⟩, ?_⟩
              refine inbE ?_
              exact kl3 () rfl
          · rintro ⟨⟩ rfl
            replace hl2 := elimL hl2
            refine inbN ?_
            refine thenN ?_
            refine run0 [] [15, 16, 17] [] (zipE [15, 16, 17] [.sl false (a0.map (SL E_GTone)), .i (a0.length : Int), .i (wr (l2_17 + 1))]) ⟨[], 0⟩ _ (by kernel_rfl) cj0 ?_
            replace hl2 := Option.some.inj hl2; subst hl2
            exact ⟨_, rfl, pi [], mkInto (ks := [15, 16, 17]) (ys := [.sl false (a0.map (SL E_GTone)), .i (a0.length : Int), .i (wr (l2_17 + 1))]) (by kernel_rfl) (by kernel_rfl) (.k (.c (cleanMap _ _ (cl_SL cl_GTone))) (.k (.c rfl) (.k (.c rfl) .z))) .z⟩
        · refine run_cF 18 (c36 19) (c36 20) (decide (l2_17 < (a0.length : Int))) hc4 (by kernel_rfl) (by kernel_rfl) ?_
          replace hl2 := Option.some.inj hl2; subst hl2
          have hr := rl2 _ rfl
          subst hr
          refine awp_p [] [] (zipE [] []) ⟨[], 0⟩ (by kernel_rfl) (?_)
          refine run_e 0 (by kernel_rfl) ?_
          refine thenE ?_
          refine ⟨⟨_, rfl⟩, ?_⟩
          refine inbE ?_
          exact kl2 () rfl
      · rintro ⟨⟩ rfl
        replace h := elimL h
        refine thenN ?_
        refine run1 (c36 54) [] [2] [] (zipE [2] [.i 0]) ⟨[], 0⟩ _ (by kernel_rfl) cj0 ?_
        refine run_t (by kernel_rfl) ?_
        replace h := Option.some.inj h; subst h
        exact fin_r (by kernel_rfl) rfl

/-- theorbo.intabulate.check -/
def f58 (a0 : List GTone) (a1 : List GFigure) : Option Int := (f36 ([a0] : List (List GTone))).bind fun r1 => bif (decide (r1 ≠ 0)) then (some r1) else ((f25 a1).bind fun r3 => some r3)
theorem f58_ok (a0 : List GTone) (a1 : List GFigure) (r : Int) (h : f58 a0 a1 = some r) : APure Tryz.prog 58 [.sl false (a0.map E_GTone), .sl false (a1.map E_GFigure)] (.i r) := by
  refine apure (clK (cleanMap a0 _ cl_GTone) (clK (cleanMap a1 _ cl_GFigure) clZ)) rfl ?_
  refine run_f 14 [.tmp 4] (c58 0) (zipE [0, 1] [.sl false (a0.map E_GTone), .sl false (a1.map E_GFigure)]) (by kernel_rfl) (by kernel_rfl) (by kernel_rfl) rfl ?_
  unfold f58 at h
  refine run1 (c58 2) [] [0, 1] [] (zipE [0, 1] [.sl false (a0.map E_GTone), .sl false (a1.map E_GFigure)]) ⟨[], 0⟩ _ (by kernel_rfl) cj0 ?_
  refine run_s (c58 3) (c58 12) (by kernel_rfl) ?_
  obtain ⟨r1, hr1, h⟩ := bindE h
  refine run1 (c58 5) [{}, {}, { c := some (.i r1, ⟨[], 0⟩) }] [1, 5] [] (zipE [1, 5] [.sl false (a1.map E_GFigure), .i r1]) ⟨[], 0⟩ _ (by kernel_rfl) (cj1 (APure.co (ok := fun _ => false) (π := id) (args := [.sl true [.sl false (a0.map E_GTone)]]) (f36_ok ([a0] : List (List GTone)) _ hr1) (.k (.s (cleanMap (([a0] : List (List GTone))) _ (cl_SL cl_GTone))) .z) ⟨[], 0⟩)) ?_
  refine run1 (c58 7) [] [1, 5, 10] [] (zipE [1, 5, 10] [.sl false (a1.map E_GFigure), .i r1, .bool (decide (r1 ≠ 0))]) ⟨[], 0⟩ _ (by kernel_rfl) cj0 ?_
  rcases iteE h with ⟨hc2, h⟩ | ⟨hc2, h⟩
  · refine run_cT 10 (c58 8) (c58 11) (decide (r1 ≠ 0)) hc2 (by kernel_rfl) (by kernel_rfl) ?_
    refine run1 (c58 10) [] [4] [] (zipE [4] [.i r1]) ⟨[], 0⟩ _ (by kernel_rfl) cj0 ?_
    refine run_t (by kernel_rfl) ?_
    refine thenR ?_
    replace h := Option.some.inj h; subst h
    exact fin_r (by kernel_rfl) rfl
  · refine run_cF 10 (c58 8) (c58 11) (decide (r1 ≠ 0)) hc2 (by kernel_rfl) (by kernel_rfl) ?_
    refine run_k (by kernel_rfl) ?_
    refine thenN ?_
    obtain ⟨r3, hr3, h⟩ := bindE h
    refine run1 (c58 14) [{}, { c := some (.i r3, ⟨[], 0⟩) }] [4] [] (zipE [4] [.i r3]) ⟨[], 0⟩ _ (by kernel_rfl) (cj1 (f25_ok a1 _ hr3 ⟨[], 0⟩)) ?_
    refine run_t (by kernel_rfl) ?_
    replace h := Option.some.inj h; subst h
    exact fin_r (by kernel_rfl) rfl

/-- theorbo.intabulate.sum -/
def f95 (a0 : List Int) : Option Int := (loopN (σ := (Int × Int)) (τ := Int) (fun ((l1_2, l1_7) : (Int × Int)) => bif (decide (l1_7 < (a0.length : Int))) then ((ix a0 l1_7).bind fun y2 => some (.inl ((wr (l1_2 + y2)), (wr (l1_7 + 1))))) else (some (.inr l1_2))) FUEL (0, 0)).bind fun (l1x_2 : Int) => some l1x_2
theorem f95_ok (a0 : List Int) (r : Int) (h : f95 a0 = some r) : APure Tryz.prog 95 [.sl false (a0.map AV.i)] (.i r) := by
  refine apure (clK (cleanMap a0 _ cl_i) clZ) rfl ?_
  refine run_f 16 [.tmp 2] (c95 0) (zipE [0] [.sl false (a0.map AV.i)]) (by kernel_rfl) (by kernel_rfl) (by kernel_rfl) rfl ?_
  unfold f95 at h
  refine run1 (c95 2) [] [0, 2] [] (zipE [0, 2] [.sl false (a0.map AV.i), .i 0]) ⟨[], 0⟩ _ (by kernel_rfl) cj0 ?_
  refine run_s (c95 3) (c95 19) (by kernel_rfl) ?_
  refine run1 (c95 5) [{}, { k := 1, n := a0.length }] [2, 5, 6, 7] [] (zipE [2, 5, 6, 7] [.i 0, .sl false (a0.map AV.i), .i (a0.length : Int), .i 0]) ⟨[], 0⟩ _ (by kernel_rfl) (cj1 (mapLen a0 AV.i)) ?_
  obtain ⟨l1x_2, hll1x, h⟩ := bindE h
  refine run_tq (fun (l1x_2 : Int) => (zipE [2] [.i l1x_2])) (fun (l1x_2 : Int) => ⟨[], 0⟩) (fun j => l1x_2 = j) (fun kl1 => ?_) ?_
  · refine run_b 0 (c95 6) (by kernel_rfl) ?_
    refine run_l (c95 7) _ hll1x (fun ((l1_2, l1_7) : (Int × Int)) => (zipE [2, 5, 6, 7] [.i l1_2, .sl false (a0.map AV.i), .i (a0.length : Int), .i l1_7])) (fun ((l1_2, l1_7) : (Int × Int)) => ⟨[], 0⟩) [] (by intro i e; cases e <;> exact Nat.le_of_ble_eq_true rfl) (by kernel_rfl) (mkInto (ks := [2, 5, 6, 7]) (ys := [.i 0, .sl false (a0.map AV.i), .i (a0.length : Int), .i 0]) (by kernel_rfl) (by kernel_rfl) (.k (.c rfl) (.k (.c (cleanMap _ _ cl_i)) (.k (.c rfl) (.k (.c rfl) .z)))) .z) ?_
    rintro ⟨l1_2, l1_7⟩ out hl1 rl1
    refine run1 (c95 9) [] [2, 5, 6, 7, 8] [] (zipE [2, 5, 6, 7, 8] [.i l1_2, .sl false (a0.map AV.i), .i (a0.length : Int), .i l1_7, .bool (decide (l1_7 < (a0.length : Int)))]) ⟨[], 0⟩ _ (by kernel_rfl) cj0 ?_
    refine run_s (c95 10) (c95 13) (by kernel_rfl) ?_
    rcases iteE hl1 with ⟨hc1, hl1⟩ | ⟨hc1, hl1⟩
    · refine run_cT 8 (c95 11) (c95 12) (decide (l1_7 < (a0.length : Int))) hc1 (by kernel_rfl) (by kernel_rfl) ?_
      refine run_k (by kernel_rfl) ?_
      refine thenN ?_
      refine run_s (c95 14) (c95 18) (by kernel_rfl) ?_
      refine run_b 1 (c95 15) (by kernel_rfl) ?_
      obtain ⟨y2, hy2, hl1⟩ := bindE hl1
      refine run1 (c95 17) [{ k := 1, x := AV.i y2 }] [2, 4, 5, 6, 7] [] (zipE [2, 4, 5, 6, 7] [.i l1_2, .i y2, .sl false (a0.map AV.i), .i (a0.length : Int), .i l1_7]) ⟨[], 0⟩ _ (by kernel_rfl) (cjC ((ixE hy2).1) (cj1 (mapGet AV.i (ixE hy2).2))) ?_
      refine run0 [] [2, 5, 6, 7] [] (zipE [2, 5, 6, 7] [.i (wr (l1_2 + y2)), .sl false (a0.map AV.i), .i (a0.length : Int), .i l1_7]) ⟨[], 0⟩ _ (by kernel_rfl) cj0 ?_
      refine inbN ?_
      refine thenN ?_
      refine run0 [] [2, 5, 6, 7] [] (zipE [2, 5, 6, 7] [.i (wr (l1_2 + y2)), .sl false (a0.map AV.i), .i (a0.length : Int), .i (wr (l1_7 + 1))]) ⟨[], 0⟩ _ (by kernel_rfl) cj0 ?_
      replace hl1 := Option.some.inj hl1; subst hl1
      exact ⟨_, rfl, pi [], mkInto (ks := [2, 5, 6, 7]) (ys := [.i (wr (l1_2 + y2)), .sl false (a0.map AV.i), .i (a0.length : Int), .i (wr (l1_7 + 1))]) (by kernel_rfl) (by kernel_rfl) (.k (.c rfl) (.k (.c (cleanMap _ _ cl_i)) (.k (.c rfl) (.k (.c rfl) .z)))) .z⟩
    · refine run_cF 8 (c95 11) (c95 12) (decide (l1_7 < (a0.length : Int))) hc1 (by kernel_rfl) (by kernel_rfl) ?_
      replace hl1 := Option.some.inj hl1; subst hl1
      have hr := rl1 _ rfl
      subst hr
      refine awp_p [2] [] (zipE [2] [.i l1_2]) ⟨[], 0⟩ (by kernel_rfl) (?_)
      refine run_e 0 (by kernel_rfl) ?_
      refine thenE ?_
      refine ⟨⟨_, rfl⟩, ?_⟩
      refine inbE ?_
      exact kl1 l1_2 rfl
  · rintro _ rfl
    refine thenN ?_
    refine run1 (c95 21) [] [2] [] (zipE [2] [.i l1x_2]) ⟨[], 0⟩ _ (by kernel_rfl) cj0 ?_
    refine run_t (by kernel_rfl) ?_
    replace h := Option.some.inj h; subst h
    exact fin_r (by kernel_rfl) rfl

/-- theorbo.intabulate.fits$1 -/
def f97 (a0 : Int) (a1 : GTone) : Option Bool := (f48 (wr (a1.pitch + a0)) 0 127).bind fun r1 => some (!r1)
theorem f97_ok (a0 : Int) (a1 : GTone) (r : Bool) (h : f97 a0 a1 = some r) : ACalls Tryz.prog 97 [.i a0, .mp 0 0 0] ⟨[(0, .cells 3 [E_GTone a1])], 1⟩ (fun y t => y = .bool r ∧ t = ⟨[(0, .cells 3 [E_GTone a1])], 1⟩) := by
  refine run_f 10 [.tmp 3] (c97 0) (zipE [0, 1] [.i a0, .mp 0 0 0]) (by kernel_rfl) (by kernel_rfl) (by kernel_rfl) rfl ?_
  unfold f97 at h
  refine run1 (c97 2) [] [0, 1] [0] (zipE [0, 1] [.i a0, .mp 0 0 0]) ⟨[(0, .cells 3 [E_GTone a1])], 1⟩ _ (by kernel_rfl) cj0 ?_
  obtain ⟨r1, hr1, h⟩ := bindE h
  refine run1 (c97 4) [{}, {}, {}, {}, { c := some (.bool r1, ⟨[(0, .cells 3 [E_GTone a1])], 1⟩) }] [3] [0] (zipE [3] [.bool (!r1)]) ⟨[(0, .cells 3 [E_GTone a1])], 1⟩ _ (by kernel_rfl) (cj1 (f48_ok (wr (a1.pitch + a0)) 0 127 _ hr1 ⟨[(0, .cells 3 [E_GTone a1])], 1⟩)) ?_
  refine run_t (by kernel_rfl) ?_
  replace h := Option.some.inj h; subst h
  exact fin_p [0] ⟨[(0, .cells 3 [E_GTone a1])], 1⟩ (by kernel_rfl) (by kernel_rfl) rfl ⟨rfl, rfl⟩

/-- slices.IndexFunc[[]int,int] -/
def f124 (a0 : List Int) (a1_0 : GTone) : Option Int := (loopN (σ := Int) (τ := (Unit ⊕ Int)) (fun (l1_8 : Int) => bif (decide (l1_8 < (a0.length : Int))) then ((ix a0 l1_8).bind fun y2 => (f97 y2 a1_0).bind fun r3 => bif r3 then (some (.inr (.inr l1_8))) else (some (.inl (wr (l1_8 + 1))))) else (some (.inr (.inl ())))) FUEL 0).bind (Sum.elim (fun (_ : Unit) => some (-1)) some)
theorem f124_ok (a0 : List Int) (a1_0 : GTone) (r : Int) (h : f124 a0 a1_0 = some r) : ACalls Tryz.prog 124 [.sl false (a0.map AV.i), .fn 97 [.mp 0 0 0]] ⟨[(0, .cells 3 [E_GTone a1_0])], 1⟩ (fun y t => y = .i r ∧ t = ⟨[(0, .cells 3 [E_GTone a1_0])], 1⟩) := by
  refine run_f 19 [.tmp 4] (c124 0) (zipE [0, 1] [.sl false (a0.map AV.i), .fn 97 [.mp 0 0 0]]) (by kernel_rfl) (by kernel_rfl) (by kernel_rfl) rfl ?_
  unfold f124 at h
  refine run1 (c124 2) [] [0, 1] [0] (zipE [0, 1] [.sl false (a0.map AV.i), .fn 97 [.mp 0 0 0]]) ⟨[(0, .cells 3 [E_GTone a1_0])], 1⟩ _ (by kernel_rfl) cj0 ?_
  refine run_s (c124 3) (c124 25) (by kernel_rfl) ?_
  refine run1 (c124 5) [{}, { k := 1, n := a0.length }] [0, 1, 7, 8] [0] (zipE [0, 1, 7, 8] [.sl false (a0.map AV.i), .fn 97 [.mp 0 0 0], .i (a0.length : Int), .i 0]) ⟨[(0, .cells 3 [E_GTone a1_0])], 1⟩ _ (by kernel_rfl) (cj1 (mapLen a0 AV.i)) ?_
  obtain ⟨ol1x, hll1x, h⟩ := bindE h
  refine run_tq (fun (_ : Unit) => (zipE [] [])) (fun (_ : Unit) => ⟨[(0, .cells 3 [E_GTone a1_0])], 1⟩) (fun j => ol1x = .inl j) (fun kl1 => ?_) ?_
  · refine run_b 0 (c124 6) (by kernel_rfl) ?_
    refine run_l (c124 7) _ hll1x (fun (l1_8 : Int) => (zipE [0, 1, 7, 8] [.sl false (a0.map AV.i), .fn 97 [.mp 0 0 0], .i (a0.length : Int), .i l1_8])) (fun (l1_8 : Int) => ⟨[(0, .cells 3 [E_GTone a1_0])], 1⟩) [] (by intro i e; cases e <;> exact Nat.le_of_ble_eq_true rfl) (by kernel_rfl) (mkInto (ks := [0, 1, 7, 8]) (ys := [.sl false (a0.map AV.i), .fn 97 [.mp 0 0 0], .i (a0.length : Int), .i 0]) (by kernel_rfl) (by kernel_rfl) (.k (.c (cleanMap _ _ cl_i)) (.k (.f (.k (.mp rfl rfl) .z)) (.k (.c rfl) (.k (.c rfl) .z)))) (.k (x' := .cells 3 [E_GTone a1_0]) (by kernel_rfl) (.cells (.k (.c (cl_GTone a1_0)) .z)) .z)) ?_
    rintro l1_8 out hl1 rl1
    refine run1 (c124 9) [] [0, 1, 7, 8, 9] [0] (zipE [0, 1, 7, 8, 9] [.sl false (a0.map AV.i), .fn 97 [.mp 0 0 0], .i (a0.length : Int), .i l1_8, .bool (decide (l1_8 < (a0.length : Int)))]) ⟨[(0, .cells 3 [E_GTone a1_0])], 1⟩ _ (by kernel_rfl) cj0 ?_
    refine run_s (c124 10) (c124 13) (by kernel_rfl) ?_
    rcases iteE hl1 with ⟨hc1, hl1⟩ | ⟨hc1, hl1⟩
    · refine run_cT 9 (c124 11) (c124 12) (decide (l1_8 < (a0.length : Int))) hc1 (by kernel_rfl) (by kernel_rfl) ?_
      refine run_k (by kernel_rfl) ?_
      refine thenN ?_
      refine run_s (c124 14) (c124 24) (by kernel_rfl) ?_
      refine run_b 1 (c124 15) (by kernel_rfl) ?_
      refine run1 (c124 17) [] [0, 1, 5, 7, 8] [0] (zipE [0, 1, 5, 7, 8] [.sl false (a0.map AV.i), .fn 97 [.mp 0 0 0], .i l1_8, .i (a0.length : Int), .i l1_8]) ⟨[(0, .cells 3 [E_GTone a1_0])], 1⟩ _ (by kernel_rfl) cj0 ?_
      obtain ⟨y2, hy2, hl1⟩ := bindE hl1
      obtain ⟨r3, hr3, hl1⟩ := bindE hl1
      refine run1 (c124 19) [{}, {}, {}, { k := 1, x := AV.i y2 }, {}, { c := some (.bool r3, ⟨[(0, .cells 3 [E_GTone a1_0])], 1⟩) }] [0, 1, 5, 7, 8, 16] [0] (zipE [0, 1, 5, 7, 8, 16] [.sl false (a0.map AV.i), .fn 97 [.mp 0 0 0], .i l1_8, .i (a0.length : Int), .i l1_8, .bool r3]) ⟨[(0, .cells 3 [E_GTone a1_0])], 1⟩ _ (by kernel_rfl) (cjC ((ixE hy2).1) (cjC (mapGet AV.i (ixE hy2).2) (cj1 (callF (f97_ok y2 a1_0 _ hr3) [(0, 0)] [(0, 0)] [] [.i y2, .mp 0 0 0] ⟨[(0, .cells 3 [E_GTone a1_0])], 1⟩ (.bool r3) ⟨[(0, .cells 3 [E_GTone a1_0])], 1⟩ (by kernel_rfl) (.k (.c rfl) (.k (.mp rfl rfl) .z)) (.c rfl) (.k (x' := .cells 3 [E_GTone a1_0]) (by kernel_rfl) (.cells (.k (.c (cl_GTone a1_0)) .z)) .z) (.d (x' := .cells 3 [E_GTone a1_0]) rfl (by kernel_rfl) (.cells (.k (.c (cl_GTone a1_0)) .z)) .z))))) ?_
      rcases iteE hl1 with ⟨hc4, hl1⟩ | ⟨hc4, hl1⟩
      · refine run_cT 16 (c124 20) (c124 23) r3 hc4 (by kernel_rfl) (by kernel_rfl) ?_
        refine run1 (c124 22) [] [4] [0] (zipE [4] [.i l1_8]) ⟨[(0, .cells 3 [E_GTone a1_0])], 1⟩ _ (by kernel_rfl) cj0 ?_
        replace hl1 := Option.some.inj hl1; subst hl1
        have hr := rl1 _ rfl
        subst hr
        replace h := elimR h
        refine run_t (by kernel_rfl) ?_
        refine inbR ?_
        refine thenR ?_
        refine ⟨⟨_, rfl⟩, ?_⟩
        refine inbR ?_
        refine thenR ?_
        replace h := Option.some.inj h; subst h
        exact fin_p [0] ⟨[(0, .cells 3 [E_GTone a1_0])], 1⟩ (by kernel_rfl) (by kernel_rfl) rfl ⟨rfl, rfl⟩
      · refine run_cF 16 (c124 20) (c124 23) r3 hc4 (by kernel_rfl) (by kernel_rfl) ?_
        refine run_k (by kernel_rfl) ?_
        refine inbN ?_
        refine thenN ?_
        refine run0 [] [0, 1, 7, 8] [0] (zipE [0, 1, 7, 8] [.sl false (a0.map AV.i), .fn 97 [.mp 0 0 0], .i (a0.length : Int), .i (wr (l1_8 + 1))]) ⟨[(0, .cells 3 [E_GTone a1_0])], 1⟩ _ (by kernel_rfl) cj0 ?_
        replace hl1 := Option.some.inj hl1; subst hl1
        exact ⟨_, rfl, pi [], mkInto (ks := [0, 1, 7, 8]) (ys := [.sl false (a0.map AV.i), .fn 97 [.mp 0 0 0], .i (a0.length : Int), .i (wr (l1_8 + 1))]) (by kernel_rfl) (by kernel_rfl) (.k (.c (cleanMap _ _ cl_i)) (.k (.f (.k (.mp rfl rfl) .z)) (.k (.c rfl) (.k (.c rfl) .z)))) (.k (x' := .cells 3 [E_GTone a1_0]) (by kernel_rfl) (.cells (.k (.c (cl_GTone a1_0)) .z)) .z)⟩
    · refine run_cF 9 (c124 11) (c124 12) (decide (l1_8 < (a0.length : Int))) hc1 (by kernel_rfl) (by kernel_rfl) ?_
      replace hl1 := Option.some.inj hl1; subst hl1
      have hr := rl1 _ rfl
      subst hr
      refine awp_p [] [0] (zipE [] []) ⟨[(0, .cells 3 [E_GTone a1_0])], 1⟩ (by kernel_rfl) (?_)
      refine run_e 0 (by kernel_rfl) ?_
      refine thenE ?_
      refine ⟨⟨_, rfl⟩, ?_⟩
      refine inbE ?_
      exact kl1 () rfl
  · rintro ⟨⟩ rfl
    replace h := elimL h
    refine thenN ?_
    refine run1 (c124 27) [] [4] [0] (zipE [4] [.i (-1)]) ⟨[(0, .cells 3 [E_GTone a1_0])], 1⟩ _ (by kernel_rfl) cj0 ?_
    refine run_t (by kernel_rfl) ?_
    replace h := Option.some.inj h; subst h
    exact fin_p [0] ⟨[(0, .cells 3 [E_GTone a1_0])], 1⟩ (by kernel_rfl) (by kernel_rfl) rfl ⟨rfl, rfl⟩

/-- slices.ContainsFunc[[]int,int] -/
def f96 (a0 : List Int) (a1_0 : GTone) : Option Bool := (f124 a0 a1_0).bind fun r1 => some (decide (0 ≤ r1))
theorem f96_ok (a0 : List Int) (a1_0 : GTone) (r : Bool) (h : f96 a0 a1_0 = some r) : ACalls Tryz.prog 96 [.sl false (a0.map AV.i), .fn 97 [.mp 0 0 0]] ⟨[(0, .cells 3 [E_GTone a1_0])], 1⟩ (fun y t => y = .bool r ∧ t = ⟨[(0, .cells 3 [E_GTone a1_0])], 1⟩) := by
  refine run_f 9 [.tmp 4] (c96 0) (zipE [0, 1] [.sl false (a0.map AV.i), .fn 97 [.mp 0 0 0]]) (by kernel_rfl) (by kernel_rfl) (by kernel_rfl) rfl ?_
  unfold f96 at h
  refine run1 (c96 2) [] [0, 1] [0] (zipE [0, 1] [.sl false (a0.map AV.i), .fn 97 [.mp 0 0 0]]) ⟨[(0, .cells 3 [E_GTone a1_0])], 1⟩ _ (by kernel_rfl) cj0 ?_
  obtain ⟨r1, hr1, h⟩ := bindE h
  refine run1 (c96 4) [{}, {}, { c := some (.i r1, ⟨[(0, .cells 3 [E_GTone a1_0])], 1⟩) }] [4] [0] (zipE [4] [.bool (decide (0 ≤ r1))]) ⟨[(0, .cells 3 [E_GTone a1_0])], 1⟩ _ (by kernel_rfl) (cj1 (callF (f124_ok a0 a1_0 _ hr1) [(0, 0)] [(0, 0)] [] [.sl false (a0.map AV.i), .fn 97 [.mp 0 0 0]] ⟨[(0, .cells 3 [E_GTone a1_0])], 1⟩ (.i r1) ⟨[(0, .cells 3 [E_GTone a1_0])], 1⟩ (by kernel_rfl) (.k (.c (cleanMap _ _ cl_i)) (.k (.f (.k (.mp rfl rfl) .z)) .z)) (.c rfl) (.k (x' := .cells 3 [E_GTone a1_0]) (by kernel_rfl) (.cells (.k (.c (cl_GTone a1_0)) .z)) .z) (.d (x' := .cells 3 [E_GTone a1_0]) rfl (by kernel_rfl) (.cells (.k (.c (cl_GTone a1_0)) .z)) .z))) ?_
  refine run_t (by kernel_rfl) ?_
  replace h := Option.some.inj h; subst h
  exact fin_p [0] ⟨[(0, .cells 3 [E_GTone a1_0])], 1⟩ (by kernel_rfl) (by kernel_rfl) rfl ⟨rfl, rfl⟩

/-- theorbo.intabulate.fits -/
def f59 (a0 : List GTone) (a1 : GFigure) (a2 : Int) : Option Bool := bif (decide ((a0.length : Int) ≤ (wr (a2 + 1)))) then (some false) else ((ix a0 a2).bind fun y2 => (ix a0 (wr (a2 + 1))).bind fun y3 => ((bif (decide (y3.from_ ≠ y2.to_)) then (some true) else (bif (decide ((wr (y3.pitch - y2.pitch)) ≠ a1.interval)) then (some true) else ((f95 a1.shares).bind fun r6 => need (r6 ≠ 0) <| some (decide ((Int.tmod (wr (y2.to_ - y2.from_)) r6) ≠ 0))))) : Option Bool).bind fun (j1_49 : Bool) => bif j1_49 then (some false) else ((f96 a1.moves y2).bind fun r9 => some (!r9)))
theorem f59_ok (a0 : List GTone) (a1 : GFigure) (a2 : Int) (r : Bool) (h : f59 a0 a1 a2 = some r) : APure Tryz.prog 59 [.sl false (a0.map E_GTone), E_GFigure a1, .i a2] (.bool r) := by
  refine apure (clK (cleanMap a0 _ cl_GTone) (clK (cl_GFigure a1) (clK rfl clZ))) rfl ?_
  refine run_f 55 [.tmp 6] (c59 0) (zipE [0, 1, 2] [.sl false (a0.map E_GTone), E_GFigure a1, .i a2]) (by kernel_rfl) (by kernel_rfl) (by kernel_rfl) rfl ?_
  unfold f59 at h
  refine run1 (c59 2) [] [0, 2, 4] [0] (zipE [0, 2, 4] [.sl false (a0.map E_GTone), .i a2, .mp 0 0 0]) ⟨[(0, .cells 3 [E_GFigure a1])], 1⟩ _ (by kernel_rfl) cj0 ?_
  refine run_s (c59 3) (c59 10) (by kernel_rfl) ?_
  refine run1 (c59 5) [{}, {}, {}, { k := 1, n := a0.length }] [0, 2, 4, 13] [0] (zipE [0, 2, 4, 13] [.sl false (a0.map E_GTone), .i a2, .mp 0 0 0, .bool (decide ((a0.length : Int) ≤ (wr (a2 + 1))))]) ⟨[(0, .cells 3 [E_GFigure a1])], 1⟩ _ (by kernel_rfl) (cj1 (mapLen a0 E_GTone)) ?_
  rcases iteE h with ⟨hc1, h⟩ | ⟨hc1, h⟩
  · refine run_cT 13 (c59 6) (c59 9) (decide ((a0.length : Int) ≤ (wr (a2 + 1)))) hc1 (by kernel_rfl) (by kernel_rfl) ?_
    refine run1 (c59 8) [] [6] [] (zipE [6] [.bool false]) ⟨[], 1⟩ _ (by kernel_rfl) cj0 ?_
    refine run_t (by kernel_rfl) ?_
    refine thenR ?_
    replace h := Option.some.inj h; subst h
    exact fin_r (by kernel_rfl) rfl
  · refine run_cF 13 (c59 6) (c59 9) (decide ((a0.length : Int) ≤ (wr (a2 + 1)))) hc1 (by kernel_rfl) (by kernel_rfl) ?_
    refine run_k (by kernel_rfl) ?_
    refine thenN ?_
    obtain ⟨y2, hy2, h⟩ := bindE h
    obtain ⟨y3, hy3, h⟩ := bindE h
    refine yun1 (c59 12) [[], [], [0, 1], [0, 1, 2], [], [], [5], [4, 5, 6], [4, 5, 6, 7], [], [], [0, 1, 2, 3, 9, 10], [0, 1, 2, 3, 4, 5, 6, 7, 8, 9, 10, 11]] [.light 0 false, .light 1 false, .light 2 false, .light 3 false, .light 4 false, .light 5 false, .light 6 false, .light 7 true, .light 8 true, .alloc 9, .alloc 10, .heavy 11 [7, 8], .heavy 12 []] [{}, {}, { k := 1, x := E_GTone y2 }, {}, {}, {}, {}, { k := 1, x := E_GTone y3 }] [4, 7, 8] [2, 1, 0] (zipE [4, 7, 8] [.mp 0 0 0, .mp 1 0 0, .mp 2 0 0]) ⟨[(2, .cells 3 [E_GTone y3]), (1, .cells 3 [E_GTone y2]), (0, .cells 3 [E_GFigure a1])], 3⟩ _ (by kernel_rfl) (cjC ((ixE hy2).1) (cjC (mapGet E_GTone (ixE hy2).2) (cjC ((ixE hy3).1) (cjC (mapGet E_GTone (ixE hy3).2) (cjC (@Eq.refl AV (.ip [.i y3.pitch, .i y3.from_, .i y3.to_])) (cjC ((ixE hy3).1) (cjC (mapGet E_GTone (ixE hy3).2) (cj1 (@Eq.refl AV (E_GTone y3)))))))))) ?_
    refine run_s (c59 13) (c59 20) (by kernel_rfl) ?_
    obtain ⟨j1_49, hj1, h⟩ := bindE h
    refine run_gq (c59 15) (fun (j1_49 : Bool) => (zipE [4, 7, 49] [.mp 0 0 0, .mp 1 0 0, .bool j1_49])) (fun (j1_49 : Bool) => ⟨[(1, .cells 3 [E_GTone y2]), (0, .cells 3 [E_GFigure a1])], 3⟩) (fun j => j1_49 = j) (fun kj1 => ?_) ?_
    · rcases iteE hj1 with ⟨hc4, hj1⟩ | ⟨hc4, hj1⟩
      · replace hj1 := Option.some.inj hj1; subst hj1
        exact yun1 (c59 15) [[], [0], [], [2], [0, 1, 2, 3], [0, 1, 2, 3, 4], [0, 1, 2, 3, 4, 5], [0, 1, 2, 3, 4, 5, 6], [0, 1, 2, 3, 4, 5], [0, 1, 2, 3, 4, 5, 8], [0, 1, 2, 3, 4, 5, 6, 7, 8, 9], [0, 1, 2, 3, 4, 5], [0, 1, 2, 3, 4, 5, 11], [0, 1, 2, 3, 4, 5, 6, 7, 8, 9, 10, 11, 12], [0, 1, 2, 3, 4, 5, 6, 7, 8, 9, 10, 11, 12, 13], [0, 1, 2, 3, 4, 5, 6, 7, 8, 9, 10, 11, 12, 13, 14], [0, 1, 2, 3, 4, 5, 6, 7, 8, 9, 10, 11, 12, 13, 14, 15], [0, 1, 2, 3, 4, 5, 6, 7, 8, 9, 10, 11, 12, 13, 14, 15, 16], [0, 1, 2, 3, 4, 5, 6, 7, 8, 9, 10, 11, 12, 13, 14, 15], [0, 1, 2, 3, 4, 5, 6, 7, 8, 9, 10, 11, 12, 13, 14, 15, 18], [0, 1, 2, 3, 4, 5, 6, 7, 8, 9, 10, 11, 12, 13, 14, 15, 16, 17, 18, 19], [0, 1, 2, 3, 4, 5, 6, 7, 8, 9, 10, 11, 12, 13, 14, 15], [0, 1, 2, 3, 4, 5, 6, 7, 8, 9, 10, 11, 12, 13, 14, 15, 21], [0, 1, 2, 3, 4, 5, 6, 7, 8, 9, 10, 11, 12, 13, 14, 15, 21, 22], [0, 1, 2, 3, 4, 5, 6, 7, 8, 9, 10, 11, 12, 13, 14, 15, 16, 17, 18, 19, 20, 21, 22, 23], [0, 1, 2, 3, 4, 5, 6, 7, 8, 9, 10, 11, 12, 13, 14, 15, 16, 17, 18, 19, 20, 21, 22, 23, 24], [0, 1, 2, 3, 4, 5, 6, 7, 8, 9, 10, 11, 12, 13, 14, 15, 16, 17, 18, 19, 20, 21, 22, 23, 24, 25]] [.light 0 false, .light 1 false, .light 2 false, .light 3 false, .light 4 false, .light 5 false, .light 6 false, .light 7 false, .light 8 false, .light 9 false, .light 10 false, .light 11 false, .light 12 false, .light 13 false, .light 14 false, .light 15 false, .light 16 false, .light 17 true, .light 18 false, .light 19 true, .light 20 false, .light 21 false, .light 22 false, .heavy 23 [17, 19], .light 24 false, .light 25 false, .light 26 false] [{}, {}, {}, {}, {}, {}, { g := false }, { g := false }, { g := false }, { g := false }, { g := false }, { g := false }, { g := false }, { g := false }, {}, {}, { g := false }, { g := false }, { g := false }, { g := false }, { g := false }, { g := false }, { g := false }, { g := false }, { g := false }, { g := false }] [4, 7, 49] [1, 0] (zipE [4, 7, 49] [.mp 0 0 0, .mp 1 0 0, .bool true]) ⟨[(1, .cells 3 [E_GTone y2]), (0, .cells 3 [E_GFigure a1])], 3⟩ _ (by kernel_rfl) (cjC (hc4) (cjC (Eq.refl true) (cjC (Eq.refl true) (cjC (Eq.refl true) (cjC (Eq.refl true) (cjC (Eq.refl true) (cjC (Eq.refl true) (cjC (Eq.refl true) (cjC (Eq.refl true) (cjC (Eq.refl true) (cjC (Eq.refl true) (cjC (Eq.refl true) (cjC (Eq.refl true) (cjC (Eq.refl true) (cjC (Eq.refl true) (cjC (Eq.refl true) (cjC (Eq.refl true) (cj1 (Eq.refl true))))))))))))))))))) (kj1 true rfl)
      · rcases iteE hj1 with ⟨hc5, hj1⟩ | ⟨hc5, hj1⟩
        · replace hj1 := Option.some.inj hj1; subst hj1
          exact yun1 (c59 15) [[], [0], [], [2], [0, 1, 2, 3], [0, 1, 2, 3, 4], [0, 1, 2, 3, 4, 5], [0, 1, 2, 3, 4, 5, 6], [0, 1, 2, 3, 4, 5], [0, 1, 2, 3, 4, 5, 8], [0, 1, 2, 3, 4, 5, 6, 7, 8, 9], [0, 1, 2, 3, 4, 5], [0, 1, 2, 3, 4, 5, 11], [0, 1, 2, 3, 4, 5, 6, 7, 8, 9, 10, 11, 12], [0, 1, 2, 3, 4, 5, 6, 7, 8, 9, 10, 11, 12, 13], [0, 1, 2, 3, 4, 5, 6, 7, 8, 9, 10, 11, 12, 13, 14], [0, 1, 2, 3, 4, 5, 6, 7, 8, 9, 10, 11, 12, 13, 14, 15], [0, 1, 2, 3, 4, 5, 6, 7, 8, 9, 10, 11, 12, 13, 14, 15, 16], [0, 1, 2, 3, 4, 5, 6, 7, 8, 9, 10, 11, 12, 13, 14, 15], [0, 1, 2, 3, 4, 5, 6, 7, 8, 9, 10, 11, 12, 13, 14, 15, 18], [0, 1, 2, 3, 4, 5, 6, 7, 8, 9, 10, 11, 12, 13, 14, 15, 16, 17, 18, 19], [0, 1, 2, 3, 4, 5, 6, 7, 8, 9, 10, 11, 12, 13, 14, 15], [0, 1, 2, 3, 4, 5, 6, 7, 8, 9, 10, 11, 12, 13, 14, 15, 21], [0, 1, 2, 3, 4, 5, 6, 7, 8, 9, 10, 11, 12, 13, 14, 15, 21, 22], [0, 1, 2, 3, 4, 5, 6, 7, 8, 9, 10, 11, 12, 13, 14, 15, 16, 17, 18, 19, 20, 21, 22, 23], [0, 1, 2, 3, 4, 5, 6, 7, 8, 9, 10, 11, 12, 13, 14, 15, 16, 17, 18, 19, 20, 21, 22, 23, 24], [0, 1, 2, 3, 4, 5, 6, 7, 8, 9, 10, 11, 12, 13, 14, 15, 16, 17, 18, 19, 20, 21, 22, 23, 24, 25]] [.light 0 false, .light 1 false, .light 2 false, .light 3 false, .light 4 false, .light 5 false, .light 6 false, .light 7 false, .light 8 false, .light 9 false, .light 10 false, .light 11 false, .light 12 false, .light 13 false, .light 14 false, .light 15 false, .light 16 false, .light 17 true, .light 18 false, .light 19 true, .light 20 false, .light 21 false, .light 22 false, .heavy 23 [17, 19], .light 24 false, .light 25 false, .light 26 false] [{}, {}, {}, {}, {}, {}, {}, {}, {}, {}, {}, {}, {}, {}, {}, {}, { g := false }, { g := false }, { g := false }, { g := false }, { g := false }, { g := false }, { g := false }, { g := false }, { g := false }, { g := false }] [4, 7, 49] [1, 0] (zipE [4, 7, 49] [.mp 0 0 0, .mp 1 0 0, .bool true]) ⟨[(1, .cells 3 [E_GTone y2]), (0, .cells 3 [E_GFigure a1])], 3⟩ _ (by kernel_rfl) (cjC (hc4) (cjC (Eq.refl false) (cjC (Eq.refl false) (cjC (Eq.refl false) (cjC (Eq.refl false) (cjC (Eq.refl false) (cjC (Eq.refl false) (cjC (Eq.refl false) (cjC (hc5) (cjC (Eq.refl true) (cjC (Eq.refl true) (cjC (Eq.refl true) (cjC (Eq.refl true) (cjC (Eq.refl true) (cjC (Eq.refl true) (cjC (Eq.refl true) (cjC (Eq.refl true) (cj1 (Eq.refl true))))))))))))))))))) (kj1 true rfl)
        · obtain ⟨r6, hr6, hj1⟩ := bindE hj1
          obtain ⟨hn7, hj1⟩ := needE hj1
          replace hj1 := Option.some.inj hj1; subst hj1
          exact yun1 (c59 15) [[], [0], [], [2], [0, 1, 2, 3], [0, 1, 2, 3, 4], [0, 1, 2, 3, 4, 5], [0, 1, 2, 3, 4, 5, 6], [0, 1, 2, 3, 4, 5], [0, 1, 2, 3, 4, 5, 8], [0, 1, 2, 3, 4, 5, 6, 7, 8, 9], [0, 1, 2, 3, 4, 5], [0, 1, 2, 3, 4, 5, 11], [0, 1, 2, 3, 4, 5, 6, 7, 8, 9, 10, 11, 12], [0, 1, 2, 3, 4, 5, 6, 7, 8, 9, 10, 11, 12, 13], [0, 1, 2, 3, 4, 5, 6, 7, 8, 9, 10, 11, 12, 13, 14], [0, 1, 2, 3, 4, 5, 6, 7, 8, 9, 10, 11, 12, 13, 14, 15], [0, 1, 2, 3, 4, 5, 6, 7, 8, 9, 10, 11, 12, 13, 14, 15, 16], [0, 1, 2, 3, 4, 5, 6, 7, 8, 9, 10, 11, 12, 13, 14, 15], [0, 1, 2, 3, 4, 5, 6, 7, 8, 9, 10, 11, 12, 13, 14, 15, 18], [0, 1, 2, 3, 4, 5, 6, 7, 8, 9, 10, 11, 12, 13, 14, 15, 16, 17, 18, 19], [0, 1, 2, 3, 4, 5, 6, 7, 8, 9, 10, 11, 12, 13, 14, 15], [0, 1, 2, 3, 4, 5, 6, 7, 8, 9, 10, 11, 12, 13, 14, 15, 21], [0, 1, 2, 3, 4, 5, 6, 7, 8, 9, 10, 11, 12, 13, 14, 15, 21, 22], [0, 1, 2, 3, 4, 5, 6, 7, 8, 9, 10, 11, 12, 13, 14, 15, 16, 17, 18, 19, 20, 21, 22, 23], [0, 1, 2, 3, 4, 5, 6, 7, 8, 9, 10, 11, 12, 13, 14, 15, 16, 17, 18, 19, 20, 21, 22, 23, 24], [0, 1, 2, 3, 4, 5, 6, 7, 8, 9, 10, 11, 12, 13, 14, 15, 16, 17, 18, 19, 20, 21, 22, 23, 24, 25]] [.light 0 false, .light 1 false, .light 2 false, .light 3 false, .light 4 false, .light 5 false, .light 6 false, .light 7 false, .light 8 false, .light 9 false, .light 10 false, .light 11 false, .light 12 false, .light 13 false, .light 14 false, .light 15 false, .light 16 false, .light 17 true, .light 18 false, .light 19 true, .light 20 false, .light 21 false, .light 22 false, .heavy 23 [17, 19], .light 24 false, .light 25 false, .light 26 false] [{}, {}, {}, {}, {}, {}, {}, {}, {}, {}, {}, {}, {}, {}, {}, {}, {}, {}, {}, {}, {}, {}, {}, { c := some (.i r6, ⟨[(2, .cells 3 [E_GTone y3]), (1, .cells 3 [E_GTone y2]), (0, .cells 3 [E_GFigure a1])], 3⟩) }, { k := 1 }] [4, 7, 49] [1, 0] (zipE [4, 7, 49] [.mp 0 0 0, .mp 1 0 0, .bool (decide ((Int.tmod (wr (y2.to_ - y2.from_)) r6) ≠ 0))]) ⟨[(1, .cells 3 [E_GTone y2]), (0, .cells 3 [E_GFigure a1])], 3⟩ _ (by kernel_rfl) (cjC (hc4) (cjC (Eq.refl false) (cjC (Eq.refl false) (cjC (Eq.refl false) (cjC (Eq.refl false) (cjC (Eq.refl false) (cjC (Eq.refl false) (cjC (Eq.refl false) (cjC (hc5) (cjC (Eq.refl false) (cjC (Eq.refl false) (cjC (Eq.refl false) (cjC (Eq.refl false) (cjC (Eq.refl false) (cjC (Eq.refl false) (cjC (Eq.refl false) (cjC (f95_ok a1.shares _ hr6 ⟨[(2, .cells 3 [E_GTone y3]), (1, .cells 3 [E_GTone y2]), (0, .cells 3 [E_GFigure a1])], 3⟩) (cjC (@Eq.refl AV (.i y2.to_)) (cjC (@Eq.refl AV (.i y2.from_)) (cjC (Eq.refl false) (cjC (hn7) (cj1 (Eq.refl false))))))))))))))))))))))) (kj1 (decide ((Int.tmod (wr (y2.to_ - y2.from_)) r6) ≠ 0)) rfl)
    · rintro _ rfl
      rcases iteE h with ⟨hc8, h⟩ | ⟨hc8, h⟩
      · refine run_cT 49 (c59 16) (c59 19) j1_49 hc8 (by kernel_rfl) (by kernel_rfl) ?_
        refine run1 (c59 18) [] [6] [] (zipE [6] [.bool false]) ⟨[], 3⟩ _ (by kernel_rfl) cj0 ?_
        refine run_t (by kernel_rfl) ?_
        refine thenR ?_
        replace h := Option.some.inj h; subst h
        exact fin_r (by kernel_rfl) rfl
      · refine run_cF 49 (c59 16) (c59 19) j1_49 hc8 (by kernel_rfl) (by kernel_rfl) ?_
        refine run_k (by kernel_rfl) ?_
        refine thenN ?_
        obtain ⟨r9, hr9, h⟩ := bindE h
        refine run1 (c59 22) [{}, {}, {}, { c := some (.bool r9, ⟨[(1, .cells 3 [E_GTone y2]), (0, .cells 3 [E_GFigure a1])], 3⟩) }] [6] [] (zipE [6] [.bool (!r9)]) ⟨[], 3⟩ _ (by kernel_rfl) (cj1 (callF (f96_ok a1.moves y2 _ hr9) [(0, 1)] [(1, 0)] [0] [.sl false (a1.moves.map AV.i), .fn 97 [.mp 1 0 0]] ⟨[(1, .cells 3 [E_GTone y2]), (0, .cells 3 [E_GFigure a1])], 3⟩ (.bool r9) ⟨[(1, .cells 3 [E_GTone y2]), (0, .cells 3 [E_GFigure a1])], 3⟩ (by kernel_rfl) (.k (.c (cleanMap _ _ cl_i)) (.k (.f (.k (.mp rfl rfl) .z)) .z)) (.c rfl) (.k (x' := .cells 3 [E_GTone y2]) (by kernel_rfl) (.cells (.k (.c (cl_GTone y2)) .z)) .z) (.d (x' := .cells 3 [E_GTone y2]) rfl (by kernel_rfl) (.cells (.k (.c (cl_GTone y2)) .z)) (.f rfl (by kernel_rfl) .z)))) ?_
        refine run_t (by kernel_rfl) ?_
        replace h := Option.some.inj h; subst h
        exact fin_r (by kernel_rfl) rfl

/-- theorbo.intabulate.Fits -/
def f27 (a0 : List GTone) (a1 : List GFigure) (a2 : Int) : Option (((List Int)) × Int) := (f58 a0 a1).bind fun r1 => bif (decide (r1 ≠ 0)) then (some (([] : List Int), r1)) else ((f48 a2 0 (wr ((a0.length : Int) - 1))).bind fun r3 => bif (!r3) then (some (([] : List Int), 1)) else ((loopN (σ := (List Int × Int)) (τ := (List Int)) (fun ((l1_6, l1_25) : (List Int × Int)) => bif (decide (l1_25 < (a1.length : Int))) then ((((ix a1 l1_25).bind fun y6 => (f59 a0 y6 a2).bind fun r7 => bif r7 then (need (l1_6.length + 1 ≤ maxElems) <| some (l1_6 ++ [(wr (l1_25 + 1))])) else (some l1_6)) : Option (List Int)).bind fun (j2_6 : (List Int)) => some (.inl (j2_6, (wr (l1_25 + 1))))) else (some (.inr l1_6))) FUEL (([] : List Int), 0)).bind fun (l1x_6 : (List Int)) => some (l1x_6, 0)))
theorem f27_ok (a0 : List GTone) (a1 : List GFigure) (a2 : Int) (r : (((List Int)) × Int)) (h : f27 a0 a1 a2 = some r) : APure Tryz.prog 27 [.sl false (a0.map E_GTone), .sl false (a1.map E_GFigure), .i a2] (.tup [.sl false (r.1.map AV.i), .i r.2]) := by
  refine apure (clK (cleanMap a0 _ cl_GTone) (clK (cleanMap a1 _ cl_GFigure) (clK rfl clZ))) (clK (cleanMap r.1 _ cl_i) (clK rfl clZ)) ?_
  refine run_f 41 [.tmp 6, .tmp 7] (c27 0) (zipE [0, 1, 2] [.sl false (a0.map E_GTone), .sl false (a1.map E_GFigure), .i a2]) (by kernel_rfl) (by kernel_rfl) (by kernel_rfl) rfl ?_
  unfold f27 at h
  refine run1 (c27 2) [] [0, 1, 2, 6] [] (zipE [0, 1, 2, 6] [.sl false (a0.map E_GTone), .sl false (a1.map E_GFigure), .i a2, .sl true []]) ⟨[], 0⟩ _ (by kernel_rfl) cj0 ?_
  refine run_s (c27 3) (c27 12) (by kernel_rfl) ?_
  obtain ⟨r1, hr1, h⟩ := bindE h
  refine run1 (c27 5) [{}, {}, { c := some (.i r1, ⟨[], 0⟩) }] [0, 1, 2, 6, 8] [] (zipE [0, 1, 2, 6, 8] [.sl false (a0.map E_GTone), .sl false (a1.map E_GFigure), .i a2, .sl true [], .i r1]) ⟨[], 0⟩ _ (by kernel_rfl) (cj1 (f58_ok a0 a1 _ hr1 ⟨[], 0⟩)) ?_
  refine run1 (c27 7) [] [0, 1, 2, 6, 8, 15] [] (zipE [0, 1, 2, 6, 8, 15] [.sl false (a0.map E_GTone), .sl false (a1.map E_GFigure), .i a2, .sl true [], .i r1, .bool (decide (r1 ≠ 0))]) ⟨[], 0⟩ _ (by kernel_rfl) cj0 ?_
  rcases iteE h with ⟨hc2, h⟩ | ⟨hc2, h⟩
  · refine run_cT 15 (c27 8) (c27 11) (decide (r1 ≠ 0)) hc2 (by kernel_rfl) (by kernel_rfl) ?_
    refine run1 (c27 10) [] [6, 7] [] (zipE [6, 7] [.sl true [], .i r1]) ⟨[], 0⟩ _ (by kernel_rfl) cj0 ?_
    refine run_i 0 [] [6, 7] [.sl true [], .i r1] (xs := [.sl false (([] : List Int).map AV.i), .i r1]) (S2 := ⟨[], 0⟩) ?_ (by intro i e; cases e <;> exact Nat.le_of_ble_eq_true rfl) (by kernel_rfl) (by kernel_rfl) (by kernel_rfl) (.k (.s (cleanMap (([] : List Int)) _ cl_i)) (.k (.c rfl) .z)) .z
    refine run_t (by kernel_rfl) ?_
    refine thenR ?_
    replace h := Option.some.inj h; subst h
    exact fin_r (by kernel_rfl) rfl
  · refine run_cF 15 (c27 8) (c27 11) (decide (r1 ≠ 0)) hc2 (by kernel_rfl) (by kernel_rfl) ?_
    refine run_k (by kernel_rfl) ?_
    refine thenN ?_
    refine run_s (c27 13) (c27 20) (by kernel_rfl) ?_
    obtain ⟨r3, hr3, h⟩ := bindE h
    refine run1 (c27 15) [{}, {}, { k := 1, n := a0.length }, {}, { c := some (.bool r3, ⟨[], 0⟩) }] [0, 1, 2, 6, 22] [] (zipE [0, 1, 2, 6, 22] [.sl false (a0.map E_GTone), .sl false (a1.map E_GFigure), .i a2, .sl true [], .bool (!r3)]) ⟨[], 0⟩ _ (by kernel_rfl) (cjC (mapLen a0 E_GTone) (cj1 (f48_ok a2 0 (wr ((a0.length : Int) - 1)) _ hr3 ⟨[], 0⟩))) ?_
    rcases iteE h with ⟨hc4, h⟩ | ⟨hc4, h⟩
    · refine run_cT 22 (c27 16) (c27 19) (!r3) hc4 (by kernel_rfl) (by kernel_rfl) ?_
      refine run1 (c27 18) [] [6, 7] [] (zipE [6, 7] [.sl true [], .i 1]) ⟨[], 0⟩ _ (by kernel_rfl) cj0 ?_
      refine run_i 0 [] [6, 7] [.sl true [], .i 1] (xs := [.sl false (([] : List Int).map AV.i), .i 1]) (S2 := ⟨[], 0⟩) ?_ (by intro i e; cases e <;> exact Nat.le_of_ble_eq_true rfl) (by kernel_rfl) (by kernel_rfl) (by kernel_rfl) (.k (.s (cleanMap (([] : List Int)) _ cl_i)) (.k (.c rfl) .z)) .z
      refine run_t (by kernel_rfl) ?_
      refine thenR ?_
      replace h := Option.some.inj h; subst h
      exact fin_r (by kernel_rfl) rfl
    · refine run_cF 22 (c27 16) (c27 19) (!r3) hc4 (by kernel_rfl) (by kernel_rfl) ?_
      refine run_k (by kernel_rfl) ?_
      refine thenN ?_
      refine run_s (c27 21) (c27 41) (by kernel_rfl) ?_
      refine run1 (c27 23) [{}, { k := 1, n := a1.length }] [0, 2, 6, 23, 24, 25] [] (zipE [0, 2, 6, 23, 24, 25] [.sl false (a0.map E_GTone), .i a2, .sl true [], .sl false (a1.map E_GFigure), .i (a1.length : Int), .i 0]) ⟨[], 0⟩ _ (by kernel_rfl) (cj1 (mapLen a1 E_GFigure)) ?_
      obtain ⟨l1x_6, hll1x, h⟩ := bindE h
      refine run_tq (fun (l1x_6 : (List Int)) => (zipE [6] [.ms 0 0 l1x_6.length])) (fun (l1x_6 : (List Int)) => ⟨[(0, .cells 1 (l1x_6.map AV.i))], 1⟩) (fun j => l1x_6 = j) (fun kl1 => ?_) ?_
      · refine run_b 0 (c27 24) (by kernel_rfl) ?_
        refine run_l (c27 25) _ hll1x (fun ((l1_6, l1_25) : (List Int × Int)) => (zipE [0, 2, 6, 23, 24, 25] [.sl false (a0.map E_GTone), .i a2, .ms 0 0 l1_6.length, .sl false (a1.map E_GFigure), .i (a1.length : Int), .i l1_25])) (fun ((l1_6, l1_25) : (List Int × Int)) => ⟨[(0, .cells 1 (l1_6.map AV.i))], 1⟩) [(0, 1000000)] (by intro i e; cases e <;> exact Nat.le_of_ble_eq_true rfl) (by kernel_rfl) (mkInto (ks := [0, 2, 6, 23, 24, 25]) (ys := [.sl false (a0.map E_GTone), .i a2, .sl true [], .sl false (a1.map E_GFigure), .i (a1.length : Int), .i 0]) (by kernel_rfl) (by kernel_rfl) (.k (.c (cleanMap _ _ cl_GTone)) (.k (.c rfl) (.k (.n) (.k (.c (cleanMap _ _ cl_GFigure)) (.k (.c rfl) (.k (.c rfl) .z)))))) (.n rfl rfl rfl .z)) ?_
        rintro ⟨l1_6, l1_25⟩ out hl1 rl1
        refine run1 (c27 27) [] [0, 2, 6, 23, 24, 25, 26] [0] (zipE [0, 2, 6, 23, 24, 25, 26] [.sl false (a0.map E_GTone), .i a2, .ms 0 0 l1_6.length, .sl false (a1.map E_GFigure), .i (a1.length : Int), .i l1_25, .bool (decide (l1_25 < (a1.length : Int)))]) ⟨[(0, .cells 1 (l1_6.map AV.i))], 1⟩ _ (by kernel_rfl) cj0 ?_
        refine run_s (c27 28) (c27 31) (by kernel_rfl) ?_
        rcases iteE hl1 with ⟨hc5, hl1⟩ | ⟨hc5, hl1⟩
        · refine run_cT 26 (c27 29) (c27 30) (decide (l1_25 < (a1.length : Int))) hc5 (by kernel_rfl) (by kernel_rfl) ?_
          refine run_k (by kernel_rfl) ?_
          refine thenN ?_
          obtain ⟨j2_6, hj2, hl1⟩ := bindE hl1
          refine run_jq (c27 32) (c27 40) (fun (j2_6 : (List Int)) => (zipE [0, 2, 6, 23, 24, 25] [.sl false (a0.map E_GTone), .i a2, .ms 3 0 j2_6.length, .sl false (a1.map E_GFigure), .i (a1.length : Int), .i l1_25])) (fun (j2_6 : (List Int)) => ⟨[(3, .cells 1 (j2_6.map AV.i))], 4⟩) (fun j => j2_6 = j) (by kernel_rfl) (fun kj2 => ?_) ?_
          · refine run_b 1 (c27 33) (by kernel_rfl) ?_
            obtain ⟨y6, hy6, hj2⟩ := bindE hj2
            refine run1 (c27 35) [{}, { k := 1, x := E_GFigure y6 }] [0, 2, 6, 9, 10, 23, 24, 25] [1, 0] (zipE [0, 2, 6, 9, 10, 23, 24, 25] [.sl false (a0.map E_GTone), .i a2, .ms 0 0 l1_6.length, .i l1_25, .mp 1 0 0, .sl false (a1.map E_GFigure), .i (a1.length : Int), .i l1_25]) ⟨[(1, .cells 3 [E_GFigure y6]), (0, .cells 1 (l1_6.map AV.i))], 2⟩ _ (by kernel_rfl) (cjC ((ixE hy6).1) (cj1 (mapGet E_GFigure (ixE hy6).2))) ?_
            obtain ⟨r7, hr7, hj2⟩ := bindE hj2
            refine run1 (c27 37) [{}, {}, {}, { c := some (.bool r7, ⟨[(1, .cells 3 [E_GFigure y6]), (0, .cells 1 (l1_6.map AV.i))], 2⟩) }] [0, 2, 6, 9, 23, 24, 25, 33] [0] (zipE [0, 2, 6, 9, 23, 24, 25, 33] [.sl false (a0.map E_GTone), .i a2, .ms 0 0 l1_6.length, .i l1_25, .sl false (a1.map E_GFigure), .i (a1.length : Int), .i l1_25, .bool r7]) ⟨[(0, .cells 1 (l1_6.map AV.i))], 2⟩ _ (by kernel_rfl) (cj1 (f59_ok a0 y6 a2 _ hr7 ⟨[(1, .cells 3 [E_GFigure y6]), (0, .cells 1 (l1_6.map AV.i))], 2⟩)) ?_
            rcases iteE hj2 with ⟨hc8, hj2⟩ | ⟨hc8, hj2⟩
            · refine run_cT 33 (c27 38) (c27 39) r7 hc8 (by kernel_rfl) (by kernel_rfl) ?_
              obtain ⟨hn9, hj2⟩ := needE hj2
              refine run0 [{}, {}, {}, {}, { k := 1, n := (l1_6 ++ [(wr (l1_25 + 1))]).length, l := (l1_6 ++ [(wr (l1_25 + 1))]).map AV.i }] [0, 2, 6, 23, 24, 25] [2] (zipE [0, 2, 6, 23, 24, 25] [.sl false (a0.map E_GTone), .i a2, .ms 2 0 (l1_6 ++ [(wr (l1_25 + 1))]).length, .sl false (a1.map E_GFigure), .i (a1.length : Int), .i l1_25]) ⟨[(2, .cells 1 ((l1_6 ++ [(wr (l1_25 + 1))]).map AV.i))], 3⟩ _ (by kernel_rfl) (cjC (@List.cons_ne_nil AV (.i (wr (l1_25 + 1))) []) (cjC (mLe l1_6 AV.i) (cjC (hn9) (cjC (lenA l1_6 ([(wr (l1_25 + 1))] : List Int)) (cjC (appA l1_6 ([(wr (l1_25 + 1))] : List Int) AV.i) (cj1 (fitsOne (P := Tryz.prog) (t := 3) (x := .i (wr (l1_25 + 1))) (r := []) (by kernel_rfl)))))))) ?_
              replace hj2 := Option.some.inj hj2; subst hj2
              refine inbN ?_
              refine thenN ?_
              exact run_i 3 [(3, 2)] [0, 2, 6, 23, 24, 25] [.sl false (a0.map E_GTone), .i a2, .ms 2 0 (l1_6 ++ [(wr (l1_25 + 1))]).length, .sl false (a1.map E_GFigure), .i (a1.length : Int), .i l1_25] (kj2 (l1_6 ++ [(wr (l1_25 + 1))]) rfl) (by intro i e; cases e <;> exact Nat.le_of_ble_eq_true rfl) (by kernel_rfl) (by kernel_rfl) (by kernel_rfl) (.k (.c (cleanMap _ _ cl_GTone)) (.k (.c rfl) (.k (.ms rfl rfl) (.k (.c (cleanMap _ _ cl_GFigure)) (.k (.c rfl) (.k (.c rfl) .z)))))) (.k (x' := .cells 1 ((l1_6 ++ [(wr (l1_25 + 1))]).map AV.i)) (by kernel_rfl) (.cells (.r (cleanMap _ _ cl_i))) .z)
            · refine run_cF 33 (c27 38) (c27 39) r7 hc8 (by kernel_rfl) (by kernel_rfl) ?_
              replace hj2 := Option.some.inj hj2; subst hj2
              refine run_i 3 [(3, 0)] [0, 2, 6, 23, 24, 25] [.sl false (a0.map E_GTone), .i a2, .ms 0 0 l1_6.length, .sl false (a1.map E_GFigure), .i (a1.length : Int), .i l1_25] (xs := [.sl false (a0.map E_GTone), .i a2, .ms 3 0 l1_6.length, .sl false (a1.map E_GFigure), .i (a1.length : Int), .i l1_25]) (S2 := ⟨[(3, .cells 1 (l1_6.map AV.i))], 4⟩) ?_ (by intro i e; cases e <;> exact Nat.le_of_ble_eq_true rfl) (by kernel_rfl) (by kernel_rfl) (by kernel_rfl) (.k (.c (cleanMap _ _ cl_GTone)) (.k (.c rfl) (.k (.ms rfl rfl) (.k (.c (cleanMap _ _ cl_GFigure)) (.k (.c rfl) (.k (.c rfl) .z)))))) (.k (x' := .cells 1 (l1_6.map AV.i)) (by kernel_rfl) (.cells (.r (cleanMap _ _ cl_i))) .z)
              refine run_k (by kernel_rfl) ?_
              refine inbN ?_
              refine thenN ?_
              exact kj2 l1_6 rfl
          · rintro _ rfl
            refine run0 [] [0, 2, 6, 23, 24, 25] [3] (zipE [0, 2, 6, 23, 24, 25] [.sl false (a0.map E_GTone), .i a2, .ms 3 0 j2_6.length, .sl false (a1.map E_GFigure), .i (a1.length : Int), .i (wr (l1_25 + 1))]) ⟨[(3, .cells 1 (j2_6.map AV.i))], 4⟩ _ (by kernel_rfl) cj0 ?_
            replace hl1 := Option.some.inj hl1; subst hl1
            exact ⟨_, rfl, pi [(0, 3)], mkInto (ks := [0, 2, 6, 23, 24, 25]) (ys := [.sl false (a0.map E_GTone), .i a2, .ms 3 0 j2_6.length, .sl false (a1.map E_GFigure), .i (a1.length : Int), .i (wr (l1_25 + 1))]) (by kernel_rfl) (by kernel_rfl) (.k (.c (cleanMap _ _ cl_GTone)) (.k (.c rfl) (.k (.ms rfl rfl) (.k (.c (cleanMap _ _ cl_GFigure)) (.k (.c rfl) (.k (.c rfl) .z)))))) (.k (x' := .cells 1 (j2_6.map AV.i)) (by kernel_rfl) (.cells (.r (cleanMap _ _ cl_i))) .z)⟩
        · refine run_cF 26 (c27 29) (c27 30) (decide (l1_25 < (a1.length : Int))) hc5 (by kernel_rfl) (by kernel_rfl) ?_
          replace hl1 := Option.some.inj hl1; subst hl1
          have hr := rl1 _ rfl
          subst hr
          refine awp_p [6] [0] (zipE [6] [.ms 0 0 l1_6.length]) ⟨[(0, .cells 1 (l1_6.map AV.i))], 1⟩ (by kernel_rfl) (?_)
          refine run_e 0 (by kernel_rfl) ?_
          refine thenE ?_
          refine ⟨⟨_, rfl⟩, ?_⟩
          refine inbE ?_
          exact kl1 l1_6 rfl
      · rintro _ rfl
        refine thenN ?_
        refine run1 (c27 43) [] [6, 7] [0] (zipE [6, 7] [.ms 0 0 l1x_6.length, .i 0]) ⟨[(0, .cells 1 (l1x_6.map AV.i))], 1⟩ _ (by kernel_rfl) cj0 ?_
        refine run_z 0 1 (l1x_6.map AV.i) [6, 7] [.ms 0 0 l1x_6.length, .i 0] (xs := [.sl false (l1x_6.map AV.i), .i 0]) (S2 := ⟨[], 1⟩) ?_ (by kernel_rfl) (by kernel_rfl) (.k (.m (mLe l1x_6 AV.i) (mapAll l1x_6 AV.i)) (.k (.r _) .z)) .z rfl rfl
        refine run_t (by kernel_rfl) ?_
        replace h := Option.some.inj h; subst h
        exact fin_r (by kernel_rfl) rfl

/-- theorbo.theorboref07.Right -/
def f72 (a0 : List GTone) : Option Bool := (loopN (σ := Int) (τ := (Unit ⊕ Bool)) (fun (l1_3 : Int) => bif (decide (l1_3 < (a0.length : Int))) then ((ix a0 l1_3).bind fun y2 => ((bif (decide (y2.pitch < 0)) then (some true) else (bif (decide (127 < y2.pitch)) then (some true) else (bif (decide (y2.from_ < 0)) then (some true) else (bif (decide (y2.to_ ≤ y2.from_)) then (some true) else (bif (decide (262144 < y2.to_)) then (some true) else (bif (decide (0 < l1_3)) then ((ix a0 (wr (l1_3 - 1))).bind fun y9 => some (decide (y2.from_ < y9.to_))) else (some false))))))) : Option Bool).bind fun (j2_54 : Bool) => bif j2_54 then (some (.inr (.inr false))) else (some (.inl (wr (l1_3 + 1))))) else (some (.inr (.inl ())))) FUEL 0).bind (Sum.elim (fun (_ : Unit) => some true) some)
theorem f72_ok (a0 : List GTone) (r : Bool) (h : f72 a0 = some r) : APure Tryz.prog 72 [.sl false (a0.map E_GTone)] (.bool r) := by
  refine apure (clK (cleanMap a0 _ cl_GTone) clZ) rfl ?_
  refine run_f 55 [.tmp 2] (c72 0) (zipE [0] [.sl false (a0.map E_GTone)]) (by kernel_rfl) (by kernel_rfl) (by kernel_rfl) rfl ?_
  unfold f72 at h
  refine run1 (c72 2) [] [0] [] (zipE [0] [.sl false (a0.map E_GTone)]) ⟨[], 0⟩ _ (by kernel_rfl) cj0 ?_
  refine run_s (c72 3) (c72 25) (by kernel_rfl) ?_
  refine run1 (c72 5) [] [0, 3] [] (zipE [0, 3] [.sl false (a0.map E_GTone), .i 0]) ⟨[], 0⟩ _ (by kernel_rfl) cj0 ?_
  obtain ⟨ol1x, hll1x, h⟩ := bindE h
  refine run_tq (fun (_ : Unit) => (zipE [] [])) (fun (_ : Unit) => ⟨[], 0⟩) (fun j => ol1x = .inl j) (fun kl1 => ?_) ?_
  · refine run_b 0 (c72 6) (by kernel_rfl) ?_
    refine run_l (c72 7) _ hll1x (fun (l1_3 : Int) => (zipE [0, 3] [.sl false (a0.map E_GTone), .i l1_3])) (fun (l1_3 : Int) => ⟨[], 0⟩) [] (by intro i e; cases e <;> exact Nat.le_of_ble_eq_true rfl) (by kernel_rfl) (mkInto (ks := [0, 3]) (ys := [.sl false (a0.map E_GTone), .i 0]) (by kernel_rfl) (by kernel_rfl) (.k (.c (cleanMap _ _ cl_GTone)) (.k (.c rfl) .z)) .z) ?_
    rintro l1_3 out hl1 rl1
    refine run_s (c72 8) (c72 13) (by kernel_rfl) ?_
    refine run1 (c72 10) [{}, {}, { k := 1, n := a0.length }] [0, 3, 8] [] (zipE [0, 3, 8] [.sl false (a0.map E_GTone), .i l1_3, .bool (decide (l1_3 < (a0.length : Int)))]) ⟨[], 0⟩ _ (by kernel_rfl) (cj1 (mapLen a0 E_GTone)) ?_
    rcases iteE hl1 with ⟨hc1, hl1⟩ | ⟨hc1, hl1⟩
    · refine run_cT 8 (c72 11) (c72 12) (decide (l1_3 < (a0.length : Int))) hc1 (by kernel_rfl) (by kernel_rfl) ?_
      refine run_k (by kernel_rfl) ?_
      refine thenN ?_
      refine run_s (c72 14) (c72 24) (by kernel_rfl) ?_
      refine run_b 1 (c72 15) (by kernel_rfl) ?_
      obtain ⟨y2, hy2, hl1⟩ := bindE hl1
      refine run1 (c72 17) [{}, {}, { k := 1, x := E_GTone y2 }] [0, 3, 4] [0] (zipE [0, 3, 4] [.sl false (a0.map E_GTone), .i l1_3, .mp 0 0 0]) ⟨[(0, .cells 3 [E_GTone y2])], 1⟩ _ (by kernel_rfl) (cjC ((ixE hy2).1) (cj1 (mapGet E_GTone (ixE hy2).2))) ?_
      obtain ⟨j2_54, hj2, hl1⟩ := bindE hl1
      refine run_gq (c72 19) (fun (j2_54 : Bool) => (zipE [0, 3, 54] [.sl false (a0.map E_GTone), .i l1_3, .bool j2_54])) (fun (j2_54 : Bool) => ⟨[], 1⟩) (fun j => j2_54 = j) (fun kj2 => ?_) ?_
      · rcases iteE hj2 with ⟨hc3, hj2⟩ | ⟨hc3, hj2⟩
        · replace hj2 := Option.some.inj hj2; subst hj2
          exact yun1 (c72 19) [[], [0], [0, 1], [0, 1, 2], [0, 1, 2, 3], [0, 1, 2, 3, 4], [0, 1, 2, 3, 4, 5], [0, 1, 2, 3, 4, 5, 6], [0, 1, 2, 3, 4, 5, 6, 7], [0, 1, 2, 3, 4, 5, 6, 7, 8], [0, 1, 2, 3, 4, 5, 6, 7, 8, 9], [0, 1, 2, 3, 4, 5, 6, 7, 8, 9, 10], [0, 1, 2, 3, 4, 5, 6, 7, 8, 9, 10, 11], [0, 1, 2, 3, 4, 5, 6, 7, 8, 9, 10, 11, 12], [0, 1, 2, 3, 4, 5, 6, 7, 8, 9, 10, 11, 12, 13], [0, 1, 2, 3, 4, 5, 6, 7, 8, 9, 10, 11, 12, 13, 14], [0, 1, 2, 3, 4, 5, 6, 7, 8, 9, 10, 11, 12, 13], [0, 1, 2, 3, 4, 5, 6, 7, 8, 9, 10, 11, 12, 13, 16], [0, 1, 2, 3, 4, 5, 6, 7, 8, 9, 10, 11, 12, 13, 14, 15, 16, 17], [0, 1, 2, 3, 4, 5, 6, 7, 8, 9, 10, 11, 12, 13, 14, 15, 16, 17, 18], [0, 1, 2, 3, 4, 5, 6, 7, 8, 9, 10, 11, 12, 13, 14, 15, 16, 17, 18, 19], [0, 1, 2, 3, 4, 5, 6, 7, 8, 9, 10, 11, 12, 13, 14, 15, 16, 17, 18, 19, 20], [0, 1, 2, 3, 4, 5, 6, 7, 8, 9, 10, 11, 12, 13, 14, 15, 16, 17, 18, 19, 20, 21], [0, 1, 2, 3, 4, 5, 6, 7, 8, 9, 10, 11, 12, 13, 14, 15, 16, 17, 18, 19, 20, 21, 22], [0, 1, 2, 3, 4, 5, 6, 7, 8, 9, 10, 11, 12, 13, 14, 15, 16, 17, 18, 19, 20, 21, 22, 23], [0, 1, 2, 3, 4, 5, 6, 7, 8, 9, 10, 11, 12, 13, 14, 15, 16, 17, 18, 19, 20, 21, 22, 23, 24], [0, 1, 2, 3, 4, 5, 6, 7, 8, 9, 10, 11, 12, 13, 14, 15, 16, 17, 18, 19, 20, 21, 22, 23, 24, 25], [0, 1, 2, 3, 4, 5, 6, 7, 8, 9, 10, 11, 12, 13, 14, 15, 16, 17, 18, 19, 20, 21, 22, 23, 24, 25, 26], [0, 1, 2, 3, 4, 5, 6, 7, 8, 9, 10, 11, 12, 13, 14, 15, 16, 17, 18, 19, 20, 21, 22, 23, 24, 25, 26, 27], [0, 1, 2, 3, 4, 5, 6, 7, 8, 9, 10, 11, 12, 13, 14, 15, 16, 17, 18, 19, 20, 21, 22, 23, 24, 25, 26, 27, 28], [0, 1, 2, 3, 4, 5, 6, 7, 8, 9, 10, 11, 12, 13, 14, 15, 16, 17, 18, 19, 20, 21, 22, 23, 24, 25, 26, 27, 28, 29], [0, 1, 2, 3, 4, 5, 6, 7, 8, 9, 10, 11, 12, 13, 14, 15, 16, 17, 18, 19, 20, 21, 22, 23, 24, 25, 26, 27, 28], [0, 1, 2, 3, 4, 5, 6, 7, 8, 9, 10, 11, 12, 13, 14, 15, 16, 17, 18, 19, 20, 21, 22, 23, 24, 25, 26, 27, 28], [0, 1, 2, 3, 4, 5, 6, 7, 8, 9, 10, 11, 12, 13, 14, 15, 16, 17, 18, 19, 20, 21, 22, 23, 24, 25, 26, 27, 28, 32], [0, 1, 2, 3, 4, 5, 6, 7, 8, 9, 10, 11, 12, 13, 14, 15, 16, 17, 18, 19, 20, 21, 22, 23, 24, 25, 26, 27, 28, 31, 32, 33], [0, 1, 2, 3, 4, 5, 6, 7, 8, 9, 10, 11, 12, 13, 14, 15, 16, 17, 18, 19, 20, 21, 22, 23, 24, 25, 26, 27, 28, 31, 32, 33, 34], [0, 1, 2, 3, 4, 5, 6, 7, 8, 9, 10, 11, 12, 13, 14, 15, 16, 17, 18, 19, 20, 21, 22, 23, 24, 25, 26, 27, 28, 31, 32, 33, 34, 35], [0, 1, 2, 3, 4, 5, 6, 7, 8, 9, 10, 11, 12, 13, 14, 15, 16, 17, 18, 19, 20, 21, 22, 23, 24, 25, 26, 27, 28, 29, 30, 31, 32, 33, 34, 35, 36], [0, 1, 2, 3, 4, 5, 6, 7, 8, 9, 10, 11, 12, 13, 14, 15, 16, 17, 18, 19, 20, 21, 22, 23, 24, 25, 26, 27, 28, 29, 30, 31, 32, 33, 34, 35, 36, 37], [0, 1, 2, 3, 4, 5, 6, 7, 8, 9, 10, 11, 12, 13, 14, 15, 16, 17, 18, 19, 20, 21, 22, 23, 24, 25, 26, 27, 28, 29, 30, 31, 32, 33, 34, 35, 36, 37, 38]] [.light 0 false, .light 1 false, .light 2 false, .light 3 false, .light 4 false, .light 5 false, .light 6 false, .light 7 false, .light 8 false, .light 9 false, .light 10 false, .light 11 false, .light 12 false, .light 13 false, .light 14 false, .light 15 false, .light 16 false, .light 17 false, .light 18 false, .light 19 false, .light 20 false, .light 21 false, .light 22 false, .light 23 false, .light 24 false, .light 25 false, .light 26 false, .light 27 false, .light 28 false, .light 29 false, .light 30 false, .light 31 false, .light 32 false, .light 33 false, .light 34 false, .light 35 false, .light 36 false, .light 37 false, .light 38 false, .light 39 false] [{}, {}, {}, {}, { g := false }, { g := false }, { g := false }, {}, {}, { g := false }, { g := false }, { g := false }, {}, {}, { g := false }, { g := false }, { g := false }, { g := false }, { g := false }, {}, {}, { g := false }, { g := false }, { g := false }, {}, {}, { g := false }, { g := false }, { g := false }, {}, {}, {}, {}, {}, {}, {}, {}, {}, { g := false }] [0, 3, 54] [] (zipE [0, 3, 54] [.sl false (a0.map E_GTone), .i l1_3, .bool true]) ⟨[], 1⟩ _ (by kernel_rfl) (cjC (hc3) (cjC (Eq.refl true) (cjC (Eq.refl true) (cjC (Eq.refl true) (cjC (Eq.refl true) (cjC (Eq.refl true) (cjC (Eq.refl true) (cjC (Eq.refl true) (cjC (Eq.refl true) (cjC (Eq.refl true) (cjC (Eq.refl true) (cjC (Eq.refl true) (cjC (Eq.refl true) (cjC (Eq.refl true) (cjC (Eq.refl true) (cjC (Eq.refl true) (cjC (Eq.refl true) (cj1 (Eq.refl true))))))))))))))))))) (kj2 true rfl)
        · rcases iteE hj2 with ⟨hc4, hj2⟩ | ⟨hc4, hj2⟩
          · replace hj2 := Option.some.inj hj2; subst hj2
            exact yun1 (c72 19) [[], [0], [0, 1], [0, 1, 2], [0, 1, 2, 3], [0, 1, 2, 3, 4], [0, 1, 2, 3, 4, 5], [0, 1, 2, 3, 4, 5, 6], [0, 1, 2, 3, 4, 5, 6, 7], [0, 1, 2, 3, 4, 5, 6, 7, 8], [0, 1, 2, 3, 4, 5, 6, 7, 8, 9], [0, 1, 2, 3, 4, 5, 6, 7, 8, 9, 10], [0, 1, 2, 3, 4, 5, 6, 7, 8, 9, 10, 11], [0, 1, 2, 3, 4, 5, 6, 7, 8, 9, 10, 11, 12], [0, 1, 2, 3, 4, 5, 6, 7, 8, 9, 10, 11, 12, 13], [0, 1, 2, 3, 4, 5, 6, 7, 8, 9, 10, 11, 12, 13, 14], [0, 1, 2, 3, 4, 5, 6, 7, 8, 9, 10, 11, 12, 13], [0, 1, 2, 3, 4, 5, 6, 7, 8, 9, 10, 11, 12, 13, 16], [0, 1, 2, 3, 4, 5, 6, 7, 8, 9, 10, 11, 12, 13, 14, 15, 16, 17], [0, 1, 2, 3, 4, 5, 6, 7, 8, 9, 10, 11, 12, 13, 14, 15, 16, 17, 18], [0, 1, 2, 3, 4, 5, 6, 7, 8, 9, 10, 11, 12, 13, 14, 15, 16, 17, 18, 19], [0, 1, 2, 3, 4, 5, 6, 7, 8, 9, 10, 11, 12, 13, 14, 15, 16, 17, 18, 19, 20], [0, 1, 2, 3, 4, 5, 6, 7, 8, 9, 10, 11, 12, 13, 14, 15, 16, 17, 18, 19, 20, 21], [0, 1, 2, 3, 4, 5, 6, 7, 8, 9, 10, 11, 12, 13, 14, 15, 16, 17, 18, 19, 20, 21, 22], [0, 1, 2, 3, 4, 5, 6, 7, 8, 9, 10, 11, 12, 13, 14, 15, 16, 17, 18, 19, 20, 21, 22, 23], [0, 1, 2, 3, 4, 5, 6, 7, 8, 9, 10, 11, 12, 13, 14, 15, 16, 17, 18, 19, 20, 21, 22, 23, 24], [0, 1, 2, 3, 4, 5, 6, 7, 8, 9, 10, 11, 12, 13, 14, 15, 16, 17, 18, 19, 20, 21, 22, 23, 24, 25], [0, 1, 2, 3, 4, 5, 6, 7, 8, 9, 10, 11, 12, 13, 14, 15, 16, 17, 18, 19, 20, 21, 22, 23, 24, 25, 26], [0, 1, 2, 3, 4, 5, 6, 7, 8, 9, 10, 11, 12, 13, 14, 15, 16, 17, 18, 19, 20, 21, 22, 23, 24, 25, 26, 27], [0, 1, 2, 3, 4, 5, 6, 7, 8, 9, 10, 11, 12, 13, 14, 15, 16, 17, 18, 19, 20, 21, 22, 23, 24, 25, 26, 27, 28], [0, 1, 2, 3, 4, 5, 6, 7, 8, 9, 10, 11, 12, 13, 14, 15, 16, 17, 18, 19, 20, 21, 22, 23, 24, 25, 26, 27, 28, 29], [0, 1, 2, 3, 4, 5, 6, 7, 8, 9, 10, 11, 12, 13, 14, 15, 16, 17, 18, 19, 20, 21, 22, 23, 24, 25, 26, 27, 28], [0, 1, 2, 3, 4, 5, 6, 7, 8, 9, 10, 11, 12, 13, 14, 15, 16, 17, 18, 19, 20, 21, 22, 23, 24, 25, 26, 27, 28], [0, 1, 2, 3, 4, 5, 6, 7, 8, 9, 10, 11, 12, 13, 14, 15, 16, 17, 18, 19, 20, 21, 22, 23, 24, 25, 26, 27, 28, 32], [0, 1, 2, 3, 4, 5, 6, 7, 8, 9, 10, 11, 12, 13, 14, 15, 16, 17, 18, 19, 20, 21, 22, 23, 24, 25, 26, 27, 28, 31, 32, 33], [0, 1, 2, 3, 4, 5, 6, 7, 8, 9, 10, 11, 12, 13, 14, 15, 16, 17, 18, 19, 20, 21, 22, 23, 24, 25, 26, 27, 28, 31, 32, 33, 34], [0, 1, 2, 3, 4, 5, 6, 7, 8, 9, 10, 11, 12, 13, 14, 15, 16, 17, 18, 19, 20, 21, 22, 23, 24, 25, 26, 27, 28, 31, 32, 33, 34, 35], [0, 1, 2, 3, 4, 5, 6, 7, 8, 9, 10, 11, 12, 13, 14, 15, 16, 17, 18, 19, 20, 21, 22, 23, 24, 25, 26, 27, 28, 29, 30, 31, 32, 33, 34, 35, 36], [0, 1, 2, 3, 4, 5, 6, 7, 8, 9, 10, 11, 12, 13, 14, 15, 16, 17, 18, 19, 20, 21, 22, 23, 24, 25, 26, 27, 28, 29, 30, 31, 32, 33, 34, 35, 36, 37], [0, 1, 2, 3, 4, 5, 6, 7, 8, 9, 10, 11, 12, 13, 14, 15, 16, 17, 18, 19, 20, 21, 22, 23, 24, 25, 26, 27, 28, 29, 30, 31, 32, 33, 34, 35, 36, 37, 38]] [.light 0 false, .light 1 false, .light 2 false, .light 3 false, .light 4 false, .light 5 false, .light 6 false, .light 7 false, .light 8 false, .light 9 false, .light 10 false, .light 11 false, .light 12 false, .light 13 false, .light 14 false, .light 15 false, .light 16 false, .light 17 false, .light 18 false, .light 19 false, .light 20 false, .light 21 false, .light 22 false, .light 23 false, .light 24 false, .light 25 false, .light 26 false, .light 27 false, .light 28 false, .light 29 false, .light 30 false, .light 31 false, .light 32 false, .light 33 false, .light 34 false, .light 35 false, .light 36 false, .light 37 false, .light 38 false, .light 39 false] [{}, {}, {}, {}, {}, {}, {}, {}, {}, { g := false }, { g := false }, { g := false }, {}, {}, { g := false }, { g := false }, { g := false }, { g := false }, { g := false }, {}, {}, { g := false }, { g := false }, { g := false }, {}, {}, { g := false }, { g := false }, { g := false }, {}, {}, {}, {}, {}, {}, {}, {}, {}, { g := false }] [0, 3, 54] [] (zipE [0, 3, 54] [.sl false (a0.map E_GTone), .i l1_3, .bool true]) ⟨[], 1⟩ _ (by kernel_rfl) (cjC (hc3) (cjC (Eq.refl false) (cjC (Eq.refl false) (cjC (hc4) (cjC (Eq.refl true) (cjC (Eq.refl true) (cjC (Eq.refl true) (cjC (Eq.refl true) (cjC (Eq.refl true) (cjC (Eq.refl true) (cjC (Eq.refl true) (cjC (Eq.refl true) (cjC (Eq.refl true) (cjC (Eq.refl true) (cjC (Eq.refl true) (cjC (Eq.refl true) (cjC (Eq.refl true) (cj1 (Eq.refl true))))))))))))))))))) (kj2 true rfl)
          · rcases iteE hj2 with ⟨hc5, hj2⟩ | ⟨hc5, hj2⟩
            · replace hj2 := Option.some.inj hj2; subst hj2
              exact yun1 (c72 19) [[], [0], [0, 1], [0, 1, 2], [0, 1, 2, 3], [0, 1, 2, 3, 4], [0, 1, 2, 3, 4, 5], [0, 1, 2, 3, 4, 5, 6], [0, 1, 2, 3, 4, 5, 6, 7], [0, 1, 2, 3, 4, 5, 6, 7, 8], [0, 1, 2, 3, 4, 5, 6, 7, 8, 9], [0, 1, 2, 3, 4, 5, 6, 7, 8, 9, 10], [0, 1, 2, 3, 4, 5, 6, 7, 8, 9, 10, 11], [0, 1, 2, 3, 4, 5, 6, 7, 8, 9, 10, 11, 12], [0, 1, 2, 3, 4, 5, 6, 7, 8, 9, 10, 11, 12, 13], [0, 1, 2, 3, 4, 5, 6, 7, 8, 9, 10, 11, 12, 13, 14], [0, 1, 2, 3, 4, 5, 6, 7, 8, 9, 10, 11, 12, 13], [0, 1, 2, 3, 4, 5, 6, 7, 8, 9, 10, 11, 12, 13, 16], [0, 1, 2, 3, 4, 5, 6, 7, 8, 9, 10, 11, 12, 13, 14, 15, 16, 17], [0, 1, 2, 3, 4, 5, 6, 7, 8, 9, 10, 11, 12, 13, 14, 15, 16, 17, 18], [0, 1, 2, 3, 4, 5, 6, 7, 8, 9, 10, 11, 12, 13, 14, 15, 16, 17, 18, 19], [0, 1, 2, 3, 4, 5, 6, 7, 8, 9, 10, 11, 12, 13, 14, 15, 16, 17, 18, 19, 20], [0, 1, 2, 3, 4, 5, 6, 7, 8, 9, 10, 11, 12, 13, 14, 15, 16, 17, 18, 19, 20, 21], [0, 1, 2, 3, 4, 5, 6, 7, 8, 9, 10, 11, 12, 13, 14, 15, 16, 17, 18, 19, 20, 21, 22], [0, 1, 2, 3, 4, 5, 6, 7, 8, 9, 10, 11, 12, 13, 14, 15, 16, 17, 18, 19, 20, 21, 22, 23], [0, 1, 2, 3, 4, 5, 6, 7, 8, 9, 10, 11, 12, 13, 14, 15, 16, 17, 18, 19, 20, 21, 22, 23, 24], [0, 1, 2, 3, 4, 5, 6, 7, 8, 9, 10, 11, 12, 13, 14, 15, 16, 17, 18, 19, 20, 21, 22, 23, 24, 25], [0, 1, 2, 3, 4, 5, 6, 7, 8, 9, 10, 11, 12, 13, 14, 15, 16, 17, 18, 19, 20, 21, 22, 23, 24, 25, 26], [0, 1, 2, 3, 4, 5, 6, 7, 8, 9, 10, 11, 12, 13, 14, 15, 16, 17, 18, 19, 20, 21, 22, 23, 24, 25, 26, 27], [0, 1, 2, 3, 4, 5, 6, 7, 8, 9, 10, 11, 12, 13, 14, 15, 16, 17, 18, 19, 20, 21, 22, 23, 24, 25, 26, 27, 28], [0, 1, 2, 3, 4, 5, 6, 7, 8, 9, 10, 11, 12, 13, 14, 15, 16, 17, 18, 19, 20, 21, 22, 23, 24, 25, 26, 27, 28, 29], [0, 1, 2, 3, 4, 5, 6, 7, 8, 9, 10, 11, 12, 13, 14, 15, 16, 17, 18, 19, 20, 21, 22, 23, 24, 25, 26, 27, 28], [0, 1, 2, 3, 4, 5, 6, 7, 8, 9, 10, 11, 12, 13, 14, 15, 16, 17, 18, 19, 20, 21, 22, 23, 24, 25, 26, 27, 28], [0, 1, 2, 3, 4, 5, 6, 7, 8, 9, 10, 11, 12, 13, 14, 15, 16, 17, 18, 19, 20, 21, 22, 23, 24, 25, 26, 27, 28, 32], [0, 1, 2, 3, 4, 5, 6, 7, 8, 9, 10, 11, 12, 13, 14, 15, 16, 17, 18, 19, 20, 21, 22, 23, 24, 25, 26, 27, 28, 31, 32, 33], [0, 1, 2, 3, 4, 5, 6, 7, 8, 9, 10, 11, 12, 13, 14, 15, 16, 17, 18, 19, 20, 21, 22, 23, 24, 25, 26, 27, 28, 31, 32, 33, 34], [0, 1, 2, 3, 4, 5, 6, 7, 8, 9, 10, 11, 12, 13, 14, 15, 16, 17, 18, 19, 20, 21, 22, 23, 24, 25, 26, 27, 28, 31, 32, 33, 34, 35], [0, 1, 2, 3, 4, 5, 6, 7, 8, 9, 10, 11, 12, 13, 14, 15, 16, 17, 18, 19, 20, 21, 22, 23, 24, 25, 26, 27, 28, 29, 30, 31, 32, 33, 34, 35, 36], [0, 1, 2, 3, 4, 5, 6, 7, 8, 9, 10, 11, 12, 13, 14, 15, 16, 17, 18, 19, 20, 21, 22, 23, 24, 25, 26, 27, 28, 29, 30, 31, 32, 33, 34, 35, 36, 37], [0, 1, 2, 3, 4, 5, 6, 7, 8, 9, 10, 11, 12, 13, 14, 15, 16, 17, 18, 19, 20, 21, 22, 23, 24, 25, 26, 27, 28, 29, 30, 31, 32, 33, 34, 35, 36, 37, 38]] [.light 0 false, .light 1 false, .light 2 false, .light 3 false, .light 4 false, .light 5 false, .light 6 false, .light 7 false, .light 8 false, .light 9 false, .light 10 false, .light 11 false, .light 12 false, .light 13 false, .light 14 false, .light 15 false, .light 16 false, .light 17 false, .light 18 false, .light 19 false, .light 20 false, .light 21 false, .light 22 false, .light 23 false, .light 24 false, .light 25 false, .light 26 false, .light 27 false, .light 28 false, .light 29 false, .light 30 false, .light 31 false, .light 32 false, .light 33 false, .light 34 false, .light 35 false, .light 36 false, .light 37 false, .light 38 false, .light 39 false] [{}, {}, {}, {}, {}, {}, {}, {}, {}, {}, {}, {}, {}, {}, { g := false }, { g := false }, { g := false }, { g := false }, { g := false }, {}, {}, { g := false }, { g := false }, { g := false }, {}, {}, { g := false }, { g := false }, { g := false }, {}, {}, {}, {}, {}, {}, {}, {}, {}, { g := false }] [0, 3, 54] [] (zipE [0, 3, 54] [.sl false (a0.map E_GTone), .i l1_3, .bool true]) ⟨[], 1⟩ _ (by kernel_rfl) (cjC (hc3) (cjC (Eq.refl false) (cjC (Eq.refl false) (cjC (hc4) (cjC (Eq.refl false) (cjC (Eq.refl false) (cjC (hc5) (cjC (Eq.refl true) (cjC (Eq.refl true) (cjC (Eq.refl true) (cjC (Eq.refl true) (cjC (Eq.refl true) (cjC (Eq.refl true) (cjC (Eq.refl true) (cjC (Eq.refl true) (cjC (Eq.refl true) (cjC (Eq.refl true) (cj1 (Eq.refl true))))))))))))))))))) (kj2 true rfl)
            · rcases iteE hj2 with ⟨hc6, hj2⟩ | ⟨hc6, hj2⟩
              · replace hj2 := Option.some.inj hj2; subst hj2
                exact yun1 (c72 19) [[], [0], [0, 1], [0, 1, 2], [0, 1, 2, 3], [0, 1, 2, 3, 4], [0, 1, 2, 3, 4, 5], [0, 1, 2, 3, 4, 5, 6], [0, 1, 2, 3, 4, 5, 6, 7], [0, 1, 2, 3, 4, 5, 6, 7, 8], [0, 1, 2, 3, 4, 5, 6, 7, 8, 9], [0, 1, 2, 3, 4, 5, 6, 7, 8, 9, 10], [0, 1, 2, 3, 4, 5, 6, 7, 8, 9, 10, 11], [0, 1, 2, 3, 4, 5, 6, 7, 8, 9, 10, 11, 12], [0, 1, 2, 3, 4, 5, 6, 7, 8, 9, 10, 11, 12, 13], [0, 1, 2, 3, 4, 5, 6, 7, 8, 9, 10, 11, 12, 13, 14], [0, 1, 2, 3, 4, 5, 6, 7, 8, 9, 10, 11, 12, 13], [0, 1, 2, 3, 4, 5, 6, 7, 8, 9, 10, 11, 12, 13, 16], [0, 1, 2, 3, 4, 5, 6, 7, 8, 9, 10, 11, 12, 13, 14, 15, 16, 17], [0, 1, 2, 3, 4, 5, 6, 7, 8, 9, 10, 11, 12, 13, 14, 15, 16, 17, 18], [0, 1, 2, 3, 4, 5, 6, 7, 8, 9, 10, 11, 12, 13, 14, 15, 16, 17, 18, 19], [0, 1, 2, 3, 4, 5, 6, 7, 8, 9, 10, 11, 12, 13, 14, 15, 16, 17, 18, 19, 20], [0, 1, 2, 3, 4, 5, 6, 7, 8, 9, 10, 11, 12, 13, 14, 15, 16, 17, 18, 19, 20, 21], [0, 1, 2, 3, 4, 5, 6, 7, 8, 9, 10, 11, 12, 13, 14, 15, 16, 17, 18, 19, 20, 21, 22], [0, 1, 2, 3, 4, 5, 6, 7, 8, 9, 10, 11, 12, 13, 14, 15, 16, 17, 18, 19, 20, 21, 22, 23], [0, 1, 2, 3, 4, 5, 6, 7, 8, 9, 10, 11, 12, 13, 14, 15, 16, 17, 18, 19, 20, 21, 22, 23, 24], [0, 1, 2, 3, 4, 5, 6, 7, 8, 9, 10, 11, 12, 13, 14, 15, 16, 17, 18, 19, 20, 21, 22, 23, 24, 25], [0, 1, 2, 3, 4, 5, 6, 7, 8, 9, 10, 11, 12, 13, 14, 15, 16, 17, 18, 19, 20, 21, 22, 23, 24, 25, 26], [0, 1, 2, 3, 4, 5, 6, 7, 8, 9, 10, 11, 12, 13, 14, 15, 16, 17, 18, 19, 20, 21, 22, 23, 24, 25, 26, 27], [0, 1, 2, 3, 4, 5, 6, 7, 8, 9, 10, 11, 12, 13, 14, 15, 16, 17, 18, 19, 20, 21, 22, 23, 24, 25, 26, 27, 28], [0, 1, 2, 3, 4, 5, 6, 7, 8, 9, 10, 11, 12, 13, 14, 15, 16, 17, 18, 19, 20, 21, 22, 23, 24, 25, 26, 27, 28, 29], [0, 1, 2, 3, 4, 5, 6, 7, 8, 9, 10, 11, 12, 13, 14, 15, 16, 17, 18, 19, 20, 21, 22, 23, 24, 25, 26, 27, 28], [0, 1, 2, 3, 4, 5, 6, 7, 8, 9, 10, 11, 12, 13, 14, 15, 16, 17, 18, 19, 20, 21, 22, 23, 24, 25, 26, 27, 28], [0, 1, 2, 3, 4, 5, 6, 7, 8, 9, 10, 11, 12, 13, 14, 15, 16, 17, 18, 19, 20, 21, 22, 23, 24, 25, 26, 27, 28, 32], [0, 1, 2, 3, 4, 5, 6, 7, 8, 9, 10, 11, 12, 13, 14, 15, 16, 17, 18, 19, 20, 21, 22, 23, 24, 25, 26, 27, 28, 31, 32, 33], [0, 1, 2, 3, 4, 5, 6, 7, 8, 9, 10, 11, 12, 13, 14, 15, 16, 17, 18, 19, 20, 21, 22, 23, 24, 25, 26, 27, 28, 31, 32, 33, 34], [0, 1, 2, 3, 4, 5, 6, 7, 8, 9, 10, 11, 12, 13, 14, 15, 16, 17, 18, 19, 20, 21, 22, 23, 24, 25, 26, 27, 28, 31, 32, 33, 34, 35], [0, 1, 2, 3, 4, 5, 6, 7, 8, 9, 10, 11, 12, 13, 14, 15, 16, 17, 18, 19, 20, 21, 22, 23, 24, 25, 26, 27, 28, 29, 30, 31, 32, 33, 34, 35, 36], [0, 1, 2, 3, 4, 5, 6, 7, 8, 9, 10, 11, 12, 13, 14, 15, 16, 17, 18, 19, 20, 21, 22, 23, 24, 25, 26, 27, 28, 29, 30, 31, 32, 33, 34, 35, 36, 37], [0, 1, 2, 3, 4, 5, 6, 7, 8, 9, 10, 11, 12, 13, 14, 15, 16, 17, 18, 19, 20, 21, 22, 23, 24, 25, 26, 27, 28, 29, 30, 31, 32, 33, 34, 35, 36, 37, 38]] [.light 0 false, .light 1 false, .light 2 false, .light 3 false, .light 4 false, .light 5 false, .light 6 false, .light 7 false, .light 8 false, .light 9 false, .light 10 false, .light 11 false, .light 12 false, .light 13 false, .light 14 false, .light 15 false, .light 16 false, .light 17 false, .light 18 false, .light 19 false, .light 20 false, .light 21 false, .light 22 false, .light 23 false, .light 24 false, .light 25 false, .light 26 false, .light 27 false, .light 28 false, .light 29 false, .light 30 false, .light 31 false, .light 32 false, .light 33 false, .light 34 false, .light 35 false, .light 36 false, .light 37 false, .light 38 false, .light 39 false] [{}, {}, {}, {}, {}, {}, {}, {}, {}, {}, {}, {}, {}, {}, {}, {}, {}, {}, {}, {}, {}, { g := false }, { g := false }, { g := false }, {}, {}, { g := false }, { g := false }, { g := false }, {}, {}, {}, {}, {}, {}, {}, {}, {}, { g := false }] [0, 3, 54] [] (zipE [0, 3, 54] [.sl false (a0.map E_GTone), .i l1_3, .bool true]) ⟨[], 1⟩ _ (by kernel_rfl) (cjC (hc3) (cjC (Eq.refl false) (cjC (Eq.refl false) (cjC (hc4) (cjC (Eq.refl false) (cjC (Eq.refl false) (cjC (hc5) (cjC (Eq.refl false) (cjC (Eq.refl false) (cjC (Eq.refl false) (cjC (Eq.refl false) (cjC (hc6) (cjC (Eq.refl true) (cjC (Eq.refl true) (cjC (Eq.refl true) (cjC (Eq.refl true) (cjC (Eq.refl true) (cj1 (Eq.refl true))))))))))))))))))) (kj2 true rfl)
              · rcases iteE hj2 with ⟨hc7, hj2⟩ | ⟨hc7, hj2⟩
                · replace hj2 := Option.some.inj hj2; subst hj2
                  exact yun1 (c72 19) [[], [0], [0, 1], [0, 1, 2], [0, 1, 2, 3], [0, 1, 2, 3, 4], [0, 1, 2, 3, 4, 5], [0, 1, 2, 3, 4, 5, 6], [0, 1, 2, 3, 4, 5, 6, 7], [0, 1, 2, 3, 4, 5, 6, 7, 8], [0, 1, 2, 3, 4, 5, 6, 7, 8, 9], [0, 1, 2, 3, 4, 5, 6, 7, 8, 9, 10], [0, 1, 2, 3, 4, 5, 6, 7, 8, 9, 10, 11], [0, 1, 2, 3, 4, 5, 6, 7, 8, 9, 10, 11, 12], [0, 1, 2, 3, 4, 5, 6, 7, 8, 9, 10, 11, 12, 13], [0, 1, 2, 3, 4, 5, 6, 7, 8, 9, 10, 11, 12, 13, 14], [0, 1, 2, 3, 4, 5, 6, 7, 8, 9, 10, 11, 12, 13], [0, 1, 2, 3, 4, 5, 6, 7, 8, 9, 10, 11, 12, 13, 16], [0, 1, 2, 3, 4, 5, 6, 7, 8, 9, 10, 11, 12, 13, 14, 15, 16, 17], [0, 1, 2, 3, 4, 5, 6, 7, 8, 9, 10, 11, 12, 13, 14, 15, 16, 17, 18], [0, 1, 2, 3, 4, 5, 6, 7, 8, 9, 10, 11, 12, 13, 14, 15, 16, 17, 18, 19], [0, 1, 2, 3, 4, 5, 6, 7, 8, 9, 10, 11, 12, 13, 14, 15, 16, 17, 18, 19, 20], [0, 1, 2, 3, 4, 5, 6, 7, 8, 9, 10, 11, 12, 13, 14, 15, 16, 17, 18, 19, 20, 21], [0, 1, 2, 3, 4, 5, 6, 7, 8, 9, 10, 11, 12, 13, 14, 15, 16, 17, 18, 19, 20, 21, 22], [0, 1, 2, 3, 4, 5, 6, 7, 8, 9, 10, 11, 12, 13, 14, 15, 16, 17, 18, 19, 20, 21, 22, 23], [0, 1, 2, 3, 4, 5, 6, 7, 8, 9, 10, 11, 12, 13, 14, 15, 16, 17, 18, 19, 20, 21, 22, 23, 24], [0, 1, 2, 3, 4, 5, 6, 7, 8, 9, 10, 11, 12, 13, 14, 15, 16, 17, 18, 19, 20, 21, 22, 23, 24, 25], [0, 1, 2, 3, 4, 5, 6, 7, 8, 9, 10, 11, 12, 13, 14, 15, 16, 17, 18, 19, 20, 21, 22, 23, 24, 25, 26], [0, 1, 2, 3, 4, 5, 6, 7, 8, 9, 10, 11, 12, 13, 14, 15, 16, 17, 18, 19, 20, 21, 22, 23, 24, 25, 26, 27], [0, 1, 2, 3, 4, 5, 6, 7, 8, 9, 10, 11, 12, 13, 14, 15, 16, 17, 18, 19, 20, 21, 22, 23, 24, 25, 26, 27, 28], [0, 1, 2, 3, 4, 5, 6, 7, 8, 9, 10, 11, 12, 13, 14, 15, 16, 17, 18, 19, 20, 21, 22, 23, 24, 25, 26, 27, 28, 29], [0, 1, 2, 3, 4, 5, 6, 7, 8, 9, 10, 11, 12, 13, 14, 15, 16, 17, 18, 19, 20, 21, 22, 23, 24, 25, 26, 27, 28], [0, 1, 2, 3, 4, 5, 6, 7, 8, 9, 10, 11, 12, 13, 14, 15, 16, 17, 18, 19, 20, 21, 22, 23, 24, 25, 26, 27, 28], [0, 1, 2, 3, 4, 5, 6, 7, 8, 9, 10, 11, 12, 13, 14, 15, 16, 17, 18, 19, 20, 21, 22, 23, 24, 25, 26, 27, 28, 32], [0, 1, 2, 3, 4, 5, 6, 7, 8, 9, 10, 11, 12, 13, 14, 15, 16, 17, 18, 19, 20, 21, 22, 23, 24, 25, 26, 27, 28, 31, 32, 33], [0, 1, 2, 3, 4, 5, 6, 7, 8, 9, 10, 11, 12, 13, 14, 15, 16, 17, 18, 19, 20, 21, 22, 23, 24, 25, 26, 27, 28, 31, 32, 33, 34], [0, 1, 2, 3, 4, 5, 6, 7, 8, 9, 10, 11, 12, 13, 14, 15, 16, 17, 18, 19, 20, 21, 22, 23, 24, 25, 26, 27, 28, 31, 32, 33, 34, 35], [0, 1, 2, 3, 4, 5, 6, 7, 8, 9, 10, 11, 12, 13, 14, 15, 16, 17, 18, 19, 20, 21, 22, 23, 24, 25, 26, 27, 28, 29, 30, 31, 32, 33, 34, 35, 36], [0, 1, 2, 3, 4, 5, 6, 7, 8, 9, 10, 11, 12, 13, 14, 15, 16, 17, 18, 19, 20, 21, 22, 23, 24, 25, 26, 27, 28, 29, 30, 31, 32, 33, 34, 35, 36, 37], [0, 1, 2, 3, 4, 5, 6, 7, 8, 9, 10, 11, 12, 13, 14, 15, 16, 17, 18, 19, 20, 21, 22, 23, 24, 25, 26, 27, 28, 29, 30, 31, 32, 33, 34, 35, 36, 37, 38]] [.light 0 false, .light 1 false, .light 2 false, .light 3 false, .light 4 false, .light 5 false, .light 6 false, .light 7 false, .light 8 false, .light 9 false, .light 10 false, .light 11 false, .light 12 false, .light 13 false, .light 14 false, .light 15 false, .light 16 false, .light 17 false, .light 18 false, .light 19 false, .light 20 false, .light 21 false, .light 22 false, .light 23 false, .light 24 false, .light 25 false, .light 26 false, .light 27 false, .light 28 false, .light 29 false, .light 30 false, .light 31 false, .light 32 false, .light 33 false, .light 34 false, .light 35 false, .light 36 false, .light 37 false, .light 38 false, .light 39 false] [{}, {}, {}, {}, {}, {}, {}, {}, {}, {}, {}, {}, {}, {}, {}, {}, {}, {}, {}, {}, {}, {}, {}, {}, {}, {}, { g := false }, { g := false }, { g := false }, {}, {}, {}, {}, {}, {}, {}, {}, {}, { g := false }] [0, 3, 54] [] (zipE [0, 3, 54] [.sl false (a0.map E_GTone), .i l1_3, .bool true]) ⟨[], 1⟩ _ (by kernel_rfl) (cjC (hc3) (cjC (Eq.refl false) (cjC (Eq.refl false) (cjC (hc4) (cjC (Eq.refl false) (cjC (Eq.refl false) (cjC (hc5) (cjC (Eq.refl false) (cjC (Eq.refl false) (cjC (Eq.refl false) (cjC (Eq.refl false) (cjC (hc6) (cjC (Eq.refl false) (cjC (Eq.refl false) (cjC (hc7) (cjC (Eq.refl true) (cjC (Eq.refl true) (cj1 (Eq.refl true))))))))))))))))))) (kj2 true rfl)
                · rcases iteE hj2 with ⟨hc8, hj2⟩ | ⟨hc8, hj2⟩
                  · obtain ⟨y9, hy9, hj2⟩ := bindE hj2
                    replace hj2 := Option.some.inj hj2; subst hj2
                    exact yun1 (c72 19) [[], [0], [0, 1], [0, 1, 2], [0, 1, 2, 3], [0, 1, 2, 3, 4], [0, 1, 2, 3, 4, 5], [0, 1, 2, 3, 4, 5, 6], [0, 1, 2, 3, 4, 5, 6, 7], [0, 1, 2, 3, 4, 5, 6, 7, 8], [0, 1, 2, 3, 4, 5, 6, 7, 8, 9], [0, 1, 2, 3, 4, 5, 6, 7, 8, 9, 10], [0, 1, 2, 3, 4, 5, 6, 7, 8, 9, 10, 11], [0, 1, 2, 3, 4, 5, 6, 7, 8, 9, 10, 11, 12], [0, 1, 2, 3, 4, 5, 6, 7, 8, 9, 10, 11, 12, 13], [0, 1, 2, 3, 4, 5, 6, 7, 8, 9, 10, 11, 12, 13, 14], [0, 1, 2, 3, 4, 5, 6, 7, 8, 9, 10, 11, 12, 13], [0, 1, 2, 3, 4, 5, 6, 7, 8, 9, 10, 11, 12, 13, 16], [0, 1, 2, 3, 4, 5, 6, 7, 8, 9, 10, 11, 12, 13, 14, 15, 16, 17], [0, 1, 2, 3, 4, 5, 6, 7, 8, 9, 10, 11, 12, 13, 14, 15, 16, 17, 18], [0, 1, 2, 3, 4, 5, 6, 7, 8, 9, 10, 11, 12, 13, 14, 15, 16, 17, 18, 19], [0, 1, 2, 3, 4, 5, 6, 7, 8, 9, 10, 11, 12, 13, 14, 15, 16, 17, 18, 19, 20], [0, 1, 2, 3, 4, 5, 6, 7, 8, 9, 10, 11, 12, 13, 14, 15, 16, 17, 18, 19, 20, 21], [0, 1, 2, 3, 4, 5, 6, 7, 8, 9, 10, 11, 12, 13, 14, 15, 16, 17, 18, 19, 20, 21, 22], [0, 1, 2, 3, 4, 5, 6, 7, 8, 9, 10, 11, 12, 13, 14, 15, 16, 17, 18, 19, 20, 21, 22, 23], [0, 1, 2, 3, 4, 5, 6, 7, 8, 9, 10, 11, 12, 13, 14, 15, 16, 17, 18, 19, 20, 21, 22, 23, 24], [0, 1, 2, 3, 4, 5, 6, 7, 8, 9, 10, 11, 12, 13, 14, 15, 16, 17, 18, 19, 20, 21, 22, 23, 24, 25], [0, 1, 2, 3, 4, 5, 6, 7, 8, 9, 10, 11, 12, 13, 14, 15, 16, 17, 18, 19, 20, 21, 22, 23, 24, 25, 26], [0, 1, 2, 3, 4, 5, 6, 7, 8, 9, 10, 11, 12, 13, 14, 15, 16, 17, 18, 19, 20, 21, 22, 23, 24, 25, 26, 27], [0, 1, 2, 3, 4, 5, 6, 7, 8, 9, 10, 11, 12, 13, 14, 15, 16, 17, 18, 19, 20, 21, 22, 23, 24, 25, 26, 27, 28], [0, 1, 2, 3, 4, 5, 6, 7, 8, 9, 10, 11, 12, 13, 14, 15, 16, 17, 18, 19, 20, 21, 22, 23, 24, 25, 26, 27, 28, 29], [0, 1, 2, 3, 4, 5, 6, 7, 8, 9, 10, 11, 12, 13, 14, 15, 16, 17, 18, 19, 20, 21, 22, 23, 24, 25, 26, 27, 28], [0, 1, 2, 3, 4, 5, 6, 7, 8, 9, 10, 11, 12, 13, 14, 15, 16, 17, 18, 19, 20, 21, 22, 23, 24, 25, 26, 27, 28], [0, 1, 2, 3, 4, 5, 6, 7, 8, 9, 10, 11, 12, 13, 14, 15, 16, 17, 18, 19, 20, 21, 22, 23, 24, 25, 26, 27, 28, 32], [0, 1, 2, 3, 4, 5, 6, 7, 8, 9, 10, 11, 12, 13, 14, 15, 16, 17, 18, 19, 20, 21, 22, 23, 24, 25, 26, 27, 28, 31, 32, 33], [0, 1, 2, 3, 4, 5, 6, 7, 8, 9, 10, 11, 12, 13, 14, 15, 16, 17, 18, 19, 20, 21, 22, 23, 24, 25, 26, 27, 28, 31, 32, 33, 34], [0, 1, 2, 3, 4, 5, 6, 7, 8, 9, 10, 11, 12, 13, 14, 15, 16, 17, 18, 19, 20, 21, 22, 23, 24, 25, 26, 27, 28, 31, 32, 33, 34, 35], [0, 1, 2, 3, 4, 5, 6, 7, 8, 9, 10, 11, 12, 13, 14, 15, 16, 17, 18, 19, 20, 21, 22, 23, 24, 25, 26, 27, 28, 29, 30, 31, 32, 33, 34, 35, 36], [0, 1, 2, 3, 4, 5, 6, 7, 8, 9, 10, 11, 12, 13, 14, 15, 16, 17, 18, 19, 20, 21, 22, 23, 24, 25, 26, 27, 28, 29, 30, 31, 32, 33, 34, 35, 36, 37], [0, 1, 2, 3, 4, 5, 6, 7, 8, 9, 10, 11, 12, 13, 14, 15, 16, 17, 18, 19, 20, 21, 22, 23, 24, 25, 26, 27, 28, 29, 30, 31, 32, 33, 34, 35, 36, 37, 38]] [.light 0 false, .light 1 false, .light 2 false, .light 3 false, .light 4 false, .light 5 false, .light 6 false, .light 7 false, .light 8 false, .light 9 false, .light 10 false, .light 11 false, .light 12 false, .light 13 false, .light 14 false, .light 15 false, .light 16 false, .light 17 false, .light 18 false, .light 19 false, .light 20 false, .light 21 false, .light 22 false, .light 23 false, .light 24 false, .light 25 false, .light 26 false, .light 27 false, .light 28 false, .light 29 false, .light 30 false, .light 31 false, .light 32 false, .light 33 false, .light 34 false, .light 35 false, .light 36 false, .light 37 false, .light 38 false, .light 39 false] [{}, {}, {}, {}, {}, {}, {}, {}, {}, {}, {}, {}, {}, {}, {}, {}, {}, {}, {}, {}, {}, {}, {}, {}, {}, {}, {}, {}, {}, {}, {}, {}, {}, {}, { k := 1, x := E_GTone y9 }] [0, 3, 54] [] (zipE [0, 3, 54] [.sl false (a0.map E_GTone), .i l1_3, .bool (decide (y2.from_ < y9.to_))]) ⟨[], 1⟩ _ (by kernel_rfl) (cjC (hc3) (cjC (Eq.refl false) (cjC (Eq.refl false) (cjC (hc4) (cjC (Eq.refl false) (cjC (Eq.refl false) (cjC (hc5) (cjC (Eq.refl false) (cjC (Eq.refl false) (cjC (Eq.refl false) (cjC (Eq.refl false) (cjC (hc6) (cjC (Eq.refl false) (cjC (Eq.refl false) (cjC (hc7) (cjC (Eq.refl false) (cjC (Eq.refl false) (cjC (hc8) (cjC (Eq.refl true) (cjC (Eq.refl true) (cjC (Eq.refl true) (cjC (Eq.refl true) (cjC (Eq.refl true) (cjC ((ixE hy9).1) (cjC (mapGet E_GTone (ixE hy9).2) (cjC (Eq.refl true) (cjC (Eq.refl true) (cjC (Eq.refl true) (cj1 (Eq.refl false)))))))))))))))))))))))))))))) (kj2 (decide (y2.from_ < y9.to_)) rfl)
                  · replace hj2 := Option.some.inj hj2; subst hj2
                    exact yun1 (c72 19) [[], [0], [0, 1], [0, 1, 2], [0, 1, 2, 3], [0, 1, 2, 3, 4], [0, 1, 2, 3, 4, 5], [0, 1, 2, 3, 4, 5, 6], [0, 1, 2, 3, 4, 5, 6, 7], [0, 1, 2, 3, 4, 5, 6, 7, 8], [0, 1, 2, 3, 4, 5, 6, 7, 8, 9], [0, 1, 2, 3, 4, 5, 6, 7, 8, 9, 10], [0, 1, 2, 3, 4, 5, 6, 7, 8, 9, 10, 11], [0, 1, 2, 3, 4, 5, 6, 7, 8, 9, 10, 11, 12], [0, 1, 2, 3, 4, 5, 6, 7, 8, 9, 10, 11, 12, 13], [0, 1, 2, 3, 4, 5, 6, 7, 8, 9, 10, 11, 12, 13, 14], [0, 1, 2, 3, 4, 5, 6, 7, 8, 9, 10, 11, 12, 13], [0, 1, 2, 3, 4, 5, 6, 7, 8, 9, 10, 11, 12, 13, 16], [0, 1, 2, 3, 4, 5, 6, 7, 8, 9, 10, 11, 12, 13, 14, 15, 16, 17], [0, 1, 2, 3, 4, 5, 6, 7, 8, 9, 10, 11, 12, 13, 14, 15, 16, 17, 18], [0, 1, 2, 3, 4, 5, 6, 7, 8, 9, 10, 11, 12, 13, 14, 15, 16, 17, 18, 19], [0, 1, 2, 3, 4, 5, 6, 7, 8, 9, 10, 11, 12, 13, 14, 15, 16, 17, 18, 19, 20], [0, 1, 2, 3, 4, 5, 6, 7, 8, 9, 10, 11, 12, 13, 14, 15, 16, 17, 18, 19, 20, 21], [0, 1, 2, 3, 4, 5, 6, 7, 8, 9, 10, 11, 12, 13, 14, 15, 16, 17, 18, 19, 20, 21, 22], [0, 1, 2, 3, 4, 5, 6, 7, 8, 9, 10, 11, 12, 13, 14, 15, 16, 17, 18, 19, 20, 21, 22, 23], [0, 1, 2, 3, 4, 5, 6, 7, 8, 9, 10, 11, 12, 13, 14, 15, 16, 17, 18, 19, 20, 21, 22, 23, 24], [0, 1, 2, 3, 4, 5, 6, 7, 8, 9, 10, 11, 12, 13, 14, 15, 16, 17, 18, 19, 20, 21, 22, 23, 24, 25], [0, 1, 2, 3, 4, 5, 6, 7, 8, 9, 10, 11, 12, 13, 14, 15, 16, 17, 18, 19, 20, 21, 22, 23, 24, 25, 26], [0, 1, 2, 3, 4, 5, 6, 7, 8, 9, 10, 11, 12, 13, 14, 15, 16, 17, 18, 19, 20, 21, 22, 23, 24, 25, 26, 27], [0, 1, 2, 3, 4, 5, 6, 7, 8, 9, 10, 11, 12, 13, 14, 15, 16, 17, 18, 19, 20, 21, 22, 23, 24, 25, 26, 27, 28], [0, 1, 2, 3, 4, 5, 6, 7, 8, 9, 10, 11, 12, 13, 14, 15, 16, 17, 18, 19, 20, 21, 22, 23, 24, 25, 26, 27, 28, 29], [0, 1, 2, 3, 4, 5, 6, 7, 8, 9, 10, 11, 12, 13, 14, 15, 16, 17, 18, 19, 20, 21, 22, 23, 24, 25, 26, 27, 28], [0, 1, 2, 3, 4, 5, 6, 7, 8, 9, 10, 11, 12, 13, 14, 15, 16, 17, 18, 19, 20, 21, 22, 23, 24, 25, 26, 27, 28], [0, 1, 2, 3, 4, 5, 6, 7, 8, 9, 10, 11, 12, 13, 14, 15, 16, 17, 18, 19, 20, 21, 22, 23, 24, 25, 26, 27, 28, 32], [0, 1, 2, 3, 4, 5, 6, 7, 8, 9, 10, 11, 12, 13, 14, 15, 16, 17, 18, 19, 20, 21, 22, 23, 24, 25, 26, 27, 28, 31, 32, 33], [0, 1, 2, 3, 4, 5, 6, 7, 8, 9, 10, 11, 12, 13, 14, 15, 16, 17, 18, 19, 20, 21, 22, 23, 24, 25, 26, 27, 28, 31, 32, 33, 34], [0, 1, 2, 3, 4, 5, 6, 7, 8, 9, 10, 11, 12, 13, 14, 15, 16, 17, 18, 19, 20, 21, 22, 23, 24, 25, 26, 27, 28, 31, 32, 33, 34, 35], [0, 1, 2, 3, 4, 5, 6, 7, 8, 9, 10, 11, 12, 13, 14, 15, 16, 17, 18, 19, 20, 21, 22, 23, 24, 25, 26, 27, 28, 29, 30, 31, 32, 33, 34, 35, 36], [0, 1, 2, 3, 4, 5, 6, 7, 8, 9, 10, 11, 12, 13, 14, 15, 16, 17, 18, 19, 20, 21, 22, 23, 24, 25, 26, 27, 28, 29, 30, 31, 32, 33, 34, 35, 36, 37], [0, 1, 2, 3, 4, 5, 6, 7, 8, 9, 10, 11, 12, 13, 14, 15, 16, 17, 18, 19, 20, 21, 22, 23, 24, 25, 26, 27, 28, 29, 30, 31, 32, 33, 34, 35, 36, 37, 38]] [.light 0 false, .light 1 false, .light 2 false, .light 3 false, .light 4 false, .light 5 false, .light 6 false, .light 7 false, .light 8 false, .light 9 false, .light 10 false, .light 11 false, .light 12 false, .light 13 false, .light 14 false, .light 15 false, .light 16 false, .light 17 false, .light 18 false, .light 19 false, .light 20 false, .light 21 false, .light 22 false, .light 23 false, .light 24 false, .light 25 false, .light 26 false, .light 27 false, .light 28 false, .light 29 false, .light 30 false, .light 31 false, .light 32 false, .light 33 false, .light 34 false, .light 35 false, .light 36 false, .light 37 false, .light 38 false, .light 39 false] [{}, {}, {}, {}, {}, {}, {}, {}, {}, {}, {}, {}, {}, {}, {}, {}, {}, {}, {}, {}, {}, {}, {}, {}, {}, {}, {}, {}, {}, { g := false }, { g := false }, { g := false }, { g := false }, { g := false }, { g := false }, { g := false }, { g := false }, { g := false }] [0, 3, 54] [] (zipE [0, 3, 54] [.sl false (a0.map E_GTone), .i l1_3, .bool false]) ⟨[], 1⟩ _ (by kernel_rfl) (cjC (hc3) (cjC (Eq.refl false) (cjC (Eq.refl false) (cjC (hc4) (cjC (Eq.refl false) (cjC (Eq.refl false) (cjC (hc5) (cjC (Eq.refl false) (cjC (Eq.refl false) (cjC (Eq.refl false) (cjC (Eq.refl false) (cjC (hc6) (cjC (Eq.refl false) (cjC (Eq.refl false) (cjC (hc7) (cjC (Eq.refl false) (cjC (Eq.refl false) (cjC (hc8) (cjC (Eq.refl false) (cjC (Eq.refl false) (cjC (Eq.refl false) (cjC (Eq.refl false) (cjC (Eq.refl false) (cjC (Eq.refl false) (cjC (Eq.refl false) (cjC (Eq.refl false) (cj1 (Eq.refl false)))))))))))))))))))))))))))) (kj2 false rfl)
      · rintro _ rfl
        rcases iteE hl1 with ⟨hc10, hl1⟩ | ⟨hc10, hl1⟩
        · refine run_cT 54 (c72 20) (c72 23) j2_54 hc10 (by kernel_rfl) (by kernel_rfl) ?_
          refine run1 (c72 22) [] [2] [] (zipE [2] [.bool false]) ⟨[], 1⟩ _ (by kernel_rfl) cj0 ?_
          replace hl1 := Option.some.inj hl1; subst hl1
          have hr := rl1 _ rfl
          subst hr
          replace h := elimR h
          refine run_t (by kernel_rfl) ?_
          refine inbR ?_
          refine thenR ?_
          refine ⟨⟨_, rfl⟩, ?_⟩
          refine inbR ?_
          refine thenR ?_
          replace h := Option.some.inj h; subst h
          exact fin_r (by kernel_rfl) rfl
        · refine run_cF 54 (c72 20) (c72 23) j2_54 hc10 (by kernel_rfl) (by kernel_rfl) ?_
          refine run_k (by kernel_rfl) ?_
          refine inbN ?_
          refine thenN ?_
          refine run0 [] [0, 3] [] (zipE [0, 3] [.sl false (a0.map E_GTone), .i (wr (l1_3 + 1))]) ⟨[], 1⟩ _ (by kernel_rfl) cj0 ?_
          replace hl1 := Option.some.inj hl1; subst hl1
          exact ⟨_, rfl, pi [], mkInto (ks := [0, 3]) (ys := [.sl false (a0.map E_GTone), .i (wr (l1_3 + 1))]) (by kernel_rfl) (by kernel_rfl) (.k (.c (cleanMap _ _ cl_GTone)) (.k (.c rfl) .z)) .z⟩
    · refine run_cF 8 (c72 11) (c72 12) (decide (l1_3 < (a0.length : Int))) hc1 (by kernel_rfl) (by kernel_rfl) ?_
      replace hl1 := Option.some.inj hl1; subst hl1
      have hr := rl1 _ rfl
      subst hr
      refine awp_p [] [] (zipE [] []) ⟨[], 0⟩ (by kernel_rfl) (?_)
      refine run_e 0 (by kernel_rfl) ?_
      refine thenE ?_
      refine ⟨⟨_, rfl⟩, ?_⟩
      refine inbE ?_
      exact kl1 () rfl
  · rintro ⟨⟩ rfl
    replace h := elimL h
    refine thenN ?_
    refine run1 (c72 27) [] [2] [] (zipE [2] [.bool true]) ⟨[], 0⟩ _ (by kernel_rfl) cj0 ?_
    refine run_t (by kernel_rfl) ?_
    replace h := Option.some.inj h; subst h
    exact fin_r (by kernel_rfl) rfl

/-- theorbo.theorboref07.CheckParts -/
def f38 (a0 : List (List GTone)) : Option Int := (loopN (σ := (Bool × Int)) (τ := Bool) (fun ((l1_3, l1_4) : (Bool × Int)) => bif (decide (l1_4 < (a0.length : Int))) then (((bif l1_3 then (some true) else ((ix a0 l1_4).bind fun y3 => some (decide (400 < (y3.length : Int))))) : Option Bool).bind fun (j2_3 : Bool) => some (.inl (j2_3, (wr (l1_4 + 1))))) else (some (.inr l1_3))) FUEL ((decide (6 < (a0.length : Int))), 0)).bind fun (l1x_3 : Bool) => bif l1x_3 then (some 2) else ((loopN (σ := Int) (τ := (Unit ⊕ Int)) (fun (l3_5 : Int) => bif (decide (l3_5 < (a0.length : Int))) then ((ix a0 l3_5).bind fun y6 => (f72 y6).bind fun r7 => bif (!r7) then (some (.inr (.inr 80))) else (some (.inl (wr (l3_5 + 1))))) else (some (.inr (.inl ())))) FUEL 0).bind (Sum.elim (fun (_ : Unit) => some 0) some))
theorem f38_ok (a0 : List (List GTone)) (r : Int) (h : f38 a0 = some r) : APure Tryz.prog 38 [.sl false (a0.map (SL E_GTone))] (.i r) := by
  refine apure (clK (cleanMap a0 _ (cl_SL cl_GTone)) clZ) rfl ?_
  refine run_f 37 [.tmp 2] (c38 0) (zipE [0] [.sl false (a0.map (SL E_GTone))]) (by kernel_rfl) (by kernel_rfl) (by kernel_rfl) rfl ?_
  unfold f38 at h
  refine run1 (c38 2) [] [0] [] (zipE [0] [.sl false (a0.map (SL E_GTone))]) ⟨[], 0⟩ _ (by kernel_rfl) cj0 ?_
  refine run1 (c38 4) [{}, { k := 1, n := a0.length }] [0, 3] [] (zipE [0, 3] [.sl false (a0.map (SL E_GTone)), .bool (decide (6 < (a0.length : Int)))]) ⟨[], 0⟩ _ (by kernel_rfl) (cj1 (mapLen a0 (SL E_GTone))) ?_
  refine run_s (c38 5) (c38 19) (by kernel_rfl) ?_
  refine run1 (c38 7) [] [0, 3, 4] [] (zipE [0, 3, 4] [.sl false (a0.map (SL E_GTone)), .bool (decide (6 < (a0.length : Int))), .i 0]) ⟨[], 0⟩ _ (by kernel_rfl) cj0 ?_
  obtain ⟨l1x_3, hll1x, h⟩ := bindE h
  refine run_tq (fun (l1x_3 : Bool) => (zipE [0, 3] [.sl false (a0.map (SL E_GTone)), .bool l1x_3])) (fun (l1x_3 : Bool) => ⟨[], 0⟩) (fun j => l1x_3 = j) (fun kl1 => ?_) ?_
  · refine run_b 0 (c38 8) (by kernel_rfl) ?_
    refine run_l (c38 9) _ hll1x (fun ((l1_3, l1_4) : (Bool × Int)) => (zipE [0, 3, 4] [.sl false (a0.map (SL E_GTone)), .bool l1_3, .i l1_4])) (fun ((l1_3, l1_4) : (Bool × Int)) => ⟨[], 0⟩) [] (by intro i e; cases e <;> exact Nat.le_of_ble_eq_true rfl) (by kernel_rfl) (mkInto (ks := [0, 3, 4]) (ys := [.sl false (a0.map (SL E_GTone)), .bool (decide (6 < (a0.length : Int))), .i 0]) (by kernel_rfl) (by kernel_rfl) (.k (.c (cleanMap _ _ (cl_SL cl_GTone))) (.k (.c rfl) (.k (.c rfl) .z))) .z) ?_
    rintro ⟨l1_3, l1_4⟩ out hl1 rl1
    refine run_s (c38 10) (c38 15) (by kernel_rfl) ?_
    refine run1 (c38 12) [{}, {}, { k := 1, n := a0.length }] [0, 3, 4, 12] [] (zipE [0, 3, 4, 12] [.sl false (a0.map (SL E_GTone)), .bool l1_3, .i l1_4, .bool (decide (l1_4 < (a0.length : Int)))]) ⟨[], 0⟩ _ (by kernel_rfl) (cj1 (mapLen a0 (SL E_GTone))) ?_
    rcases iteE hl1 with ⟨hc1, hl1⟩ | ⟨hc1, hl1⟩
    · refine run_cT 12 (c38 13) (c38 14) (decide (l1_4 < (a0.length : Int))) hc1 (by kernel_rfl) (by kernel_rfl) ?_
      refine run_k (by kernel_rfl) ?_
      refine thenN ?_
      refine run_s (c38 16) (c38 18) (by kernel_rfl) ?_
      refine run_b 1 (c38 17) (by kernel_rfl) ?_
      obtain ⟨j2_3, hj2, hl1⟩ := bindE hl1
      refine run_tq (fun (j2_3 : Bool) => (zipE [0, 3, 4] [.sl false (a0.map (SL E_GTone)), .bool j2_3, .i l1_4])) (fun (j2_3 : Bool) => ⟨[], 0⟩) (fun j => j2_3 = j) (fun kj2 => ?_) ?_
      · rcases iteE hj2 with ⟨hc2, hj2⟩ | ⟨hc2, hj2⟩
        · replace hj2 := Option.some.inj hj2; subst hj2
          exact run0 [{}, {}, { g := false }, { g := false }, { g := false }, { g := false }, { g := false }, { g := false }, { k := 1, b := true }] [0, 3, 4] [] (zipE [0, 3, 4] [.sl false (a0.map (SL E_GTone)), .bool true, .i l1_4]) ⟨[], 0⟩ _ (by kernel_rfl) (cjC (hc2) (cjC (hc2) (cjC (hc2) (cjC (hc2) (cjC (hc2) (cjC (hc2) (cj1 (hc2)))))))) (kj2 true rfl)
        · obtain ⟨y3, hy3, hj2⟩ := bindE hj2
          replace hj2 := Option.some.inj hj2; subst hj2
          exact run0 [{}, {}, {}, {}, { k := 1, x := (SL E_GTone) y3 }, {}, { k := 1, n := y3.length }, {}, { k := 1, b := false }] [0, 3, 4] [] (zipE [0, 3, 4] [.sl false (a0.map (SL E_GTone)), .bool (decide (400 < (y3.length : Int))), .i l1_4]) ⟨[], 0⟩ _ (by kernel_rfl) (cjC (hc2) (cjC (hc2) (cjC (hc2) (cjC ((ixE hy3).1) (cjC (mapGet (SL E_GTone) (ixE hy3).2) (cjC (hc2) (cjC (hc2) (cjC (mapLen y3 E_GTone) (cjC (hc2) (cj1 (hc2))))))))))) (kj2 (decide (400 < (y3.length : Int))) rfl)
      · rintro _ rfl
        refine inbN ?_
        refine thenN ?_
        refine run0 [] [0, 3, 4] [] (zipE [0, 3, 4] [.sl false (a0.map (SL E_GTone)), .bool j2_3, .i (wr (l1_4 + 1))]) ⟨[], 0⟩ _ (by kernel_rfl) cj0 ?_
        replace hl1 := Option.some.inj hl1; subst hl1
        exact ⟨_, rfl, pi [], mkInto (ks := [0, 3, 4]) (ys := [.sl false (a0.map (SL E_GTone)), .bool j2_3, .i (wr (l1_4 + 1))]) (by kernel_rfl) (by kernel_rfl) (.k (.c (cleanMap _ _ (cl_SL cl_GTone))) (.k (.c rfl) (.k (.c rfl) .z))) .z⟩
    · refine run_cF 12 (c38 13) (c38 14) (decide (l1_4 < (a0.length : Int))) hc1 (by kernel_rfl) (by kernel_rfl) ?_
      replace hl1 := Option.some.inj hl1; subst hl1
      have hr := rl1 _ rfl
      subst hr
      refine awp_p [0, 3] [] (zipE [0, 3] [.sl false (a0.map (SL E_GTone)), .bool l1_3]) ⟨[], 0⟩ (by kernel_rfl) (?_)
      refine run_e 0 (by kernel_rfl) ?_
      refine thenE ?_
      refine ⟨⟨_, rfl⟩, ?_⟩
      refine inbE ?_
      exact kl1 l1_3 rfl
  · rintro _ rfl
    refine thenN ?_
    refine run_s (c38 20) (c38 27) (by kernel_rfl) ?_
    refine run1 (c38 22) [] [0, 24] [] (zipE [0, 24] [.sl false (a0.map (SL E_GTone)), .bool l1x_3]) ⟨[], 0⟩ _ (by kernel_rfl) cj0 ?_
    rcases iteE h with ⟨hc4, h⟩ | ⟨hc4, h⟩
    · refine run_cT 24 (c38 23) (c38 26) l1x_3 hc4 (by kernel_rfl) (by kernel_rfl) ?_
      refine run1 (c38 25) [] [2] [] (zipE [2] [.i 2]) ⟨[], 0⟩ _ (by kernel_rfl) cj0 ?_
      refine run_t (by kernel_rfl) ?_
      refine thenR ?_
      replace h := Option.some.inj h; subst h
      exact fin_r (by kernel_rfl) rfl
    · refine run_cF 24 (c38 23) (c38 26) l1x_3 hc4 (by kernel_rfl) (by kernel_rfl) ?_
      refine run_k (by kernel_rfl) ?_
      refine thenN ?_
      refine run_s (c38 28) (c38 48) (by kernel_rfl) ?_
      refine run1 (c38 30) [] [0, 5] [] (zipE [0, 5] [.sl false (a0.map (SL E_GTone)), .i 0]) ⟨[], 0⟩ _ (by kernel_rfl) cj0 ?_
      obtain ⟨ol3x, hll3x, h⟩ := bindE h
      refine run_tq (fun (_ : Unit) => (zipE [] [])) (fun (_ : Unit) => ⟨[], 0⟩) (fun j => ol3x = .inl j) (fun kl3 => ?_) ?_
      · refine run_b 2 (c38 31) (by kernel_rfl) ?_
        refine run_l (c38 32) _ hll3x (fun (l3_5 : Int) => (zipE [0, 5] [.sl false (a0.map (SL E_GTone)), .i l3_5])) (fun (l3_5 : Int) => ⟨[], 0⟩) [] (by intro i e; cases e <;> exact Nat.le_of_ble_eq_true rfl) (by kernel_rfl) (mkInto (ks := [0, 5]) (ys := [.sl false (a0.map (SL E_GTone)), .i 0]) (by kernel_rfl) (by kernel_rfl) (.k (.c (cleanMap _ _ (cl_SL cl_GTone))) (.k (.c rfl) .z)) .z) ?_
        rintro l3_5 out hl3 rl3
        refine run_s (c38 33) (c38 38) (by kernel_rfl) ?_
        refine run1 (c38 35) [{}, {}, { k := 1, n := a0.length }] [0, 5, 28] [] (zipE [0, 5, 28] [.sl false (a0.map (SL E_GTone)), .i l3_5, .bool (decide (l3_5 < (a0.length : Int)))]) ⟨[], 0⟩ _ (by kernel_rfl) (cj1 (mapLen a0 (SL E_GTone))) ?_
        rcases iteE hl3 with ⟨hc5, hl3⟩ | ⟨hc5, hl3⟩
        · refine run_cT 28 (c38 36) (c38 37) (decide (l3_5 < (a0.length : Int))) hc5 (by kernel_rfl) (by kernel_rfl) ?_
          refine run_k (by kernel_rfl) ?_
          refine thenN ?_
          refine run_s (c38 39) (c38 47) (by kernel_rfl) ?_
          refine run_b 3 (c38 40) (by kernel_rfl) ?_
          obtain ⟨y6, hy6, hl3⟩ := bindE hl3
          obtain ⟨r7, hr7, hl3⟩ := bindE hl3
          refine run1 (c38 42) [{}, {}, { k := 1, x := (SL E_GTone) y6 }, {}, { c := some (.bool r7, ⟨[], 0⟩) }] [0, 5, 36] [] (zipE [0, 5, 36] [.sl false (a0.map (SL E_GTone)), .i l3_5, .bool (!r7)]) ⟨[], 0⟩ _ (by kernel_rfl) (cjC ((ixE hy6).1) (cjC (mapGet (SL E_GTone) (ixE hy6).2) (cj1 (f72_ok y6 _ hr7 ⟨[], 0⟩)))) ?_
          rcases iteE hl3 with ⟨hc8, hl3⟩ | ⟨hc8, hl3⟩
          · refine run_cT 36 (c38 43) (c38 46) (!r7) hc8 (by kernel_rfl) (by kernel_rfl) ?_
            refine run1 (c38 45) [] [2] [] (zipE [2] [.i 80]) ⟨[], 0⟩ _ (by kernel_rfl) cj0 ?_
            replace hl3 := Option.some.inj hl3; subst hl3
            have hr := rl3 _ rfl
            subst hr
            replace h := elimR h
            refine run_t (by kernel_rfl) ?_
            refine inbR ?_
            refine thenR ?_
            refine ⟨⟨_, rfl⟩, ?_⟩
            refine inbR ?_
            refine thenR ?_
            replace h := Option.some.inj h; subst h
            exact fin_r (by kernel_rfl) rfl
          · refine run_cF 36 (c38 43) (c38 46) (!r7) hc8 (by kernel_rfl) (by kernel_rfl) ?_
            refine run_k (by kernel_rfl) ?_
            refine inbN ?_
            refine thenN ?_
            refine run0 [] [0, 5] [] (zipE [0, 5] [.sl false (a0.map (SL E_GTone)), .i (wr (l3_5 + 1))]) ⟨[], 0⟩ _ (by kernel_rfl) cj0 ?_
            replace hl3 := Option.some.inj hl3; subst hl3
            exact ⟨_, rfl, pi [], mkInto (ks := [0, 5]) (ys := [.sl false (a0.map (SL E_GTone)), .i (wr (l3_5 + 1))]) (by kernel_rfl) (by kernel_rfl) (.k (.c (cleanMap _ _ (cl_SL cl_GTone))) (.k (.c rfl) .z)) .z⟩
        · refine run_cF 28 (c38 36) (c38 37) (decide (l3_5 < (a0.length : Int))) hc5 (by kernel_rfl) (by kernel_rfl) ?_
          replace hl3 := Option.some.inj hl3; subst hl3
          have hr := rl3 _ rfl
          subst hr
          refine awp_p [] [] (zipE [] []) ⟨[], 0⟩ (by kernel_rfl) (?_)
          refine run_e 2 (by kernel_rfl) ?_
          refine thenE ?_
          refine ⟨⟨_, rfl⟩, ?_⟩
          refine inbE ?_
          exact kl3 () rfl
      · rintro ⟨⟩ rfl
        replace h := elimL h
        refine thenN ?_
        refine run1 (c38 50) [] [2] [] (zipE [2] [.i 0]) ⟨[], 0⟩ _ (by kernel_rfl) cj0 ?_
        refine run_t (by kernel_rfl) ?_
        replace h := Option.some.inj h; subst h
        exact fin_r (by kernel_rfl) rfl

/-- theorbo.theorboref08.both -/
def f60 (a0 : List GTone) (a1 : List GFigure) : Option Int := (f38 ([a0] : List (List GTone))).bind fun r1 => bif (decide (r1 ≠ 0)) then (some r1) else ((f26 a1).bind fun r3 => some r3)
theorem f60_ok (a0 : List GTone) (a1 : List GFigure) (r : Int) (h : f60 a0 a1 = some r) : APure Tryz.prog 60 [.sl false (a0.map E_GTone), .sl false (a1.map E_GFigure)] (.i r) := by
  refine apure (clK (cleanMap a0 _ cl_GTone) (clK (cleanMap a1 _ cl_GFigure) clZ)) rfl ?_
  refine run_f 14 [.tmp 4] (c60 0) (zipE [0, 1] [.sl false (a0.map E_GTone), .sl false (a1.map E_GFigure)]) (by kernel_rfl) (by kernel_rfl) (by kernel_rfl) rfl ?_
  unfold f60 at h
  refine run1 (c60 2) [] [0, 1] [] (zipE [0, 1] [.sl false (a0.map E_GTone), .sl false (a1.map E_GFigure)]) ⟨[], 0⟩ _ (by kernel_rfl) cj0 ?_
  refine run_s (c60 3) (c60 12) (by kernel_rfl) ?_
  obtain ⟨r1, hr1, h⟩ := bindE h
  refine run1 (c60 5) [{}, {}, { c := some (.i r1, ⟨[], 0⟩) }] [1, 5] [] (zipE [1, 5] [.sl false (a1.map E_GFigure), .i r1]) ⟨[], 0⟩ _ (by kernel_rfl) (cj1 (APure.co (ok := fun _ => false) (π := id) (args := [.sl true [.sl false (a0.map E_GTone)]]) (f38_ok ([a0] : List (List GTone)) _ hr1) (.k (.s (cleanMap (([a0] : List (List GTone))) _ (cl_SL cl_GTone))) .z) ⟨[], 0⟩)) ?_
  refine run1 (c60 7) [] [1, 5, 10] [] (zipE [1, 5, 10] [.sl false (a1.map E_GFigure), .i r1, .bool (decide (r1 ≠ 0))]) ⟨[], 0⟩ _ (by kernel_rfl) cj0 ?_
  rcases iteE h with ⟨hc2, h⟩ | ⟨hc2, h⟩
  · refine run_cT 10 (c60 8) (c60 11) (decide (r1 ≠ 0)) hc2 (by kernel_rfl) (by kernel_rfl) ?_
    refine run1 (c60 10) [] [4] [] (zipE [4] [.i r1]) ⟨[], 0⟩ _ (by kernel_rfl) cj0 ?_
    refine run_t (by kernel_rfl) ?_
    refine thenR ?_
    replace h := Option.some.inj h; subst h
    exact fin_r (by kernel_rfl) rfl
  · refine run_cF 10 (c60 8) (c60 11) (decide (r1 ≠ 0)) hc2 (by kernel_rfl) (by kernel_rfl) ?_
    refine run_k (by kernel_rfl) ?_
    refine thenN ?_
    obtain ⟨r3, hr3, h⟩ := bindE h
    refine run1 (c60 14) [{}, { c := some (.i r3, ⟨[], 0⟩) }] [4] [] (zipE [4] [.i r3]) ⟨[], 0⟩ _ (by kernel_rfl) (cj1 (f26_ok a1 _ hr3 ⟨[], 0⟩)) ?_
    refine run_t (by kernel_rfl) ?_
    replace h := Option.some.inj h; subst h
    exact fin_r (by kernel_rfl) rfl

/-- theorbo.theorboref08.sum -/
def f98 (a0 : GFigure) : Option Int := (loopN (σ := (Int × Int)) (τ := Int) (fun ((l1_3, l1_4) : (Int × Int)) => bif (decide (l1_4 < (a0.shares.length : Int))) then ((ix a0.shares l1_4).bind fun y2 => some (.inl ((wr (l1_3 + y2)), (wr (l1_4 + 1))))) else (some (.inr l1_3))) FUEL (0, 0)).bind fun (l1x_3 : Int) => some l1x_3
theorem f98_ok (a0 : GFigure) (r : Int) (h : f98 a0 = some r) : APure Tryz.prog 98 [E_GFigure a0] (.i r) := by
  refine apure (clK (cl_GFigure a0) clZ) rfl ?_
  refine run_f 20 [.tmp 2] (c98 0) (zipE [0] [E_GFigure a0]) (by kernel_rfl) (by kernel_rfl) (by kernel_rfl) rfl ?_
  unfold f98 at h
  refine run1 (c98 2) [] [1] [0] (zipE [1] [.mp 0 0 0]) ⟨[(0, .cells 3 [E_GFigure a0])], 1⟩ _ (by kernel_rfl) cj0 ?_
  refine run1 (c98 4) [] [1, 3] [0] (zipE [1, 3] [.mp 0 0 0, .i 0]) ⟨[(0, .cells 3 [E_GFigure a0])], 1⟩ _ (by kernel_rfl) cj0 ?_
  refine run_s (c98 5) (c98 19) (by kernel_rfl) ?_
  refine run1 (c98 7) [] [1, 3, 4] [0] (zipE [1, 3, 4] [.mp 0 0 0, .i 0, .i 0]) ⟨[(0, .cells 3 [E_GFigure a0])], 1⟩ _ (by kernel_rfl) cj0 ?_
  obtain ⟨l1x_3, hll1x, h⟩ := bindE h
  refine run_tq (fun (l1x_3 : Int) => (zipE [3] [.i l1x_3])) (fun (l1x_3 : Int) => ⟨[], 1⟩) (fun j => l1x_3 = j) (fun kl1 => ?_) ?_
  · refine run_b 0 (c98 8) (by kernel_rfl) ?_
    refine run_l (c98 9) _ hll1x (fun ((l1_3, l1_4) : (Int × Int)) => (zipE [1, 3, 4] [.mp 0 0 0, .i l1_3, .i l1_4])) (fun ((l1_3, l1_4) : (Int × Int)) => ⟨[(0, .cells 3 [E_GFigure a0])], 1⟩) [] (by intro i e; cases e <;> exact Nat.le_of_ble_eq_true rfl) (by kernel_rfl) (mkInto (ks := [1, 3, 4]) (ys := [.mp 0 0 0, .i 0, .i 0]) (by kernel_rfl) (by kernel_rfl) (.k (.mp rfl rfl) (.k (.c rfl) (.k (.c rfl) .z))) (.k (x' := .cells 3 [E_GFigure a0]) (by kernel_rfl) (.cells (.k (.c (cl_GFigure a0)) .z)) .z)) ?_
    rintro ⟨l1_3, l1_4⟩ out hl1 rl1
    refine run_s (c98 10) (c98 15) (by kernel_rfl) ?_
    refine run1 (c98 12) [{}, {}, {}, { k := 1, n := a0.shares.length }] [1, 3, 4, 9] [0] (zipE [1, 3, 4, 9] [.mp 0 0 0, .i l1_3, .i l1_4, .bool (decide (l1_4 < (a0.shares.length : Int)))]) ⟨[(0, .cells 3 [E_GFigure a0])], 1⟩ _ (by kernel_rfl) (cj1 (mapLen a0.shares AV.i)) ?_
    rcases iteE hl1 with ⟨hc1, hl1⟩ | ⟨hc1, hl1⟩
    · refine run_cT 9 (c98 13) (c98 14) (decide (l1_4 < (a0.shares.length : Int))) hc1 (by kernel_rfl) (by kernel_rfl) ?_
      refine run_k (by kernel_rfl) ?_
      refine thenN ?_
      refine run_s (c98 16) (c98 18) (by kernel_rfl) ?_
      refine run_b 1 (c98 17) (by kernel_rfl) ?_
      obtain ⟨y2, hy2, hl1⟩ := bindE hl1
      refine run0 [{}, {}, {}, {}, { k := 1, x := AV.i y2 }] [1, 3, 4] [0] (zipE [1, 3, 4] [.mp 0 0 0, .i (wr (l1_3 + y2)), .i l1_4]) ⟨[(0, .cells 3 [E_GFigure a0])], 1⟩ _ (by kernel_rfl) (cjC ((ixE hy2).1) (cj1 (mapGet AV.i (ixE hy2).2))) ?_
      refine inbN ?_
      refine thenN ?_
      refine run0 [] [1, 3, 4] [0] (zipE [1, 3, 4] [.mp 0 0 0, .i (wr (l1_3 + y2)), .i (wr (l1_4 + 1))]) ⟨[(0, .cells 3 [E_GFigure a0])], 1⟩ _ (by kernel_rfl) cj0 ?_
      replace hl1 := Option.some.inj hl1; subst hl1
      exact ⟨_, rfl, pi [], mkInto (ks := [1, 3, 4]) (ys := [.mp 0 0 0, .i (wr (l1_3 + y2)), .i (wr (l1_4 + 1))]) (by kernel_rfl) (by kernel_rfl) (.k (.mp rfl rfl) (.k (.c rfl) (.k (.c rfl) .z))) (.k (x' := .cells 3 [E_GFigure a0]) (by kernel_rfl) (.cells (.k (.c (cl_GFigure a0)) .z)) .z)⟩
    · refine run_cF 9 (c98 13) (c98 14) (decide (l1_4 < (a0.shares.length : Int))) hc1 (by kernel_rfl) (by kernel_rfl) ?_
      replace hl1 := Option.some.inj hl1; subst hl1
      have hr := rl1 _ rfl
      subst hr
      refine awp_p [3] [] (zipE [3] [.i l1_3]) ⟨[], 1⟩ (by kernel_rfl) (?_)
      refine run_e 0 (by kernel_rfl) ?_
      refine thenE ?_
      refine ⟨⟨_, rfl⟩, ?_⟩
      refine inbE ?_
      exact kl1 l1_3 rfl
  · rintro _ rfl
    refine thenN ?_
    refine run1 (c98 21) [] [2] [] (zipE [2] [.i l1x_3]) ⟨[], 1⟩ _ (by kernel_rfl) cj0 ?_
    refine run_t (by kernel_rfl) ?_
    replace h := Option.some.inj h; subst h
    exact fin_r (by kernel_rfl) rfl

/-- theorbo.theorboref08.fits -/
def f61 (a0 : List GTone) (a1 : GFigure) (a2 : Int) : Option Bool := ((bif (decide ((a0.length : Int) ≤ (wr (a2 + 1)))) then (some true) else ((ix a0 (wr (a2 + 1))).bind fun y2 => (ix a0 a2).bind fun y3 => bif (decide (y2.from_ ≠ y3.to_)) then (some true) else (bif (decide ((wr (y2.pitch - y3.pitch)) ≠ a1.interval)) then (some true) else ((f98 a1).bind fun r6 => need (r6 ≠ 0) <| some (decide ((Int.tmod (wr (y3.to_ - y3.from_)) r6) ≠ 0)))))) : Option Bool).bind fun (j1_61 : Bool) => bif j1_61 then (some false) else ((loopN (σ := Int) (τ := (Unit ⊕ Bool)) (fun (l2_7 : Int) => bif (decide (l2_7 < (a1.moves.length : Int))) then ((ix a0 a2).bind fun y10 => (ix a1.moves l2_7).bind fun y11 => ((bif (decide ((wr (y10.pitch + y11)) < 0)) then (some true) else (some (decide (127 < (wr (y10.pitch + y11)))))) : Option Bool).bind fun (j3_85 : Bool) => bif j3_85 then (some (.inr (.inr false))) else (some (.inl (wr (l2_7 + 1))))) else (some (.inr (.inl ())))) FUEL 0).bind (Sum.elim (fun (_ : Unit) => some true) some))
theorem f61_ok (a0 : List GTone) (a1 : GFigure) (a2 : Int) (r : Bool) (h : f61 a0 a1 a2 = some r) : APure Tryz.prog 61 [.sl false (a0.map E_GTone), E_GFigure a1, .i a2] (.bool r) := by
  refine apure (clK (cleanMap a0 _ cl_GTone) (clK (cl_GFigure a1) (clK rfl clZ))) rfl ?_
  refine run_f 86 [.tmp 6] (c61 0) (zipE [0, 1, 2] [.sl false (a0.map E_GTone), E_GFigure a1, .i a2]) (by kernel_rfl) (by kernel_rfl) (by kernel_rfl) rfl ?_
  unfold f61 at h
  refine run1 (c61 2) [] [0, 2, 4] [0] (zipE [0, 2, 4] [.sl false (a0.map E_GTone), .i a2, .mp 0 0 0]) ⟨[(0, .cells 3 [E_GFigure a1])], 1⟩ _ (by kernel_rfl) cj0 ?_
  refine run_s (c61 3) (c61 10) (by kernel_rfl) ?_
  obtain ⟨j1_61, hj1, h⟩ := bindE h
  refine run_gq (c61 5) (fun (j1_61 : Bool) => (zipE [0, 2, 4, 61] [.sl false (a0.map E_GTone), .i a2, .mp 0 0 0, .bool j1_61])) (fun (j1_61 : Bool) => ⟨[(0, .cells 3 [E_GFigure a1])], 1⟩) (fun j => j1_61 = j) (fun kj1 => ?_) ?_
  · rcases iteE hj1 with ⟨hc1, hj1⟩ | ⟨hc1, hj1⟩
    · replace hj1 := Option.some.inj hj1; subst hj1
      exact yun1 (c61 5) [[], [0], [], [2], [0, 1, 2, 3], [0, 1, 2, 3, 4], [0, 1, 2, 3, 4, 5], [0, 1, 2, 3, 4, 5], [0, 1, 2, 3, 4, 5, 7], [0, 1, 2, 3, 4, 5, 6, 7, 8], [0, 1, 2, 3, 4, 5, 6, 7, 8, 9], [0, 1, 2, 3, 4, 5, 6, 7, 8, 9, 10], [0, 1, 2, 3, 4, 5], [0, 1, 2, 3, 4, 5], [0, 1, 2, 3, 4, 5, 12, 13], [0, 1, 2, 3, 4, 5, 12, 13, 14], [0, 1, 2, 3, 4, 5, 12, 13, 14, 15], [0, 1, 2, 3, 4, 5, 6, 7, 8, 9, 10, 11, 12, 13, 14, 15, 16], [0, 1, 2, 3, 4, 5, 6, 7, 8, 9, 10, 11, 12, 13, 14, 15, 16, 17], [0, 1, 2, 3, 4, 5, 6, 7, 8, 9, 10, 11, 12, 13, 14, 15, 16, 17, 18], [0, 1, 2, 3, 4, 5, 6, 7, 8, 9, 10, 11, 12, 13, 14, 15, 16, 17, 18, 19], [0, 1, 2, 3, 4, 5, 6, 7, 8, 9, 10, 11, 12, 13, 14, 15, 16, 17, 18, 19], [0, 1, 2, 3, 4, 5, 6, 7, 8, 9, 10, 11, 12, 13, 14, 15, 16, 17, 18, 19, 21], [0, 1, 2, 3, 4, 5, 6, 7, 8, 9, 10, 11, 12, 13, 14, 15, 16, 17, 18, 19, 20, 21, 22], [0, 1, 2, 3, 4, 5, 6, 7, 8, 9, 10, 11, 12, 13, 14, 15, 16, 17, 18, 19, 20, 21, 22, 23], [0, 1, 2, 3, 4, 5, 6, 7, 8, 9, 10, 11, 12, 13, 14, 15, 16, 17, 18, 19, 20, 21, 22, 23, 24], [0, 1, 2, 3, 4, 5, 6, 7, 8, 9, 10, 11, 12, 13, 14, 15, 16, 17, 18, 19], [0, 1, 2, 3, 4, 5, 6, 7, 8, 9, 10, 11, 12, 13, 14, 15, 16, 17, 18, 19], [0, 1, 2, 3, 4, 5, 6, 7, 8, 9, 10, 11, 12, 13, 14, 15, 16, 17, 18, 19, 26, 27], [0, 1, 2, 3, 4, 5, 6, 7, 8, 9, 10, 11, 12, 13, 14, 15, 16, 17, 18, 19, 26, 27, 28], [0, 1, 2, 3, 4, 5, 6, 7, 8, 9, 10, 11, 12, 13, 14, 15, 16, 17, 18, 19, 26, 27, 28, 29], [0, 1, 2, 3, 4, 5, 6, 7, 8, 9, 10, 11, 12, 13, 14, 15, 16, 17, 18, 19, 20, 21, 22, 23, 24, 25, 26, 27, 28, 29, 30], [0, 1, 2, 3, 4, 5, 6, 7, 8, 9, 10, 11, 12, 13, 14, 15, 16, 17, 18, 19], [0, 1, 2, 3, 4, 5, 6, 7, 8, 9, 10, 11, 12, 13, 14, 15, 16, 17, 18, 19, 32], [0, 1, 2, 3, 4, 5, 6, 7, 8, 9, 10, 11, 12, 13, 14, 15, 16, 17, 18, 19, 20, 21, 22, 23, 24, 25, 26, 27, 28, 29, 30, 31, 32, 33], [0, 1, 2, 3, 4, 5, 6, 7, 8, 9, 10, 11, 12, 13, 14, 15, 16, 17, 18, 19, 20, 21, 22, 23, 24, 25, 26, 27, 28, 29, 30, 31, 32, 33, 34], [0, 1, 2, 3, 4, 5, 6, 7, 8, 9, 10, 11, 12, 13, 14, 15, 16, 17, 18, 19, 20, 21, 22, 23, 24, 25, 26, 27, 28, 29, 30, 31, 32, 33, 34, 35], [0, 1, 2, 3, 4, 5, 6, 7, 8, 9, 10, 11, 12, 13, 14, 15, 16, 17, 18, 19, 20, 21, 22, 23, 24, 25, 26, 27, 28, 29, 30, 31, 32, 33, 34, 35, 36], [0, 1, 2, 3, 4, 5, 6, 7, 8, 9, 10, 11, 12, 13, 14, 15, 16, 17, 18, 19, 20, 21, 22, 23, 24, 25, 26, 27, 28, 29, 30, 31, 32, 33, 34, 35, 36], [0, 1, 2, 3, 4, 5, 6, 7, 8, 9, 10, 11, 12, 13, 14, 15, 16, 17, 18, 19, 20, 21, 22, 23, 24, 25, 26, 27, 28, 29, 30, 31, 32, 33, 34, 35, 36, 37, 38], [0, 1, 2, 3, 4, 5, 6, 7, 8, 9, 10, 11, 12, 13, 14, 15, 16, 17, 18, 19, 20, 21, 22, 23, 24, 25, 26, 27, 28, 29, 30, 31, 32, 33, 34, 35, 36, 37, 38, 39], [0, 1, 2, 3, 4, 5, 6, 7, 8, 9, 10, 11, 12, 13, 14, 15, 16, 17, 18, 19, 20, 21, 22, 23, 24, 25, 26, 27, 28, 29, 30, 31, 32, 33, 34, 35, 36, 37, 38, 39, 40], [0, 1, 2, 3, 4, 5, 6, 7, 8, 9, 10, 11, 12, 13, 14, 15, 16, 17, 18, 19, 20, 21, 22, 23, 24, 25, 26, 27, 28, 29, 30, 31, 32, 33, 34, 35, 36], [0, 1, 2, 3, 4, 5, 6, 7, 8, 9, 10, 11, 12, 13, 14, 15, 16, 17, 18, 19, 20, 21, 22, 23, 24, 25, 26, 27, 28, 29, 30, 31, 32, 33, 34, 35, 36], [0, 1, 2, 3, 4, 5, 6, 7, 8, 9, 10, 11, 12, 13, 14, 15, 16, 17, 18, 19, 20, 21, 22, 23, 24, 25, 26, 27, 28, 29, 30, 31, 32, 33, 34, 35, 36, 42, 43], [0, 1, 2, 3, 4, 5, 6, 7, 8, 9, 10, 11, 12, 13, 14, 15, 16, 17, 18, 19, 20, 21, 22, 23, 24, 25, 26, 27, 28, 29, 30, 31, 32, 33, 34, 35, 36, 42, 43, 44], [0, 1, 2, 3, 4, 5, 6, 7, 8, 9, 10, 11, 12, 13, 14, 15, 16, 17, 18, 19, 20, 21, 22, 23, 24, 25, 26, 27, 28, 29, 30, 31, 32, 33, 34, 35, 36, 42, 43, 44, 45], [0, 1, 2, 3, 4, 5, 6, 7, 8, 9, 10, 11, 12, 13, 14, 15, 16, 17, 18, 19, 20, 21, 22, 23, 24, 25, 26, 27, 28, 29, 30, 31, 32, 33, 34, 35, 36, 37, 38, 39, 40, 41, 42, 43, 44, 45, 46], [0, 1, 2, 3, 4, 5, 6, 7, 8, 9, 10, 11, 12, 13, 14, 15, 16, 17, 18, 19, 20, 21, 22, 23, 24, 25, 26, 27, 28, 29, 30, 31, 32, 33, 34, 35, 36], [0, 1, 2, 3, 4, 5, 6, 7, 8, 9, 10, 11, 12, 13, 14, 15, 16, 17, 18, 19, 20, 21, 22, 23, 24, 25, 26, 27, 28, 29, 30, 31, 32, 33, 34, 35, 36, 48], [0, 1, 2, 3, 4, 5, 6, 7, 8, 9, 10, 11, 12, 13, 14, 15, 16, 17, 18, 19, 20, 21, 22, 23, 24, 25, 26, 27, 28, 29, 30, 31, 32, 33, 34, 35, 36, 37, 38, 39, 40, 41, 42, 43, 44, 45, 46, 47, 48, 49], [0, 1, 2, 3, 4, 5, 6, 7, 8, 9, 10, 11, 12, 13, 14, 15, 16, 17, 18, 19, 20, 21, 22, 23, 24, 25, 26, 27, 28, 29, 30, 31, 32, 33, 34, 35, 36, 37, 38, 39, 40, 41, 42, 43, 44, 45, 46, 47, 48, 49, 50], [0, 1, 2, 3, 4, 5, 6, 7, 8, 9, 10, 11, 12, 13, 14, 15, 16, 17, 18, 19, 20, 21, 22, 23, 24, 25, 26, 27, 28, 29, 30, 31, 32, 33, 34, 35, 36, 37, 38, 39, 40, 41, 42, 43, 44, 45, 46, 47, 48, 49, 50, 51]] [.light 0 false, .light 1 false, .light 2 false, .light 3 false, .light 4 false, .light 5 false, .light 6 false, .light 7 false, .light 8 false, .light 9 false, .light 10 false, .light 11 false, .light 12 false, .light 13 false, .light 14 false, .light 15 false, .light 16 false, .light 17 false, .light 18 false, .light 19 false, .light 20 false, .light 21 false, .light 22 false, .light 23 false, .light 24 false, .light 25 false, .light 26 false, .light 27 false, .light 28 false, .light 29 false, .light 30 false, .light 31 false, .light 32 false, .light 33 false, .light 34 false, .light 35 false, .light 36 false, .light 37 false, .light 38 false, .light 39 true, .light 40 false, .light 41 true, .light 42 false, .light 43 false, .light 44 true, .light 45 false, .light 46 true, .light 47 false, .light 48 false, .heavy 49 [39, 41, 44, 46], .light 50 false, .light 51 false, .light 52 false] [{}, {}, {}, { k := 1, n := a0.length }, {}, {}, { g := false }, { g := false }, { g := false }, { g := false }, { g := false }, { g := false }, { g := false }, { g := false }, { g := false }, { g := false }, { g := false }, { g := false }, {}, {}, { g := false }, { g := false }, { g := false }, { g := false }, { g := false }, { g := false }, { g := false }, { g := false }, { g := false }, { g := false }, { g := false }, { g := false }, { g := false }, { g := false }, { g := false }, {}, {}, { g := false }, { g := false }, { g := false }, { g := false }, { g := false }, { g := false }, { g := false }, { g := false }, { g := false }, { g := false }, { g := false }, { g := false }, { g := false }, { g := false }, { g := false }] [0, 2, 4, 61] [0] (zipE [0, 2, 4, 61] [.sl false (a0.map E_GTone), .i a2, .mp 0 0 0, .bool true]) ⟨[(0, .cells 3 [E_GFigure a1])], 1⟩ _ (by kernel_rfl) (cjC (mapLen a0 E_GTone) (cjC (hc1) (cjC (Eq.refl true) (cjC (Eq.refl true) (cjC (Eq.refl true) (cjC (Eq.refl true) (cjC (Eq.refl true) (cjC (Eq.refl true) (cjC (Eq.refl true) (cjC (Eq.refl true) (cjC (Eq.refl true) (cjC (Eq.refl true) (cjC (Eq.refl true) (cjC (Eq.refl true) (cjC (Eq.refl true) (cjC (Eq.refl true) (cjC (Eq.refl true) (cjC (Eq.refl true) (cjC (Eq.refl true) (cjC (Eq.refl true) (cjC (Eq.refl true) (cjC (Eq.refl true) (cjC (Eq.refl true) (cjC (Eq.refl true) (cjC (Eq.refl true) (cjC (Eq.refl true) (cjC (Eq.refl true) (cjC (Eq.refl true) (cjC (Eq.refl true) (cjC (Eq.refl true) (cjC (Eq.refl true) (cjC (Eq.refl true) (cjC (Eq.refl true) (cjC (Eq.refl true) (cjC (Eq.refl true) (cjC (Eq.refl true) (cjC (Eq.refl true) (cjC (Eq.refl true) (cjC (Eq.refl true) (cjC (Eq.refl true) (cjC (Eq.refl true) (cjC (Eq.refl true) (cj1 (Eq.refl true)))))))))))))))))))))))))))))))))))))))))))) (kj1 true rfl)
    · obtain ⟨y2, hy2, hj1⟩ := bindE hj1
      obtain ⟨y3, hy3, hj1⟩ := bindE hj1
      rcases iteE hj1 with ⟨hc4, hj1⟩ | ⟨hc4, hj1⟩
      · replace hj1 := Option.some.inj hj1; subst hj1
        exact yun1 (c61 5) [[], [0], [], [2], [0, 1, 2, 3], [0, 1, 2, 3, 4], [0, 1, 2, 3, 4, 5], [0, 1, 2, 3, 4, 5], [0, 1, 2, 3, 4, 5, 7], [0, 1, 2, 3, 4, 5, 6, 7, 8], [0, 1, 2, 3, 4, 5, 6, 7, 8, 9], [0, 1, 2, 3, 4, 5, 6, 7, 8, 9, 10], [0, 1, 2, 3, 4, 5], [0, 1, 2, 3, 4, 5], [0, 1, 2, 3, 4, 5, 12, 13], [0, 1, 2, 3, 4, 5, 12, 13, 14], [0, 1, 2, 3, 4, 5, 12, 13, 14, 15], [0, 1, 2, 3, 4, 5, 6, 7, 8, 9, 10, 11, 12, 13, 14, 15, 16], [0, 1, 2, 3, 4, 5, 6, 7, 8, 9, 10, 11, 12, 13, 14, 15, 16, 17], [0, 1, 2, 3, 4, 5, 6, 7, 8, 9, 10, 11, 12, 13, 14, 15, 16, 17, 18], [0, 1, 2, 3, 4, 5, 6, 7, 8, 9, 10, 11, 12, 13, 14, 15, 16, 17, 18, 19], [0, 1, 2, 3, 4, 5, 6, 7, 8, 9, 10, 11, 12, 13, 14, 15, 16, 17, 18, 19], [0, 1, 2, 3, 4, 5, 6, 7, 8, 9, 10, 11, 12, 13, 14, 15, 16, 17, 18, 19, 21], [0, 1, 2, 3, 4, 5, 6, 7, 8, 9, 10, 11, 12, 13, 14, 15, 16, 17, 18, 19, 20, 21, 22], [0, 1, 2, 3, 4, 5, 6, 7, 8, 9, 10, 11, 12, 13, 14, 15, 16, 17, 18, 19, 20, 21, 22, 23], [0, 1, 2, 3, 4, 5, 6, 7, 8, 9, 10, 11, 12, 13, 14, 15, 16, 17, 18, 19, 20, 21, 22, 23, 24], [0, 1, 2, 3, 4, 5, 6, 7, 8, 9, 10, 11, 12, 13, 14, 15, 16, 17, 18, 19], [0, 1, 2, 3, 4, 5, 6, 7, 8, 9, 10, 11, 12, 13, 14, 15, 16, 17, 18, 19], [0, 1, 2, 3, 4, 5, 6, 7, 8, 9, 10, 11, 12, 13, 14, 15, 16, 17, 18, 19, 26, 27], [0, 1, 2, 3, 4, 5, 6, 7, 8, 9, 10, 11, 12, 13, 14, 15, 16, 17, 18, 19, 26, 27, 28], [0, 1, 2, 3, 4, 5, 6, 7, 8, 9, 10, 11, 12, 13, 14, 15, 16, 17, 18, 19, 26, 27, 28, 29], [0, 1, 2, 3, 4, 5, 6, 7, 8, 9, 10, 11, 12, 13, 14, 15, 16, 17, 18, 19, 20, 21, 22, 23, 24, 25, 26, 27, 28, 29, 30], [0, 1, 2, 3, 4, 5, 6, 7, 8, 9, 10, 11, 12, 13, 14, 15, 16, 17, 18, 19], [0, 1, 2, 3, 4, 5, 6, 7, 8, 9, 10, 11, 12, 13, 14, 15, 16, 17, 18, 19, 32], [0, 1, 2, 3, 4, 5, 6, 7, 8, 9, 10, 11, 12, 13, 14, 15, 16, 17, 18, 19, 20, 21, 22, 23, 24, 25, 26, 27, 28, 29, 30, 31, 32, 33], [0, 1, 2, 3, 4, 5, 6, 7, 8, 9, 10, 11, 12, 13, 14, 15, 16, 17, 18, 19, 20, 21, 22, 23, 24, 25, 26, 27, 28, 29, 30, 31, 32, 33, 34], [0, 1, 2, 3, 4, 5, 6, 7, 8, 9, 10, 11, 12, 13, 14, 15, 16, 17, 18, 19, 20, 21, 22, 23, 24, 25, 26, 27, 28, 29, 30, 31, 32, 33, 34, 35], [0, 1, 2, 3, 4, 5, 6, 7, 8, 9, 10, 11, 12, 13, 14, 15, 16, 17, 18, 19, 20, 21, 22, 23, 24, 25, 26, 27, 28, 29, 30, 31, 32, 33, 34, 35, 36], [0, 1, 2, 3, 4, 5, 6, 7, 8, 9, 10, 11, 12, 13, 14, 15, 16, 17, 18, 19, 20, 21, 22, 23, 24, 25, 26, 27, 28, 29, 30, 31, 32, 33, 34, 35, 36], [0, 1, 2, 3, 4, 5, 6, 7, 8, 9, 10, 11, 12, 13, 14, 15, 16, 17, 18, 19, 20, 21, 22, 23, 24, 25, 26, 27, 28, 29, 30, 31, 32, 33, 34, 35, 36, 37, 38], [0, 1, 2, 3, 4, 5, 6, 7, 8, 9, 10, 11, 12, 13, 14, 15, 16, 17, 18, 19, 20, 21, 22, 23, 24, 25, 26, 27, 28, 29, 30, 31, 32, 33, 34, 35, 36, 37, 38, 39], [0, 1, 2, 3, 4, 5, 6, 7, 8, 9, 10, 11, 12, 13, 14, 15, 16, 17, 18, 19, 20, 21, 22, 23, 24, 25, 26, 27, 28, 29, 30, 31, 32, 33, 34, 35, 36, 37, 38, 39, 40], [0, 1, 2, 3, 4, 5, 6, 7, 8, 9, 10, 11, 12, 13, 14, 15, 16, 17, 18, 19, 20, 21, 22, 23, 24, 25, 26, 27, 28, 29, 30, 31, 32, 33, 34, 35, 36], [0, 1, 2, 3, 4, 5, 6, 7, 8, 9, 10, 11, 12, 13, 14, 15, 16, 17, 18, 19, 20, 21, 22, 23, 24, 25, 26, 27, 28, 29, 30, 31, 32, 33, 34, 35, 36], [0, 1, 2, 3, 4, 5, 6, 7, 8, 9, 10, 11, 12, 13, 14, 15, 16, 17, 18, 19, 20, 21, 22, 23, 24, 25, 26, 27, 28, 29, 30, 31, 32, 33, 34, 35, 36, 42, 43], [0, 1, 2, 3, 4, 5, 6, 7, 8, 9, 10, 11, 12, 13, 14, 15, 16, 17, 18, 19, 20, 21, 22, 23, 24, 25, 26, 27, 28, 29, 30, 31, 32, 33, 34, 35, 36, 42, 43, 44], [0, 1, 2, 3, 4, 5, 6, 7, 8, 9, 10, 11, 12, 13, 14, 15, 16, 17, 18, 19, 20, 21, 22, 23, 24, 25, 26, 27, 28, 29, 30, 31, 32, 33, 34, 35, 36, 42, 43, 44, 45], [0, 1, 2, 3, 4, 5, 6, 7, 8, 9, 10, 11, 12, 13, 14, 15, 16, 17, 18, 19, 20, 21, 22, 23, 24, 25, 26, 27, 28, 29, 30, 31, 32, 33, 34, 35, 36, 37, 38, 39, 40, 41, 42, 43, 44, 45, 46], [0, 1, 2, 3, 4, 5, 6, 7, 8, 9, 10, 11, 12, 13, 14, 15, 16, 17, 18, 19, 20, 21, 22, 23, 24, 25, 26, 27, 28, 29, 30, 31, 32, 33, 34, 35, 36], [0, 1, 2, 3, 4, 5, 6, 7, 8, 9, 10, 11, 12, 13, 14, 15, 16, 17, 18, 19, 20, 21, 22, 23, 24, 25, 26, 27, 28, 29, 30, 31, 32, 33, 34, 35, 36, 48], [0, 1, 2, 3, 4, 5, 6, 7, 8, 9, 10, 11, 12, 13, 14, 15, 16, 17, 18, 19, 20, 21, 22, 23, 24, 25, 26, 27, 28, 29, 30, 31, 32, 33, 34, 35, 36, 37, 38, 39, 40, 41, 42, 43, 44, 45, 46, 47, 48, 49], [0, 1, 2, 3, 4, 5, 6, 7, 8, 9, 10, 11, 12, 13, 14, 15, 16, 17, 18, 19, 20, 21, 22, 23, 24, 25, 26, 27, 28, 29, 30, 31, 32, 33, 34, 35, 36, 37, 38, 39, 40, 41, 42, 43, 44, 45, 46, 47, 48, 49, 50], [0, 1, 2, 3, 4, 5, 6, 7, 8, 9, 10, 11, 12, 13, 14, 15, 16, 17, 18, 19, 20, 21, 22, 23, 24, 25, 26, 27, 28, 29, 30, 31, 32, 33, 34, 35, 36, 37, 38, 39, 40, 41, 42, 43, 44, 45, 46, 47, 48, 49, 50, 51]] [.light 0 false, .light 1 false, .light 2 false, .light 3 false, .light 4 false, .light 5 false, .light 6 false, .light 7 false, .light 8 false, .light 9 false, .light 10 false, .light 11 false, .light 12 false, .light 13 false, .light 14 false, .light 15 false, .light 16 false, .light 17 false, .light 18 false, .light 19 false, .light 20 false, .light 21 false, .light 22 false, .light 23 false, .light 24 false, .light 25 false, .light 26 false, .light 27 false, .light 28 false, .light 29 false, .light 30 false, .light 31 false, .light 32 false, .light 33 false, .light 34 false, .light 35 false, .light 36 false, .light 37 false, .light 38 false, .light 39 true, .light 40 false, .light 41 true, .light 42 false, .light 43 false, .light 44 true, .light 45 false, .light 46 true, .light 47 false, .light 48 false, .heavy 49 [39, 41, 44, 46], .light 50 false, .light 51 false, .light 52 false] [{}, {}, {}, { k := 1, n := a0.length }, {}, {}, {}, {}, {}, { k := 1, x := E_GTone y2 }, {}, {}, {}, {}, { k := 1, x := E_GTone y3 }, {}, {}, {}, {}, {}, { g := false }, { g := false }, { g := false }, { g := false }, { g := false }, { g := false }, { g := false }, { g := false }, { g := false }, { g := false }, { g := false }, { g := false }, { g := false }, { g := false }, { g := false }, {}, {}, { g := false }, { g := false }, { g := false }, { g := false }, { g := false }, { g := false }, { g := false }, { g := false }, { g := false }, { g := false }, { g := false }, { g := false }, { g := false }, { g := false }, { g := false }] [0, 2, 4, 61] [0] (zipE [0, 2, 4, 61] [.sl false (a0.map E_GTone), .i a2, .mp 0 0 0, .bool true]) ⟨[(0, .cells 3 [E_GFigure a1])], 1⟩ _ (by kernel_rfl) (cjC (mapLen a0 E_GTone) (cjC (hc1) (cjC (Eq.refl false) (cjC (Eq.refl false) (cjC (Eq.refl false) (cjC ((ixE hy2).1) (cjC (mapGet E_GTone (ixE hy2).2) (cjC (Eq.refl false) (cjC (Eq.refl false) (cjC (Eq.refl false) (cjC (Eq.refl false) (cjC (Eq.refl false) (cjC ((ixE hy3).1) (cjC (mapGet E_GTone (ixE hy3).2) (cjC (Eq.refl false) (cjC (Eq.refl false) (cjC (Eq.refl false) (cjC (hc4) (cjC (Eq.refl true) (cjC (Eq.refl true) (cjC (Eq.refl true) (cjC (Eq.refl true) (cjC (Eq.refl true) (cjC (Eq.refl true) (cjC (Eq.refl true) (cjC (Eq.refl true) (cjC (Eq.refl true) (cjC (Eq.refl true) (cjC (Eq.refl true) (cjC (Eq.refl true) (cjC (Eq.refl true) (cjC (Eq.refl true) (cjC (Eq.refl true) (cjC (Eq.refl true) (cjC (Eq.refl true) (cjC (Eq.refl true) (cjC (Eq.refl true) (cjC (Eq.refl true) (cjC (Eq.refl true) (cjC (Eq.refl true) (cjC (Eq.refl true) (cjC (Eq.refl true) (cjC (Eq.refl true) (cjC (Eq.refl true) (cjC (Eq.refl true) (cjC (Eq.refl true) (cj1 (Eq.refl true)))))))))))))))))))))))))))))))))))))))))))))))) (kj1 true rfl)
      · rcases iteE hj1 with ⟨hc5, hj1⟩ | ⟨hc5, hj1⟩
        · replace hj1 := Option.some.inj hj1; subst hj1
          exact yun1 (c61 5) [[], [0], [], [2], [0, 1, 2, 3], [0, 1, 2, 3, 4], [0, 1, 2, 3, 4, 5], [0, 1, 2, 3, 4, 5], [0, 1, 2, 3, 4, 5, 7], [0, 1, 2, 3, 4, 5, 6, 7, 8], [0, 1, 2, 3, 4, 5, 6, 7, 8, 9], [0, 1, 2, 3, 4, 5, 6, 7, 8, 9, 10], [0, 1, 2, 3, 4, 5], [0, 1, 2, 3, 4, 5], [0, 1, 2, 3, 4, 5, 12, 13], [0, 1, 2, 3, 4, 5, 12, 13, 14], [0, 1, 2, 3, 4, 5, 12, 13, 14, 15], [0, 1, 2, 3, 4, 5, 6, 7, 8, 9, 10, 11, 12, 13, 14, 15, 16], [0, 1, 2, 3, 4, 5, 6, 7, 8, 9, 10, 11, 12, 13, 14, 15, 16, 17], [0, 1, 2, 3, 4, 5, 6, 7, 8, 9, 10, 11, 12, 13, 14, 15, 16, 17, 18], [0, 1, 2, 3, 4, 5, 6, 7, 8, 9, 10, 11, 12, 13, 14, 15, 16, 17, 18, 19], [0, 1, 2, 3, 4, 5, 6, 7, 8, 9, 10, 11, 12, 13, 14, 15, 16, 17, 18, 19], [0, 1, 2, 3, 4, 5, 6, 7, 8, 9, 10, 11, 12, 13, 14, 15, 16, 17, 18, 19, 21], [0, 1, 2, 3, 4, 5, 6, 7, 8, 9, 10, 11, 12, 13, 14, 15, 16, 17, 18, 19, 20, 21, 22], [0, 1, 2, 3, 4, 5, 6, 7, 8, 9, 10, 11, 12, 13, 14, 15, 16, 17, 18, 19, 20, 21, 22, 23], [0, 1, 2, 3, 4, 5, 6, 7, 8, 9, 10, 11, 12, 13, 14, 15, 16, 17, 18, 19, 20, 21, 22, 23, 24], [0, 1, 2, 3, 4, 5, 6, 7, 8, 9, 10, 11, 12, 13, 14, 15, 16, 17, 18, 19], [0, 1, 2, 3, 4, 5, 6, 7, 8, 9, 10, 11, 12, 13, 14, 15, 16, 17, 18, 19], [0, 1, 2, 3, 4, 5, 6, 7, 8, 9, 10, 11, 12, 13, 14, 15, 16, 17, 18, 19, 26, 27], [0, 1, 2, 3, 4, 5, 6, 7, 8, 9, 10, 11, 12, 13, 14, 15, 16, 17, 18, 19, 26, 27, 28], [0, 1, 2, 3, 4, 5, 6, 7, 8, 9, 10, 11, 12, 13, 14, 15, 16, 17, 18, 19, 26, 27, 28, 29], [0, 1, 2, 3, 4, 5, 6, 7, 8, 9, 10, 11, 12, 13, 14, 15, 16, 17, 18, 19, 20, 21, 22, 23, 24, 25, 26, 27, 28, 29, 30], [0, 1, 2, 3, 4, 5, 6, 7, 8, 9, 10, 11, 12, 13, 14, 15, 16, 17, 18, 19], [0, 1, 2, 3, 4, 5, 6, 7, 8, 9, 10, 11, 12, 13, 14, 15, 16, 17, 18, 19, 32], [0, 1, 2, 3, 4, 5, 6, 7, 8, 9, 10, 11, 12, 13, 14, 15, 16, 17, 18, 19, 20, 21, 22, 23, 24, 25, 26, 27, 28, 29, 30, 31, 32, 33], [0, 1, 2, 3, 4, 5, 6, 7, 8, 9, 10, 11, 12, 13, 14, 15, 16, 17, 18, 19, 20, 21, 22, 23, 24, 25, 26, 27, 28, 29, 30, 31, 32, 33, 34], [0, 1, 2, 3, 4, 5, 6, 7, 8, 9, 10, 11, 12, 13, 14, 15, 16, 17, 18, 19, 20, 21, 22, 23, 24, 25, 26, 27, 28, 29, 30, 31, 32, 33, 34, 35], [0, 1, 2, 3, 4, 5, 6, 7, 8, 9, 10, 11, 12, 13, 14, 15, 16, 17, 18, 19, 20, 21, 22, 23, 24, 25, 26, 27, 28, 29, 30, 31, 32, 33, 34, 35, 36], [0, 1, 2, 3, 4, 5, 6, 7, 8, 9, 10, 11, 12, 13, 14, 15, 16, 17, 18, 19, 20, 21, 22, 23, 24, 25, 26, 27, 28, 29, 30, 31, 32, 33, 34, 35, 36], [0, 1, 2, 3, 4, 5, 6, 7, 8, 9, 10, 11, 12, 13, 14, 15, 16, 17, 18, 19, 20, 21, 22, 23, 24, 25, 26, 27, 28, 29, 30, 31, 32, 33, 34, 35, 36, 37, 38], [0, 1, 2, 3, 4, 5, 6, 7, 8, 9, 10, 11, 12, 13, 14, 15, 16, 17, 18, 19, 20, 21, 22, 23, 24, 25, 26, 27, 28, 29, 30, 31, 32, 33, 34, 35, 36, 37, 38, 39], [0, 1, 2, 3, 4, 5, 6, 7, 8, 9, 10, 11, 12, 13, 14, 15, 16, 17, 18, 19, 20, 21, 22, 23, 24, 25, 26, 27, 28, 29, 30, 31, 32, 33, 34, 35, 36, 37, 38, 39, 40], [0, 1, 2, 3, 4, 5, 6, 7, 8, 9, 10, 11, 12, 13, 14, 15, 16, 17, 18, 19, 20, 21, 22, 23, 24, 25, 26, 27, 28, 29, 30, 31, 32, 33, 34, 35, 36], [0, 1, 2, 3, 4, 5, 6, 7, 8, 9, 10, 11, 12, 13, 14, 15, 16, 17, 18, 19, 20, 21, 22, 23, 24, 25, 26, 27, 28, 29, 30, 31, 32, 33, 34, 35, 36], [0, 1, 2, 3, 4, 5, 6, 7, 8, 9, 10, 11, 12, 13, 14, 15, 16, 17, 18, 19, 20, 21, 22, 23, 24, 25, 26, 27, 28, 29, 30, 31, 32, 33, 34, 35, 36, 42, 43], [0, 1, 2, 3, 4, 5, 6, 7, 8, 9, 10, 11, 12, 13, 14, 15, 16, 17, 18, 19, 20, 21, 22, 23, 24, 25, 26, 27, 28, 29, 30, 31, 32, 33, 34, 35, 36, 42, 43, 44], [0, 1, 2, 3, 4, 5, 6, 7, 8, 9, 10, 11, 12, 13, 14, 15, 16, 17, 18, 19, 20, 21, 22, 23, 24, 25, 26, 27, 28, 29, 30, 31, 32, 33, 34, 35, 36, 42, 43, 44, 45], [0, 1, 2, 3, 4, 5, 6, 7, 8, 9, 10, 11, 12, 13, 14, 15, 16, 17, 18, 19, 20, 21, 22, 23, 24, 25, 26, 27, 28, 29, 30, 31, 32, 33, 34, 35, 36, 37, 38, 39, 40, 41, 42, 43, 44, 45, 46], [0, 1, 2, 3, 4, 5, 6, 7, 8, 9, 10, 11, 12, 13, 14, 15, 16, 17, 18, 19, 20, 21, 22, 23, 24, 25, 26, 27, 28, 29, 30, 31, 32, 33, 34, 35, 36], [0, 1, 2, 3, 4, 5, 6, 7, 8, 9, 10, 11, 12, 13, 14, 15, 16, 17, 18, 19, 20, 21, 22, 23, 24, 25, 26, 27, 28, 29, 30, 31, 32, 33, 34, 35, 36, 48], [0, 1, 2, 3, 4, 5, 6, 7, 8, 9, 10, 11, 12, 13, 14, 15, 16, 17, 18, 19, 20, 21, 22, 23, 24, 25, 26, 27, 28, 29, 30, 31, 32, 33, 34, 35, 36, 37, 38, 39, 40, 41, 42, 43, 44, 45, 46, 47, 48, 49], [0, 1, 2, 3, 4, 5, 6, 7, 8, 9, 10, 11, 12, 13, 14, 15, 16, 17, 18, 19, 20, 21, 22, 23, 24, 25, 26, 27, 28, 29, 30, 31, 32, 33, 34, 35, 36, 37, 38, 39, 40, 41, 42, 43, 44, 45, 46, 47, 48, 49, 50], [0, 1, 2, 3, 4, 5, 6, 7, 8, 9, 10, 11, 12, 13, 14, 15, 16, 17, 18, 19, 20, 21, 22, 23, 24, 25, 26, 27, 28, 29, 30, 31, 32, 33, 34, 35, 36, 37, 38, 39, 40, 41, 42, 43, 44, 45, 46, 47, 48, 49, 50, 51]] [.light 0 false, .light 1 false, .light 2 false, .light 3 false, .light 4 false, .light 5 false, .light 6 false, .light 7 false, .light 8 false, .light 9 false, .light 10 false, .light 11 false, .light 12 false, .light 13 false, .light 14 false, .light 15 false, .light 16 false, .light 17 false, .light 18 false, .light 19 false, .light 20 false, .light 21 false, .light 22 false, .light 23 false, .light 24 false, .light 25 false, .light 26 false, .light 27 false, .light 28 false, .light 29 false, .light 30 false, .light 31 false, .light 32 false, .light 33 false, .light 34 false, .light 35 false, .light 36 false, .light 37 false, .light 38 false, .light 39 true, .light 40 false, .light 41 true, .light 42 false, .light 43 false, .light 44 true, .light 45 false, .light 46 true, .light 47 false, .light 48 false, .heavy 49 [39, 41, 44, 46], .light 50 false, .light 51 false, .light 52 false] [{}, {}, {}, { k := 1, n := a0.length }, {}, {}, {}, {}, {}, { k := 1, x := E_GTone y2 }, {}, {}, {}, {}, { k := 1, x := E_GTone y3 }, {}, {}, {}, {}, {}, {}, {}, {}, { k := 1, x := E_GTone y2 }, {}, {}, {}, {}, { k := 1, x := E_GTone y3 }, {}, {}, {}, {}, {}, {}, {}, {}, { g := false }, { g := false }, { g := false }, { g := false }, { g := false }, { g := false }, { g := false }, { g := false }, { g := false }, { g := false }, { g := false }, { g := false }, { g := false }, { g := false }, { g := false }] [0, 2, 4, 61] [0] (zipE [0, 2, 4, 61] [.sl false (a0.map E_GTone), .i a2, .mp 0 0 0, .bool true]) ⟨[(0, .cells 3 [E_GFigure a1])], 1⟩ _ (by kernel_rfl) (cjC (mapLen a0 E_GTone) (cjC (hc1) (cjC (Eq.refl false) (cjC (Eq.refl false) (cjC (Eq.refl false) (cjC ((ixE hy2).1) (cjC (mapGet E_GTone (ixE hy2).2) (cjC (Eq.refl false) (cjC (Eq.refl false) (cjC (Eq.refl false) (cjC (Eq.refl false) (cjC (Eq.refl false) (cjC ((ixE hy3).1) (cjC (mapGet E_GTone (ixE hy3).2) (cjC (Eq.refl false) (cjC (Eq.refl false) (cjC (Eq.refl false) (cjC (hc4) (cjC (Eq.refl false) (cjC (Eq.refl false) (cjC (Eq.refl false) (cjC ((ixE hy2).1) (cjC (mapGet E_GTone (ixE hy2).2) (cjC (Eq.refl false) (cjC (Eq.refl false) (cjC (Eq.refl false) (cjC (Eq.refl false) (cjC (Eq.refl false) (cjC ((ixE hy3).1) (cjC (mapGet E_GTone (ixE hy3).2) (cjC (Eq.refl false) (cjC (Eq.refl false) (cjC (Eq.refl false) (cjC (Eq.refl false) (cjC (Eq.refl false) (cjC (Eq.refl false) (cjC (hc5) (cjC (Eq.refl true) (cjC (Eq.refl true) (cjC (Eq.refl true) (cjC (Eq.refl true) (cjC (Eq.refl true) (cjC (Eq.refl true) (cjC (Eq.refl true) (cjC (Eq.refl true) (cjC (Eq.refl true) (cjC (Eq.refl true) (cjC (Eq.refl true) (cjC (Eq.refl true) (cjC (Eq.refl true) (cj1 (Eq.refl true)))))))))))))))))))))))))))))))))))))))))))))))))))) (kj1 true rfl)
        · obtain ⟨r6, hr6, hj1⟩ := bindE hj1
          obtain ⟨hn7, hj1⟩ := needE hj1
          replace hj1 := Option.some.inj hj1; subst hj1
          exact yun1 (c61 5) [[], [0], [], [2], [0, 1, 2, 3], [0, 1, 2, 3, 4], [0, 1, 2, 3, 4, 5], [0, 1, 2, 3, 4, 5], [0, 1, 2, 3, 4, 5, 7], [0, 1, 2, 3, 4, 5, 6, 7, 8], [0, 1, 2, 3, 4, 5, 6, 7, 8, 9], [0, 1, 2, 3, 4, 5, 6, 7, 8, 9, 10], [0, 1, 2, 3, 4, 5], [0, 1, 2, 3, 4, 5], [0, 1, 2, 3, 4, 5, 12, 13], [0, 1, 2, 3, 4, 5, 12, 13, 14], [0, 1, 2, 3, 4, 5, 12, 13, 14, 15], [0, 1, 2, 3, 4, 5, 6, 7, 8, 9, 10, 11, 12, 13, 14, 15, 16], [0, 1, 2, 3, 4, 5, 6, 7, 8, 9, 10, 11, 12, 13, 14, 15, 16, 17], [0, 1, 2, 3, 4, 5, 6, 7, 8, 9, 10, 11, 12, 13, 14, 15, 16, 17, 18], [0, 1, 2, 3, 4, 5, 6, 7, 8, 9, 10, 11, 12, 13, 14, 15, 16, 17, 18, 19], [0, 1, 2, 3, 4, 5, 6, 7, 8, 9, 10, 11, 12, 13, 14, 15, 16, 17, 18, 19], [0, 1, 2, 3, 4, 5, 6, 7, 8, 9, 10, 11, 12, 13, 14, 15, 16, 17, 18, 19, 21], [0, 1, 2, 3, 4, 5, 6, 7, 8, 9, 10, 11, 12, 13, 14, 15, 16, 17, 18, 19, 20, 21, 22], [0, 1, 2, 3, 4, 5, 6, 7, 8, 9, 10, 11, 12, 13, 14, 15, 16, 17, 18, 19, 20, 21, 22, 23], [0, 1, 2, 3, 4, 5, 6, 7, 8, 9, 10, 11, 12, 13, 14, 15, 16, 17, 18, 19, 20, 21, 22, 23, 24], [0, 1, 2, 3, 4, 5, 6, 7, 8, 9, 10, 11, 12, 13, 14, 15, 16, 17, 18, 19], [0, 1, 2, 3, 4, 5, 6, 7, 8, 9, 10, 11, 12, 13, 14, 15, 16, 17, 18, 19], [0, 1, 2, 3, 4, 5, 6, 7, 8, 9, 10, 11, 12, 13, 14, 15, 16, 17, 18, 19, 26, 27], [0, 1, 2, 3, 4, 5, 6, 7, 8, 9, 10, 11, 12, 13, 14, 15, 16, 17, 18, 19, 26, 27, 28], [0, 1, 2, 3, 4, 5, 6, 7, 8, 9, 10, 11, 12, 13, 14, 15, 16, 17, 18, 19, 26, 27, 28, 29], [0, 1, 2, 3, 4, 5, 6, 7, 8, 9, 10, 11, 12, 13, 14, 15, 16, 17, 18, 19, 20, 21, 22, 23, 24, 25, 26, 27, 28, 29, 30], [0, 1, 2, 3, 4, 5, 6, 7, 8, 9, 10, 11, 12, 13, 14, 15, 16, 17, 18, 19], [0, 1, 2, 3, 4, 5, 6, 7, 8, 9, 10, 11, 12, 13, 14, 15, 16, 17, 18, 19, 32], [0, 1, 2, 3, 4, 5, 6, 7, 8, 9, 10, 11, 12, 13, 14, 15, 16, 17, 18, 19, 20, 21, 22, 23, 24, 25, 26, 27, 28, 29, 30, 31, 32, 33], [0, 1, 2, 3, 4, 5, 6, 7, 8, 9, 10, 11, 12, 13, 14, 15, 16, 17, 18, 19, 20, 21, 22, 23, 24, 25, 26, 27, 28, 29, 30, 31, 32, 33, 34], [0, 1, 2, 3, 4, 5, 6, 7, 8, 9, 10, 11, 12, 13, 14, 15, 16, 17, 18, 19, 20, 21, 22, 23, 24, 25, 26, 27, 28, 29, 30, 31, 32, 33, 34, 35], [0, 1, 2, 3, 4, 5, 6, 7, 8, 9, 10, 11, 12, 13, 14, 15, 16, 17, 18, 19, 20, 21, 22, 23, 24, 25, 26, 27, 28, 29, 30, 31, 32, 33, 34, 35, 36], [0, 1, 2, 3, 4, 5, 6, 7, 8, 9, 10, 11, 12, 13, 14, 15, 16, 17, 18, 19, 20, 21, 22, 23, 24, 25, 26, 27, 28, 29, 30, 31, 32, 33, 34, 35, 36], [0, 1, 2, 3, 4, 5, 6, 7, 8, 9, 10, 11, 12, 13, 14, 15, 16, 17, 18, 19, 20, 21, 22, 23, 24, 25, 26, 27, 28, 29, 30, 31, 32, 33, 34, 35, 36, 37, 38], [0, 1, 2, 3, 4, 5, 6, 7, 8, 9, 10, 11, 12, 13, 14, 15, 16, 17, 18, 19, 20, 21, 22, 23, 24, 25, 26, 27, 28, 29, 30, 31, 32, 33, 34, 35, 36, 37, 38, 39], [0, 1, 2, 3, 4, 5, 6, 7, 8, 9, 10, 11, 12, 13, 14, 15, 16, 17, 18, 19, 20, 21, 22, 23, 24, 25, 26, 27, 28, 29, 30, 31, 32, 33, 34, 35, 36, 37, 38, 39, 40], [0, 1, 2, 3, 4, 5, 6, 7, 8, 9, 10, 11, 12, 13, 14, 15, 16, 17, 18, 19, 20, 21, 22, 23, 24, 25, 26, 27, 28, 29, 30, 31, 32, 33, 34, 35, 36], [0, 1, 2, 3, 4, 5, 6, 7, 8, 9, 10, 11, 12, 13, 14, 15, 16, 17, 18, 19, 20, 21, 22, 23, 24, 25, 26, 27, 28, 29, 30, 31, 32, 33, 34, 35, 36], [0, 1, 2, 3, 4, 5, 6, 7, 8, 9, 10, 11, 12, 13, 14, 15, 16, 17, 18, 19, 20, 21, 22, 23, 24, 25, 26, 27, 28, 29, 30, 31, 32, 33, 34, 35, 36, 42, 43], [0, 1, 2, 3, 4, 5, 6, 7, 8, 9, 10, 11, 12, 13, 14, 15, 16, 17, 18, 19, 20, 21, 22, 23, 24, 25, 26, 27, 28, 29, 30, 31, 32, 33, 34, 35, 36, 42, 43, 44], [0, 1, 2, 3, 4, 5, 6, 7, 8, 9, 10, 11, 12, 13, 14, 15, 16, 17, 18, 19, 20, 21, 22, 23, 24, 25, 26, 27, 28, 29, 30, 31, 32, 33, 34, 35, 36, 42, 43, 44, 45], [0, 1, 2, 3, 4, 5, 6, 7, 8, 9, 10, 11, 12, 13, 14, 15, 16, 17, 18, 19, 20, 21, 22, 23, 24, 25, 26, 27, 28, 29, 30, 31, 32, 33, 34, 35, 36, 37, 38, 39, 40, 41, 42, 43, 44, 45, 46], [0, 1, 2, 3, 4, 5, 6, 7, 8, 9, 10, 11, 12, 13, 14, 15, 16, 17, 18, 19, 20, 21, 22, 23, 24, 25, 26, 27, 28, 29, 30, 31, 32, 33, 34, 35, 36], [0, 1, 2, 3, 4, 5, 6, 7, 8, 9, 10, 11, 12, 13, 14, 15, 16, 17, 18, 19, 20, 21, 22, 23, 24, 25, 26, 27, 28, 29, 30, 31, 32, 33, 34, 35, 36, 48], [0, 1, 2, 3, 4, 5, 6, 7, 8, 9, 10, 11, 12, 13, 14, 15, 16, 17, 18, 19, 20, 21, 22, 23, 24, 25, 26, 27, 28, 29, 30, 31, 32, 33, 34, 35, 36, 37, 38, 39, 40, 41, 42, 43, 44, 45, 46, 47, 48, 49], [0, 1, 2, 3, 4, 5, 6, 7, 8, 9, 10, 11, 12, 13, 14, 15, 16, 17, 18, 19, 20, 21, 22, 23, 24, 25, 26, 27, 28, 29, 30, 31, 32, 33, 34, 35, 36, 37, 38, 39, 40, 41, 42, 43, 44, 45, 46, 47, 48, 49, 50], [0, 1, 2, 3, 4, 5, 6, 7, 8, 9, 10, 11, 12, 13, 14, 15, 16, 17, 18, 19, 20, 21, 22, 23, 24, 25, 26, 27, 28, 29, 30, 31, 32, 33, 34, 35, 36, 37, 38, 39, 40, 41, 42, 43, 44, 45, 46, 47, 48, 49, 50, 51]] [.light 0 false, .light 1 false, .light 2 false, .light 3 false, .light 4 false, .light 5 false, .light 6 false, .light 7 false, .light 8 false, .light 9 false, .light 10 false, .light 11 false, .light 12 false, .light 13 false, .light 14 false, .light 15 false, .light 16 false, .light 17 false, .light 18 false, .light 19 false, .light 20 false, .light 21 false, .light 22 false, .light 23 false, .light 24 false, .light 25 false, .light 26 false, .light 27 false, .light 28 false, .light 29 false, .light 30 false, .light 31 false, .light 32 false, .light 33 false, .light 34 false, .light 35 false, .light 36 false, .light 37 false, .light 38 false, .light 39 true, .light 40 false, .light 41 true, .light 42 false, .light 43 false, .light 44 true, .light 45 false, .light 46 true, .light 47 false, .light 48 false, .heavy 49 [39, 41, 44, 46], .light 50 false, .light 51 false, .light 52 false] [{}, {}, {}, { k := 1, n := a0.length }, {}, {}, {}, {}, {}, { k := 1, x := E_GTone y2 }, {}, {}, {}, {}, { k := 1, x := E_GTone y3 }, {}, {}, {}, {}, {}, {}, {}, {}, { k := 1, x := E_GTone y2 }, {}, {}, {}, {}, { k := 1, x := E_GTone y3 }, {}, {}, {}, {}, {}, {}, {}, {}, {}, {}, { k := 1, x := E_GTone y3 }, {}, {}, {}, {}, { k := 1, x := E_GTone y3 }, {}, {}, {}, {}, { c := some (.i r6, ⟨[(0, .cells 3 [E_GFigure a1])], 1⟩) }, { k := 1 }] [0, 2, 4, 61] [0] (zipE [0, 2, 4, 61] [.sl false (a0.map E_GTone), .i a2, .mp 0 0 0, .bool (decide ((Int.tmod (wr (y3.to_ - y3.from_)) r6) ≠ 0))]) ⟨[(0, .cells 3 [E_GFigure a1])], 1⟩ _ (by kernel_rfl) (cjC (mapLen a0 E_GTone) (cjC (hc1) (cjC (Eq.refl false) (cjC (Eq.refl false) (cjC (Eq.refl false) (cjC ((ixE hy2).1) (cjC (mapGet E_GTone (ixE hy2).2) (cjC (Eq.refl false) (cjC (Eq.refl false) (cjC (Eq.refl false) (cjC (Eq.refl false) (cjC (Eq.refl false) (cjC ((ixE hy3).1) (cjC (mapGet E_GTone (ixE hy3).2) (cjC (Eq.refl false) (cjC (Eq.refl false) (cjC (Eq.refl false) (cjC (hc4) (cjC (Eq.refl false) (cjC (Eq.refl false) (cjC (Eq.refl false) (cjC ((ixE hy2).1) (cjC (mapGet E_GTone (ixE hy2).2) (cjC (Eq.refl false) (cjC (Eq.refl false) (cjC (Eq.refl false) (cjC (Eq.refl false) (cjC (Eq.refl false) (cjC ((ixE hy3).1) (cjC (mapGet E_GTone (ixE hy3).2) (cjC (Eq.refl false) (cjC (Eq.refl false) (cjC (Eq.refl false) (cjC (Eq.refl false) (cjC (Eq.refl false) (cjC (Eq.refl false) (cjC (hc5) (cjC (Eq.refl false) (cjC (Eq.refl false) (cjC ((ixE hy3).1) (cjC (mapGet E_GTone (ixE hy3).2) (cjC (Eq.refl false) (cjC (Eq.refl false) (cjC (Eq.refl false) (cjC (Eq.refl false) (cjC (Eq.refl false) (cjC ((ixE hy3).1) (cjC (mapGet E_GTone (ixE hy3).2) (cjC (Eq.refl false) (cjC (Eq.refl false) (cjC (Eq.refl false) (cjC (Eq.refl false) (cjC (Eq.refl false) (cjC (f98_ok a1 _ hr6 ⟨[(0, .cells 3 [E_GFigure a1])], 1⟩) (cjC (@Eq.refl AV (.ip [.i y3.pitch, .i y3.from_, .i y3.to_])) (cjC ((ixE hy3).1) (cjC (mapGet E_GTone (ixE hy3).2) (cjC (@Eq.refl AV (.i y3.to_)) (cjC (@Eq.refl AV (.ip [.i y3.pitch, .i y3.from_, .i y3.to_])) (cjC ((ixE hy3).1) (cjC (mapGet E_GTone (ixE hy3).2) (cjC (@Eq.refl AV (.i y3.from_)) (cjC (Eq.refl false) (cjC (hn7) (cj1 (Eq.refl false)))))))))))))))))))))))))))))))))))))))))))))))))))))))))))))))))) (kj1 (decide ((Int.tmod (wr (y3.to_ - y3.from_)) r6) ≠ 0)) rfl)
  · rintro _ rfl
    rcases iteE h with ⟨hc8, h⟩ | ⟨hc8, h⟩
    · refine run_cT 61 (c61 6) (c61 9) j1_61 hc8 (by kernel_rfl) (by kernel_rfl) ?_
      refine run1 (c61 8) [] [6] [] (zipE [6] [.bool false]) ⟨[], 1⟩ _ (by kernel_rfl) cj0 ?_
      refine run_t (by kernel_rfl) ?_
      refine thenR ?_
      replace h := Option.some.inj h; subst h
      exact fin_r (by kernel_rfl) rfl
    · refine run_cF 61 (c61 6) (c61 9) j1_61 hc8 (by kernel_rfl) (by kernel_rfl) ?_
      refine run_k (by kernel_rfl) ?_
      refine thenN ?_
      refine run_s (c61 11) (c61 33) (by kernel_rfl) ?_
      refine run1 (c61 13) [] [0, 2, 4, 7] [0] (zipE [0, 2, 4, 7] [.sl false (a0.map E_GTone), .i a2, .mp 0 0 0, .i 0]) ⟨[(0, .cells 3 [E_GFigure a1])], 1⟩ _ (by kernel_rfl) cj0 ?_
      obtain ⟨ol2x, hll2x, h⟩ := bindE h
      refine run_tq (fun (_ : Unit) => (zipE [] [])) (fun (_ : Unit) => ⟨[], 1⟩) (fun j => ol2x = .inl j) (fun kl2 => ?_) ?_
      · refine run_b 0 (c61 14) (by kernel_rfl) ?_
        refine run_l (c61 15) _ hll2x (fun (l2_7 : Int) => (zipE [0, 2, 4, 7] [.sl false (a0.map E_GTone), .i a2, .mp 0 0 0, .i l2_7])) (fun (l2_7 : Int) => ⟨[(0, .cells 3 [E_GFigure a1])], 1⟩) [] (by intro i e; cases e <;> exact Nat.le_of_ble_eq_true rfl) (by kernel_rfl) (mkInto (ks := [0, 2, 4, 7]) (ys := [.sl false (a0.map E_GTone), .i a2, .mp 0 0 0, .i 0]) (by kernel_rfl) (by kernel_rfl) (.k (.c (cleanMap _ _ cl_GTone)) (.k (.c rfl) (.k (.mp rfl rfl) (.k (.c rfl) .z)))) (.k (x' := .cells 3 [E_GFigure a1]) (by kernel_rfl) (.cells (.k (.c (cl_GFigure a1)) .z)) .z)) ?_
        rintro l2_7 out hl2 rl2
        refine run_s (c61 16) (c61 21) (by kernel_rfl) ?_
        refine run1 (c61 18) [{}, {}, {}, { k := 1, n := a1.moves.length }] [0, 2, 4, 7, 66] [0] (zipE [0, 2, 4, 7, 66] [.sl false (a0.map E_GTone), .i a2, .mp 0 0 0, .i l2_7, .bool (decide (l2_7 < (a1.moves.length : Int)))]) ⟨[(0, .cells 3 [E_GFigure a1])], 1⟩ _ (by kernel_rfl) (cj1 (mapLen a1.moves AV.i)) ?_
        rcases iteE hl2 with ⟨hc9, hl2⟩ | ⟨hc9, hl2⟩
        · refine run_cT 66 (c61 19) (c61 20) (decide (l2_7 < (a1.moves.length : Int))) hc9 (by kernel_rfl) (by kernel_rfl) ?_
          refine run_k (by kernel_rfl) ?_
          refine thenN ?_
          refine run_s (c61 22) (c61 32) (by kernel_rfl) ?_
          refine run_b 1 (c61 23) (by kernel_rfl) ?_
          obtain ⟨y10, hy10, hl2⟩ := bindE hl2
          obtain ⟨y11, hy11, hl2⟩ := bindE hl2
          refine yun1 (c61 25) [[], [], [0, 1], [0, 1, 2], [0, 1, 2, 3], [], [5], [], [5, 6, 7], [5, 6, 7, 8], [0, 1, 2, 3, 4, 5, 6, 7, 8, 9], [0, 1, 2, 3, 4, 5, 6, 7, 8, 9, 10]] [.light 0 false, .light 1 false, .light 2 false, .light 3 false, .light 4 false, .light 5 false, .light 6 false, .light 7 false, .light 8 false, .light 9 false, .light 10 false, .light 11 false] [{}, {}, { k := 1, x := E_GTone y10 }, {}, {}, {}, {}, {}, { k := 1, x := AV.i y11 }] [0, 2, 4, 7, 8] [0] (zipE [0, 2, 4, 7, 8] [.sl false (a0.map E_GTone), .i a2, .mp 0 0 0, .i l2_7, .i (wr (y10.pitch + y11))]) ⟨[(0, .cells 3 [E_GFigure a1])], 1⟩ _ (by kernel_rfl) (cjC ((ixE hy10).1) (cjC (mapGet E_GTone (ixE hy10).2) (cjC ((ixE hy11).1) (cj1 (mapGet AV.i (ixE hy11).2))))) ?_
          obtain ⟨j3_85, hj3, hl2⟩ := bindE hl2
          refine run_gq (c61 27) (fun (j3_85 : Bool) => (zipE [0, 2, 4, 7, 85] [.sl false (a0.map E_GTone), .i a2, .mp 0 0 0, .i l2_7, .bool j3_85])) (fun (j3_85 : Bool) => ⟨[(0, .cells 3 [E_GFigure a1])], 1⟩) (fun j => j3_85 = j) (fun kj3 => ?_) ?_
          · rcases iteE hj3 with ⟨hc12, hj3⟩ | ⟨hc12, hj3⟩
            · replace hj3 := Option.some.inj hj3; subst hj3
              exact run1 (c61 27) [{}, {}, {}, { g := false }, { g := false }, { k := 1, b := true }] [0, 2, 4, 7, 85] [0] (zipE [0, 2, 4, 7, 85] [.sl false (a0.map E_GTone), .i a2, .mp 0 0 0, .i l2_7, .bool true]) ⟨[(0, .cells 3 [E_GFigure a1])], 1⟩ _ (by kernel_rfl) (cjC (hc12) (cjC (hc12) (cj1 (hc12)))) (kj3 true rfl)
            · replace hj3 := Option.some.inj hj3; subst hj3
              exact run1 (c61 27) [{}, {}, {}, {}, {}, { k := 1, b := false }] [0, 2, 4, 7, 85] [0] (zipE [0, 2, 4, 7, 85] [.sl false (a0.map E_GTone), .i a2, .mp 0 0 0, .i l2_7, .bool (decide (127 < (wr (y10.pitch + y11))))]) ⟨[(0, .cells 3 [E_GFigure a1])], 1⟩ _ (by kernel_rfl) (cjC (hc12) (cjC (hc12) (cj1 (hc12)))) (kj3 (decide (127 < (wr (y10.pitch + y11)))) rfl)
          · rintro _ rfl
            rcases iteE hl2 with ⟨hc13, hl2⟩ | ⟨hc13, hl2⟩
            · refine run_cT 85 (c61 28) (c61 31) j3_85 hc13 (by kernel_rfl) (by kernel_rfl) ?_
              refine run1 (c61 30) [] [6] [] (zipE [6] [.bool false]) ⟨[], 1⟩ _ (by kernel_rfl) cj0 ?_
              replace hl2 := Option.some.inj hl2; subst hl2
              have hr := rl2 _ rfl
              subst hr
              replace h := elimR h
              refine run_t (by kernel_rfl) ?_
              refine inbR ?_
              refine thenR ?_
              refine ⟨⟨_, rfl⟩, ?_⟩
              refine inbR ?_
              refine thenR ?_
              replace h := Option.some.inj h; subst h
              exact fin_r (by kernel_rfl) rfl
            · refine run_cF 85 (c61 28) (c61 31) j3_85 hc13 (by kernel_rfl) (by kernel_rfl) ?_
              refine run_k (by kernel_rfl) ?_
              refine inbN ?_
              refine thenN ?_
              refine run0 [] [0, 2, 4, 7] [0] (zipE [0, 2, 4, 7] [.sl false (a0.map E_GTone), .i a2, .mp 0 0 0, .i (wr (l2_7 + 1))]) ⟨[(0, .cells 3 [E_GFigure a1])], 1⟩ _ (by kernel_rfl) cj0 ?_
              replace hl2 := Option.some.inj hl2; subst hl2
              exact ⟨_, rfl, pi [], mkInto (ks := [0, 2, 4, 7]) (ys := [.sl false (a0.map E_GTone), .i a2, .mp 0 0 0, .i (wr (l2_7 + 1))]) (by kernel_rfl) (by kernel_rfl) (.k (.c (cleanMap _ _ cl_GTone)) (.k (.c rfl) (.k (.mp rfl rfl) (.k (.c rfl) .z)))) (.k (x' := .cells 3 [E_GFigure a1]) (by kernel_rfl) (.cells (.k (.c (cl_GFigure a1)) .z)) .z)⟩
        · refine run_cF 66 (c61 19) (c61 20) (decide (l2_7 < (a1.moves.length : Int))) hc9 (by kernel_rfl) (by kernel_rfl) ?_
          replace hl2 := Option.some.inj hl2; subst hl2
          have hr := rl2 _ rfl
          subst hr
          refine awp_p [] [] (zipE [] []) ⟨[], 1⟩ (by kernel_rfl) (?_)
          refine run_e 0 (by kernel_rfl) ?_
          refine thenE ?_
          refine ⟨⟨_, rfl⟩, ?_⟩
          refine inbE ?_
          exact kl2 () rfl
      · rintro ⟨⟩ rfl
        replace h := elimL h
        refine thenN ?_
        refine run1 (c61 35) [] [6] [] (zipE [6] [.bool true]) ⟨[], 1⟩ _ (by kernel_rfl) cj0 ?_
        refine run_t (by kernel_rfl) ?_
        replace h := Option.some.inj h; subst h
        exact fin_r (by kernel_rfl) rfl

/-- theorbo.theorboref08.Fits -/
def f28 (a0 : List GTone) (a1 : List GFigure) (a2 : Int) : Option (((List Int)) × Int) := (f60 a0 a1).bind fun r1 => bif (decide (r1 ≠ 0)) then (some (([] : List Int), r1)) else (((bif (decide (a2 < 0)) then (some true) else (some (decide ((a0.length : Int) ≤ a2)))) : Option Bool).bind fun (j1_24 : Bool) => bif j1_24 then (some (([] : List Int), 1)) else ((loopN (σ := (List Int × Int)) (τ := (List Int)) (fun ((l2_9, l2_10) : (List Int × Int)) => bif (decide (l2_10 < (a1.length : Int))) then ((((ix a1 l2_10).bind fun y6 => (f61 a0 y6 a2).bind fun r7 => bif r7 then (need (l2_9.length + 1 ≤ maxElems) <| some (l2_9 ++ [(wr (l2_10 + 1))])) else (some l2_9)) : Option (List Int)).bind fun (j3_9 : (List Int)) => some (.inl (j3_9, (wr (l2_10 + 1))))) else (some (.inr l2_9))) FUEL (([] : List Int), 0)).bind fun (l2x_9 : (List Int)) => some (l2x_9, 0)))
theorem f28_ok (a0 : List GTone) (a1 : List GFigure) (a2 : Int) (r : (((List Int)) × Int)) (h : f28 a0 a1 a2 = some r) : APure Tryz.prog 28 [.sl false (a0.map E_GTone), .sl false (a1.map E_GFigure), .i a2] (.tup [.sl false (r.1.map AV.i), .i r.2]) := by
  refine apure (clK (cleanMap a0 _ cl_GTone) (clK (cleanMap a1 _ cl_GFigure) (clK rfl clZ))) (clK (cleanMap r.1 _ cl_i) (clK rfl clZ)) ?_
  refine run_f 44 [.tmp 6, .tmp 7] (c28 0) (zipE [0, 1, 2] [.sl false (a0.map E_GTone), .sl false (a1.map E_GFigure), .i a2]) (by kernel_rfl) (by kernel_rfl) (by kernel_rfl) rfl ?_
  unfold f28 at h
  refine run1 (c28 2) [] [0, 1, 2] [] (zipE [0, 1, 2] [.sl false (a0.map E_GTone), .sl false (a1.map E_GFigure), .i a2]) ⟨[], 0⟩ _ (by kernel_rfl) cj0 ?_
  refine run_s (c28 3) (c28 12) (by kernel_rfl) ?_
  obtain ⟨r1, hr1, h⟩ := bindE h
  refine run1 (c28 5) [{}, {}, { c := some (.i r1, ⟨[], 0⟩) }] [0, 1, 2, 8] [] (zipE [0, 1, 2, 8] [.sl false (a0.map E_GTone), .sl false (a1.map E_GFigure), .i a2, .i r1]) ⟨[], 0⟩ _ (by kernel_rfl) (cj1 (f60_ok a0 a1 _ hr1 ⟨[], 0⟩)) ?_
  refine run1 (c28 7) [] [0, 1, 2, 8, 15] [] (zipE [0, 1, 2, 8, 15] [.sl false (a0.map E_GTone), .sl false (a1.map E_GFigure), .i a2, .i r1, .bool (decide (r1 ≠ 0))]) ⟨[], 0⟩ _ (by kernel_rfl) cj0 ?_
  rcases iteE h with ⟨hc2, h⟩ | ⟨hc2, h⟩
  · refine run_cT 15 (c28 8) (c28 11) (decide (r1 ≠ 0)) hc2 (by kernel_rfl) (by kernel_rfl) ?_
    refine run1 (c28 10) [] [6, 7] [] (zipE [6, 7] [.sl true [], .i r1]) ⟨[], 0⟩ _ (by kernel_rfl) cj0 ?_
    refine run_i 0 [] [6, 7] [.sl true [], .i r1] (xs := [.sl false (([] : List Int).map AV.i), .i r1]) (S2 := ⟨[], 0⟩) ?_ (by intro i e; cases e <;> exact Nat.le_of_ble_eq_true rfl) (by kernel_rfl) (by kernel_rfl) (by kernel_rfl) (.k (.s (cleanMap (([] : List Int)) _ cl_i)) (.k (.c rfl) .z)) .z
    refine run_t (by kernel_rfl) ?_
    refine thenR ?_
    replace h := Option.some.inj h; subst h
    exact fin_r (by kernel_rfl) rfl
  · refine run_cF 15 (c28 8) (c28 11) (decide (r1 ≠ 0)) hc2 (by kernel_rfl) (by kernel_rfl) ?_
    refine run_k (by kernel_rfl) ?_
    refine thenN ?_
    refine run_s (c28 13) (c28 20) (by kernel_rfl) ?_
    obtain ⟨j1_24, hj1, h⟩ := bindE h
    refine run_gq (c28 15) (fun (j1_24 : Bool) => (zipE [0, 1, 2, 24] [.sl false (a0.map E_GTone), .sl false (a1.map E_GFigure), .i a2, .bool j1_24])) (fun (j1_24 : Bool) => ⟨[], 0⟩) (fun j => j1_24 = j) (fun kj1 => ?_) ?_
    · rcases iteE hj1 with ⟨hc3, hj1⟩ | ⟨hc3, hj1⟩
      · replace hj1 := Option.some.inj hj1; subst hj1
        exact run1 (c28 15) [{}, {}, {}, { g := false }, { g := false }, { g := false }, { g := false }, { k := 1, b := true }] [0, 1, 2, 24] [] (zipE [0, 1, 2, 24] [.sl false (a0.map E_GTone), .sl false (a1.map E_GFigure), .i a2, .bool true]) ⟨[], 0⟩ _ (by kernel_rfl) (cjC (hc3) (cjC (hc3) (cjC (hc3) (cjC (hc3) (cj1 (hc3)))))) (kj1 true rfl)
      · replace hj1 := Option.some.inj hj1; subst hj1
        exact run1 (c28 15) [{}, {}, {}, {}, {}, { k := 1, n := a0.length }, {}, { k := 1, b := false }] [0, 1, 2, 24] [] (zipE [0, 1, 2, 24] [.sl false (a0.map E_GTone), .sl false (a1.map E_GFigure), .i a2, .bool (decide ((a0.length : Int) ≤ a2))]) ⟨[], 0⟩ _ (by kernel_rfl) (cjC (hc3) (cjC (hc3) (cjC (hc3) (cjC (mapLen a0 E_GTone) (cjC (hc3) (cj1 (hc3))))))) (kj1 (decide ((a0.length : Int) ≤ a2)) rfl)
    · rintro _ rfl
      rcases iteE h with ⟨hc4, h⟩ | ⟨hc4, h⟩
      · refine run_cT 24 (c28 16) (c28 19) j1_24 hc4 (by kernel_rfl) (by kernel_rfl) ?_
        refine run1 (c28 18) [] [6, 7] [] (zipE [6, 7] [.sl true [], .i 1]) ⟨[], 0⟩ _ (by kernel_rfl) cj0 ?_
        refine run_i 0 [] [6, 7] [.sl true [], .i 1] (xs := [.sl false (([] : List Int).map AV.i), .i 1]) (S2 := ⟨[], 0⟩) ?_ (by intro i e; cases e <;> exact Nat.le_of_ble_eq_true rfl) (by kernel_rfl) (by kernel_rfl) (by kernel_rfl) (.k (.s (cleanMap (([] : List Int)) _ cl_i)) (.k (.c rfl) .z)) .z
        refine run_t (by kernel_rfl) ?_
        refine thenR ?_
        replace h := Option.some.inj h; subst h
        exact fin_r (by kernel_rfl) rfl
      · refine run_cF 24 (c28 16) (c28 19) j1_24 hc4 (by kernel_rfl) (by kernel_rfl) ?_
        refine run_k (by kernel_rfl) ?_
        refine thenN ?_
        refine run1 (c28 22) [] [0, 1, 2, 9] [] (zipE [0, 1, 2, 9] [.sl false (a0.map E_GTone), .sl false (a1.map E_GFigure), .i a2, .sl true []]) ⟨[], 0⟩ _ (by kernel_rfl) cj0 ?_
        refine run_s (c28 23) (c28 41) (by kernel_rfl) ?_
        refine run1 (c28 25) [] [0, 1, 2, 9, 10] [] (zipE [0, 1, 2, 9, 10] [.sl false (a0.map E_GTone), .sl false (a1.map E_GFigure), .i a2, .sl true [], .i 0]) ⟨[], 0⟩ _ (by kernel_rfl) cj0 ?_
        obtain ⟨l2x_9, hll2x, h⟩ := bindE h
        refine run_tq (fun (l2x_9 : (List Int)) => (zipE [9] [.ms 0 0 l2x_9.length])) (fun (l2x_9 : (List Int)) => ⟨[(0, .cells 1 (l2x_9.map AV.i))], 1⟩) (fun j => l2x_9 = j) (fun kl2 => ?_) ?_
        · refine run_b 0 (c28 26) (by kernel_rfl) ?_
          refine run_l (c28 27) _ hll2x (fun ((l2_9, l2_10) : (List Int × Int)) => (zipE [0, 1, 2, 9, 10] [.sl false (a0.map E_GTone), .sl false (a1.map E_GFigure), .i a2, .ms 0 0 l2_9.length, .i l2_10])) (fun ((l2_9, l2_10) : (List Int × Int)) => ⟨[(0, .cells 1 (l2_9.map AV.i))], 1⟩) [(0, 1000000)] (by intro i e; cases e <;> exact Nat.le_of_ble_eq_true rfl) (by kernel_rfl) (mkInto (ks := [0, 1, 2, 9, 10]) (ys := [.sl false (a0.map E_GTone), .sl false (a1.map E_GFigure), .i a2, .sl true [], .i 0]) (by kernel_rfl) (by kernel_rfl) (.k (.c (cleanMap _ _ cl_GTone)) (.k (.c (cleanMap _ _ cl_GFigure)) (.k (.c rfl) (.k (.n) (.k (.c rfl) .z))))) (.n rfl rfl rfl .z)) ?_
          rintro ⟨l2_9, l2_10⟩ out hl2 rl2
          refine run_s (c28 28) (c28 33) (by kernel_rfl) ?_
          refine run1 (c28 30) [{}, {}, { k := 1, n := a1.length }] [0, 1, 2, 9, 10, 28] [0] (zipE [0, 1, 2, 9, 10, 28] [.sl false (a0.map E_GTone), .sl false (a1.map E_GFigure), .i a2, .ms 0 0 l2_9.length, .i l2_10, .bool (decide (l2_10 < (a1.length : Int)))]) ⟨[(0, .cells 1 (l2_9.map AV.i))], 1⟩ _ (by kernel_rfl) (cj1 (mapLen a1 E_GFigure)) ?_
          rcases iteE hl2 with ⟨hc5, hl2⟩ | ⟨hc5, hl2⟩
          · refine run_cT 28 (c28 31) (c28 32) (decide (l2_10 < (a1.length : Int))) hc5 (by kernel_rfl) (by kernel_rfl) ?_
            refine run_k (by kernel_rfl) ?_
            refine thenN ?_
            obtain ⟨j3_9, hj3, hl2⟩ := bindE hl2
            refine run_jq (c28 34) (c28 40) (fun (j3_9 : (List Int)) => (zipE [0, 1, 2, 9, 10] [.sl false (a0.map E_GTone), .sl false (a1.map E_GFigure), .i a2, .ms 2 0 j3_9.length, .i l2_10])) (fun (j3_9 : (List Int)) => ⟨[(2, .cells 1 (j3_9.map AV.i))], 3⟩) (fun j => j3_9 = j) (by kernel_rfl) (fun kj3 => ?_) ?_
            · refine run_b 1 (c28 35) (by kernel_rfl) ?_
              obtain ⟨y6, hy6, hj3⟩ := bindE hj3
              obtain ⟨r7, hr7, hj3⟩ := bindE hj3
              refine run1 (c28 37) [{}, {}, {}, { k := 1, x := E_GFigure y6 }, {}, {}, { c := some (.bool r7, ⟨[(0, .cells 1 (l2_9.map AV.i))], 1⟩) }] [0, 1, 2, 9, 10, 37] [0] (zipE [0, 1, 2, 9, 10, 37] [.sl false (a0.map E_GTone), .sl false (a1.map E_GFigure), .i a2, .ms 0 0 l2_9.length, .i l2_10, .bool r7]) ⟨[(0, .cells 1 (l2_9.map AV.i))], 1⟩ _ (by kernel_rfl) (cjC ((ixE hy6).1) (cjC (mapGet E_GFigure (ixE hy6).2) (cj1 (f61_ok a0 y6 a2 _ hr7 ⟨[(0, .cells 1 (l2_9.map AV.i))], 1⟩)))) ?_
              rcases iteE hj3 with ⟨hc8, hj3⟩ | ⟨hc8, hj3⟩
              · refine run_cT 37 (c28 38) (c28 39) r7 hc8 (by kernel_rfl) (by kernel_rfl) ?_
                obtain ⟨hn9, hj3⟩ := needE hj3
                refine run0 [{}, {}, {}, {}, { k := 1, n := (l2_9 ++ [(wr (l2_10 + 1))]).length, l := (l2_9 ++ [(wr (l2_10 + 1))]).map AV.i }] [0, 1, 2, 9, 10] [1] (zipE [0, 1, 2, 9, 10] [.sl false (a0.map E_GTone), .sl false (a1.map E_GFigure), .i a2, .ms 1 0 (l2_9 ++ [(wr (l2_10 + 1))]).length, .i l2_10]) ⟨[(1, .cells 1 ((l2_9 ++ [(wr (l2_10 + 1))]).map AV.i))], 2⟩ _ (by kernel_rfl) (cjC (@List.cons_ne_nil AV (.i (wr (l2_10 + 1))) []) (cjC (mLe l2_9 AV.i) (cjC (hn9) (cjC (lenA l2_9 ([(wr (l2_10 + 1))] : List Int)) (cjC (appA l2_9 ([(wr (l2_10 + 1))] : List Int) AV.i) (cj1 (fitsOne (P := Tryz.prog) (t := 3) (x := .i (wr (l2_10 + 1))) (r := []) (by kernel_rfl)))))))) ?_
                replace hj3 := Option.some.inj hj3; subst hj3
                refine inbN ?_
                refine thenN ?_
                exact run_i 2 [(2, 1)] [0, 1, 2, 9, 10] [.sl false (a0.map E_GTone), .sl false (a1.map E_GFigure), .i a2, .ms 1 0 (l2_9 ++ [(wr (l2_10 + 1))]).length, .i l2_10] (kj3 (l2_9 ++ [(wr (l2_10 + 1))]) rfl) (by intro i e; cases e <;> exact Nat.le_of_ble_eq_true rfl) (by kernel_rfl) (by kernel_rfl) (by kernel_rfl) (.k (.c (cleanMap _ _ cl_GTone)) (.k (.c (cleanMap _ _ cl_GFigure)) (.k (.c rfl) (.k (.ms rfl rfl) (.k (.c rfl) .z))))) (.k (x' := .cells 1 ((l2_9 ++ [(wr (l2_10 + 1))]).map AV.i)) (by kernel_rfl) (.cells (.r (cleanMap _ _ cl_i))) .z)
              · refine run_cF 37 (c28 38) (c28 39) r7 hc8 (by kernel_rfl) (by kernel_rfl) ?_
                replace hj3 := Option.some.inj hj3; subst hj3
                refine run_i 2 [(2, 0)] [0, 1, 2, 9, 10] [.sl false (a0.map E_GTone), .sl false (a1.map E_GFigure), .i a2, .ms 0 0 l2_9.length, .i l2_10] (xs := [.sl false (a0.map E_GTone), .sl false (a1.map E_GFigure), .i a2, .ms 2 0 l2_9.length, .i l2_10]) (S2 := ⟨[(2, .cells 1 (l2_9.map AV.i))], 3⟩) ?_ (by intro i e; cases e <;> exact Nat.le_of_ble_eq_true rfl) (by kernel_rfl) (by kernel_rfl) (by kernel_rfl) (.k (.c (cleanMap _ _ cl_GTone)) (.k (.c (cleanMap _ _ cl_GFigure)) (.k (.c rfl) (.k (.ms rfl rfl) (.k (.c rfl) .z))))) (.k (x' := .cells 1 (l2_9.map AV.i)) (by kernel_rfl) (.cells (.r (cleanMap _ _ cl_i))) .z)
                refine run_k (by kernel_rfl) ?_
                refine inbN ?_
                refine thenN ?_
                exact kj3 l2_9 rfl
            · rintro _ rfl
              refine run0 [] [0, 1, 2, 9, 10] [2] (zipE [0, 1, 2, 9, 10] [.sl false (a0.map E_GTone), .sl false (a1.map E_GFigure), .i a2, .ms 2 0 j3_9.length, .i (wr (l2_10 + 1))]) ⟨[(2, .cells 1 (j3_9.map AV.i))], 3⟩ _ (by kernel_rfl) cj0 ?_
              replace hl2 := Option.some.inj hl2; subst hl2
              exact ⟨_, rfl, pi [(0, 2)], mkInto (ks := [0, 1, 2, 9, 10]) (ys := [.sl false (a0.map E_GTone), .sl false (a1.map E_GFigure), .i a2, .ms 2 0 j3_9.length, .i (wr (l2_10 + 1))]) (by kernel_rfl) (by kernel_rfl) (.k (.c (cleanMap _ _ cl_GTone)) (.k (.c (cleanMap _ _ cl_GFigure)) (.k (.c rfl) (.k (.ms rfl rfl) (.k (.c rfl) .z))))) (.k (x' := .cells 1 (j3_9.map AV.i)) (by kernel_rfl) (.cells (.r (cleanMap _ _ cl_i))) .z)⟩
          · refine run_cF 28 (c28 31) (c28 32) (decide (l2_10 < (a1.length : Int))) hc5 (by kernel_rfl) (by kernel_rfl) ?_
            replace hl2 := Option.some.inj hl2; subst hl2
            have hr := rl2 _ rfl
            subst hr
            refine awp_p [9] [0] (zipE [9] [.ms 0 0 l2_9.length]) ⟨[(0, .cells 1 (l2_9.map AV.i))], 1⟩ (by kernel_rfl) (?_)
            refine run_e 0 (by kernel_rfl) ?_
            refine thenE ?_
            refine ⟨⟨_, rfl⟩, ?_⟩
            refine inbE ?_
            exact kl2 l2_9 rfl
        · rintro _ rfl
          refine thenN ?_
          refine run1 (c28 43) [] [6, 7] [0] (zipE [6, 7] [.ms 0 0 l2x_9.length, .i 0]) ⟨[(0, .cells 1 (l2x_9.map AV.i))], 1⟩ _ (by kernel_rfl) cj0 ?_
          refine run_z 0 1 (l2x_9.map AV.i) [6, 7] [.ms 0 0 l2x_9.length, .i 0] (xs := [.sl false (l2x_9.map AV.i), .i 0]) (S2 := ⟨[], 1⟩) ?_ (by kernel_rfl) (by kernel_rfl) (.k (.m (mLe l2x_9 AV.i) (mapAll l2x_9 AV.i)) (.k (.r _) .z)) .z rfl rfl
          refine run_t (by kernel_rfl) ?_
          replace h := Option.some.inj h; subst h
          exact fin_r (by kernel_rfl) rfl

/-- theorbo.theorbolaw08.SameInts -/
def f18 (a0 : List Int) (a1 : List Int) : Option Bool := bif (decide ((a0.length : Int) ≠ (a1.length : Int))) then (some false) else ((loopN (σ := Int) (τ := (Unit ⊕ Bool)) (fun (l1_5 : Int) => bif (decide (l1_5 < (a0.length : Int))) then ((ix a0 l1_5).bind fun y3 => (ix a1 l1_5).bind fun y4 => bif (decide (y3 ≠ y4)) then (some (.inr (.inr false))) else (some (.inl (wr (l1_5 + 1))))) else (some (.inr (.inl ())))) FUEL 0).bind (Sum.elim (fun (_ : Unit) => some true) some))
theorem f18_ok (a0 : List Int) (a1 : List Int) (r : Bool) (h : f18 a0 a1 = some r) : APure Tryz.prog 18 [.sl false (a0.map AV.i), .sl false (a1.map AV.i)] (.bool r) := by
  refine apure (clK (cleanMap a0 _ cl_i) (clK (cleanMap a1 _ cl_i) clZ)) rfl ?_
  refine run_f 26 [.tmp 4] (c18 0) (zipE [0, 1] [.sl false (a0.map AV.i), .sl false (a1.map AV.i)]) (by kernel_rfl) (by kernel_rfl) (by kernel_rfl) rfl ?_
  unfold f18 at h
  refine run1 (c18 2) [] [0, 1] [] (zipE [0, 1] [.sl false (a0.map AV.i), .sl false (a1.map AV.i)]) ⟨[], 0⟩ _ (by kernel_rfl) cj0 ?_
  refine run_s (c18 3) (c18 10) (by kernel_rfl) ?_
  refine run1 (c18 5) [{}, { k := 1, n := a0.length }, {}, { k := 1, n := a1.length }] [0, 1, 10] [] (zipE [0, 1, 10] [.sl false (a0.map AV.i), .sl false (a1.map AV.i), .bool (decide ((a0.length : Int) ≠ (a1.length : Int)))]) ⟨[], 0⟩ _ (by kernel_rfl) (cjC (mapLen a0 AV.i) (cj1 (mapLen a1 AV.i))) ?_
  rcases iteE h with ⟨hc1, h⟩ | ⟨hc1, h⟩
  · refine run_cT 10 (c18 6) (c18 9) (decide ((a0.length : Int) ≠ (a1.length : Int))) hc1 (by kernel_rfl) (by kernel_rfl) ?_
    refine run1 (c18 8) [] [4] [] (zipE [4] [.bool false]) ⟨[], 0⟩ _ (by kernel_rfl) cj0 ?_
    refine run_t (by kernel_rfl) ?_
    refine thenR ?_
    replace h := Option.some.inj h; subst h
    exact fin_r (by kernel_rfl) rfl
  · refine run_cF 10 (c18 6) (c18 9) (decide ((a0.length : Int) ≠ (a1.length : Int))) hc1 (by kernel_rfl) (by kernel_rfl) ?_
    refine run_k (by kernel_rfl) ?_
    refine thenN ?_
    refine run_s (c18 11) (c18 31) (by kernel_rfl) ?_
    refine run1 (c18 13) [] [0, 1, 5] [] (zipE [0, 1, 5] [.sl false (a0.map AV.i), .sl false (a1.map AV.i), .i 0]) ⟨[], 0⟩ _ (by kernel_rfl) cj0 ?_
    obtain ⟨ol1x, hll1x, h⟩ := bindE h
    refine run_tq (fun (_ : Unit) => (zipE [] [])) (fun (_ : Unit) => ⟨[], 0⟩) (fun j => ol1x = .inl j) (fun kl1 => ?_) ?_
    · refine run_b 0 (c18 14) (by kernel_rfl) ?_
      refine run_l (c18 15) _ hll1x (fun (l1_5 : Int) => (zipE [0, 1, 5] [.sl false (a0.map AV.i), .sl false (a1.map AV.i), .i l1_5])) (fun (l1_5 : Int) => ⟨[], 0⟩) [] (by intro i e; cases e <;> exact Nat.le_of_ble_eq_true rfl) (by kernel_rfl) (mkInto (ks := [0, 1, 5]) (ys := [.sl false (a0.map AV.i), .sl false (a1.map AV.i), .i 0]) (by kernel_rfl) (by kernel_rfl) (.k (.c (cleanMap _ _ cl_i)) (.k (.c (cleanMap _ _ cl_i)) (.k (.c rfl) .z))) .z) ?_
      rintro l1_5 out hl1 rl1
      refine run_s (c18 16) (c18 21) (by kernel_rfl) ?_
      refine run1 (c18 18) [{}, {}, { k := 1, n := a0.length }] [0, 1, 5, 14] [] (zipE [0, 1, 5, 14] [.sl false (a0.map AV.i), .sl false (a1.map AV.i), .i l1_5, .bool (decide (l1_5 < (a0.length : Int)))]) ⟨[], 0⟩ _ (by kernel_rfl) (cj1 (mapLen a0 AV.i)) ?_
      rcases iteE hl1 with ⟨hc2, hl1⟩ | ⟨hc2, hl1⟩
      · refine run_cT 14 (c18 19) (c18 20) (decide (l1_5 < (a0.length : Int))) hc2 (by kernel_rfl) (by kernel_rfl) ?_
        refine run_k (by kernel_rfl) ?_
        refine thenN ?_
        refine run_s (c18 22) (c18 30) (by kernel_rfl) ?_
        refine run_b 1 (c18 23) (by kernel_rfl) ?_
        obtain ⟨y3, hy3, hl1⟩ := bindE hl1
        obtain ⟨y4, hy4, hl1⟩ := bindE hl1
        refine yun1 (c18 25) [[], [], [0, 1], [0, 1, 2], [], [], [4, 5], [4, 5, 6], [0, 1, 2, 3, 4, 5, 6, 7]] [.light 0 false, .light 1 false, .light 2 false, .light 3 false, .light 4 false, .light 5 false, .light 6 false, .light 7 false, .light 8 false] [{}, {}, { k := 1, x := AV.i y3 }, {}, {}, {}, { k := 1, x := AV.i y4 }] [0, 1, 5, 25] [] (zipE [0, 1, 5, 25] [.sl false (a0.map AV.i), .sl false (a1.map AV.i), .i l1_5, .bool (decide (y3 ≠ y4))]) ⟨[], 0⟩ _ (by kernel_rfl) (cjC ((ixE hy3).1) (cjC (mapGet AV.i (ixE hy3).2) (cjC ((ixE hy4).1) (cj1 (mapGet AV.i (ixE hy4).2))))) ?_
        rcases iteE hl1 with ⟨hc5, hl1⟩ | ⟨hc5, hl1⟩
        · refine run_cT 25 (c18 26) (c18 29) (decide (y3 ≠ y4)) hc5 (by kernel_rfl) (by kernel_rfl) ?_
          refine run1 (c18 28) [] [4] [] (zipE [4] [.bool false]) ⟨[], 0⟩ _ (by kernel_rfl) cj0 ?_
          replace hl1 := Option.some.inj hl1; subst hl1
          have hr := rl1 _ rfl
          subst hr
          replace h := elimR h
          refine run_t (by kernel_rfl) ?_
          refine inbR ?_
          refine thenR ?_
          refine ⟨⟨_, rfl⟩, ?_⟩
          refine inbR ?_
          refine thenR ?_
          replace h := Option.some.inj h; subst h
          exact fin_r (by kernel_rfl) rfl
        · refine run_cF 25 (c18 26) (c18 29) (decide (y3 ≠ y4)) hc5 (by kernel_rfl) (by kernel_rfl) ?_
          refine run_k (by kernel_rfl) ?_
          refine inbN ?_
          refine thenN ?_
          refine run0 [] [0, 1, 5] [] (zipE [0, 1, 5] [.sl false (a0.map AV.i), .sl false (a1.map AV.i), .i (wr (l1_5 + 1))]) ⟨[], 0⟩ _ (by kernel_rfl) cj0 ?_
          replace hl1 := Option.some.inj hl1; subst hl1
          exact ⟨_, rfl, pi [], mkInto (ks := [0, 1, 5]) (ys := [.sl false (a0.map AV.i), .sl false (a1.map AV.i), .i (wr (l1_5 + 1))]) (by kernel_rfl) (by kernel_rfl) (.k (.c (cleanMap _ _ cl_i)) (.k (.c (cleanMap _ _ cl_i)) (.k (.c rfl) .z))) .z⟩
      · refine run_cF 14 (c18 19) (c18 20) (decide (l1_5 < (a0.length : Int))) hc2 (by kernel_rfl) (by kernel_rfl) ?_
        replace hl1 := Option.some.inj hl1; subst hl1
        have hr := rl1 _ rfl
        subst hr
        refine awp_p [] [] (zipE [] []) ⟨[], 0⟩ (by kernel_rfl) (?_)
        refine run_e 0 (by kernel_rfl) ?_
        refine thenE ?_
        refine ⟨⟨_, rfl⟩, ?_⟩
        refine inbE ?_
        exact kl1 () rfl
    · rintro ⟨⟩ rfl
      replace h := elimL h
      refine thenN ?_
      refine run1 (c18 33) [] [4] [] (zipE [4] [.bool true]) ⟨[], 0⟩ _ (by kernel_rfl) cj0 ?_
      refine run_t (by kernel_rfl) ?_
      replace h := Option.some.inj h; subst h
      exact fin_r (by kernel_rfl) rfl

/-- the example: carried out by the kernel (Wk) -/
def f13 : Option Bool := some true
theorem f13_ok (r : Bool) (h : f13 = some r) : APure Tryz.prog 13 [] (.bool r) := by cases h; exact works_ok

/-- theorbo.theorbolaw08.IntabulateTables -/
def f6 (a0 : List GTone) (a1 : List GFigure) (a2 : Int) : Option Bool := (f25 a1).bind fun r1 => (f26 a1).bind fun r2 => bif (decide (r1 ≠ r2)) then (some false) else ((f27 a0 a1 a2).bind fun r4 => (f28 a0 a1 a2).bind fun r5 => ((bif (decide (r4.2 = r5.2)) then ((f18 r4.1 r5.1).bind fun r7 => bif r7 then ((f13).bind fun r9 => some r9) else (some false)) else (some false)) : Option Bool).bind fun (j1_6 : Bool) => some j1_6)
theorem f6_ok (a0 : List GTone) (a1 : List GFigure) (a2 : Int) (r : Bool) (h : f6 a0 a1 a2 = some r) : APure Tryz.prog 6 [.sl false (a0.map E_GTone), .sl false (a1.map E_GFigure), .i a2] (.bool r) := by
  refine apure (clK (cleanMap a0 _ cl_GTone) (clK (cleanMap a1 _ cl_GFigure) (clK rfl clZ))) rfl ?_
  refine run_f 41 [.tmp 6] (c6 0) (zipE [0, 1, 2] [.sl false (a0.map E_GTone), .sl false (a1.map E_GFigure), .i a2]) (by kernel_rfl) (by kernel_rfl) (by kernel_rfl) rfl ?_
  unfold f6 at h
  refine run1 (c6 2) [] [0, 1, 2] [] (zipE [0, 1, 2] [.sl false (a0.map E_GTone), .sl false (a1.map E_GFigure), .i a2]) ⟨[], 0⟩ _ (by kernel_rfl) cj0 ?_
  refine run_s (c6 3) (c6 10) (by kernel_rfl) ?_
  obtain ⟨r1, hr1, h⟩ := bindE h
  obtain ⟨r2, hr2, h⟩ := bindE h
  refine run1 (c6 5) [{}, { c := some (.i r1, ⟨[], 0⟩) }, {}, { c := some (.i r2, ⟨[], 0⟩) }] [0, 1, 2, 15] [] (zipE [0, 1, 2, 15] [.sl false (a0.map E_GTone), .sl false (a1.map E_GFigure), .i a2, .bool (decide (r1 ≠ r2))]) ⟨[], 0⟩ _ (by kernel_rfl) (cjC (f25_ok a1 _ hr1 ⟨[], 0⟩) (cj1 (f26_ok a1 _ hr2 ⟨[], 0⟩))) ?_
  rcases iteE h with ⟨hc3, h⟩ | ⟨hc3, h⟩
  · refine run_cT 15 (c6 6) (c6 9) (decide (r1 ≠ r2)) hc3 (by kernel_rfl) (by kernel_rfl) ?_
    refine run1 (c6 8) [] [6] [] (zipE [6] [.bool false]) ⟨[], 0⟩ _ (by kernel_rfl) cj0 ?_
    refine run_t (by kernel_rfl) ?_
    refine thenR ?_
    replace h := Option.some.inj h; subst h
    exact fin_r (by kernel_rfl) rfl
  · refine run_cF 15 (c6 6) (c6 9) (decide (r1 ≠ r2)) hc3 (by kernel_rfl) (by kernel_rfl) ?_
    refine run_k (by kernel_rfl) ?_
    refine thenN ?_
    obtain ⟨r4, hr4, h⟩ := bindE h
    refine run1 (c6 12) [{}, {}, {}, { c := some (.tup [.sl false (r4.1.map AV.i), .i r4.2], ⟨[], 0⟩) }] [0, 1, 2, 7, 8] [] (zipE [0, 1, 2, 7, 8] [.sl false (a0.map E_GTone), .sl false (a1.map E_GFigure), .i a2, .sl false (r4.1.map AV.i), .i r4.2]) ⟨[], 0⟩ _ (by kernel_rfl) (cj1 (f27_ok a0 a1 a2 _ hr4 ⟨[], 0⟩)) ?_
    obtain ⟨r5, hr5, h⟩ := bindE h
    refine run1 (c6 14) [{}, {}, {}, { c := some (.tup [.sl false (r5.1.map AV.i), .i r5.2], ⟨[], 0⟩) }] [7, 8, 9, 10] [] (zipE [7, 8, 9, 10] [.sl false (r4.1.map AV.i), .i r4.2, .sl false (r5.1.map AV.i), .i r5.2]) ⟨[], 0⟩ _ (by kernel_rfl) (cj1 (f28_ok a0 a1 a2 _ hr5 ⟨[], 0⟩)) ?_
    obtain ⟨j1_6, hj1, h⟩ := bindE h
    refine run_gq (c6 16) (fun (j1_6 : Bool) => (zipE [6] [.bool j1_6])) (fun (j1_6 : Bool) => ⟨[], 0⟩) (fun j => j1_6 = j) (fun kj1 => ?_) ?_
    · rcases iteE hj1 with ⟨hc6, hj1⟩ | ⟨hc6, hj1⟩
      · obtain ⟨r7, hr7, hj1⟩ := bindE hj1
        rcases iteE hj1 with ⟨hc8, hj1⟩ | ⟨hc8, hj1⟩
        · obtain ⟨r9, hr9, hj1⟩ := bindE hj1
          replace hj1 := Option.some.inj hj1; subst hj1
          exact run1 (c6 16) [{}, {}, {}, {}, {}, {}, { c := some (.bool r7, ⟨[], 0⟩) }, { k := 1, b := true }, {}, { c := some (.bool r9, ⟨[], 0⟩) }, { k := 1, b := true }] [6] [] (zipE [6] [.bool r9]) ⟨[], 0⟩ _ (by kernel_rfl) (cjC (hc6) (cjC (hc6) (cjC (hc6) (cjC (f18_ok r4.1 r5.1 _ hr7 ⟨[], 0⟩) (cjC (hc6) (cjC (hc8) (cjC (f13_ok  _ hr9 ⟨[], 0⟩) (cj1 (hc8))))))))) (kj1 r9 rfl)
        · replace hj1 := Option.some.inj hj1; subst hj1
          exact run1 (c6 16) [{}, {}, {}, {}, {}, {}, { c := some (.bool r7, ⟨[], 0⟩) }, { k := 1, b := true }, {}, { g := false }, { k := 1, b := false }] [6] [] (zipE [6] [.bool false]) ⟨[], 0⟩ _ (by kernel_rfl) (cjC (hc6) (cjC (hc6) (cjC (hc6) (cjC (f18_ok r4.1 r5.1 _ hr7 ⟨[], 0⟩) (cjC (hc6) (cjC (hc8) (cj1 (hc8)))))))) (kj1 false rfl)
      · replace hj1 := Option.some.inj hj1; subst hj1
        exact run1 (c6 16) [{}, {}, {}, {}, { g := false }, { g := false }, { g := false }, { k := 1, b := false }, {}, { g := false }] [6] [] (zipE [6] [.bool false]) ⟨[], 0⟩ _ (by kernel_rfl) (cjC (hc6) (cjC (hc6) (cjC (hc6) (cjC (hc6) (cj1 (Eq.refl false)))))) (kj1 false rfl)
    · rintro _ rfl
      refine run_t (by kernel_rfl) ?_
      replace h := Option.some.inj h; subst h
      exact fin_r (by kernel_rfl) rfl

end Go.Proofs.YtplpfocfcppajaaGreat
