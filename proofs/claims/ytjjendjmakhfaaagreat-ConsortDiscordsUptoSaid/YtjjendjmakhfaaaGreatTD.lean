/-
 Functions of the program as Lean functions,and the walks. Written by a program of ours.
-/
import Derived.Test.YtjjendjmakhfaaaGreatAmZ
import Derived.Test.YtjjendjmakhfaaaGreatChecked
import Derived.Test.YtjjendjmakhfaaaGreatWk
import Derived.Test.YtjjendjmakhfaaaGreatMc
import Derived.Test.YtjjendjmakhfaaaGreatLsf
namespace Go.Proofs.YtjjendjmakhfaaaGreat
open Go Go.Am
set_option maxRecDepth 100000
set_option linter.all false
noncomputable section
structure GCourse where
 pitch : Int
 frets : Int
 octave : Bool
 deriving DecidableEq
def E_GCourse (x : GCourse) : AV := .agg [.i x.pitch,.i x.frets,.bool x.octave]
theorem cl_GCourse (x : GCourse) : (E_GCourse x).clean = true := (clK rfl (clK rfl (clK rfl clZ)))
structure GInstrument where
 courses : (List GCourse)
 steps : (List Int)
 deriving DecidableEq
def E_GInstrument (x : GInstrument) : AV := .agg [.sl false (x.courses.map E_GCourse),.sl false (x.steps.map AV.i)]
theorem cl_GInstrument (x : GInstrument) : (E_GInstrument x).clean = true := (clK (cleanMap _ _ cl_GCourse) (clK (cleanMap _ _ cl_i) clZ))
structure GSign where
 value : Int
 dot : Bool
 three : Bool
 deriving DecidableEq
def E_GSign (x : GSign) : AV := .agg [.i x.value,.bool x.dot,.bool x.three]
theorem cl_GSign (x : GSign) : (E_GSign x).clean = true := (clK rfl (clK rfl (clK rfl clZ)))
def eq_GSign (x y : GSign) : Bool := ((decide (x.value = y.value)) && ((x.dot == y.dot) && ((x.three == y.three) && true)))
structure GStop where
 course : Int
 fret : Int
 right : Int
 grace : Int
 hold : Int
 deriving DecidableEq
def E_GStop (x : GStop) : AV := .agg [.i x.course,.i x.fret,.i x.right,.i x.grace,.i x.hold]
theorem cl_GStop (x : GStop) : (E_GStop x).clean = true := (clK rfl (clK rfl (clK rfl (clK rfl (clK rfl clZ)))))
structure GEvent where
 bar : Bool
 sign : GSign
 tie : Bool
 stops : (List GStop)
 deriving DecidableEq
def E_GEvent (x : GEvent) : AV := .agg [.bool x.bar,.i x.sign.value,.bool x.sign.dot,.bool x.sign.three,.bool x.tie,.sl false (x.stops.map E_GStop)]
theorem cl_GEvent (x : GEvent) : (E_GEvent x).clean = true := (clK rfl (clK rfl (clK rfl (clK rfl (clK rfl (clK (cleanMap _ _ cl_GStop) clZ))))))
structure GPiece where
 instrument : GInstrument
 events : (List GEvent)
 deriving DecidableEq
def E_GPiece (x : GPiece) : AV := .agg [.sl false (x.instrument.courses.map E_GCourse),.sl false (x.instrument.steps.map AV.i),.sl false (x.events.map E_GEvent)]
theorem cl_GPiece (x : GPiece) : (E_GPiece x).clean = true := (clK (cleanMap _ _ cl_GCourse) (clK (cleanMap _ _ cl_i) (clK (cleanMap _ _ cl_GEvent) clZ)))
structure GConsort where
 pieces : (List GPiece)
 deriving DecidableEq
def E_GConsort (x : GConsort) : AV := .agg [.sl false (x.pieces.map E_GPiece)]
theorem cl_GConsort (x : GConsort) : (E_GConsort x).clean = true := (clK (cleanMap _ _ cl_GPiece) clZ)
structure GTone where
 pitch : Int
 from_ : Int
 to_ : Int
 deriving DecidableEq
def E_GTone (x : GTone) : AV := .agg [.i x.pitch,.i x.from_,.i x.to_]
theorem cl_GTone (x : GTone) : (E_GTone x).clean = true := (clK rfl (clK rfl (clK rfl clZ)))
theorem sz_GTone (x : GTone) : (E_GTone x).cells.length = 3 := rfl
structure GSSounding where
 p : GPiece
 onsets : (List Int)
 deriving DecidableEq
def E_GSSounding (x : GSSounding) : AV := .agg [.sl false (x.p.instrument.courses.map E_GCourse),.sl false (x.p.instrument.steps.map AV.i),.sl false (x.p.events.map E_GEvent),.sl false (x.onsets.map AV.i)]
theorem cl_GSSounding (x : GSSounding) : (E_GSSounding x).clean = true := (clK (cleanMap _ _ cl_GCourse) (clK (cleanMap _ _ cl_i) (clK (cleanMap _ _ cl_GEvent) (clK (cleanMap _ _ cl_i) clZ))))
structure GNote where
 event : Int
 course : Int
 pitch : Int
 from_ : Int
 to_ : Int
 deriving DecidableEq
def E_GNote (x : GNote) : AV := .agg [.i x.event,.i x.course,.i x.pitch,.i x.from_,.i x.to_]
theorem cl_GNote (x : GNote) : (E_GNote x).clean = true := (clK rfl (clK rfl (clK rfl (clK rfl (clK rfl clZ)))))
structure GSPress where
 event : Int
 course : Int
 fret : Int
 from_ : Int
 to_ : Int
 deriving DecidableEq
def E_GSPress (x : GSPress) : AV := .agg [.i x.event,.i x.course,.i x.fret,.i x.from_,.i x.to_]
theorem cl_GSPress (x : GSPress) : (E_GSPress x).clean = true := (clK rfl (clK rfl (clK rfl (clK rfl (clK rfl clZ)))))
structure GPlace where
 course : Int
 fret : Int
 deriving DecidableEq
def E_GPlace (x : GPlace) : AV := .agg [.i x.course,.i x.fret]
theorem cl_GPlace (x : GPlace) : (E_GPlace x).clean = true := (clK rfl (clK rfl clZ))
def TS : Nat → Type
 | 0 => GCourse
 | 1 => Int
 | 2 => GStop
 | 3 => GEvent
 | 4 => GPiece
 | 5 => GConsort
 | 6 => GInstrument
 | 7 => GSign
 | 8 => GSSounding
 | 9 => GNote
 | 10 => GPlace
 | 11 => GSPress
 | 12 => GTone
 | _ + 13 => Unit
def TE : (c : Nat) → TS c → AV
 | 0,x => E_GCourse x
 | 1,x => AV.i x
 | 2,x => E_GStop x
 | 3,x => E_GEvent x
 | 4,x => E_GPiece x
 | 5,x => E_GConsort x
 | 6,x => E_GInstrument x
 | 7,x => E_GSign x
 | 8,x => E_GSSounding x
 | 9,x => E_GNote x
 | 10,x => E_GPlace x
 | 11,x => E_GSPress x
 | 12,x => E_GTone x
 | _ + 13,_ => .nilp
def TX : (c : Nat) → TS c → TV TS
 | 0,(x : GCourse) => .agg [.n x.pitch,.n x.frets,.b x.octave]
 | 1,(x : Int) => .n x
 | 2,(x : GStop) => .agg [.n x.course,.n x.fret,.n x.right,.n x.grace,.n x.hold]
 | 3,(x : GEvent) => .agg [.b x.bar,.n x.sign.value,.b x.sign.dot,.b x.sign.three,.b x.tie,.l false 2 x.stops]
 | 4,(x : GPiece) => .agg [.l false 0 x.instrument.courses,.l false 1 x.instrument.steps,.l false 3 x.events]
 | 5,(x : GConsort) => .agg [.l false 4 x.pieces]
 | 6,(x : GInstrument) => .agg [.l false 0 x.courses,.l false 1 x.steps]
 | 7,(x : GSign) => .agg [.n x.value,.b x.dot,.b x.three]
 | 8,(x : GSSounding) => .agg [.l false 0 x.p.instrument.courses,.l false 1 x.p.instrument.steps,.l false 3 x.p.events,.l false 1 x.onsets]
 | 9,(x : GNote) => .agg [.n x.event,.n x.course,.n x.pitch,.n x.from_,.n x.to_]
 | 10,(x : GPlace) => .agg [.n x.course,.n x.fret]
 | 11,(x : GSPress) => .agg [.n x.event,.n x.course,.n x.fret,.n x.from_,.n x.to_]
 | 12,(x : GTone) => .agg [.n x.pitch,.n x.from_,.n x.to_]
 | _ + 13,_ => .a .nilp
def gI : TV TS → Option Int
 | .i _ n => some n
 | .a (.int _ n) => some n
 | .v d x => match TX d x with
  | .i _ n => some n
  | _ => none
 | _ => none
def gB : TV TS → Option Bool
 | .b t => some t
 | .a (.bool t) => some t
 | .v d x => match TX d x with
  | .b t => some t
  | _ => none
 | _ => none
def gV (d c : Nat) (x : TS d) : Option (TS c) := if h : d = c then some (h ▸ x) else none
def gLx (d c : Nat) (x : List (TS d)) : Option (List (TS c)) := if h : d = c then some (h ▸ x) else none
def gL (c : Nat) : TV TS → Option (List (TS c))
 | .l _ d x => gLx d c x
 | .a (.sl _ []) => some []
 | .v d x => match TX d x with
  | .l _ d x => gLx d c x
  | _ => none
 | _ => none
def TD : (c : Nat) → TV TS → Option (TS c)
 | 0,.v d x => gV d 0 x
 | 0,.agg [x0,x1,x2] => (gI x0).bind fun x0 => (gI x1).bind fun x1 => (gB x2).bind fun x2 => some ⟨x0,x1,x2⟩
 | 1,x => gI x
 | 2,.v d x => gV d 2 x
 | 2,.agg [x0,x1,x2,x3,x4] => (gI x0).bind fun x0 => (gI x1).bind fun x1 => (gI x2).bind fun x2 => (gI x3).bind fun x3 => (gI x4).bind fun x4 => some ⟨x0,x1,x2,x3,x4⟩
 | 3,.v d x => gV d 3 x
 | 3,.agg [x0,x1,x2,x3,x4,x5] => (gB x0).bind fun x0 => (gI x1).bind fun x1 => (gB x2).bind fun x2 => (gB x3).bind fun x3 => (gB x4).bind fun x4 => (gL 2 x5).bind fun x5 => some ⟨x0,⟨x1,x2,x3⟩,x4,x5⟩
 | 4,.v d x => gV d 4 x
 | 4,.agg [x0,x1,x2] => (gL 0 x0).bind fun x0 => (gL 1 x1).bind fun x1 => (gL 3 x2).bind fun x2 => some ⟨⟨x0,x1⟩,x2⟩
 | 5,.v d x => gV d 5 x
 | 5,.agg [x0] => (gL 4 x0).bind fun x0 => some ⟨x0⟩
 | 6,.v d x => gV d 6 x
 | 6,.agg [x0,x1] => (gL 0 x0).bind fun x0 => (gL 1 x1).bind fun x1 => some ⟨x0,x1⟩
 | 7,.v d x => gV d 7 x
 | 7,.agg [x0,x1,x2] => (gI x0).bind fun x0 => (gB x1).bind fun x1 => (gB x2).bind fun x2 => some ⟨x0,x1,x2⟩
 | 8,.v d x => gV d 8 x
 | 8,.agg [x0,x1,x2,x3] => (gL 0 x0).bind fun x0 => (gL 1 x1).bind fun x1 => (gL 3 x2).bind fun x2 => (gL 1 x3).bind fun x3 => some ⟨⟨⟨x0,x1⟩,x2⟩,x3⟩
 | 9,.v d x => gV d 9 x
 | 9,.agg [x0,x1,x2,x3,x4] => (gI x0).bind fun x0 => (gI x1).bind fun x1 => (gI x2).bind fun x2 => (gI x3).bind fun x3 => (gI x4).bind fun x4 => some ⟨x0,x1,x2,x3,x4⟩
 | 10,.v d x => gV d 10 x
 | 10,.agg [x0,x1] => (gI x0).bind fun x0 => (gI x1).bind fun x1 => some ⟨x0,x1⟩
 | 11,.v d x => gV d 11 x
 | 11,.agg [x0,x1,x2,x3,x4] => (gI x0).bind fun x0 => (gI x1).bind fun x1 => (gI x2).bind fun x2 => (gI x3).bind fun x3 => (gI x4).bind fun x4 => some ⟨x0,x1,x2,x3,x4⟩
 | 12,.v d x => gV d 12 x
 | 12,.agg [x0,x1,x2] => (gI x0).bind fun x0 => (gI x1).bind fun x1 => (gI x2).bind fun x2 => some ⟨x0,x1,x2⟩
 | _,_ => none
def TTc : TypeId → Option Nat
 | 2 => some 1
 | 3 => some 1
 | 24 => some 5
 | 29 => some 1
 | 61 => some 6
 | 64 => some 4
 | 74 => some 9
 | 116 => some 12
 | 122 => some 7
 | 124 => some 2
 | 127 => some 3
 | 133 => some 8
 | 145 => some 10
 | 169 => some 11
 | 174 => some 0
 | 199 => some 1
 | _ => none
def TWd : Nat → Nat
 | 0 => 3
 | 1 => 1
 | 2 => 5
 | 3 => 6
 | 4 => 3
 | 5 => 1
 | 6 => 2
 | 7 => 3
 | 8 => 4
 | 9 => 5
 | 10 => 2
 | 11 => 5
 | 12 => 3
 | _ + 13 => 1
theorem TT_X : ∀ (c : Nat) (x : TS c),(TX c x).er TE = TE c x := fun c x => match c,x with | 0,_ => rfl | 1,_ => rfl | 2,_ => rfl | 3,_ => rfl | 4,_ => rfl | 5,_ => rfl | 6,_ => rfl | 7,_ => rfl | 8,_ => rfl | 9,_ => rfl | 10,_ => rfl | 11,_ => rfl | 12,_ => rfl | _ + 13,_ => rfl
theorem TT_v : ∀ (c : Nat) (x : TS c),(TX c x).isV = false := fun c x => match c,x with | 0,_ => rfl | 1,_ => rfl | 2,_ => rfl | 3,_ => rfl | 4,_ => rfl | 5,_ => rfl | 6,_ => rfl | 7,_ => rfl | 8,_ => rfl | 9,_ => rfl | 10,_ => rfl | 11,_ => rfl | 12,_ => rfl | _ + 13,_ => rfl
theorem TT_c : ∀ (c : Nat) (x : TS c),(TE c x).clean = true := fun c x => match c,x with | 0,x => cl_GCourse x | 1,x => cl_i x | 2,x => cl_GStop x | 3,x => cl_GEvent x | 4,x => cl_GPiece x | 5,x => cl_GConsort x | 6,x => cl_GInstrument x | 7,x => cl_GSign x | 8,x => cl_GSSounding x | 9,x => cl_GNote x | 10,x => cl_GPlace x | 11,x => cl_GSPress x | 12,x => cl_GTone x | _ + 13,_ => rfl
theorem TT_w : ∀ (c : Nat) (x : TS c),(TE c x).cells.length = TWd c := fun c x => match c,x with | 0,_ => rfl | 1,_ => rfl | 2,_ => rfl | 3,_ => rfl | 4,_ => rfl | 5,_ => rfl | 6,_ => rfl | 7,_ => rfl | 8,_ => rfl | 9,_ => rfl | 10,_ => rfl | 11,_ => rfl | 12,_ => rfl | _ + 13,_ => rfl
def TT : Tab := ⟨TS,TE,TX,TD,TTc,TT_X,TT_v,TT_c,TWd,TT_w⟩
noncomputable def c60 (k : Nat) : Code := nthC (subs (Tryz.f60.body.getD .skip)) k
noncomputable def c69 (k : Nat) : Code := nthC (subs (Tryz.f69.body.getD .skip)) k
noncomputable def c70 (k : Nat) : Code := nthC (subs (Tryz.f70.body.getD .skip)) k
noncomputable def c74 (k : Nat) : Code := nthC (subs (Tryz.f74.body.getD .skip)) k
noncomputable def c89 (k : Nat) : Code := nthC (subs (Tryz.f89.body.getD .skip)) k
noncomputable def c104 (k : Nat) : Code := nthC (subs (Tryz.f104.body.getD .skip)) k
noncomputable def c106 (k : Nat) : Code := nthC (subs (Tryz.f106.body.getD .skip)) k
noncomputable def c159 (k : Nat) : Code := nthC (subs (Tryz.f159.body.getD .skip)) k
def f5 (a0 : List GPiece) : Option Bool := (loopN (σ := Int) (τ := (Unit ⊕ Bool)) (fun (l1_3 : Int) => bif (decide (l1_3 < (a0.length : Int))) then ((((ix a0 l1_3).bind fun y2 => bif (decide (60 < (y2.events.length : Int))) then (some (decide ((y2.events.length : Int) ≤ 400))) else (some false)) : Option Bool).bind fun (j2_25 : Bool) => bif j2_25 then (some (.inr (.inr true))) else (some (.inl (wr (l1_3 + 1))))) else (some (.inr (.inl ())))) FUEL 0).bind (Sum.elim (fun (_ : Unit) => some (decide (8 < (a0.length : Int)))) some)
theorem f5_t (a0 : List GPiece) (r : Bool) (h : f5 a0 = some r) : TPure TT Tryz.prog 5 [.l false 4 a0] (fun r=>.b r) r := tf <|tJe h false 1 [0] [] 0 (fun _=>([],[])) (fun o1 G1 k1 H1=>tL G1 [0] [] 0 (fun l1_3=>([(3,.n l1_3)],[])) fun l1_3 o g1 e1 K1=>tIf g1 (fun c1 g1=>tJ g1 true 0 [0,3] [] 0 (fun j2_25=>([(25,.b j2_25)],[])) (fun o2 g2 k2=>tIx 4 g2 fun y2 u2 g2=>tIf g2 (fun c3 g2=>tIk 4 u2 <|tM (k2 _ (sj g2))) fun c3 g2=>tM (k2 _ (sj g2))) fun j2_25 g1=>tIf g1 (fun c4 g1=>tO g1 <|tRet (oE g1 e1 H1)) fun c4 g1=>tN K1 g1) fun c1 g1=>tO g1 <|tM (k1 _ (oJ g1 e1))) fun _ h=>tRet h
def f6 : Option Bool := some true
theorem f6_t (r : Bool) (h : f6 = some r) : TPure TT Tryz.prog 6 [] (fun r=>.b r) r := by cases h; exact works_ok
def f161 (a0 : GInstrument) (a1 : GCourse) : Option Int := ((bif (decide (0 < a1.frets)) then ((ix a0.steps (wr (a1.frets - 1))).bind fun y2 => some (wr (a1.pitch + y2))) else (some a1.pitch)) : Option Int).bind fun (j1_5 : Int) => ((bif a1.octave then (some (wr (j1_5 + 12))) else (some j1_5)) : Option Int).bind fun (j2_5 : Int) => some j2_5
theorem f161_t (a0 : GInstrument) (a1 : GCourse) (r : Int) (h : f161 a0 a1 = some r) : TPure TT Tryz.prog 161 [.v 6 a0,.v 0 a1] (fun r=>.n r) r := tf <|tJ h false 0 [3] [1] 2 (fun j1_5=>([(5,.n j1_5)],[])) (fun o1 g1 k1=>tIf g1 (fun c1 g1=>tIx 1 g1 fun y2 u2 g1=>tM (k1 _ (sj g1))) fun c1 g1=>tM (k1 _ (sj g1))) fun j1_5 h=>tJ h false 0 [] [] 2 (fun j2_5=>([(5,.n j2_5)],[])) (fun o2 g2 k2=>tIf g2 (fun c3 g2=>tM (k2 _ (sj g2))) fun c3 g2=>tM (k2 _ (sj g2))) fun j2_5 h=>tRet h
def f128 (a0 : GInstrument) : Option Int := ((bif (decide (14 < (a0.courses.length : Int))) then (some true) else (some (decide (18 < (a0.steps.length : Int))))) : Option Bool).bind fun (j1_17 : Bool) => bif j1_17 then (some 2) else (bif (decide ((a0.courses.length : Int) = 0)) then (some 11) else ((loopN (σ := (Int × Int)) (τ := (Unit ⊕ Int)) (fun ((l2_3,l2_25) : (Int × Int)) => bif (decide (l2_25 < (a0.steps.length : Int))) then ((ix a0.steps l2_25).bind fun y5 => ((bif (decide (y5 ≤ l2_3)) then (some true) else (some (decide (127 < y5)))) : Option Bool).bind fun (j3_35 : Bool) => bif j3_35 then (some (.inr (.inr 11))) else (some (.inl (y5,(wr (l2_25 + 1)))))) else (some (.inr (.inl ())))) FUEL (0,0)).bind (Sum.elim (fun (_ : Unit) => (loopN (σ := Int) (τ := (Unit ⊕ Int)) (fun (l4_41 : Int) => bif (decide (l4_41 < (a0.courses.length : Int))) then ((ix a0.courses l4_41).bind fun y9 => ((bif (decide (y9.frets < 0)) then (some true) else (some (decide ((a0.steps.length : Int) < y9.frets)))) : Option Bool).bind fun (j5_55 : Bool) => bif j5_55 then (some (.inr (.inr 13))) else (((bif (decide (y9.pitch < 0)) then (some true) else (bif (decide (127 < y9.pitch)) then (some true) else ((f161 a0 y9).bind fun r14 => some (decide (127 < r14))))) : Option Bool).bind fun (j6_69 : Bool) => bif j6_69 then (some (.inr (.inr 10))) else (some (.inl (wr (l4_41 + 1)))))) else (some (.inr (.inl ())))) FUEL 0).bind (Sum.elim (fun (_ : Unit) => some 0) some)) some)))
theorem f128_t (a0 : GInstrument) (r : Int) (h : f128 a0 = some r) : TPure TT Tryz.prog 128 [.v 6 a0] (fun r=>.n r) r := tf <|tJ h true 0 [1] [0] 1 (fun j1_17=>([(17,.b j1_17)],[])) (fun o1 g1 k1=>tIf g1 (fun c1 g1=>tM (k1 _ (sj g1))) fun c1 g1=>tM (k1 _ (sj g1))) fun j1_17 h=>tIf h (fun c2 h=>tRet h) fun c2 h=>tIf h (fun c3 h=>tRet h) fun c3 h=>tJe h false 1 [1] [0] 1 (fun _=>([],[])) (fun o2 G2 k2 H2=>tL G2 [1,23,24] [0] 1 (fun (l2_3,l2_25)=>([(3,.n l2_3),(25,.n l2_25)],[])) fun (l2_3,l2_25) o g2 e2 K2=>tIf g2 (fun c4 g2=>tIx 1 g2 fun y5 u5 g2=>tJ g2 true 0 [1,5,23,24,25] [0] 1 (fun j3_35=>([(35,.b j3_35)],[])) (fun o3 g3 k3=>tIf g3 (fun c6 g3=>tM (k3 _ (sj g3))) fun c6 g3=>tM (k3 _ (sj g3))) fun j3_35 g2=>tIf g2 (fun c7 g2=>tO g2 <|tRet (oE g2 e2 H2)) fun c7 g2=>tN K2 g2) fun c4 g2=>tO g2 <|tM (k2 _ (oJ g2 e2))) fun _ h=>tJe h false 1 [] [] 1 (fun _=>([],[])) (fun o4 G4 k4 H4=>tL G4 [1,39,40] [0] 1 (fun l4_41=>([(41,.n l4_41)],[])) fun l4_41 o g4 e4 K4=>tIf g4 (fun c8 g4=>tIx 0 g4 fun y9 u9 g4=>tJ g4 true 0 [1,7,39,40,41] [1,0] 2 (fun j5_55=>([(55,.b j5_55)],[])) (fun o5 g5 k5=>tIf g5 (fun c10 g5=>tM (k5 _ (sj g5))) fun c10 g5=>tM (k5 _ (sj g5))) fun j5_55 g4=>tIf g4 (fun c11 g4=>tO g4 <|tRet (oE g4 e4 H4)) fun c11 g4=>tJ g4 true 0 [1,39,40,41] [0] 2 (fun j6_69=>([(69,.b j6_69)],[])) (fun o6 g6 k6=>tIf g6 (fun c12 g6=>tM (k6 _ (sj g6))) fun c12 g6=>tIf g6 (fun c13 g6=>tM (k6 _ (sj g6))) fun c13 g6=>tCall g6 (f161_t a0 y9) fun r14 q14 g6=>tM (k6 _ (sj g6))) fun j6_69 g4=>tIf g4 (fun c15 g4=>tO g4 <|tRet (oE g4 e4 H4)) fun c15 g4=>tN K4 g4) fun c8 g4=>tO g4 <|tM (k4 _ (oJ g4 e4))) fun _ h=>tRet h
def f160 (a0 : GSign) : Option Int := ((bif (decide (a0.value < 1)) then (some true) else (bif (decide (7 < a0.value)) then (some true) else (bif a0.dot then (some a0.three) else (some false)))) : Option Bool).bind fun (j1_19 : Bool) => bif j1_19 then (some 0) else (need (0 ≤ (wr (a0.value - 1))) <| bif a0.dot then (some (wr ((wr (Int.tdiv (shrI 384 (wr (a0.value - 1))) 2)) * 3))) else (bif a0.three then (some (wr ((wr (Int.tdiv (shrI 384 (wr (a0.value - 1))) 3)) * 2))) else (some (shrI 384 (wr (a0.value - 1))))))
theorem f160_t (a0 : GSign) (r : Int) (h : f160 a0 = some r) : TPure TT Tryz.prog 160 [.v 7 a0] (fun r=>.n r) r := tf <|tJ h true 0 [1] [0] 1 (fun j1_19=>([(19,.b j1_19)],[])) (fun o1 g1 k1=>tIf g1 (fun c1 g1=>tM (k1 _ (sj g1))) fun c1 g1=>tIf g1 (fun c2 g1=>tM (k1 _ (sj g1))) fun c2 g1=>tIf g1 (fun c3 g1=>tM (k1 _ (sj g1))) fun c3 g1=>tM (k1 _ (sj g1))) fun j1_19 h=>tIf h (fun c4 h=>tRet h) fun c4 h=>tNd h fun n5 h=>tIf h (fun c6 h=>tRet h) fun c6 h=>tIf h (fun c7 h=>tRet h) fun c7 h=>tRet h
theorem f160_ok (a0 : GSign) (r : Int) (h : f160 a0 = some r) : APure Tryz.prog 160 [.agg [.i a0.value,.bool a0.dot,.bool a0.three]] (.i r) := f160_t a0 r h
def f157 (a0 : GSign) : Option Bool := ((bif (eq_GSign a0 (⟨0,false,false⟩ : GSign)) then (some true) else ((f160 a0).bind fun r2 => some (decide (0 < r2)))) : Option Bool).bind fun (j1_2 : Bool) => some j1_2
theorem f157_t (a0 : GSign) (r : Bool) (h : f157 a0 = some r) : TPure TT Tryz.prog 157 [.v 7 a0] (fun r=>.b r) r := tf <|tJ h true 0 [] [] 1 (fun j1_2=>([(2,.b j1_2)],[])) (fun o1 g1 k1=>tIf g1 (fun c1 g1=>tM (k1 _ (sj g1))) fun c1 g1=>tCall g1 (f160_t a0) fun r2 q2 g1=>tM (k1 _ (sj g1))) fun j1_2 h=>tRet h
def f179 (a0 : GEvent) : Option Bool := ((bif (decide ((a0.stops.length : Int) = 0)) then (some (!a0.tie)) else (some false)) : Option Bool).bind fun (j1_2 : Bool) => some j1_2
theorem f179_t (a0 : GEvent) (r : Bool) (h : f179 a0 = some r) : TPure TT Tryz.prog 179 [.v 3 a0] (fun r=>.b r) r := tf <|tJ h true 0 [] [] 1 (fun j1_2=>([(2,.b j1_2)],[])) (fun o1 g1 k1=>tIf g1 (fun c1 g1=>tM (k1 _ (sj g1))) fun c1 g1=>tM (k1 _ (sj g1))) fun j1_2 h=>tRet h
def f182 (a0 : GStop) (a1 : Int) : Option Bool := some (decide (a0.course = a1))
theorem f182_t (a0 : GStop) (a1 : Int) (r : Bool) (h : f182 a0 a1 = some r) : TCall TT Tryz.prog 182 [.v 2 a0,.a (.mp 0 0 0)] ⟨[(0,.els 1 [.n a1])],1⟩ (fun r=>.b r) (fun r=>⟨[(0,.els 1 [.n a1])],2⟩) r := tfH <|tRetH false h
def f183 (a0 : List GStop) (a1_0 : Int) : Option Int := (loopN (σ := Int) (τ := (Unit ⊕ Int)) (fun (l1_8 : Int) => bif (decide (l1_8 < (a0.length : Int))) then ((ix a0 l1_8).bind fun y2 => (f182 y2 a1_0).bind fun r3 => bif r3 then (some (.inr (.inr l1_8))) else (some (.inl (wr (l1_8 + 1))))) else (some (.inr (.inl ())))) FUEL 0).bind (Sum.elim (fun (_ : Unit) => some (-1)) some)
theorem f183_t (a0 : List GStop) (a1_0 : Int) (r : Int) (h : f183 a0 a1_0 = some r) : TCall TT Tryz.prog 183 [.l false 2 a0,.fn 182 [.a (.mp 0 0 0)]] ⟨[(0,.els 1 [.n a1_0])],1⟩ (fun r=>.n r) (fun r=>⟨[(0,.els 1 [.n a1_0])],2⟩) r := tfH <|tJe h false 1 [] [0] 1 (fun _=>([],[])) (fun o1 G1 k1 H1=>tL G1 [0,1,7] [0] 1 (fun l1_8=>([(8,.n l1_8)],[])) fun l1_8 o g1 e1 K1=>tIf g1 (fun c1 g1=>tIx 2 g1 fun y2 u2 g1=>tCallH g1 (f182_t y2 a1_0) fun r3 q3 g1=>tIf g1 (fun c4 g1=>tO g1 <|tRetH false (oE g1 e1 H1)) fun c4 g1=>tN K1 g1) fun c1 g1=>tO g1 <|tM (k1 _ (oJ g1 e1))) fun _ h=>tRetH false h
def f181 (a0 : List GStop) (a1_0 : Int) : Option Bool := (f183 a0 a1_0).bind fun r1 => some (decide (0 ≤ r1))
theorem f181_t (a0 : List GStop) (a1_0 : Int) (r : Bool) (h : f181 a0 a1_0 = some r) : TCall TT Tryz.prog 181 [.l false 2 a0,.fn 182 [.a (.mp 0 0 0)]] ⟨[(0,.els 1 [.n a1_0])],1⟩ (fun r=>.b r) (fun r=>⟨[(0,.els 1 [.n a1_0])],2⟩) r := tfH <|tCallH h (f183_t a0 a1_0) fun r1 q1 h=>tRetH false h
def f180 (a0 : GEvent) (a1 : Int) : Option Bool := (f181 a0.stops a1).bind fun r1 => some r1
theorem f180_t (a0 : GEvent) (a1 : Int) (r : Bool) (h : f180 a0 a1 = some r) : TPure TT Tryz.prog 180 [.v 3 a0,.n a1] (fun r=>.b r) r := tf <|tCallH h (f181_t a0.stops a1) fun r1 q1 h=>tRet h
def f175 (a0 : GPiece) (a1 : Int) (a2 : Int) : Option Int := ((bif (decide (a1 < 0)) then (some true) else (some (decide ((a0.events.length : Int) ≤ a1)))) : Option Bool).bind fun (j1_18 : Bool) => bif j1_18 then (some 0) else (need (0 ≤ (wr (a1 + 1))) <| need ((wr (a1 + 1)).toNat ≤ a0.events.length) <| (loopN (σ := (Int × Int)) (τ := Int) (fun ((l2_7,l2_25) : (Int × Int)) => bif (decide (l2_25 < (((a0.events.take a0.events.length).drop (wr (a1 + 1)).toNat).length : Int))) then ((ix ((a0.events.take a0.events.length).drop (wr (a1 + 1)).toNat) l2_25).bind fun y6 => ((bif (decide (l2_7 = 15)) then (some true) else ((f179 y6).bind fun r8 => bif r8 then (some true) else ((f180 y6 a2).bind fun r10 => some r10))) : Option Bool).bind fun (j3_39 : Bool) => bif j3_39 then (some (.inr l2_7)) else (some (.inl ((wr (l2_7 + 1)),(wr (l2_25 + 1)))))) else (some (.inr l2_7))) FUEL (0,0)).bind fun (l2x_7 : Int) => some l2x_7)
theorem f175_t (a0 : GPiece) (a1 : Int) (a2 : Int) (r : Int) (h : f175 a0 a1 a2 = some r) : TPure TT Tryz.prog 175 [.v 4 a0,.n a1,.n a2] (fun r=>.n r) r := tf <|tJ h true 0 [1,2,3] [0] 1 (fun j1_18=>([(18,.b j1_18)],[])) (fun o1 g1 k1=>tIf g1 (fun c1 g1=>tM (k1 _ (sj g1))) fun c1 g1=>tM (k1 _ (sj g1))) fun j1_18 h=>tIf h (fun c2 h=>tRet h) fun c2 h=>tNd h fun n3 h=>tNd h fun n4 h=>tJ h false 1 [] [] 2 (fun l2x_7=>([(7,.n l2x_7)],[])) (fun o2 G2 k2=>tL G2 [2,23,24] [] 1 (fun (l2_7,l2_25)=>([(7,.n l2_7),(25,.n l2_25)],[])) fun (l2_7,l2_25) o g2 e2 K2=>tIf g2 (fun c5 g2=>tIx 3 g2 fun y6 u6 g2=>tJ g2 true 0 [2,7,23,24,25] [] 2 (fun j3_39=>([(39,.b j3_39)],[])) (fun o3 g3 k3=>tIf g3 (fun c7 g3=>tM (k3 _ (sj g3))) fun c7 g3=>tCall g3 (f179_t y6) fun r8 q8 g3=>tIf g3 (fun c9 g3=>tM (k3 _ (sj g3))) fun c9 g3=>tCall g3 (f180_t y6 a2) fun r10 q10 g3=>tM (k3 _ (sj g3))) fun j3_39 g2=>tIf g2 (fun c11 g2=>tO g2 <|tM (k2 _ (oJ g2 e2))) fun c11 g2=>tN K2 g2) fun c5 g2=>tO g2 <|tM (k2 _ (oJ g2 e2))) fun l2x_7 h=>tRet h
def f158 (a0 : GPiece) (a1 : Int) (a2 : GStop) (a3 : Int) : Option Int := ((bif (decide (a2.course < 1)) then (some true) else (some (decide ((a0.instrument.courses.length : Int) < a2.course)))) : Option Bool).bind fun (j1_9 : Bool) => bif j1_9 then (some 12) else (((bif (decide (a2.fret < 0)) then (some true) else ((ix a0.instrument.courses (wr (a2.course - 1))).bind fun y4 => some (decide (y4.frets < a2.fret)))) : Option Bool).bind fun (j2_22 : Bool) => bif j2_22 then (some 13) else (bif (decide (a2.course ≤ a3)) then (some 22) else (((bif (decide (a2.right < 0)) then (some true) else (bif (decide (3 < a2.right)) then (some true) else (bif (decide (a2.grace < 0)) then (some true) else (some (decide (4 < a2.grace)))))) : Option Bool).bind fun (j3_45 : Bool) => bif j3_45 then (some 23) else (((bif (decide (a2.hold < 0)) then (some true) else ((f175 a0 a1 a2.course).bind fun r12 => bif (decide (r12 < a2.hold)) then (some true) else (bif (decide (0 < a2.hold)) then (some (decide (a2.fret = 0))) else (some false)))) : Option Bool).bind fun (j4_64 : Bool) => bif j4_64 then (some 24) else (some 0)))))
theorem f158_t (a0 : GPiece) (a1 : Int) (a2 : GStop) (a3 : Int) (r : Int) (h : f158 a0 a1 a2 a3 = some r) : TPure TT Tryz.prog 158 [.v 4 a0,.n a1,.v 2 a2,.n a3] (fun r=>.n r) r := tf <|tJ h true 0 [1,3,4,6] [1,0] 2 (fun j1_9=>([(9,.b j1_9)],[])) (fun o1 g1 k1=>tIf g1 (fun c1 g1=>tM (k1 _ (sj g1))) fun c1 g1=>tM (k1 _ (sj g1))) fun j1_9 h=>tIf h (fun c2 h=>tRet h) fun c2 h=>tJ h true 0 [1,3,4,6] [1,0] 2 (fun j2_22=>([(22,.b j2_22)],[])) (fun o2 g2 k2=>tIf g2 (fun c3 g2=>tM (k2 _ (sj g2))) fun c3 g2=>tIx 0 g2 fun y4 u4 g2=>tM (k2 _ (sj g2))) fun j2_22 h=>tIf h (fun c5 h=>tRet h) fun c5 h=>tIf h (fun c6 h=>tRet h) fun c6 h=>tJ h true 0 [1,4,6] [1,0] 2 (fun j3_45=>([(45,.b j3_45)],[])) (fun o3 g3 k3=>tIf g3 (fun c7 g3=>tM (k3 _ (sj g3))) fun c7 g3=>tIf g3 (fun c8 g3=>tM (k3 _ (sj g3))) fun c8 g3=>tIf g3 (fun c9 g3=>tM (k3 _ (sj g3))) fun c9 g3=>tM (k3 _ (sj g3))) fun j3_45 h=>tIf h (fun c10 h=>tRet h) fun c10 h=>tJ h true 0 [] [] 2 (fun j4_64=>([(64,.b j4_64)],[])) (fun o4 g4 k4=>tIf g4 (fun c11 g4=>tM (k4 _ (sj g4))) fun c11 g4=>tCall g4 (f175_t a0 a1 a2.course) fun r12 q12 g4=>tIf g4 (fun c13 g4=>tM (k4 _ (sj g4))) fun c13 g4=>tIf g4 (fun c14 g4=>tM (k4 _ (sj g4))) fun c14 g4=>tM (k4 _ (sj g4))) fun j4_64 h=>tIf h (fun c15 h=>tRet h) fun c15 h=>tRet h
def f126 (a0 : GPiece) : Option Int := (f128 a0.instrument).bind fun r1 => bif (decide (r1 ≠ 0)) then (some r1) else (bif (decide (400 < (a0.events.length : Int))) then (some 2) else ((loopN (σ := Int) (τ := (Unit ⊕ Int)) (fun (l1_23 : Int) => bif (decide (l1_23 < (a0.events.length : Int))) then ((ix a0.events l1_23).bind fun y5 => (((f157 y5.sign).bind fun r6 => bif (!r6) then (some true) else (bif (decide (l1_23 = 0)) then (some (eq_GSign y5.sign (⟨0,false,false⟩ : GSign))) else (some false))) : Option Bool).bind fun (j2_41 : Bool) => bif j2_41 then (some (.inr (.inr 20))) else (((bif y5.tie then (bif (decide (l1_23 = 0)) then (some true) else (some (decide (0 < (y5.stops.length : Int))))) else (some false)) : Option Bool).bind fun (j3_53 : Bool) => bif j3_53 then (some (.inr (.inr 21))) else ((loopN (σ := (Int × Int)) (τ := (Unit ⊕ (Int ⊕ (Unit ⊕ Int)))) (fun ((l4_6,l4_57) : (Int × Int)) => bif (decide (l4_57 < (y5.stops.length : Int))) then ((ix y5.stops l4_57).bind fun y14 => (f158 a0 l1_23 y14 l4_6).bind fun r15 => bif (decide (r15 ≠ 0)) then (some (.inr (.inr (.inr (.inr r15))))) else (some (.inl (y14.course,(wr (l4_57 + 1)))))) else (some (.inr (.inl ())))) FUEL (0,0)).bind (Sum.elim (fun (_ : Unit) => some (.inl (wr (l1_23 + 1)))) some)))) else (some (.inr (.inl ())))) FUEL 0).bind (Sum.elim (fun (_ : Unit) => some 0) some)))
theorem f126_t (a0 : GPiece) (r : Int) (h : f126 a0 = some r) : TPure TT Tryz.prog 126 [.v 4 a0] (fun r=>.n r) r := tf <|tCall h (f128_t a0.instrument) fun r1 q1 h=>tIf h (fun c2 h=>tRet h) fun c2 h=>tIf h (fun c3 h=>tRet h) fun c3 h=>tJe h false 1 [] [] 1 (fun _=>([],[])) (fun o1 G1 k1 H1=>tL G1 [1,21,22] [0] 1 (fun l1_23=>([(23,.n l1_23)],[])) fun l1_23 o g1 e1 K1=>tIf g1 (fun c4 g1=>tIx 3 g1 fun y5 u5 g1=>tJ g1 true 0 [1,4,5,21,22,23] [1,0] 2 (fun j2_41=>([(41,.b j2_41)],[])) (fun o2 g2 k2=>tCall g2 (f157_t y5.sign) fun r6 q6 g2=>tIf g2 (fun c7 g2=>tM (k2 _ (sj g2))) fun c7 g2=>tIf g2 (fun c8 g2=>tM (k2 _ (sj g2))) fun c8 g2=>tM (k2 _ (sj g2))) fun j2_41 g1=>tIf g1 (fun c9 g1=>tO g1 <|tRet (oE g1 e1 H1)) fun c9 g1=>tJ g1 true 0 [1,4,5,21,22,23] [1,0] 2 (fun j3_53=>([(53,.b j3_53)],[])) (fun o3 g3 k3=>tIf g3 (fun c10 g3=>tIf g3 (fun c11 g3=>tM (k3 _ (sj g3))) fun c11 g3=>tM (k3 _ (sj g3))) fun c10 g3=>tM (k3 _ (sj g3))) fun j3_53 g1=>tIf g1 (fun c12 g1=>tO g1 <|tRet (oE g1 e1 H1)) fun c12 g1=>tJe g1 false 1 [1,21,22,23] [0] 2 (fun _=>([],[])) (fun o4 G4 k4 H4=>tL G4 [1,4,21,22,23,55,56] [0] 2 (fun (l4_6,l4_57)=>([(6,.n l4_6),(57,.n l4_57)],[])) fun (l4_6,l4_57) o g4 e4 K4=>tIf g4 (fun c13 g4=>tIx 2 g4 fun y14 u14 g4=>tCall g4 (f158_t a0 l1_23 y14 l4_6) fun r15 q15 g4=>tIf g4 (fun c16 g4=>tO g4 <|tO (oE g4 e4 H4) <|tRet (oE (oE g4 e4 H4) e1 H1)) fun c16 g4=>tN K4 g4) fun c13 g4=>tO g4 <|tM (k4 _ (oJ g4 e4))) fun _ g1=>tN K1 g1) fun c4 g1=>tO g1 <|tM (k1 _ (oJ g1 e1))) fun _ h=>tRet h
theorem f126_ok (a0 : GPiece) (r : Int) (h : f126 a0 = some r) : APure Tryz.prog 126 [.agg [.sl false (a0.instrument.courses.map E_GCourse),.sl false (a0.instrument.steps.map AV.i),.sl false (a0.events.map E_GEvent)]] (.i r) := f126_t a0 r h
def f127 (a0 : GPiece) : Option Unit := some ()
theorem f127_t (a0 : GPiece) (r : Unit) (h : f127 a0 = some r) : TCall TT Tryz.prog 127 [.v 4 a0] ⟨[],0⟩ (fun _=>.fn 159 [.a (.mp 0 0 0)]) (fun _=>⟨[(0,.els 3 [.v 4 a0])],1⟩) r := tfH <|tRetH false h
theorem f127_ok (a0 : GPiece) (r : Unit) (h : f127 a0 = some r) : ACalls Tryz.prog 127 [.agg [.sl false (a0.instrument.courses.map E_GCourse),.sl false (a0.instrument.steps.map AV.i),.sl false (a0.events.map E_GEvent)]] ⟨[],0⟩ (fun y t => y = .fn 159 [.mp 0 0 0] ∧ t = ⟨[(0,.cells 3 [E_GPiece a0])],1⟩) := f127_t a0 r h
def f159 (a0_e5 : List Int) (a0_e15_0 : GPiece) : Option (List Int) := (loopN (σ := (List Int × Int × Int)) (τ := ((List Int) ⊕ (List Int))) (fun ((l1_h1,l1_3,l1_10) : (List Int × Int × Int)) => bif (decide (l1_10 < (a0_e15_0.events.length : Int))) then ((ix a0_e15_0.events l1_10).bind fun y2 => (((f160 y2.sign).bind fun r3 => bif (decide (0 < r3)) then (some r3) else (some l1_3)) : Option Int).bind fun (j2_3 : Int) => (((ix l1_h1 l1_10).bind fun y6 => need (l1_h1.length + 1 ≤ maxElems) <| some (l1_h1 ++ [(wr (y6 + j2_3))]) : Option (List Int))).bind fun r5 => some (.inl (r5,j2_3,(wr (l1_10 + 1))))) else (some (.inr (.inl l1_h1)))) FUEL (a0_e5,0,0)).bind (Sum.elim (fun (l1x_h1 : (List Int)) => some l1x_h1) some)
theorem f159_ok (a0_e5 : List Int) (a0_e15_0 : GPiece) (r : (List Int)) (h : f159 a0_e5 a0_e15_0 = some r) : ACalls Tryz.prog 159 [.yld 0,.mp 3 0 0] ⟨[(3,.cells 3 [E_GPiece a0_e15_0]),(2,.cells 1 (a0_e5.map AV.i)),(1,.cells 1 [.ms 2 0 a0_e5.length]),(0,.loop ⟨zipE [5,15] [.mp 1 0 0,.fn 159 [.mp 3 0 0]],28,[16,17],(c104 19),(c104 22),.ready,none⟩)],4⟩ (fun y t => y = .tup [] ∧ t = ⟨[(4,.cells 1 (r.map AV.i)),(3,.cells 3 [E_GPiece a0_e15_0]),(1,.cells 1 [.ms 4 0 r.length]),(0,.loop ⟨zipE [5,15] [.mp 1 0 0,.fn 159 [.mp 3 0 0]],28,[16,17],(c104 19),(c104 22),.ready,none⟩)],5⟩) := by
 refine run_f 27 [] (c159 0) (zipE [0,1] [.yld 0,.mp 3 0 0]) (by kernel_rfl) (by kernel_rfl) (by kernel_rfl) rfl ?_
 unfold f159 at h
 refine run1z (c159 2) [] [0,1,3] [.yld 0,.mp 3 0 0,.i 0] ⟨[(3,.cells 3 [E_GPiece a0_e15_0]),(2,.cells 1 (a0_e5.map AV.i)),(1,.cells 1 [.ms 2 0 a0_e5.length]),(0,.loop ⟨zipE [5,15] [.mp 1 0 0,.fn 159 [.mp 3 0 0]],28,[16,17],(c104 19),(c104 22),.ready,none⟩)],4⟩ _ (by kernel_rfl) cj0 ?_
 refine run1z (c159 4) [{},{},{ k := 1,n := a0_e15_0.events.length }] [0,3,8,9,10] [.yld 0,.i 0,.sl false (a0_e15_0.events.map E_GEvent),.i (a0_e15_0.events.length : Int),.i 0] ⟨[(3,.cells 3 [E_GPiece a0_e15_0]),(2,.cells 1 (a0_e5.map AV.i)),(1,.cells 1 [.ms 2 0 a0_e5.length]),(0,.loop ⟨zipE [5,15] [.mp 1 0 0,.fn 159 [.mp 3 0 0]],28,[16,17],(c104 19),(c104 22),.ready,none⟩)],4⟩ _ (by kernel_rfl) (cj1 (mapLen a0_e15_0.events E_GEvent)) ?_
 obtain ⟨ol1x,hll1x,h⟩ := bindE h
 refine run_tq (fun (l1x_h1 : (List Int)) => (zipE [] [])) (fun (l1x_h1 : (List Int)) => ⟨[(4,.cells 1 (l1x_h1.map AV.i)),(3,.cells 3 [E_GPiece a0_e15_0]),(1,.cells 1 [.ms 4 0 l1x_h1.length]),(0,.loop ⟨zipE [5,15] [.mp 1 0 0,.fn 159 [.mp 3 0 0]],28,[16,17],(c104 19),(c104 22),.ready,none⟩)],5⟩) (fun j => ol1x = .inl j) (fun kl1 => ?_) ?_
 ·refine run_b 0 (c159 5) (by kernel_rfl) ?_
  refine run_l (c159 6) _ hll1x (fun ((l1_h1,l1_3,l1_10) : (List Int × Int × Int)) => (zipE [0,3,8,9,10] [.yld 0,.i l1_3,.sl false (a0_e15_0.events.map E_GEvent),.i (a0_e15_0.events.length : Int),.i l1_10])) (fun ((l1_h1,l1_3,l1_10) : (List Int × Int × Int)) => ⟨[(4,.cells 1 (l1_h1.map AV.i)),(3,.cells 3 [E_GPiece a0_e15_0]),(1,.cells 1 [.ms 4 0 l1_h1.length]),(0,.loop ⟨zipE [5,15] [.mp 1 0 0,.fn 159 [.mp 3 0 0]],28,[16,17],(c104 19),(c104 22),.ready,none⟩)],5⟩) [(4,2)] (by intro i e; cases e <;> exact Nat.le_of_ble_eq_true rfl) (by kernel_rfl) (mkInto (ks := [0,3,8,9,10]) (ys := [.yld 0,.i 0,.sl false (a0_e15_0.events.map E_GEvent),.i (a0_e15_0.events.length : Int),.i 0]) (by kernel_rfl) (by kernel_rfl) (.k (.y rfl rfl) (.k (.c rfl) (.k (.c (cleanMap _ _ cl_GEvent)) (.k (.c rfl) (.k (.c rfl) .z))))) (.k (x' := .cells 1 (a0_e5.map AV.i)) (by kernel_rfl) (.cells (.r (cleanMap _ _ cl_i))) (.k (x' := .cells 3 [E_GPiece a0_e15_0]) (by kernel_rfl) (.cells (.k (.c (cl_GPiece a0_e15_0)) .z)) (.k (x' := .cells 1 [.ms 2 0 a0_e5.length]) (by kernel_rfl) (.cells (.k (.ms rfl rfl) .z)) (.k (x' := .loop ⟨zipE [5,15] [.mp 1 0 0,.fn 159 [.mp 3 0 0]],28,[16,17],(c104 19),(c104 22),.ready,none⟩) (by kernel_rfl) (.loop (ks := [5,15]) (.k (.mp rfl rfl) (.k (.f (.k (.mp rfl rfl) .z)) .z))) .z))))) ?_ --@I 4 |(.k (.y rfl rfl) (.k (.c rfl) (.k (.c (cleanMap _ _ cl_GEvent)) (.k (.c rfl) (.k (.c rfl) .z)))))|(.k (x' := .cells 1 (l1_h1.map AV.i)) (by kernel_rfl) (.cells (.r (cleanMap _ _ cl_i))) (.k (x' := .cells 3 [E_GPiece a0_e15_0]) (by kernel_rfl) (.cells (.k (.c (cl_GPiece a0_e15_0)) .z)) (.k (x' := .cells 1 [.ms 4 0 l1_h1.length]) (by kernel_rfl) (.cells (.k (.ms rfl rfl) .z)) (.k (x' := .loop ⟨zipE [5,15] [.mp 1 0 0,.fn 159 [.mp 3 0 0]],28,[16,17],(c104 19),(c104 22),.ready,none⟩) (by kernel_rfl) (.loop (ks := [5,15]) (.k (.mp rfl rfl) (.k (.f (.k (.mp rfl rfl) .z)) .z))) .z))))|0
  rintro ⟨l1_h1,l1_3,l1_10⟩ out hl1 rl1
  refine run1z (c159 8) [] [0,3,8,9,10,11] [.yld 0,.i l1_3,.sl false (a0_e15_0.events.map E_GEvent),.i (a0_e15_0.events.length : Int),.i l1_10,.bool (decide (l1_10 < (a0_e15_0.events.length : Int)))] ⟨[(4,.cells 1 (l1_h1.map AV.i)),(3,.cells 3 [E_GPiece a0_e15_0]),(1,.cells 1 [.ms 4 0 l1_h1.length]),(0,.loop ⟨zipE [5,15] [.mp 1 0 0,.fn 159 [.mp 3 0 0]],28,[16,17],(c104 19),(c104 22),.ready,none⟩)],5⟩ _ (by kernel_rfl) cj0 ?_
  refine run_s (c159 9) (c159 12) (by kernel_rfl) ?_
  rcases iteE hl1 with ⟨hc1,hl1⟩ | ⟨hc1,hl1⟩
  ·refine run_cT 11 (c159 10) (c159 11) (decide (l1_10 < (a0_e15_0.events.length : Int))) hc1 (by kernel_rfl) (by kernel_rfl) ?_
   refine run_k (by kernel_rfl) ?_
   refine thenN ?_
   refine run_s (c159 13) (c159 29) (by kernel_rfl) ?_
   refine run_b 1 (c159 14) (by kernel_rfl) ?_
   obtain ⟨y2,hy2,hl1⟩ := bindE hl1
   refine run1z (c159 16) [{},{ k := 1,x := E_GEvent y2 }] [0,3,4,5,8,9,10] [.yld 0,.i l1_3,.i l1_10,.mp 5 0 0,.sl false (a0_e15_0.events.map E_GEvent),.i (a0_e15_0.events.length : Int),.i l1_10] ⟨[(5,.cells 6 [E_GEvent y2]),(4,.cells 1 (l1_h1.map AV.i)),(3,.cells 3 [E_GPiece a0_e15_0]),(1,.cells 1 [.ms 4 0 l1_h1.length]),(0,.loop ⟨zipE [5,15] [.mp 1 0 0,.fn 159 [.mp 3 0 0]],28,[16,17],(c104 19),(c104 22),.ready,none⟩)],6⟩ _ (by kernel_rfl) (cjC ((ixE hy2).1) (cj1 (mapGet E_GEvent (ixE hy2).2))) ?_
   obtain ⟨j2_3,hj2,hl1⟩ := bindE hl1
   refine run_jq (c159 17) (c159 24) (fun (j2_3 : Int) => (zipE [0,3,4,8,9,10] [.yld 0,.i j2_3,.i l1_10,.sl false (a0_e15_0.events.map E_GEvent),.i (a0_e15_0.events.length : Int),.i l1_10])) (fun (j2_3 : Int) => ⟨[(4,.cells 1 (l1_h1.map AV.i)),(3,.cells 3 [E_GPiece a0_e15_0]),(1,.cells 1 [.ms 4 0 l1_h1.length]),(0,.loop ⟨zipE [5,15] [.mp 1 0 0,.fn 159 [.mp 3 0 0]],28,[16,17],(c104 19),(c104 22),.ready,none⟩)],6⟩) (fun j => j2_3 = j) (by kernel_rfl) (fun kj2 => ?_) ?_
   ·obtain ⟨r3,hr3,hj2⟩ := bindE hj2
    refine run1z (c159 19) [{},{},{ c := some (.i r3,⟨[(5,.cells 6 [E_GEvent y2]),(4,.cells 1 (l1_h1.map AV.i)),(3,.cells 3 [E_GPiece a0_e15_0]),(1,.cells 1 [.ms 4 0 l1_h1.length]),(0,.loop ⟨zipE [5,15] [.mp 1 0 0,.fn 159 [.mp 3 0 0]],28,[16,17],(c104 19),(c104 22),.ready,none⟩)],6⟩) }] [0,3,4,6,8,9,10] [.yld 0,.i l1_3,.i l1_10,.i r3,.sl false (a0_e15_0.events.map E_GEvent),.i (a0_e15_0.events.length : Int),.i l1_10] ⟨[(4,.cells 1 (l1_h1.map AV.i)),(3,.cells 3 [E_GPiece a0_e15_0]),(1,.cells 1 [.ms 4 0 l1_h1.length]),(0,.loop ⟨zipE [5,15] [.mp 1 0 0,.fn 159 [.mp 3 0 0]],28,[16,17],(c104 19),(c104 22),.ready,none⟩)],6⟩ _ (by kernel_rfl) (cj1 (f160_ok y2.sign _ hr3 ⟨[(5,.cells 6 [E_GEvent y2]),(4,.cells 1 (l1_h1.map AV.i)),(3,.cells 3 [E_GPiece a0_e15_0]),(1,.cells 1 [.ms 4 0 l1_h1.length]),(0,.loop ⟨zipE [5,15] [.mp 1 0 0,.fn 159 [.mp 3 0 0]],28,[16,17],(c104 19),(c104 22),.ready,none⟩)],6⟩)) ?_
    refine run1z (c159 21) [] [0,3,4,6,8,9,10,19] [.yld 0,.i l1_3,.i l1_10,.i r3,.sl false (a0_e15_0.events.map E_GEvent),.i (a0_e15_0.events.length : Int),.i l1_10,.bool (decide (0 < r3))] ⟨[(4,.cells 1 (l1_h1.map AV.i)),(3,.cells 3 [E_GPiece a0_e15_0]),(1,.cells 1 [.ms 4 0 l1_h1.length]),(0,.loop ⟨zipE [5,15] [.mp 1 0 0,.fn 159 [.mp 3 0 0]],28,[16,17],(c104 19),(c104 22),.ready,none⟩)],6⟩ _ (by kernel_rfl) cj0 ?_
    rcases iteE hj2 with ⟨hc4,hj2⟩ | ⟨hc4,hj2⟩
    ·refine run_cT 19 (c159 22) (c159 23) (decide (0 < r3)) hc4 (by kernel_rfl) (by kernel_rfl) ?_
     refine run0z [] [0,3,4,8,9,10] [.yld 0,.i r3,.i l1_10,.sl false (a0_e15_0.events.map E_GEvent),.i (a0_e15_0.events.length : Int),.i l1_10] ⟨[(4,.cells 1 (l1_h1.map AV.i)),(3,.cells 3 [E_GPiece a0_e15_0]),(1,.cells 1 [.ms 4 0 l1_h1.length]),(0,.loop ⟨zipE [5,15] [.mp 1 0 0,.fn 159 [.mp 3 0 0]],28,[16,17],(c104 19),(c104 22),.ready,none⟩)],6⟩ _ (by kernel_rfl) cj0 ?_
     replace hj2 := Option.some.inj hj2; subst hj2
     refine thenN ?_
     exact kj2 r3 rfl
    ·refine run_cF 19 (c159 22) (c159 23) (decide (0 < r3)) hc4 (by kernel_rfl) (by kernel_rfl) ?_
     replace hj2 := Option.some.inj hj2; subst hj2
     refine awp_p [0,3,4,8,9,10] [4,3,1,0] (zipE [0,3,4,8,9,10] [.yld 0,.i l1_3,.i l1_10,.sl false (a0_e15_0.events.map E_GEvent),.i (a0_e15_0.events.length : Int),.i l1_10]) ⟨[(4,.cells 1 (l1_h1.map AV.i)),(3,.cells 3 [E_GPiece a0_e15_0]),(1,.cells 1 [.ms 4 0 l1_h1.length]),(0,.loop ⟨zipE [5,15] [.mp 1 0 0,.fn 159 [.mp 3 0 0]],28,[16,17],(c104 19),(c104 22),.ready,none⟩)],6⟩ (by kernel_rfl) (?_)
     refine run_k (by kernel_rfl) ?_
     refine thenN ?_
     exact kj2 l1_3 rfl
   ·rintro _ rfl
    obtain ⟨r5,hr5,hl1⟩ := bindE hl1
    have hYr5 : AYield Tryz.prog 0 [.i l1_10,.i j2_3] ⟨[(4,.cells 1 (l1_h1.map AV.i)),(3,.cells 3 [E_GPiece a0_e15_0]),(1,.cells 1 [.ms 4 0 l1_h1.length]),(0,.loop ⟨zipE [5,15] [.mp 1 0 0,.fn 159 [.mp 3 0 0]],28,[16,17],(c104 19),(c104 22),.ready,none⟩)],6⟩ (fun y t => y = .bool true ∧ t = ⟨[(6,.cells 1 (r5.map AV.i)),(3,.cells 3 [E_GPiece a0_e15_0]),(1,.cells 1 [.ms 6 0 r5.length]),(0,.loop ⟨zipE [5,15] [.mp 1 0 0,.fn 159 [.mp 3 0 0]],28,[16,17],(c104 19),(c104 22),.ready,none⟩)],7⟩) := by
     refine run_y ⟨zipE [5,15] [.mp 1 0 0,.fn 159 [.mp 3 0 0]],28,[16,17],(c104 19),(c104 22),.ready,none⟩ (putParams [16,17] [.i l1_10,.i j2_3] (zipE [5,15] [.mp 1 0 0,.fn 159 [.mp 3 0 0]])) (by kernel_rfl) rfl (by kernel_rfl) ?_
     refine run1z (c104 21) [] [5,6,15,17] [.mp 1 0 0,.i l1_10,.fn 159 [.mp 3 0 0],.i j2_3] ⟨[(4,.cells 1 (l1_h1.map AV.i)),(3,.cells 3 [E_GPiece a0_e15_0]),(1,.cells 1 [.ms 4 0 l1_h1.length]),(0,.loop ⟨zipE [5,15] [.mp 1 0 0,.fn 159 [.mp 3 0 0]],28,[16,17],(c104 19),(c104 22),.ready,none⟩)],6⟩ _ (by kernel_rfl) cj0 ?_
     refine run0z [] [5,6,7,15] [.mp 1 0 0,.i l1_10,.i j2_3,.fn 159 [.mp 3 0 0]] ⟨[(4,.cells 1 (l1_h1.map AV.i)),(3,.cells 3 [E_GPiece a0_e15_0]),(1,.cells 1 [.ms 4 0 l1_h1.length]),(0,.loop ⟨zipE [5,15] [.mp 1 0 0,.fn 159 [.mp 3 0 0]],28,[16,17],(c104 19),(c104 22),.ready,none⟩)],6⟩ _ (by kernel_rfl) cj0 ?_
     refine thenN ⟨⟨zipE [5,15] [.mp 1 0 0,.fn 159 [.mp 3 0 0]],28,[16,17],(c104 19),(c104 22),.ready,none⟩,by kernel_rfl,rfl,?_⟩
     refine awp_post (by intro i e; cases e <;> exact Nat.le_of_ble_eq_true rfl) ?_
     refine run_b 1 (c104 23) (by kernel_rfl) ?_
     obtain ⟨y6,hy6,hr5⟩ := bindE hr5
     obtain ⟨hn7,hr5⟩ := needE hr5
     refine yun0z [[],[],[],[1,2],[1,2,3],[],[1,2,3,4,5],[1,2,3,4,5,6],[0,1,2,3,4,5,6,7],[0,1,2,3,4,5,6,7,8]] [.light 0 false,.light 1 false,.light 2 false,.light 3 false,.light 4 false,.light 5 false,.light 6 false,.light 7 false,.heavy 8 [],.heavy 9 []] [{},{},{},{ k := 1,n := l1_10.toNat },{ k := 1,x := AV.i y6 },{},{},{},{ k := 1,n := (l1_h1 ++ [(wr (y6 + j2_3))]).length,l := (l1_h1 ++ [(wr (y6 + j2_3))]).map AV.i }] [5,15] [.mp 1 0 0,.fn 159 [.mp 3 0 0]] ⟨[(6,.cells 1 ((l1_h1 ++ [(wr (y6 + j2_3))]).map AV.i)),(3,.cells 3 [E_GPiece a0_e15_0]),(1,.cells 1 [.ms 6 0 (l1_h1 ++ [(wr (y6 + j2_3))]).length]),(0,.loop ⟨zipE [5,15] [.mp 1 0 0,.fn 159 [.mp 3 0 0]],28,[16,17],(c104 19),(c104 22),.busy,none⟩)],7⟩ _ (by kernel_rfl) (cjC ((ixE hy6).1) (cjC (ixLt hy6) (cjC (Nat.zero_add l1_10.toNat) (cjC (mapGet AV.i (ixE hy6).2) (cjC (@List.cons_ne_nil AV (.i (wr (y6 + j2_3))) []) (cjC (mLe l1_h1 AV.i) (cjC (hn7) (cjC (lenA l1_h1 ([(wr (y6 + j2_3))] : List Int)) (cjC (appA l1_h1 ([(wr (y6 + j2_3))] : List Int) AV.i) (cj1 (fitsOne (P := Tryz.prog) (t := 3) (x := .i (wr (y6 + j2_3))) (r := []) (by kernel_rfl)))))))))))) ?_
     replace hr5 := Option.some.inj hr5; subst hr5
     refine inbN ?_
     exact ⟨7,pi [],zipE [] [],⟨[(6,.cells 1 ((l1_h1 ++ [(wr (y6 + j2_3))]).map AV.i)),(3,.cells 3 [E_GPiece a0_e15_0]),(1,.cells 1 [.ms 6 0 (l1_h1 ++ [(wr (y6 + j2_3))]).length]),(0,.loop ⟨zipE [5,15] [.mp 1 0 0,.fn 159 [.mp 3 0 0]],28,[16,17],(c104 19),(c104 22),.busy,none⟩)],7⟩,Nat.le_of_ble_eq_true rfl,mkInto (ks := []) (ys := []) (by kernel_rfl) (by kernel_rfl) .z (.k (x' := .cells 1 ((l1_h1 ++ [(wr (y6 + j2_3))]).map AV.i)) (by kernel_rfl) (.cells (.r (cleanMap _ _ cl_i))) (.k (x' := .cells 3 [E_GPiece a0_e15_0]) (by kernel_rfl) (.cells (.k (.c (cl_GPiece a0_e15_0)) .z)) (.k (x' := .cells 1 [.ms 6 0 (l1_h1 ++ [(wr (y6 + j2_3))]).length]) (by kernel_rfl) (.cells (.k (.ms rfl rfl) .z)) (.k (x' := .loop ⟨zipE [5,15] [.mp 1 0 0,.fn 159 [.mp 3 0 0]],28,[16,17],(c104 19),(c104 22),.busy,none⟩) (by kernel_rfl) (.loop (ks := [5,15]) (.k (.mp rfl rfl) (.k (.f (.k (.mp rfl rfl) .z)) .z))) .z)))),⟨zipE [5,15] [.mp 1 0 0,.fn 159 [.mp 3 0 0]],28,[16,17],(c104 19),(c104 22),.busy,none⟩,by kernel_rfl,rfl,by kernel_rfl⟩
    refine run1z (c159 26) [{},{},{},{ c := some (.bool true,⟨[(6,.cells 1 (r5.map AV.i)),(3,.cells 3 [E_GPiece a0_e15_0]),(1,.cells 1 [.ms 6 0 r5.length]),(0,.loop ⟨zipE [5,15] [.mp 1 0 0,.fn 159 [.mp 3 0 0]],28,[16,17],(c104 19),(c104 22),.ready,none⟩)],7⟩) }] [0,3,8,9,10,25] [.yld 0,.i j2_3,.sl false (a0_e15_0.events.map E_GEvent),.i (a0_e15_0.events.length : Int),.i l1_10,.bool false] ⟨[(6,.cells 1 (r5.map AV.i)),(3,.cells 3 [E_GPiece a0_e15_0]),(1,.cells 1 [.ms 6 0 r5.length]),(0,.loop ⟨zipE [5,15] [.mp 1 0 0,.fn 159 [.mp 3 0 0]],28,[16,17],(c104 19),(c104 22),.ready,none⟩)],7⟩ _ (by kernel_rfl) (cj1 (hYr5)) ?_
    refine run_cF 25 (c159 27) (c159 28) false rfl (by kernel_rfl) (by kernel_rfl) ?_
    refine run_k (by kernel_rfl) ?_
    refine inbN ?_
    refine thenN ?_
    refine run0z [] [0,3,8,9,10] [.yld 0,.i j2_3,.sl false (a0_e15_0.events.map E_GEvent),.i (a0_e15_0.events.length : Int),.i (wr (l1_10 + 1))] ⟨[(6,.cells 1 (r5.map AV.i)),(3,.cells 3 [E_GPiece a0_e15_0]),(1,.cells 1 [.ms 6 0 r5.length]),(0,.loop ⟨zipE [5,15] [.mp 1 0 0,.fn 159 [.mp 3 0 0]],28,[16,17],(c104 19),(c104 22),.ready,none⟩)],7⟩ _ (by kernel_rfl) cj0 ?_
    replace hl1 := Option.some.inj hl1; subst hl1
    exact ⟨_,rfl,pi [(4,6)],mkInto (ks := [0,3,8,9,10]) (ys := [.yld 0,.i j2_3,.sl false (a0_e15_0.events.map E_GEvent),.i (a0_e15_0.events.length : Int),.i (wr (l1_10 + 1))]) (by kernel_rfl) (by kernel_rfl) (.k (.y rfl rfl) (.k (.c rfl) (.k (.c (cleanMap _ _ cl_GEvent)) (.k (.c rfl) (.k (.c rfl) .z))))) (.k (x' := .cells 1 (r5.map AV.i)) (by kernel_rfl) (.cells (.r (cleanMap _ _ cl_i))) (.k (x' := .cells 3 [E_GPiece a0_e15_0]) (by kernel_rfl) (.cells (.k (.c (cl_GPiece a0_e15_0)) .z)) (.k (x' := .cells 1 [.ms 6 0 r5.length]) (by kernel_rfl) (.cells (.k (.ms rfl rfl) .z)) (.k (x' := .loop ⟨zipE [5,15] [.mp 1 0 0,.fn 159 [.mp 3 0 0]],28,[16,17],(c104 19),(c104 22),.ready,none⟩) (by kernel_rfl) (.loop (ks := [5,15]) (.k (.mp rfl rfl) (.k (.f (.k (.mp rfl rfl) .z)) .z))) .z))))⟩ --@I 2
  ·refine run_cF 11 (c159 10) (c159 11) (decide (l1_10 < (a0_e15_0.events.length : Int))) hc1 (by kernel_rfl) (by kernel_rfl) ?_
   replace hl1 := Option.some.inj hl1; subst hl1
   have hr := rl1 _ rfl
   subst hr
   refine awp_p [] [4,3,1,0] (zipE [] []) ⟨[(4,.cells 1 (l1_h1.map AV.i)),(3,.cells 3 [E_GPiece a0_e15_0]),(1,.cells 1 [.ms 4 0 l1_h1.length]),(0,.loop ⟨zipE [5,15] [.mp 1 0 0,.fn 159 [.mp 3 0 0]],28,[16,17],(c104 19),(c104 22),.ready,none⟩)],5⟩ (by kernel_rfl) (?_)
   refine run_e 0 (by kernel_rfl) ?_
   refine thenE ?_
   refine ⟨⟨_,rfl⟩,?_⟩
   refine inbE ?_
   exact kl1 l1_h1 rfl
 ·rintro l1x_h1 rfl
  replace h := elimL h
  replace h := Option.some.inj h; subst h
  exact fin_q [4,3,1,0] ⟨[(4,.cells 1 (l1x_h1.map AV.i)),(3,.cells 3 [E_GPiece a0_e15_0]),(1,.cells 1 [.ms 4 0 l1x_h1.length]),(0,.loop ⟨zipE [5,15] [.mp 1 0 0,.fn 159 [.mp 3 0 0]],28,[16,17],(c104 19),(c104 22),.ready,none⟩)],5⟩ (by kernel_rfl) (by kernel_rfl) rfl ⟨rfl,rfl⟩
def f104 (a0 : GPiece) : Option (((List Int)) × Int) := (f126 a0).bind fun r1 => bif (decide (r1 ≠ 0)) then (some (([] : List Int),r1)) else ((f127 a0).bind fun r3 => (f159 ([0] : List Int) a0).bind fun r4 => some (r4,0))
theorem f104_ok (a0 : GPiece) (r : (((List Int)) × Int)) (h : f104 a0 = some r) : APure Tryz.prog 104 [E_GPiece a0] (.tup [.sl false (r.1.map AV.i),.i r.2]) := by
 refine apure (clK (cl_GPiece a0) clZ) (clK (cleanMap r.1 _ cl_i) (clK rfl clZ)) ?_
 refine run_f 28 [.tmp 2,.tmp 3] (c104 0) (zipE [0] [E_GPiece a0]) (by kernel_rfl) (by kernel_rfl) (by kernel_rfl) rfl ?_
 unfold f104 at h
 refine run1z (c104 2) [] [1] [.mp 0 0 0] ⟨[(0,.cells 3 [E_GPiece a0])],1⟩ _ (by kernel_rfl) cj0 ?_
 refine run_s (c104 3) (c104 12) (by kernel_rfl) ?_
 obtain ⟨r1,hr1,h⟩ := bindE h
 refine run1z (c104 5) [{},{ c := some (.i r1,⟨[(0,.cells 3 [E_GPiece a0])],1⟩) }] [1,4] [.mp 0 0 0,.i r1] ⟨[(0,.cells 3 [E_GPiece a0])],1⟩ _ (by kernel_rfl) (cj1 (f126_ok a0 _ hr1 ⟨[(0,.cells 3 [E_GPiece a0])],1⟩)) ?_
 refine run1z (c104 7) [] [1,4,11] [.mp 0 0 0,.i r1,.bool (decide (r1 ≠ 0))] ⟨[(0,.cells 3 [E_GPiece a0])],1⟩ _ (by kernel_rfl) cj0 ?_
 rcases iteE h with ⟨hc2,h⟩ | ⟨hc2,h⟩
 ·refine run_cT 11 (c104 8) (c104 11) (decide (r1 ≠ 0)) hc2 (by kernel_rfl) (by kernel_rfl) ?_
  refine run1z (c104 10) [] [2,3] [.sl true [],.i r1] ⟨[],1⟩ _ (by kernel_rfl) cj0 ?_
  refine run_i 1 [] [2,3] [.sl true [],.i r1] (xs := [.sl false (([] : List Int).map AV.i),.i r1]) (S2 := ⟨[],1⟩) ?_ (by intro i e; cases e <;> exact Nat.le_of_ble_eq_true rfl) (by kernel_rfl) (by kernel_rfl) (by kernel_rfl) (.k (.s (cleanMap (([] : List Int)) _ cl_i)) (.k (.c rfl) .z)) .z
  refine run_t (by kernel_rfl) ?_
  refine thenR ?_
  replace h := Option.some.inj h; subst h
  exact fin_r (by kernel_rfl) rfl
 ·refine run_cF 11 (c104 8) (c104 11) (decide (r1 ≠ 0)) hc2 (by kernel_rfl) (by kernel_rfl) ?_
  refine run_k (by kernel_rfl) ?_
  refine thenN ?_
  refine run1z (c104 14) [{ k := 3,n := ([0] : List Int).length,l := ([0] : List Int).map AV.i }] [1,5] [.mp 0 0 0,.mp 2 0 0] ⟨[(2,.cells 1 [.ms 1 0 ([0] : List Int).length]),(1,.cells 1 (([0] : List Int).map AV.i)),(0,.cells 3 [E_GPiece a0])],3⟩ _ (by kernel_rfl) (cjC (@Eq.refl (List AV) (([0] : List Int).map AV.i)) (cj1 (@Eq.refl Nat (([0] : List Int).length)))) ?_
  refine run_s (c104 15) (c104 24) (by kernel_rfl) ?_
  obtain ⟨r3,hr3,h⟩ := bindE h
  refine run1z (c104 17) [{},{ c := some (.fn 159 [.mp 3 0 0],⟨[(3,.cells 3 [E_GPiece a0]),(2,.cells 1 [.ms 1 0 ([0] : List Int).length]),(1,.cells 1 (([0] : List Int).map AV.i)),(0,.cells 3 [E_GPiece a0])],4⟩) }] [5,15] [.mp 2 0 0,.fn 159 [.mp 3 0 0]] ⟨[(3,.cells 3 [E_GPiece a0]),(2,.cells 1 [.ms 1 0 ([0] : List Int).length]),(1,.cells 1 (([0] : List Int).map AV.i))],4⟩ _ (by kernel_rfl) (cj1 (callF (f127_ok a0 _ hr3) [] [(3,0)] [2,1,0] [E_GPiece a0] ⟨[(2,.cells 1 [.ms 1 0 ([0] : List Int).length]),(1,.cells 1 (([0] : List Int).map AV.i)),(0,.cells 3 [E_GPiece a0])],3⟩ (.fn 159 [.mp 3 0 0]) ⟨[(3,.cells 3 [E_GPiece a0]),(2,.cells 1 [.ms 1 0 ([0] : List Int).length]),(1,.cells 1 (([0] : List Int).map AV.i)),(0,.cells 3 [E_GPiece a0])],4⟩ (by kernel_rfl) (.k (.c (cl_GPiece a0)) .z) (.f (.k (.mp rfl rfl) .z)) .z (.d (x' := .cells 3 [E_GPiece a0]) rfl (by kernel_rfl) (.cells (.k (.c (cl_GPiece a0)) .z)) (.f rfl (by kernel_rfl) (.f rfl (by kernel_rfl) (.f rfl (by kernel_rfl) .z)))))) ?_
  refine run_b 0 (c104 18) (by kernel_rfl) ?_
  obtain ⟨r4,hr4,h⟩ := bindE h
  refine run_rf (g := .tmp 15) (ps := [16,17]) (assign := (c104 19)) (body := (c104 22)) (gf := 159) (caps := [.mp 3 0 0]) (v := .tup []) (s' := ⟨[(6,.cells 1 (r4.map AV.i)),(5,.loop ⟨zipE [5,15] [.mp 2 0 0,.fn 159 [.mp 3 0 0]],28,[16,17],(c104 19),(c104 22),.ready,none⟩),(3,.cells 3 [E_GPiece a0]),(2,.cells 1 [.ms 6 0 r4.length])],7⟩) (by kernel_rfl) (by kernel_rfl) (by kernel_rfl) (callF (f159_ok ([0] : List Int) a0 _ hr4) [(0,5),(1,2),(2,1),(3,3)] [(6,4),(3,3),(2,1),(5,0)] [] [.yld 5,.mp 3 0 0] ⟨[(5,.loop ⟨zipE [5,15] [.mp 2 0 0,.fn 159 [.mp 3 0 0]],28,[16,17],(c104 19),(c104 22),.ready,none⟩),(3,.cells 3 [E_GPiece a0]),(2,.cells 1 [.ms 1 0 ([0] : List Int).length]),(1,.cells 1 (([0] : List Int).map AV.i))],6⟩ (.tup []) ⟨[(6,.cells 1 (r4.map AV.i)),(5,.loop ⟨zipE [5,15] [.mp 2 0 0,.fn 159 [.mp 3 0 0]],28,[16,17],(c104 19),(c104 22),.ready,none⟩),(3,.cells 3 [E_GPiece a0]),(2,.cells 1 [.ms 6 0 r4.length])],7⟩ (by kernel_rfl) (.k (.y rfl rfl) (.k (.mp rfl rfl) .z)) (.t .z) (.k (x' := .cells 3 [E_GPiece a0]) (by kernel_rfl) (.cells (.k (.c (cl_GPiece a0)) .z)) (.k (x' := .cells 1 (([0] : List Int).map AV.i)) (by kernel_rfl) (.cells (.r (cleanMap _ _ cl_i))) (.k (x' := .cells 1 [.ms 1 0 ([0] : List Int).length]) (by kernel_rfl) (.cells (.k (.ms rfl rfl) .z)) (.k (x' := .loop ⟨zipE [5,15] [.mp 2 0 0,.fn 159 [.mp 3 0 0]],28,[16,17],(c104 19),(c104 22),.ready,none⟩) (by kernel_rfl) (.loop (ks := [5,15]) (.k (.mp rfl rfl) (.k (.f (.k (.mp rfl rfl) .z)) .z))) .z)))) (.d (x' := .cells 1 (r4.map AV.i)) rfl (by kernel_rfl) (.cells (.r (cleanMap _ _ cl_i))) (.d (x' := .loop ⟨zipE [5,15] [.mp 1 0 0,.fn 159 [.mp 3 0 0]],28,[16,17],(c104 19),(c104 22),.ready,none⟩) rfl (by kernel_rfl) (.loop (ks := [5,15]) (.k (.mp rfl rfl) (.k (.f (.k (.mp rfl rfl) .z)) .z))) (.d (x' := .cells 3 [E_GPiece a0]) rfl (by kernel_rfl) (.cells (.k (.c (cl_GPiece a0)) .z)) (.d (x' := .cells 1 [.ms 4 0 r4.length]) rfl (by kernel_rfl) (.cells (.k (.ms rfl rfl) .z)) .z))))) ⟨zipE [5,15] [.mp 2 0 0,.fn 159 [.mp 3 0 0]],28,[16,17],(c104 19),(c104 22),.ready,none⟩ (by kernel_rfl) (by intro e; cases e) rfl ?_
  refine inbN ?_
  refine thenN ?_
  refine run1z (c104 26) [] [2,3] [.ms 6 0 r4.length,.i 0] ⟨[(4,.dfr),(6,.cells 1 (r4.map AV.i))],7⟩ _ (by kernel_rfl) cj0 ?_
  refine run_z 6 1 (r4.map AV.i) [2,3] [.ms 6 0 r4.length,.i 0] (xs := [.sl false (r4.map AV.i),.i 0]) (S2 := ⟨[(4,.dfr)],7⟩) ?_ (by kernel_rfl) (by kernel_rfl) (.k (.m (mLe r4 AV.i) (mapAll r4 AV.i)) (.k (.r _) .z)) (.k (x' := .dfr) rfl (by kernel_rfl) (.r _) .z) rfl rfl
  refine run_t (by kernel_rfl) ?_
  replace h := Option.some.inj h; subst h
  exact fin_r (by kernel_rfl) rfl
theorem f104_t (a0 : GPiece) (r : ((List Int) × Int)) (h : f104 a0 = some r) : TPure TT Tryz.prog 104 [.v 4 a0] (fun r=>.tup [.l false 1 r.1,.n r.2]) r := f104_ok a0 r h
def f68 (a0 : List GPiece) : Option (((List Int)) × Int) := bif (decide ((a0.length : Int) = 0)) then (some (([] : List Int),90)) else (bif (decide (6 < (a0.length : Int))) then (some (([] : List Int),2)) else ((loopN (σ := (List Int × Int)) (τ := ((List Int) ⊕ (((List Int)) × Int))) (fun ((l1_2,l1_18) : (List Int × Int)) => bif (decide (l1_18 < (a0.length : Int))) then ((ix a0 l1_18).bind fun y4 => (f104 y4).bind fun r5 => bif (decide (r5.2 ≠ 0)) then (some (.inr (.inr (([] : List Int),r5.2)))) else ((ix r5.1 (wr ((r5.1.length : Int) - 1))).bind fun y7 => need (l1_2.length + 1 ≤ maxElems) <| some (.inl ((l1_2 ++ ([y7] : List Int)),(wr (l1_18 + 1)))))) else (some (.inr (.inl l1_2)))) FUEL (([] : List Int),0)).bind (Sum.elim (fun (l1x_2 : (List Int)) => some (l1x_2,0)) some)))
theorem f68_t (a0 : List GPiece) (r : (((List Int)) × Int)) (h : f68 a0 = some r) : TPure TT Tryz.prog 68 [.l false 4 a0] (fun r=>.tup [.l false 1 r.1,.n r.2]) r := tf <|tIf h (fun c1 h=>tRet h) fun c1 h=>tIf h (fun c2 h=>tRet h) fun c2 h=>tJe h false 1 [] [] 1 (fun l1x_2=>([(2,.a (.ms 0 0 l1x_2.length))],[(0,.lz 1 1 l1x_2)])) (fun o1 G1 k1 H1=>tL G1 [16,17] [] 1 (fun (l1_2,l1_18)=>([(2,.a (.ms 0 0 l1_2.length)),(18,.n l1_18)],[(0,.lz 1 1 l1_2)])) fun (l1_2,l1_18) o g1 e1 K1=>tIf g1 (fun c3 g1=>tIx 4 g1 fun y4 u4 g1=>tCall g1 (f104_t y4) fun r5 q5 g1=>tIf g1 (fun c6 g1=>tO g1 <|tRet (oE g1 e1 H1)) fun c6 g1=>tIx 1 g1 fun y7 u7 g1=>tNd g1 fun n8 g1=>tN K1 g1) fun c3 g1=>tO g1 <|tM (k1 _ (oJ g1 e1))) fun l1x_2 h=>tRet h
def f69 (a0 : List Int) : Option Int := ((bif (decide ((a0.length : Int) < 1)) then (none) else (some ())) : Option Unit).bind fun (_ : Unit) => (ix a0 0).bind fun y2 => (loopN (σ := (Int × Int)) (τ := Int) (fun ((l2_3,l2_4) : (Int × Int)) => bif (decide (l2_4 < (a0.length : Int))) then ((ix a0 l2_4).bind fun y4 => some (.inl ((minI l2_3 y4),(wr (l2_4 + 1))))) else (some (.inr l2_3))) FUEL (y2,1)).bind fun (l2x_3 : Int) => some l2x_3
theorem f69_ok (a0 : List Int) (r : Int) (h : f69 a0 = some r) : APure Tryz.prog 69 [.sl false (a0.map AV.i)] (.i r) := by
 refine apure (clK (cleanMap a0 _ cl_i) clZ) rfl ?_
 refine run_f 25 [.tmp 2] (c69 0) (zipE [0] [.sl false (a0.map AV.i)]) (by kernel_rfl) (by kernel_rfl) (by kernel_rfl) rfl ?_
 unfold f69 at h
 refine run1z (c69 2) [] [0] [.sl false (a0.map AV.i)] ⟨[],0⟩ _ (by kernel_rfl) cj0 ?_
 obtain ⟨oj1,hj1,h⟩ := bindE h
 refine run_jq (c69 3) (c69 8) (fun (_ : Unit) => (zipE [0] [.sl false (a0.map AV.i)])) (fun (_ : Unit) => ⟨[],0⟩) (fun j => oj1 = j) (by kernel_rfl) (fun kj1 => ?_) ?_
 ·refine run1z (c69 5) [{},{ k := 1,n := a0.length }] [0,7] [.sl false (a0.map AV.i),.bool (decide ((a0.length : Int) < 1))] ⟨[],0⟩ _ (by kernel_rfl) (cj1 (mapLen a0 AV.i)) ?_
  rcases iteE hj1 with ⟨hc1,hj1⟩ | ⟨hc1,hj1⟩
  ·refine run_cT 7 (c69 6) (c69 7) (decide ((a0.length : Int) < 1)) hc1 (by kernel_rfl) (by kernel_rfl) ?_
   cases hj1
  ·refine run_cF 7 (c69 6) (c69 7) (decide ((a0.length : Int) < 1)) hc1 (by kernel_rfl) (by kernel_rfl) ?_
   replace hj1 := Option.some.inj hj1; subst hj1
   refine awp_p [0] [] (zipE [0] [.sl false (a0.map AV.i)]) ⟨[],0⟩ (by kernel_rfl) (?_)
   refine run_k (by kernel_rfl) ?_
   refine thenN ?_
   exact kj1 () rfl
 ·rintro ⟨⟩ rfl
  obtain ⟨y2,hy2,h⟩ := bindE h
  refine run1z (c69 10) [{},{ k := 1,x := AV.i y2 }] [0,3] [.sl false (a0.map AV.i),.i y2] ⟨[],0⟩ _ (by kernel_rfl) (cjC ((ixE hy2).1) (cj1 (mapGet AV.i (ixE hy2).2))) ?_
  refine run_s (c69 11) (c69 25) (by kernel_rfl) ?_
  refine run1z (c69 13) [] [0,3,4] [.sl false (a0.map AV.i),.i y2,.i 1] ⟨[],0⟩ _ (by kernel_rfl) cj0 ?_
  obtain ⟨l2x_3,hll2x,h⟩ := bindE h
  refine run_tq (fun (l2x_3 : Int) => (zipE [3] [.i l2x_3])) (fun (l2x_3 : Int) => ⟨[],0⟩) (fun j => l2x_3 = j) (fun kl2 => ?_) ?_
  ·refine run_b 0 (c69 14) (by kernel_rfl) ?_
   refine run_l (c69 15) _ hll2x (fun ((l2_3,l2_4) : (Int × Int)) => (zipE [0,3,4] [.sl false (a0.map AV.i),.i l2_3,.i l2_4])) (fun ((l2_3,l2_4) : (Int × Int)) => ⟨[],0⟩) [] (by intro i e; cases e <;> exact Nat.le_of_ble_eq_true rfl) (by kernel_rfl) (mkInto (ks := [0,3,4]) (ys := [.sl false (a0.map AV.i),.i y2,.i 1]) (by kernel_rfl) (by kernel_rfl) (.k (.c (cleanMap _ _ cl_i)) (.k (.c rfl) (.k (.c rfl) .z))) .z) ?_ --@X 0 |(.k (.c (cleanMap _ _ cl_i)) (.k (.c rfl) (.k (.c rfl) .z)))|.z|0
   rintro ⟨l2_3,l2_4⟩ out hl2 rl2
   refine run_s (c69 16) (c69 21) (by kernel_rfl) ?_
   refine run1z (c69 18) [{},{},{ k := 1,n := a0.length }] [0,3,4,15] [.sl false (a0.map AV.i),.i l2_3,.i l2_4,.bool (decide (l2_4 < (a0.length : Int)))] ⟨[],0⟩ _ (by kernel_rfl) (cj1 (mapLen a0 AV.i)) ?_
   rcases iteE hl2 with ⟨hc3,hl2⟩ | ⟨hc3,hl2⟩
   ·refine run_cT 15 (c69 19) (c69 20) (decide (l2_4 < (a0.length : Int))) hc3 (by kernel_rfl) (by kernel_rfl) ?_
    refine run_k (by kernel_rfl) ?_
    refine thenN ?_
    refine run_s (c69 22) (c69 24) (by kernel_rfl) ?_
    refine run_b 1 (c69 23) (by kernel_rfl) ?_
    obtain ⟨y4,hy4,hl2⟩ := bindE hl2
    refine run0z [{},{},{},{ k := 1,x := AV.i y4 }] [0,3,4] [.sl false (a0.map AV.i),.i (minI l2_3 y4),.i l2_4] ⟨[],0⟩ _ (by kernel_rfl) (cjC ((ixE hy4).1) (cj1 (mapGet AV.i (ixE hy4).2))) ?_
    refine inbN ?_
    refine thenN ?_
    refine run0z [] [0,3,4] [.sl false (a0.map AV.i),.i (minI l2_3 y4),.i (wr (l2_4 + 1))] ⟨[],0⟩ _ (by kernel_rfl) cj0 ?_
    replace hl2 := Option.some.inj hl2; subst hl2
    exact ⟨_,rfl,pi [],mkInto (ks := [0,3,4]) (ys := [.sl false (a0.map AV.i),.i (minI l2_3 y4),.i (wr (l2_4 + 1))]) (by kernel_rfl) (by kernel_rfl) (.k (.c (cleanMap _ _ cl_i)) (.k (.c rfl) (.k (.c rfl) .z))) .z⟩ --@X 0
   ·refine run_cF 15 (c69 19) (c69 20) (decide (l2_4 < (a0.length : Int))) hc3 (by kernel_rfl) (by kernel_rfl) ?_
    replace hl2 := Option.some.inj hl2; subst hl2
    have hr := rl2 _ rfl
    subst hr
    refine awp_p [3] [] (zipE [3] [.i l2_3]) ⟨[],0⟩ (by kernel_rfl) (?_)
    refine run_e 0 (by kernel_rfl) ?_
    refine thenE ?_
    refine ⟨⟨_,rfl⟩,?_⟩
    refine inbE ?_
    exact kl2 l2_3 rfl
  ·rintro _ rfl
   refine thenN ?_
   refine run1z (c69 27) [] [2] [.i l2x_3] ⟨[],0⟩ _ (by kernel_rfl) cj0 ?_
   refine run_t (by kernel_rfl) ?_
   replace h := Option.some.inj h; subst h
   exact fin_r (by kernel_rfl) rfl
theorem f69_t (a0 : List Int) (r : Int) (h : f69 a0 = some r) : TPure TT Tryz.prog 69 [.l false 1 a0] (fun r=>.n r) r := f69_ok a0 r h
def f70 (a0 : List Int) : Option Int := ((bif (decide ((a0.length : Int) < 1)) then (none) else (some ())) : Option Unit).bind fun (_ : Unit) => (ix a0 0).bind fun y2 => (loopN (σ := (Int × Int)) (τ := Int) (fun ((l2_3,l2_4) : (Int × Int)) => bif (decide (l2_4 < (a0.length : Int))) then ((ix a0 l2_4).bind fun y4 => some (.inl ((maxI l2_3 y4),(wr (l2_4 + 1))))) else (some (.inr l2_3))) FUEL (y2,1)).bind fun (l2x_3 : Int) => some l2x_3
theorem f70_ok (a0 : List Int) (r : Int) (h : f70 a0 = some r) : APure Tryz.prog 70 [.sl false (a0.map AV.i)] (.i r) := by
 refine apure (clK (cleanMap a0 _ cl_i) clZ) rfl ?_
 refine run_f 25 [.tmp 2] (c70 0) (zipE [0] [.sl false (a0.map AV.i)]) (by kernel_rfl) (by kernel_rfl) (by kernel_rfl) rfl ?_
 unfold f70 at h
 refine run1z (c70 2) [] [0] [.sl false (a0.map AV.i)] ⟨[],0⟩ _ (by kernel_rfl) cj0 ?_
 obtain ⟨oj1,hj1,h⟩ := bindE h
 refine run_jq (c70 3) (c70 8) (fun (_ : Unit) => (zipE [0] [.sl false (a0.map AV.i)])) (fun (_ : Unit) => ⟨[],0⟩) (fun j => oj1 = j) (by kernel_rfl) (fun kj1 => ?_) ?_
 ·refine run1z (c70 5) [{},{ k := 1,n := a0.length }] [0,7] [.sl false (a0.map AV.i),.bool (decide ((a0.length : Int) < 1))] ⟨[],0⟩ _ (by kernel_rfl) (cj1 (mapLen a0 AV.i)) ?_
  rcases iteE hj1 with ⟨hc1,hj1⟩ | ⟨hc1,hj1⟩
  ·refine run_cT 7 (c70 6) (c70 7) (decide ((a0.length : Int) < 1)) hc1 (by kernel_rfl) (by kernel_rfl) ?_
   cases hj1
  ·refine run_cF 7 (c70 6) (c70 7) (decide ((a0.length : Int) < 1)) hc1 (by kernel_rfl) (by kernel_rfl) ?_
   replace hj1 := Option.some.inj hj1; subst hj1
   refine awp_p [0] [] (zipE [0] [.sl false (a0.map AV.i)]) ⟨[],0⟩ (by kernel_rfl) (?_)
   refine run_k (by kernel_rfl) ?_
   refine thenN ?_
   exact kj1 () rfl
 ·rintro ⟨⟩ rfl
  obtain ⟨y2,hy2,h⟩ := bindE h
  refine run1z (c70 10) [{},{ k := 1,x := AV.i y2 }] [0,3] [.sl false (a0.map AV.i),.i y2] ⟨[],0⟩ _ (by kernel_rfl) (cjC ((ixE hy2).1) (cj1 (mapGet AV.i (ixE hy2).2))) ?_
  refine run_s (c70 11) (c70 25) (by kernel_rfl) ?_
  refine run1z (c70 13) [] [0,3,4] [.sl false (a0.map AV.i),.i y2,.i 1] ⟨[],0⟩ _ (by kernel_rfl) cj0 ?_
  obtain ⟨l2x_3,hll2x,h⟩ := bindE h
  refine run_tq (fun (l2x_3 : Int) => (zipE [3] [.i l2x_3])) (fun (l2x_3 : Int) => ⟨[],0⟩) (fun j => l2x_3 = j) (fun kl2 => ?_) ?_
  ·refine run_b 0 (c70 14) (by kernel_rfl) ?_
   refine run_l (c70 15) _ hll2x (fun ((l2_3,l2_4) : (Int × Int)) => (zipE [0,3,4] [.sl false (a0.map AV.i),.i l2_3,.i l2_4])) (fun ((l2_3,l2_4) : (Int × Int)) => ⟨[],0⟩) [] (by intro i e; cases e <;> exact Nat.le_of_ble_eq_true rfl) (by kernel_rfl) (mkInto (ks := [0,3,4]) (ys := [.sl false (a0.map AV.i),.i y2,.i 1]) (by kernel_rfl) (by kernel_rfl) (.k (.c (cleanMap _ _ cl_i)) (.k (.c rfl) (.k (.c rfl) .z))) .z) ?_ --@X 0 |(.k (.c (cleanMap _ _ cl_i)) (.k (.c rfl) (.k (.c rfl) .z)))|.z|0
   rintro ⟨l2_3,l2_4⟩ out hl2 rl2
   refine run_s (c70 16) (c70 21) (by kernel_rfl) ?_
   refine run1z (c70 18) [{},{},{ k := 1,n := a0.length }] [0,3,4,15] [.sl false (a0.map AV.i),.i l2_3,.i l2_4,.bool (decide (l2_4 < (a0.length : Int)))] ⟨[],0⟩ _ (by kernel_rfl) (cj1 (mapLen a0 AV.i)) ?_
   rcases iteE hl2 with ⟨hc3,hl2⟩ | ⟨hc3,hl2⟩
   ·refine run_cT 15 (c70 19) (c70 20) (decide (l2_4 < (a0.length : Int))) hc3 (by kernel_rfl) (by kernel_rfl) ?_
    refine run_k (by kernel_rfl) ?_
    refine thenN ?_
    refine run_s (c70 22) (c70 24) (by kernel_rfl) ?_
    refine run_b 1 (c70 23) (by kernel_rfl) ?_
    obtain ⟨y4,hy4,hl2⟩ := bindE hl2
    refine run0z [{},{},{},{ k := 1,x := AV.i y4 }] [0,3,4] [.sl false (a0.map AV.i),.i (maxI l2_3 y4),.i l2_4] ⟨[],0⟩ _ (by kernel_rfl) (cjC ((ixE hy4).1) (cj1 (mapGet AV.i (ixE hy4).2))) ?_
    refine inbN ?_
    refine thenN ?_
    refine run0z [] [0,3,4] [.sl false (a0.map AV.i),.i (maxI l2_3 y4),.i (wr (l2_4 + 1))] ⟨[],0⟩ _ (by kernel_rfl) cj0 ?_
    replace hl2 := Option.some.inj hl2; subst hl2
    exact ⟨_,rfl,pi [],mkInto (ks := [0,3,4]) (ys := [.sl false (a0.map AV.i),.i (maxI l2_3 y4),.i (wr (l2_4 + 1))]) (by kernel_rfl) (by kernel_rfl) (.k (.c (cleanMap _ _ cl_i)) (.k (.c rfl) (.k (.c rfl) .z))) .z⟩ --@X 0
   ·refine run_cF 15 (c70 19) (c70 20) (decide (l2_4 < (a0.length : Int))) hc3 (by kernel_rfl) (by kernel_rfl) ?_
    replace hl2 := Option.some.inj hl2; subst hl2
    have hr := rl2 _ rfl
    subst hr
    refine awp_p [3] [] (zipE [3] [.i l2_3]) ⟨[],0⟩ (by kernel_rfl) (?_)
    refine run_e 0 (by kernel_rfl) ?_
    refine thenE ?_
    refine ⟨⟨_,rfl⟩,?_⟩
    refine inbE ?_
    exact kl2 l2_3 rfl
  ·rintro _ rfl
   refine thenN ?_
   refine run1z (c70 27) [] [2] [.i l2x_3] ⟨[],0⟩ _ (by kernel_rfl) cj0 ?_
   refine run_t (by kernel_rfl) ?_
   replace h := Option.some.inj h; subst h
   exact fin_r (by kernel_rfl) rfl
theorem f70_t (a0 : List Int) (r : Int) (h : f70 a0 = some r) : TPure TT Tryz.prog 70 [.l false 1 a0] (fun r=>.n r) r := f70_ok a0 r h
def f31 (a0 : GConsort) : Option (Int × Int) := (f68 a0.pieces).bind fun r1 => bif (decide (r1.2 ≠ 0)) then (some (0,r1.2)) else ((f69 r1.1).bind fun r3 => (f70 r1.1).bind fun r4 => bif (decide (r3 ≠ r4)) then (some (0,91)) else ((ix r1.1 0).bind fun y6 => some (y6,0)))
theorem f31_t (a0 : GConsort) (r : (Int × Int)) (h : f31 a0 = some r) : TPure TT Tryz.prog 31 [.v 5 a0] (fun r=>.tup [.n r.1,.n r.2]) r := tf <|tCall h (f68_t a0.pieces) fun r1 q1 h=>tIf h (fun c2 h=>tRet h) fun c2 h=>tCall h (f69_t r1.1) fun r3 q3 h=>tCall h (f70_t r1.1) fun r4 q4 h=>tIf h (fun c5 h=>tRet h) fun c5 h=>tIx 1 h fun y6 u6 h=>tRet h
def f88 (a0 : GConsort) : Option Int := (f31 a0).bind fun r1 => some r1.2
theorem f88_t (a0 : GConsort) (r : Int) (h : f88 a0 = some r) : TPure TT Tryz.prog 88 [.v 5 a0] (fun r=>.n r) r := tf <|tCall h (f31_t a0) fun r1 q1 h=>tRet h
theorem f88_ok (a0 : GConsort) (r : Int) (h : f88 a0 = some r) : APure Tryz.prog 88 [E_GConsort a0] (.i r) := f88_t a0 r h
def f73 (a0 : GPiece) : Option (GSSounding × Int) := (f104 a0).bind fun r1 => some ((⟨a0,r1.1⟩ : GSSounding),r1.2)
theorem f73_t (a0 : GPiece) (r : (GSSounding × Int)) (h : f73 a0 = some r) : TPure TT Tryz.prog 73 [.v 4 a0] (fun r=>.tup [.v 8 r.1,.n r.2]) r := tf <|tCall h (f104_t a0) fun r1 q1 h=>tRet h
def f106 (a0 : Int) (a1 : Int) (a2 : List Int) (a3 : List GNote) : Option (List GNote × List Int) := need (a0 < 15) <| (ix a2 a0).bind fun y2 => bif (decide (0 < y2)) then ((ix a3 (wr (y2 - 1))).bind fun y4 => some ((a3.set (wr (y2 - 1)).toNat (⟨y4.event,y4.course,y4.pitch,y4.from_,a1⟩ : GNote)),(a2.set a0.toNat 0))) else (some (a3,a2))
theorem f106_ok (a0 : Int) (a1 : Int) (a2 : List Int) (a3 : List GNote) (r : (List GNote × List Int)) (h : f106 a0 a1 a2 a3 = some r) : ACalls Tryz.prog 106 [.i a0,.i a1,.mp 0 0 0,.mp 1 0 0] ⟨[(2,.cells 5 (a3.map E_GNote)),(1,.cells 1 [.ms 2 0 a3.length]),(0,.cells 15 [.agg (a2.map AV.i)])],3⟩ (fun y t => y = .tup [] ∧ t = ⟨[(2,.cells 5 (r.1.map E_GNote)),(1,.cells 1 [.ms 2 0 r.1.length]),(0,.cells 15 [.agg (r.2.map AV.i)])],3⟩) := by
 refine run_f 20 [] (c106 0) (zipE [0,1,2,3] [.i a0,.i a1,.mp 0 0 0,.mp 1 0 0]) (by kernel_rfl) (by kernel_rfl) (by kernel_rfl) rfl ?_
 unfold f106 at h
 obtain ⟨hn1,h⟩ := needE h
 obtain ⟨y2,hy2,h⟩ := bindE h
 refine run1z (c106 2) [{},{ k := 1,n := a0.toNat },{ k := 2,x := .i y2 }] [0,1,2,3,6] [.i a0,.i a1,.mp 0 0 0,.mp 1 0 0,.i y2] ⟨[(2,.cells 5 (a3.map E_GNote)),(1,.cells 1 [.ms 2 0 a3.length]),(0,.cells 15 [.agg (a2.map AV.i)])],3⟩ _ (by kernel_rfl) (cjC ((ixE hy2).1) (cjC (hn1) (cjC (vecOff a0.toNat) (cj1 (mapGet AV.i (ixE hy2).2))))) ?_
 refine run1z (c106 4) [] [0,1,2,3,6,11] [.i a0,.i a1,.mp 0 0 0,.mp 1 0 0,.i y2,.bool (decide (0 < y2))] ⟨[(2,.cells 5 (a3.map E_GNote)),(1,.cells 1 [.ms 2 0 a3.length]),(0,.cells 15 [.agg (a2.map AV.i)])],3⟩ _ (by kernel_rfl) cj0 ?_
 rcases iteE h with ⟨hc3,h⟩ | ⟨hc3,h⟩
 ·refine run_cT 11 (c106 5) (c106 8) (decide (0 < y2)) hc3 (by kernel_rfl) (by kernel_rfl) ?_
  obtain ⟨y4,hy4,h⟩ := bindE h
  refine run1z (c106 7) [{},{},{},{},{ k := 1,n := (wr (y2 - 1)).toNat },{},{ k := 1,x := E_GNote y4,l := (a3.set (wr (y2 - 1)).toNat (⟨y4.event,y4.course,y4.pitch,y4.from_,a1⟩ : GNote)).map E_GNote }] [0,2] [.i a0,.mp 0 0 0] ⟨[(2,.cells 5 ((a3.set (wr (y2 - 1)).toNat (⟨y4.event,y4.course,y4.pitch,y4.from_,a1⟩ : GNote)).map E_GNote)),(1,.cells 1 [.ms 2 0 a3.length]),(0,.cells 15 [.agg (a2.map AV.i)])],3⟩ _ (by kernel_rfl) (cjC ((ixE hy4).1) (cjC (ixLt hy4) (cjC (Nat.zero_add (wr (y2 - 1)).toNat) (cjC (mapGet E_GNote (ixE hy4).2) (cjC ((by decide : (5 : Nat) ≤ 5)) (cj1 (mapSet a3 E_GNote (wr (y2 - 1)).toNat (⟨y4.event,y4.course,y4.pitch,y4.from_,a1⟩ : GNote)))))))) ?_
  refine run_i 3 [] [0,2] [.i a0,.mp 0 0 0] (xs := [.i a0,.mp 0 0 0]) (S2 := ⟨[(2,.cells 5 ((a3.set (wr (y2 - 1)).toNat (⟨y4.event,y4.course,y4.pitch,y4.from_,a1⟩ : GNote)).map E_GNote)),(1,.cells 1 [.ms 2 0 (a3.set (wr (y2 - 1)).toNat (⟨y4.event,y4.course,y4.pitch,y4.from_,a1⟩ : GNote)).length]),(0,.cells 15 [.agg (a2.map AV.i)])],3⟩) ?_ (by intro i e; cases e <;> exact Nat.le_of_ble_eq_true rfl) (by kernel_rfl) (by kernel_rfl) (by kernel_rfl) (.k (.c rfl) (.k (.mp rfl rfl) .z)) (.k (x' := .cells 5 ((a3.set (wr (y2 - 1)).toNat (⟨y4.event,y4.course,y4.pitch,y4.from_,a1⟩ : GNote)).map E_GNote)) (by kernel_rfl) (.cells (.r (cleanMap _ _ cl_GNote))) (.k (x' := .cells 1 [.ms 2 0 a3.length]) (by kernel_rfl) (.cells (.k (.e rfl rfl (by simp)) .z)) (.k (x' := .cells 15 [.agg (a2.map AV.i)]) (by kernel_rfl) (.cells (.k (.a (.r (cleanMap _ _ cl_i))) .z)) .z)))
  refine run0z [{},{ k := 1,n := a0.toNat },{ k := 1,x := .agg (a2.map AV.i),l := [.agg ((a2.set a0.toNat 0).map AV.i)] }] [] [] ⟨[(2,.cells 5 ((a3.set (wr (y2 - 1)).toNat (⟨y4.event,y4.course,y4.pitch,y4.from_,a1⟩ : GNote)).map E_GNote)),(1,.cells 1 [.ms 2 0 (a3.set (wr (y2 - 1)).toNat (⟨y4.event,y4.course,y4.pitch,y4.from_,a1⟩ : GNote)).length]),(0,.cells 15 [.agg ((a2.set a0.toNat 0).map AV.i)])],3⟩ _ (by kernel_rfl) (cjC ((ixE hy2).1) (cjC (hn1) (cjC (vecOff a0.toNat) (cjC (@Eq.refl (Option AV) (some (.agg (a2.map AV.i)))) (cjC (vecLe AV.i hy2) (cj1 (vecSet AV.i hy2 0))))))) ?_
  replace h := Option.some.inj h; subst h
  exact fin_q [2,1,0] ⟨[(2,.cells 5 ((a3.set (wr (y2 - 1)).toNat (⟨y4.event,y4.course,y4.pitch,y4.from_,a1⟩ : GNote)).map E_GNote)),(1,.cells 1 [.ms 2 0 (a3.set (wr (y2 - 1)).toNat (⟨y4.event,y4.course,y4.pitch,y4.from_,a1⟩ : GNote)).length]),(0,.cells 15 [.agg ((a2.set a0.toNat 0).map AV.i)])],3⟩ (by kernel_rfl) (by kernel_rfl) rfl ⟨rfl,rfl⟩
 ·refine run_cF 11 (c106 5) (c106 8) (decide (0 < y2)) hc3 (by kernel_rfl) (by kernel_rfl) ?_
  refine run_k (by kernel_rfl) ?_
  replace h := Option.some.inj h; subst h
  exact fin_q [2,1,0] ⟨[(2,.cells 5 (a3.map E_GNote)),(1,.cells 1 [.ms 2 0 a3.length]),(0,.cells 15 [.agg (a2.map AV.i)])],3⟩ (by kernel_rfl) (by kernel_rfl) rfl ⟨rfl,rfl⟩
def f129 (a0 : GInstrument) (a1 : GCourse) (a2 : Int) : Option Int := bif (decide (a2 = 0)) then (some a1.pitch) else ((ix a0.steps (wr (a2 - 1))).bind fun y2 => some (wr (a1.pitch + y2)))
theorem f129_t (a0 : GInstrument) (a1 : GCourse) (a2 : Int) (r : Int) (h : f129 a0 a1 a2 = some r) : TPure TT Tryz.prog 129 [.v 6 a0,.v 0 a1,.n a2] (fun r=>.n r) r := tf <|tIf h (fun c1 h=>tRet h) fun c1 h=>tIx 1 h fun y2 u2 h=>tRet h
def f107 (a0 : GInstrument) (a1 : GPlace) : Option (Int × Int) := (f128 a0).bind fun r1 => bif (decide (r1 ≠ 0)) then (some (0,r1)) else (((bif (decide (a1.course < 1)) then (some true) else (some (decide ((a0.courses.length : Int) < a1.course)))) : Option Bool).bind fun (j1_23 : Bool) => bif j1_23 then (some (0,12)) else ((ix a0.courses (wr (a1.course - 1))).bind fun y5 => ((bif (decide (a1.fret < 0)) then (some true) else (some (decide (y5.frets < a1.fret)))) : Option Bool).bind fun (j2_40 : Bool) => bif j2_40 then (some (0,13)) else ((f129 a0 y5 a1.fret).bind fun r8 => some (r8,0))))
theorem f107_t (a0 : GInstrument) (a1 : GPlace) (r : (Int × Int)) (h : f107 a0 a1 = some r) : TPure TT Tryz.prog 107 [.v 6 a0,.v 10 a1] (fun r=>.tup [.n r.1,.n r.2]) r := tf <|tCall h (f128_t a0) fun r1 q1 h=>tIf h (fun c2 h=>tRet h) fun c2 h=>tJ h true 0 [2,3] [1,0] 2 (fun j1_23=>([(23,.b j1_23)],[])) (fun o1 g1 k1=>tIf g1 (fun c3 g1=>tM (k1 _ (sj g1))) fun c3 g1=>tM (k1 _ (sj g1))) fun j1_23 h=>tIf h (fun c4 h=>tRet h) fun c4 h=>tIx 0 h fun y5 u5 h=>tJ h true 0 [2,3,7] [2,1,0] 3 (fun j2_40=>([(40,.b j2_40)],[])) (fun o2 g2 k2=>tIf g2 (fun c6 g2=>tM (k2 _ (sj g2))) fun c6 g2=>tM (k2 _ (sj g2))) fun j2_40 h=>tIf h (fun c7 h=>tRet h) fun c7 h=>tCall h (f129_t a0 y5 a1.fret) fun r8 q8 h=>tRet h
theorem f107_ok (a0 : GInstrument) (a1 : GPlace) (r : (Int × Int)) (h : f107 a0 a1 = some r) : APure Tryz.prog 107 [.agg [.sl false (a0.courses.map E_GCourse),.sl false (a0.steps.map AV.i)],.agg [.i a1.course,.i a1.fret]] (.tup [.i r.1,.i r.2]) := f107_t a0 a1 r h
def f92 (a0 : GSSounding) : Option Int := (ix a0.onsets (wr ((a0.onsets.length : Int) - 1))).bind fun y1 => some y1
theorem f92_t (a0 : GSSounding) (r : Int) (h : f92 a0 = some r) : TPure TT Tryz.prog 92 [.v 8 a0] (fun r=>.n r) r := tf <|tIx 1 h fun y1 u1 h=>tRet h
theorem f92_ok (a0 : GSSounding) (r : Int) (h : f92 a0 = some r) : APure Tryz.prog 92 [.agg [.sl false (a0.p.instrument.courses.map E_GCourse),.sl false (a0.p.instrument.steps.map AV.i),.sl false (a0.p.events.map E_GEvent),.sl false (a0.onsets.map AV.i)]] (.i r) := f92_t a0 r h
def f108 (a0 : GSSounding) (a1 : Int) (a2 : Int) : Option Int := (loopN (σ := Int) (τ := Int) (fun (l1_7 : Int) => ((bif (decide ((wr (l1_7 + 1)) < (a0.p.events.length : Int))) then ((ix a0.p.events (wr (l1_7 + 1))).bind fun y2 => some y2.tie) else (some false)) : Option Bool).bind fun (j2_27 : Bool) => bif j2_27 then (some (.inl (wr (l1_7 + 1)))) else (some (.inr l1_7))) FUEL (wr (a1 + a2))).bind fun (l1x_7 : Int) => some l1x_7
theorem f108_t (a0 : GSSounding) (a1 : Int) (a2 : Int) (r : Int) (h : f108 a0 a1 a2 = some r) : TPure TT Tryz.prog 108 [.v 8 a0,.n a1,.n a2] (fun r=>.n r) r := tf <|tJ h false 1 [] [] 1 (fun l1x_7=>([(7,.n l1x_7)],[])) (fun o1 G1 k1=>tL G1 [3] [0] 1 (fun l1_7=>([(7,.n l1_7)],[])) fun l1_7 o g1 e1 K1=>tJ g1 true 0 [3,7] [0] 1 (fun j2_27=>([(27,.b j2_27)],[])) (fun o2 g2 k2=>tIf g2 (fun c1 g2=>tIx 3 g2 fun y2 u2 g2=>tM (k2 _ (sj g2))) fun c1 g2=>tM (k2 _ (sj g2))) fun j2_27 g1=>tIf g1 (fun c3 g1=>tN K1 g1) fun c3 g1=>tO g1 <|tM (k1 _ (oJ g1 e1))) fun l1x_7 h=>tRet h
theorem f108_ok (a0 : GSSounding) (a1 : Int) (a2 : Int) (r : Int) (h : f108 a0 a1 a2 = some r) : APure Tryz.prog 108 [.agg [.sl false (a0.p.instrument.courses.map E_GCourse),.sl false (a0.p.instrument.steps.map AV.i),.sl false (a0.p.events.map E_GEvent),.sl false (a0.onsets.map AV.i)],.i a1,.i a2] (.i r) := f108_t a0 a1 a2 r h
def f74 (a0 : GSSounding) : Option (((List GNote)) × ((List GSPress))) := (loopN (σ := (List GNote × List GSPress × List Int × Int)) (τ := (List GNote × List GSPress)) (fun ((l1_h1,l1_5,l1_h2,l1_22) : (List GNote × List GSPress × List Int × Int)) => bif (decide (l1_22 < (a0.p.events.length : Int))) then ((ix a0.p.events l1_22).bind fun y2 => (ix a0.onsets l1_22).bind fun y3 => ((((bif (decide ((y2.stops.length : Int) = 0)) then (some (!y2.tie)) else (some false)) : Option Bool).bind fun (j3_40 : Bool) => bif j3_40 then ((loopN (σ := (List GNote × List Int × Int)) (τ := (List GNote × List Int)) (fun ((l4_h1,l4_h2,l4_41) : (List GNote × List Int × Int)) => bif (decide (l4_41 < 15)) then ((f106 l4_41 y3 l4_h2 l4_h1).bind fun r7 => some (.inl (r7.1,r7.2,(wr (l4_41 + 1))))) else (some (.inr (l4_h1,l4_h2)))) FUEL (l1_h1,l1_h2,0)).bind fun ((l4x_h1,l4x_h2) : (List GNote × List Int)) => some (l4x_h1,l4x_h2)) else (some (l1_h1,l1_h2))) : Option (List GNote × List Int)).bind fun ((j2_h1,j2_h2) : (List GNote × List Int)) => (loopN (σ := (List GNote × List GSPress × List Int × Int)) (τ := (List GNote × List GSPress × List Int)) (fun ((l5_h1,l5_5,l5_h2,l5_52) : (List GNote × List GSPress × List Int × Int)) => bif (decide (l5_52 < (y2.stops.length : Int))) then ((ix y2.stops l5_52).bind fun y9 => (f106 y9.course y3 l5_h2 l5_h1).bind fun r10 => (f107 a0.p.instrument (⟨y9.course,y9.fret⟩ : GPlace)).bind fun r11 => (f92 a0).bind fun r12 => ((bif (decide (0 < y9.fret)) then ((f108 a0 l1_22 y9.hold).bind fun r14 => (ix a0.onsets (wr (r14 + 1))).bind fun y15 => some (r10.2,y15)) else (need (y9.course < 15) <| (ix r10.2 y9.course).bind fun y17 => some ((r10.2.set y9.course.toNat (wr ((r10.1.length : Int) + 1))),r12))) : Option (List Int × Int)).bind fun ((j6_h2,j6_h9_4) : (List Int × Int)) => need (r10.1.length + 1 ≤ maxElems) <| need (l5_5.length + 1 ≤ maxElems) <| some (.inl ((r10.1 ++ [(⟨l1_22,y9.course,r11.1,y3,j6_h9_4⟩ : GNote)]),(l5_5 ++ [(⟨l1_22,y9.course,y9.fret,y3,j6_h9_4⟩ : GSPress)]),j6_h2,(wr (l5_52 + 1))))) else (some (.inr (l5_h1,l5_5,l5_h2)))) FUEL (j2_h1,l1_5,j2_h2,0)).bind fun ((l5x_h1,l5x_5,l5x_h2) : (List GNote × List GSPress × List Int)) => some (.inl (l5x_h1,l5x_5,l5x_h2,(wr (l1_22 + 1))))) else (some (.inr (l1_h1,l1_5)))) FUEL (([] : List GNote),([] : List GSPress),(List.replicate 15 (0 : Int)),0)).bind fun ((l1x_h1,l1x_5) : (List GNote × List GSPress)) => some (l1x_h1,l1x_5)
theorem f74_ok (a0 : GSSounding) (r : (((List GNote)) × ((List GSPress)))) (h : f74 a0 = some r) : APure Tryz.prog 74 [E_GSSounding a0] (.tup [.sl false (r.1.map E_GNote),.sl false (r.2.map E_GSPress)]) := by
 refine apure (clK (cl_GSSounding a0) clZ) (clK (cleanMap r.1 _ cl_GNote) (clK (cleanMap r.2 _ cl_GSPress) clZ)) ?_
 refine run_f 122 [.tmp 2,.tmp 3] (c74 0) (zipE [0] [E_GSSounding a0]) (by kernel_rfl) (by kernel_rfl) (by kernel_rfl) rfl ?_
 unfold f74 at h
 refine run1z (c74 2) [] [1] [.mp 0 0 0] ⟨[(0,.cells 4 [E_GSSounding a0])],1⟩ _ (by kernel_rfl) cj0 ?_
 refine run1z (c74 4) [] [1,4] [.mp 0 0 0,.mp 1 0 0] ⟨[(1,.cells 1 [.sl true []]),(0,.cells 4 [E_GSSounding a0])],2⟩ _ (by kernel_rfl) cj0 ?_
 refine run1z (c74 6) [] [1,4,5] [.mp 0 0 0,.mp 1 0 0,.sl true []] ⟨[(1,.cells 1 [.sl true []]),(0,.cells 4 [E_GSSounding a0])],2⟩ _ (by kernel_rfl) cj0 ?_
 refine run1z (c74 8) [] [1,4,5,6] [.mp 0 0 0,.mp 1 0 0,.sl true [],.mp 2 0 0] ⟨[(2,.cells 15 [.agg ((List.replicate 15 (0 : Int)).map AV.i)]),(1,.cells 1 [.sl true []]),(0,.cells 4 [E_GSSounding a0])],3⟩ _ (by kernel_rfl) cj0 ?_
 refine run1z (c74 10) [] [1,4,5,6,7] [.mp 0 0 0,.mp 1 0 0,.sl true [],.mp 2 0 0,.fn 106 [.mp 2 0 0,.mp 1 0 0]] ⟨[(2,.cells 15 [.agg ((List.replicate 15 (0 : Int)).map AV.i)]),(1,.cells 1 [.sl true []]),(0,.cells 4 [E_GSSounding a0])],3⟩ _ (by kernel_rfl) cj0 ?_
 refine run_s (c74 11) (c74 79) (by kernel_rfl) ?_
 refine run1z (c74 13) [{},{},{},{ k := 1,n := a0.p.events.length }] [1,4,5,6,7,20,21,22] [.mp 0 0 0,.mp 1 0 0,.sl true [],.mp 2 0 0,.fn 106 [.mp 2 0 0,.mp 1 0 0],.sl false (a0.p.events.map E_GEvent),.i (a0.p.events.length : Int),.i 0] ⟨[(2,.cells 15 [.agg ((List.replicate 15 (0 : Int)).map AV.i)]),(1,.cells 1 [.sl true []]),(0,.cells 4 [E_GSSounding a0])],3⟩ _ (by kernel_rfl) (cj1 (mapLen a0.p.events E_GEvent)) ?_
 obtain ⟨ol1x,hll1x,h⟩ := bindE h
 refine run_tq (fun ((l1x_h1,l1x_5) : (List GNote × List GSPress)) => (zipE [4,5] [.mp 1 0 0,.ms 4 0 l1x_5.length])) (fun ((l1x_h1,l1x_5) : (List GNote × List GSPress)) => ⟨[(4,.cells 5 (l1x_5.map E_GSPress)),(3,.cells 5 (l1x_h1.map E_GNote)),(1,.cells 1 [.ms 3 0 l1x_h1.length])],5⟩) (fun j => ol1x = j) (fun kl1 => ?_) ?_
 ·refine run_b 0 (c74 14) (by kernel_rfl) ?_
  refine run_l (c74 15) _ hll1x (fun ((l1_h1,l1_5,l1_h2,l1_22) : (List GNote × List GSPress × List Int × Int)) => (zipE [1,4,5,6,7,20,21,22] [.mp 0 0 0,.mp 1 0 0,.ms 4 0 l1_5.length,.mp 2 0 0,.fn 106 [.mp 2 0 0,.mp 1 0 0],.sl false (a0.p.events.map E_GEvent),.i (a0.p.events.length : Int),.i l1_22])) (fun ((l1_h1,l1_5,l1_h2,l1_22) : (List GNote × List GSPress × List Int × Int)) => ⟨[(4,.cells 5 (l1_5.map E_GSPress)),(3,.cells 5 (l1_h1.map E_GNote)),(2,.cells 15 [.agg (l1_h2.map AV.i)]),(1,.cells 1 [.ms 3 0 l1_h1.length]),(0,.cells 4 [E_GSSounding a0])],5⟩) [(3,1000000),(4,1000001)] (by intro i e; cases e <;> exact Nat.le_of_ble_eq_true rfl) (by kernel_rfl) (mkInto (ks := [1,4,5,6,7,20,21,22]) (ys := [.mp 0 0 0,.mp 1 0 0,.sl true [],.mp 2 0 0,.fn 106 [.mp 2 0 0,.mp 1 0 0],.sl false (a0.p.events.map E_GEvent),.i (a0.p.events.length : Int),.i 0]) (by kernel_rfl) (by kernel_rfl) (.k (.mp rfl rfl) (.k (.mp rfl rfl) (.k (.n) (.k (.mp rfl rfl) (.k (.f (.k (.mp rfl rfl) (.k (.mp rfl rfl) .z))) (.k (.c (cleanMap _ _ cl_GEvent)) (.k (.c rfl) (.k (.c rfl) .z)))))))) (.n rfl rfl rfl (.n rfl rfl rfl (.k (x' := .cells 15 [.agg ((List.replicate 15 (0 : Int)).map AV.i)]) (by kernel_rfl) (.cells (.k (.a (.r (cleanMap _ _ cl_i))) .z)) (.k (x' := .cells 1 [.sl true []]) (by kernel_rfl) (.cells (.k (.n) .z)) (.k (x' := .cells 4 [E_GSSounding a0]) (by kernel_rfl) (.cells (.k (.c (cl_GSSounding a0)) .z)) .z)))))) ?_ --@I 3 |(.k (.mp rfl rfl) (.k (.mp rfl rfl) (.k (.ms rfl rfl) (.k (.mp rfl rfl) (.k (.f (.k (.mp rfl rfl) (.k (.mp rfl rfl) .z))) (.k (.c (cleanMap _ _ cl_GEvent)) (.k (.c rfl) (.k (.c rfl) .z))))))))|(.k (x' := .cells 5 (l1_5.map E_GSPress)) (by kernel_rfl) (.cells (.r (cleanMap _ _ cl_GSPress))) (.k (x' := .cells 5 (l1_h1.map E_GNote)) (by kernel_rfl) (.cells (.r (cleanMap _ _ cl_GNote))) (.k (x' := .cells 15 [.agg (l1_h2.map AV.i)]) (by kernel_rfl) (.cells (.k (.a (.r (cleanMap _ _ cl_i))) .z)) (.k (x' := .cells 1 [.ms 3 0 l1_h1.length]) (by kernel_rfl) (.cells (.k (.ms rfl rfl) .z)) (.k (x' := .cells 4 [E_GSSounding a0]) (by kernel_rfl) (.cells (.k (.c (cl_GSSounding a0)) .z)) .z)))))|0
  rintro ⟨l1_h1,l1_5,l1_h2,l1_22⟩ out hl1 rl1
  refine run1z (c74 17) [] [1,4,5,6,7,20,21,22,23] [.mp 0 0 0,.mp 1 0 0,.ms 4 0 l1_5.length,.mp 2 0 0,.fn 106 [.mp 2 0 0,.mp 1 0 0],.sl false (a0.p.events.map E_GEvent),.i (a0.p.events.length : Int),.i l1_22,.bool (decide (l1_22 < (a0.p.events.length : Int)))] ⟨[(4,.cells 5 (l1_5.map E_GSPress)),(3,.cells 5 (l1_h1.map E_GNote)),(2,.cells 15 [.agg (l1_h2.map AV.i)]),(1,.cells 1 [.ms 3 0 l1_h1.length]),(0,.cells 4 [E_GSSounding a0])],5⟩ _ (by kernel_rfl) cj0 ?_
  refine run_s (c74 18) (c74 21) (by kernel_rfl) ?_
  rcases iteE hl1 with ⟨hc1,hl1⟩ | ⟨hc1,hl1⟩
  ·refine run_cT 23 (c74 19) (c74 20) (decide (l1_22 < (a0.p.events.length : Int))) hc1 (by kernel_rfl) (by kernel_rfl) ?_
   refine run_k (by kernel_rfl) ?_
   refine thenN ?_
   refine run_s (c74 22) (c74 78) (by kernel_rfl) ?_
   refine run_b 1 (c74 23) (by kernel_rfl) ?_
   obtain ⟨y2,hy2,hl1⟩ := bindE hl1
   refine run1z (c74 25) [{},{ k := 1,x := E_GEvent y2 }] [1,4,5,6,7,8,9,20,21,22] [.mp 0 0 0,.mp 1 0 0,.ms 4 0 l1_5.length,.mp 2 0 0,.fn 106 [.mp 2 0 0,.mp 1 0 0],.i l1_22,.mp 5 0 0,.sl false (a0.p.events.map E_GEvent),.i (a0.p.events.length : Int),.i l1_22] ⟨[(5,.cells 6 [E_GEvent y2]),(4,.cells 5 (l1_5.map E_GSPress)),(3,.cells 5 (l1_h1.map E_GNote)),(2,.cells 15 [.agg (l1_h2.map AV.i)]),(1,.cells 1 [.ms 3 0 l1_h1.length]),(0,.cells 4 [E_GSSounding a0])],6⟩ _ (by kernel_rfl) (cjC ((ixE hy2).1) (cj1 (mapGet E_GEvent (ixE hy2).2))) ?_
   obtain ⟨y3,hy3,hl1⟩ := bindE hl1
   refine run1z (c74 27) [{},{},{},{ k := 1,x := AV.i y3 }] [1,4,5,6,7,8,9,10,20,21,22] [.mp 0 0 0,.mp 1 0 0,.ms 4 0 l1_5.length,.mp 2 0 0,.fn 106 [.mp 2 0 0,.mp 1 0 0],.i l1_22,.mp 5 0 0,.i y3,.sl false (a0.p.events.map E_GEvent),.i (a0.p.events.length : Int),.i l1_22] ⟨[(5,.cells 6 [E_GEvent y2]),(4,.cells 5 (l1_5.map E_GSPress)),(3,.cells 5 (l1_h1.map E_GNote)),(2,.cells 15 [.agg (l1_h2.map AV.i)]),(1,.cells 1 [.ms 3 0 l1_h1.length]),(0,.cells 4 [E_GSSounding a0])],6⟩ _ (by kernel_rfl) (cjC ((ixE hy3).1) (cj1 (mapGet AV.i (ixE hy3).2))) ?_
   obtain ⟨oj2,hj2,hl1⟩ := bindE hl1
   refine run_jq (c74 28) (c74 48) (fun ((j2_h1,j2_h2) : (List GNote × List Int)) => (zipE [1,4,5,6,7,8,9,10,20,21,22] [.mp 0 0 0,.mp 1 0 0,.ms 4 0 l1_5.length,.mp 2 0 0,.fn 106 [.mp 2 0 0,.mp 1 0 0],.i l1_22,.mp 5 0 0,.i y3,.sl false (a0.p.events.map E_GEvent),.i (a0.p.events.length : Int),.i l1_22])) (fun ((j2_h1,j2_h2) : (List GNote × List Int)) => ⟨[(5,.cells 6 [E_GEvent y2]),(4,.cells 5 (l1_5.map E_GSPress)),(3,.cells 5 (j2_h1.map E_GNote)),(2,.cells 15 [.agg (j2_h2.map AV.i)]),(1,.cells 1 [.ms 3 0 j2_h1.length]),(0,.cells 4 [E_GSSounding a0])],6⟩) (fun j => oj2 = j) (by kernel_rfl) (fun kj2 => ?_) ?_
   ·obtain ⟨j3_40,hj3,hj2⟩ := bindE hj2
    refine run_gq (c74 30) (fun (j3_40 : Bool) => (zipE [1,4,5,6,7,8,9,10,20,21,22,40] [.mp 0 0 0,.mp 1 0 0,.ms 4 0 l1_5.length,.mp 2 0 0,.fn 106 [.mp 2 0 0,.mp 1 0 0],.i l1_22,.mp 5 0 0,.i y3,.sl false (a0.p.events.map E_GEvent),.i (a0.p.events.length : Int),.i l1_22,.bool j3_40])) (fun (j3_40 : Bool) => ⟨[(5,.cells 6 [E_GEvent y2]),(4,.cells 5 (l1_5.map E_GSPress)),(3,.cells 5 (l1_h1.map E_GNote)),(2,.cells 15 [.agg (l1_h2.map AV.i)]),(1,.cells 1 [.ms 3 0 l1_h1.length]),(0,.cells 4 [E_GSSounding a0])],6⟩) (fun j => j3_40 = j) (fun kj3 => ?_) ?_
    ·rcases iteE hj3 with ⟨hc4,hj3⟩ | ⟨hc4,hj3⟩
     ·replace hj3 := Option.some.inj hj3; subst hj3
      exact run1z (c74 30) [{},{},{ k := 1,n := y2.stops.length },{},{},{},{},{},{ k := 1,b := true }] [1,4,5,6,7,8,9,10,20,21,22,40] [.mp 0 0 0,.mp 1 0 0,.ms 4 0 l1_5.length,.mp 2 0 0,.fn 106 [.mp 2 0 0,.mp 1 0 0],.i l1_22,.mp 5 0 0,.i y3,.sl false (a0.p.events.map E_GEvent),.i (a0.p.events.length : Int),.i l1_22,.bool (!y2.tie)] ⟨[(5,.cells 6 [E_GEvent y2]),(4,.cells 5 (l1_5.map E_GSPress)),(3,.cells 5 (l1_h1.map E_GNote)),(2,.cells 15 [.agg (l1_h2.map AV.i)]),(1,.cells 1 [.ms 3 0 l1_h1.length]),(0,.cells 4 [E_GSSounding a0])],6⟩ _ (by kernel_rfl) (cjC (mapLen y2.stops E_GStop) (cjC (hc4) (cjC (hc4) (cjC (hc4) (cj1 (hc4)))))) (kj3 (!y2.tie) rfl)
     ·replace hj3 := Option.some.inj hj3; subst hj3
      exact run1z (c74 30) [{},{},{ k := 1,n := y2.stops.length },{},{},{ g := false },{ g := false },{ g := false },{ k := 1,b := false }] [1,4,5,6,7,8,9,10,20,21,22,40] [.mp 0 0 0,.mp 1 0 0,.ms 4 0 l1_5.length,.mp 2 0 0,.fn 106 [.mp 2 0 0,.mp 1 0 0],.i l1_22,.mp 5 0 0,.i y3,.sl false (a0.p.events.map E_GEvent),.i (a0.p.events.length : Int),.i l1_22,.bool false] ⟨[(5,.cells 6 [E_GEvent y2]),(4,.cells 5 (l1_5.map E_GSPress)),(3,.cells 5 (l1_h1.map E_GNote)),(2,.cells 15 [.agg (l1_h2.map AV.i)]),(1,.cells 1 [.ms 3 0 l1_h1.length]),(0,.cells 4 [E_GSSounding a0])],6⟩ _ (by kernel_rfl) (cjC (mapLen y2.stops E_GStop) (cjC (hc4) (cjC (hc4) (cjC (hc4) (cj1 (hc4)))))) (kj3 false rfl)
    ·rintro _ rfl
     rcases iteE hj2 with ⟨hc5,hj2⟩ | ⟨hc5,hj2⟩
     ·refine run_cT 40 (c74 31) (c74 47) j3_40 hc5 (by kernel_rfl) (by kernel_rfl) ?_
      refine run1z (c74 33) [] [1,4,5,6,7,8,9,10,20,21,22,41] [.mp 0 0 0,.mp 1 0 0,.ms 4 0 l1_5.length,.mp 2 0 0,.fn 106 [.mp 2 0 0,.mp 1 0 0],.i l1_22,.mp 5 0 0,.i y3,.sl false (a0.p.events.map E_GEvent),.i (a0.p.events.length : Int),.i l1_22,.i 0] ⟨[(5,.cells 6 [E_GEvent y2]),(4,.cells 5 (l1_5.map E_GSPress)),(3,.cells 5 (l1_h1.map E_GNote)),(2,.cells 15 [.agg (l1_h2.map AV.i)]),(1,.cells 1 [.ms 3 0 l1_h1.length]),(0,.cells 4 [E_GSSounding a0])],6⟩ _ (by kernel_rfl) cj0 ?_
      obtain ⟨ol4x,hll4x,hj2⟩ := bindE hj2
      refine run_tq (fun ((l4x_h1,l4x_h2) : (List GNote × List Int)) => (zipE [1,4,5,6,7,8,9,10,20,21,22] [.mp 0 0 0,.mp 1 0 0,.ms 4 0 l1_5.length,.mp 2 0 0,.fn 106 [.mp 2 0 0,.mp 1 0 0],.i l1_22,.mp 5 0 0,.i y3,.sl false (a0.p.events.map E_GEvent),.i (a0.p.events.length : Int),.i l1_22])) (fun ((l4x_h1,l4x_h2) : (List GNote × List Int)) => ⟨[(5,.cells 6 [E_GEvent y2]),(4,.cells 5 (l1_5.map E_GSPress)),(3,.cells 5 (l4x_h1.map E_GNote)),(2,.cells 15 [.agg (l4x_h2.map AV.i)]),(1,.cells 1 [.ms 3 0 l4x_h1.length]),(0,.cells 4 [E_GSSounding a0])],6⟩) (fun j => ol4x = j) (fun kl4 => ?_) ?_
      ·refine run_b 2 (c74 34) (by kernel_rfl) ?_
       refine run_l (c74 35) _ hll4x (fun ((l4_h1,l4_h2,l4_41) : (List GNote × List Int × Int)) => (zipE [1,4,5,6,7,8,9,10,20,21,22,41] [.mp 0 0 0,.mp 1 0 0,.ms 4 0 l1_5.length,.mp 2 0 0,.fn 106 [.mp 2 0 0,.mp 1 0 0],.i l1_22,.mp 5 0 0,.i y3,.sl false (a0.p.events.map E_GEvent),.i (a0.p.events.length : Int),.i l1_22,.i l4_41])) (fun ((l4_h1,l4_h2,l4_41) : (List GNote × List Int × Int)) => ⟨[(5,.cells 6 [E_GEvent y2]),(4,.cells 5 (l1_5.map E_GSPress)),(3,.cells 5 (l4_h1.map E_GNote)),(2,.cells 15 [.agg (l4_h2.map AV.i)]),(1,.cells 1 [.ms 3 0 l4_h1.length]),(0,.cells 4 [E_GSSounding a0])],6⟩) [] (by intro i e; cases e <;> exact Nat.le_of_ble_eq_true rfl) (by kernel_rfl) (mkInto (ks := [1,4,5,6,7,8,9,10,20,21,22,41]) (ys := [.mp 0 0 0,.mp 1 0 0,.ms 4 0 l1_5.length,.mp 2 0 0,.fn 106 [.mp 2 0 0,.mp 1 0 0],.i l1_22,.mp 5 0 0,.i y3,.sl false (a0.p.events.map E_GEvent),.i (a0.p.events.length : Int),.i l1_22,.i 0]) (by kernel_rfl) (by kernel_rfl) (.k (.mp rfl rfl) (.k (.mp rfl rfl) (.k (.ms rfl rfl) (.k (.mp rfl rfl) (.k (.f (.k (.mp rfl rfl) (.k (.mp rfl rfl) .z))) (.k (.c rfl) (.k (.mp rfl rfl) (.k (.c rfl) (.k (.c (cleanMap _ _ cl_GEvent)) (.k (.c rfl) (.k (.c rfl) (.k (.c rfl) .z)))))))))))) (.k (x' := .cells 6 [E_GEvent y2]) (by kernel_rfl) (.cells (.k (.c (cl_GEvent y2)) .z)) (.k (x' := .cells 5 (l1_5.map E_GSPress)) (by kernel_rfl) (.cells (.r (cleanMap _ _ cl_GSPress))) (.k (x' := .cells 5 (l1_h1.map E_GNote)) (by kernel_rfl) (.cells (.r (cleanMap _ _ cl_GNote))) (.k (x' := .cells 15 [.agg (l1_h2.map AV.i)]) (by kernel_rfl) (.cells (.k (.a (.r (cleanMap _ _ cl_i))) .z)) (.k (x' := .cells 1 [.ms 3 0 l1_h1.length]) (by kernel_rfl) (.cells (.k (.ms rfl rfl) .z)) (.k (x' := .cells 4 [E_GSSounding a0]) (by kernel_rfl) (.cells (.k (.c (cl_GSSounding a0)) .z)) .z))))))) ?_ --@X 6 |(.k (.mp rfl rfl) (.k (.mp rfl rfl) (.k (.ms rfl rfl) (.k (.mp rfl rfl) (.k (.f (.k (.mp rfl rfl) (.k (.mp rfl rfl) .z))) (.k (.c rfl) (.k (.mp rfl rfl) (.k (.c rfl) (.k (.c (cleanMap _ _ cl_GEvent)) (.k (.c rfl) (.k (.c rfl) (.k (.c rfl) .z))))))))))))|(.k (x' := .cells 6 [E_GEvent y2]) (by kernel_rfl) (.cells (.k (.c (cl_GEvent y2)) .z)) (.k (x' := .cells 5 (l1_5.map E_GSPress)) (by kernel_rfl) (.cells (.r (cleanMap _ _ cl_GSPress))) (.k (x' := .cells 5 (l4_h1.map E_GNote)) (by kernel_rfl) (.cells (.r (cleanMap _ _ cl_GNote))) (.k (x' := .cells 15 [.agg (l4_h2.map AV.i)]) (by kernel_rfl) (.cells (.k (.a (.r (cleanMap _ _ cl_i))) .z)) (.k (x' := .cells 1 [.ms 3 0 l4_h1.length]) (by kernel_rfl) (.cells (.k (.ms rfl rfl) .z)) (.k (x' := .cells 4 [E_GSSounding a0]) (by kernel_rfl) (.cells (.k (.c (cl_GSSounding a0)) .z)) .z))))))|0
       rintro ⟨l4_h1,l4_h2,l4_41⟩ out hl4 rl4
       refine run1z (c74 37) [] [1,4,5,6,7,8,9,10,20,21,22,41,42] [.mp 0 0 0,.mp 1 0 0,.ms 4 0 l1_5.length,.mp 2 0 0,.fn 106 [.mp 2 0 0,.mp 1 0 0],.i l1_22,.mp 5 0 0,.i y3,.sl false (a0.p.events.map E_GEvent),.i (a0.p.events.length : Int),.i l1_22,.i l4_41,.bool (decide (l4_41 < 15))] ⟨[(5,.cells 6 [E_GEvent y2]),(4,.cells 5 (l1_5.map E_GSPress)),(3,.cells 5 (l4_h1.map E_GNote)),(2,.cells 15 [.agg (l4_h2.map AV.i)]),(1,.cells 1 [.ms 3 0 l4_h1.length]),(0,.cells 4 [E_GSSounding a0])],6⟩ _ (by kernel_rfl) cj0 ?_
       refine run_s (c74 38) (c74 41) (by kernel_rfl) ?_
       rcases iteE hl4 with ⟨hc6,hl4⟩ | ⟨hc6,hl4⟩
       ·refine run_cT 42 (c74 39) (c74 40) (decide (l4_41 < 15)) hc6 (by kernel_rfl) (by kernel_rfl) ?_
        refine run_k (by kernel_rfl) ?_
        refine thenN ?_
        refine run_s (c74 42) (c74 46) (by kernel_rfl) ?_
        refine run_b 3 (c74 43) (by kernel_rfl) ?_
        refine run1z (c74 45) [] [1,4,5,6,7,8,9,10,11,20,21,22,41] [.mp 0 0 0,.mp 1 0 0,.ms 4 0 l1_5.length,.mp 2 0 0,.fn 106 [.mp 2 0 0,.mp 1 0 0],.i l1_22,.mp 5 0 0,.i y3,.i l4_41,.sl false (a0.p.events.map E_GEvent),.i (a0.p.events.length : Int),.i l1_22,.i l4_41] ⟨[(5,.cells 6 [E_GEvent y2]),(4,.cells 5 (l1_5.map E_GSPress)),(3,.cells 5 (l4_h1.map E_GNote)),(2,.cells 15 [.agg (l4_h2.map AV.i)]),(1,.cells 1 [.ms 3 0 l4_h1.length]),(0,.cells 4 [E_GSSounding a0])],6⟩ _ (by kernel_rfl) cj0 ?_
        obtain ⟨r7,hr7,hl4⟩ := bindE hl4
        refine run0z [{},{},{},{ c := some (.tup [],⟨[(5,.cells 6 [E_GEvent y2]),(4,.cells 5 (l1_5.map E_GSPress)),(3,.cells 5 (r7.1.map E_GNote)),(2,.cells 15 [.agg (r7.2.map AV.i)]),(1,.cells 1 [.ms 3 0 r7.1.length]),(0,.cells 4 [E_GSSounding a0])],6⟩) }] [1,4,5,6,7,8,9,10,20,21,22,41] [.mp 0 0 0,.mp 1 0 0,.ms 4 0 l1_5.length,.mp 2 0 0,.fn 106 [.mp 2 0 0,.mp 1 0 0],.i l1_22,.mp 5 0 0,.i y3,.sl false (a0.p.events.map E_GEvent),.i (a0.p.events.length : Int),.i l1_22,.i l4_41] ⟨[(5,.cells 6 [E_GEvent y2]),(4,.cells 5 (l1_5.map E_GSPress)),(3,.cells 5 (r7.1.map E_GNote)),(2,.cells 15 [.agg (r7.2.map AV.i)]),(1,.cells 1 [.ms 3 0 r7.1.length]),(0,.cells 4 [E_GSSounding a0])],6⟩ _ (by kernel_rfl) (cj1 (callF (f106_ok l4_41 y3 l4_h2 l4_h1 _ hr7) [(0,2),(1,1),(2,3)] [(3,2),(1,1),(2,0)] [5,4,0] [.i l4_41,.i y3,.mp 2 0 0,.mp 1 0 0] ⟨[(5,.cells 6 [E_GEvent y2]),(4,.cells 5 (l1_5.map E_GSPress)),(3,.cells 5 (l4_h1.map E_GNote)),(2,.cells 15 [.agg (l4_h2.map AV.i)]),(1,.cells 1 [.ms 3 0 l4_h1.length]),(0,.cells 4 [E_GSSounding a0])],6⟩ (.tup []) ⟨[(5,.cells 6 [E_GEvent y2]),(4,.cells 5 (l1_5.map E_GSPress)),(3,.cells 5 (r7.1.map E_GNote)),(2,.cells 15 [.agg (r7.2.map AV.i)]),(1,.cells 1 [.ms 3 0 r7.1.length]),(0,.cells 4 [E_GSSounding a0])],6⟩ (by kernel_rfl) (.k (.c rfl) (.k (.c rfl) (.k (.mp rfl rfl) (.k (.mp rfl rfl) .z)))) (.t .z) (.k (x' := .cells 5 (l4_h1.map E_GNote)) (by kernel_rfl) (.cells (.r (cleanMap _ _ cl_GNote))) (.k (x' := .cells 1 [.ms 3 0 l4_h1.length]) (by kernel_rfl) (.cells (.k (.ms rfl rfl) .z)) (.k (x' := .cells 15 [.agg (l4_h2.map AV.i)]) (by kernel_rfl) (.cells (.k (.a (.r (cleanMap _ _ cl_i))) .z)) .z))) (.f rfl (by kernel_rfl) (.f rfl (by kernel_rfl) (.d (x' := .cells 5 (r7.1.map E_GNote)) rfl (by kernel_rfl) (.cells (.r (cleanMap _ _ cl_GNote))) (.d (x' := .cells 15 [.agg (r7.2.map AV.i)]) rfl (by kernel_rfl) (.cells (.k (.a (.r (cleanMap _ _ cl_i))) .z)) (.d (x' := .cells 1 [.ms 2 0 r7.1.length]) rfl (by kernel_rfl) (.cells (.k (.ms rfl rfl) .z)) (.f rfl (by kernel_rfl) .z)))))))) ?_
        refine inbN ?_
        refine thenN ?_
        refine run0z [] [1,4,5,6,7,8,9,10,20,21,22,41] [.mp 0 0 0,.mp 1 0 0,.ms 4 0 l1_5.length,.mp 2 0 0,.fn 106 [.mp 2 0 0,.mp 1 0 0],.i l1_22,.mp 5 0 0,.i y3,.sl false (a0.p.events.map E_GEvent),.i (a0.p.events.length : Int),.i l1_22,.i (wr (l4_41 + 1))] ⟨[(5,.cells 6 [E_GEvent y2]),(4,.cells 5 (l1_5.map E_GSPress)),(3,.cells 5 (r7.1.map E_GNote)),(2,.cells 15 [.agg (r7.2.map AV.i)]),(1,.cells 1 [.ms 3 0 r7.1.length]),(0,.cells 4 [E_GSSounding a0])],6⟩ _ (by kernel_rfl) cj0 ?_
        replace hl4 := Option.some.inj hl4; subst hl4
        exact ⟨_,rfl,pi [],mkInto (ks := [1,4,5,6,7,8,9,10,20,21,22,41]) (ys := [.mp 0 0 0,.mp 1 0 0,.ms 4 0 l1_5.length,.mp 2 0 0,.fn 106 [.mp 2 0 0,.mp 1 0 0],.i l1_22,.mp 5 0 0,.i y3,.sl false (a0.p.events.map E_GEvent),.i (a0.p.events.length : Int),.i l1_22,.i (wr (l4_41 + 1))]) (by kernel_rfl) (by kernel_rfl) (.k (.mp rfl rfl) (.k (.mp rfl rfl) (.k (.ms rfl rfl) (.k (.mp rfl rfl) (.k (.f (.k (.mp rfl rfl) (.k (.mp rfl rfl) .z))) (.k (.c rfl) (.k (.mp rfl rfl) (.k (.c rfl) (.k (.c (cleanMap _ _ cl_GEvent)) (.k (.c rfl) (.k (.c rfl) (.k (.c rfl) .z)))))))))))) (.k (x' := .cells 6 [E_GEvent y2]) (by kernel_rfl) (.cells (.k (.c (cl_GEvent y2)) .z)) (.k (x' := .cells 5 (l1_5.map E_GSPress)) (by kernel_rfl) (.cells (.r (cleanMap _ _ cl_GSPress))) (.k (x' := .cells 5 (r7.1.map E_GNote)) (by kernel_rfl) (.cells (.r (cleanMap _ _ cl_GNote))) (.k (x' := .cells 15 [.agg (r7.2.map AV.i)]) (by kernel_rfl) (.cells (.k (.a (.r (cleanMap _ _ cl_i))) .z)) (.k (x' := .cells 1 [.ms 3 0 r7.1.length]) (by kernel_rfl) (.cells (.k (.ms rfl rfl) .z)) (.k (x' := .cells 4 [E_GSSounding a0]) (by kernel_rfl) (.cells (.k (.c (cl_GSSounding a0)) .z)) .z))))))⟩ --@X 0
       ·refine run_cF 42 (c74 39) (c74 40) (decide (l4_41 < 15)) hc6 (by kernel_rfl) (by kernel_rfl) ?_
        replace hl4 := Option.some.inj hl4; subst hl4
        have hr := rl4 _ rfl
        subst hr
        refine awp_p [1,4,5,6,7,8,9,10,20,21,22] [5,4,3,2,1,0] (zipE [1,4,5,6,7,8,9,10,20,21,22] [.mp 0 0 0,.mp 1 0 0,.ms 4 0 l1_5.length,.mp 2 0 0,.fn 106 [.mp 2 0 0,.mp 1 0 0],.i l1_22,.mp 5 0 0,.i y3,.sl false (a0.p.events.map E_GEvent),.i (a0.p.events.length : Int),.i l1_22]) ⟨[(5,.cells 6 [E_GEvent y2]),(4,.cells 5 (l1_5.map E_GSPress)),(3,.cells 5 (l4_h1.map E_GNote)),(2,.cells 15 [.agg (l4_h2.map AV.i)]),(1,.cells 1 [.ms 3 0 l4_h1.length]),(0,.cells 4 [E_GSSounding a0])],6⟩ (by kernel_rfl) (?_)
        refine run_e 2 (by kernel_rfl) ?_
        refine thenE ?_
        refine ⟨⟨_,rfl⟩,?_⟩
        refine inbE ?_
        exact kl4 (l4_h1,l4_h2) rfl
      ·rintro ⟨l4x_h1,l4x_h2⟩ rfl
       replace hj2 := Option.some.inj hj2; subst hj2
       refine thenN ?_
       exact kj2 (l4x_h1,l4x_h2) rfl
     ·refine run_cF 40 (c74 31) (c74 47) j3_40 hc5 (by kernel_rfl) (by kernel_rfl) ?_
      replace hj2 := Option.some.inj hj2; subst hj2
      refine awp_p [1,4,5,6,7,8,9,10,20,21,22] [5,4,3,2,1,0] (zipE [1,4,5,6,7,8,9,10,20,21,22] [.mp 0 0 0,.mp 1 0 0,.ms 4 0 l1_5.length,.mp 2 0 0,.fn 106 [.mp 2 0 0,.mp 1 0 0],.i l1_22,.mp 5 0 0,.i y3,.sl false (a0.p.events.map E_GEvent),.i (a0.p.events.length : Int),.i l1_22]) ⟨[(5,.cells 6 [E_GEvent y2]),(4,.cells 5 (l1_5.map E_GSPress)),(3,.cells 5 (l1_h1.map E_GNote)),(2,.cells 15 [.agg (l1_h2.map AV.i)]),(1,.cells 1 [.ms 3 0 l1_h1.length]),(0,.cells 4 [E_GSSounding a0])],6⟩ (by kernel_rfl) (?_)
      refine run_k (by kernel_rfl) ?_
      refine thenN ?_
      exact kj2 (l1_h1,l1_h2) rfl
   ·rintro ⟨j2_h1,j2_h2⟩ rfl
    refine run1z (c74 50) [{},{},{ k := 1,n := y2.stops.length }] [1,4,5,6,7,8,10,20,21,22,50,51,52] [.mp 0 0 0,.mp 1 0 0,.ms 4 0 l1_5.length,.mp 2 0 0,.fn 106 [.mp 2 0 0,.mp 1 0 0],.i l1_22,.i y3,.sl false (a0.p.events.map E_GEvent),.i (a0.p.events.length : Int),.i l1_22,.sl false (y2.stops.map E_GStop),.i (y2.stops.length : Int),.i 0] ⟨[(4,.cells 5 (l1_5.map E_GSPress)),(3,.cells 5 (j2_h1.map E_GNote)),(2,.cells 15 [.agg (j2_h2.map AV.i)]),(1,.cells 1 [.ms 3 0 j2_h1.length]),(0,.cells 4 [E_GSSounding a0])],6⟩ _ (by kernel_rfl) (cj1 (mapLen y2.stops E_GStop)) ?_
    obtain ⟨ol5x,hll5x,hl1⟩ := bindE hl1
    refine run_tq (fun ((l5x_h1,l5x_5,l5x_h2) : (List GNote × List GSPress × List Int)) => (zipE [1,4,5,6,7,20,21,22] [.mp 0 0 0,.mp 1 0 0,.ms 7 0 l5x_5.length,.mp 2 0 0,.fn 106 [.mp 2 0 0,.mp 1 0 0],.sl false (a0.p.events.map E_GEvent),.i (a0.p.events.length : Int),.i l1_22])) (fun ((l5x_h1,l5x_5,l5x_h2) : (List GNote × List GSPress × List Int)) => ⟨[(7,.cells 5 (l5x_5.map E_GSPress)),(6,.cells 5 (l5x_h1.map E_GNote)),(2,.cells 15 [.agg (l5x_h2.map AV.i)]),(1,.cells 1 [.ms 6 0 l5x_h1.length]),(0,.cells 4 [E_GSSounding a0])],8⟩) (fun j => ol5x = j) (fun kl5 => ?_) ?_
    ·refine run_b 4 (c74 51) (by kernel_rfl) ?_
     refine run_l (c74 52) _ hll5x (fun ((l5_h1,l5_5,l5_h2,l5_52) : (List GNote × List GSPress × List Int × Int)) => (zipE [1,4,5,6,7,8,10,20,21,22,50,51,52] [.mp 0 0 0,.mp 1 0 0,.ms 7 0 l5_5.length,.mp 2 0 0,.fn 106 [.mp 2 0 0,.mp 1 0 0],.i l1_22,.i y3,.sl false (a0.p.events.map E_GEvent),.i (a0.p.events.length : Int),.i l1_22,.sl false (y2.stops.map E_GStop),.i (y2.stops.length : Int),.i l5_52])) (fun ((l5_h1,l5_5,l5_h2,l5_52) : (List GNote × List GSPress × List Int × Int)) => ⟨[(7,.cells 5 (l5_5.map E_GSPress)),(6,.cells 5 (l5_h1.map E_GNote)),(2,.cells 15 [.agg (l5_h2.map AV.i)]),(1,.cells 1 [.ms 6 0 l5_h1.length]),(0,.cells 4 [E_GSSounding a0])],8⟩) [(6,3),(7,4)] (by intro i e; cases e <;> exact Nat.le_of_ble_eq_true rfl) (by kernel_rfl) (mkInto (ks := [1,4,5,6,7,8,10,20,21,22,50,51,52]) (ys := [.mp 0 0 0,.mp 1 0 0,.ms 4 0 l1_5.length,.mp 2 0 0,.fn 106 [.mp 2 0 0,.mp 1 0 0],.i l1_22,.i y3,.sl false (a0.p.events.map E_GEvent),.i (a0.p.events.length : Int),.i l1_22,.sl false (y2.stops.map E_GStop),.i (y2.stops.length : Int),.i 0]) (by kernel_rfl) (by kernel_rfl) (.k (.mp rfl rfl) (.k (.mp rfl rfl) (.k (.ms rfl rfl) (.k (.mp rfl rfl) (.k (.f (.k (.mp rfl rfl) (.k (.mp rfl rfl) .z))) (.k (.c rfl) (.k (.c rfl) (.k (.c (cleanMap _ _ cl_GEvent)) (.k (.c rfl) (.k (.c rfl) (.k (.c (cleanMap _ _ cl_GStop)) (.k (.c rfl) (.k (.c rfl) .z))))))))))))) (.k (x' := .cells 5 (l1_5.map E_GSPress)) (by kernel_rfl) (.cells (.r (cleanMap _ _ cl_GSPress))) (.k (x' := .cells 5 (j2_h1.map E_GNote)) (by kernel_rfl) (.cells (.r (cleanMap _ _ cl_GNote))) (.k (x' := .cells 15 [.agg (j2_h2.map AV.i)]) (by kernel_rfl) (.cells (.k (.a (.r (cleanMap _ _ cl_i))) .z)) (.k (x' := .cells 1 [.ms 3 0 j2_h1.length]) (by kernel_rfl) (.cells (.k (.ms rfl rfl) .z)) (.k (x' := .cells 4 [E_GSSounding a0]) (by kernel_rfl) (.cells (.k (.c (cl_GSSounding a0)) .z)) .z)))))) ?_ --@I 6 |(.k (.mp rfl rfl) (.k (.mp rfl rfl) (.k (.ms rfl rfl) (.k (.mp rfl rfl) (.k (.f (.k (.mp rfl rfl) (.k (.mp rfl rfl) .z))) (.k (.c rfl) (.k (.c rfl) (.k (.c (cleanMap _ _ cl_GEvent)) (.k (.c rfl) (.k (.c rfl) (.k (.c (cleanMap _ _ cl_GStop)) (.k (.c rfl) (.k (.c rfl) .z)))))))))))))|(.k (x' := .cells 5 (l5_5.map E_GSPress)) (by kernel_rfl) (.cells (.r (cleanMap _ _ cl_GSPress))) (.k (x' := .cells 5 (l5_h1.map E_GNote)) (by kernel_rfl) (.cells (.r (cleanMap _ _ cl_GNote))) (.k (x' := .cells 15 [.agg (l5_h2.map AV.i)]) (by kernel_rfl) (.cells (.k (.a (.r (cleanMap _ _ cl_i))) .z)) (.k (x' := .cells 1 [.ms 6 0 l5_h1.length]) (by kernel_rfl) (.cells (.k (.ms rfl rfl) .z)) (.k (x' := .cells 4 [E_GSSounding a0]) (by kernel_rfl) (.cells (.k (.c (cl_GSSounding a0)) .z)) .z)))))|0
     rintro ⟨l5_h1,l5_5,l5_h2,l5_52⟩ out hl5 rl5
     refine run1z (c74 54) [] [1,4,5,6,7,8,10,20,21,22,50,51,52,53] [.mp 0 0 0,.mp 1 0 0,.ms 7 0 l5_5.length,.mp 2 0 0,.fn 106 [.mp 2 0 0,.mp 1 0 0],.i l1_22,.i y3,.sl false (a0.p.events.map E_GEvent),.i (a0.p.events.length : Int),.i l1_22,.sl false (y2.stops.map E_GStop),.i (y2.stops.length : Int),.i l5_52,.bool (decide (l5_52 < (y2.stops.length : Int)))] ⟨[(7,.cells 5 (l5_5.map E_GSPress)),(6,.cells 5 (l5_h1.map E_GNote)),(2,.cells 15 [.agg (l5_h2.map AV.i)]),(1,.cells 1 [.ms 6 0 l5_h1.length]),(0,.cells 4 [E_GSSounding a0])],8⟩ _ (by kernel_rfl) cj0 ?_
     refine run_s (c74 55) (c74 58) (by kernel_rfl) ?_
     rcases iteE hl5 with ⟨hc8,hl5⟩ | ⟨hc8,hl5⟩
     ·refine run_cT 53 (c74 56) (c74 57) (decide (l5_52 < (y2.stops.length : Int))) hc8 (by kernel_rfl) (by kernel_rfl) ?_
      refine run_k (by kernel_rfl) ?_
      refine thenN ?_
      refine run_s (c74 59) (c74 77) (by kernel_rfl) ?_
      refine run_b 5 (c74 60) (by kernel_rfl) ?_
      obtain ⟨y9,hy9,hl5⟩ := bindE hl5
      refine run1z (c74 62) [{ k := 1,x := E_GStop y9 }] [1,4,5,6,7,8,10,13,20,21,22,50,51,52] [.mp 0 0 0,.mp 1 0 0,.ms 7 0 l5_5.length,.mp 2 0 0,.fn 106 [.mp 2 0 0,.mp 1 0 0],.i l1_22,.i y3,.mp 8 0 0,.sl false (a0.p.events.map E_GEvent),.i (a0.p.events.length : Int),.i l1_22,.sl false (y2.stops.map E_GStop),.i (y2.stops.length : Int),.i l5_52] ⟨[(8,.cells 5 [E_GStop y9]),(7,.cells 5 (l5_5.map E_GSPress)),(6,.cells 5 (l5_h1.map E_GNote)),(2,.cells 15 [.agg (l5_h2.map AV.i)]),(1,.cells 1 [.ms 6 0 l5_h1.length]),(0,.cells 4 [E_GSSounding a0])],9⟩ _ (by kernel_rfl) (cjC ((ixE hy9).1) (cj1 (mapGet E_GStop (ixE hy9).2))) ?_
      obtain ⟨r10,hr10,hl5⟩ := bindE hl5
      refine run1z (c74 64) [{},{},{},{},{ c := some (.tup [],⟨[(8,.cells 5 [E_GStop y9]),(7,.cells 5 (l5_5.map E_GSPress)),(6,.cells 5 (r10.1.map E_GNote)),(2,.cells 15 [.agg (r10.2.map AV.i)]),(1,.cells 1 [.ms 6 0 r10.1.length]),(0,.cells 4 [E_GSSounding a0])],9⟩) }] [1,4,5,6,7,8,10,13,20,21,22,50,51,52] [.mp 0 0 0,.mp 1 0 0,.ms 7 0 l5_5.length,.mp 2 0 0,.fn 106 [.mp 2 0 0,.mp 1 0 0],.i l1_22,.i y3,.mp 8 0 0,.sl false (a0.p.events.map E_GEvent),.i (a0.p.events.length : Int),.i l1_22,.sl false (y2.stops.map E_GStop),.i (y2.stops.length : Int),.i l5_52] ⟨[(8,.cells 5 [E_GStop y9]),(7,.cells 5 (l5_5.map E_GSPress)),(6,.cells 5 (r10.1.map E_GNote)),(2,.cells 15 [.agg (r10.2.map AV.i)]),(1,.cells 1 [.ms 6 0 r10.1.length]),(0,.cells 4 [E_GSSounding a0])],9⟩ _ (by kernel_rfl) (cj1 (callF (f106_ok y9.course y3 l5_h2 l5_h1 _ hr10) [(0,2),(1,1),(2,6)] [(6,2),(1,1),(2,0)] [8,7,0] [.i y9.course,.i y3,.mp 2 0 0,.mp 1 0 0] ⟨[(8,.cells 5 [E_GStop y9]),(7,.cells 5 (l5_5.map E_GSPress)),(6,.cells 5 (l5_h1.map E_GNote)),(2,.cells 15 [.agg (l5_h2.map AV.i)]),(1,.cells 1 [.ms 6 0 l5_h1.length]),(0,.cells 4 [E_GSSounding a0])],9⟩ (.tup []) ⟨[(8,.cells 5 [E_GStop y9]),(7,.cells 5 (l5_5.map E_GSPress)),(6,.cells 5 (r10.1.map E_GNote)),(2,.cells 15 [.agg (r10.2.map AV.i)]),(1,.cells 1 [.ms 6 0 r10.1.length]),(0,.cells 4 [E_GSSounding a0])],9⟩ (by kernel_rfl) (.k (.c rfl) (.k (.c rfl) (.k (.mp rfl rfl) (.k (.mp rfl rfl) .z)))) (.t .z) (.k (x' := .cells 5 (l5_h1.map E_GNote)) (by kernel_rfl) (.cells (.r (cleanMap _ _ cl_GNote))) (.k (x' := .cells 1 [.ms 6 0 l5_h1.length]) (by kernel_rfl) (.cells (.k (.ms rfl rfl) .z)) (.k (x' := .cells 15 [.agg (l5_h2.map AV.i)]) (by kernel_rfl) (.cells (.k (.a (.r (cleanMap _ _ cl_i))) .z)) .z))) (.f rfl (by kernel_rfl) (.f rfl (by kernel_rfl) (.d (x' := .cells 5 (r10.1.map E_GNote)) rfl (by kernel_rfl) (.cells (.r (cleanMap _ _ cl_GNote))) (.d (x' := .cells 15 [.agg (r10.2.map AV.i)]) rfl (by kernel_rfl) (.cells (.k (.a (.r (cleanMap _ _ cl_i))) .z)) (.d (x' := .cells 1 [.ms 2 0 r10.1.length]) rfl (by kernel_rfl) (.cells (.k (.ms rfl rfl) .z)) (.f rfl (by kernel_rfl) .z)))))))) ?_
      obtain ⟨r11,hr11,hl5⟩ := bindE hl5
      refine run1z (c74 66) [{},{},{},{},{},{},{},{},{ c := some (.tup [.i r11.1,.i r11.2],⟨[(8,.cells 5 [E_GStop y9]),(7,.cells 5 (l5_5.map E_GSPress)),(6,.cells 5 (r10.1.map E_GNote)),(2,.cells 15 [.agg (r10.2.map AV.i)]),(1,.cells 1 [.ms 6 0 r10.1.length]),(0,.cells 4 [E_GSSounding a0])],9⟩) }] [1,4,5,6,7,8,10,13,14,20,21,22,50,51,52] [.mp 0 0 0,.mp 1 0 0,.ms 7 0 l5_5.length,.mp 2 0 0,.fn 106 [.mp 2 0 0,.mp 1 0 0],.i l1_22,.i y3,.mp 8 0 0,.i r11.1,.sl false (a0.p.events.map E_GEvent),.i (a0.p.events.length : Int),.i l1_22,.sl false (y2.stops.map E_GStop),.i (y2.stops.length : Int),.i l5_52] ⟨[(8,.cells 5 [E_GStop y9]),(7,.cells 5 (l5_5.map E_GSPress)),(6,.cells 5 (r10.1.map E_GNote)),(2,.cells 15 [.agg (r10.2.map AV.i)]),(1,.cells 1 [.ms 6 0 r10.1.length]),(0,.cells 4 [E_GSSounding a0])],9⟩ _ (by kernel_rfl) (cj1 (f107_ok a0.p.instrument (⟨y9.course,y9.fret⟩ : GPlace) _ hr11 ⟨[(8,.cells 5 [E_GStop y9]),(7,.cells 5 (l5_5.map E_GSPress)),(6,.cells 5 (r10.1.map E_GNote)),(2,.cells 15 [.agg (r10.2.map AV.i)]),(1,.cells 1 [.ms 6 0 r10.1.length]),(0,.cells 4 [E_GSSounding a0])],9⟩)) ?_
      obtain ⟨r12,hr12,hl5⟩ := bindE hl5
      refine yun1z (c74 68) [[],[],[1],[],[],[],[5],[0,1,2,3,4,5,6],[],[0,1,2,3,4,5,6,7,8]] [.light 0 false,.light 1 false,.light 2 true,.light 3 false,.light 4 false,.light 5 false,.heavy 6 [2],.light 7 false,.alloc 8,.heavy 9 []] [{},{},{},{},{},{},{ c := some (.i r12,⟨[(8,.cells 5 [E_GStop y9]),(7,.cells 5 (l5_5.map E_GSPress)),(6,.cells 5 (r10.1.map E_GNote)),(2,.cells 15 [.agg (r10.2.map AV.i)]),(1,.cells 1 [.ms 6 0 r10.1.length]),(0,.cells 4 [E_GSSounding a0])],9⟩) }] [1,4,5,6,7,8,10,13,16,20,21,22,50,51,52] [.mp 0 0 0,.mp 1 0 0,.ms 7 0 l5_5.length,.mp 2 0 0,.fn 106 [.mp 2 0 0,.mp 1 0 0],.i l1_22,.i y3,.mp 8 0 0,.mp 9 0 0,.sl false (a0.p.events.map E_GEvent),.i (a0.p.events.length : Int),.i l1_22,.sl false (y2.stops.map E_GStop),.i (y2.stops.length : Int),.i l5_52] ⟨[(9,.cells 5 [.agg [.i l1_22,.i y9.course,.i r11.1,.i y3,.i r12]]),(8,.cells 5 [E_GStop y9]),(7,.cells 5 (l5_5.map E_GSPress)),(6,.cells 5 (r10.1.map E_GNote)),(2,.cells 15 [.agg (r10.2.map AV.i)]),(1,.cells 1 [.ms 6 0 r10.1.length]),(0,.cells 4 [E_GSSounding a0])],10⟩ _ (by kernel_rfl) (cjC (f92_ok a0 _ hr12 ⟨[(8,.cells 5 [E_GStop y9]),(7,.cells 5 (l5_5.map E_GSPress)),(6,.cells 5 (r10.1.map E_GNote)),(2,.cells 15 [.agg (r10.2.map AV.i)]),(1,.cells 1 [.ms 6 0 r10.1.length]),(0,.cells 4 [E_GSSounding a0])],9⟩) (cj1 (@Eq.refl AV (.i y9.course)))) ?_
      obtain ⟨oj6,hj6,hl5⟩ := bindE hl5
      refine run_jq (c74 69) (c74 74) (fun ((j6_h2,j6_h9_4) : (List Int × Int)) => (zipE [1,4,5,6,7,8,10,13,16,20,21,22,50,51,52] [.mp 0 0 0,.mp 1 0 0,.ms 7 0 l5_5.length,.mp 2 0 0,.fn 106 [.mp 2 0 0,.mp 1 0 0],.i l1_22,.i y3,.mp 8 0 0,.mp 9 0 0,.sl false (a0.p.events.map E_GEvent),.i (a0.p.events.length : Int),.i l1_22,.sl false (y2.stops.map E_GStop),.i (y2.stops.length : Int),.i l5_52])) (fun ((j6_h2,j6_h9_4) : (List Int × Int)) => ⟨[(9,.cells 5 [.agg [.i l1_22,.i y9.course,.i r11.1,.i y3,.i j6_h9_4]]),(8,.cells 5 [E_GStop y9]),(7,.cells 5 (l5_5.map E_GSPress)),(6,.cells 5 (r10.1.map E_GNote)),(2,.cells 15 [.agg (j6_h2.map AV.i)]),(1,.cells 1 [.ms 6 0 r10.1.length]),(0,.cells 4 [E_GSSounding a0])],10⟩) (fun j => oj6 = j) (by kernel_rfl) (fun kj6 => ?_) ?_
      ·refine run1z (c74 71) [] [1,4,5,6,7,8,10,13,16,20,21,22,50,51,52,83] [.mp 0 0 0,.mp 1 0 0,.ms 7 0 l5_5.length,.mp 2 0 0,.fn 106 [.mp 2 0 0,.mp 1 0 0],.i l1_22,.i y3,.mp 8 0 0,.mp 9 0 0,.sl false (a0.p.events.map E_GEvent),.i (a0.p.events.length : Int),.i l1_22,.sl false (y2.stops.map E_GStop),.i (y2.stops.length : Int),.i l5_52,.bool (decide (0 < y9.fret))] ⟨[(9,.cells 5 [.agg [.i l1_22,.i y9.course,.i r11.1,.i y3,.i r12]]),(8,.cells 5 [E_GStop y9]),(7,.cells 5 (l5_5.map E_GSPress)),(6,.cells 5 (r10.1.map E_GNote)),(2,.cells 15 [.agg (r10.2.map AV.i)]),(1,.cells 1 [.ms 6 0 r10.1.length]),(0,.cells 4 [E_GSSounding a0])],10⟩ _ (by kernel_rfl) cj0 ?_
       rcases iteE hj6 with ⟨hc13,hj6⟩ | ⟨hc13,hj6⟩
       ·refine run_cT 83 (c74 72) (c74 73) (decide (0 < y9.fret)) hc13 (by kernel_rfl) (by kernel_rfl) ?_
        obtain ⟨r14,hr14,hj6⟩ := bindE hj6
        obtain ⟨y15,hy15,hj6⟩ := bindE hj6
        refine yun0z [[],[0],[],[],[],[4],[2,3,4,5],[2,3,4,5,6],[0,1,2,3,4,5,6,7],[0,1,2,3,4,5,6,7,8],[0,1,2,3,4,5,6,7,8,9],[0,1,2,3,4,5,6,7,8,9,10]] [.light 0 false,.light 1 true,.light 2 false,.light 3 false,.light 4 false,.light 5 false,.heavy 6 [1],.light 7 false,.light 8 false,.light 9 false,.light 10 false,.heavy 11 []] [{},{},{},{},{},{},{ c := some (.i r14,⟨[(9,.cells 5 [.agg [.i l1_22,.i y9.course,.i r11.1,.i y3,.i r12]]),(8,.cells 5 [E_GStop y9]),(7,.cells 5 (l5_5.map E_GSPress)),(6,.cells 5 (r10.1.map E_GNote)),(2,.cells 15 [.agg (r10.2.map AV.i)]),(1,.cells 1 [.ms 6 0 r10.1.length]),(0,.cells 4 [E_GSSounding a0])],10⟩) },{},{ k := 1,x := AV.i y15 }] [1,4,5,6,7,8,10,13,16,20,21,22,50,51,52] [.mp 0 0 0,.mp 1 0 0,.ms 7 0 l5_5.length,.mp 2 0 0,.fn 106 [.mp 2 0 0,.mp 1 0 0],.i l1_22,.i y3,.mp 8 0 0,.mp 9 0 0,.sl false (a0.p.events.map E_GEvent),.i (a0.p.events.length : Int),.i l1_22,.sl false (y2.stops.map E_GStop),.i (y2.stops.length : Int),.i l5_52] ⟨[(9,.cells 5 [.agg [.i l1_22,.i y9.course,.i r11.1,.i y3,.i y15]]),(8,.cells 5 [E_GStop y9]),(7,.cells 5 (l5_5.map E_GSPress)),(6,.cells 5 (r10.1.map E_GNote)),(2,.cells 15 [.agg (r10.2.map AV.i)]),(1,.cells 1 [.ms 6 0 r10.1.length]),(0,.cells 4 [E_GSSounding a0])],10⟩ _ (by kernel_rfl) (cjC (f108_ok a0 l1_22 y9.hold _ hr14 ⟨[(9,.cells 5 [.agg [.i l1_22,.i y9.course,.i r11.1,.i y3,.i r12]]),(8,.cells 5 [E_GStop y9]),(7,.cells 5 (l5_5.map E_GSPress)),(6,.cells 5 (r10.1.map E_GNote)),(2,.cells 15 [.agg (r10.2.map AV.i)]),(1,.cells 1 [.ms 6 0 r10.1.length]),(0,.cells 4 [E_GSSounding a0])],10⟩) (cjC (@Eq.refl AV (.sl false (a0.onsets.map AV.i))) (cjC ((ixE hy15).1) (cj1 (mapGet AV.i (ixE hy15).2))))) ?_
        replace hj6 := Option.some.inj hj6; subst hj6
        refine thenN ?_
        exact kj6 (r10.2,y15) rfl
       ·refine run_cF 83 (c74 72) (c74 73) (decide (0 < y9.fret)) hc13 (by kernel_rfl) (by kernel_rfl) ?_
        obtain ⟨hn16,hj6⟩ := needE hj6
        obtain ⟨y17,hy17,hj6⟩ := bindE hj6
        refine run0z [{},{},{},{},{},{ k := 1,n := y9.course.toNat },{ k := 1,x := .agg (r10.2.map AV.i),l := [.agg ((r10.2.set y9.course.toNat (wr ((r10.1.length : Int) + 1))).map AV.i)] }] [1,4,5,6,7,8,10,13,16,20,21,22,50,51,52] [.mp 0 0 0,.mp 1 0 0,.ms 7 0 l5_5.length,.mp 2 0 0,.fn 106 [.mp 2 0 0,.mp 1 0 0],.i l1_22,.i y3,.mp 8 0 0,.mp 9 0 0,.sl false (a0.p.events.map E_GEvent),.i (a0.p.events.length : Int),.i l1_22,.sl false (y2.stops.map E_GStop),.i (y2.stops.length : Int),.i l5_52] ⟨[(9,.cells 5 [.agg [.i l1_22,.i y9.course,.i r11.1,.i y3,.i r12]]),(8,.cells 5 [E_GStop y9]),(7,.cells 5 (l5_5.map E_GSPress)),(6,.cells 5 (r10.1.map E_GNote)),(2,.cells 15 [.agg ((r10.2.set y9.course.toNat (wr ((r10.1.length : Int) + 1))).map AV.i)]),(1,.cells 1 [.ms 6 0 r10.1.length]),(0,.cells 4 [E_GSSounding a0])],10⟩ _ (by kernel_rfl) (cjC ((ixE hy17).1) (cjC (hn16) (cjC (vecOff y9.course.toNat) (cjC (@Eq.refl (Option AV) (some (.agg (r10.2.map AV.i)))) (cjC (vecLe AV.i hy17) (cj1 (vecSet AV.i hy17 (wr ((r10.1.length : Int) + 1))))))))) ?_
        replace hj6 := Option.some.inj hj6; subst hj6
        refine thenN ?_
        exact kj6 ((r10.2.set y9.course.toNat (wr ((r10.1.length : Int) + 1))),r12) rfl
      ·rintro ⟨j6_h2,j6_h9_4⟩ rfl
       obtain ⟨hn18,hl5⟩ := needE hl5
       refine run1z (c74 76) [{},{},{},{ k := 1,n := (r10.1 ++ [(⟨l1_22,y9.course,r11.1,y3,j6_h9_4⟩ : GNote)]).length,l := (r10.1 ++ [(⟨l1_22,y9.course,r11.1,y3,j6_h9_4⟩ : GNote)]).map E_GNote }] [1,4,5,6,7,8,10,13,16,20,21,22,50,51,52] [.mp 0 0 0,.mp 1 0 0,.ms 7 0 l5_5.length,.mp 2 0 0,.fn 106 [.mp 2 0 0,.mp 1 0 0],.i l1_22,.i y3,.mp 8 0 0,.mp 9 0 0,.sl false (a0.p.events.map E_GEvent),.i (a0.p.events.length : Int),.i l1_22,.sl false (y2.stops.map E_GStop),.i (y2.stops.length : Int),.i l5_52] ⟨[(10,.cells 5 ((r10.1 ++ [(⟨l1_22,y9.course,r11.1,y3,j6_h9_4⟩ : GNote)]).map E_GNote)),(9,.cells 5 [.agg [.i l1_22,.i y9.course,.i r11.1,.i y3,.i j6_h9_4]]),(8,.cells 5 [E_GStop y9]),(7,.cells 5 (l5_5.map E_GSPress)),(2,.cells 15 [.agg (j6_h2.map AV.i)]),(1,.cells 1 [.ms 10 0 (r10.1 ++ [(⟨l1_22,y9.course,r11.1,y3,j6_h9_4⟩ : GNote)]).length]),(0,.cells 4 [E_GSSounding a0])],11⟩ _ (by kernel_rfl) (cjC (@List.cons_ne_nil AV (.agg [.i l1_22,.i y9.course,.i r11.1,.i y3,.i j6_h9_4]) []) (cjC (mLe r10.1 E_GNote) (cjC (hn18) (cjC (lenA r10.1 ([(⟨l1_22,y9.course,r11.1,y3,j6_h9_4⟩ : GNote)] : List GNote)) (cjC (appA r10.1 ([(⟨l1_22,y9.course,r11.1,y3,j6_h9_4⟩ : GNote)] : List GNote) E_GNote) (cj1 (fitsOne (P := Tryz.prog) (t := 74) (x := .agg [.i l1_22,.i y9.course,.i r11.1,.i y3,.i j6_h9_4]) (r := []) (by kernel_rfl)))))))) ?_
       obtain ⟨hn19,hl5⟩ := needE hl5
       refine run0z [{},{},{},{},{},{},{},{},{},{},{},{},{ k := 1,n := (l5_5 ++ [(⟨l1_22,y9.course,y9.fret,y3,j6_h9_4⟩ : GSPress)]).length,l := (l5_5 ++ [(⟨l1_22,y9.course,y9.fret,y3,j6_h9_4⟩ : GSPress)]).map E_GSPress }] [1,4,5,6,7,8,10,20,21,22,50,51,52] [.mp 0 0 0,.mp 1 0 0,.ms 11 0 (l5_5 ++ [(⟨l1_22,y9.course,y9.fret,y3,j6_h9_4⟩ : GSPress)]).length,.mp 2 0 0,.fn 106 [.mp 2 0 0,.mp 1 0 0],.i l1_22,.i y3,.sl false (a0.p.events.map E_GEvent),.i (a0.p.events.length : Int),.i l1_22,.sl false (y2.stops.map E_GStop),.i (y2.stops.length : Int),.i l5_52] ⟨[(11,.cells 5 ((l5_5 ++ [(⟨l1_22,y9.course,y9.fret,y3,j6_h9_4⟩ : GSPress)]).map E_GSPress)),(10,.cells 5 ((r10.1 ++ [(⟨l1_22,y9.course,r11.1,y3,j6_h9_4⟩ : GNote)]).map E_GNote)),(2,.cells 15 [.agg (j6_h2.map AV.i)]),(1,.cells 1 [.ms 10 0 (r10.1 ++ [(⟨l1_22,y9.course,r11.1,y3,j6_h9_4⟩ : GNote)]).length]),(0,.cells 4 [E_GSSounding a0])],12⟩ _ (by kernel_rfl) (cjC (@List.cons_ne_nil AV (.agg [.i l1_22,.i y9.course,.i y9.fret,.i y3,.i j6_h9_4]) []) (cjC (mLe l5_5 E_GSPress) (cjC (hn19) (cjC (lenA l5_5 ([(⟨l1_22,y9.course,y9.fret,y3,j6_h9_4⟩ : GSPress)] : List GSPress)) (cjC (appA l5_5 ([(⟨l1_22,y9.course,y9.fret,y3,j6_h9_4⟩ : GSPress)] : List GSPress) E_GSPress) (cj1 (fitsOne (P := Tryz.prog) (t := 169) (x := .agg [.i l1_22,.i y9.course,.i y9.fret,.i y3,.i j6_h9_4]) (r := []) (by kernel_rfl)))))))) ?_
       refine inbN ?_
       refine thenN ?_
       refine run0z [] [1,4,5,6,7,8,10,20,21,22,50,51,52] [.mp 0 0 0,.mp 1 0 0,.ms 11 0 (l5_5 ++ [(⟨l1_22,y9.course,y9.fret,y3,j6_h9_4⟩ : GSPress)]).length,.mp 2 0 0,.fn 106 [.mp 2 0 0,.mp 1 0 0],.i l1_22,.i y3,.sl false (a0.p.events.map E_GEvent),.i (a0.p.events.length : Int),.i l1_22,.sl false (y2.stops.map E_GStop),.i (y2.stops.length : Int),.i (wr (l5_52 + 1))] ⟨[(11,.cells 5 ((l5_5 ++ [(⟨l1_22,y9.course,y9.fret,y3,j6_h9_4⟩ : GSPress)]).map E_GSPress)),(10,.cells 5 ((r10.1 ++ [(⟨l1_22,y9.course,r11.1,y3,j6_h9_4⟩ : GNote)]).map E_GNote)),(2,.cells 15 [.agg (j6_h2.map AV.i)]),(1,.cells 1 [.ms 10 0 (r10.1 ++ [(⟨l1_22,y9.course,r11.1,y3,j6_h9_4⟩ : GNote)]).length]),(0,.cells 4 [E_GSSounding a0])],12⟩ _ (by kernel_rfl) cj0 ?_
       replace hl5 := Option.some.inj hl5; subst hl5
       exact ⟨_,rfl,pi [(6,10),(7,11)],mkInto (ks := [1,4,5,6,7,8,10,20,21,22,50,51,52]) (ys := [.mp 0 0 0,.mp 1 0 0,.ms 11 0 (l5_5 ++ [(⟨l1_22,y9.course,y9.fret,y3,j6_h9_4⟩ : GSPress)]).length,.mp 2 0 0,.fn 106 [.mp 2 0 0,.mp 1 0 0],.i l1_22,.i y3,.sl false (a0.p.events.map E_GEvent),.i (a0.p.events.length : Int),.i l1_22,.sl false (y2.stops.map E_GStop),.i (y2.stops.length : Int),.i (wr (l5_52 + 1))]) (by kernel_rfl) (by kernel_rfl) (.k (.mp rfl rfl) (.k (.mp rfl rfl) (.k (.ms rfl rfl) (.k (.mp rfl rfl) (.k (.f (.k (.mp rfl rfl) (.k (.mp rfl rfl) .z))) (.k (.c rfl) (.k (.c rfl) (.k (.c (cleanMap _ _ cl_GEvent)) (.k (.c rfl) (.k (.c rfl) (.k (.c (cleanMap _ _ cl_GStop)) (.k (.c rfl) (.k (.c rfl) .z))))))))))))) (.k (x' := .cells 5 ((l5_5 ++ [(⟨l1_22,y9.course,y9.fret,y3,j6_h9_4⟩ : GSPress)]).map E_GSPress)) (by kernel_rfl) (.cells (.r (cleanMap _ _ cl_GSPress))) (.k (x' := .cells 5 ((r10.1 ++ [(⟨l1_22,y9.course,r11.1,y3,j6_h9_4⟩ : GNote)]).map E_GNote)) (by kernel_rfl) (.cells (.r (cleanMap _ _ cl_GNote))) (.k (x' := .cells 15 [.agg (j6_h2.map AV.i)]) (by kernel_rfl) (.cells (.k (.a (.r (cleanMap _ _ cl_i))) .z)) (.k (x' := .cells 1 [.ms 10 0 (r10.1 ++ [(⟨l1_22,y9.course,r11.1,y3,j6_h9_4⟩ : GNote)]).length]) (by kernel_rfl) (.cells (.k (.ms rfl rfl) .z)) (.k (x' := .cells 4 [E_GSSounding a0]) (by kernel_rfl) (.cells (.k (.c (cl_GSSounding a0)) .z)) .z)))))⟩ --@I 4
     ·refine run_cF 53 (c74 56) (c74 57) (decide (l5_52 < (y2.stops.length : Int))) hc8 (by kernel_rfl) (by kernel_rfl) ?_
      replace hl5 := Option.some.inj hl5; subst hl5
      have hr := rl5 _ rfl
      subst hr
      refine awp_p [1,4,5,6,7,20,21,22] [7,6,2,1,0] (zipE [1,4,5,6,7,20,21,22] [.mp 0 0 0,.mp 1 0 0,.ms 7 0 l5_5.length,.mp 2 0 0,.fn 106 [.mp 2 0 0,.mp 1 0 0],.sl false (a0.p.events.map E_GEvent),.i (a0.p.events.length : Int),.i l1_22]) ⟨[(7,.cells 5 (l5_5.map E_GSPress)),(6,.cells 5 (l5_h1.map E_GNote)),(2,.cells 15 [.agg (l5_h2.map AV.i)]),(1,.cells 1 [.ms 6 0 l5_h1.length]),(0,.cells 4 [E_GSSounding a0])],8⟩ (by kernel_rfl) (?_)
      refine run_e 4 (by kernel_rfl) ?_
      refine thenE ?_
      refine ⟨⟨_,rfl⟩,?_⟩
      refine inbE ?_
      exact kl5 (l5_h1,l5_5,l5_h2) rfl
    ·rintro ⟨l5x_h1,l5x_5,l5x_h2⟩ rfl
     refine inbN ?_
     refine thenN ?_
     refine run0z [] [1,4,5,6,7,20,21,22] [.mp 0 0 0,.mp 1 0 0,.ms 7 0 l5x_5.length,.mp 2 0 0,.fn 106 [.mp 2 0 0,.mp 1 0 0],.sl false (a0.p.events.map E_GEvent),.i (a0.p.events.length : Int),.i (wr (l1_22 + 1))] ⟨[(7,.cells 5 (l5x_5.map E_GSPress)),(6,.cells 5 (l5x_h1.map E_GNote)),(2,.cells 15 [.agg (l5x_h2.map AV.i)]),(1,.cells 1 [.ms 6 0 l5x_h1.length]),(0,.cells 4 [E_GSSounding a0])],8⟩ _ (by kernel_rfl) cj0 ?_
     replace hl1 := Option.some.inj hl1; subst hl1
     exact ⟨_,rfl,pi [(3,6),(4,7)],mkInto (ks := [1,4,5,6,7,20,21,22]) (ys := [.mp 0 0 0,.mp 1 0 0,.ms 7 0 l5x_5.length,.mp 2 0 0,.fn 106 [.mp 2 0 0,.mp 1 0 0],.sl false (a0.p.events.map E_GEvent),.i (a0.p.events.length : Int),.i (wr (l1_22 + 1))]) (by kernel_rfl) (by kernel_rfl) (.k (.mp rfl rfl) (.k (.mp rfl rfl) (.k (.ms rfl rfl) (.k (.mp rfl rfl) (.k (.f (.k (.mp rfl rfl) (.k (.mp rfl rfl) .z))) (.k (.c (cleanMap _ _ cl_GEvent)) (.k (.c rfl) (.k (.c rfl) .z)))))))) (.k (x' := .cells 5 (l5x_5.map E_GSPress)) (by kernel_rfl) (.cells (.r (cleanMap _ _ cl_GSPress))) (.k (x' := .cells 5 (l5x_h1.map E_GNote)) (by kernel_rfl) (.cells (.r (cleanMap _ _ cl_GNote))) (.k (x' := .cells 15 [.agg (l5x_h2.map AV.i)]) (by kernel_rfl) (.cells (.k (.a (.r (cleanMap _ _ cl_i))) .z)) (.k (x' := .cells 1 [.ms 6 0 l5x_h1.length]) (by kernel_rfl) (.cells (.k (.ms rfl rfl) .z)) (.k (x' := .cells 4 [E_GSSounding a0]) (by kernel_rfl) (.cells (.k (.c (cl_GSSounding a0)) .z)) .z)))))⟩ --@I 3
  ·refine run_cF 23 (c74 19) (c74 20) (decide (l1_22 < (a0.p.events.length : Int))) hc1 (by kernel_rfl) (by kernel_rfl) ?_
   replace hl1 := Option.some.inj hl1; subst hl1
   have hr := rl1 _ rfl
   subst hr
   refine awp_p [4,5] [4,3,1] (zipE [4,5] [.mp 1 0 0,.ms 4 0 l1_5.length]) ⟨[(4,.cells 5 (l1_5.map E_GSPress)),(3,.cells 5 (l1_h1.map E_GNote)),(1,.cells 1 [.ms 3 0 l1_h1.length])],5⟩ (by kernel_rfl) (?_)
   refine run_e 0 (by kernel_rfl) ?_
   refine thenE ?_
   refine ⟨⟨_,rfl⟩,?_⟩
   refine inbE ?_
   exact kl1 (l1_h1,l1_5) rfl
 ·rintro ⟨l1x_h1,l1x_5⟩ rfl
  refine thenN ?_
  refine run1z (c74 81) [] [2,3] [.ms 3 0 l1x_h1.length,.ms 4 0 l1x_5.length] ⟨[(4,.cells 5 (l1x_5.map E_GSPress)),(3,.cells 5 (l1x_h1.map E_GNote))],5⟩ _ (by kernel_rfl) cj0 ?_
  refine run_z 4 5 (l1x_5.map E_GSPress) [2,3] [.ms 3 0 l1x_h1.length,.ms 4 0 l1x_5.length] (xs := [.ms 3 0 l1x_h1.length,.sl false (l1x_5.map E_GSPress)]) (S2 := ⟨[(3,.cells 5 (l1x_h1.map E_GNote))],5⟩) ?_ (by kernel_rfl) (by kernel_rfl) (.k (.r _) (.k (.m (mLe l1x_5 E_GSPress) (mapAll l1x_5 E_GSPress)) .z)) (.k (x' := .cells 5 (l1x_h1.map E_GNote)) rfl (by kernel_rfl) (.r _) .z) rfl rfl
  refine run_z 3 5 (l1x_h1.map E_GNote) [2,3] [.ms 3 0 l1x_h1.length,.sl false (l1x_5.map E_GSPress)] (xs := [.sl false (l1x_h1.map E_GNote),.sl false (l1x_5.map E_GSPress)]) (S2 := ⟨[],5⟩) ?_ (by kernel_rfl) (by kernel_rfl) (.k (.m (mLe l1x_h1 E_GNote) (mapAll l1x_h1 E_GNote)) (.k (.r _) .z)) .z rfl rfl
  refine run_t (by kernel_rfl) ?_
  replace h := Option.some.inj h; subst h
  exact fin_r (by kernel_rfl) rfl
theorem f74_t (a0 : GSSounding) (r : ((List GNote) × (List GSPress))) (h : f74 a0 = some r) : TPure TT Tryz.prog 74 [.v 8 a0] (fun r=>.tup [.l false 9 r.1,.l false 11 r.2]) r := f74_ok a0 r h
def f33 (a0 : GPiece) : Option (((List GNote)) × Int) := (f73 a0).bind fun r1 => bif (decide (r1.2 ≠ 0)) then (some (([] : List GNote),r1.2)) else ((f74 r1.1).bind fun r3 => some (r3.1,0))
theorem f33_t (a0 : GPiece) (r : (((List GNote)) × Int)) (h : f33 a0 = some r) : TPure TT Tryz.prog 33 [.v 4 a0] (fun r=>.tup [.l false 9 r.1,.n r.2]) r := tf <|tCall h (f73_t a0) fun r1 q1 h=>tIf h (fun c2 h=>tRet h) fun c2 h=>tCall h (f74_t r1.1) fun r3 q3 h=>tRet h
theorem f33_ok (a0 : GPiece) (r : ((List GNote) × Int)) (h : f33 a0 = some r) : APure Tryz.prog 33 [.agg [.sl false (a0.instrument.courses.map E_GCourse),.sl false (a0.instrument.steps.map AV.i),.sl false (a0.events.map E_GEvent)]] (.tup [.sl false (r.1.map E_GNote),.i r.2]) := f33_t a0 r h
def f105 (a0 : Int) : Option Bool := some (decide (a0 ≠ a0))
theorem f105_t (a0 : Int) (r : Bool) (h : f105 a0 = some r) : TPure TT Tryz.prog 105 [.n a0] (fun r=>.b r) r := tf <|tRet h
def f72 (a0 : Int) (a1 : Int) : Option Int := (f105 a0).bind fun r1 => (f105 a1).bind fun r2 => bif r1 then (bif r2 then (some 0) else (some (-1))) else (bif r2 then (some 1) else (bif (decide (a0 < a1)) then (some (-1)) else (bif (decide (a1 < a0)) then (some 1) else (some 0))))
theorem f72_t (a0 : Int) (a1 : Int) (r : Int) (h : f72 a0 a1 = some r) : TPure TT Tryz.prog 72 [.n a0,.n a1] (fun r=>.n r) r := tf <|tCall h (f105_t a0) fun r1 q1 h=>tCall h (f105_t a1) fun r2 q2 h=>tIf h (fun c3 h=>tIf h (fun c4 h=>tRet h) fun c4 h=>tRet h) fun c3 h=>tIf h (fun c5 h=>tRet h) fun c5 h=>tIf h (fun c6 h=>tRet h) fun c6 h=>tIf h (fun c7 h=>tRet h) fun c7 h=>tRet h
def f71 (a0 : List Int) : Option Int := (loopN (σ := Int) (τ := (Unit ⊕ Int)) (fun (l1_8 : Int) => bif (decide (l1_8 < (a0.length : Int))) then ((ix a0 l1_8).bind fun y2 => bif (decide (y2 ≠ 0)) then (some (.inr (.inr y2))) else (some (.inl (wr (l1_8 + 1))))) else (some (.inr (.inl ())))) FUEL 0).bind (Sum.elim (fun (_ : Unit) => some 0) some)
theorem f71_t (a0 : List Int) (r : Int) (h : f71 a0 = some r) : TPure TT Tryz.prog 71 [.l true 1 a0] (fun r=>.n r) r := tf <|tJe h false 1 [3] [] 0 (fun _=>([],[])) (fun o1 G1 k1 H1=>tL G1 [3,6,7] [] 0 (fun l1_8=>([(8,.n l1_8)],[])) fun l1_8 o g1 e1 K1=>tIf g1 (fun c1 g1=>tIx 1 g1 fun y2 u2 g1=>tIf g1 (fun c3 g1=>tO g1 <|tRet (oE g1 e1 H1)) fun c3 g1=>tN K1 g1) fun c1 g1=>tO g1 <|tM (k1 _ (oJ g1 e1))) fun _ h=>tRet h
def f117 (a0 : GTone) (a1 : GTone) : Option Int := (f72 a0.from_ a1.from_).bind fun r1 => (f72 a0.pitch a1.pitch).bind fun r2 => (f72 a0.to_ a1.to_).bind fun r3 => (f71 ([r1,r2,r3] : List Int)).bind fun r4 => some r4
theorem f117_t (a0 : GTone) (a1 : GTone) (r : Int) (h : f117 a0 a1 = some r) : TPure TT Tryz.prog 117 [.v 12 a0,.v 12 a1] (fun r=>.n r) r := tf <|tCall h (f72_t a0.from_ a1.from_) fun r1 q1 h=>tCall h (f72_t a0.pitch a1.pitch) fun r2 q2 h=>tCall h (f72_t a0.to_ a1.to_) fun r3 q3 h=>tCall h (f71_t ([r1,r2,r3] : List Int)) fun r4 q4 h=>tRet h
theorem f117_ok (a0 : GTone) (a1 : GTone) (r : Int) (h : f117 a0 a1 = some r) : APure Tryz.prog 117 [.agg [.i a0.pitch,.i a0.from_,.i a0.to_],.agg [.i a1.pitch,.i a1.from_,.i a1.to_]] (.i r) := f117_t a0 a1 r h
def f90 (a0 : List GTone) : Option (List GTone) := sortF f117 a0
theorem f90_ok (a0 : List GTone) (r : List GTone) (h : f90 a0 = some r) : ACalls Tryz.prog 90 [.ms 0 0 a0.length,.fn 117 []] ⟨[(0,.cells 3 (a0.map E_GTone))],1⟩ (fun y t => y = .tup [] ∧ t = ⟨[(0,.cells 3 (r.map E_GTone))],1⟩) :=
 sortf_calls lay_sortf90 (by decide) Tryz.isAgg116 Tryz.sizeOf116 (fun (x : GTone) => [x.pitch,x.from_,x.to_]) (fun _ => rfl) (fun _ => rfl) Tryz.func117 (by kernel_rfl) rfl (fun x y r h => f117_ok x y r h) a0 r h
def f89 (a0 : GPiece) : Option (((List GTone)) × Int) := (f33 a0).bind fun r1 => bif (decide (r1.2 ≠ 0)) then (some (([] : List GTone),r1.2)) else ((loopN (σ := (List GTone × Int)) (τ := (List GTone)) (fun ((l1_6,l1_19) : (List GTone × Int)) => bif (decide (l1_19 < (r1.1.length : Int))) then ((ix r1.1 l1_19).bind fun y4 => need (l1_6.length + 1 ≤ maxElems) <| some (.inl ((l1_6 ++ [(⟨y4.pitch,y4.from_,y4.to_⟩ : GTone)]),(wr (l1_19 + 1))))) else (some (.inr l1_6))) FUEL (([] : List GTone),0)).bind fun (l1x_6 : (List GTone)) => (f90 l1x_6).bind fun r6 => need (r6.length = l1x_6.length) <| some (r6,0))
theorem f89_ok (a0 : GPiece) (r : (((List GTone)) × Int)) (h : f89 a0 = some r) : APure Tryz.prog 89 [E_GPiece a0] (.tup [.sl false (r.1.map E_GTone),.i r.2]) := by
 refine apure (clK (cl_GPiece a0) clZ) (clK (cleanMap r.1 _ cl_GTone) (clK rfl clZ)) ?_
 refine run_f 37 [.tmp 2,.tmp 3] (c89 0) (zipE [0] [E_GPiece a0]) (by kernel_rfl) (by kernel_rfl) (by kernel_rfl) rfl ?_
 unfold f89 at h
 refine run1z (c89 2) [] [1] [.mp 0 0 0] ⟨[(0,.cells 3 [E_GPiece a0])],1⟩ _ (by kernel_rfl) cj0 ?_
 obtain ⟨r1,hr1,h⟩ := bindE h
 refine run1z (c89 4) [{},{ c := some (.tup [.sl false (r1.1.map E_GNote),.i r1.2],⟨[(0,.cells 3 [E_GPiece a0])],1⟩) }] [4,5] [.sl false (r1.1.map E_GNote),.i r1.2] ⟨[],1⟩ _ (by kernel_rfl) (cj1 (f33_ok a0 _ hr1 ⟨[(0,.cells 3 [E_GPiece a0])],1⟩)) ?_
 refine run_s (c89 5) (c89 12) (by kernel_rfl) ?_
 refine run1z (c89 7) [] [4,5,15] [.sl false (r1.1.map E_GNote),.i r1.2,.bool (decide (r1.2 ≠ 0))] ⟨[],1⟩ _ (by kernel_rfl) cj0 ?_
 rcases iteE h with ⟨hc2,h⟩ | ⟨hc2,h⟩
 ·refine run_cT 15 (c89 8) (c89 11) (decide (r1.2 ≠ 0)) hc2 (by kernel_rfl) (by kernel_rfl) ?_
  refine run1z (c89 10) [] [2,3] [.sl true [],.i r1.2] ⟨[],1⟩ _ (by kernel_rfl) cj0 ?_
  refine run_i 1 [] [2,3] [.sl true [],.i r1.2] (xs := [.sl false (([] : List GTone).map E_GTone),.i r1.2]) (S2 := ⟨[],1⟩) ?_ (by intro i e; cases e <;> exact Nat.le_of_ble_eq_true rfl) (by kernel_rfl) (by kernel_rfl) (by kernel_rfl) (.k (.s (cleanMap (([] : List GTone)) _ cl_GTone)) (.k (.c rfl) .z)) .z
  refine run_t (by kernel_rfl) ?_
  refine thenR ?_
  replace h := Option.some.inj h; subst h
  exact fin_r (by kernel_rfl) rfl
 ·refine run_cF 15 (c89 8) (c89 11) (decide (r1.2 ≠ 0)) hc2 (by kernel_rfl) (by kernel_rfl) ?_
  refine run_k (by kernel_rfl) ?_
  refine thenN ?_
  refine run1z (c89 14) [] [4,6] [.sl false (r1.1.map E_GNote),.sl true []] ⟨[],1⟩ _ (by kernel_rfl) cj0 ?_
  refine run_s (c89 15) (c89 31) (by kernel_rfl) ?_
  refine run1z (c89 17) [{},{ k := 1,n := r1.1.length }] [6,17,18,19] [.sl true [],.sl false (r1.1.map E_GNote),.i (r1.1.length : Int),.i 0] ⟨[],1⟩ _ (by kernel_rfl) (cj1 (mapLen r1.1 E_GNote)) ?_
  obtain ⟨l1x_6,hll1x,h⟩ := bindE h
  refine run_tq (fun (l1x_6 : (List GTone)) => (zipE [6] [.ms 1 0 l1x_6.length])) (fun (l1x_6 : (List GTone)) => ⟨[(1,.cells 3 (l1x_6.map E_GTone))],2⟩) (fun j => l1x_6 = j) (fun kl1 => ?_) ?_
  ·refine run_b 0 (c89 18) (by kernel_rfl) ?_
   refine run_l (c89 19) _ hll1x (fun ((l1_6,l1_19) : (List GTone × Int)) => (zipE [6,17,18,19] [.ms 1 0 l1_6.length,.sl false (r1.1.map E_GNote),.i (r1.1.length : Int),.i l1_19])) (fun ((l1_6,l1_19) : (List GTone × Int)) => ⟨[(1,.cells 3 (l1_6.map E_GTone))],2⟩) [(1,1000000)] (by intro i e; cases e <;> exact Nat.le_of_ble_eq_true rfl) (by kernel_rfl) (mkInto (ks := [6,17,18,19]) (ys := [.sl true [],.sl false (r1.1.map E_GNote),.i (r1.1.length : Int),.i 0]) (by kernel_rfl) (by kernel_rfl) (.k (.n) (.k (.c (cleanMap _ _ cl_GNote)) (.k (.c rfl) (.k (.c rfl) .z)))) (.n rfl rfl rfl .z)) ?_ --@I 1 |(.k (.ms rfl rfl) (.k (.c (cleanMap _ _ cl_GNote)) (.k (.c rfl) (.k (.c rfl) .z))))|(.k (x' := .cells 3 (l1_6.map E_GTone)) (by kernel_rfl) (.cells (.r (cleanMap _ _ cl_GTone))) .z)|0
   rintro ⟨l1_6,l1_19⟩ out hl1 rl1
   refine run1z (c89 21) [] [6,17,18,19,20] [.ms 1 0 l1_6.length,.sl false (r1.1.map E_GNote),.i (r1.1.length : Int),.i l1_19,.bool (decide (l1_19 < (r1.1.length : Int)))] ⟨[(1,.cells 3 (l1_6.map E_GTone))],2⟩ _ (by kernel_rfl) cj0 ?_
   refine run_s (c89 22) (c89 25) (by kernel_rfl) ?_
   rcases iteE hl1 with ⟨hc3,hl1⟩ | ⟨hc3,hl1⟩
   ·refine run_cT 20 (c89 23) (c89 24) (decide (l1_19 < (r1.1.length : Int))) hc3 (by kernel_rfl) (by kernel_rfl) ?_
    refine run_k (by kernel_rfl) ?_
    refine thenN ?_
    refine run_s (c89 26) (c89 30) (by kernel_rfl) ?_
    refine run_b 1 (c89 27) (by kernel_rfl) ?_
    obtain ⟨y4,hy4,hl1⟩ := bindE hl1
    refine run1z (c89 29) [{ k := 1,x := E_GNote y4 }] [6,8,17,18,19] [.ms 1 0 l1_6.length,.mp 2 0 0,.sl false (r1.1.map E_GNote),.i (r1.1.length : Int),.i l1_19] ⟨[(2,.cells 5 [E_GNote y4]),(1,.cells 3 (l1_6.map E_GTone))],3⟩ _ (by kernel_rfl) (cjC ((ixE hy4).1) (cj1 (mapGet E_GNote (ixE hy4).2))) ?_
    obtain ⟨hn5,hl1⟩ := needE hl1
    refine run0z [{},{},{},{},{},{},{},{},{},{ k := 1,n := (l1_6 ++ [(⟨y4.pitch,y4.from_,y4.to_⟩ : GTone)]).length,l := (l1_6 ++ [(⟨y4.pitch,y4.from_,y4.to_⟩ : GTone)]).map E_GTone }] [6,17,18,19] [.ms 3 0 (l1_6 ++ [(⟨y4.pitch,y4.from_,y4.to_⟩ : GTone)]).length,.sl false (r1.1.map E_GNote),.i (r1.1.length : Int),.i l1_19] ⟨[(3,.cells 3 ((l1_6 ++ [(⟨y4.pitch,y4.from_,y4.to_⟩ : GTone)]).map E_GTone))],4⟩ _ (by kernel_rfl) (cjC (@List.cons_ne_nil AV (.agg [.i y4.pitch,.i y4.from_,.i y4.to_]) []) (cjC (mLe l1_6 E_GTone) (cjC (hn5) (cjC (lenA l1_6 ([(⟨y4.pitch,y4.from_,y4.to_⟩ : GTone)] : List GTone)) (cjC (appA l1_6 ([(⟨y4.pitch,y4.from_,y4.to_⟩ : GTone)] : List GTone) E_GTone) (cj1 (fitsOne (P := Tryz.prog) (t := 116) (x := .agg [.i y4.pitch,.i y4.from_,.i y4.to_]) (r := []) (by kernel_rfl)))))))) ?_
    refine inbN ?_
    refine thenN ?_
    refine run0z [] [6,17,18,19] [.ms 3 0 (l1_6 ++ [(⟨y4.pitch,y4.from_,y4.to_⟩ : GTone)]).length,.sl false (r1.1.map E_GNote),.i (r1.1.length : Int),.i (wr (l1_19 + 1))] ⟨[(3,.cells 3 ((l1_6 ++ [(⟨y4.pitch,y4.from_,y4.to_⟩ : GTone)]).map E_GTone))],4⟩ _ (by kernel_rfl) cj0 ?_
    replace hl1 := Option.some.inj hl1; subst hl1
    exact ⟨_,rfl,pi [(1,3)],mkInto (ks := [6,17,18,19]) (ys := [.ms 3 0 (l1_6 ++ [(⟨y4.pitch,y4.from_,y4.to_⟩ : GTone)]).length,.sl false (r1.1.map E_GNote),.i (r1.1.length : Int),.i (wr (l1_19 + 1))]) (by kernel_rfl) (by kernel_rfl) (.k (.ms rfl rfl) (.k (.c (cleanMap _ _ cl_GNote)) (.k (.c rfl) (.k (.c rfl) .z)))) (.k (x' := .cells 3 ((l1_6 ++ [(⟨y4.pitch,y4.from_,y4.to_⟩ : GTone)]).map E_GTone)) (by kernel_rfl) (.cells (.r (cleanMap _ _ cl_GTone))) .z)⟩ --@I 2
   ·refine run_cF 20 (c89 23) (c89 24) (decide (l1_19 < (r1.1.length : Int))) hc3 (by kernel_rfl) (by kernel_rfl) ?_
    replace hl1 := Option.some.inj hl1; subst hl1
    have hr := rl1 _ rfl
    subst hr
    refine awp_p [6] [1] (zipE [6] [.ms 1 0 l1_6.length]) ⟨[(1,.cells 3 (l1_6.map E_GTone))],2⟩ (by kernel_rfl) (?_)
    refine run_e 0 (by kernel_rfl) ?_
    refine thenE ?_
    refine ⟨⟨_,rfl⟩,?_⟩
    refine inbE ?_
    exact kl1 l1_6 rfl
  ·rintro _ rfl
   refine thenN ?_
   obtain ⟨r6,hr6,h⟩ := bindE h
   obtain ⟨hn7,h⟩ := needE h
   refine run1z (c89 33) [{},{ c := some (.tup [],⟨[(1,.cells 3 (r6.map E_GTone))],2⟩) }] [6] [.ms 1 0 l1x_6.length] ⟨[(1,.cells 3 (r6.map E_GTone))],2⟩ _ (by kernel_rfl) (cj1 (callF (f90_ok l1x_6 _ hr6) [(0,1)] [(1,0)] [] [.ms 1 0 l1x_6.length,.fn 117 []] ⟨[(1,.cells 3 (l1x_6.map E_GTone))],2⟩ (.tup []) ⟨[(1,.cells 3 (r6.map E_GTone))],2⟩ (by kernel_rfl) (.k (.ms rfl rfl) (.k (.c rfl) .z)) (.t .z) (.k (x' := .cells 3 (l1x_6.map E_GTone)) (by kernel_rfl) (.cells (.r (cleanMap _ _ cl_GTone))) .z) (.d (x' := .cells 3 (r6.map E_GTone)) rfl (by kernel_rfl) (.cells (.r (cleanMap _ _ cl_GTone))) .z))) ?_
   refine run_i 2 [] [6] [.ms 1 0 l1x_6.length] (xs := [.ms 1 0 r6.length]) (S2 := ⟨[(1,.cells 3 (r6.map E_GTone))],2⟩) ?_ (by intro i e; cases e <;> exact Nat.le_of_ble_eq_true rfl) (by kernel_rfl) (by kernel_rfl) (by kernel_rfl) (.k (.e rfl rfl hn7) .z) (.k (x' := .cells 3 (r6.map E_GTone)) (by kernel_rfl) (.cells (.r (cleanMap _ _ cl_GTone))) .z)
   refine run1z (c89 35) [] [2,3] [.ms 1 0 r6.length,.i 0] ⟨[(1,.cells 3 (r6.map E_GTone))],2⟩ _ (by kernel_rfl) cj0 ?_
   refine run_z 1 3 (r6.map E_GTone) [2,3] [.ms 1 0 r6.length,.i 0] (xs := [.sl false (r6.map E_GTone),.i 0]) (S2 := ⟨[],2⟩) ?_ (by kernel_rfl) (by kernel_rfl) (.k (.m (mLe r6 E_GTone) (mapAll r6 E_GTone)) (.k (.r _) .z)) .z rfl rfl
   refine run_t (by kernel_rfl) ?_
   replace h := Option.some.inj h; subst h
   exact fin_r (by kernel_rfl) rfl
def f91 (a0 : GTone) (a1 : GTone) : Option Int := (f72 a0.from_ a1.from_).bind fun r1 => (f72 a0.pitch a1.pitch).bind fun r2 => (f72 a0.to_ a1.to_).bind fun r3 => (f71 ([r1,r2,r3] : List Int)).bind fun r4 => some r4
theorem f91_t (a0 : GTone) (a1 : GTone) (r : Int) (h : f91 a0 a1 = some r) : TPure TT Tryz.prog 91 [.v 12 a0,.v 12 a1] (fun r=>.n r) r := tf <|tCall h (f72_t a0.from_ a1.from_) fun r1 q1 h=>tCall h (f72_t a0.pitch a1.pitch) fun r2 q2 h=>tCall h (f72_t a0.to_ a1.to_) fun r3 q3 h=>tCall h (f71_t ([r1,r2,r3] : List Int)) fun r4 q4 h=>tRet h
theorem f91_ok (a0 : GTone) (a1 : GTone) (r : Int) (h : f91 a0 a1 = some r) : APure Tryz.prog 91 [.agg [.i a0.pitch,.i a0.from_,.i a0.to_],.agg [.i a1.pitch,.i a1.from_,.i a1.to_]] (.i r) := f91_t a0 a1 r h
def f90_1 (a0 : List GTone) : Option (List GTone) := sortF f91 a0
theorem f90_1_ok (a0 : List GTone) (r : List GTone) (h : f90_1 a0 = some r) : ACalls Tryz.prog 90 [.ms 0 0 a0.length,.fn 91 []] ⟨[(0,.cells 3 (a0.map E_GTone))],1⟩ (fun y t => y = .tup [] ∧ t = ⟨[(0,.cells 3 (r.map E_GTone))],1⟩) :=
 sortf_calls lay_sortf90 (by decide) Tryz.isAgg116 Tryz.sizeOf116 (fun (x : GTone) => [x.pitch,x.from_,x.to_]) (fun _ => rfl) (fun _ => rfl) Tryz.func91 (by kernel_rfl) rfl (fun x y r h => f91_ok x y r h) a0 r h
def f60 (a0 : GConsort) : Option (((List GTone)) × Int) := (f88 a0).bind fun r1 => bif (decide (r1 ≠ 0)) then (some (([] : List GTone),r1)) else ((loopN (σ := (List GTone × Int)) (τ := ((List GTone) ⊕ (((List GTone)) × Int))) (fun ((l1_2,l1_17) : (List GTone × Int)) => bif (decide (l1_17 < (a0.pieces.length : Int))) then ((ix a0.pieces l1_17).bind fun y4 => (f89 y4).bind fun r5 => bif (decide (r5.2 ≠ 0)) then (some (.inr (.inr (([] : List GTone),r5.2)))) else (((bif (decide (r5.1 = [])) then (some l1_2) else (need (l1_2.length + r5.1.length ≤ maxElems) <| some (l1_2 ++ r5.1))) : Option (List GTone)).bind fun (j2_2 : (List GTone)) => some (.inl (j2_2,(wr (l1_17 + 1)))))) else (some (.inr (.inl l1_2)))) FUEL (([] : List GTone),0)).bind (Sum.elim (fun (l1x_2 : (List GTone)) => (f90_1 l1x_2).bind fun r9 => need (r9.length = l1x_2.length) <| some (r9,0)) some))
theorem f60_ok (a0 : GConsort) (r : (((List GTone)) × Int)) (h : f60 a0 = some r) : APure Tryz.prog 60 [E_GConsort a0] (.tup [.sl false (r.1.map E_GTone),.i r.2]) := by
 refine apure (clK (cl_GConsort a0) clZ) (clK (cleanMap r.1 _ cl_GTone) (clK rfl clZ)) ?_
 refine run_f 36 [.tmp 2,.tmp 3] (c60 0) (zipE [0] [E_GConsort a0]) (by kernel_rfl) (by kernel_rfl) (by kernel_rfl) rfl ?_
 unfold f60 at h
 refine run1z (c60 2) [] [1,2] [.mp 0 0 0,.sl true []] ⟨[(0,.cells 1 [E_GConsort a0])],1⟩ _ (by kernel_rfl) cj0 ?_
 refine run_s (c60 3) (c60 12) (by kernel_rfl) ?_
 obtain ⟨r1,hr1,h⟩ := bindE h
 refine run1z (c60 5) [{},{ c := some (.i r1,⟨[(0,.cells 1 [E_GConsort a0])],1⟩) }] [1,2,4] [.mp 0 0 0,.sl true [],.i r1] ⟨[(0,.cells 1 [E_GConsort a0])],1⟩ _ (by kernel_rfl) (cj1 (f88_ok a0 _ hr1 ⟨[(0,.cells 1 [E_GConsort a0])],1⟩)) ?_
 refine run1z (c60 7) [] [1,2,4,12] [.mp 0 0 0,.sl true [],.i r1,.bool (decide (r1 ≠ 0))] ⟨[(0,.cells 1 [E_GConsort a0])],1⟩ _ (by kernel_rfl) cj0 ?_
 rcases iteE h with ⟨hc2,h⟩ | ⟨hc2,h⟩
 ·refine run_cT 12 (c60 8) (c60 11) (decide (r1 ≠ 0)) hc2 (by kernel_rfl) (by kernel_rfl) ?_
  refine run1z (c60 10) [] [2,3] [.sl true [],.i r1] ⟨[],1⟩ _ (by kernel_rfl) cj0 ?_
  refine run_i 1 [] [2,3] [.sl true [],.i r1] (xs := [.sl false (([] : List GTone).map E_GTone),.i r1]) (S2 := ⟨[],1⟩) ?_ (by intro i e; cases e <;> exact Nat.le_of_ble_eq_true rfl) (by kernel_rfl) (by kernel_rfl) (by kernel_rfl) (.k (.s (cleanMap (([] : List GTone)) _ cl_GTone)) (.k (.c rfl) .z)) .z
  refine run_t (by kernel_rfl) ?_
  refine thenR ?_
  replace h := Option.some.inj h; subst h
  exact fin_r (by kernel_rfl) rfl
 ·refine run_cF 12 (c60 8) (c60 11) (decide (r1 ≠ 0)) hc2 (by kernel_rfl) (by kernel_rfl) ?_
  refine run_k (by kernel_rfl) ?_
  refine thenN ?_
  refine run_s (c60 13) (c60 39) (by kernel_rfl) ?_
  refine run1z (c60 15) [{},{},{ k := 1,n := a0.pieces.length }] [2,15,16,17] [.sl true [],.sl false (a0.pieces.map E_GPiece),.i (a0.pieces.length : Int),.i 0] ⟨[],1⟩ _ (by kernel_rfl) (cj1 (mapLen a0.pieces E_GPiece)) ?_
  obtain ⟨ol1x,hll1x,h⟩ := bindE h
  refine run_tq (fun (l1x_2 : (List GTone)) => (zipE [2] [.ms 1 0 l1x_2.length])) (fun (l1x_2 : (List GTone)) => ⟨[(1,.cells 3 (l1x_2.map E_GTone))],2⟩) (fun j => ol1x = .inl j) (fun kl1 => ?_) ?_
  ·refine run_b 0 (c60 16) (by kernel_rfl) ?_
   refine run_l (c60 17) _ hll1x (fun ((l1_2,l1_17) : (List GTone × Int)) => (zipE [2,15,16,17] [.ms 1 0 l1_2.length,.sl false (a0.pieces.map E_GPiece),.i (a0.pieces.length : Int),.i l1_17])) (fun ((l1_2,l1_17) : (List GTone × Int)) => ⟨[(1,.cells 3 (l1_2.map E_GTone))],2⟩) [(1,1000000)] (by intro i e; cases e <;> exact Nat.le_of_ble_eq_true rfl) (by kernel_rfl) (mkInto (ks := [2,15,16,17]) (ys := [.sl true [],.sl false (a0.pieces.map E_GPiece),.i (a0.pieces.length : Int),.i 0]) (by kernel_rfl) (by kernel_rfl) (.k (.n) (.k (.c (cleanMap _ _ cl_GPiece)) (.k (.c rfl) (.k (.c rfl) .z)))) (.n rfl rfl rfl .z)) ?_ --@I 1 |(.k (.ms rfl rfl) (.k (.c (cleanMap _ _ cl_GPiece)) (.k (.c rfl) (.k (.c rfl) .z))))|(.k (x' := .cells 3 (l1_2.map E_GTone)) (by kernel_rfl) (.cells (.r (cleanMap _ _ cl_GTone))) .z)|0
   rintro ⟨l1_2,l1_17⟩ out hl1 rl1
   refine run1z (c60 19) [] [2,15,16,17,18] [.ms 1 0 l1_2.length,.sl false (a0.pieces.map E_GPiece),.i (a0.pieces.length : Int),.i l1_17,.bool (decide (l1_17 < (a0.pieces.length : Int)))] ⟨[(1,.cells 3 (l1_2.map E_GTone))],2⟩ _ (by kernel_rfl) cj0 ?_
   refine run_s (c60 20) (c60 23) (by kernel_rfl) ?_
   rcases iteE hl1 with ⟨hc3,hl1⟩ | ⟨hc3,hl1⟩
   ·refine run_cT 18 (c60 21) (c60 22) (decide (l1_17 < (a0.pieces.length : Int))) hc3 (by kernel_rfl) (by kernel_rfl) ?_
    refine run_k (by kernel_rfl) ?_
    refine thenN ?_
    refine run_s (c60 24) (c60 38) (by kernel_rfl) ?_
    refine run_b 1 (c60 25) (by kernel_rfl) ?_
    obtain ⟨y4,hy4,hl1⟩ := bindE hl1
    refine run1z (c60 27) [{ k := 1,x := E_GPiece y4 }] [2,6,15,16,17] [.ms 1 0 l1_2.length,.mp 2 0 0,.sl false (a0.pieces.map E_GPiece),.i (a0.pieces.length : Int),.i l1_17] ⟨[(2,.cells 3 [E_GPiece y4]),(1,.cells 3 (l1_2.map E_GTone))],3⟩ _ (by kernel_rfl) (cjC ((ixE hy4).1) (cj1 (mapGet E_GPiece (ixE hy4).2))) ?_
    obtain ⟨r5,hr5,hl1⟩ := bindE hl1
    refine run1z (c60 29) [{},{ c := some (.tup [.sl false (r5.1.map E_GTone),.i r5.2],⟨[(2,.cells 3 [E_GPiece y4]),(1,.cells 3 (l1_2.map E_GTone))],3⟩) }] [2,7,8,15,16,17] [.ms 1 0 l1_2.length,.sl false (r5.1.map E_GTone),.i r5.2,.sl false (a0.pieces.map E_GPiece),.i (a0.pieces.length : Int),.i l1_17] ⟨[(1,.cells 3 (l1_2.map E_GTone))],3⟩ _ (by kernel_rfl) (cj1 (f89_ok y4 _ hr5 ⟨[(2,.cells 3 [E_GPiece y4]),(1,.cells 3 (l1_2.map E_GTone))],3⟩)) ?_
    refine run_s (c60 30) (c60 37) (by kernel_rfl) ?_
    refine run1z (c60 32) [] [2,7,8,15,16,17,27] [.ms 1 0 l1_2.length,.sl false (r5.1.map E_GTone),.i r5.2,.sl false (a0.pieces.map E_GPiece),.i (a0.pieces.length : Int),.i l1_17,.bool (decide (r5.2 ≠ 0))] ⟨[(1,.cells 3 (l1_2.map E_GTone))],3⟩ _ (by kernel_rfl) cj0 ?_
    rcases iteE hl1 with ⟨hc6,hl1⟩ | ⟨hc6,hl1⟩
    ·refine run_cT 27 (c60 33) (c60 36) (decide (r5.2 ≠ 0)) hc6 (by kernel_rfl) (by kernel_rfl) ?_
     refine run1z (c60 35) [] [2,3] [.sl true [],.i r5.2] ⟨[],3⟩ _ (by kernel_rfl) cj0 ?_
     replace hl1 := Option.some.inj hl1; subst hl1
     have hr := rl1 _ rfl
     subst hr
     replace h := elimR h
     refine run_i 3 [] [2,3] [.sl true [],.i r5.2] (xs := [.sl false (([] : List GTone).map E_GTone),.i r5.2]) (S2 := ⟨[],3⟩) ?_ (by intro i e; cases e <;> exact Nat.le_of_ble_eq_true rfl) (by kernel_rfl) (by kernel_rfl) (by kernel_rfl) (.k (.s (cleanMap (([] : List GTone)) _ cl_GTone)) (.k (.c rfl) .z)) .z
     refine run_t (by kernel_rfl) ?_
     refine thenR ?_
     refine inbR ?_
     refine thenR ?_
     refine ⟨⟨_,rfl⟩,?_⟩
     refine inbR ?_
     refine thenR ?_
     replace h := Option.some.inj h; subst h
     exact fin_r (by kernel_rfl) rfl
    ·refine run_cF 27 (c60 33) (c60 36) (decide (r5.2 ≠ 0)) hc6 (by kernel_rfl) (by kernel_rfl) ?_
     refine run_k (by kernel_rfl) ?_
     refine thenN ?_
     obtain ⟨j2_2,hj2,hl1⟩ := bindE hl1
     refine run_tq (fun (j2_2 : (List GTone)) => (zipE [2,15,16,17] [.ms 4 0 j2_2.length,.sl false (a0.pieces.map E_GPiece),.i (a0.pieces.length : Int),.i l1_17])) (fun (j2_2 : (List GTone)) => ⟨[(4,.cells 3 (j2_2.map E_GTone))],5⟩) (fun j => j2_2 = j) (fun kj2 => ?_) ?_
     ·rcases iteE hj2 with ⟨hc7,hj2⟩ | ⟨hc7,hj2⟩
      ·replace hj2 := Option.some.inj hj2; subst hj2
       refine awp_post (by intro i e; cases e <;> exact Nat.le_of_ble_eq_true rfl) ?_
       exact run0z [{},{},{ k := 2 }] [2,15,16,17] [.ms 1 0 l1_2.length,.sl false (a0.pieces.map E_GPiece),.i (a0.pieces.length : Int),.i l1_17] ⟨[(1,.cells 3 (l1_2.map E_GTone))],3⟩ _ (by kernel_rfl) (cjC (mapNil E_GTone (of_decide_eq_true hc7)) (cj1 (fitsMap (P := Tryz.prog) (t := 116) (k := 3) r5.1 E_GTone (by kernel_rfl) sz_GTone))) ⟨4,pi [(4,1)],_,_,Nat.le_of_ble_eq_true rfl,mkInto (ks := [2,15,16,17]) (ys := [.ms 1 0 l1_2.length,.sl false (a0.pieces.map E_GPiece),.i (a0.pieces.length : Int),.i l1_17]) (by kernel_rfl) (by kernel_rfl) (.k (.ms rfl rfl) (.k (.c (cleanMap _ _ cl_GPiece)) (.k (.c rfl) (.k (.c rfl) .z)))) (.k (x' := .cells 3 (l1_2.map E_GTone)) (by kernel_rfl) (.cells (.r (cleanMap _ _ cl_GTone))) .z),kj2 l1_2 rfl⟩
      ·obtain ⟨hn8,hj2⟩ := needE hj2
       replace hj2 := Option.some.inj hj2; subst hj2
       refine awp_post (by intro i e; cases e <;> exact Nat.le_of_ble_eq_true rfl) ?_
       exact run0z [{},{},{ k := 1,n := (l1_2 ++ r5.1).length,l := (l1_2 ++ r5.1).map E_GTone }] [2,15,16,17] [.ms 3 0 (l1_2 ++ r5.1).length,.sl false (a0.pieces.map E_GPiece),.i (a0.pieces.length : Int),.i l1_17] ⟨[(3,.cells 3 ((l1_2 ++ r5.1).map E_GTone))],4⟩ _ (by kernel_rfl) (cjC (mapNe E_GTone (of_decide_eq_false hc7)) (cjC (mLe l1_2 E_GTone) (cjC (bnd1 E_GTone hn8) (cjC (len1 l1_2 r5.1 E_GTone) (cjC (app1 l1_2 r5.1 E_GTone) (cj1 (fitsMap (P := Tryz.prog) (t := 116) (k := 3) r5.1 E_GTone (by kernel_rfl) sz_GTone))))))) ⟨4,pi [(4,3)],_,_,Nat.le_of_ble_eq_true rfl,mkInto (ks := [2,15,16,17]) (ys := [.ms 3 0 (l1_2 ++ r5.1).length,.sl false (a0.pieces.map E_GPiece),.i (a0.pieces.length : Int),.i l1_17]) (by kernel_rfl) (by kernel_rfl) (.k (.ms rfl rfl) (.k (.c (cleanMap _ _ cl_GPiece)) (.k (.c rfl) (.k (.c rfl) .z)))) (.k (x' := .cells 3 ((l1_2 ++ r5.1).map E_GTone)) (by kernel_rfl) (.cells (.r (cleanMap _ _ cl_GTone))) .z),kj2 (l1_2 ++ r5.1) rfl⟩
     ·rintro _ rfl
      refine inbN ?_
      refine thenN ?_
      refine run0z [] [2,15,16,17] [.ms 4 0 j2_2.length,.sl false (a0.pieces.map E_GPiece),.i (a0.pieces.length : Int),.i (wr (l1_17 + 1))] ⟨[(4,.cells 3 (j2_2.map E_GTone))],5⟩ _ (by kernel_rfl) cj0 ?_
      replace hl1 := Option.some.inj hl1; subst hl1
      exact ⟨_,rfl,pi [(1,4)],mkInto (ks := [2,15,16,17]) (ys := [.ms 4 0 j2_2.length,.sl false (a0.pieces.map E_GPiece),.i (a0.pieces.length : Int),.i (wr (l1_17 + 1))]) (by kernel_rfl) (by kernel_rfl) (.k (.ms rfl rfl) (.k (.c (cleanMap _ _ cl_GPiece)) (.k (.c rfl) (.k (.c rfl) .z)))) (.k (x' := .cells 3 (j2_2.map E_GTone)) (by kernel_rfl) (.cells (.r (cleanMap _ _ cl_GTone))) .z)⟩ --@I 3
   ·refine run_cF 18 (c60 21) (c60 22) (decide (l1_17 < (a0.pieces.length : Int))) hc3 (by kernel_rfl) (by kernel_rfl) ?_
    replace hl1 := Option.some.inj hl1; subst hl1
    have hr := rl1 _ rfl
    subst hr
    refine awp_p [2] [1] (zipE [2] [.ms 1 0 l1_2.length]) ⟨[(1,.cells 3 (l1_2.map E_GTone))],2⟩ (by kernel_rfl) (?_)
    refine run_e 0 (by kernel_rfl) ?_
    refine thenE ?_
    refine ⟨⟨_,rfl⟩,?_⟩
    refine inbE ?_
    exact kl1 l1_2 rfl
  ·rintro l1x_2 rfl
   replace h := elimL h
   refine thenN ?_
   obtain ⟨r9,hr9,h⟩ := bindE h
   obtain ⟨hn10,h⟩ := needE h
   refine run1z (c60 41) [{},{ c := some (.tup [],⟨[(1,.cells 3 (r9.map E_GTone))],2⟩) }] [2] [.ms 1 0 l1x_2.length] ⟨[(1,.cells 3 (r9.map E_GTone))],2⟩ _ (by kernel_rfl) (cj1 (callF (f90_1_ok l1x_2 _ hr9) [(0,1)] [(1,0)] [] [.ms 1 0 l1x_2.length,.fn 91 []] ⟨[(1,.cells 3 (l1x_2.map E_GTone))],2⟩ (.tup []) ⟨[(1,.cells 3 (r9.map E_GTone))],2⟩ (by kernel_rfl) (.k (.ms rfl rfl) (.k (.c rfl) .z)) (.t .z) (.k (x' := .cells 3 (l1x_2.map E_GTone)) (by kernel_rfl) (.cells (.r (cleanMap _ _ cl_GTone))) .z) (.d (x' := .cells 3 (r9.map E_GTone)) rfl (by kernel_rfl) (.cells (.r (cleanMap _ _ cl_GTone))) .z))) ?_
   refine run_i 2 [] [2] [.ms 1 0 l1x_2.length] (xs := [.ms 1 0 r9.length]) (S2 := ⟨[(1,.cells 3 (r9.map E_GTone))],2⟩) ?_ (by intro i e; cases e <;> exact Nat.le_of_ble_eq_true rfl) (by kernel_rfl) (by kernel_rfl) (by kernel_rfl) (.k (.e rfl rfl hn10) .z) (.k (x' := .cells 3 (r9.map E_GTone)) (by kernel_rfl) (.cells (.r (cleanMap _ _ cl_GTone))) .z)
   refine run1z (c60 43) [] [2,3] [.ms 1 0 r9.length,.i 0] ⟨[(1,.cells 3 (r9.map E_GTone))],2⟩ _ (by kernel_rfl) cj0 ?_
   refine run_z 1 3 (r9.map E_GTone) [2,3] [.ms 1 0 r9.length,.i 0] (xs := [.sl false (r9.map E_GTone),.i 0]) (S2 := ⟨[],2⟩) ?_ (by kernel_rfl) (by kernel_rfl) (.k (.m (mLe r9 E_GTone) (mapAll r9 E_GTone)) (.k (.r _) .z)) .z rfl rfl
   refine run_t (by kernel_rfl) ?_
   replace h := Option.some.inj h; subst h
   exact fin_r (by kernel_rfl) rfl
theorem f60_t (a0 : GConsort) (r : ((List GTone) × Int)) (h : f60 a0 = some r) : TPure TT Tryz.prog 60 [.v 5 a0] (fun r=>.tup [.l false 12 r.1,.n r.2]) r := f60_ok a0 r h
def f93 (a0 : GPiece) : Option (((List GNote)) × Int) := (f33 a0).bind fun r1 => bif (decide (r1.2 ≠ 0)) then (some (([] : List GNote),r1.2)) else ((loopN (σ := (List GNote × Int)) (τ := (List GNote)) (fun ((l1_6,l1_19) : (List GNote × Int)) => bif (decide (l1_19 < (r1.1.length : Int))) then ((((ix r1.1 l1_19).bind fun y4 => need (l1_6.length + 1 ≤ maxElems) <| (ix a0.instrument.courses (wr (y4.course - 1))).bind fun y6 => bif y6.octave then (need ((l1_6 ++ ([y4] : List GNote)).length + 1 ≤ maxElems) <| some ((l1_6 ++ ([y4] : List GNote)) ++ ([(⟨y4.event,y4.course,(wr (y4.pitch + 12)),y4.from_,y4.to_⟩ : GNote)] : List GNote))) else (some (l1_6 ++ ([y4] : List GNote)))) : Option (List GNote)).bind fun (j2_6 : (List GNote)) => some (.inl (j2_6,(wr (l1_19 + 1))))) else (some (.inr l1_6))) FUEL (([] : List GNote),0)).bind fun (l1x_6 : (List GNote)) => some (l1x_6,0))
theorem f93_t (a0 : GPiece) (r : (((List GNote)) × Int)) (h : f93 a0 = some r) : TPure TT Tryz.prog 93 [.v 4 a0] (fun r=>.tup [.l false 9 r.1,.n r.2]) r := tf <|tCall h (f33_t a0) fun r1 q1 h=>tIf h (fun c2 h=>tRet h) fun c2 h=>tJ h false 1 [] [] 2 (fun l1x_6=>([(6,.a (.ms 1 0 l1x_6.length))],[(1,.lz 5 9 l1x_6)])) (fun o1 G1 k1=>tL G1 [1,17,18] [0] 2 (fun (l1_6,l1_19)=>([(6,.a (.ms 1 0 l1_6.length)),(19,.n l1_19)],[(1,.lz 5 9 l1_6)])) fun (l1_6,l1_19) o g1 e1 K1=>tIf g1 (fun c3 g1=>tJ g1 false 1 [1,17,18,19] [0] 6 (fun j2_6=>([(6,.a (.ms 5 0 j2_6.length))],[(5,.lz 5 9 j2_6)])) (fun o2 g2 k2=>tIx 9 g2 fun y4 u4 g2=>tNd g2 fun n5 g2=>tIx 0 g2 fun y6 u6 g2=>tIf g2 (fun c7 g2=>tNd g2 fun n8 g2=>tM (k2 _ (sj g2))) fun c7 g2=>tM (k2 _ (sj g2))) fun j2_6 g1=>tN K1 g1) fun c3 g1=>tO g1 <|tM (k1 _ (oJ g1 e1))) fun l1x_6 h=>tRet h
def f94 (a0 : List GNote) (a1 : Int) : Option (List Int) := need (a0.length ≤ 4194304) <| need (∀ x ∈ a0,0 ≤ x.pitch ∧ x.pitch ≤ 1000) <| some (pitchS (fun x : GNote => x.pitch) (fun x => x.from_) (fun x => x.to_) a0 a1)
theorem f94_t (a0 : List GNote) (a1 : Int) (r : List Int) (h : f94 a0 a1 = some r) : TPure TT Tryz.prog 94 [.l false 9 a0,.n a1] (fun r=>.l false 1 r) r := by
 obtain ⟨hl,h⟩ := needE h
 obtain ⟨hr,h⟩ := needE h
 cases h
 exact pitches_ok E_GNote (fun x : GNote => x.event) (fun x => x.course) (fun x => x.pitch) (fun x => x.from_) (fun x => x.to_) (fun _ => rfl) a0 a1 hl hr
def f61 (a0 : GPiece) (a1 : Int) : Option (((List Int)) × Int) := (f73 a0).bind fun r1 => bif (decide (r1.2 ≠ 0)) then (some (([] : List Int),r1.2)) else (((bif (decide (a1 < 0)) then (some true) else ((f92 r1.1).bind fun r4 => some (decide (r4 ≤ a1)))) : Option Bool).bind fun (j1_24 : Bool) => bif j1_24 then (some (([] : List Int),1)) else ((f93 a0).bind fun r6 => (f94 r6.1 a1).bind fun r7 => some (r7,r6.2)))
theorem f61_t (a0 : GPiece) (a1 : Int) (r : (((List Int)) × Int)) (h : f61 a0 a1 = some r) : TPure TT Tryz.prog 61 [.v 4 a0,.n a1] (fun r=>.tup [.l false 1 r.1,.n r.2]) r := tf <|tCall h (f73_t a0) fun r1 q1 h=>tIf h (fun c2 h=>tRet h) fun c2 h=>tJ h true 0 [1,2] [0] 2 (fun j1_24=>([(24,.b j1_24)],[])) (fun o1 g1 k1=>tIf g1 (fun c3 g1=>tM (k1 _ (sj g1))) fun c3 g1=>tCall g1 (f92_t r1.1) fun r4 q4 g1=>tM (k1 _ (sj g1))) fun j1_24 h=>tIf h (fun c5 h=>tRet h) fun c5 h=>tCall h (f93_t a0) fun r6 q6 h=>tCall h (f94_t r6.1 a1) fun r7 q7 h=>tRet h
def f62 (a0 : List Int) : Option Bool := need (a0.length ≤ 4194304) <| need (∀ x ∈ a0,0 ≤ x ∧ x ≤ 1000) <| some (concS a0)
theorem f62_t (a0 : List Int) (r : Bool) (h : f62 a0 = some r) : TPure TT Tryz.prog 62 [.l false 1 a0] (fun r=>.b r) r := by
 obtain ⟨hl,h⟩ := needE h
 obtain ⟨hr,h⟩ := needE h
 cases h
 exact conc_ok a0 hl hr
def f26 (a0 : GConsort) : Option (((List Int)) × Int) := (f60 a0).bind fun r1 => bif (decide (r1.2 ≠ 0)) then (some (([] : List Int),r1.2)) else ((loopN (σ := (List Int × Int)) (τ := ((List Int) ⊕ (((List Int)) × Int))) (fun ((l1_2,l1_22) : (List Int × Int)) => bif (decide (l1_22 < (r1.1.length : Int))) then ((((ix r1.1 l1_22).bind fun y4 => ((bif (decide (0 < l1_22)) then ((ix r1.1 (wr (l1_22 - 1))).bind fun y6 => some (decide (y4.from_ = y6.from_))) else (some false)) : Option Bool).bind fun (j3_39 : Bool) => bif j3_39 then (some (.inl l1_2)) else ((loopN (σ := (List Int × Int)) (τ := ((List Int) ⊕ _)) (fun ((l4_7,l4_43) : (List Int × Int)) => bif (decide (l4_43 < (a0.pieces.length : Int))) then ((ix a0.pieces l4_43).bind fun y9 => (f61 y9 y4.from_).bind fun r10 => bif (decide (r10.2 ≠ 0)) then (some (.inr (.inr (.inr (.inr (.inr (([] : List Int),r10.2))))))) else (((bif r10.1.isEmpty then (some l4_7) else (need (l4_7.length + r10.1.length ≤ maxElems) <| some (l4_7 ++ r10.1))) : Option (List Int)).bind fun (j5_7 : (List Int)) => some (.inl (j5_7,(wr (l4_43 + 1)))))) else (some (.inr (.inl l4_7)))) FUEL (([] : List Int),0)).bind (Sum.elim (fun (l4x_7 : (List Int)) => (f62 l4x_7).bind fun r14 => bif (!r14) then (need (l1_2.length + 1 ≤ maxElems) <| some (.inl (l1_2 ++ ([y4.from_] : List Int)))) else (some (.inl l1_2))) some))) : Option ((List Int) ⊕ ((List Int × Int) ⊕ ((List Int) ⊕ (((List Int)) × Int))))).bind (Sum.elim (fun (j2_2 : (List Int)) => some (.inl (j2_2,(wr (l1_22 + 1))))) some)) else (some (.inr (.inl l1_2)))) FUEL (([] : List Int),0)).bind (Sum.elim (fun (l1x_2 : (List Int)) => some (l1x_2,0)) some))
theorem f26_t (a0 : GConsort) (r : (((List Int)) × Int)) (h : f26 a0 = some r) : TPure TT Tryz.prog 26 [.v 5 a0] (fun r=>.tup [.l false 1 r.1,.n r.2]) r := tf <|tCall h (f60_t a0) fun r1 q1 h=>tIf h (fun c2 h=>tRet h) fun c2 h=>tJe h false 1 [] [] 2 (fun l1x_2=>([(2,.a (.ms 1 0 l1x_2.length))],[(1,.lz 1 1 l1x_2)])) (fun o1 G1 k1 H1=>tL G1 [1,4,20,21] [0] 2 (fun (l1_2,l1_22)=>([(2,.a (.ms 1 0 l1_2.length)),(22,.n l1_22)],[(1,.lz 1 1 l1_2)])) fun (l1_2,l1_22) o g1 e1 K1=>tIf g1 (fun c3 g1=>tJe g1 false 1 [1,4,20,21,22] [0] 6 (fun j2_2=>([(2,.a (.ms 5 0 j2_2.length))],[(5,.lz 1 1 j2_2)])) (fun o2 g2 k2 H2=>tIx 12 g2 fun y4 u4 g2=>tJ g2 true 0 [1,2,4,6,20,21,22] [2,1,0] 3 (fun j3_39=>([(39,.b j3_39)],[])) (fun o3 g3 k3=>tIf g3 (fun c5 g3=>tIx 12 g3 fun y6 u6 g3=>tM (k3 _ (sj g3))) fun c5 g3=>tM (k3 _ (sj g3))) fun j3_39 g2=>tIf g2 (fun c7 g2=>tM (k2 _ (sj g2))) fun c7 g2=>tJe g2 false 1 [1,2,4,6,20,21,22] [2,1,0] 4 (fun l4x_7=>([(7,.a (.ms 3 0 l4x_7.length))],[(3,.lz 1 1 l4x_7)])) (fun o4 G4 k4 H4=>tL G4 [1,2,4,6,20,21,22,41,42] [2,1,0] 4 (fun (l4_7,l4_43)=>([(7,.a (.ms 3 0 l4_7.length)),(43,.n l4_43)],[(3,.lz 1 1 l4_7)])) fun (l4_7,l4_43) o g4 e4 K4=>tIf g4 (fun c8 g4=>tIx 4 g4 fun y9 u9 g4=>tCall g4 (f61_t y9 y4.from_) fun r10 q10 g4=>tIf g4 (fun c11 g4=>tO g4 <|tO (sE (oE g4 e4 H4) H2) <|tRet (oE (sE (oE g4 e4 H4) H2) e1 H1)) fun c11 g4=>tJ g4 true 0 [1,2,4,6,20,21,22,41,42,43] [2,1,0] 7 (fun j5_7=>([(7,.a (.ms 6 0 j5_7.length))],[(6,.lz 1 1 j5_7)])) (fun o5 g5 k5=>tIf g5 (fun c12 g5=>tM (k5 _ (sj g5))) fun c12 g5=>tNd g5 fun n13 g5=>tM (k5 _ (sj g5))) fun j5_7 g4=>tN K4 g4) fun c8 g4=>tO g4 <|tM (k4 _ (oJ g4 e4))) fun l4x_7 g2=>tZ 17 3 <|tCall g2 (f62_t l4x_7) fun r14 q14 g2=>tIf g2 (fun c15 g2=>tNd g2 fun n16 g2=>tM (k2 _ (sj g2))) fun c15 g2=>tM (k2 _ (sj g2))) fun j2_2 g1=>tN K1 g1) fun c3 g1=>tO g1 <|tM (k1 _ (oJ g1 e1))) fun l1x_2 h=>tRet h
def f109 (a0 : Int) : Option Int := bif (decide (a0 = 0)) then (some 90) else (bif (decide (6 < a0)) then (some 2) else (some 0))
theorem f109_t (a0 : Int) (r : Int) (h : f109 a0 = some r) : TPure TT Tryz.prog 109 [.n a0] (fun r=>.n r) r := tf <|tIf h (fun c1 h=>tRet h) fun c1 h=>tIf h (fun c2 h=>tRet h) fun c2 h=>tRet h
def f130 (a0 : GInstrument) : Option Int := ((bif (decide (14 < (a0.courses.length : Int))) then (some true) else (some (decide (18 < (a0.steps.length : Int))))) : Option Bool).bind fun (j1_17 : Bool) => bif j1_17 then (some 2) else (bif (decide ((a0.courses.length : Int) = 0)) then (some 11) else ((loopN (σ := (Int × Int)) (τ := (Unit ⊕ Int)) (fun ((l2_3,l2_4) : (Int × Int)) => bif (decide (l2_4 < (a0.steps.length : Int))) then ((((ix a0.steps l2_4).bind fun y5 => bif (decide (y5 ≤ l2_3)) then (some true) else (some (decide (127 < y5)))) : Option Bool).bind fun (j3_43 : Bool) => bif j3_43 then (some (.inr (.inr 11))) else ((ix a0.steps l2_4).bind fun y8 => some (.inl (y8,(wr (l2_4 + 1)))))) else (some (.inr (.inl ())))) FUEL (0,0)).bind (Sum.elim (fun (_ : Unit) => (loopN (σ := Int) (τ := (Unit ⊕ Int)) (fun (l4_5 : Int) => bif (decide (l4_5 < (a0.courses.length : Int))) then ((ix a0.courses l4_5).bind fun y10 => ((bif (decide (y10.frets < 0)) then (some true) else (some (decide ((a0.steps.length : Int) < y10.frets)))) : Option Bool).bind fun (j5_71 : Bool) => bif j5_71 then (some (.inr (.inr 13))) else (((bif (decide (y10.pitch < 0)) then (some true) else (some (decide (127 < y10.pitch)))) : Option Bool).bind fun (j6_79 : Bool) => bif j6_79 then (some (.inr (.inr 10))) else (((bif (decide (0 < y10.frets)) then ((ix a0.steps (wr (y10.frets - 1))).bind fun y16 => some (wr (y10.pitch + y16))) else (some y10.pitch)) : Option Int).bind fun (j7_7 : Int) => ((bif y10.octave then (some (wr (j7_7 + 12))) else (some j7_7)) : Option Int).bind fun (j8_7 : Int) => bif (decide (127 < j8_7)) then (some (.inr (.inr 10))) else (some (.inl (wr (l4_5 + 1))))))) else (some (.inr (.inl ())))) FUEL 0).bind (Sum.elim (fun (_ : Unit) => some 0) some)) some)))
theorem f130_t (a0 : GInstrument) (r : Int) (h : f130 a0 = some r) : TPure TT Tryz.prog 130 [.v 6 a0] (fun r=>.n r) r := tf <|tJ h true 0 [1] [0] 1 (fun j1_17=>([(17,.b j1_17)],[])) (fun o1 g1 k1=>tIf g1 (fun c1 g1=>tM (k1 _ (sj g1))) fun c1 g1=>tM (k1 _ (sj g1))) fun j1_17 h=>tIf h (fun c2 h=>tRet h) fun c2 h=>tIf h (fun c3 h=>tRet h) fun c3 h=>tJe h false 1 [1] [0] 1 (fun _=>([],[])) (fun o2 G2 k2 H2=>tL G2 [1] [0] 1 (fun (l2_3,l2_4)=>([(3,.n l2_3),(4,.n l2_4)],[])) fun (l2_3,l2_4) o g2 e2 K2=>tIf g2 (fun c4 g2=>tJ g2 true 0 [1,4] [0] 1 (fun j3_43=>([(43,.b j3_43)],[])) (fun o3 g3 k3=>tIx 1 g3 fun y5 u5 g3=>tIf g3 (fun c6 g3=>tM (k3 _ (sj g3))) fun c6 g3=>tIk 1 u5 <|tM (k3 _ (sj g3))) fun j3_43 g2=>tIf g2 (fun c7 g2=>tO g2 <|tRet (oE g2 e2 H2)) fun c7 g2=>tIx 1 g2 fun y8 u8 g2=>tN K2 g2) fun c4 g2=>tO g2 <|tM (k2 _ (oJ g2 e2))) fun _ h=>tJe h false 1 [] [] 1 (fun _=>([],[])) (fun o4 G4 k4 H4=>tL G4 [1] [0] 1 (fun l4_5=>([(5,.n l4_5)],[])) fun l4_5 o g4 e4 K4=>tIf g4 (fun c9 g4=>tIx 0 g4 fun y10 u10 g4=>tJ g4 true 0 [1,5,6] [1,0] 2 (fun j5_71=>([(71,.b j5_71)],[])) (fun o5 g5 k5=>tIf g5 (fun c11 g5=>tM (k5 _ (sj g5))) fun c11 g5=>tM (k5 _ (sj g5))) fun j5_71 g4=>tIf g4 (fun c12 g4=>tO g4 <|tRet (oE g4 e4 H4)) fun c12 g4=>tJ g4 true 0 [1,5,6] [1,0] 2 (fun j6_79=>([(79,.b j6_79)],[])) (fun o6 g6 k6=>tIf g6 (fun c13 g6=>tM (k6 _ (sj g6))) fun c13 g6=>tM (k6 _ (sj g6))) fun j6_79 g4=>tIf g4 (fun c14 g4=>tO g4 <|tRet (oE g4 e4 H4)) fun c14 g4=>tJ g4 false 0 [1,5,6] [1,0] 2 (fun j7_7=>([(7,.n j7_7)],[])) (fun o7 g7 k7=>tIf g7 (fun c15 g7=>tIx 1 g7 fun y16 u16 g7=>tM (k7 _ (sj g7))) fun c15 g7=>tM (k7 _ (sj g7))) fun j7_7 g4=>tJ g4 false 0 [1,5] [0] 2 (fun j8_7=>([(7,.n j8_7)],[])) (fun o8 g8 k8=>tIf g8 (fun c17 g8=>tM (k8 _ (sj g8))) fun c17 g8=>tM (k8 _ (sj g8))) fun j8_7 g4=>tIf g4 (fun c18 g4=>tO g4 <|tRet (oE g4 e4 H4)) fun c18 g4=>tN K4 g4) fun c9 g4=>tO g4 <|tM (k4 _ (oJ g4 e4))) fun _ h=>tRet h
def f110 (a0 : GSign) : Option Bool := bif (decide (a0.value = 0)) then (((bif (!a0.dot) then (some (!a0.three)) else (some false)) : Option Bool).bind fun (j1_2 : Bool) => some j1_2) else (((bif (decide (1 ≤ a0.value)) then (bif (decide (a0.value ≤ 7)) then (bif a0.dot then (some (!a0.three)) else (some true)) else (some false)) else (some false)) : Option Bool).bind fun (j2_2 : Bool) => some j2_2)
theorem f110_t (a0 : GSign) (r : Bool) (h : f110 a0 = some r) : TPure TT Tryz.prog 110 [.v 7 a0] (fun r=>.b r) r := tf <|tIf h (fun c1 h=>tJ h true 0 [] [] 1 (fun j1_2=>([(2,.b j1_2)],[])) (fun o1 g1 k1=>tIf g1 (fun c2 g1=>tM (k1 _ (sj g1))) fun c2 g1=>tM (k1 _ (sj g1))) fun j1_2 h=>tRet h) fun c1 h=>tJ h true 0 [] [] 1 (fun j2_2=>([(2,.b j2_2)],[])) (fun o2 g2 k2=>tIf g2 (fun c3 g2=>tIf g2 (fun c4 g2=>tIf g2 (fun c5 g2=>tM (k2 _ (sj g2))) fun c5 g2=>tM (k2 _ (sj g2))) fun c4 g2=>tM (k2 _ (sj g2))) fun c3 g2=>tM (k2 _ (sj g2))) fun j2_2 h=>tRet h
def f132 (a0 : GEvent) : Option Bool := ((bif (decide ((a0.stops.length : Int) = 0)) then (some (!a0.tie)) else (some false)) : Option Bool).bind fun (j1_2 : Bool) => some j1_2
theorem f132_t (a0 : GEvent) (r : Bool) (h : f132 a0 = some r) : TPure TT Tryz.prog 132 [.v 3 a0] (fun r=>.b r) r := tf <|tJ h true 0 [] [] 1 (fun j1_2=>([(2,.b j1_2)],[])) (fun o1 g1 k1=>tIf g1 (fun c1 g1=>tM (k1 _ (sj g1))) fun c1 g1=>tM (k1 _ (sj g1))) fun j1_2 h=>tRet h
def f133 (a0 : GEvent) (a1 : Int) : Option Bool := (loopN (σ := Int) (τ := (Unit ⊕ Bool)) (fun (l1_5 : Int) => bif (decide (l1_5 < (a0.stops.length : Int))) then ((ix a0.stops l1_5).bind fun y2 => bif (decide (y2.course = a1)) then (some (.inr (.inr true))) else (some (.inl (wr (l1_5 + 1))))) else (some (.inr (.inl ())))) FUEL 0).bind (Sum.elim (fun (_ : Unit) => some false) some)
theorem f133_t (a0 : GEvent) (a1 : Int) (r : Bool) (h : f133 a0 a1 = some r) : TPure TT Tryz.prog 133 [.v 3 a0,.n a1] (fun r=>.b r) r := tf <|tJe h false 1 [] [] 1 (fun _=>([],[])) (fun o1 G1 k1 H1=>tL G1 [1,2] [0] 1 (fun l1_5=>([(5,.n l1_5)],[])) fun l1_5 o g1 e1 K1=>tIf g1 (fun c1 g1=>tIx 2 g1 fun y2 u2 g1=>tIf g1 (fun c3 g1=>tO g1 <|tRet (oE g1 e1 H1)) fun c3 g1=>tN K1 g1) fun c1 g1=>tO g1 <|tM (k1 _ (oJ g1 e1))) fun _ h=>tRet h
def f162 (a0 : GPiece) (a1 : Int) (a2 : Int) : Option Int := ((bif (decide (a1 < 0)) then (some true) else (some (decide ((a0.events.length : Int) ≤ a1)))) : Option Bool).bind fun (j1_17 : Bool) => bif j1_17 then (some 0) else ((loopN (σ := Int) (τ := Int) (fun (l2_7 : Int) => ((bif (decide (l2_7 < 15)) then (some (decide ((wr ((wr (a1 + l2_7)) + 1)) < (a0.events.length : Int)))) else (some false)) : Option Bool).bind fun (j3_29 : Bool) => bif j3_29 then ((ix a0.events (wr ((wr (a1 + l2_7)) + 1))).bind fun y5 => (((f132 y5).bind fun r6 => bif r6 then (some true) else ((f133 y5 a2).bind fun r8 => some r8)) : Option Bool).bind fun (j4_44 : Bool) => bif j4_44 then (some (.inr l2_7)) else (some (.inl (wr (l2_7 + 1))))) else (some (.inr l2_7))) FUEL 0).bind fun (l2x_7 : Int) => some l2x_7)
theorem f162_t (a0 : GPiece) (a1 : Int) (a2 : Int) (r : Int) (h : f162 a0 a1 a2 = some r) : TPure TT Tryz.prog 162 [.v 4 a0,.n a1,.n a2] (fun r=>.n r) r := tf <|tJ h true 0 [1,2,3] [0] 1 (fun j1_17=>([(17,.b j1_17)],[])) (fun o1 g1 k1=>tIf g1 (fun c1 g1=>tM (k1 _ (sj g1))) fun c1 g1=>tM (k1 _ (sj g1))) fun j1_17 h=>tIf h (fun c2 h=>tRet h) fun c2 h=>tJ h false 1 [] [] 2 (fun l2x_7=>([(7,.n l2x_7)],[])) (fun o2 G2 k2=>tL G2 [1,2,3] [0] 1 (fun l2_7=>([(7,.n l2_7)],[])) fun l2_7 o g2 e2 K2=>tJ g2 true 0 [1,2,3,7] [0] 1 (fun j3_29=>([(29,.b j3_29)],[])) (fun o3 g3 k3=>tIf g3 (fun c3 g3=>tM (k3 _ (sj g3))) fun c3 g3=>tM (k3 _ (sj g3))) fun j3_29 g2=>tIf g2 (fun c4 g2=>tIx 3 g2 fun y5 u5 g2=>tJ g2 true 0 [1,2,3,7] [0] 2 (fun j4_44=>([(44,.b j4_44)],[])) (fun o4 g4 k4=>tCall g4 (f132_t y5) fun r6 q6 g4=>tIf g4 (fun c7 g4=>tM (k4 _ (sj g4))) fun c7 g4=>tCall g4 (f133_t y5 a2) fun r8 q8 g4=>tM (k4 _ (sj g4))) fun j4_44 g2=>tIf g2 (fun c9 g2=>tO g2 <|tM (k2 _ (oJ g2 e2))) fun c9 g2=>tN K2 g2) fun c4 g2=>tO g2 <|tM (k2 _ (oJ g2 e2))) fun l2x_7 h=>tRet h
def f131 (a0 : GPiece) (a1 : Int) : Option Int := (ix a0.events a1).bind fun y1 => (((f110 y1.sign).bind fun r2 => bif (!r2) then (some true) else (bif (decide (a1 = 0)) then (some (decide (y1.sign.value = 0))) else (some false))) : Option Bool).bind fun (j1_26 : Bool) => bif j1_26 then (some 20) else (((bif y1.tie then (bif (decide (0 < (y1.stops.length : Int))) then (some true) else (some (decide (a1 = 0)))) else (some false)) : Option Bool).bind fun (j2_38 : Bool) => bif j2_38 then (some 21) else ((loopN (σ := Int) (τ := (Unit ⊕ Int)) (fun (l3_6 : Int) => bif (decide (l3_6 < (y1.stops.length : Int))) then ((ix y1.stops l3_6).bind fun y10 => ((bif (decide (y10.course < 1)) then (some true) else (some (decide ((a0.instrument.courses.length : Int) < y10.course)))) : Option Bool).bind fun (j4_62 : Bool) => bif j4_62 then (some (.inr (.inr 12))) else (((bif (decide (y10.fret < 0)) then (some true) else ((ix a0.instrument.courses (wr (y10.course - 1))).bind fun y14 => some (decide (y14.frets < y10.fret)))) : Option Bool).bind fun (j5_79 : Bool) => bif j5_79 then (some (.inr (.inr 13))) else (((bif (decide (0 < l3_6)) then ((ix y1.stops (wr (l3_6 - 1))).bind fun y17 => some (decide (y10.course ≤ y17.course))) else (some false)) : Option Bool).bind fun (j6_93 : Bool) => bif j6_93 then (some (.inr (.inr 22))) else (((bif (decide (y10.right < 0)) then (some true) else (bif (decide (3 < y10.right)) then (some true) else (bif (decide (y10.grace < 0)) then (some true) else (some (decide (4 < y10.grace)))))) : Option Bool).bind fun (j7_111 : Bool) => bif j7_111 then (some (.inr (.inr 23))) else (((bif (decide (y10.hold < 0)) then (some true) else ((f162 a0 a1 y10.course).bind fun r24 => bif (decide (r24 < y10.hold)) then (some true) else (bif (decide (0 < y10.hold)) then (some (decide (y10.fret = 0))) else (some false)))) : Option Bool).bind fun (j8_134 : Bool) => bif j8_134 then (some (.inr (.inr 24))) else (some (.inl (wr (l3_6 + 1))))))))) else (some (.inr (.inl ())))) FUEL 0).bind (Sum.elim (fun (_ : Unit) => some 0) some)))
theorem f131_t (a0 : GPiece) (a1 : Int) (r : Int) (h : f131 a0 a1 = some r) : TPure TT Tryz.prog 131 [.v 4 a0,.n a1] (fun r=>.n r) r := tf <|tIx 3 h fun y1 u1 h=>tJ h true 0 [1,2,5] [1,0] 2 (fun j1_26=>([(26,.b j1_26)],[])) (fun o1 g1 k1=>tCall g1 (f110_t y1.sign) fun r2 q2 g1=>tIf g1 (fun c3 g1=>tM (k1 _ (sj g1))) fun c3 g1=>tIf g1 (fun c4 g1=>tM (k1 _ (sj g1))) fun c4 g1=>tM (k1 _ (sj g1))) fun j1_26 h=>tIf h (fun c5 h=>tRet h) fun c5 h=>tJ h true 0 [1,2,5] [1,0] 2 (fun j2_38=>([(38,.b j2_38)],[])) (fun o2 g2 k2=>tIf g2 (fun c6 g2=>tIf g2 (fun c7 g2=>tM (k2 _ (sj g2))) fun c7 g2=>tM (k2 _ (sj g2))) fun c6 g2=>tM (k2 _ (sj g2))) fun j2_38 h=>tIf h (fun c8 h=>tRet h) fun c8 h=>tJe h false 1 [] [] 2 (fun _=>([],[])) (fun o3 G3 k3 H3=>tL G3 [1,2,5] [1,0] 2 (fun l3_6=>([(6,.n l3_6)],[])) fun l3_6 o g3 e3 K3=>tIf g3 (fun c9 g3=>tIx 2 g3 fun y10 u10 g3=>tJ g3 true 0 [1,2,5,6,7] [2,1,0] 3 (fun j4_62=>([(62,.b j4_62)],[])) (fun o4 g4 k4=>tIf g4 (fun c11 g4=>tM (k4 _ (sj g4))) fun c11 g4=>tM (k4 _ (sj g4))) fun j4_62 g3=>tIf g3 (fun c12 g3=>tO g3 <|tRet (oE g3 e3 H3)) fun c12 g3=>tJ g3 true 0 [1,2,5,6,7] [2,1,0] 3 (fun j5_79=>([(79,.b j5_79)],[])) (fun o5 g5 k5=>tIf g5 (fun c13 g5=>tM (k5 _ (sj g5))) fun c13 g5=>tIx 0 g5 fun y14 u14 g5=>tM (k5 _ (sj g5))) fun j5_79 g3=>tIf g3 (fun c15 g3=>tO g3 <|tRet (oE g3 e3 H3)) fun c15 g3=>tJ g3 true 0 [1,2,5,6,7] [2,1,0] 3 (fun j6_93=>([(93,.b j6_93)],[])) (fun o6 g6 k6=>tIf g6 (fun c16 g6=>tIx 2 g6 fun y17 u17 g6=>tM (k6 _ (sj g6))) fun c16 g6=>tM (k6 _ (sj g6))) fun j6_93 g3=>tIf g3 (fun c18 g3=>tO g3 <|tRet (oE g3 e3 H3)) fun c18 g3=>tJ g3 true 0 [1,2,5,6,7] [2,1,0] 3 (fun j7_111=>([(111,.b j7_111)],[])) (fun o7 g7 k7=>tIf g7 (fun c19 g7=>tM (k7 _ (sj g7))) fun c19 g7=>tIf g7 (fun c20 g7=>tM (k7 _ (sj g7))) fun c20 g7=>tIf g7 (fun c21 g7=>tM (k7 _ (sj g7))) fun c21 g7=>tM (k7 _ (sj g7))) fun j7_111 g3=>tIf g3 (fun c22 g3=>tO g3 <|tRet (oE g3 e3 H3)) fun c22 g3=>tJ g3 true 0 [1,2,5,6] [1,0] 3 (fun j8_134=>([(134,.b j8_134)],[])) (fun o8 g8 k8=>tIf g8 (fun c23 g8=>tM (k8 _ (sj g8))) fun c23 g8=>tCall g8 (f162_t a0 a1 y10.course) fun r24 q24 g8=>tIf g8 (fun c25 g8=>tM (k8 _ (sj g8))) fun c25 g8=>tIf g8 (fun c26 g8=>tM (k8 _ (sj g8))) fun c26 g8=>tM (k8 _ (sj g8))) fun j8_134 g3=>tIf g3 (fun c27 g3=>tO g3 <|tRet (oE g3 e3 H3)) fun c27 g3=>tN K3 g3) fun c9 g3=>tO g3 <|tM (k3 _ (oJ g3 e3))) fun _ h=>tRet h
def f111 (a0 : GPiece) : Option Int := (f130 a0.instrument).bind fun r1 => bif (decide (r1 ≠ 0)) then (some r1) else (bif (decide (400 < (a0.events.length : Int))) then (some 2) else ((loopN (σ := Int) (τ := (Unit ⊕ Int)) (fun (l1_4 : Int) => bif (decide (l1_4 < (a0.events.length : Int))) then ((f131 a0 l1_4).bind fun r5 => bif (decide (r5 ≠ 0)) then (some (.inr (.inr r5))) else (some (.inl (wr (l1_4 + 1))))) else (some (.inr (.inl ())))) FUEL 0).bind (Sum.elim (fun (_ : Unit) => some 0) some)))
theorem f111_t (a0 : GPiece) (r : Int) (h : f111 a0 = some r) : TPure TT Tryz.prog 111 [.v 4 a0] (fun r=>.n r) r := tf <|tCall h (f130_t a0.instrument) fun r1 q1 h=>tIf h (fun c2 h=>tRet h) fun c2 h=>tIf h (fun c3 h=>tRet h) fun c3 h=>tJe h false 1 [] [] 1 (fun _=>([],[])) (fun o1 G1 k1 H1=>tL G1 [1] [0] 1 (fun l1_4=>([(4,.n l1_4)],[])) fun l1_4 o g1 e1 K1=>tIf g1 (fun c4 g1=>tCall g1 (f131_t a0 l1_4) fun r5 q5 g1=>tIf g1 (fun c6 g1=>tO g1 <|tRet (oE g1 e1 H1)) fun c6 g1=>tN K1 g1) fun c4 g1=>tO g1 <|tM (k1 _ (oJ g1 e1))) fun _ h=>tRet h
def f76 (a0 : GPiece) : Option ((List GSign)) := (loopN (σ := (List GSign × GSign × Int)) (τ := (List GSign)) (fun ((l1_3,l1_h1,l1_5) : (List GSign × GSign × Int)) => bif (decide (l1_5 < (a0.events.length : Int))) then ((((ix a0.events l1_5).bind fun y2 => bif (decide (y2.sign.value ≠ 0)) then (some y2.sign) else (some l1_h1)) : Option GSign).bind fun (j2_h1 : GSign) => need (l1_3.length + 1 ≤ maxElems) <| some (.inl ((l1_3 ++ ([j2_h1] : List GSign)),j2_h1,(wr (l1_5 + 1))))) else (some (.inr l1_3))) FUEL (([] : List GSign),(⟨0,false,false⟩ : GSign),0)).bind fun (l1x_3 : (List GSign)) => some l1x_3
theorem f76_t (a0 : GPiece) (r : ((List GSign))) (h : f76 a0 = some r) : TPure TT Tryz.prog 76 [.v 4 a0] (fun r=>.l false 7 r) r := tf <|tJ h false 1 [] [] 3 (fun l1x_3=>([(3,.a (.ms 2 0 l1x_3.length))],[(2,.lz 3 7 l1x_3)])) (fun o1 G1 k1=>tL G1 [1,4] [0] 3 (fun (l1_3,l1_h1,l1_5)=>([(3,.a (.ms 2 0 l1_3.length)),(5,.n l1_5)],[(2,.lz 3 7 l1_3),(1,.els 3 [.v 7 l1_h1])])) fun (l1_3,l1_h1,l1_5) o g1 e1 K1=>tIf g1 (fun c1 g1=>tJ g1 false 0 [1,3,4,5] [2,0] 3 (fun j2_h1=>([],[(1,.els 3 [.v 7 j2_h1])])) (fun o2 g2 k2=>tIx 3 g2 fun y2 u2 g2=>tIf g2 (fun c3 g2=>tIk 3 u2 <|tM (k2 _ (sj g2))) fun c3 g2=>tM (k2 _ (sj g2))) fun j2_h1 g1=>tNd g1 fun n4 g1=>tN K1 g1) fun c1 g1=>tO g1 <|tM (k1 _ (oJ g1 e1))) fun l1x_3 h=>tRet h
def f77 (a0 : GSign) : Option Int := (((f110 a0).bind fun r1 => bif (!r1) then (some true) else (some (decide (a0.value = 0)))) : Option Bool).bind fun (j1_12 : Bool) => bif j1_12 then (some 0) else ((loopN (σ := (Int × Int)) (τ := Int) (fun ((l2_3,l2_4) : (Int × Int)) => bif (decide (l2_4 < a0.value)) then (some (.inl ((wr (Int.tdiv l2_3 2)),(wr (l2_4 + 1))))) else (some (.inr l2_3))) FUEL (384,1)).bind fun (l2x_3 : Int) => bif a0.dot then (some (wr ((wr (Int.tdiv l2x_3 2)) * 3))) else (bif a0.three then (some (wr ((wr (Int.tdiv l2x_3 3)) * 2))) else (some l2x_3)))
theorem f77_t (a0 : GSign) (r : Int) (h : f77 a0 = some r) : TPure TT Tryz.prog 77 [.v 7 a0] (fun r=>.n r) r := tf <|tJ h true 0 [1] [0] 1 (fun j1_12=>([(12,.b j1_12)],[])) (fun o1 g1 k1=>tCall g1 (f110_t a0) fun r1 q1 g1=>tIf g1 (fun c2 g1=>tM (k1 _ (sj g1))) fun c2 g1=>tM (k1 _ (sj g1))) fun j1_12 h=>tIf h (fun c3 h=>tRet h) fun c3 h=>tJ h false 1 [1] [0] 1 (fun l2x_3=>([(3,.n l2x_3)],[])) (fun o2 G2 k2=>tL G2 [1] [0] 1 (fun (l2_3,l2_4)=>([(3,.n l2_3),(4,.n l2_4)],[])) fun (l2_3,l2_4) o g2 e2 K2=>tIf g2 (fun c4 g2=>tN K2 g2) fun c4 g2=>tO g2 <|tM (k2 _ (oJ g2 e2))) fun l2x_3 h=>tIf h (fun c5 h=>tRet h) fun c5 h=>tIf h (fun c6 h=>tRet h) fun c6 h=>tRet h
def f35 (a0 : GPiece) : Option ((List Int)) := (f76 a0).bind fun r1 => (loopN (σ := (List Int × Int)) (τ := (List Int)) (fun ((l1_3,l1_5) : (List Int × Int)) => bif (decide (l1_5 < (r1.length : Int))) then ((ix l1_3 l1_5).bind fun y3 => (ix r1 l1_5).bind fun y4 => (f77 y4).bind fun r5 => need (l1_3.length + 1 ≤ maxElems) <| some (.inl ((l1_3 ++ ([(wr (y3 + r5))] : List Int)),(wr (l1_5 + 1))))) else (some (.inr l1_3))) FUEL (([0] : List Int),0)).bind fun (l1x_3 : (List Int)) => some l1x_3
theorem f35_t (a0 : GPiece) (r : ((List Int))) (h : f35 a0 = some r) : TPure TT Tryz.prog 35 [.v 4 a0] (fun r=>.l false 1 r) r := tf <|tCall h (f76_t a0) fun r1 q1 h=>tJ h false 1 [] [] 3 (fun l1x_3=>([(3,.a (.ms 2 0 l1x_3.length))],[(2,.lz 1 1 l1x_3)])) (fun o1 G1 k1=>tL G1 [4] [] 3 (fun (l1_3,l1_5)=>([(3,.a (.ms 2 0 l1_3.length)),(5,.n l1_5)],[(2,.lz 1 1 l1_3)])) fun (l1_3,l1_5) o g1 e1 K1=>tIf g1 (fun c2 g1=>tIx 1 g1 fun y3 u3 g1=>tEx 1 u3 <|tIx 7 g1 fun y4 u4 g1=>tCall g1 (f77_t y4) fun r5 q5 g1=>tNd g1 fun n6 g1=>tN K1 g1) fun c2 g1=>tO g1 <|tM (k1 _ (oJ g1 e1))) fun l1x_3 h=>tRet h
def f78 (a0 : GPiece) : Option (((List Int)) × Int) := (f111 a0).bind fun r1 => bif (decide (r1 ≠ 0)) then (some (([] : List Int),r1)) else ((f35 a0).bind fun r3 => some (r3,0))
theorem f78_t (a0 : GPiece) (r : (((List Int)) × Int)) (h : f78 a0 = some r) : TPure TT Tryz.prog 78 [.v 4 a0] (fun r=>.tup [.l false 1 r.1,.n r.2]) r := tf <|tCall h (f111_t a0) fun r1 q1 h=>tIf h (fun c2 h=>tRet h) fun c2 h=>tCall h (f35_t a0) fun r3 q3 h=>tRet h
def f75 (a0 : List GPiece) : Option (((List Int)) × Int) := (f109 (a0.length : Int)).bind fun r1 => bif (decide (r1 ≠ 0)) then (some (([] : List Int),r1)) else ((loopN (σ := (List Int × Int)) (τ := ((List Int) ⊕ (((List Int)) × Int))) (fun ((l1_5,l1_6) : (List Int × Int)) => bif (decide (l1_6 < (a0.length : Int))) then ((ix a0 l1_6).bind fun y4 => (f78 y4).bind fun r5 => bif (decide (r5.2 ≠ 0)) then (some (.inr (.inr (([] : List Int),r5.2)))) else ((ix r5.1 (wr ((r5.1.length : Int) - 1))).bind fun y7 => need (l1_5.length + 1 ≤ maxElems) <| some (.inl ((l1_5 ++ ([y7] : List Int)),(wr (l1_6 + 1)))))) else (some (.inr (.inl l1_5)))) FUEL (([] : List Int),0)).bind (Sum.elim (fun (l1x_5 : (List Int)) => some (l1x_5,0)) some))
theorem f75_t (a0 : List GPiece) (r : (((List Int)) × Int)) (h : f75 a0 = some r) : TPure TT Tryz.prog 75 [.l false 4 a0] (fun r=>.tup [.l false 1 r.1,.n r.2]) r := tf <|tCall h (f109_t (a0.length : Int)) fun r1 q1 h=>tIf h (fun c2 h=>tRet h) fun c2 h=>tJe h false 1 [] [] 1 (fun l1x_5=>([(5,.a (.ms 0 0 l1x_5.length))],[(0,.lz 1 1 l1x_5)])) (fun o1 G1 k1 H1=>tL G1 [0] [] 1 (fun (l1_5,l1_6)=>([(5,.a (.ms 0 0 l1_5.length)),(6,.n l1_6)],[(0,.lz 1 1 l1_5)])) fun (l1_5,l1_6) o g1 e1 K1=>tIf g1 (fun c3 g1=>tIx 4 g1 fun y4 u4 g1=>tCall g1 (f78_t y4) fun r5 q5 g1=>tIf g1 (fun c6 g1=>tO g1 <|tRet (oE g1 e1 H1)) fun c6 g1=>tIx 1 g1 fun y7 u7 g1=>tNd g1 fun n8 g1=>tN K1 g1) fun c3 g1=>tO g1 <|tM (k1 _ (oJ g1 e1))) fun l1x_5 h=>tRet h
def f34 (a0 : GConsort) : Option Int := (f75 a0.pieces).bind fun r1 => (loopN (σ := Int) (τ := (Unit ⊕ Int)) (fun (l1_5 : Int) => bif (decide (l1_5 < (r1.1.length : Int))) then ((ix r1.1 l1_5).bind fun y3 => (ix r1.1 0).bind fun y4 => bif (decide (y3 ≠ y4)) then (some (.inr (.inr 91))) else (some (.inl (wr (l1_5 + 1))))) else (some (.inr (.inl ())))) FUEL 0).bind (Sum.elim (fun (_ : Unit) => some r1.2) some)
theorem f34_t (a0 : GConsort) (r : Int) (h : f34 a0 = some r) : TPure TT Tryz.prog 34 [.v 5 a0] (fun r=>.n r) r := tf <|tCall h (f75_t a0.pieces) fun r1 q1 h=>tJe h false 1 [4] [] 1 (fun _=>([],[])) (fun o1 G1 k1 H1=>tL G1 [3,4] [] 1 (fun l1_5=>([(5,.n l1_5)],[])) fun l1_5 o g1 e1 K1=>tIf g1 (fun c2 g1=>tIx 1 g1 fun y3 u3 g1=>tIx 1 g1 fun y4 u4 g1=>tIf g1 (fun c5 g1=>tO g1 <|tRet (oE g1 e1 H1)) fun c5 g1=>tN K1 g1) fun c2 g1=>tO g1 <|tM (k1 _ (oJ g1 e1))) fun _ h=>tRet h
def f79 (a0 : GInstrument) (a1 : GPlace) : Option Int := (ix a0.courses (wr (a1.course - 1))).bind fun y1 => ((bif (decide (0 < a1.fret)) then ((ix a0.steps (wr (a1.fret - 1))).bind fun y3 => some (wr (y1.pitch + y3))) else (some y1.pitch)) : Option Int).bind fun (j1_5 : Int) => some j1_5
theorem f79_t (a0 : GInstrument) (a1 : GPlace) (r : Int) (h : f79 a0 a1 = some r) : TPure TT Tryz.prog 79 [.v 6 a0,.v 10 a1] (fun r=>.n r) r := tf <|tIx 0 h fun y1 u1 h=>tJ h false 0 [] [] 2 (fun j1_5=>([(5,.n j1_5)],[])) (fun o1 g1 k1=>tIf g1 (fun c2 g1=>tIx 1 g1 fun y3 u3 g1=>tM (k1 _ (sj g1))) fun c2 g1=>tM (k1 _ (sj g1))) fun j1_5 h=>tRet h
def f112 (a0 : GPiece) (a1 : Int) (a2 : Int) : Option Int := (loopN (σ := Int) (τ := Int) (fun (l1_7 : Int) => ((bif (decide (l1_7 < (a0.events.length : Int))) then ((ix a0.events l1_7).bind fun y2 => bif (decide ((y2.stops.length : Int) = 0)) then (some y2.tie) else (some false)) else (some false)) : Option Bool).bind fun (j2_34 : Bool) => bif j2_34 then (some (.inl (wr (l1_7 + 1)))) else (some (.inr l1_7))) FUEL (wr ((wr (a1 + a2)) + 1))).bind fun (l1x_7 : Int) => some l1x_7
theorem f112_t (a0 : GPiece) (a1 : Int) (a2 : Int) (r : Int) (h : f112 a0 a1 a2 = some r) : TPure TT Tryz.prog 112 [.v 4 a0,.n a1,.n a2] (fun r=>.n r) r := tf <|tJ h false 1 [] [] 1 (fun l1x_7=>([(7,.n l1x_7)],[])) (fun o1 G1 k1=>tL G1 [3] [0] 1 (fun l1_7=>([(7,.n l1_7)],[])) fun l1_7 o g1 e1 K1=>tJ g1 true 0 [3,7] [0] 1 (fun j2_34=>([(34,.b j2_34)],[])) (fun o2 g2 k2=>tIf g2 (fun c1 g2=>tIx 3 g2 fun y2 u2 g2=>tIf g2 (fun c3 g2=>tIk 3 u2 <|tM (k2 _ (sj g2))) fun c3 g2=>tM (k2 _ (sj g2))) fun c1 g2=>tM (k2 _ (sj g2))) fun j2_34 g1=>tIf g1 (fun c4 g1=>tN K1 g1) fun c4 g1=>tO g1 <|tM (k1 _ (oJ g1 e1))) fun l1x_7 h=>tRet h
def f113 (a0 : GPiece) (a1 : Int) (a2 : Int) : Option Int := (loopN (σ := Int) (τ := (Unit ⊕ Int)) (fun (l1_7 : Int) => bif (decide (l1_7 < (a0.events.length : Int))) then ((((ix a0.events l1_7).bind fun y2 => (f132 y2).bind fun r3 => bif r3 then (some true) else ((f133 y2 a2).bind fun r5 => some r5)) : Option Bool).bind fun (j2_31 : Bool) => bif j2_31 then (some (.inr (.inr l1_7))) else (some (.inl (wr (l1_7 + 1))))) else (some (.inr (.inl ())))) FUEL (wr (a1 + 1))).bind (Sum.elim (fun (_ : Unit) => some (a0.events.length : Int)) some)
theorem f113_t (a0 : GPiece) (a1 : Int) (a2 : Int) (r : Int) (h : f113 a0 a1 a2 = some r) : TPure TT Tryz.prog 113 [.v 4 a0,.n a1,.n a2] (fun r=>.n r) r := tf <|tJe h false 1 [3] [0] 1 (fun _=>([],[])) (fun o1 G1 k1 H1=>tL G1 [2,3] [0] 1 (fun l1_7=>([(7,.n l1_7)],[])) fun l1_7 o g1 e1 K1=>tIf g1 (fun c1 g1=>tJ g1 true 0 [2,3,7] [0] 1 (fun j2_31=>([(31,.b j2_31)],[])) (fun o2 g2 k2=>tIx 3 g2 fun y2 u2 g2=>tCall g2 (f132_t y2) fun r3 q3 g2=>tIf g2 (fun c4 g2=>tM (k2 _ (sj g2))) fun c4 g2=>tIk 3 u2 <|tCall g2 (f133_t y2 a2) fun r5 q5 g2=>tM (k2 _ (sj g2))) fun j2_31 g1=>tIf g1 (fun c6 g1=>tO g1 <|tRet (oE g1 e1 H1)) fun c6 g1=>tN K1 g1) fun c1 g1=>tO g1 <|tM (k1 _ (oJ g1 e1))) fun _ h=>tRet h
def f80 (a0 : GPiece) (a1 : Int) (a2 : GStop) : Option Int := bif (decide (0 < a2.fret)) then ((f112 a0 a1 a2.hold).bind fun r2 => some r2) else ((f113 a0 a1 a2.course).bind fun r3 => some r3)
theorem f80_t (a0 : GPiece) (a1 : Int) (a2 : GStop) (r : Int) (h : f80 a0 a1 a2 = some r) : TPure TT Tryz.prog 80 [.v 4 a0,.n a1,.v 2 a2] (fun r=>.n r) r := tf <|tIf h (fun c1 h=>tCall h (f112_t a0 a1 a2.hold) fun r2 q2 h=>tRet h) fun c1 h=>tCall h (f113_t a0 a1 a2.course) fun r3 q3 h=>tRet h
def f36 (a0 : GPiece) : Option (((List GNote)) × Int) := (f78 a0).bind fun r1 => bif (decide (r1.2 ≠ 0)) then (some (([] : List GNote),r1.2)) else ((loopN (σ := (List GNote × Int)) (τ := (List GNote)) (fun ((l1_6,l1_7) : (List GNote × Int)) => bif (decide (l1_7 < (a0.events.length : Int))) then ((loopN (σ := (List GNote × Int)) (τ := (List GNote)) (fun ((l2_6,l2_8) : (List GNote × Int)) => (ix a0.events l1_7).bind fun y4 => bif (decide (l2_8 < (y4.stops.length : Int))) then ((ix y4.stops l2_8).bind fun y6 => (f79 a0.instrument (⟨y6.course,y6.fret⟩ : GPlace)).bind fun r7 => (ix r1.1 l1_7).bind fun y8 => (f80 a0 l1_7 y6).bind fun r9 => (ix r1.1 r9).bind fun y10 => need (l2_6.length + 1 ≤ maxElems) <| some (.inl ((l2_6 ++ ([(⟨l1_7,y6.course,r7,y8,y10⟩ : GNote)] : List GNote)),(wr (l2_8 + 1))))) else (some (.inr l2_6))) FUEL (l1_6,0)).bind fun (l2x_6 : (List GNote)) => some (.inl (l2x_6,(wr (l1_7 + 1))))) else (some (.inr l1_6))) FUEL (([] : List GNote),0)).bind fun (l1x_6 : (List GNote)) => some (l1x_6,0))
theorem f36_t (a0 : GPiece) (r : (((List GNote)) × Int)) (h : f36 a0 = some r) : TPure TT Tryz.prog 36 [.v 4 a0] (fun r=>.tup [.l false 9 r.1,.n r.2]) r := tf <|tCall h (f78_t a0) fun r1 q1 h=>tIf h (fun c2 h=>tRet h) fun c2 h=>tJ h false 1 [] [] 2 (fun l1x_6=>([(6,.a (.ms 1 0 l1x_6.length))],[(1,.lz 5 9 l1x_6)])) (fun o1 G1 k1=>tL G1 [1,4] [0] 2 (fun (l1_6,l1_7)=>([(6,.a (.ms 1 0 l1_6.length)),(7,.n l1_7)],[(1,.lz 5 9 l1_6)])) fun (l1_6,l1_7) o g1 e1 K1=>tIf g1 (fun c3 g1=>tJ g1 false 1 [1,4,7] [0] 3 (fun l2x_6=>([(6,.a (.ms 2 0 l2x_6.length))],[(2,.lz 5 9 l2x_6)])) (fun o2 G2 k2=>tL G2 [1,4,7] [0] 3 (fun (l2_6,l2_8)=>([(6,.a (.ms 2 0 l2_6.length)),(8,.n l2_8)],[(2,.lz 5 9 l2_6)])) fun (l2_6,l2_8) o g2 e2 K2=>tIx 3 g2 fun y4 u4 g2=>tIf g2 (fun c5 g2=>tIk 3 u4 <|tIx 2 g2 fun y6 u6 g2=>tCall g2 (f79_t a0.instrument (⟨y6.course,y6.fret⟩ : GPlace)) fun r7 q7 g2=>tIx 1 g2 fun y8 u8 g2=>tCall g2 (f80_t a0 l1_7 y6) fun r9 q9 g2=>tIx 1 g2 fun y10 u10 g2=>tNd g2 fun n11 g2=>tN K2 g2) fun c5 g2=>tO g2 <|tM (k2 _ (oJ g2 e2))) fun l2x_6 g1=>tN K1 g1) fun c3 g1=>tO g1 <|tM (k1 _ (oJ g1 e1))) fun l1x_6 h=>tRet h
def f121 (a0 : GTone) (a1 : GTone) : Option Bool := bif (decide (a0.from_ ≠ a1.from_)) then (some (decide (a0.from_ < a1.from_))) else (bif (decide (a0.pitch ≠ a1.pitch)) then (some (decide (a0.pitch < a1.pitch))) else (some (decide (a0.to_ < a1.to_))))
theorem f121_t (a0 : GTone) (a1 : GTone) (r : Bool) (h : f121 a0 a1 = some r) : TPure TT Tryz.prog 121 [.v 12 a0,.v 12 a1] (fun r=>.b r) r := tf <|tIf h (fun c1 h=>tRet h) fun c1 h=>tIf h (fun c2 h=>tRet h) fun c2 h=>tRet h
def f96 (a0 : GPiece) : Option (((List GTone)) × Int) := (f36 a0).bind fun r1 => bif (decide (r1.2 ≠ 0)) then (some (([] : List GTone),r1.2)) else ((loopN (σ := (List GTone × Int)) (τ := (List GTone)) (fun ((l1_6,l1_7) : (List GTone × Int)) => bif (decide (l1_7 < (r1.1.length : Int))) then ((ix r1.1 l1_7).bind fun y4 => need (l1_6.length + 1 ≤ maxElems) <| (loopN (σ := (List GTone × Int)) (τ := (List GTone)) (fun ((l2_6,l2_8) : (List GTone × Int)) => ((bif (decide (0 < l2_8)) then ((ix l2_6 l2_8).bind fun y7 => (ix l2_6 (wr (l2_8 - 1))).bind fun y8 => (f121 y7 y8).bind fun r9 => some r9) else (some false)) : Option Bool).bind fun (j3_58 : Bool) => bif j3_58 then ((ix l2_6 (wr (l2_8 - 1))).bind fun y11 => (ix l2_6 l2_8).bind fun y12 => (ix (l2_6.set l2_8.toNat y11) (wr (l2_8 - 1))).bind fun y13 => some (.inl (((l2_6.set l2_8.toNat y11).set (wr (l2_8 - 1)).toNat y12),(wr (l2_8 - 1))))) else (some (.inr l2_6))) FUEL ((l1_6 ++ ([(⟨y4.pitch,y4.from_,y4.to_⟩ : GTone)] : List GTone)),(wr (((l1_6 ++ ([(⟨y4.pitch,y4.from_,y4.to_⟩ : GTone)] : List GTone)).length : Int) - 1)))).bind fun (l2x_6 : (List GTone)) => some (.inl (l2x_6,(wr (l1_7 + 1))))) else (some (.inr l1_6))) FUEL (([] : List GTone),0)).bind fun (l1x_6 : (List GTone)) => some (l1x_6,0))
theorem f96_t (a0 : GPiece) (r : (((List GTone)) × Int)) (h : f96 a0 = some r) : TPure TT Tryz.prog 96 [.v 4 a0] (fun r=>.tup [.l false 12 r.1,.n r.2]) r := tf <|tCall h (f36_t a0) fun r1 q1 h=>tIf h (fun c2 h=>tRet h) fun c2 h=>tJ h false 1 [] [] 2 (fun l1x_6=>([(6,.a (.ms 1 0 l1x_6.length))],[(1,.lz 3 12 l1x_6)])) (fun o1 G1 k1=>tL G1 [4] [] 2 (fun (l1_6,l1_7)=>([(6,.a (.ms 1 0 l1_6.length)),(7,.n l1_7)],[(1,.lz 3 12 l1_6)])) fun (l1_6,l1_7) o g1 e1 K1=>tIf g1 (fun c3 g1=>tIx 9 g1 fun y4 u4 g1=>tIk 9 u4 <|tIk 9 u4 <|tNd g1 fun n5 g1=>tJ g1 false 1 [4,7] [] 3 (fun l2x_6=>([(6,.a (.ms 2 0 l2x_6.length))],[(2,.lz 3 12 l2x_6)])) (fun o2 G2 k2=>tL G2 [4,7] [] 3 (fun (l2_6,l2_8)=>([(6,.a (.ms 2 0 l2_6.length)),(8,.n l2_8)],[(2,.lz 3 12 l2_6)])) fun (l2_6,l2_8) o g2 e2 K2=>tJ g2 true 0 [4,6,7,8] [2] 3 (fun j3_58=>([(58,.b j3_58)],[])) (fun o3 g3 k3=>tIf g3 (fun c6 g3=>tIx 12 g3 fun y7 u7 g3=>tEx 12 u7 <|tIx 12 g3 fun y8 u8 g3=>tEx 12 u8 <|tCall g3 (f121_t y7 y8) fun r9 q9 g3=>tM (k3 _ (sj g3))) fun c6 g3=>tM (k3 _ (sj g3))) fun j3_58 g2=>tIf g2 (fun c10 g2=>tIx 12 g2 fun y11 u11 g2=>tEx 12 u11 <|tIx 12 g2 fun y12 u12 g2=>tEx 12 u12 <|tIk 12 u12 <|tEx 12 u12 <|tIx 12 g2 fun y13 u13 g2=>tEx 12 u13 <|tN K2 g2) fun c10 g2=>tO g2 <|tM (k2 _ (oJ g2 e2))) fun l2x_6 g1=>tN K1 g1) fun c3 g1=>tO g1 <|tM (k1 _ (oJ g1 e1))) fun l1x_6 h=>tRet h
def f97 (a0 : GTone) (a1 : GTone) : Option Bool := bif (decide (a0.from_ ≠ a1.from_)) then (some (decide (a0.from_ < a1.from_))) else (bif (decide (a0.pitch ≠ a1.pitch)) then (some (decide (a0.pitch < a1.pitch))) else (some (decide (a0.to_ < a1.to_))))
theorem f97_t (a0 : GTone) (a1 : GTone) (r : Bool) (h : f97 a0 a1 = some r) : TPure TT Tryz.prog 97 [.v 12 a0,.v 12 a1] (fun r=>.b r) r := tf <|tIf h (fun c1 h=>tRet h) fun c1 h=>tIf h (fun c2 h=>tRet h) fun c2 h=>tRet h
def f63 (a0 : GConsort) : Option (((List GTone)) × Int) := (f34 a0).bind fun r1 => bif (decide (r1 ≠ 0)) then (some (([] : List GTone),r1)) else ((loopN (σ := (List GTone × Int)) (τ := (List GTone)) (fun ((l1_5,l1_6) : (List GTone × Int)) => bif (decide (l1_6 < (a0.pieces.length : Int))) then ((ix a0.pieces l1_6).bind fun y4 => (f96 y4).bind fun r5 => (loopN (σ := (List GTone × Int)) (τ := (List GTone)) (fun ((l2_5,l2_9) : (List GTone × Int)) => bif (decide (l2_9 < (r5.1.length : Int))) then ((ix r5.1 l2_9).bind fun y7 => need (l2_5.length + 1 ≤ maxElems) <| (loopN (σ := (List GTone × Int)) (τ := (List GTone)) (fun ((l3_5,l3_10) : (List GTone × Int)) => ((bif (decide (0 < l3_10)) then ((ix l3_5 l3_10).bind fun y10 => (ix l3_5 (wr (l3_10 - 1))).bind fun y11 => (f97 y10 y11).bind fun r12 => some r12) else (some false)) : Option Bool).bind fun (j4_61 : Bool) => bif j4_61 then ((ix l3_5 (wr (l3_10 - 1))).bind fun y14 => (ix l3_5 l3_10).bind fun y15 => (ix (l3_5.set l3_10.toNat y14) (wr (l3_10 - 1))).bind fun y16 => some (.inl (((l3_5.set l3_10.toNat y14).set (wr (l3_10 - 1)).toNat y15),(wr (l3_10 - 1))))) else (some (.inr l3_5))) FUEL ((l2_5 ++ ([y7] : List GTone)),(wr (((l2_5 ++ ([y7] : List GTone)).length : Int) - 1)))).bind fun (l3x_5 : (List GTone)) => some (.inl (l3x_5,(wr (l2_9 + 1))))) else (some (.inr l2_5))) FUEL (l1_5,0)).bind fun (l2x_5 : (List GTone)) => some (.inl (l2x_5,(wr (l1_6 + 1))))) else (some (.inr l1_5))) FUEL (([] : List GTone),0)).bind fun (l1x_5 : (List GTone)) => some (l1x_5,0))
theorem f63_t (a0 : GConsort) (r : (((List GTone)) × Int)) (h : f63 a0 = some r) : TPure TT Tryz.prog 63 [.v 5 a0] (fun r=>.tup [.l false 12 r.1,.n r.2]) r := tf <|tCall h (f34_t a0) fun r1 q1 h=>tIf h (fun c2 h=>tRet h) fun c2 h=>tJ h false 1 [] [] 2 (fun l1x_5=>([(5,.a (.ms 1 0 l1x_5.length))],[(1,.lz 3 12 l1x_5)])) (fun o1 G1 k1=>tL G1 [1] [0] 2 (fun (l1_5,l1_6)=>([(5,.a (.ms 1 0 l1_5.length)),(6,.n l1_6)],[(1,.lz 3 12 l1_5)])) fun (l1_5,l1_6) o g1 e1 K1=>tIf g1 (fun c3 g1=>tIx 4 g1 fun y4 u4 g1=>tCall g1 (f96_t y4) fun r5 q5 g1=>tJ g1 false 1 [1,6] [0] 3 (fun l2x_5=>([(5,.a (.ms 2 0 l2x_5.length))],[(2,.lz 3 12 l2x_5)])) (fun o2 G2 k2=>tL G2 [1,6,7] [0] 3 (fun (l2_5,l2_9)=>([(5,.a (.ms 2 0 l2_5.length)),(9,.n l2_9)],[(2,.lz 3 12 l2_5)])) fun (l2_5,l2_9) o g2 e2 K2=>tIf g2 (fun c6 g2=>tIx 12 g2 fun y7 u7 g2=>tNd g2 fun n8 g2=>tJ g2 false 1 [1,6,7,9] [0] 4 (fun l3x_5=>([(5,.a (.ms 3 0 l3x_5.length))],[(3,.lz 3 12 l3x_5)])) (fun o3 G3 k3=>tL G3 [1,6,7,9] [0] 4 (fun (l3_5,l3_10)=>([(5,.a (.ms 3 0 l3_5.length)),(10,.n l3_10)],[(3,.lz 3 12 l3_5)])) fun (l3_5,l3_10) o g3 e3 K3=>tJ g3 true 0 [1,5,6,7,9,10] [3,0] 4 (fun j4_61=>([(61,.b j4_61)],[])) (fun o4 g4 k4=>tIf g4 (fun c9 g4=>tIx 12 g4 fun y10 u10 g4=>tEx 12 u10 <|tIx 12 g4 fun y11 u11 g4=>tEx 12 u11 <|tCall g4 (f97_t y10 y11) fun r12 q12 g4=>tM (k4 _ (sj g4))) fun c9 g4=>tM (k4 _ (sj g4))) fun j4_61 g3=>tIf g3 (fun c13 g3=>tIx 12 g3 fun y14 u14 g3=>tEx 12 u14 <|tIx 12 g3 fun y15 u15 g3=>tEx 12 u15 <|tIk 12 u15 <|tEx 12 u15 <|tIx 12 g3 fun y16 u16 g3=>tEx 12 u16 <|tN K3 g3) fun c13 g3=>tO g3 <|tM (k3 _ (oJ g3 e3))) fun l3x_5 g2=>tN K2 g2) fun c6 g2=>tO g2 <|tM (k2 _ (oJ g2 e2))) fun l2x_5 g1=>tN K1 g1) fun c3 g1=>tO g1 <|tM (k1 _ (oJ g1 e1))) fun l1x_5 h=>tRet h
def f98 (a0 : GPiece) : Option (((List GNote)) × Int) := (f36 a0).bind fun r1 => bif (decide (r1.2 ≠ 0)) then (some (([] : List GNote),r1.2)) else ((loopN (σ := (List GNote × Int)) (τ := (List GNote)) (fun ((l1_6,l1_7) : (List GNote × Int)) => bif (decide (l1_7 < (r1.1.length : Int))) then ((((ix r1.1 l1_7).bind fun y4 => need (l1_6.length + 1 ≤ maxElems) <| (ix a0.instrument.courses (wr (y4.course - 1))).bind fun y6 => bif y6.octave then (need ((l1_6 ++ ([y4] : List GNote)).length + 1 ≤ maxElems) <| some ((l1_6 ++ ([y4] : List GNote)) ++ ([(⟨y4.event,y4.course,(wr (y4.pitch + 12)),y4.from_,y4.to_⟩ : GNote)] : List GNote))) else (some (l1_6 ++ ([y4] : List GNote)))) : Option (List GNote)).bind fun (j2_6 : (List GNote)) => some (.inl (j2_6,(wr (l1_7 + 1))))) else (some (.inr l1_6))) FUEL (([] : List GNote),0)).bind fun (l1x_6 : (List GNote)) => some (l1x_6,0))
theorem f98_t (a0 : GPiece) (r : (((List GNote)) × Int)) (h : f98 a0 = some r) : TPure TT Tryz.prog 98 [.v 4 a0] (fun r=>.tup [.l false 9 r.1,.n r.2]) r := tf <|tCall h (f36_t a0) fun r1 q1 h=>tIf h (fun c2 h=>tRet h) fun c2 h=>tJ h false 1 [] [] 2 (fun l1x_6=>([(6,.a (.ms 1 0 l1x_6.length))],[(1,.lz 5 9 l1x_6)])) (fun o1 G1 k1=>tL G1 [1,4] [0] 2 (fun (l1_6,l1_7)=>([(6,.a (.ms 1 0 l1_6.length)),(7,.n l1_7)],[(1,.lz 5 9 l1_6)])) fun (l1_6,l1_7) o g1 e1 K1=>tIf g1 (fun c3 g1=>tJ g1 false 1 [1,4,7] [0] 6 (fun j2_6=>([(6,.a (.ms 5 0 j2_6.length))],[(5,.lz 5 9 j2_6)])) (fun o2 g2 k2=>tIx 9 g2 fun y4 u4 g2=>tNd g2 fun n5 g2=>tIx 0 g2 fun y6 u6 g2=>tIf g2 (fun c7 g2=>tNd g2 fun n8 g2=>tM (k2 _ (sj g2))) fun c7 g2=>tM (k2 _ (sj g2))) fun j2_6 g1=>tN K1 g1) fun c3 g1=>tO g1 <|tM (k1 _ (oJ g1 e1))) fun l1x_6 h=>tRet h
def f99 (a0 : List GNote) (a1 : Int) : Option ((List Int)) := (loopN (σ := (List Int × Int)) (τ := (List Int)) (fun ((l1_5,l1_6) : (List Int × Int)) => bif (decide (l1_6 ≤ 127)) then ((loopN (σ := Int) (τ := (List Int)) (fun (l2_7 : Int) => bif (decide (l2_7 < (a0.length : Int))) then ((((ix a0 l2_7).bind fun y3 => bif (decide (y3.pitch = l1_6)) then (bif (decide (y3.from_ ≤ a1)) then (some (decide (a1 < y3.to_))) else (some false)) else (some false)) : Option Bool).bind fun (j3_42 : Bool) => bif j3_42 then (need (l1_5.length + 1 ≤ maxElems) <| some (.inr (l1_5 ++ ([l1_6] : List Int)))) else (some (.inl (wr (l2_7 + 1))))) else (some (.inr l1_5))) FUEL 0).bind fun (l2x_5 : (List Int)) => some (.inl (l2x_5,(wr (l1_6 + 1))))) else (some (.inr l1_5))) FUEL (([] : List Int),0)).bind fun (l1x_5 : (List Int)) => some l1x_5
theorem f99_t (a0 : List GNote) (a1 : Int) (r : ((List Int))) (h : f99 a0 a1 = some r) : TPure TT Tryz.prog 99 [.l false 9 a0,.n a1] (fun r=>.l false 1 r) r := tf <|tJ h false 1 [] [] 1 (fun l1x_5=>([(5,.a (.ms 0 0 l1x_5.length))],[(0,.lz 1 1 l1x_5)])) (fun o1 G1 k1=>tL G1 [0,1] [] 1 (fun (l1_5,l1_6)=>([(5,.a (.ms 0 0 l1_5.length)),(6,.n l1_6)],[(0,.lz 1 1 l1_5)])) fun (l1_5,l1_6) o g1 e1 K1=>tIf g1 (fun c1 g1=>tJ g1 false 1 [0,1,6] [] 3 (fun l2x_5=>([(5,.a (.ms 2 0 l2x_5.length))],[(2,.lz 1 1 l2x_5)])) (fun o2 G2 k2=>tL G2 [0,1,5,6] [0] 1 (fun l2_7=>([(7,.n l2_7)],[])) fun l2_7 o g2 e2 K2=>tIf g2 (fun c2 g2=>tJ g2 true 0 [0,1,5,6,7] [0] 1 (fun j3_42=>([(42,.b j3_42)],[])) (fun o3 g3 k3=>tIx 9 g3 fun y3 u3 g3=>tIf g3 (fun c4 g3=>tIk 9 u3 <|tIf g3 (fun c5 g3=>tIk 9 u3 <|tM (k3 _ (sj g3))) fun c5 g3=>tM (k3 _ (sj g3))) fun c4 g3=>tM (k3 _ (sj g3))) fun j3_42 g2=>tIf g2 (fun c6 g2=>tNd g2 fun n7 g2=>tO g2 <|tM (k2 _ (oJ g2 e2))) fun c6 g2=>tN K2 g2) fun c2 g2=>tO g2 <|tM (k2 _ (oJ g2 e2))) fun l2x_5 g1=>tN K1 g1) fun c1 g1=>tO g1 <|tM (k1 _ (oJ g1 e1))) fun l1x_5 h=>tRet h
def f64 (a0 : GPiece) (a1 : Int) : Option (((List Int)) × Int) := (f78 a0).bind fun r1 => bif (decide (r1.2 ≠ 0)) then (some (([] : List Int),r1.2)) else (((bif (decide (a1 < 0)) then (some true) else ((ix r1.1 (wr ((r1.1.length : Int) - 1))).bind fun y4 => some (decide (y4 ≤ a1)))) : Option Bool).bind fun (j1_29 : Bool) => bif j1_29 then (some (([] : List Int),1)) else ((f98 a0).bind fun r6 => (f99 r6.1 a1).bind fun r7 => some (r7,0)))
theorem f64_t (a0 : GPiece) (a1 : Int) (r : (((List Int)) × Int)) (h : f64 a0 a1 = some r) : TPure TT Tryz.prog 64 [.v 4 a0,.n a1] (fun r=>.tup [.l false 1 r.1,.n r.2]) r := tf <|tCall h (f78_t a0) fun r1 q1 h=>tIf h (fun c2 h=>tRet h) fun c2 h=>tJ h true 0 [1,2] [0] 1 (fun j1_29=>([(29,.b j1_29)],[])) (fun o1 g1 k1=>tIf g1 (fun c3 g1=>tM (k1 _ (sj g1))) fun c3 g1=>tIx 1 g1 fun y4 u4 g1=>tM (k1 _ (sj g1))) fun j1_29 h=>tIf h (fun c5 h=>tRet h) fun c5 h=>tCall h (f98_t a0) fun r6 q6 h=>tCall h (f99_t r6.1 a1) fun r7 q7 h=>tRet h
def f100 (a0 : Int) (a1 : Int) : Option Int := some (Int.tmod (wr ((Int.tmod (wr ((Int.tmod a1 12) - (Int.tmod a0 12))) 12) + 12)) 12)
theorem f100_t (a0 : Int) (a1 : Int) (r : Int) (h : f100 a0 a1 = some r) : TPure TT Tryz.prog 100 [.n a0,.n a1] (fun r=>.n r) r := tf <|tRet h
def f65 (a0 : List Int) : Option Bool := (loopN (σ := Int) (τ := (Unit ⊕ Bool)) (fun (l1_3 : Int) => bif (decide (l1_3 < (a0.length : Int))) then ((loopN (σ := (Bool × Int)) (τ := Bool) (fun ((l2_4,l2_5) : (Bool × Int)) => bif (decide (l2_5 < (a0.length : Int))) then (((bif l2_4 then ((ix a0 l1_3).bind fun y4 => (ix a0 l2_5).bind fun y5 => some (decide (y4 ≤ y5))) else (some false)) : Option Bool).bind fun (j3_4 : Bool) => some (.inl (j3_4,(wr (l2_5 + 1))))) else (some (.inr l2_4))) FUEL (true,0)).bind fun (l2x_4 : Bool) => (loopN (σ := Int) (τ := (Unit ⊕ (Int ⊕ (Unit ⊕ Bool)))) (fun (l4_6 : Int) => bif (decide (l4_6 < (a0.length : Int))) then ((ix a0 l1_3).bind fun y7 => (ix a0 l4_6).bind fun y8 => (f100 y7 y8).bind fun r9 => ((bif l2x_4 then (bif (decide (r9 = 1)) then (some true) else (bif (decide (r9 = 2)) then (some true) else (bif (decide (r9 = 5)) then (some true) else (bif (decide (r9 = 6)) then (some true) else (bif (decide (r9 = 10)) then (some true) else (some (decide (r9 = 11)))))))) else (some false)) : Option Bool).bind fun (j5_71 : Bool) => bif j5_71 then (some (.inr (.inr (.inr (.inr false))))) else (((bif (decide (y7 < y8)) then (bif (decide (r9 = 1)) then (some true) else (bif (decide (r9 = 2)) then (some true) else (bif (decide (r9 = 10)) then (some true) else (some (decide (r9 = 11)))))) else (some false)) : Option Bool).bind fun (j6_96 : Bool) => bif j6_96 then (some (.inr (.inr (.inr (.inr false))))) else (some (.inl (wr (l4_6 + 1)))))) else (some (.inr (.inl ())))) FUEL 0).bind (Sum.elim (fun (_ : Unit) => some (.inl (wr (l1_3 + 1)))) some)) else (some (.inr (.inl ())))) FUEL 0).bind (Sum.elim (fun (_ : Unit) => some true) some)
theorem f65_t (a0 : List Int) (r : Bool) (h : f65 a0 = some r) : TPure TT Tryz.prog 65 [.l false 1 a0] (fun r=>.b r) r := tf <|tJe h false 1 [] [] 0 (fun _=>([],[])) (fun o1 G1 k1 H1=>tL G1 [0] [] 0 (fun l1_3=>([(3,.n l1_3)],[])) fun l1_3 o g1 e1 K1=>tIf g1 (fun c1 g1=>tJ g1 false 1 [0,3] [] 0 (fun l2x_4=>([(4,.b l2x_4)],[])) (fun o2 G2 k2=>tL G2 [0,3] [] 0 (fun (l2_4,l2_5)=>([(4,.b l2_4),(5,.n l2_5)],[])) fun (l2_4,l2_5) o g2 e2 K2=>tIf g2 (fun c2 g2=>tJ g2 true 0 [0,3,5] [] 0 (fun j3_4=>([(4,.b j3_4)],[])) (fun o3 g3 k3=>tIf g3 (fun c3 g3=>tIx 1 g3 fun y4 u4 g3=>tIx 1 g3 fun y5 u5 g3=>tM (k3 _ (sj g3))) fun c3 g3=>tM (k3 _ (sj g3))) fun j3_4 g2=>tN K2 g2) fun c2 g2=>tO g2 <|tM (k2 _ (oJ g2 e2))) fun l2x_4 g1=>tJe g1 false 1 [0,3] [] 0 (fun _=>([],[])) (fun o4 G4 k4 H4=>tL G4 [0,3,4] [] 0 (fun l4_6=>([(6,.n l4_6)],[])) fun l4_6 o g4 e4 K4=>tIf g4 (fun c6 g4=>tIx 1 g4 fun y7 u7 g4=>tIx 1 g4 fun y8 u8 g4=>tCall g4 (f100_t y7 y8) fun r9 q9 g4=>tJ g4 true 0 [0,3,4,6,7] [] 0 (fun j5_71=>([(71,.b j5_71)],[])) (fun o5 g5 k5=>tIf g5 (fun c10 g5=>tIf g5 (fun c11 g5=>tM (k5 _ (sj g5))) fun c11 g5=>tIf g5 (fun c12 g5=>tM (k5 _ (sj g5))) fun c12 g5=>tIf g5 (fun c13 g5=>tM (k5 _ (sj g5))) fun c13 g5=>tIf g5 (fun c14 g5=>tM (k5 _ (sj g5))) fun c14 g5=>tIf g5 (fun c15 g5=>tM (k5 _ (sj g5))) fun c15 g5=>tM (k5 _ (sj g5))) fun c10 g5=>tM (k5 _ (sj g5))) fun j5_71 g4=>tIf g4 (fun c16 g4=>tO g4 <|tO (oE g4 e4 H4) <|tRet (oE (oE g4 e4 H4) e1 H1)) fun c16 g4=>tJ g4 true 0 [0,3,4,6] [] 0 (fun j6_96=>([(96,.b j6_96)],[])) (fun o6 g6 k6=>tIk 1 u7 <|tIk 1 u8 <|tIf g6 (fun c17 g6=>tIf g6 (fun c18 g6=>tM (k6 _ (sj g6))) fun c18 g6=>tIf g6 (fun c19 g6=>tM (k6 _ (sj g6))) fun c19 g6=>tIf g6 (fun c20 g6=>tM (k6 _ (sj g6))) fun c20 g6=>tM (k6 _ (sj g6))) fun c17 g6=>tM (k6 _ (sj g6))) fun j6_96 g4=>tIf g4 (fun c21 g4=>tO g4 <|tO (oE g4 e4 H4) <|tRet (oE (oE g4 e4 H4) e1 H1)) fun c21 g4=>tN K4 g4) fun c6 g4=>tO g4 <|tM (k4 _ (oJ g4 e4))) fun _ g1=>tN K1 g1) fun c1 g1=>tO g1 <|tM (k1 _ (oJ g1 e1))) fun _ h=>tRet h
def f27 (a0 : GConsort) : Option (((List Int)) × Int) := (f63 a0).bind fun r1 => bif (decide (r1.2 ≠ 0)) then (some (([] : List Int),r1.2)) else ((loopN (σ := (List Int × Int)) (τ := (List Int)) (fun ((l1_6,l1_7) : (List Int × Int)) => bif (decide (l1_7 < (r1.1.length : Int))) then ((((ix r1.1 l1_7).bind fun y4 => ((bif (decide (0 < l1_7)) then ((ix r1.1 (wr (l1_7 - 1))).bind fun y6 => some (decide (y6.from_ = y4.from_))) else (some false)) : Option Bool).bind fun (j3_43 : Bool) => bif j3_43 then (some l1_6) else ((loopN (σ := (List Int × Int)) (τ := (List Int)) (fun ((l4_9,l4_10) : (List Int × Int)) => bif (decide (l4_10 < (a0.pieces.length : Int))) then ((ix a0.pieces l4_10).bind fun y9 => (f64 y9 y4.from_).bind fun r10 => ((bif r10.1.isEmpty then (some l4_9) else (need (l4_9.length + r10.1.length ≤ maxElems) <| some (l4_9 ++ r10.1))) : Option (List Int)).bind fun (j5_9 : (List Int)) => some (.inl (j5_9,(wr (l4_10 + 1))))) else (some (.inr l4_9))) FUEL (([] : List Int),0)).bind fun (l4x_9 : (List Int)) => (f65 l4x_9).bind fun r13 => bif (!r13) then (need (l1_6.length + 1 ≤ maxElems) <| some (l1_6 ++ ([y4.from_] : List Int))) else (some l1_6))) : Option (List Int)).bind fun (j2_6 : (List Int)) => some (.inl (j2_6,(wr (l1_7 + 1))))) else (some (.inr l1_6))) FUEL (([] : List Int),0)).bind fun (l1x_6 : (List Int)) => some (l1x_6,0))
theorem f27_t (a0 : GConsort) (r : (((List Int)) × Int)) (h : f27 a0 = some r) : TPure TT Tryz.prog 27 [.v 5 a0] (fun r=>.tup [.l false 1 r.1,.n r.2]) r := tf <|tCall h (f63_t a0) fun r1 q1 h=>tIf h (fun c2 h=>tRet h) fun c2 h=>tJ h false 1 [] [] 2 (fun l1x_6=>([(6,.a (.ms 1 0 l1x_6.length))],[(1,.lz 1 1 l1x_6)])) (fun o1 G1 k1=>tL G1 [1,4] [0] 2 (fun (l1_6,l1_7)=>([(6,.a (.ms 1 0 l1_6.length)),(7,.n l1_7)],[(1,.lz 1 1 l1_6)])) fun (l1_6,l1_7) o g1 e1 K1=>tIf g1 (fun c3 g1=>tJ g1 false 1 [1,4,7] [0] 5 (fun j2_6=>([(6,.a (.ms 4 0 j2_6.length))],[(4,.lz 1 1 j2_6)])) (fun o2 g2 k2=>tIx 12 g2 fun y4 u4 g2=>tJ g2 true 0 [1,4,6,7,8] [1,0] 2 (fun j3_43=>([(43,.b j3_43)],[])) (fun o3 g3 k3=>tIf g3 (fun c5 g3=>tIx 12 g3 fun y6 u6 g3=>tM (k3 _ (sj g3))) fun c5 g3=>tM (k3 _ (sj g3))) fun j3_43 g2=>tIf g2 (fun c7 g2=>tM (k2 _ (sj g2))) fun c7 g2=>tJ g2 false 1 [1,4,6,7,8] [1,0] 3 (fun l4x_9=>([(9,.a (.ms 2 0 l4x_9.length))],[(2,.lz 1 1 l4x_9)])) (fun o4 G4 k4=>tL G4 [1,4,6,7,8] [1,0] 3 (fun (l4_9,l4_10)=>([(9,.a (.ms 2 0 l4_9.length)),(10,.n l4_10)],[(2,.lz 1 1 l4_9)])) fun (l4_9,l4_10) o g4 e4 K4=>tIf g4 (fun c8 g4=>tIx 4 g4 fun y9 u9 g4=>tCall g4 (f64_t y9 y4.from_) fun r10 q10 g4=>tJ g4 true 0 [1,4,6,7,8,10] [1,0] 5 (fun j5_9=>([(9,.a (.ms 4 0 j5_9.length))],[(4,.lz 1 1 j5_9)])) (fun o5 g5 k5=>tIf g5 (fun c11 g5=>tM (k5 _ (sj g5))) fun c11 g5=>tNd g5 fun n12 g5=>tM (k5 _ (sj g5))) fun j5_9 g4=>tN K4 g4) fun c8 g4=>tO g4 <|tM (k4 _ (oJ g4 e4))) fun l4x_9 g2=>tZ 16 2 <|tCall g2 (f65_t l4x_9) fun r13 q13 g2=>tIf g2 (fun c14 g2=>tNd g2 fun n15 g2=>tM (k2 _ (sj g2))) fun c14 g2=>tM (k2 _ (sj g2))) fun j2_6 g1=>tN K1 g1) fun c3 g1=>tO g1 <|tM (k1 _ (oJ g1 e1))) fun l1x_6 h=>tRet h
def f28 (a0 : List Int) (a1 : List Int) : Option Bool := bif (decide ((a0.length : Int) ≠ (a1.length : Int))) then (some false) else ((loopN (σ := Int) (τ := (Unit ⊕ Bool)) (fun (l1_5 : Int) => bif (decide (l1_5 < (a0.length : Int))) then ((ix a0 l1_5).bind fun y3 => (ix a1 l1_5).bind fun y4 => bif (decide (y3 ≠ y4)) then (some (.inr (.inr false))) else (some (.inl (wr (l1_5 + 1))))) else (some (.inr (.inl ())))) FUEL 0).bind (Sum.elim (fun (_ : Unit) => some true) some))
theorem f28_t (a0 : List Int) (a1 : List Int) (r : Bool) (h : f28 a0 a1 = some r) : TPure TT Tryz.prog 28 [.l false 1 a0,.l false 1 a1] (fun r=>.b r) r := tf <|tIf h (fun c1 h=>tRet h) fun c1 h=>tJe h false 1 [] [] 0 (fun _=>([],[])) (fun o1 G1 k1 H1=>tL G1 [0,1] [] 0 (fun l1_5=>([(5,.n l1_5)],[])) fun l1_5 o g1 e1 K1=>tIf g1 (fun c2 g1=>tIx 1 g1 fun y3 u3 g1=>tIx 1 g1 fun y4 u4 g1=>tIf g1 (fun c5 g1=>tO g1 <|tRet (oE g1 e1 H1)) fun c5 g1=>tN K1 g1) fun c2 g1=>tO g1 <|tM (k1 _ (oJ g1 e1))) fun _ h=>tRet h
def f4 (a0 : GConsort) : Option Bool := (f5 a0.pieces).bind fun r1 => bif r1 then ((f6).bind fun r3 => some r3) else ((f26 a0).bind fun r4 => (f27 a0).bind fun r5 => ((bif (decide (r4.2 = r5.2)) then ((f28 r4.1 r5.1).bind fun r7 => bif r7 then ((f6).bind fun r9 => some r9) else (some false)) else (some false)) : Option Bool).bind fun (j1_2 : Bool) => some j1_2)
theorem f4_t (a0 : GConsort) (r : Bool) (h : f4 a0 = some r) : TPure TT Tryz.prog 4 [.v 5 a0] (fun r=>.b r) r := tf <|tCall h (f5_t a0.pieces) fun r1 q1 h=>tIf h (fun c2 h=>tCall h (f6_t) fun r3 q3 h=>tRet h) fun c2 h=>tCall h (f26_t a0) fun r4 q4 h=>tCall h (f27_t a0) fun r5 q5 h=>tJ h true 0 [] [] 1 (fun j1_2=>([(2,.b j1_2)],[])) (fun o1 g1 k1=>tIf g1 (fun c6 g1=>tCall g1 (f28_t r4.1 r5.1) fun r7 q7 g1=>tIf g1 (fun c8 g1=>tCall g1 (f6_t) fun r9 q9 g1=>tM (k1 _ (sj g1))) fun c8 g1=>tM (k1 _ (sj g1))) fun c6 g1=>tM (k1 _ (sj g1))) fun j1_2 h=>tRet h
end
end Go.Proofs.YtjjendjmakhfaaaGreat
