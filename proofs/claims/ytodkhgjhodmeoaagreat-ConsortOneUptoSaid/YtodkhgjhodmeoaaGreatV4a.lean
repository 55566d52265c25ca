/-
 Functions of the program as Lean functions,and the walks. Written by a program of ours.
-/
import Derived.Test.YtodkhgjhodmeoaaGreatAmW
import Derived.Test.YtodkhgjhodmeoaaGreatChecked
import Derived.Test.YtodkhgjhodmeoaaGreatWk
import Derived.Test.YtodkhgjhodmeoaaGreatWb
namespace Go.Proofs.YtodkhgjhodmeoaaGreat
open Go Go.Am
set_option maxRecDepth 100000
set_option linter.all false
structure GCourse where
 pitch:Int
 frets:Int
 octave:Bool
 deriving DecidableEq
def E_GCourse (x:GCourse):AV:=.agg [.i x.pitch,.i x.frets,.bool x.octave]
theorem cl_GCourse (x:GCourse):(E_GCourse x).clean = true:=(clK rfl (clK rfl (clK rfl clZ)))
theorem sz_GCourse (x:GCourse):(E_GCourse x).cells.length = 3:=rfl
def eq_GCourse (x y:GCourse):Bool:=((decide (x.pitch = y.pitch)) && ((decide (x.frets = y.frets)) && ((x.octave == y.octave) && true)))
structure GInstrument where
 courses:(List GCourse)
 steps:(List Int)
 deriving DecidableEq
def E_GInstrument (x:GInstrument):AV:=.agg [.sl false (x.courses.map E_GCourse),.sl false (x.steps.map AV.i)]
theorem cl_GInstrument (x:GInstrument):(E_GInstrument x).clean = true:=(clK (cleanMap _ _ cl_GCourse) (clK (cleanMap _ _ cl_i) clZ))
structure GSign where
 value:Int
 dot:Bool
 three:Bool
 deriving DecidableEq
def E_GSign (x:GSign):AV:=.agg [.i x.value,.bool x.dot,.bool x.three]
theorem cl_GSign (x:GSign):(E_GSign x).clean = true:=(clK rfl (clK rfl (clK rfl clZ)))
def eq_GSign (x y:GSign):Bool:=((decide (x.value = y.value)) && ((x.dot == y.dot) && ((x.three == y.three) && true)))
structure GStop where
 course:Int
 fret:Int
 right:Int
 grace:Int
 hold:Int
 deriving DecidableEq
def E_GStop (x:GStop):AV:=.agg [.i x.course,.i x.fret,.i x.right,.i x.grace,.i x.hold]
theorem cl_GStop (x:GStop):(E_GStop x).clean = true:=(clK rfl (clK rfl (clK rfl (clK rfl (clK rfl clZ)))))
theorem sz_GStop (x:GStop):(E_GStop x).cells.length = 5:=rfl
def eq_GStop (x y:GStop):Bool:=((decide (x.course = y.course)) && ((decide (x.fret = y.fret)) && ((decide (x.right = y.right)) && ((decide (x.grace = y.grace)) && ((decide (x.hold = y.hold)) && true)))))
structure GEvent where
 bar:Bool
 sign:GSign
 tie:Bool
 stops:(List GStop)
 deriving DecidableEq
def E_GEvent (x:GEvent):AV:=.agg [.bool x.bar,.i x.sign.value,.bool x.sign.dot,.bool x.sign.three,.bool x.tie,.sl false (x.stops.map E_GStop)]
theorem cl_GEvent (x:GEvent):(E_GEvent x).clean = true:=(clK rfl (clK rfl (clK rfl (clK rfl (clK rfl (clK (cleanMap _ _ cl_GStop) clZ))))))
theorem sz_GEvent (x:GEvent):(E_GEvent x).cells.length = 6:=rfl
structure GPiece where
 instrument:GInstrument
 events:(List GEvent)
 deriving DecidableEq
def E_GPiece (x:GPiece):AV:=.agg [.sl false (x.instrument.courses.map E_GCourse),.sl false (x.instrument.steps.map AV.i),.sl false (x.events.map E_GEvent)]
theorem cl_GPiece (x:GPiece):(E_GPiece x).clean = true:=(clK (cleanMap _ _ cl_GCourse) (clK (cleanMap _ _ cl_i) (clK (cleanMap _ _ cl_GEvent) clZ)))
structure GConsort where
 pieces:(List GPiece)
 deriving DecidableEq
def E_GConsort (x:GConsort):AV:=.agg [.sl false (x.pieces.map E_GPiece)]
theorem cl_GConsort (x:GConsort):(E_GConsort x).clean = true:=(clK (cleanMap _ _ cl_GPiece) clZ)
structure GCue where
 time:Int
 desk:Int
 event:Int
 deriving DecidableEq
def E_GCue (x:GCue):AV:=.agg [.i x.time,.i x.desk,.i x.event]
theorem cl_GCue (x:GCue):(E_GCue x).clean = true:=(clK rfl (clK rfl (clK rfl clZ)))
def eq_GCue (x y:GCue):Bool:=((decide (x.time = y.time)) && ((decide (x.desk = y.desk)) && ((decide (x.event = y.event)) && true)))
structure GTone where
 pitch:Int
 from_:Int
 to_:Int
 deriving DecidableEq
def E_GTone (x:GTone):AV:=.agg [.i x.pitch,.i x.from_,.i x.to_]
theorem cl_GTone (x:GTone):(E_GTone x).clean = true:=(clK rfl (clK rfl (clK rfl clZ)))
theorem sz_GTone (x:GTone):(E_GTone x).cells.length = 3:=rfl
def eq_GTone (x y:GTone):Bool:=((decide (x.pitch = y.pitch)) && ((decide (x.from_ = y.from_)) && ((decide (x.to_ = y.to_)) && true)))
structure GSSounding where
 p:GPiece
 onsets:(List Int)
 deriving DecidableEq
def E_GSSounding (x:GSSounding):AV:=.agg [.sl false (x.p.instrument.courses.map E_GCourse),.sl false (x.p.instrument.steps.map AV.i),.sl false (x.p.events.map E_GEvent),.sl false (x.onsets.map AV.i)]
theorem cl_GSSounding (x:GSSounding):(E_GSSounding x).clean = true:=(clK (cleanMap _ _ cl_GCourse) (clK (cleanMap _ _ cl_i) (clK (cleanMap _ _ cl_GEvent) (clK (cleanMap _ _ cl_i) clZ))))
structure GSPress where
 event:Int
 course:Int
 fret:Int
 from_:Int
 to_:Int
 deriving DecidableEq
def E_GSPress (x:GSPress):AV:=.agg [.i x.event,.i x.course,.i x.fret,.i x.from_,.i x.to_]
theorem cl_GSPress (x:GSPress):(E_GSPress x).clean = true:=(clK rfl (clK rfl (clK rfl (clK rfl (clK rfl clZ)))))
structure GPlace where
 course:Int
 fret:Int
 deriving DecidableEq
def E_GPlace (x:GPlace):AV:=.agg [.i x.course,.i x.fret]
theorem cl_GPlace (x:GPlace):(E_GPlace x).clean = true:=(clK rfl (clK rfl clZ))
noncomputable def c9 (k:Nat):Code:=nthC (subs (Tryz.f9.body.getD .skip)) k
noncomputable def c159 (k:Nat):Code:=nthC (subs (Tryz.f159.body.getD .skip)) k
noncomputable def c104 (k:Nat):Code:=nthC (subs (Tryz.f104.body.getD .skip)) k
noncomputable def c129 (k:Nat):Code:=nthC (subs (Tryz.f129.body.getD .skip)) k
noncomputable def c145 (k:Nat):Code:=nthC (subs (Tryz.f145.body.getD .skip)) k
noncomputable def c217 (k:Nat):Code:=nthC (subs (Tryz.f217.body.getD .skip)) k
noncomputable def c246 (k:Nat):Code:=nthC (subs (Tryz.f246.body.getD .skip)) k
noncomputable def c257 (k:Nat):Code:=nthC (subs (Tryz.f257.body.getD .skip)) k
noncomputable def c245 (k:Nat):Code:=nthC (subs (Tryz.f245.body.getD .skip)) k
noncomputable def c218 (k:Nat):Code:=nthC (subs (Tryz.f218.body.getD .skip)) k
noncomputable def c194 (k:Nat):Code:=nthC (subs (Tryz.f194.body.getD .skip)) k
noncomputable def c146 (k:Nat):Code:=nthC (subs (Tryz.f146.body.getD .skip)) k
noncomputable def c96 (k:Nat):Code:=nthC (subs (Tryz.f96.body.getD .skip)) k
noncomputable def c97 (k:Nat):Code:=nthC (subs (Tryz.f97.body.getD .skip)) k
noncomputable def c41 (k:Nat):Code:=nthC (subs (Tryz.f41.body.getD .skip)) k
noncomputable def c147 (k:Nat):Code:=nthC (subs (Tryz.f147.body.getD .skip)) k
noncomputable def c79 (k:Nat):Code:=nthC (subs (Tryz.f79.body.getD .skip)) k
noncomputable def c113 (k:Nat):Code:=nthC (subs (Tryz.f113.body.getD .skip)) k
noncomputable def c80 (k:Nat):Code:=nthC (subs (Tryz.f80.body.getD .skip)) k
noncomputable def c50 (k:Nat):Code:=nthC (subs (Tryz.f50.body.getD .skip)) k
noncomputable def c30 (k:Nat):Code:=nthC (subs (Tryz.f30.body.getD .skip)) k
def f9 (a0:List GPiece):Option Bool:=(loopN (σ:=Int) (τ:=(Unit ⊕ Bool)) (fun (l1_3:Int)=>bif (decide (l1_3 < (a0.length:Int))) then ((((ix a0 l1_3).bind fun y2=>bif (decide (60 < (y2.events.length:Int))) then (some (decide ((y2.events.length:Int) ≤ 400))) else (some false)):Option Bool).bind fun (j2_25:Bool)=>bif j2_25 then (some (.inr (.inr true))) else (some (.inl (wr (l1_3 + 1))))) else (some (.inr (.inl ())))) FUEL 0).bind (Sum.elim (fun (_:Unit)=>some (decide (8 < (a0.length:Int)))) some)
theorem f9_ok (a0:List GPiece) (r:Bool) (h:f9 a0 = some r):APure Tryz.prog 9 [.sl false (a0.map E_GPiece)] (.bool r):=by
 refine apure (clK (cleanMap a0 _ cl_GPiece) clZ) rfl ?_
 refine wf 29 [.tmp 2] (c9 0) ?_
 unfold f9 at h
 obtain ⟨ol1x,hll1x,h⟩:=bindE h
 refine W 3 [] cj0 ?_
 let v_0:AV:=.sl false (a0.map E_GPiece)
 refine wJ (fun (_:Unit)=>(zipE [0] [v_0])) (fun (_:Unit)=>⟨[],0⟩) (fun j=>ol1x = .inl j) (fun kl1=>?_) ?_
 ·refine wL 1 [] cj0 hll1x 0 (fun (l1_3:Int)=>(zipE [0,3] [v_0,.i l1_3])) (fun (l1_3:Int)=>⟨[],0⟩) ?_
  rintro l1_3 out hl1 rl1 Kl1
  refine W 2 [.r [{},{},{ k:=1,n:=a0.length }]] (cj1 (mapLen a0 E_GPiece)) ?_
  rcases iteE hl1 with ⟨hc1,hl1⟩ | ⟨hc1,hl1⟩
  ·obtain ⟨j2_25,hj2,hl1⟩:=bindE hl1
   refine W 5 [.t] (cj1 hc1) ?_
   refine wG (fun (j2_25:Bool)=>(zipE [0,3,25] [v_0,.i l1_3,.bool j2_25])) (fun (j2_25:Bool)=>⟨[],0⟩) (fun j=>j2_25 = j) (fun kj2=>?_) ?_
   ·obtain ⟨y2,hy2,hj2⟩:=bindE hj2
    rcases iteE hj2 with ⟨hc3,hj2⟩ | ⟨hc3,hj2⟩
    ·replace hj2:=Option.some.inj hj2; subst hj2
     exact wX 1 [.r [{},{},{ k:=1,x:=E_GPiece y2 },{},{},{ k:=1,n:=y2.events.length },{},{},{},{},{ k:=1,x:=E_GPiece y2 },{},{},{ k:=1,n:=y2.events.length },{},{ k:=1,b:=true }]] (cjC ((ixE hy2).1) (cjC (mapGet E_GPiece (ixE hy2).2) (cjC (mapLen y2.events E_GEvent) (cjC hc3 (cjC hc3 (cjC hc3 (cjC ((ixE hy2).1) (cjC (mapGet E_GPiece (ixE hy2).2) (cjC hc3 (cjC hc3 (cjC hc3 (cjC (mapLen y2.events E_GEvent) (cjC hc3 (cj1 hc3)))))))))))))) (kj2 (decide ((y2.events.length:Int) ≤ 400)) rfl)
    ·replace hj2:=Option.some.inj hj2; subst hj2
     exact wX 1 [.r [{},{},{ k:=1,x:=E_GPiece y2 },{},{},{ k:=1,n:=y2.events.length },{},{},{ g:=false },{ g:=false },{ g:=false },{ g:=false },{ g:=false },{ g:=false },{ g:=false },{ k:=1,b:=false }]] (cjC ((ixE hy2).1) (cjC (mapGet E_GPiece (ixE hy2).2) (cjC (mapLen y2.events E_GEvent) (cjC hc3 (cjC hc3 (cjC hc3 (cjC hc3 (cjC hc3 (cjC hc3 (cjC hc3 (cj1 hc3))))))))))) (kj2 false rfl)
   ·rintro _ rfl
    rcases iteE hl1 with ⟨hc4,hl1⟩ | ⟨hc4,hl1⟩
    ·replace hl1:=Option.some.inj hl1; subst hl1
     have hr:=rl1 _ rfl
     subst hr
     replace h:=elimR h
     replace h:=Option.some.inj h; subst h
     exact wR 8 [.t] (cjC hc4 (cj1 (Kl1.o _ rfl)))
    ·replace hl1:=Option.some.inj hl1; subst hl1
     exact wX 5 [.f] (cj1 hc4) (Kl1.n _ rfl)
  ·replace hl1:=Option.some.inj hl1; subst hl1
   have hr:=rl1 _ rfl
   subst hr
   exact wX 5 [.f] (cjC hc1 (cj1 (Kl1.o _ rfl))) (kl1 () rfl)
 ·rintro ⟨⟩ rfl
  replace h:=elimL h
  replace h:=Option.some.inj h; subst h
  exact wR 3 [.r [{},{ k:=1,n:=a0.length }]] (cj1 (mapLen a0 E_GPiece))
def f10:Option Bool:=some true
theorem f10_ok (r:Bool) (h:f10 = some r):APure Tryz.prog 10 [] (.bool r):=by cases h; exact works_ok
def f159 (a0:GInstrument) (a1:GCourse):Option Int:=((bif (decide (0 < a1.frets)) then ((ix a0.steps (wr (a1.frets - 1))).bind fun y2=>some (wr (a1.pitch + y2))) else (some a1.pitch)):Option Int).bind fun (j1_5:Int)=>((bif a1.octave then (some (wr (j1_5 + 12))) else (some j1_5)):Option Int).bind fun (j2_5:Int)=>some j2_5
theorem f159_ok (a0:GInstrument) (a1:GCourse) (r:Int) (h:f159 a0 a1 = some r):APure Tryz.prog 159 [E_GInstrument a0,E_GCourse a1] (.i r):=by
 refine apure (clK (cl_GInstrument a0) (clK (cl_GCourse a1) clZ)) rfl ?_
 refine wf 25 [.tmp 4] (c159 0) ?_
 unfold f159 at h
 obtain ⟨j1_5,hj1,h⟩:=bindE h
 refine W 2 [] cj0 ?_
 refine wG (fun (j1_5:Int)=>(zipE [3,5] [.mp 1 0 0,.i j1_5])) (fun (j1_5:Int)=>⟨[(1,.cells 3 [E_GCourse a1])],2⟩) (fun j=>j1_5 = j) (fun kj1=>?_) ?_
 ·rcases iteE hj1 with ⟨hc1,hj1⟩ | ⟨hc1,hj1⟩
  ·obtain ⟨y2,hy2,hj1⟩:=bindE hj1
   replace hj1:=Option.some.inj hj1; subst hj1
   exact wX 5 [.t,.r [{},{},{},{},{},{},{ k:=1,x:=AV.i y2 }]] (cjC hc1 (cjC ((ixE hy2).1) (cj1 (mapGet AV.i (ixE hy2).2)))) (kj1 (wr (a1.pitch + y2)) rfl)
  ·replace hj1:=Option.some.inj hj1; subst hj1
   exact wX 5 [.f] (cj1 hc1) (kj1 a1.pitch rfl)
 ·rintro _ rfl
  obtain ⟨j2_5,hj2,h⟩:=bindE h
  refine wG (fun (j2_5:Int)=>(zipE [5] [.i j2_5])) (fun (j2_5:Int)=>⟨[],2⟩) (fun j=>j2_5 = j) (fun kj2=>?_) ?_
  ·rcases iteE hj2 with ⟨hc3,hj2⟩ | ⟨hc3,hj2⟩
   ·replace hj2:=Option.some.inj hj2; subst hj2
    exact wX 5 [.t] (cj1 hc3) (kj2 (wr (j1_5 + 12)) rfl)
   ·replace hj2:=Option.some.inj hj2; subst hj2
    exact wX 5 [.f] (cj1 hc3) (kj2 j1_5 rfl)
  ·rintro _ rfl
   replace h:=Option.some.inj h; subst h
   exact wR 2 [] cj0
def f104 (a0:GInstrument):Option Int:=((bif (decide (14 < (a0.courses.length:Int))) then (some true) else (some (decide (18 < (a0.steps.length:Int))))):Option Bool).bind fun (j1_17:Bool)=>bif j1_17 then (some 2) else (bif (decide ((a0.courses.length:Int) = 0)) then (some 11) else ((loopN (σ:=(Int × Int)) (τ:=(Unit ⊕ Int)) (fun ((l2_3,l2_25):(Int × Int))=>bif (decide (l2_25 < (a0.steps.length:Int))) then ((ix a0.steps l2_25).bind fun y5=>((bif (decide (y5 ≤ l2_3)) then (some true) else (some (decide (127 < y5)))):Option Bool).bind fun (j3_35:Bool)=>bif j3_35 then (some (.inr (.inr 11))) else (some (.inl (y5,(wr (l2_25 + 1)))))) else (some (.inr (.inl ())))) FUEL (0,0)).bind (Sum.elim (fun (_:Unit)=>(loopN (σ:=Int) (τ:=(Unit ⊕ Int)) (fun (l4_41:Int)=>bif (decide (l4_41 < (a0.courses.length:Int))) then ((ix a0.courses l4_41).bind fun y9=>((bif (decide (y9.frets < 0)) then (some true) else (some (decide ((a0.steps.length:Int) < y9.frets)))):Option Bool).bind fun (j5_55:Bool)=>bif j5_55 then (some (.inr (.inr 13))) else (((bif (decide (y9.pitch < 0)) then (some true) else (bif (decide (127 < y9.pitch)) then (some true) else ((f159 a0 y9).bind fun r14=>some (decide (127 < r14))))):Option Bool).bind fun (j6_69:Bool)=>bif j6_69 then (some (.inr (.inr 10))) else (some (.inl (wr (l4_41 + 1)))))) else (some (.inr (.inl ())))) FUEL 0).bind (Sum.elim (fun (_:Unit)=>some 0) some)) some)))
theorem f104_ok (a0:GInstrument) (r:Int) (h:f104 a0 = some r):APure Tryz.prog 104 [E_GInstrument a0] (.i r):=by
 refine apure (clK (cl_GInstrument a0) clZ) rfl ?_
 refine wf 71 [.tmp 2] (c104 0) ?_
 unfold f104 at h
 obtain ⟨j1_17,hj1,h⟩:=bindE h
 refine W 2 [] cj0 ?_
 let b_0:Blk:=.cells 2 [E_GInstrument a0]
 refine wG (fun (j1_17:Bool)=>(zipE [1,17] [.mp 0 0 0,.bool j1_17])) (fun (j1_17:Bool)=>⟨[(0,b_0)],1⟩) (fun j=>j1_17 = j) (fun kj1=>?_) ?_
 ·rcases iteE hj1 with ⟨hc1,hj1⟩ | ⟨hc1,hj1⟩
  ·replace hj1:=Option.some.inj hj1; subst hj1
   exact wX 1 [.r [{},{},{ k:=1,n:=a0.courses.length },{},{},{ g:=false },{ g:=false },{ g:=false },{ g:=false },{ k:=1,b:=true }]] (cjC (mapLen a0.courses E_GCourse) (cjC hc1 (cjC hc1 (cjC hc1 (cjC hc1 (cj1 hc1)))))) (kj1 true rfl)
  ·replace hj1:=Option.some.inj hj1; subst hj1
   exact wX 1 [.r [{},{},{ k:=1,n:=a0.courses.length },{},{},{},{},{ k:=1,n:=a0.steps.length },{},{ k:=1,b:=false }]] (cjC (mapLen a0.courses E_GCourse) (cjC hc1 (cjC hc1 (cjC hc1 (cjC (mapLen a0.steps AV.i) (cjC hc1 (cj1 hc1))))))) (kj1 (decide (18 < (a0.steps.length:Int))) rfl)
 ·rintro _ rfl
  rcases iteE h with ⟨hc2,h⟩ | ⟨hc2,h⟩
  ·replace h:=Option.some.inj h; subst h
   exact wR 4 [.t] (cj1 hc2)
  ·refine W 5 [.f,.r [{},{},{ k:=1,n:=a0.courses.length }]] (cjC hc2 (cj1 (mapLen a0.courses E_GCourse))) ?_
   rcases iteE h with ⟨hc3,h⟩ | ⟨hc3,h⟩
   ·replace h:=Option.some.inj h; subst h
    exact wR 4 [.t] (cj1 hc3)
   ·obtain ⟨ol2x,hll2x,h⟩:=bindE h
    refine W 6 [.f,.n,.r [{},{},{ k:=1,n:=a0.steps.length }]] (cjC hc3 (cj1 (mapLen a0.steps AV.i))) ?_
    refine wJ (fun (_:Unit)=>(zipE [1] [.mp 0 0 0])) (fun (_:Unit)=>⟨[(0,b_0)],1⟩) (fun j=>ol2x = .inl j) (fun kl2=>?_) ?_
    ·refine wL 1 [] cj0 hll2x 1 (fun ((l2_3,l2_25):(Int × Int))=>(zipE [1,3,23,24,25] [.mp 0 0 0,.i l2_3,.sl false (a0.steps.map AV.i),.i (a0.steps.length:Int),.i l2_25])) (fun ((l2_3,l2_25):(Int × Int))=>⟨[(0,b_0)],1⟩) ?_
     rintro ⟨l2_3,l2_25⟩ out hl2 rl2 Kl2
     rcases iteE hl2 with ⟨hc4,hl2⟩ | ⟨hc4,hl2⟩
     ·obtain ⟨y5,hy5,hl2⟩:=bindE hl2
      obtain ⟨j3_35,hj3,hl2⟩:=bindE hl2
      refine W 9 [.t,.r [{ k:=1,x:=AV.i y5 }]] (cjC hc4 (cjC ((ixE hy5).1) (cj1 (mapGet AV.i (ixE hy5).2)))) ?_
      refine wG (fun (j3_35:Bool)=>(zipE [1,5,23,24,25,35] [.mp 0 0 0,.i y5,.sl false (a0.steps.map AV.i),.i (a0.steps.length:Int),.i l2_25,.bool j3_35])) (fun (j3_35:Bool)=>⟨[(0,b_0)],1⟩) (fun j=>j3_35 = j) (fun kj3=>?_) ?_
      ·rcases iteE hj3 with ⟨hc6,hj3⟩ | ⟨hc6,hj3⟩
       ·replace hj3:=Option.some.inj hj3; subst hj3
        exact wX 1 [.r [{},{},{},{},{ g:=false },{ g:=false },{ k:=1,b:=true }]] (cjC hc6 (cjC hc6 (cj1 hc6))) (kj3 true rfl)
       ·replace hj3:=Option.some.inj hj3; subst hj3
        exact wX 1 [.r [{},{},{},{},{},{},{ k:=1,b:=false }]] (cjC hc6 (cjC hc6 (cj1 hc6))) (kj3 (decide (127 < y5)) rfl)
      ·rintro _ rfl
       rcases iteE hl2 with ⟨hc7,hl2⟩ | ⟨hc7,hl2⟩
       ·replace hl2:=Option.some.inj hl2; subst hl2
        have hr:=rl2 _ rfl
        subst hr
        replace h:=elimR h
        replace h:=Option.some.inj h; subst h
        exact wR 9 [.t] (cjC hc7 (cj1 (Kl2.o _ rfl)))
       ·replace hl2:=Option.some.inj hl2; subst hl2
        exact wX 7 [.f] (cj1 hc7) (Kl2.n _ rfl)
     ·replace hl2:=Option.some.inj hl2; subst hl2
      have hr:=rl2 _ rfl
      subst hr
      exact wX 7 [.f] (cjC hc4 (cj1 (Kl2.o _ rfl))) (kl2 () rfl)
    ·rintro ⟨⟩ rfl
     replace h:=elimL h
     obtain ⟨ol4x,hll4x,h⟩:=bindE h
     refine W 3 [.r [{},{},{ k:=1,n:=a0.courses.length }]] (cj1 (mapLen a0.courses E_GCourse)) ?_
     refine wJ (fun (_:Unit)=>(zipE [] [])) (fun (_:Unit)=>⟨[],1⟩) (fun j=>ol4x = .inl j) (fun kl4=>?_) ?_
     ·let v_0:AV:=.sl false (a0.courses.map E_GCourse)
      let v_1:AV:=.i (a0.courses.length:Int)
      refine wLc 1 [] cj0 hll4x 1 (fun (l4_41:Int)=>(zipE [1,39,40,41] [.mp 0 0 0,v_0,v_1,.i l4_41])) (fun (l4_41:Int)=>⟨[(0,b_0)],1⟩) r0 (fun l4_41=>idok (.k (.mp rfl rfl) (.k (.c (cleanMap _ _ cl_GCourse)) (.k (.c rfl) (.k (.c rfl) .z)))) (.k rfl (.cells (.k (.c (cl_GInstrument a0)) .z)) .z)) ?_
      rintro l4_41 out hl4 rl4 Kl4
      rcases iteE hl4 with ⟨hc8,hl4⟩ | ⟨hc8,hl4⟩
      ·obtain ⟨y9,hy9,hl4⟩:=bindE hl4
       obtain ⟨j5_55,hj5,hl4⟩:=bindE hl4
       refine W 9 [.t,.r [{ k:=1,x:=E_GCourse y9 }]] (cjC hc8 (cjC ((ixE hy9).1) (cj1 (mapGet E_GCourse (ixE hy9).2)))) ?_
       refine wG (fun (j5_55:Bool)=>(zipE [1,7,39,40,41,55] [.mp 0 0 0,.mp 1 0 0,v_0,v_1,.i l4_41,.bool j5_55])) (fun (j5_55:Bool)=>⟨[(1,.cells 3 [E_GCourse y9]),(0,b_0)],2⟩) (fun j=>j5_55 = j) (fun kj5=>?_) ?_
       ·rcases iteE hj5 with ⟨hc10,hj5⟩ | ⟨hc10,hj5⟩
        ·replace hj5:=Option.some.inj hj5; subst hj5
         exact wX 1 [.r [{},{},{},{},{ g:=false },{ g:=false },{ g:=false },{ g:=false },{ g:=false },{ g:=false },{ k:=1,b:=true }]] (cjC hc10 (cjC hc10 (cjC hc10 (cjC hc10 (cjC hc10 (cjC hc10 (cj1 hc10))))))) (kj5 true rfl)
        ·replace hj5:=Option.some.inj hj5; subst hj5
         exact wX 1 [.r [{},{},{},{},{},{},{},{},{ k:=1,n:=a0.steps.length },{},{ k:=1,b:=false }]] (cjC hc10 (cjC hc10 (cjC hc10 (cjC hc10 (cjC hc10 (cjC (mapLen a0.steps AV.i) (cjC hc10 (cj1 hc10)))))))) (kj5 (decide ((a0.steps.length:Int) < y9.frets)) rfl)
       ·rintro _ rfl
        rcases iteE hl4 with ⟨hc11,hl4⟩ | ⟨hc11,hl4⟩
        ·replace hl4:=Option.some.inj hl4; subst hl4
         have hr:=rl4 _ rfl
         subst hr
         replace h:=elimR h
         replace h:=Option.some.inj h; subst h
         exact wR 9 [.t] (cjC hc11 (cj1 (Kl4.o _ rfl)))
        ·obtain ⟨j6_69,hj6,hl4⟩:=bindE hl4
         refine W 3 [.f] (cj1 hc11) ?_
         refine wG (fun (j6_69:Bool)=>(zipE [1,39,40,41,69] [.mp 0 0 0,v_0,v_1,.i l4_41,.bool j6_69])) (fun (j6_69:Bool)=>⟨[(0,b_0)],2⟩) (fun j=>j6_69 = j) (fun kj6=>?_) ?_
         ·rcases iteE hj6 with ⟨hc12,hj6⟩ | ⟨hc12,hj6⟩
          ·replace hj6:=Option.some.inj hj6; subst hj6
           exact wX 1 [.r [{},{},{},{},{ g:=false },{ g:=false },{ g:=false },{ k:=1,b:=true },{},{ g:=false },{ g:=false },{ g:=false },{ g:=false }]] (cjC hc12 (cjC hc12 (cjC hc12 (cjC hc12 (cjC (Eq.refl true) (cjC (Eq.refl true) (cjC (Eq.refl true) (cj1 (Eq.refl true))))))))) (kj6 true rfl)
          ·rcases iteE hj6 with ⟨hc13,hj6⟩ | ⟨hc13,hj6⟩
           ·replace hj6:=Option.some.inj hj6; subst hj6
            exact wX 1 [.r [{},{},{},{},{},{},{},{ k:=1,b:=false },{},{ g:=false },{ g:=false },{ g:=false },{ g:=false },{ k:=1,b:=true }]] (cjC hc12 (cjC hc12 (cjC hc12 (cjC hc12 (cjC hc13 (cjC hc13 (cjC hc13 (cjC hc13 (cj1 hc13))))))))) (kj6 true rfl)
           ·obtain ⟨r14,hr14,hj6⟩:=bindE hj6
            replace hj6:=Option.some.inj hj6; subst hj6
            exact wX 1 [.r [{},{},{},{},{},{},{},{ k:=1,b:=false },{},{},{},{ k:=7,x:=.i r14 },{},{ k:=1,b:=false }]] (cjC hc12 (cjC hc12 (cjC hc12 (cjC hc12 (cjC hc13 (cjC hc13 (cjC hc13 (cjC (f159_ok a0 y9 _ hr14) (cjC hc13 (cj1 hc13)))))))))) (kj6 (decide (127 < r14)) rfl)
         ·rintro _ rfl
          rcases iteE hl4 with ⟨hc15,hl4⟩ | ⟨hc15,hl4⟩
          ·replace hl4:=Option.some.inj hl4; subst hl4
           have hr:=rl4 _ rfl
           subst hr
           replace h:=elimR h
           replace h:=Option.some.inj h; subst h
           exact wR 8 [.t] (cjC hc15 (cj1 (Kl4.o _ rfl)))
          ·replace hl4:=Option.some.inj hl4; subst hl4
           exact wD 5 [.f] (cj1 hc15) (fun _ _=>Kl4.d _ _ _ rfl)
      ·replace hl4:=Option.some.inj hl4; subst hl4
       have hr:=rl4 _ rfl
       subst hr
       exact wX 7 [.f] (cjC hc8 (cj1 (Kl4.o _ rfl))) (kl4 () rfl)
     ·rintro ⟨⟩ rfl
      replace h:=elimL h
      replace h:=Option.some.inj h; subst h
      exact wR 3 [] cj0
def f129 (a0:GSign):Option Int:=((bif (decide (a0.value < 1)) then (some true) else (bif (decide (7 < a0.value)) then (some true) else (bif a0.dot then (some a0.three) else (some false)))):Option Bool).bind fun (j1_19:Bool)=>bif j1_19 then (some 0) else (need (0 ≤ (wr (a0.value - 1))) <| bif a0.dot then (some (wr ((wr (Int.tdiv (shrI 384 (wr (a0.value - 1))) 2)) * 3))) else (bif a0.three then (some (wr ((wr (Int.tdiv (shrI 384 (wr (a0.value - 1))) 3)) * 2))) else (some (shrI 384 (wr (a0.value - 1))))))
theorem f129_ok (a0:GSign) (r:Int) (h:f129 a0 = some r):APure Tryz.prog 129 [E_GSign a0] (.i r):=by
 refine apure (clK (cl_GSign a0) clZ) rfl ?_
 refine wf 37 [.tmp 2] (c129 0) ?_
 unfold f129 at h
 obtain ⟨j1_19,hj1,h⟩:=bindE h
 refine W 2 [] cj0 ?_
 refine wG (fun (j1_19:Bool)=>(zipE [1,19] [.mp 0 0 0,.bool j1_19])) (fun (j1_19:Bool)=>⟨[(0,.cells 3 [E_GSign a0])],1⟩) (fun j=>j1_19 = j) (fun kj1=>?_) ?_
 ·rcases iteE hj1 with ⟨hc1,hj1⟩ | ⟨hc1,hj1⟩
  ·replace hj1:=Option.some.inj hj1; subst hj1
   exact wX 1 [.r [{},{},{},{},{ g:=false },{ g:=false },{ g:=false },{ k:=1,b:=true },{},{ g:=false },{ g:=false },{ g:=false },{},{},{ g:=false }]] (cjC hc1 (cjC hc1 (cjC hc1 (cjC hc1 (cjC (Eq.refl true) (cjC (Eq.refl true) (cjC (Eq.refl true) (cj1 (Eq.refl true))))))))) (kj1 true rfl)
  ·rcases iteE hj1 with ⟨hc2,hj1⟩ | ⟨hc2,hj1⟩
   ·replace hj1:=Option.some.inj hj1; subst hj1
    exact wX 1 [.r [{},{},{},{},{},{},{},{ k:=1,b:=false },{},{ g:=false },{ g:=false },{ g:=false },{},{},{ g:=false },{ k:=1,b:=true }]] (cjC hc1 (cjC hc1 (cjC hc1 (cjC hc1 (cjC hc2 (cjC hc2 (cjC hc2 (cjC hc2 (cj1 hc2))))))))) (kj1 true rfl)
   ·rcases iteE hj1 with ⟨hc3,hj1⟩ | ⟨hc3,hj1⟩
    ·replace hj1:=Option.some.inj hj1; subst hj1
     exact wX 1 [.r [{},{},{},{},{},{},{},{ k:=1,b:=false },{},{},{},{},{},{},{ k:=1,b:=true },{ k:=1,b:=false }]] (cjC hc1 (cjC hc1 (cjC hc1 (cjC hc1 (cjC hc2 (cjC hc2 (cjC hc2 (cjC hc3 (cjC hc3 (cjC hc2 (cjC hc3 (cj1 hc2)))))))))))) (kj1 a0.three rfl)
    ·replace hj1:=Option.some.inj hj1; subst hj1
     exact wX 1 [.r [{},{},{},{},{},{},{},{ k:=1,b:=false },{},{},{},{},{ g:=false },{ g:=false },{ k:=1,b:=false },{ k:=1,b:=false }]] (cjC hc1 (cjC hc1 (cjC hc1 (cjC hc1 (cjC hc2 (cjC hc2 (cjC hc2 (cjC hc3 (cjC hc3 (cjC hc2 (cjC hc3 (cj1 hc2)))))))))))) (kj1 false rfl)
 ·rintro _ rfl
  rcases iteE h with ⟨hc4,h⟩ | ⟨hc4,h⟩
  ·replace h:=Option.some.inj h; subst h
   exact wR 4 [.t] (cj1 hc4)
  ·obtain ⟨hn5,h⟩:=needE h
   refine W 7 [.f,.r [{},{},{},{ k:=1 }]] (cjC hc4 (cj1 hn5)) ?_
   rcases iteE h with ⟨hc6,h⟩ | ⟨hc6,h⟩
   ·replace h:=Option.some.inj h; subst h
    exact wR 5 [.t,.r [{},{ k:=1 }]] (cjC hc6 (cj1 ((by decide:(2:Int) ≠ 0))))
   ·refine W 2 [.f] (cj1 hc6) ?_
    rcases iteE h with ⟨hc7,h⟩ | ⟨hc7,h⟩
    ·replace h:=Option.some.inj h; subst h
     exact wR 5 [.t,.r [{},{ k:=1 }]] (cjC hc7 (cj1 ((by decide:(3:Int) ≠ 0))))
    ·replace h:=Option.some.inj h; subst h
     exact wR 6 [.f] (cj1 hc7)
def f145 (a0:GSign):Option Bool:=((bif (eq_GSign a0 (⟨0,false,false⟩:GSign)) then (some true) else ((f129 a0).bind fun r2=>some (decide (0 < r2)))):Option Bool).bind fun (j1_2:Bool)=>some j1_2
theorem f145_ok (a0:GSign) (r:Bool) (h:f145 a0 = some r):APure Tryz.prog 145 [E_GSign a0] (.bool r):=by
 refine apure (clK (cl_GSign a0) clZ) rfl ?_
 refine wf 11 [.tmp 2] (c145 0) ?_
 unfold f145 at h
 obtain ⟨j1_2,hj1,h⟩:=bindE h
 refine W 1 [] cj0 ?_
 refine wG (fun (j1_2:Bool)=>(zipE [2] [.bool j1_2])) (fun (j1_2:Bool)=>⟨[],1⟩) (fun j=>j1_2 = j) (fun kj1=>?_) ?_
 ·rcases iteE hj1 with ⟨hc1,hj1⟩ | ⟨hc1,hj1⟩
  ·replace hj1:=Option.some.inj hj1; subst hj1
   exact wX 1 [.r [{},{},{},{},{ g:=false },{ g:=false },{ g:=false },{ k:=1,b:=true }]] (cjC hc1 (cjC hc1 (cjC hc1 (cj1 hc1)))) (kj1 true rfl)
  ·obtain ⟨r2,hr2,hj1⟩:=bindE hj1
   replace hj1:=Option.some.inj hj1; subst hj1
   exact wX 1 [.r [{},{},{},{},{},{ k:=7,x:=.i r2 },{},{ k:=1,b:=false }]] (cjC hc1 (cjC hc1 (cjC (f129_ok a0 _ hr2) (cjC hc1 (cj1 hc1))))) (kj1 (decide (0 < r2)) rfl)
 ·rintro _ rfl
  replace h:=Option.some.inj h; subst h
  exact wR 1 [] cj0
def f217 (a0:GEvent):Option Bool:=((bif (decide ((a0.stops.length:Int) = 0)) then (some (!a0.tie)) else (some false)):Option Bool).bind fun (j1_2:Bool)=>some j1_2
theorem f217_ok (a0:GEvent) (r:Bool) (h:f217 a0 = some r):APure Tryz.prog 217 [E_GEvent a0] (.bool r):=by
 refine apure (clK (cl_GEvent a0) clZ) rfl ?_
 refine wf 12 [.tmp 2] (c217 0) ?_
 unfold f217 at h
 obtain ⟨j1_2,hj1,h⟩:=bindE h
 refine W 1 [] cj0 ?_
 refine wG (fun (j1_2:Bool)=>(zipE [2] [.bool j1_2])) (fun (j1_2:Bool)=>⟨[],1⟩) (fun j=>j1_2 = j) (fun kj1=>?_) ?_
 ·rcases iteE hj1 with ⟨hc1,hj1⟩ | ⟨hc1,hj1⟩
  ·replace hj1:=Option.some.inj hj1; subst hj1
   exact wX 1 [.r [{},{},{ k:=1,n:=a0.stops.length },{},{},{},{},{},{ k:=1,b:=true }]] (cjC (mapLen a0.stops E_GStop) (cjC hc1 (cjC hc1 (cjC hc1 (cj1 hc1))))) (kj1 (!a0.tie) rfl)
  ·replace hj1:=Option.some.inj hj1; subst hj1
   exact wX 1 [.r [{},{},{ k:=1,n:=a0.stops.length },{},{},{ g:=false },{ g:=false },{ g:=false },{ k:=1,b:=false }]] (cjC (mapLen a0.stops E_GStop) (cjC hc1 (cjC hc1 (cjC hc1 (cj1 hc1))))) (kj1 false rfl)
 ·rintro _ rfl
  replace h:=Option.some.inj h; subst h
  exact wR 1 [] cj0
def f246 (a0:GStop) (a1:Int):Option Bool:=some (decide (a0.course = a1))
theorem f246_ok (a0:GStop) (a1:Int) (r:Bool) (h:f246 a0 a1 = some r):ACalls Tryz.prog 246 [E_GStop a0,.mp 0 0 0] ⟨[(0,.cells 1 [.i a1])],1⟩ (fun y t=>y = .bool r ∧ t = ⟨[(0,.cells 1 [.i a1])],2⟩):=by
 refine wf 8 [.tmp 3] (c246 0) ?_
 unfold f246 at h
 replace h:=Option.some.inj h; subst h
 exact wP 3 [] cj0 ⟨rfl,rfl⟩
def f257 (a0:List GStop) (a1_0:Int):Option Int:=(loopN (σ:=Int) (τ:=(Unit ⊕ Int)) (fun (l1_8:Int)=>bif (decide (l1_8 < (a0.length:Int))) then ((ix a0 l1_8).bind fun y2=>(f246 y2 a1_0).bind fun r3=>bif r3 then (some (.inr (.inr l1_8))) else (some (.inl (wr (l1_8 + 1))))) else (some (.inr (.inl ())))) FUEL 0).bind (Sum.elim (fun (_:Unit)=>some (-1)) some)
theorem f257_ok (a0:List GStop) (a1_0:Int) (r:Int) (h:f257 a0 a1_0 = some r):ACalls Tryz.prog 257 [.sl false (a0.map E_GStop),.fn 246 [.mp 0 0 0]] ⟨[(0,.cells 1 [.i a1_0])],1⟩ (fun y t=>y = .i r ∧ t = ⟨[(0,.cells 1 [.i a1_0])],2⟩):=by
 refine wf 19 [.tmp 4] (c257 0) ?_
 unfold f257 at h
 obtain ⟨ol1x,hll1x,h⟩:=bindE h
 refine W 3 [.n,.r [{},{ k:=1,n:=a0.length }]] (cj1 (mapLen a0 E_GStop)) ?_
 let b_0:Blk:=.cells 1 [.i a1_0]
 refine wJ (fun (_:Unit)=>(zipE [] [])) (fun (_:Unit)=>⟨[(0,b_0)],1⟩) (fun j=>ol1x = .inl j) (fun kl1=>?_) ?_
 ·refine wLc 1 [] cj0 hll1x 1 (fun (l1_8:Int)=>(zipE [0,1,7,8] [.sl false (a0.map E_GStop),.fn 246 [.mp 0 0 0],.i (a0.length:Int),.i l1_8])) (fun (l1_8:Int)=>⟨[(0,b_0)],1⟩) r0 (fun l1_8=>idok (.k (.c (cleanMap _ _ cl_GStop)) (.k (.f (.k (.mp rfl rfl) .z)) (.k (.c rfl) (.k (.c rfl) .z)))) (.k rfl (.cells (.k (.c rfl) .z)) .z)) ?_
  rintro l1_8 out hl1 rl1 Kl1
  rcases iteE hl1 with ⟨hc1,hl1⟩ | ⟨hc1,hl1⟩
  ·obtain ⟨y2,hy2,hl1⟩:=bindE hl1
   obtain ⟨r3,hr3,hl1⟩:=bindE hl1
   refine W 9 [.t,.n,.r [{},{},{},{ k:=1,x:=E_GStop y2 },{},{ c:=some (.bool r3,⟨[(0,b_0)],2⟩) }]] (cjC hc1 (cjC ((ixE hy2).1) (cjC (mapGet E_GStop (ixE hy2).2) (cj1 (f246_ok y2 a1_0 _ hr3))))) ?_
   rcases iteE hl1 with ⟨hc4,hl1⟩ | ⟨hc4,hl1⟩
   ·replace hl1:=Option.some.inj hl1; subst hl1
    have hr:=rl1 _ rfl
    subst hr
    replace h:=elimR h
    replace h:=Option.some.inj h; subst h
    exact wP 8 [.t] (cjC hc4 (cj1 (Kl1.o _ rfl))) ⟨rfl,rfl⟩
   ·replace hl1:=Option.some.inj hl1; subst hl1
    exact wD 5 [.f] (cj1 hc4) (fun _ _=>Kl1.d _ _ _ rfl)
  ·replace hl1:=Option.some.inj hl1; subst hl1
   have hr:=rl1 _ rfl
   subst hr
   exact wX 7 [.f] (cjC hc1 (cj1 (Kl1.o _ rfl))) (kl1 () rfl)
 ·rintro ⟨⟩ rfl
  replace h:=elimL h
  refine wT 2 [] cj0 [4] [.i (-1)] ⟨[(0,b_0)],2⟩ ?_
  replace h:=Option.some.inj h; subst h
  exact wP 1 [] cj0 ⟨rfl,rfl⟩
def f245 (a0:List GStop) (a1_0:Int):Option Bool:=(f257 a0 a1_0).bind fun r1=>some (decide (0 ≤ r1))
theorem f245_ok (a0:List GStop) (a1_0:Int) (r:Bool) (h:f245 a0 a1_0 = some r):ACalls Tryz.prog 245 [.sl false (a0.map E_GStop),.fn 246 [.mp 0 0 0]] ⟨[(0,.cells 1 [.i a1_0])],1⟩ (fun y t=>y = .bool r ∧ t = ⟨[(0,.cells 1 [.i a1_0])],2⟩):=by
 refine wf 9 [.tmp 4] (c245 0) ?_
 unfold f245 at h
 obtain ⟨r1,hr1,h⟩:=bindE h
 replace h:=Option.some.inj h; subst h
 exact wP 3 [.n,.r [{},{},{ c:=some (.i r1,⟨[(0,.cells 1 [.i a1_0])],2⟩) }]] (cj1 (f257_ok a0 a1_0 _ hr1)) ⟨rfl,rfl⟩
def f218 (a0:GEvent) (a1:Int):Option Bool:=(f245 a0.stops a1).bind fun r1=>some r1
theorem f218_ok (a0:GEvent) (a1:Int) (r:Bool) (h:f218 a0 a1 = some r):APure Tryz.prog 218 [E_GEvent a0,.i a1] (.bool r):=by
 refine apure (clK (cl_GEvent a0) (clK rfl clZ)) rfl ?_
 refine wf 9 [.tmp 4] (c218 0) ?_
 unfold f218 at h
 obtain ⟨r1,hr1,h⟩:=bindE h
 replace h:=Option.some.inj h; subst h
 let b_0:Blk:=.cells 6 [E_GEvent a0]
 let b_1:Blk:=.cells 1 [.i a1]
 exact wR 3 [.n,.r [{},{},{},{ c:=some (.bool r1,⟨[(1,b_1),(0,b_0)],3⟩) }]] (cj1 (callF (f245_ok a0.stops a1 _ hr1) [(0,1)] [(1,0)] [0] [.sl false (a0.stops.map E_GStop),.fn 246 [.mp 1 0 0]] ⟨[(1,b_1),(0,b_0)],2⟩ (.bool r1) ⟨[(1,b_1),(0,b_0)],3⟩ (by kernel_rfl) (.k (.c (cleanMap _ _ cl_GStop)) (.k (.f (.k (.mp rfl rfl) .z)) .z)) (.c rfl) (.k rfl (.cells (.k (.c rfl) .z)) .z) (.d (x':=b_1) rfl (by kernel_rfl) (.cells (.k (.c rfl) .z)) (.f rfl (by kernel_rfl) .z))))
def f194 (a0:GPiece) (a1:Int) (a2:Int):Option Int:=((bif (decide (a1 < 0)) then (some true) else (some (decide ((a0.events.length:Int) ≤ a1)))):Option Bool).bind fun (j1_18:Bool)=>bif j1_18 then (some 0) else (need (0 ≤ (wr (a1 + 1))) <| need ((wr (a1 + 1)).toNat ≤ a0.events.length) <| (loopN (σ:=(Int × Int)) (τ:=Int) (fun ((l2_7,l2_25):(Int × Int))=>bif (decide (l2_25 < (((a0.events.take a0.events.length).drop (wr (a1 + 1)).toNat).length:Int))) then ((ix ((a0.events.take a0.events.length).drop (wr (a1 + 1)).toNat) l2_25).bind fun y6=>((bif (decide (l2_7 = 15)) then (some true) else ((f217 y6).bind fun r8=>bif r8 then (some true) else ((f218 y6 a2).bind fun r10=>some r10))):Option Bool).bind fun (j3_39:Bool)=>bif j3_39 then (some (.inr l2_7)) else (some (.inl ((wr (l2_7 + 1)),(wr (l2_25 + 1)))))) else (some (.inr l2_7))) FUEL (0,0)).bind fun (l2x_7:Int)=>some l2x_7)
theorem f194_ok (a0:GPiece) (a1:Int) (a2:Int) (r:Int) (h:f194 a0 a1 a2 = some r):APure Tryz.prog 194 [E_GPiece a0,.i a1,.i a2] (.i r):=by
 refine apure (clK (cl_GPiece a0) (clK rfl (clK rfl clZ))) rfl ?_
 refine wf 44 [.tmp 6] (c194 0) ?_
 unfold f194 at h
 obtain ⟨j1_18,hj1,h⟩:=bindE h
 refine W 2 [] cj0 ?_
 refine wG (fun (j1_18:Bool)=>(zipE [1,2,3,18] [.i a1,.i a2,.mp 0 0 0,.bool j1_18])) (fun (j1_18:Bool)=>⟨[(0,.cells 3 [E_GPiece a0])],1⟩) (fun j=>j1_18 = j) (fun kj1=>?_) ?_
 ·rcases iteE hj1 with ⟨hc1,hj1⟩ | ⟨hc1,hj1⟩
  ·replace hj1:=Option.some.inj hj1; subst hj1
   exact wX 1 [.r [{},{},{},{ g:=false },{ g:=false },{ g:=false },{ g:=false },{ g:=false },{ k:=1,b:=true }]] (cjC hc1 (cjC hc1 (cjC hc1 (cjC hc1 (cjC hc1 (cj1 hc1)))))) (kj1 true rfl)
  ·replace hj1:=Option.some.inj hj1; subst hj1
   exact wX 1 [.r [{},{},{},{},{},{},{ k:=1,n:=a0.events.length },{},{ k:=1,b:=false }]] (cjC hc1 (cjC hc1 (cjC hc1 (cjC hc1 (cjC (mapLen a0.events E_GEvent) (cjC hc1 (cj1 hc1))))))) (kj1 (decide ((a0.events.length:Int) ≤ a1)) rfl)
 ·rintro _ rfl
  rcases iteE h with ⟨hc2,h⟩ | ⟨hc2,h⟩
  ·replace h:=Option.some.inj h; subst h
   exact wR 4 [.t] (cj1 hc2)
  ·obtain ⟨hn3,h⟩:=needE h
   obtain ⟨hn4,h⟩:=needE h
   obtain ⟨l2x_7,hll2x,h⟩:=bindE h
   refine W 6 [.f,.n,.r [{},{},{},{},{ k:=1,n:=(wr (a1 + 1)).toNat,m:=a0.events.length,b:=false,l:=((a0.events.take a0.events.length).drop (wr (a1 + 1)).toNat).map E_GEvent },{ k:=1,n:=((a0.events.take a0.events.length).drop (wr (a1 + 1)).toNat).length }]] (cjC hc2 (cjC hn4 (cjC (leMap E_GEvent (Nat.le_refl a0.events.length)) (cjC (fitsMap (P:=Tryz.prog) (t:=143) (k:=6) a0.events E_GEvent (by kernel_rfl) sz_GEvent) (cjC (Eq.refl false) (cjC (mapSub a0.events E_GEvent (wr (a1 + 1)).toNat a0.events.length) (cjC hn3 (cjC (Eq.refl ((wr (a1 + 1)).toNat)) (cjC (mapLen a0.events E_GEvent) (cj1 (mapLen ((a0.events.take a0.events.length).drop (wr (a1 + 1)).toNat) E_GEvent))))))))))) ?_
   refine wJ (fun (l2x_7:Int)=>(zipE [7] [.i l2x_7])) (fun (l2x_7:Int)=>⟨[],2⟩) (fun j=>l2x_7 = j) (fun kl2=>?_) ?_
   ·let v_0:AV:=.sl false (((a0.events.take a0.events.length).drop (wr (a1 + 1)).toNat).map E_GEvent)
    let v_1:AV:=.i (((a0.events.take a0.events.length).drop (wr (a1 + 1)).toNat).length:Int)
    refine wLc 1 [] cj0 hll2x 1 (fun ((l2_7,l2_25):(Int × Int))=>(zipE [2,7,23,24,25] [.i a2,.i l2_7,v_0,v_1,.i l2_25])) (fun ((l2_7,l2_25):(Int × Int))=>⟨[],1⟩) r0 (fun ⟨l2_7,l2_25⟩=>idok (.k (.c rfl) (.k (.c rfl) (.k (.c (cleanMap _ _ cl_GEvent)) (.k (.c rfl) (.k (.c rfl) .z))))) .z) ?_
    rintro ⟨l2_7,l2_25⟩ out hl2 rl2 Kl2
    rcases iteE hl2 with ⟨hc5,hl2⟩ | ⟨hc5,hl2⟩
    ·obtain ⟨y6,hy6,hl2⟩:=bindE hl2
     obtain ⟨j3_39,hj3,hl2⟩:=bindE hl2
     refine W 9 [.t,.r [{ k:=1,x:=E_GEvent y6 }]] (cjC hc5 (cjC ((ixE hy6).1) (cj1 (mapGet E_GEvent (ixE hy6).2)))) ?_
     refine wG (fun (j3_39:Bool)=>(zipE [2,7,23,24,25,39] [.i a2,.i l2_7,v_0,v_1,.i l2_25,.bool j3_39])) (fun (j3_39:Bool)=>⟨[],2⟩) (fun j=>j3_39 = j) (fun kj3=>?_) ?_
     ·rcases iteE hj3 with ⟨hc7,hj3⟩ | ⟨hc7,hj3⟩
      ·replace hj3:=Option.some.inj hj3; subst hj3
       exact wX 1 [.r [{},{},{},{ g:=false },{ g:=false },{ k:=1,b:=true },{},{ g:=false },{ g:=false },{ g:=false }]] (cjC hc7 (cjC hc7 (cjC hc7 (cjC (Eq.refl true) (cjC (Eq.refl true) (cj1 (Eq.refl true))))))) (kj3 true rfl)
      ·obtain ⟨r8,hr8,hj3⟩:=bindE hj3
       rcases iteE hj3 with ⟨hc9,hj3⟩ | ⟨hc9,hj3⟩
       ·replace hj3:=Option.some.inj hj3; subst hj3
        exact wX 1 [.r [{},{},{},{},{ k:=7,x:=.bool r8 },{ k:=1,b:=false },{},{ g:=false },{ g:=false },{ g:=false },{ k:=1,b:=true }]] (cjC hc7 (cjC hc7 (cjC (f217_ok y6 _ hr8) (cjC hc7 (cjC hc9 (cjC hc9 (cjC hc9 (cj1 hc9)))))))) (kj3 true rfl)
       ·obtain ⟨r10,hr10,hj3⟩:=bindE hj3
        replace hj3:=Option.some.inj hj3; subst hj3
        exact wX 1 [.r [{},{},{},{},{ k:=7,x:=.bool r8 },{ k:=1,b:=false },{},{},{},{ k:=7,x:=.bool r10 },{ k:=1,b:=false }]] (cjC hc7 (cjC hc7 (cjC (f217_ok y6 _ hr8) (cjC hc7 (cjC hc9 (cjC hc9 (cjC hc9 (cjC (f218_ok y6 a2 _ hr10) (cj1 hc9))))))))) (kj3 r10 rfl)
     ·rintro _ rfl
      rcases iteE hl2 with ⟨hc11,hl2⟩ | ⟨hc11,hl2⟩
      ·replace hl2:=Option.some.inj hl2; subst hl2
       have hr:=rl2 _ rfl
       subst hr
       exact wX 7 [.t] (cjC hc11 (cj1 (Kl2.o _ rfl))) (kl2 l2_7 rfl)
      ·replace hl2:=Option.some.inj hl2; subst hl2
       exact wD 7 [.f] (cj1 hc11) (fun _ _=>Kl2.d _ _ _ rfl)
    ·replace hl2:=Option.some.inj hl2; subst hl2
     have hr:=rl2 _ rfl
     subst hr
     refine wT 3 [.f] (cj1 hc5) [7] [.i l2_7] ⟨[],2⟩ ?_
     exact wX 4 [] (cj1 (Kl2.o _ rfl)) (kl2 l2_7 rfl)
   ·rintro _ rfl
    replace h:=Option.some.inj h; subst h
    exact wR 3 [] cj0
def f146 (a0:GPiece) (a1:Int) (a2:GStop) (a3:Int):Option Int:=((bif (decide (a2.course < 1)) then (some true) else (some (decide ((a0.instrument.courses.length:Int) < a2.course)))):Option Bool).bind fun (j1_9:Bool)=>bif j1_9 then (some 12) else (((bif (decide (a2.fret < 0)) then (some true) else ((ix a0.instrument.courses (wr (a2.course - 1))).bind fun y4=>some (decide (y4.frets < a2.fret)))):Option Bool).bind fun (j2_22:Bool)=>bif j2_22 then (some 13) else (bif (decide (a2.course ≤ a3)) then (some 22) else (((bif (decide (a2.right < 0)) then (some true) else (bif (decide (3 < a2.right)) then (some true) else (bif (decide (a2.grace < 0)) then (some true) else (some (decide (4 < a2.grace)))))):Option Bool).bind fun (j3_45:Bool)=>bif j3_45 then (some 23) else (((bif (decide (a2.hold < 0)) then (some true) else ((f194 a0 a1 a2.course).bind fun r12=>bif (decide (r12 < a2.hold)) then (some true) else (bif (decide (0 < a2.hold)) then (some (decide (a2.fret = 0))) else (some false)))):Option Bool).bind fun (j4_64:Bool)=>bif j4_64 then (some 24) else (some 0)))))
theorem f146_ok (a0:GPiece) (a1:Int) (a2:GStop) (a3:Int) (r:Int) (h:f146 a0 a1 a2 a3 = some r):APure Tryz.prog 146 [E_GPiece a0,.i a1,E_GStop a2,.i a3] (.i r):=by
 refine apure (clK (cl_GPiece a0) (clK rfl (clK (cl_GStop a2) (clK rfl clZ)))) rfl ?_
 refine wf 88 [.tmp 8] (c146 0) ?_
 unfold f146 at h
 obtain ⟨j1_9,hj1,h⟩:=bindE h
 refine W 3 [] cj0 ?_
 let b_0:Blk:=.cells 3 [E_GPiece a0]
 let b_1:Blk:=.cells 5 [E_GStop a2]
 let s_0:St:=⟨[(1,b_1),(0,b_0)],2⟩
 refine wG (fun (j1_9:Bool)=>(zipE [1,3,4,6,9] [.i a1,.i a3,.mp 0 0 0,.mp 1 0 0,.bool j1_9])) (fun (j1_9:Bool)=>s_0) (fun j=>j1_9 = j) (fun kj1=>?_) ?_
 ·rcases iteE hj1 with ⟨hc1,hj1⟩ | ⟨hc1,hj1⟩
  ·replace hj1:=Option.some.inj hj1; subst hj1
   exact wX 1 [.r [{},{},{},{},{ g:=false },{ g:=false },{ g:=false },{ g:=false },{ g:=false },{ g:=false },{ g:=false },{ k:=1,b:=true }]] (cjC hc1 (cjC hc1 (cjC hc1 (cjC hc1 (cjC hc1 (cjC hc1 (cjC hc1 (cj1 hc1)))))))) (kj1 true rfl)
  ·replace hj1:=Option.some.inj hj1; subst hj1
   exact wX 1 [.r [{},{},{},{},{},{},{},{},{},{ k:=1,n:=a0.instrument.courses.length },{},{ k:=1,b:=false }]] (cjC hc1 (cjC hc1 (cjC hc1 (cjC hc1 (cjC hc1 (cjC hc1 (cjC (mapLen a0.instrument.courses E_GCourse) (cjC hc1 (cj1 hc1))))))))) (kj1 (decide ((a0.instrument.courses.length:Int) < a2.course)) rfl)
 ·rintro _ rfl
  rcases iteE h with ⟨hc2,h⟩ | ⟨hc2,h⟩
  ·replace h:=Option.some.inj h; subst h
   exact wR 5 [.t] (cj1 hc2)
  ·obtain ⟨j2_22,hj2,h⟩:=bindE h
   refine W 1 [.f] (cj1 hc2) ?_
   refine wG (fun (j2_22:Bool)=>(zipE [1,3,4,6,22] [.i a1,.i a3,.mp 0 0 0,.mp 1 0 0,.bool j2_22])) (fun (j2_22:Bool)=>s_0) (fun j=>j2_22 = j) (fun kj2=>?_) ?_
   ·rcases iteE hj2 with ⟨hc3,hj2⟩ | ⟨hc3,hj2⟩
    ·replace hj2:=Option.some.inj hj2; subst hj2
     exact wX 1 [.r [{},{},{},{},{ g:=false },{ g:=false },{ g:=false },{ g:=false },{ g:=false },{ g:=false },{ g:=false },{ g:=false },{ g:=false },{ g:=false },{ g:=false },{ g:=false }]] (cjC hc3 (cjC (Eq.refl true) (cjC (Eq.refl true) (cjC (Eq.refl true) (cjC (Eq.refl true) (cjC (Eq.refl true) (cjC (Eq.refl true) (cjC (Eq.refl true) (cjC (Eq.refl true) (cjC (Eq.refl true) (cjC (Eq.refl true) (cj1 (Eq.refl true))))))))))))) (kj2 true rfl)
    ·obtain ⟨y4,hy4,hj2⟩:=bindE hj2
     replace hj2:=Option.some.inj hj2; subst hj2
     exact wX 1 [.r [{},{},{},{},{},{},{},{},{},{},{},{},{ k:=1,x:=E_GCourse y4 }]] (cjC hc3 (cjC (Eq.refl false) (cjC (Eq.refl false) (cjC (Eq.refl false) (cjC (Eq.refl false) (cjC (Eq.refl false) (cjC (Eq.refl false) (cjC (Eq.refl false) (cjC (Eq.refl false) (cjC ((ixE hy4).1) (cjC (mapGet E_GCourse (ixE hy4).2) (cjC (Eq.refl false) (cjC (Eq.refl false) (cj1 (Eq.refl false))))))))))))))) (kj2 (decide (y4.frets < a2.fret)) rfl)
   ·rintro _ rfl
    rcases iteE h with ⟨hc5,h⟩ | ⟨hc5,h⟩
    ·replace h:=Option.some.inj h; subst h
     exact wR 5 [.t] (cj1 hc5)
    ·refine W 2 [.f] (cj1 hc5) ?_
     rcases iteE h with ⟨hc6,h⟩ | ⟨hc6,h⟩
     ·replace h:=Option.some.inj h; subst h
      exact wR 5 [.t] (cj1 hc6)
     ·obtain ⟨j3_45,hj3,h⟩:=bindE h
      refine W 1 [.f] (cj1 hc6) ?_
      refine wG (fun (j3_45:Bool)=>(zipE [1,4,6,45] [.i a1,.mp 0 0 0,.mp 1 0 0,.bool j3_45])) (fun (j3_45:Bool)=>s_0) (fun j=>j3_45 = j) (fun kj3=>?_) ?_
      ·rcases iteE hj3 with ⟨hc7,hj3⟩ | ⟨hc7,hj3⟩
       ·replace hj3:=Option.some.inj hj3; subst hj3
        exact wX 1 [.r [{},{},{},{},{ g:=false },{ g:=false },{ g:=false },{ k:=1,b:=true },{},{ g:=false },{ g:=false },{ g:=false },{},{},{ g:=false },{ g:=false },{ g:=false }]] (cjC hc7 (cjC hc7 (cjC hc7 (cjC hc7 (cjC (Eq.refl true) (cjC (Eq.refl true) (cjC (Eq.refl true) (cjC (Eq.refl true) (cjC (Eq.refl true) (cj1 (Eq.refl true))))))))))) (kj3 true rfl)
       ·rcases iteE hj3 with ⟨hc8,hj3⟩ | ⟨hc8,hj3⟩
        ·replace hj3:=Option.some.inj hj3; subst hj3
         exact wX 1 [.r [{},{},{},{},{},{},{},{ k:=1,b:=false },{},{ g:=false },{ g:=false },{ g:=false },{ k:=1,b:=true },{},{ g:=false },{ g:=false },{ g:=false }]] (cjC hc7 (cjC hc7 (cjC hc7 (cjC hc7 (cjC hc8 (cjC hc8 (cjC hc8 (cjC hc8 (cjC (Eq.refl true) (cjC (Eq.refl true) (cj1 (Eq.refl true)))))))))))) (kj3 true rfl)
        ·rcases iteE hj3 with ⟨hc9,hj3⟩ | ⟨hc9,hj3⟩
         ·replace hj3:=Option.some.inj hj3; subst hj3
          exact wX 1 [.r [{},{},{},{},{},{},{},{ k:=1,b:=false },{},{},{},{},{ k:=1,b:=false },{},{ g:=false },{ g:=false },{ g:=false },{ k:=1,b:=true }]] (cjC hc7 (cjC hc7 (cjC hc7 (cjC hc7 (cjC hc8 (cjC hc8 (cjC hc8 (cjC hc8 (cjC hc9 (cjC hc9 (cjC hc9 (cj1 hc9)))))))))))) (kj3 true rfl)
         ·replace hj3:=Option.some.inj hj3; subst hj3
          exact wX 1 [.r [{},{},{},{},{},{},{},{ k:=1,b:=false },{},{},{},{},{ k:=1,b:=false },{},{},{},{},{ k:=1,b:=false }]] (cjC hc7 (cjC hc7 (cjC hc7 (cjC hc7 (cjC hc8 (cjC hc8 (cjC hc8 (cjC hc8 (cjC hc9 (cjC hc9 (cjC hc9 (cj1 hc9)))))))))))) (kj3 (decide (4 < a2.grace)) rfl)
      ·rintro _ rfl
       rcases iteE h with ⟨hc10,h⟩ | ⟨hc10,h⟩
       ·replace h:=Option.some.inj h; subst h
        exact wR 5 [.t] (cj1 hc10)
       ·obtain ⟨j4_64,hj4,h⟩:=bindE h
        refine W 1 [.f] (cj1 hc10) ?_
        refine wG (fun (j4_64:Bool)=>(zipE [64] [.bool j4_64])) (fun (j4_64:Bool)=>⟨[],2⟩) (fun j=>j4_64 = j) (fun kj4=>?_) ?_
        ·rcases iteE hj4 with ⟨hc11,hj4⟩ | ⟨hc11,hj4⟩
         ·replace hj4:=Option.some.inj hj4; subst hj4
          exact wX 1 [.r [{},{},{},{},{ g:=false },{ g:=false },{ g:=false },{ g:=false },{ g:=false },{ g:=false },{ g:=false },{ g:=false },{},{},{ g:=false },{ g:=false },{ g:=false },{ g:=false },{},{},{},{ g:=false }]] (cjC hc11 (cjC (Eq.refl true) (cjC (Eq.refl true) (cjC (Eq.refl true) (cjC (Eq.refl true) (cjC (Eq.refl true) (cjC (Eq.refl true) (cjC (Eq.refl true) (cjC (Eq.refl true) (cjC (Eq.refl true) (cjC (Eq.refl true) (cjC (Eq.refl true) (cj1 (Eq.refl true)))))))))))))) (kj4 true rfl)
         ·obtain ⟨r12,hr12,hj4⟩:=bindE hj4
          rcases iteE hj4 with ⟨hc13,hj4⟩ | ⟨hc13,hj4⟩
          ·replace hj4:=Option.some.inj hj4; subst hj4
           exact wX 1 [.r [{},{},{},{},{},{},{},{},{},{},{ k:=7,x:=.i r12 },{},{},{},{ g:=false },{ g:=false },{ g:=false },{ g:=false },{},{},{},{ g:=false }]] (cjC hc11 (cjC (Eq.refl false) (cjC (Eq.refl false) (cjC (Eq.refl false) (cjC (Eq.refl false) (cjC (Eq.refl false) (cjC (Eq.refl false) (cjC (f194_ok a0 a1 a2.course _ hr12) (cjC (@Eq.refl AV (.i a2.hold)) (cjC (Eq.refl false) (cjC hc13 (cjC (Eq.refl true) (cjC (Eq.refl true) (cjC (Eq.refl true) (cj1 (Eq.refl true)))))))))))))))) (kj4 true rfl)
          ·rcases iteE hj4 with ⟨hc14,hj4⟩ | ⟨hc14,hj4⟩
           ·replace hj4:=Option.some.inj hj4; subst hj4
            exact wX 1 [.r [{},{},{},{},{},{},{},{},{},{},{ k:=7,x:=.i r12 }]] (cjC hc11 (cjC (Eq.refl false) (cjC (Eq.refl false) (cjC (Eq.refl false) (cjC (Eq.refl false) (cjC (Eq.refl false) (cjC (Eq.refl false) (cjC (f194_ok a0 a1 a2.course _ hr12) (cjC (@Eq.refl AV (.i a2.hold)) (cjC (Eq.refl false) (cjC hc13 (cjC (Eq.refl false) (cjC (Eq.refl false) (cjC (Eq.refl false) (cjC hc14 (cjC (Eq.refl true) (cjC (Eq.refl true) (cj1 (Eq.refl false))))))))))))))))))) (kj4 (decide (a2.fret = 0)) rfl)
           ·replace hj4:=Option.some.inj hj4; subst hj4
            exact wX 1 [.r [{},{},{},{},{},{},{},{},{},{},{ k:=7,x:=.i r12 },{},{},{},{},{},{},{},{ g:=false },{ g:=false },{ g:=false }]] (cjC hc11 (cjC (Eq.refl false) (cjC (Eq.refl false) (cjC (Eq.refl false) (cjC (Eq.refl false) (cjC (Eq.refl false) (cjC (Eq.refl false) (cjC (f194_ok a0 a1 a2.course _ hr12) (cjC (@Eq.refl AV (.i a2.hold)) (cjC (Eq.refl false) (cjC hc13 (cjC (Eq.refl false) (cjC (Eq.refl false) (cjC (Eq.refl false) (cjC hc14 (cjC (Eq.refl false) (cjC (Eq.refl false) (cj1 (Eq.refl false))))))))))))))))))) (kj4 false rfl)
        ·rintro _ rfl
         rcases iteE h with ⟨hc15,h⟩ | ⟨hc15,h⟩
         ·replace h:=Option.some.inj h; subst h
          exact wR 5 [.t] (cj1 hc15)
         ·replace h:=Option.some.inj h; subst h
          exact wR 6 [.f] (cj1 hc15)
def f96 (a0:GPiece):Option Int:=(f104 a0.instrument).bind fun r1=>bif (decide (r1 ≠ 0)) then (some r1) else (bif (decide (400 < (a0.events.length:Int))) then (some 2) else ((loopN (σ:=Int) (τ:=(Unit ⊕ Int)) (fun (l1_23:Int)=>bif (decide (l1_23 < (a0.events.length:Int))) then ((ix a0.events l1_23).bind fun y5=>(((f145 y5.sign).bind fun r6=>bif (!r6) then (some true) else (bif (decide (l1_23 = 0)) then (some (eq_GSign y5.sign (⟨0,false,false⟩:GSign))) else (some false))):Option Bool).bind fun (j2_41:Bool)=>bif j2_41 then (some (.inr (.inr 20))) else (((bif y5.tie then (bif (decide (l1_23 = 0)) then (some true) else (some (decide (0 < (y5.stops.length:Int))))) else (some false)):Option Bool).bind fun (j3_53:Bool)=>bif j3_53 then (some (.inr (.inr 21))) else ((loopN (σ:=(Int × Int)) (τ:=(Unit ⊕ (Int ⊕ (Unit ⊕ Int)))) (fun ((l4_6,l4_57):(Int × Int))=>bif (decide (l4_57 < (y5.stops.length:Int))) then ((ix y5.stops l4_57).bind fun y14=>(f146 a0 l1_23 y14 l4_6).bind fun r15=>bif (decide (r15 ≠ 0)) then (some (.inr (.inr (.inr (.inr r15))))) else (some (.inl (y14.course,(wr (l4_57 + 1)))))) else (some (.inr (.inl ())))) FUEL (0,0)).bind (Sum.elim (fun (_:Unit)=>some (.inl (wr (l1_23 + 1)))) some)))) else (some (.inr (.inl ())))) FUEL 0).bind (Sum.elim (fun (_:Unit)=>some 0) some)))
theorem f96_ok (a0:GPiece) (r:Int) (h:f96 a0 = some r):APure Tryz.prog 96 [E_GPiece a0] (.i r):=by
 refine apure (clK (cl_GPiece a0) clZ) rfl ?_
 refine wf 73 [.tmp 2] (c96 0) ?_
 unfold f96 at h
 obtain ⟨r1,hr1,h⟩:=bindE h
 refine W 4 [.n,.r [{},{},{ k:=7,x:=.i r1 }]] (cj1 (f104_ok a0.instrument _ hr1)) ?_
 rcases iteE h with ⟨hc2,h⟩ | ⟨hc2,h⟩
 ·replace h:=Option.some.inj h; subst h
  exact wR 4 [.t] (cj1 hc2)
 ·refine W 5 [.f,.r [{},{},{ k:=1,n:=a0.events.length }]] (cjC hc2 (cj1 (mapLen a0.events E_GEvent))) ?_
  rcases iteE h with ⟨hc3,h⟩ | ⟨hc3,h⟩
  ·replace h:=Option.some.inj h; subst h
   exact wR 4 [.t] (cj1 hc3)
  ·obtain ⟨ol1x,hll1x,h⟩:=bindE h
   refine W 5 [.f,.r [{},{},{ k:=1,n:=a0.events.length }]] (cjC hc3 (cj1 (mapLen a0.events E_GEvent))) ?_
   refine wJ (fun (_:Unit)=>(zipE [] [])) (fun (_:Unit)=>⟨[],1⟩) (fun j=>ol1x = .inl j) (fun kl1=>?_) ?_
   ·let v_0:AV:=.sl false (a0.events.map E_GEvent)
    let v_1:AV:=.i (a0.events.length:Int)
    let b_0:Blk:=.cells 3 [E_GPiece a0]
    refine wLc 1 [] cj0 hll1x 1 (fun (l1_23:Int)=>(zipE [1,21,22,23] [.mp 0 0 0,v_0,v_1,.i l1_23])) (fun (l1_23:Int)=>⟨[(0,b_0)],1⟩) r0 (fun l1_23=>idok (.k (.mp rfl rfl) (.k (.c (cleanMap _ _ cl_GEvent)) (.k (.c rfl) (.k (.c rfl) .z)))) (.k rfl (.cells (.k (.c (cl_GPiece a0)) .z)) .z)) ?_
    rintro l1_23 out hl1 rl1 Kl1
    rcases iteE hl1 with ⟨hc4,hl1⟩ | ⟨hc4,hl1⟩
    ·obtain ⟨y5,hy5,hl1⟩:=bindE hl1
     obtain ⟨j2_41,hj2,hl1⟩:=bindE hl1
     refine W 9 [.t,.r [{},{ k:=1,x:=E_GEvent y5 }]] (cjC hc4 (cjC ((ixE hy5).1) (cj1 (mapGet E_GEvent (ixE hy5).2)))) ?_
     let s_0:St:=⟨[(1,.cells 6 [E_GEvent y5]),(0,b_0)],2⟩
     refine wG (fun (j2_41:Bool)=>(zipE [1,4,5,21,22,23,41] [.mp 0 0 0,.i l1_23,.mp 1 0 0,v_0,v_1,.i l1_23,.bool j2_41])) (fun (j2_41:Bool)=>s_0) (fun j=>j2_41 = j) (fun kj2=>?_) ?_
     ·obtain ⟨r6,hr6,hj2⟩:=bindE hj2
      rcases iteE hj2 with ⟨hc7,hj2⟩ | ⟨hc7,hj2⟩
      ·replace hj2:=Option.some.inj hj2; subst hj2
       exact wX 1 [.r [{},{},{ k:=7,x:=.bool r6 },{},{},{ g:=false },{ g:=false },{ g:=false },{},{},{},{},{ g:=false },{ k:=1,b:=true }]] (cjC (f145_ok y5.sign _ hr6) (cjC hc7 (cjC hc7 (cjC hc7 (cjC hc7 (cj1 hc7)))))) (kj2 true rfl)
      ·rcases iteE hj2 with ⟨hc8,hj2⟩ | ⟨hc8,hj2⟩
       ·replace hj2:=Option.some.inj hj2; subst hj2
        exact wX 1 [.r [{},{},{ k:=7,x:=.bool r6 },{},{},{},{},{},{},{},{},{},{ k:=1,b:=true },{ k:=1,b:=false }]] (cjC (f145_ok y5.sign _ hr6) (cjC hc7 (cjC hc7 (cjC hc7 (cjC hc8 (cjC hc8 (cjC hc8 (cjC hc8 (cjC hc7 (cjC hc8 (cj1 hc7))))))))))) (kj2 (eq_GSign y5.sign (⟨0,false,false⟩:GSign)) rfl)
       ·replace hj2:=Option.some.inj hj2; subst hj2
        exact wX 1 [.r [{},{},{ k:=7,x:=.bool r6 },{},{},{},{},{},{ g:=false },{ g:=false },{ g:=false },{ g:=false },{ k:=1,b:=false },{ k:=1,b:=false }]] (cjC (f145_ok y5.sign _ hr6) (cjC hc7 (cjC hc7 (cjC hc7 (cjC hc8 (cjC hc8 (cjC hc8 (cjC hc8 (cjC hc7 (cjC hc8 (cj1 hc7))))))))))) (kj2 false rfl)
     ·rintro _ rfl
      rcases iteE hl1 with ⟨hc9,hl1⟩ | ⟨hc9,hl1⟩
      ·replace hl1:=Option.some.inj hl1; subst hl1
       have hr:=rl1 _ rfl
       subst hr
       replace h:=elimR h
       replace h:=Option.some.inj h; subst h
       exact wR 9 [.t] (cjC hc9 (cj1 (Kl1.o _ rfl)))
      ·obtain ⟨j3_53,hj3,hl1⟩:=bindE hl1
       refine W 4 [.f] (cj1 hc9) ?_
       refine wG (fun (j3_53:Bool)=>(zipE [1,4,5,21,22,23,53] [.mp 0 0 0,.i l1_23,.mp 1 0 0,v_0,v_1,.i l1_23,.bool j3_53])) (fun (j3_53:Bool)=>s_0) (fun j=>j3_53 = j) (fun kj3=>?_) ?_
       ·rcases iteE hj3 with ⟨hc10,hj3⟩ | ⟨hc10,hj3⟩
        ·rcases iteE hj3 with ⟨hc11,hj3⟩ | ⟨hc11,hj3⟩
         ·replace hj3:=Option.some.inj hj3; subst hj3
          exact wX 1 [.r [{},{},{},{},{},{},{ g:=false },{ g:=false },{ g:=false },{ g:=false },{ k:=1,b:=true },{ k:=1,b:=true }]] (cjC hc10 (cjC hc10 (cjC hc10 (cjC hc11 (cjC hc11 (cjC hc11 (cjC hc11 (cjC hc10 (cjC hc11 (cj1 hc10)))))))))) (kj3 true rfl)
         ·replace hj3:=Option.some.inj hj3; subst hj3
          exact wX 1 [.r [{},{},{},{},{},{},{},{},{ k:=1,n:=y5.stops.length },{},{ k:=1,b:=false },{ k:=1,b:=true }]] (cjC hc10 (cjC hc10 (cjC hc10 (cjC hc11 (cjC hc11 (cjC hc11 (cjC (mapLen y5.stops E_GStop) (cjC hc11 (cjC hc10 (cjC hc11 (cj1 hc10))))))))))) (kj3 (decide (0 < (y5.stops.length:Int))) rfl)
        ·replace hj3:=Option.some.inj hj3; subst hj3
         exact wX 1 [.r [{},{},{},{ g:=false },{ g:=false },{ g:=false },{},{},{},{},{ g:=false },{ k:=1,b:=false }]] (cjC hc10 (cjC hc10 (cjC hc10 (cjC hc10 (cj1 hc10))))) (kj3 false rfl)
       ·rintro _ rfl
        rcases iteE hl1 with ⟨hc12,hl1⟩ | ⟨hc12,hl1⟩
        ·replace hl1:=Option.some.inj hl1; subst hl1
         have hr:=rl1 _ rfl
         subst hr
         replace h:=elimR h
         replace h:=Option.some.inj h; subst h
         exact wR 9 [.t] (cjC hc12 (cj1 (Kl1.o _ rfl)))
        ·obtain ⟨ol4x,hll4x,hl1⟩:=bindE hl1
         refine W 5 [.f,.n,.r [{},{},{ k:=1,n:=y5.stops.length }]] (cjC hc12 (cj1 (mapLen y5.stops E_GStop))) ?_
         refine wJ (fun (_:Unit)=>(zipE [1,21,22,23] [.mp 0 0 0,v_0,v_1,.i l1_23])) (fun (_:Unit)=>⟨[(0,b_0)],2⟩) (fun j=>ol4x = .inl j) (fun kl4=>?_) ?_
         ·refine wLc 1 [] cj0 hll4x 2 (fun ((l4_6,l4_57):(Int × Int))=>(zipE [1,4,6,21,22,23,55,56,57] [.mp 0 0 0,.i l1_23,.i l4_6,v_0,v_1,.i l1_23,.sl false (y5.stops.map E_GStop),.i (y5.stops.length:Int),.i l4_57])) (fun ((l4_6,l4_57):(Int × Int))=>⟨[(0,b_0)],2⟩) r0 (fun ⟨l4_6,l4_57⟩=>idok (.k (.mp rfl rfl) (.k (.c rfl) (.k (.c rfl) (.k (.c (cleanMap _ _ cl_GEvent)) (.k (.c rfl) (.k (.c rfl) (.k (.c (cleanMap _ _ cl_GStop)) (.k (.c rfl) (.k (.c rfl) .z))))))))) (.k rfl (.cells (.k (.c (cl_GPiece a0)) .z)) .z)) ?_
          rintro ⟨l4_6,l4_57⟩ out hl4 rl4 Kl4
          rcases iteE hl4 with ⟨hc13,hl4⟩ | ⟨hc13,hl4⟩
          ·obtain ⟨y14,hy14,hl4⟩:=bindE hl4
           obtain ⟨r15,hr15,hl4⟩:=bindE hl4
           refine W 11 [.t,.r [{ k:=1,x:=E_GStop y14 }],.r [{},{},{},{},{ k:=7,x:=.i r15 }]] (cjC hc13 (cjC ((ixE hy14).1) (cjC (mapGet E_GStop (ixE hy14).2) (cj1 (f146_ok a0 l1_23 y14 l4_6 _ hr15))))) ?_
           rcases iteE hl4 with ⟨hc16,hl4⟩ | ⟨hc16,hl4⟩
           ·replace hl4:=Option.some.inj hl4; subst hl4
            have hr:=rl4 _ rfl
            subst hr
            replace hl1:=elimR hl1
            replace hl1:=Option.some.inj hl1; subst hl1
            have hr:=rl1 _ rfl
            subst hr
            replace h:=elimR h
            replace h:=Option.some.inj h; subst h
            exact wR 13 [.t] (cjC hc16 (cjC (Kl4.o _ rfl) (cj1 (Kl1.o _ rfl))))
           ·replace hl4:=Option.some.inj hl4; subst hl4
            exact wD 7 [.f] (cj1 hc16) (fun _ _=>Kl4.d _ _ _ rfl)
          ·replace hl4:=Option.some.inj hl4; subst hl4
           have hr:=rl4 _ rfl
           subst hr
           exact wX 7 [.f] (cjC hc13 (cj1 (Kl4.o _ rfl))) (kl4 () rfl)
         ·rintro ⟨⟩ rfl
          replace hl1:=elimL hl1
          replace hl1:=Option.some.inj hl1; subst hl1
          exact wD 3 [] cj0 (fun _ _=>Kl1.d _ _ _ rfl)
    ·replace hl1:=Option.some.inj hl1; subst hl1
     have hr:=rl1 _ rfl
     subst hr
     exact wX 7 [.f] (cjC hc4 (cj1 (Kl1.o _ rfl))) (kl1 () rfl)
   ·rintro ⟨⟩ rfl
    replace h:=elimL h
    replace h:=Option.some.inj h; subst h
    exact wR 3 [] cj0
def f97 (a0:GPiece):Option Unit:=some ()
theorem f97_ok (a0:GPiece) (r:Unit) (h:f97 a0 = some r):ACalls Tryz.prog 97 [E_GPiece a0] ⟨[],0⟩ (fun y t=>y = .fn 147 [.mp 0 0 0] ∧ t = ⟨[(0,.cells 3 [E_GPiece a0])],1⟩):=by
 refine wf 4 [.tmp 2] (c97 0) ?_
 unfold f97 at h
 replace h:=Option.some.inj h; subst h
 exact wP 3 [] cj0 ⟨rfl,rfl⟩
def f147 (a0_e5:List Int) (a0_e15_0:GPiece):Option (List Int):=(loopN (σ:=(List Int × Int × Int)) (τ:=((List Int) ⊕ (List Int))) (fun ((l1_h1,l1_3,l1_10):(List Int × Int × Int))=>bif (decide (l1_10 < (a0_e15_0.events.length:Int))) then ((ix a0_e15_0.events l1_10).bind fun y2=>(((f129 y2.sign).bind fun r3=>bif (decide (0 < r3)) then (some r3) else (some l1_3)):Option Int).bind fun (j2_3:Int)=>(((ix l1_h1 l1_10).bind fun y6=>need (l1_h1.length + 1 ≤ maxElems) <| some (l1_h1 ++ [(wr (y6 + j2_3))]):Option (List Int))).bind fun r5=>some (.inl (r5,j2_3,(wr (l1_10 + 1))))) else (some (.inr (.inl l1_h1)))) FUEL (a0_e5,0,0)).bind (Sum.elim (fun (l1x_h1:(List Int))=>some l1x_h1) some)
theorem f147_ok (a0_e5:List Int) (a0_e15_0:GPiece) (r:(List Int)) (h:f147 a0_e5 a0_e15_0 = some r):ACalls Tryz.prog 147 [.yld 0,.mp 3 0 0] ⟨[(3,.cells 3 [E_GPiece a0_e15_0]),(2,.cells 1 (a0_e5.map AV.i)),(1,.cells 1 [.ms 2 0 a0_e5.length]),(0,.loop ⟨zipE [5,15] [.mp 1 0 0,.fn 147 [.mp 3 0 0]],28,[16,17],(c41 19),(c41 22),.ready,none⟩)],4⟩ (fun y t=>y = .tup [] ∧ t = ⟨[(4,.cells 1 (r.map AV.i)),(3,.cells 3 [E_GPiece a0_e15_0]),(1,.cells 1 [.ms 4 0 r.length]),(0,.loop ⟨zipE [5,15] [.mp 1 0 0,.fn 147 [.mp 3 0 0]],28,[16,17],(c41 19),(c41 22),.ready,none⟩)],5⟩):=by
 refine wf 27 [] (c147 0) ?_
 unfold f147 at h
 obtain ⟨ol1x,hll1x,h⟩:=bindE h
 refine W 2 [.n,.r [{},{},{ k:=1,n:=a0_e15_0.events.length }]] (cj1 (mapLen a0_e15_0.events E_GEvent)) ?_
 let w_0:AV:=.fn 147 [.mp 3 0 0]
 let b_0:Blk:=.cells 3 [E_GPiece a0_e15_0]
 refine wJ (fun (l1x_h1:(List Int))=>(zipE [] [])) (fun (l1x_h1:(List Int))=>⟨[(4,.cells 1 (l1x_h1.map AV.i)),(3,b_0),(1,.cells 1 [.ms 4 0 l1x_h1.length]),(0,.loop ⟨zipE [5,15] [.mp 1 0 0,w_0],28,[16,17],(c41 19),(c41 22),.ready,none⟩)],5⟩) (fun j=>ol1x = .inl j) (fun kl1=>?_) ?_
 ·let v_0:AV:=.sl false (a0_e15_0.events.map E_GEvent)
  let v_1:AV:=.i (a0_e15_0.events.length:Int)
  refine wLi 1 [] cj0 hll1x 4 (fun ((l1_h1,l1_3,l1_10):(List Int × Int × Int))=>(zipE [0,3,8,9,10] [.yld 0,.i l1_3,v_0,v_1,.i l1_10])) (fun ((l1_h1,l1_3,l1_10):(List Int × Int × Int))=>⟨[(4,.cells 1 (l1_h1.map AV.i)),(3,b_0),(1,.cells 1 [.ms 4 0 l1_h1.length]),(0,.loop ⟨zipE [5,15] [.mp 1 0 0,w_0],28,[16,17],(c41 19),(c41 22),.ready,none⟩)],5⟩) [0,3,8,9,10] [.yld 0,.i 0,v_0,v_1,.i 0] ⟨[(3,b_0),(2,.cells 1 (a0_e5.map AV.i)),(1,.cells 1 [.ms 2 0 a0_e5.length]),(0,.loop ⟨zipE [5,15] [.mp 1 0 0,w_0],28,[16,17],(c41 19),(c41 22),.ready,none⟩)],4⟩ (see_into r0 (mkInto (L:=[(4,2)]) (base:=4) (ks:=[0,3,8,9,10]) (ys:=[.yld 0,.i 0,v_0,v_1,.i 0]) (by kernel_rfl) (by kernel_rfl) (.k (.y rfl rfl) (.k (.c rfl) (.k (.c (cleanMap _ _ cl_GEvent)) (.k (.c rfl) (.k (.c rfl) .z))))) (.k rfl (.cells (.r (cleanMap _ _ cl_i))) (.k rfl (.cells (.k (.c (cl_GPiece a0_e15_0)) .z)) (.k rfl (.cells (.k (.ms rfl rfl) .z)) (.k rfl (.loop (ks:=[5,15]) (.k (.mp rfl rfl) (.k (.f (.k (.mp rfl rfl) .z)) .z))) .z)))))) ?_
  rintro ⟨l1_h1,l1_3,l1_10⟩ out hl1 rl1 Kl1
  rcases iteE hl1 with ⟨hc1,hl1⟩ | ⟨hc1,hl1⟩
  ·obtain ⟨y2,hy2,hl1⟩:=bindE hl1
   obtain ⟨j2_3,hj2,hl1⟩:=bindE hl1
   refine W 8 [.t,.r [{},{ k:=1,x:=E_GEvent y2 }]] (cjC hc1 (cjC ((ixE hy2).1) (cj1 (mapGet E_GEvent (ixE hy2).2)))) ?_
   let v_2:AV:=.ms 4 0 l1_h1.length
   let b_1:Blk:=.cells 1 (l1_h1.map AV.i)
   let s_0:St:=⟨[(4,b_1),(3,b_0),(1,.cells 1 [v_2]),(0,.loop ⟨zipE [5,15] [.mp 1 0 0,w_0],28,[16,17],(c41 19),(c41 22),.ready,none⟩)],6⟩
   refine wG (fun (j2_3:Int)=>(zipE [0,3,4,8,9,10] [.yld 0,.i j2_3,.i l1_10,v_0,v_1,.i l1_10])) (fun (j2_3:Int)=>s_0) (fun j=>j2_3 = j) (fun kj2=>?_) ?_
   ·obtain ⟨r3,hr3,hj2⟩:=bindE hj2
    refine W 3 [.r [{},{},{ k:=7,x:=.i r3 }]] (cj1 (f129_ok y2.sign _ hr3)) ?_
    rcases iteE hj2 with ⟨hc4,hj2⟩ | ⟨hc4,hj2⟩
    ·replace hj2:=Option.some.inj hj2; subst hj2
     exact wX 3 [.t] (cj1 hc4) (kj2 r3 rfl)
    ·replace hj2:=Option.some.inj hj2; subst hj2
     exact wX 3 [.f] (cj1 hc4) (kj2 l1_3 rfl)
   ·rintro _ rfl
    obtain ⟨r5,hr5,hl1⟩:=bindE hl1
    have hYr5:AYield Tryz.prog 0 [.i l1_10,.i j2_3] ⟨[(4,.cells 1 (l1_h1.map AV.i)),(3,.cells 3 [E_GPiece a0_e15_0]),(1,.cells 1 [.ms 4 0 l1_h1.length]),(0,.loop ⟨zipE [5,15] [.mp 1 0 0,.fn 147 [.mp 3 0 0]],28,[16,17],(c41 19),(c41 22),.ready,none⟩)],6⟩ (fun y t=>y = .bool true ∧ t = ⟨[(6,.cells 1 (r5.map AV.i)),(3,.cells 3 [E_GPiece a0_e15_0]),(1,.cells 1 [.ms 6 0 r5.length]),(0,.loop ⟨zipE [5,15] [.mp 1 0 0,.fn 147 [.mp 3 0 0]],28,[16,17],(c41 19),(c41 22),.ready,none⟩)],7⟩):=by
     refine run_y ⟨zipE [5,15] [.mp 1 0 0,w_0],28,[16,17],(c41 19),(c41 22),.ready,none⟩ (putParams [16,17] [.i l1_10,.i j2_3] (zipE [5,15] [.mp 1 0 0,w_0])) (by kernel_rfl) rfl (by kernel_rfl) ?_
     refine run1z (c41 21) [] [5,6,15,17] [.mp 1 0 0,.i l1_10,w_0,.i j2_3] s_0 _ (by kernel_rfl) cj0 ?_
     refine run0z [] [5,6,7,15] [.mp 1 0 0,.i l1_10,.i j2_3,w_0] s_0 _ (by kernel_rfl) cj0 ?_
     refine thenN ⟨⟨zipE [5,15] [.mp 1 0 0,w_0],28,[16,17],(c41 19),(c41 22),.ready,none⟩,by kernel_rfl,rfl,?_⟩
     refine awp_post (by intro i e; cases e <;> exact Nat.le_of_ble_eq_true rfl) ?_
     refine run_b 1 (c41 23) (by kernel_rfl) ?_
     obtain ⟨y6,hy6,hr5⟩:=bindE hr5
     obtain ⟨hn7,hr5⟩:=needE hr5
     let b_2:Blk:=.cells 1 [.ms 6 0 (l1_h1 ++ [(wr (y6 + j2_3))]).length]
     let b_3:Blk:=.cells 1 ((l1_h1 ++ [(wr (y6 + j2_3))]).map AV.i)
     let s_1:St:=⟨[(6,b_3),(3,b_0),(1,b_2),(0,.loop ⟨zipE [5,15] [.mp 1 0 0,w_0],28,[16,17],(c41 19),(c41 22),.busy,none⟩)],7⟩
     refine yun0z [[],[],[],[1,2],[1,2,3],[],[1,2,3,4,5],[1,2,3,4,5,6],[0,1,2,3,4,5,6,7],[0,1,2,3,4,5,6,7,8]] [.light 0 false,.light 1 false,.light 2 false,.light 3 false,.light 4 false,.light 5 false,.light 6 false,.light 7 false,.heavy 8 [],.heavy 9 []] [{},{},{},{ k:=1,n:=l1_10.toNat },{ k:=1,x:=AV.i y6 },{},{},{},{ k:=1,n:=(l1_h1 ++ [(wr (y6 + j2_3))]).length,l:=(l1_h1 ++ [(wr (y6 + j2_3))]).map AV.i }] [5,15] [.mp 1 0 0,w_0] s_1 _ (by kernel_rfl) (cjC ((ixE hy6).1) (cjC (ixLt hy6) (cjC (Nat.zero_add l1_10.toNat) (cjC (mapGet AV.i (ixE hy6).2) (cjC (@List.cons_ne_nil AV (.i (wr (y6 + j2_3))) []) (cjC (mLe l1_h1 AV.i) (cjC (hn7) (cjC (lenA l1_h1 ([(wr (y6 + j2_3))]:List Int)) (cjC (appA l1_h1 ([(wr (y6 + j2_3))]:List Int) AV.i) (cj1 (fitsOne (P:=Tryz.prog) (t:=3) (x:=.i (wr (y6 + j2_3))) (r:=[]) (by kernel_rfl)))))))))))) ?_
     replace hr5:=Option.some.inj hr5; subst hr5
     refine inbN ?_
     exact ⟨7,pi [],zipE [] [],s_1,Nat.le_of_ble_eq_true rfl,mkInto (ks:=[]) (ys:=[]) (by kernel_rfl) (by kernel_rfl) .z (.k (x':=b_3) (by kernel_rfl) (.cells (.r (cleanMap _ _ cl_i))) (.k rfl (.cells (.k (.c (cl_GPiece a0_e15_0)) .z)) (.k rfl (.cells (.k (.ms rfl rfl) .z)) (.k rfl (.loop (ks:=[5,15]) (.k (.mp rfl rfl) (.k (.f (.k (.mp rfl rfl) .z)) .z))) .z)))),⟨zipE [5,15] [.mp 1 0 0,w_0],28,[16,17],(c41 19),(c41 22),.busy,none⟩,by kernel_rfl,rfl,by kernel_rfl⟩
    replace hl1:=Option.some.inj hl1; subst hl1
    let s_2:St:=⟨[(6,.cells 1 (r5.map AV.i)),(3,b_0),(1,.cells 1 [.ms 6 0 r5.length]),(0,.loop ⟨zipE [5,15] [.mp 1 0 0,w_0],28,[16,17],(c41 19),(c41 22),.ready,none⟩)],7⟩
    exact wN 6 [.r [{},{},{},{ c:=some (.bool true,s_2) }],.f] (cjC hYr5 (cj1 (Eq.refl false))) [0,3,8,9,10] [.yld 0,.i j2_3,v_0,v_1,.i (wr (l1_10 + 1))] s_2 Kl1 rfl (see_into r0 (mkInto (L:=[(4,6)]) (ks:=[0,3,8,9,10]) (ys:=[.yld 0,.i j2_3,v_0,v_1,.i (wr (l1_10 + 1))]) (by kernel_rfl) (by kernel_rfl) (.k (.y rfl rfl) (.k (.c rfl) (.k (.c (cleanMap _ _ cl_GEvent)) (.k (.c rfl) (.k (.c rfl) .z))))) (.k rfl (.cells (.r (cleanMap _ _ cl_i))) (.k rfl (.cells (.k (.c (cl_GPiece a0_e15_0)) .z)) (.k rfl (.cells (.k (.ms rfl rfl) .z)) (.k rfl (.loop (ks:=[5,15]) (.k (.mp rfl rfl) (.k (.f (.k (.mp rfl rfl) .z)) .z))) .z))))))
  ·replace hl1:=Option.some.inj hl1; subst hl1
   have hr:=rl1 _ rfl
   subst hr
   exact wX 7 [.f] (cjC hc1 (cj1 (Kl1.o _ rfl))) (kl1 l1_h1 rfl)
 ·rintro l1x_h1 rfl
  replace h:=elimL h
  replace h:=Option.some.inj h; subst h
  exact wP 0 [] cj0 ⟨rfl,rfl⟩
def f41 (a0:GPiece):Option (((List Int)) × Int):=(f96 a0).bind fun r1=>bif (decide (r1 ≠ 0)) then (some (([]:List Int),r1)) else ((f97 a0).bind fun r3=>(f147 ([0]:List Int) a0).bind fun r4=>some (r4,0))
theorem f41_ok (a0:GPiece) (r:(((List Int)) × Int)) (h:f41 a0 = some r):APure Tryz.prog 41 [E_GPiece a0] (.tup [.sl false (r.1.map AV.i),.i r.2]):=by
 refine apure (clK (cl_GPiece a0) clZ) (clK (cleanMap r.1 _ cl_i) (clK rfl clZ)) ?_
 refine run_f 28 [.tmp 2,.tmp 3] (c41 0) (zipE [0] [E_GPiece a0]) (by kernel_rfl) (by kernel_rfl) (by kernel_rfl) rfl ?_
 unfold f41 at h
 let b_0:Blk:=.cells 3 [E_GPiece a0]
 refine run1z (c41 2) [] [1] [.mp 0 0 0] ⟨[(0,b_0)],1⟩ _ (by kernel_rfl) cj0 ?_
 refine run_s (c41 3) (c41 12) (by kernel_rfl) ?_
 obtain ⟨r1,hr1,h⟩:=bindE h
 refine run1z (c41 5) [{},{ c:=some (.i r1,⟨[(0,b_0)],1⟩) }] [1,4] [.mp 0 0 0,.i r1] ⟨[(0,b_0)],1⟩ _ (by kernel_rfl) (cj1 (f96_ok a0 _ hr1 ⟨[(0,b_0)],1⟩)) ?_
 refine run1z (c41 7) [] [1,4,11] [.mp 0 0 0,.i r1,.bool (decide (r1 ≠ 0))] ⟨[(0,b_0)],1⟩ _ (by kernel_rfl) cj0 ?_
 rcases iteE h with ⟨hc2,h⟩ | ⟨hc2,h⟩
 ·refine run_cT 11 (c41 8) (c41 11) (decide (r1 ≠ 0)) hc2 (by kernel_rfl) (by kernel_rfl) ?_
  refine run1z (c41 10) [] [2,3] [.sl true [],.i r1] ⟨[],1⟩ _ (by kernel_rfl) cj0 ?_
  refine run_i 1 [] [2,3] [.sl true [],.i r1] (xs:=[.sl false (([]:List Int).map AV.i),.i r1]) (S2:=⟨[],1⟩) ?_ (by intro i e; cases e <;> exact Nat.le_of_ble_eq_true rfl) (by kernel_rfl) (by kernel_rfl) (by kernel_rfl) (.k (.s (cleanMap (([]:List Int)) _ cl_i)) (.k (.c rfl) .z)) .z
  refine run_t (by kernel_rfl) ?_
  refine thenR ?_
  replace h:=Option.some.inj h; subst h
  exact fin_r (by kernel_rfl) rfl
 ·refine run_cF 11 (c41 8) (c41 11) (decide (r1 ≠ 0)) hc2 (by kernel_rfl) (by kernel_rfl) ?_
  refine run_k (by kernel_rfl) ?_
  refine thenN ?_
  let b_1:Blk:=.cells 1 [.ms 1 0 ([0]:List Int).length]
  let b_2:Blk:=.cells 1 (([0]:List Int).map AV.i)
  let s_0:St:=⟨[(2,b_1),(1,b_2),(0,b_0)],3⟩
  refine run1z (c41 14) [{ k:=3,n:=([0]:List Int).length,l:=([0]:List Int).map AV.i }] [1,5] [.mp 0 0 0,.mp 2 0 0] s_0 _ (by kernel_rfl) (cjC (@Eq.refl (List AV) (([0]:List Int).map AV.i)) (cj1 (@Eq.refl Nat (([0]:List Int).length)))) ?_
  refine run_s (c41 15) (c41 24) (by kernel_rfl) ?_
  obtain ⟨r3,hr3,h⟩:=bindE h
  let w_0:AV:=.fn 147 [.mp 3 0 0]
  let s_1:St:=⟨[(3,b_0),(2,b_1),(1,b_2),(0,b_0)],4⟩
  refine run1z (c41 17) [{},{ c:=some (w_0,s_1) }] [5,15] [.mp 2 0 0,w_0] ⟨[(3,b_0),(2,b_1),(1,b_2)],4⟩ _ (by kernel_rfl) (cj1 (callF (f97_ok a0 _ hr3) [] [(3,0)] [2,1,0] [E_GPiece a0] s_0 (w_0) s_1 (by kernel_rfl) (.k (.c (cl_GPiece a0)) .z) (.f (.k (.mp rfl rfl) .z)) .z (.d (x':=b_0) rfl (by kernel_rfl) (.cells (.k (.c (cl_GPiece a0)) .z)) (.f rfl (by kernel_rfl) (.f rfl (by kernel_rfl) (.f rfl (by kernel_rfl) .z)))))) ?_
  refine run_b 0 (c41 18) (by kernel_rfl) ?_
  obtain ⟨r4,hr4,h⟩:=bindE h
  let v_0:AV:=.ms 6 0 r4.length
  let b_3:Blk:=.cells 1 (r4.map AV.i)
  let s_2:St:=⟨[(6,b_3),(5,.loop ⟨zipE [5,15] [.mp 2 0 0,w_0],28,[16,17],(c41 19),(c41 22),.ready,none⟩),(3,b_0),(2,.cells 1 [v_0])],7⟩
  refine run_rf (g:=.tmp 15) (ps:=[16,17]) (assign:=(c41 19)) (body:=(c41 22)) (gf:=147) (caps:=[.mp 3 0 0]) (v:=.tup []) (s':=s_2) (by kernel_rfl) (by kernel_rfl) (by kernel_rfl) (callF (f147_ok ([0]:List Int) a0 _ hr4) [(0,5),(1,2),(2,1),(3,3)] [(6,4),(3,3),(2,1),(5,0)] [] [.yld 5,.mp 3 0 0] ⟨[(5,.loop ⟨zipE [5,15] [.mp 2 0 0,w_0],28,[16,17],(c41 19),(c41 22),.ready,none⟩),(3,b_0),(2,b_1),(1,b_2)],6⟩ (.tup []) s_2 (by kernel_rfl) (.k (.y rfl rfl) (.k (.mp rfl rfl) .z)) (.t .z) (.k rfl (.cells (.k (.c (cl_GPiece a0)) .z)) (.k rfl (.cells (.r (cleanMap _ _ cl_i))) (.k rfl (.cells (.k (.ms rfl rfl) .z)) (.k rfl (.loop (ks:=[5,15]) (.k (.mp rfl rfl) (.k (.f (.k (.mp rfl rfl) .z)) .z))) .z)))) (.d (x':=b_3) rfl (by kernel_rfl) (.cells (.r (cleanMap _ _ cl_i))) (.d (x':=.loop ⟨zipE [5,15] [.mp 1 0 0,w_0],28,[16,17],(c41 19),(c41 22),.ready,none⟩) rfl (by kernel_rfl) (.loop (ks:=[5,15]) (.k (.mp rfl rfl) (.k (.f (.k (.mp rfl rfl) .z)) .z))) (.d (x':=b_0) rfl (by kernel_rfl) (.cells (.k (.c (cl_GPiece a0)) .z)) (.d (x':=.cells 1 [.ms 4 0 r4.length]) rfl (by kernel_rfl) (.cells (.k (.ms rfl rfl) .z)) .z))))) ⟨zipE [5,15] [.mp 2 0 0,w_0],28,[16,17],(c41 19),(c41 22),.ready,none⟩ (by kernel_rfl) (by intro e; cases e) rfl ?_
  refine inbN ?_
  refine thenN ?_
  refine run1z (c41 26) [] [2,3] [v_0,.i 0] ⟨[(4,.dfr),(6,b_3)],7⟩ _ (by kernel_rfl) cj0 ?_
  refine run_z 6 1 (r4.map AV.i) [2,3] [v_0,.i 0] (xs:=[.sl false (r4.map AV.i),.i 0]) (S2:=⟨[(4,.dfr)],7⟩) ?_ (by kernel_rfl) (by kernel_rfl) (.k (.m (mLe r4 AV.i) (mapAll r4 AV.i)) (.k (.r _) .z)) (.k (x':=.dfr) rfl (by kernel_rfl) (.r _) .z) rfl rfl
  refine run_t (by kernel_rfl) ?_
  replace h:=Option.some.inj h; subst h
  exact fin_r (by kernel_rfl) rfl
def f79 (a0:List GPiece):Option (((List Int)) × Int):=bif (decide ((a0.length:Int) = 0)) then (some (([]:List Int),90)) else (bif (decide (6 < (a0.length:Int))) then (some (([]:List Int),2)) else ((loopN (σ:=(List Int × Int)) (τ:=((List Int) ⊕ (((List Int)) × Int))) (fun ((l1_2,l1_18):(List Int × Int))=>bif (decide (l1_18 < (a0.length:Int))) then ((ix a0 l1_18).bind fun y4=>(f41 y4).bind fun r5=>bif (decide (r5.2 ≠ 0)) then (some (.inr (.inr (([]:List Int),r5.2)))) else ((ix r5.1 (wr ((r5.1.length:Int) - 1))).bind fun y7=>need (l1_2.length + 1 ≤ maxElems) <| some (.inl ((l1_2 ++ [y7]),(wr (l1_18 + 1)))))) else (some (.inr (.inl l1_2)))) FUEL (([]:List Int),0)).bind (Sum.elim (fun (l1x_2:(List Int))=>some (l1x_2,0)) some)))
theorem f79_ok (a0:List GPiece) (r:(((List Int)) × Int)) (h:f79 a0 = some r):APure Tryz.prog 79 [.sl false (a0.map E_GPiece)] (.tup [.sl false (r.1.map AV.i),.i r.2]):=by
 refine apure (clK (cleanMap a0 _ cl_GPiece) clZ) (clK (cleanMap r.1 _ cl_i) (clK rfl clZ)) ?_
 refine wf 41 [.tmp 2,.tmp 3] (c79 0) ?_
 unfold f79 at h
 refine W 4 [.n,.r [{},{ k:=1,n:=a0.length }]] (cj1 (mapLen a0 E_GPiece)) ?_
 rcases iteE h with ⟨hc1,h⟩ | ⟨hc1,h⟩
 ·refine wT 2 [.t] (cj1 hc1) [2,3] [.sl true [],.i 90] ⟨[],0⟩ (wI 0 [] [2,3] [.sl true [],.i 90] (xs:=[.sl false (([]:List Int).map AV.i),.i 90]) (S2:=⟨[],0⟩) ?_ r0 (.k (.s (cleanMap (([]:List Int)) _ cl_i)) (.k (.c rfl) .z)) .z)
  replace h:=Option.some.inj h; subst h
  exact wR 3 [] cj0
 ·refine W 2 [.f,.r [{},{ k:=1,n:=a0.length }]] (cjC hc1 (cj1 (mapLen a0 E_GPiece))) ?_
  rcases iteE h with ⟨hc2,h⟩ | ⟨hc2,h⟩
  ·refine wT 2 [.t] (cj1 hc2) [2,3] [.sl true [],.i 2] ⟨[],0⟩ (wI 0 [] [2,3] [.sl true [],.i 2] (xs:=[.sl false (([]:List Int).map AV.i),.i 2]) (S2:=⟨[],0⟩) ?_ r0 (.k (.s (cleanMap (([]:List Int)) _ cl_i)) (.k (.c rfl) .z)) .z)
   replace h:=Option.some.inj h; subst h
   exact wR 3 [] cj0
  ·obtain ⟨ol1x,hll1x,h⟩:=bindE h
   refine W 6 [.f,.r [{},{ k:=1,n:=a0.length }]] (cjC hc2 (cj1 (mapLen a0 E_GPiece))) ?_
   refine wJ (fun (l1x_2:(List Int))=>(zipE [2] [.ms 0 0 l1x_2.length])) (fun (l1x_2:(List Int))=>⟨[(0,.cells 1 (l1x_2.map AV.i))],1⟩) (fun j=>ol1x = .inl j) (fun kl1=>?_) ?_
   ·let v_0:AV:=.sl false (a0.map E_GPiece)
    let v_1:AV:=.i (a0.length:Int)
    refine wLi 1 [] cj0 hll1x 0 (fun ((l1_2,l1_18):(List Int × Int))=>(zipE [2,16,17,18] [.ms 0 0 l1_2.length,v_0,v_1,.i l1_18])) (fun ((l1_2,l1_18):(List Int × Int))=>⟨[(0,.cells 1 (l1_2.map AV.i))],1⟩) [2,16,17,18] [.sl true [],v_0,v_1,.i 0] ⟨[],0⟩ (see_into r0 (mkInto (L:=[(0,1000000)]) (base:=0) (ks:=[2,16,17,18]) (ys:=[.sl true [],v_0,v_1,.i 0]) (by kernel_rfl) (by kernel_rfl) (.k (.n) (.k (.c (cleanMap _ _ cl_GPiece)) (.k (.c rfl) (.k (.c rfl) .z)))) (.n rfl rfl rfl .z))) ?_
    rintro ⟨l1_2,l1_18⟩ out hl1 rl1 Kl1
    rcases iteE hl1 with ⟨hc3,hl1⟩ | ⟨hc3,hl1⟩
    ·obtain ⟨y4,hy4,hl1⟩:=bindE hl1
     obtain ⟨r5,hr5,hl1⟩:=bindE hl1
     refine W 11 [.t,.r [{ k:=1,x:=E_GPiece y4 }],.r [{},{ k:=7,x:=.tup [.sl false (r5.1.map AV.i),.i r5.2] }]] (cjC hc3 (cjC ((ixE hy4).1) (cjC (mapGet E_GPiece (ixE hy4).2) (cj1 (f41_ok y4 _ hr5))))) ?_
     rcases iteE hl1 with ⟨hc6,hl1⟩ | ⟨hc6,hl1⟩
     ·replace hl1:=Option.some.inj hl1; subst hl1
      have hr:=rl1 _ rfl
      subst hr
      replace h:=elimR h
      refine wT 2 [.t] (cj1 hc6) [2,3] [.sl true [],.i r5.2] ⟨[],2⟩ (wI 2 [] [2,3] [.sl true [],.i r5.2] (xs:=[.sl false (([]:List Int).map AV.i),.i r5.2]) (S2:=⟨[],2⟩) ?_ r0 (.k (.s (cleanMap (([]:List Int)) _ cl_i)) (.k (.c rfl) .z)) .z)
      replace h:=Option.some.inj h; subst h
      exact wR 7 [] (cj1 (Kl1.o _ rfl))
     ·obtain ⟨y7,hy7,hl1⟩:=bindE hl1
      obtain ⟨hn8,hl1⟩:=needE hl1
      replace hl1:=Option.some.inj hl1; subst hl1
      exact wN 7 [.f,.r [{},{},{},{ k:=1,n:=r5.1.length },{},{ k:=1,x:=AV.i y7 },{},{},{ k:=1,n:=(l1_2 ++ [y7]).length,l:=(l1_2 ++ [y7]).map AV.i }]] (cjC hc6 (cjC (mapLen r5.1 AV.i) (cjC ((ixE hy7).1) (cjC (mapGet AV.i (ixE hy7).2) (cjC (@List.cons_ne_nil AV (.i y7) []) (cjC (mLe l1_2 AV.i) (cjC hn8 (cjC (lenA l1_2 ([y7]:List Int)) (cjC (appA l1_2 ([y7]:List Int) AV.i) (cj1 (fitsOne (P:=Tryz.prog) (t:=3) (x:=.i y7) (r:=[]) (by kernel_rfl)))))))))))) [2,16,17,18] [.ms 2 0 (l1_2 ++ [y7]).length,v_0,v_1,.i (wr (l1_18 + 1))] ⟨[(2,.cells 1 ((l1_2 ++ [y7]).map AV.i))],3⟩ Kl1 rfl (see_into r0 (mkInto (L:=[(0,2)]) (ks:=[2,16,17,18]) (ys:=[.ms 2 0 (l1_2 ++ [y7]).length,v_0,v_1,.i (wr (l1_18 + 1))]) (by kernel_rfl) (by kernel_rfl) (.k (.ms rfl rfl) (.k (.c (cleanMap _ _ cl_GPiece)) (.k (.c rfl) (.k (.c rfl) .z)))) (.k rfl (.cells (.r (cleanMap _ _ cl_i))) .z)))
    ·replace hl1:=Option.some.inj hl1; subst hl1
     have hr:=rl1 _ rfl
     subst hr
     exact wX 7 [.f] (cjC hc3 (cj1 (Kl1.o _ rfl))) (kl1 l1_2 rfl)
   ·rintro l1x_2 rfl
    replace h:=elimL h
    refine wT 2 [] cj0 [2,3] [.ms 0 0 l1x_2.length,.i 0] ⟨[(0,.cells 1 (l1x_2.map AV.i))],1⟩ (wZ 0 1 (l1x_2.map AV.i) [2,3] [.ms 0 0 l1x_2.length,.i 0] (xs:=[.sl false (l1x_2.map AV.i),.i 0]) (S2:=⟨[],1⟩) ?_ (.k (.m (mLe l1x_2 AV.i) (mapAll l1x_2 AV.i)) (.k (.r _) .z)) .z)
    replace h:=Option.some.inj h; subst h
    exact wR 1 [] cj0
def f113 (a0:List Int):Option Int:=((bif (decide ((a0.length:Int) < 1)) then (none) else (some ())):Option Unit).bind fun (_:Unit)=>(ix a0 0).bind fun y2=>(loopN (σ:=(Int × Int)) (τ:=Int) (fun ((l2_3,l2_4):(Int × Int))=>bif (decide (l2_4 < (a0.length:Int))) then ((ix a0 l2_4).bind fun y4=>some (.inl ((minI l2_3 y4),(wr (l2_4 + 1))))) else (some (.inr l2_3))) FUEL (y2,1)).bind fun (l2x_3:Int)=>some l2x_3
theorem f113_ok (a0:List Int) (r:Int) (h:f113 a0 = some r):APure Tryz.prog 113 [.sl false (a0.map AV.i)] (.i r):=by
 refine apure (clK (cleanMap a0 _ cl_i) clZ) rfl ?_
 refine wf 25 [.tmp 2] (c113 0) ?_
 unfold f113 at h
 obtain ⟨oj1,hj1,h⟩:=bindE h
 refine W 1 [] cj0 ?_
 refine wG (fun (_:Unit)=>(zipE [0] [.sl false (a0.map AV.i)])) (fun (_:Unit)=>⟨[],0⟩) (fun j=>oj1 = j) (fun kj1=>?_) ?_
 ·refine W 2 [.r [{},{ k:=1,n:=a0.length }]] (cj1 (mapLen a0 AV.i)) ?_
  rcases iteE hj1 with ⟨hc1,hj1⟩ | ⟨hc1,hj1⟩
  ·cases hj1
  ·replace hj1:=Option.some.inj hj1; subst hj1
   exact wX 3 [.f] (cj1 hc1) (kj1 () rfl)
 ·rintro ⟨⟩ rfl
  obtain ⟨y2,hy2,h⟩:=bindE h
  obtain ⟨l2x_3,hll2x,h⟩:=bindE h
  refine W 3 [.r [{},{ k:=1,x:=AV.i y2 }]] (cjC ((ixE hy2).1) (cj1 (mapGet AV.i (ixE hy2).2))) ?_
  refine wJ (fun (l2x_3:Int)=>(zipE [3] [.i l2x_3])) (fun (l2x_3:Int)=>⟨[],0⟩) (fun j=>l2x_3 = j) (fun kl2=>?_) ?_
  ·refine wL 1 [] cj0 hll2x 0 (fun ((l2_3,l2_4):(Int × Int))=>(zipE [0,3,4] [.sl false (a0.map AV.i),.i l2_3,.i l2_4])) (fun ((l2_3,l2_4):(Int × Int))=>⟨[],0⟩) ?_
   rintro ⟨l2_3,l2_4⟩ out hl2 rl2 Kl2
   refine W 2 [.r [{},{},{ k:=1,n:=a0.length }]] (cj1 (mapLen a0 AV.i)) ?_
   rcases iteE hl2 with ⟨hc3,hl2⟩ | ⟨hc3,hl2⟩
   ·obtain ⟨y4,hy4,hl2⟩:=bindE hl2
    replace hl2:=Option.some.inj hl2; subst hl2
    exact wX 9 [.t,.r [{},{},{},{ k:=1,x:=AV.i y4 }]] (cjC hc3 (cjC ((ixE hy4).1) (cj1 (mapGet AV.i (ixE hy4).2)))) (Kl2.n _ rfl)
   ·replace hl2:=Option.some.inj hl2; subst hl2
    have hr:=rl2 _ rfl
    subst hr
    exact wX 5 [.f] (cjC hc3 (cj1 (Kl2.o _ rfl))) (kl2 l2_3 rfl)
  ·rintro _ rfl
   replace h:=Option.some.inj h; subst h
   exact wR 3 [] cj0
def f80 (a0:List Int):Option Int:=((bif (decide ((a0.length:Int) < 1)) then (none) else (some ())):Option Unit).bind fun (_:Unit)=>(ix a0 0).bind fun y2=>(loopN (σ:=(Int × Int)) (τ:=Int) (fun ((l2_3,l2_4):(Int × Int))=>bif (decide (l2_4 < (a0.length:Int))) then ((ix a0 l2_4).bind fun y4=>some (.inl ((maxI l2_3 y4),(wr (l2_4 + 1))))) else (some (.inr l2_3))) FUEL (y2,1)).bind fun (l2x_3:Int)=>some l2x_3
theorem f80_ok (a0:List Int) (r:Int) (h:f80 a0 = some r):APure Tryz.prog 80 [.sl false (a0.map AV.i)] (.i r):=by
 refine apure (clK (cleanMap a0 _ cl_i) clZ) rfl ?_
 refine wf 25 [.tmp 2] (c80 0) ?_
 unfold f80 at h
 obtain ⟨oj1,hj1,h⟩:=bindE h
 refine W 1 [] cj0 ?_
 refine wG (fun (_:Unit)=>(zipE [0] [.sl false (a0.map AV.i)])) (fun (_:Unit)=>⟨[],0⟩) (fun j=>oj1 = j) (fun kj1=>?_) ?_
 ·refine W 2 [.r [{},{ k:=1,n:=a0.length }]] (cj1 (mapLen a0 AV.i)) ?_
  rcases iteE hj1 with ⟨hc1,hj1⟩ | ⟨hc1,hj1⟩
  ·cases hj1
  ·replace hj1:=Option.some.inj hj1; subst hj1
   exact wX 3 [.f] (cj1 hc1) (kj1 () rfl)
 ·rintro ⟨⟩ rfl
  obtain ⟨y2,hy2,h⟩:=bindE h
  obtain ⟨l2x_3,hll2x,h⟩:=bindE h
  refine W 3 [.r [{},{ k:=1,x:=AV.i y2 }]] (cjC ((ixE hy2).1) (cj1 (mapGet AV.i (ixE hy2).2))) ?_
  refine wJ (fun (l2x_3:Int)=>(zipE [3] [.i l2x_3])) (fun (l2x_3:Int)=>⟨[],0⟩) (fun j=>l2x_3 = j) (fun kl2=>?_) ?_
  ·refine wL 1 [] cj0 hll2x 0 (fun ((l2_3,l2_4):(Int × Int))=>(zipE [0,3,4] [.sl false (a0.map AV.i),.i l2_3,.i l2_4])) (fun ((l2_3,l2_4):(Int × Int))=>⟨[],0⟩) ?_
   rintro ⟨l2_3,l2_4⟩ out hl2 rl2 Kl2
   refine W 2 [.r [{},{},{ k:=1,n:=a0.length }]] (cj1 (mapLen a0 AV.i)) ?_
   rcases iteE hl2 with ⟨hc3,hl2⟩ | ⟨hc3,hl2⟩
   ·obtain ⟨y4,hy4,hl2⟩:=bindE hl2
    replace hl2:=Option.some.inj hl2; subst hl2
    exact wX 9 [.t,.r [{},{},{},{ k:=1,x:=AV.i y4 }]] (cjC hc3 (cjC ((ixE hy4).1) (cj1 (mapGet AV.i (ixE hy4).2)))) (Kl2.n _ rfl)
   ·replace hl2:=Option.some.inj hl2; subst hl2
    have hr:=rl2 _ rfl
    subst hr
    exact wX 5 [.f] (cjC hc3 (cj1 (Kl2.o _ rfl))) (kl2 l2_3 rfl)
  ·rintro _ rfl
   replace h:=Option.some.inj h; subst h
   exact wR 3 [] cj0
def f50 (a0:GConsort):Option (Int × Int):=(f79 a0.pieces).bind fun r1=>bif (decide (r1.2 ≠ 0)) then (some (0,r1.2)) else ((f113 r1.1).bind fun r3=>(f80 r1.1).bind fun r4=>bif (decide (r3 ≠ r4)) then (some (0,91)) else ((ix r1.1 0).bind fun y6=>some (y6,0)))
theorem f50_ok (a0:GConsort) (r:(Int × Int)) (h:f50 a0 = some r):APure Tryz.prog 50 [E_GConsort a0] (.tup [.i r.1,.i r.2]):=by
 refine apure (clK (cl_GConsort a0) clZ) (clK rfl (clK rfl clZ)) ?_
 refine wf 25 [.tmp 2,.tmp 3] (c50 0) ?_
 unfold f50 at h
 obtain ⟨r1,hr1,h⟩:=bindE h
 refine W 5 [.n,.r [{},{},{ k:=7,x:=.tup [.sl false (r1.1.map AV.i),.i r1.2] }]] (cj1 (f79_ok a0.pieces _ hr1)) ?_
 rcases iteE h with ⟨hc2,h⟩ | ⟨hc2,h⟩
 ·replace h:=Option.some.inj h; subst h
  exact wR 5 [.t] (cj1 hc2)
 ·obtain ⟨r3,hr3,h⟩:=bindE h
  obtain ⟨r4,hr4,h⟩:=bindE h
  refine W 2 [.f,.r [{},{ k:=7,x:=.i r3 },{},{ k:=7,x:=.i r4 }]] (cjC hc2 (cjC (f113_ok r1.1 _ hr3) (cj1 (f80_ok r1.1 _ hr4)))) ?_
  rcases iteE h with ⟨hc5,h⟩ | ⟨hc5,h⟩
  ·replace h:=Option.some.inj h; subst h
   exact wR 5 [.t] (cj1 hc5)
  ·obtain ⟨y6,hy6,h⟩:=bindE h
   replace h:=Option.some.inj h; subst h
   exact wR 6 [.f,.r [{},{ k:=1,x:=AV.i y6 }]] (cjC hc5 (cjC ((ixE hy6).1) (cj1 (mapGet AV.i (ixE hy6).2))))
def f30 (a0:GConsort):Option Int:=(f50 a0).bind fun r1=>some r1.2
theorem f30_ok (a0:GConsort) (r:Int) (h:f30 a0 = some r):APure Tryz.prog 30 [E_GConsort a0] (.i r):=by
 refine apure (clK (cl_GConsort a0) clZ) rfl ?_
 refine wf 11 [.tmp 2] (c30 0) ?_
 unfold f30 at h
 obtain ⟨r1,hr1,h⟩:=bindE h
 replace h:=Option.some.inj h; subst h
 exact wR 4 [.n,.r [{},{ k:=7,x:=.tup [.i r1.1,.i r1.2] }]] (cj1 (f50_ok a0 _ hr1))
def f107 (a0:Int):Option Int:=bif (decide (a0 = 0)) then (some 90) else (bif (decide (6 < a0)) then (some 2) else (some 0))
def f108 (a0:GInstrument):Option Int:=((bif (decide (14 < (a0.courses.length:Int))) then (some true) else (some (decide (18 < (a0.steps.length:Int))))):Option Bool).bind fun (j1_17:Bool)=>bif j1_17 then (some 2) else (bif (decide ((a0.courses.length:Int) = 0)) then (some 11) else ((loopN (σ:=(Int × Int)) (τ:=(Unit ⊕ Int)) (fun ((l2_3,l2_4):(Int × Int))=>bif (decide (l2_4 < (a0.steps.length:Int))) then ((((ix a0.steps l2_4).bind fun y5=>bif (decide (y5 ≤ l2_3)) then (some true) else (some (decide (127 < y5)))):Option Bool).bind fun (j3_43:Bool)=>bif j3_43 then (some (.inr (.inr 11))) else ((ix a0.steps l2_4).bind fun y8=>some (.inl (y8,(wr (l2_4 + 1)))))) else (some (.inr (.inl ())))) FUEL (0,0)).bind (Sum.elim (fun (_:Unit)=>(loopN (σ:=Int) (τ:=(Unit ⊕ Int)) (fun (l4_5:Int)=>bif (decide (l4_5 < (a0.courses.length:Int))) then ((ix a0.courses l4_5).bind fun y10=>((bif (decide (y10.frets < 0)) then (some true) else (some (decide ((a0.steps.length:Int) < y10.frets)))):Option Bool).bind fun (j5_71:Bool)=>bif j5_71 then (some (.inr (.inr 13))) else (((bif (decide (y10.pitch < 0)) then (some true) else (some (decide (127 < y10.pitch)))):Option Bool).bind fun (j6_79:Bool)=>bif j6_79 then (some (.inr (.inr 10))) else (((bif (decide (0 < y10.frets)) then ((ix a0.steps (wr (y10.frets - 1))).bind fun y16=>some (wr (y10.pitch + y16))) else (some y10.pitch)):Option Int).bind fun (j7_7:Int)=>((bif y10.octave then (some (wr (j7_7 + 12))) else (some j7_7)):Option Int).bind fun (j8_7:Int)=>bif (decide (127 < j8_7)) then (some (.inr (.inr 10))) else (some (.inl (wr (l4_5 + 1))))))) else (some (.inr (.inl ())))) FUEL 0).bind (Sum.elim (fun (_:Unit)=>some 0) some)) some)))
def f173 (a0:GSign):Option Bool:=bif (decide (a0.value = 0)) then (((bif (!a0.dot) then (some (!a0.three)) else (some false)):Option Bool).bind fun (j1_2:Bool)=>some j1_2) else (((bif (decide (1 ≤ a0.value)) then (bif (decide (a0.value ≤ 7)) then (bif a0.dot then (some (!a0.three)) else (some true)) else (some false)) else (some false)):Option Bool).bind fun (j2_2:Bool)=>some j2_2)
def f206 (a0:GEvent):Option Bool:=((bif (decide ((a0.stops.length:Int) = 0)) then (some (!a0.tie)) else (some false)):Option Bool).bind fun (j1_2:Bool)=>some j1_2
def f207 (a0:GEvent) (a1:Int):Option Bool:=(loopN (σ:=Int) (τ:=(Unit ⊕ Bool)) (fun (l1_5:Int)=>bif (decide (l1_5 < (a0.stops.length:Int))) then ((ix a0.stops l1_5).bind fun y2=>bif (decide (y2.course = a1)) then (some (.inr (.inr true))) else (some (.inl (wr (l1_5 + 1))))) else (some (.inr (.inl ())))) FUEL 0).bind (Sum.elim (fun (_:Unit)=>some false) some)
def f233 (a0:GPiece) (a1:Int) (a2:Int):Option Int:=((bif (decide (a1 < 0)) then (some true) else (some (decide ((a0.events.length:Int) ≤ a1)))):Option Bool).bind fun (j1_17:Bool)=>bif j1_17 then (some 0) else ((loopN (σ:=Int) (τ:=Int) (fun (l2_7:Int)=>((bif (decide (l2_7 < 15)) then (some (decide ((wr ((wr (a1 + l2_7)) + 1)) < (a0.events.length:Int)))) else (some false)):Option Bool).bind fun (j3_29:Bool)=>bif j3_29 then ((ix a0.events (wr ((wr (a1 + l2_7)) + 1))).bind fun y5=>(((f206 y5).bind fun r6=>bif r6 then (some true) else ((f207 y5 a2).bind fun r8=>some r8)):Option Bool).bind fun (j4_44:Bool)=>bif j4_44 then (some (.inr l2_7)) else (some (.inl (wr (l2_7 + 1))))) else (some (.inr l2_7))) FUEL 0).bind fun (l2x_7:Int)=>some l2x_7)
def f205 (a0:GPiece) (a1:Int):Option Int:=(ix a0.events a1).bind fun y1=>(((f173 y1.sign).bind fun r2=>bif (!r2) then (some true) else (bif (decide (a1 = 0)) then (some (decide (y1.sign.value = 0))) else (some false))):Option Bool).bind fun (j1_26:Bool)=>bif j1_26 then (some 20) else (((bif y1.tie then (bif (decide (0 < (y1.stops.length:Int))) then (some true) else (some (decide (a1 = 0)))) else (some false)):Option Bool).bind fun (j2_38:Bool)=>bif j2_38 then (some 21) else ((loopN (σ:=Int) (τ:=(Unit ⊕ Int)) (fun (l3_6:Int)=>bif (decide (l3_6 < (y1.stops.length:Int))) then ((ix y1.stops l3_6).bind fun y10=>((bif (decide (y10.course < 1)) then (some true) else (some (decide ((a0.instrument.courses.length:Int) < y10.course)))):Option Bool).bind fun (j4_62:Bool)=>bif j4_62 then (some (.inr (.inr 12))) else (((bif (decide (y10.fret < 0)) then (some true) else ((ix a0.instrument.courses (wr (y10.course - 1))).bind fun y14=>some (decide (y14.frets < y10.fret)))):Option Bool).bind fun (j5_79:Bool)=>bif j5_79 then (some (.inr (.inr 13))) else (((bif (decide (0 < l3_6)) then ((ix y1.stops (wr (l3_6 - 1))).bind fun y17=>some (decide (y10.course ≤ y17.course))) else (some false)):Option Bool).bind fun (j6_93:Bool)=>bif j6_93 then (some (.inr (.inr 22))) else (((bif (decide (y10.right < 0)) then (some true) else (bif (decide (3 < y10.right)) then (some true) else (bif (decide (y10.grace < 0)) then (some true) else (some (decide (4 < y10.grace)))))):Option Bool).bind fun (j7_111:Bool)=>bif j7_111 then (some (.inr (.inr 23))) else (((bif (decide (y10.hold < 0)) then (some true) else ((f233 a0 a1 y10.course).bind fun r24=>bif (decide (r24 < y10.hold)) then (some true) else (bif (decide (0 < y10.hold)) then (some (decide (y10.fret = 0))) else (some false)))):Option Bool).bind fun (j8_134:Bool)=>bif j8_134 then (some (.inr (.inr 24))) else (some (.inl (wr (l3_6 + 1))))))))) else (some (.inr (.inl ())))) FUEL 0).bind (Sum.elim (fun (_:Unit)=>some 0) some)))
def f174 (a0:GPiece):Option Int:=(f108 a0.instrument).bind fun r1=>bif (decide (r1 ≠ 0)) then (some r1) else (bif (decide (400 < (a0.events.length:Int))) then (some 2) else ((loopN (σ:=Int) (τ:=(Unit ⊕ Int)) (fun (l1_4:Int)=>bif (decide (l1_4 < (a0.events.length:Int))) then ((f205 a0 l1_4).bind fun r5=>bif (decide (r5 ≠ 0)) then (some (.inr (.inr r5))) else (some (.inl (wr (l1_4 + 1))))) else (some (.inr (.inl ())))) FUEL 0).bind (Sum.elim (fun (_:Unit)=>some 0) some)))
def f116 (a0:GPiece):Option ((List GSign)):=(loopN (σ:=(List GSign × GSign × Int)) (τ:=(List GSign)) (fun ((l1_3,l1_h1,l1_5):(List GSign × GSign × Int))=>bif (decide (l1_5 < (a0.events.length:Int))) then ((((ix a0.events l1_5).bind fun y2=>bif (decide (y2.sign.value ≠ 0)) then (some y2.sign) else (some l1_h1)):Option GSign).bind fun (j2_h1:GSign)=>need (l1_3.length + 1 ≤ maxElems) <| some (.inl ((l1_3 ++ [j2_h1]),j2_h1,(wr (l1_5 + 1))))) else (some (.inr l1_3))) FUEL (([]:List GSign),(⟨0,false,false⟩:GSign),0)).bind fun (l1x_3:(List GSign))=>some l1x_3
def f117 (a0:GSign):Option Int:=(((f173 a0).bind fun r1=>bif (!r1) then (some true) else (some (decide (a0.value = 0)))):Option Bool).bind fun (j1_12:Bool)=>bif j1_12 then (some 0) else ((loopN (σ:=(Int × Int)) (τ:=Int) (fun ((l2_3,l2_4):(Int × Int))=>bif (decide (l2_4 < a0.value)) then (some (.inl ((wr (Int.tdiv l2_3 2)),(wr (l2_4 + 1))))) else (some (.inr l2_3))) FUEL (384,1)).bind fun (l2x_3:Int)=>bif a0.dot then (some (wr ((wr (Int.tdiv l2x_3 2)) * 3))) else (bif a0.three then (some (wr ((wr (Int.tdiv l2x_3 3)) * 2))) else (some l2x_3)))
def f53 (a0:GPiece):Option ((List Int)):=(f116 a0).bind fun r1=>(loopN (σ:=(List Int × Int)) (τ:=(List Int)) (fun ((l1_3,l1_5):(List Int × Int))=>bif (decide (l1_5 < (r1.length:Int))) then ((ix l1_3 l1_5).bind fun y3=>(ix r1 l1_5).bind fun y4=>(f117 y4).bind fun r5=>need (l1_3.length + 1 ≤ maxElems) <| some (.inl ((l1_3 ++ [(wr (y3 + r5))]),(wr (l1_5 + 1))))) else (some (.inr l1_3))) FUEL (([0]:List Int),0)).bind fun (l1x_3:(List Int))=>some l1x_3
def f118 (a0:GPiece):Option (((List Int)) × Int):=(f174 a0).bind fun r1=>bif (decide (r1 ≠ 0)) then (some (([]:List Int),r1)) else ((f53 a0).bind fun r3=>some (r3,0))
def f78 (a0:List GPiece):Option (((List Int)) × Int):=(f107 (a0.length:Int)).bind fun r1=>bif (decide (r1 ≠ 0)) then (some (([]:List Int),r1)) else ((loopN (σ:=(List Int × Int)) (τ:=((List Int) ⊕ (((List Int)) × Int))) (fun ((l1_5,l1_6):(List Int × Int))=>bif (decide (l1_6 < (a0.length:Int))) then ((ix a0 l1_6).bind fun y4=>(f118 y4).bind fun r5=>bif (decide (r5.2 ≠ 0)) then (some (.inr (.inr (([]:List Int),r5.2)))) else ((ix r5.1 (wr ((r5.1.length:Int) - 1))).bind fun y7=>need (l1_5.length + 1 ≤ maxElems) <| some (.inl ((l1_5 ++ [y7]),(wr (l1_6 + 1)))))) else (some (.inr (.inl l1_5)))) FUEL (([]:List Int),0)).bind (Sum.elim (fun (l1x_5:(List Int))=>some (l1x_5,0)) some))
def f31 (a0:GConsort):Option Int:=(f78 a0.pieces).bind fun r1=>(loopN (σ:=Int) (τ:=(Unit ⊕ Int)) (fun (l1_5:Int)=>bif (decide (l1_5 < (r1.1.length:Int))) then ((ix r1.1 l1_5).bind fun y3=>(ix r1.1 0).bind fun y4=>bif (decide (y3 ≠ y4)) then (some (.inr (.inr 91))) else (some (.inl (wr (l1_5 + 1))))) else (some (.inr (.inl ())))) FUEL 0).bind (Sum.elim (fun (_:Unit)=>some r1.2) some)
end Go.Proofs.YtodkhgjhodmeoaaGreat
