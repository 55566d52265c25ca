/-
 Functions of the program as Lean functions,and the walks. Written by a program of ours.
-/
import Derived.Test.YtpljabnngpnieaaAm31
import Derived.Test.YtpljabnngpnieaaChecked
import Derived.Test.YtpljabnngpnieaaWk
namespace Go.Proofs.Ytpljabnngpnieaa
open Go Go.Am
set_option maxRecDepth 100000
set_option linter.all false
structure GCourse where
 pitch:Int
 frets:Int
 octave:Bool
 deriving DecidableEq
def E_GCourse (x:GCourse):AV:=.agg [.i x.pitch,.i x.frets,.bool x.octave]
theorem cl_GCourse (x:GCourse):(E_GCourse x).clean = true:=(clK rfl (clK rfl (clK rfl clZ)))
structure GInstrument where
 courses:(List GCourse)
 steps:(List Int)
 deriving DecidableEq
def E_GInstrument (x:GInstrument):AV:=.agg [.sl false (x.courses.map E_GCourse),.sl false (x.steps.map AV.i)]
theorem cl_GInstrument (x:GInstrument):(E_GInstrument x).clean = true:=(clK (cleanMap _ _ cl_GCourse) (clK (cleanMap _ _ cl_i) clZ))
structure GSign where
 value:Int
 dot:Bool
 three:Bool
 deriving DecidableEq
def E_GSign (x:GSign):AV:=.agg [.i x.value,.bool x.dot,.bool x.three]
theorem cl_GSign (x:GSign):(E_GSign x).clean = true:=(clK rfl (clK rfl (clK rfl clZ)))
def eq_GSign (x y:GSign):Bool:=((decide (x.value = y.value)) && ((x.dot == y.dot) && ((x.three == y.three) && true)))
structure GStop where
 course:Int
 fret:Int
 right:Int
 grace:Int
 hold:Int
 deriving DecidableEq
def E_GStop (x:GStop):AV:=.agg [.i x.course,.i x.fret,.i x.right,.i x.grace,.i x.hold]
theorem cl_GStop (x:GStop):(E_GStop x).clean = true:=(clK rfl (clK rfl (clK rfl (clK rfl (clK rfl clZ)))))
structure GEvent where
 bar:Bool
 sign:GSign
 tie:Bool
 stops:(List GStop)
 deriving DecidableEq
def E_GEvent (x:GEvent):AV:=.agg [.bool x.bar,.i x.sign.value,.bool x.sign.dot,.bool x.sign.three,.bool x.tie,.sl false (x.stops.map E_GStop)]
theorem cl_GEvent (x:GEvent):(E_GEvent x).clean = true:=(clK rfl (clK rfl (clK rfl (clK rfl (clK rfl (clK (cleanMap _ _ cl_GStop) clZ))))))
theorem sz_GEvent (x:GEvent):(E_GEvent x).cells.length = 6:=rfl
structure GPiece where
 instrument:GInstrument
 events:(List GEvent)
 deriving DecidableEq
def E_GPiece (x:GPiece):AV:=.agg [.sl false (x.instrument.courses.map E_GCourse),.sl false (x.instrument.steps.map AV.i),.sl false (x.events.map E_GEvent)]
theorem cl_GPiece (x:GPiece):(E_GPiece x).clean = true:=(clK (cleanMap _ _ cl_GCourse) (clK (cleanMap _ _ cl_i) (clK (cleanMap _ _ cl_GEvent) clZ)))
structure GSSounding where
 p:GPiece
 onsets:(List Int)
 deriving DecidableEq
def E_GSSounding (x:GSSounding):AV:=.agg [.sl false (x.p.instrument.courses.map E_GCourse),.sl false (x.p.instrument.steps.map AV.i),.sl false (x.p.events.map E_GEvent),.sl false (x.onsets.map AV.i)]
theorem cl_GSSounding (x:GSSounding):(E_GSSounding x).clean = true:=(clK (cleanMap _ _ cl_GCourse) (clK (cleanMap _ _ cl_i) (clK (cleanMap _ _ cl_GEvent) (clK (cleanMap _ _ cl_i) clZ))))
structure GSPress where
 event:Int
 course:Int
 fret:Int
 from_:Int
 to_:Int
 deriving DecidableEq
def E_GSPress (x:GSPress):AV:=.agg [.i x.event,.i x.course,.i x.fret,.i x.from_,.i x.to_]
theorem cl_GSPress (x:GSPress):(E_GSPress x).clean = true:=(clK rfl (clK rfl (clK rfl (clK rfl (clK rfl clZ)))))
structure GPlace where
 course:Int
 fret:Int
 deriving DecidableEq
def E_GPlace (x:GPlace):AV:=.agg [.i x.course,.i x.fret]
theorem cl_GPlace (x:GPlace):(E_GPlace x).clean = true:=(clK rfl (clK rfl clZ))
structure GConsort where
 pieces:(List GPiece)
 deriving DecidableEq
def E_GConsort (x:GConsort):AV:=.agg [.sl false (x.pieces.map E_GPiece)]
theorem cl_GConsort (x:GConsort):(E_GConsort x).clean = true:=(clK (cleanMap _ _ cl_GPiece) clZ)
structure GCDesk where
 notes:(List GNote)
 silent:Bool
 since:Int
 deriving DecidableEq
def E_GCDesk (x:GCDesk):AV:=.agg [.sl false (x.notes.map E_GNote),.bool x.silent,.i x.since]
theorem cl_GCDesk (x:GCDesk):(E_GCDesk x).clean = true:=(clK (cleanMap _ _ cl_GNote) (clK rfl (clK rfl clZ)))
structure GTake where
 desk:Int
 course:Int
 pitch:Int
 from_:Int
 to_:Int
 deriving DecidableEq
def E_GTake (x:GTake):AV:=.agg [.i x.desk,.i x.course,.i x.pitch,.i x.from_,.i x.to_]
theorem cl_GTake (x:GTake):(E_GTake x).clean = true:=(clK rfl (clK rfl (clK rfl (clK rfl (clK rfl clZ)))))
def eq_GTake (x y:GTake):Bool:=((decide (x.desk = y.desk)) && ((decide (x.course = y.course)) && ((decide (x.pitch = y.pitch)) && ((decide (x.from_ = y.from_)) && ((decide (x.to_ = y.to_)) && true)))))
structure GVoice where
 desk:Int
 course:Int
 pitch:Int
 deriving DecidableEq
def E_GVoice (x:GVoice):AV:=.agg [.i x.desk,.i x.course,.i x.pitch]
theorem cl_GVoice (x:GVoice):(E_GVoice x).clean = true:=(clK rfl (clK rfl (clK rfl clZ)))
theorem sz_GVoice (x:GVoice):(E_GVoice x).cells.length = 3:=rfl
def eq_GVoice (x y:GVoice):Bool:=((decide (x.desk = y.desk)) && ((decide (x.course = y.course)) && ((decide (x.pitch = y.pitch)) && true)))
structure GFrame where
 time:Int
 begin:(List GVoice)
 end_:(List GVoice)
 deriving DecidableEq
def E_GFrame (x:GFrame):AV:=.agg [.i x.time,.sl false (x.begin.map E_GVoice),.sl false (x.end_.map E_GVoice)]
theorem cl_GFrame (x:GFrame):(E_GFrame x).clean = true:=(clK rfl (clK (cleanMap _ _ cl_GVoice) (clK (cleanMap _ _ cl_GVoice) clZ)))
structure GCClock where
 ticks:Int
 deriving DecidableEq
structure GCShelf_live where
 l:(List GCLive)
 deriving DecidableEq
structure GCPlayer where
 clock:GCClock
 now:Int
 end_:Int
 waiting:Bool
 desks:(List GCDesk)
 from_:Int
 to_:Int
 times:Int
 sounding:GCShelf_live
 takes:(List GTake)
 deriving DecidableEq
structure GLaw09Call where
 what:Int
 a:Int
 b:Int
 c:Int
 deriving DecidableEq
def E_GLaw09Call (x:GLaw09Call):AV:=.agg [.i x.what,.i x.a,.i x.b,.i x.c]
theorem cl_GLaw09Call (x:GLaw09Call):(E_GLaw09Call x).clean = true:=(clK rfl (clK rfl (clK rfl (clK rfl clZ))))
noncomputable def c85 (k:Nat):Code:=nthC (subs (Try.f85.body.getD .skip)) k
noncomputable def c73 (k:Nat):Code:=nthC (subs (Try.f73.body.getD .skip)) k
noncomputable def c77 (k:Nat):Code:=nthC (subs (Try.f77.body.getD .skip)) k
noncomputable def c74 (k:Nat):Code:=nthC (subs (Try.f74.body.getD .skip)) k
noncomputable def c91 (k:Nat):Code:=nthC (subs (Try.f91.body.getD .skip)) k
noncomputable def c98 (k:Nat):Code:=nthC (subs (Try.f98.body.getD .skip)) k
noncomputable def c99 (k:Nat):Code:=nthC (subs (Try.f99.body.getD .skip)) k
noncomputable def c97 (k:Nat):Code:=nthC (subs (Try.f97.body.getD .skip)) k
noncomputable def c92 (k:Nat):Code:=nthC (subs (Try.f92.body.getD .skip)) k
noncomputable def c86 (k:Nat):Code:=nthC (subs (Try.f86.body.getD .skip)) k
noncomputable def c75 (k:Nat):Code:=nthC (subs (Try.f75.body.getD .skip)) k
noncomputable def c59 (k:Nat):Code:=nthC (subs (Try.f59.body.getD .skip)) k
noncomputable def c60 (k:Nat):Code:=nthC (subs (Try.f60.body.getD .skip)) k
noncomputable def c39 (k:Nat):Code:=nthC (subs (Try.f39.body.getD .skip)) k
noncomputable def c76 (k:Nat):Code:=nthC (subs (Try.f76.body.getD .skip)) k
noncomputable def c54 (k:Nat):Code:=nthC (subs (Try.f54.body.getD .skip)) k
noncomputable def c67 (k:Nat):Code:=nthC (subs (Try.f67.body.getD .skip)) k
noncomputable def c82 (k:Nat):Code:=nthC (subs (Try.f82.body.getD .skip)) k
noncomputable def c68 (k:Nat):Code:=nthC (subs (Try.f68.body.getD .skip)) k
noncomputable def c69 (k:Nat):Code:=nthC (subs (Try.f69.body.getD .skip)) k
noncomputable def c70 (k:Nat):Code:=nthC (subs (Try.f70.body.getD .skip)) k
noncomputable def c55 (k:Nat):Code:=nthC (subs (Try.f55.body.getD .skip)) k
noncomputable def c32 (k:Nat):Code:=nthC (subs (Try.f32.body.getD .skip)) k
noncomputable def c13 (k:Nat):Code:=nthC (subs (Try.f13.body.getD .skip)) k
noncomputable def c15 (k:Nat):Code:=nthC (subs (Try.f15.body.getD .skip)) k
noncomputable def c18 (k:Nat):Code:=nthC (subs (Try.f18.body.getD .skip)) k
noncomputable def c22 (k:Nat):Code:=nthC (subs (Try.f22.body.getD .skip)) k
noncomputable def c23 (k:Nat):Code:=nthC (subs (Try.f23.body.getD .skip)) k
noncomputable def c25 (k:Nat):Code:=nthC (subs (Try.f25.body.getD .skip)) k
noncomputable def c26 (k:Nat):Code:=nthC (subs (Try.f26.body.getD .skip)) k
noncomputable def c27 (k:Nat):Code:=nthC (subs (Try.f27.body.getD .skip)) k
noncomputable def c35 (k:Nat):Code:=nthC (subs (Try.f35.body.getD .skip)) k
noncomputable def c42 (k:Nat):Code:=nthC (subs (Try.f42.body.getD .skip)) k
noncomputable def c58 (k:Nat):Code:=nthC (subs (Try.f58.body.getD .skip)) k
def f85 (a0:GInstrument) (a1:GCourse):Option Int:=((bif (decide (0 < a1.frets)) then ((ix a0.steps (wr (a1.frets - 1))).bind fun y2=>some (wr (a1.pitch + y2))) else (some a1.pitch)):Option Int).bind fun (j1_5:Int)=>((bif a1.octave then (some (wr (j1_5 + 12))) else (some j1_5)):Option Int).bind fun (j2_5:Int)=>some j2_5
theorem f85_ok (a0:GInstrument) (a1:GCourse) (r:Int) (h:f85 a0 a1 = some r):APure Try.prog 85 [E_GInstrument a0,E_GCourse a1] (.i r):=by
 refine apure (clK (cl_GInstrument a0) (clK (cl_GCourse a1) clZ)) rfl ?_
 refine run_f 25 [.tmp 4] (c85 0) (zipE [0,1] [E_GInstrument a0,E_GCourse a1]) (by kernel_rfl) (by kernel_rfl) (by kernel_rfl) rfl ?_
 unfold f85 at h
 let b_0:Blk:=.cells 2 [E_GInstrument a0]
 let b_1:Blk:=.cells 3 [E_GCourse a1]
 let s_0:St:=⟨[(1,b_1),(0,b_0)],2⟩
 refine run1z (c85 2) [] [2,3] [.mp 0 0 0,.mp 1 0 0] s_0 _ (by kernel_rfl) cj0 ?_
 refine run1z (c85 4) [] [2,3,5] [.mp 0 0 0,.mp 1 0 0,.i a1.pitch] s_0 _ (by kernel_rfl) cj0 ?_
 obtain ⟨j1_5,hj1,h⟩:=bindE h
 refine run_jq (c85 5) (c85 10) (fun (j1_5:Int)=>(zipE [3,5] [.mp 1 0 0,.i j1_5])) (fun (j1_5:Int)=>⟨[(1,b_1)],2⟩) (fun j=>j1_5 = j) (by kernel_rfl) (fun kj1=>?_) ?_
 ·refine run1z (c85 7) [] [2,3,5,10] [.mp 0 0 0,.mp 1 0 0,.i a1.pitch,.bool (decide (0 < a1.frets))] s_0 _ (by kernel_rfl) cj0 ?_
  rcases iteE hj1 with ⟨hc1,hj1⟩ | ⟨hc1,hj1⟩
  ·refine run_cT 10 (c85 8) (c85 9) (decide (0 < a1.frets)) hc1 (by kernel_rfl) (by kernel_rfl) ?_
   obtain ⟨y2,hy2,hj1⟩:=bindE hj1
   refine run0z [{},{},{},{},{},{},{ k:=1,x:=AV.i y2 }] [3,5] [.mp 1 0 0,.i (wr (a1.pitch + y2))] ⟨[(1,b_1)],2⟩ _ (by kernel_rfl) (cjC ((ixE hy2).1) (cj1 (mapGet AV.i (ixE hy2).2))) ?_
   replace hj1:=Option.some.inj hj1; subst hj1
   refine thenN ?_
   exact kj1 (wr (a1.pitch + y2)) rfl
  ·refine run_cF 10 (c85 8) (c85 9) (decide (0 < a1.frets)) hc1 (by kernel_rfl) (by kernel_rfl) ?_
   replace hj1:=Option.some.inj hj1; subst hj1
   refine awp_p [3,5] [1] (zipE [3,5] [.mp 1 0 0,.i a1.pitch]) ⟨[(1,b_1)],2⟩ (by kernel_rfl) (?_)
   refine run_k (by kernel_rfl) ?_
   refine thenN ?_
   exact kj1 a1.pitch rfl
 ·rintro _ rfl
  obtain ⟨j2_5,hj2,h⟩:=bindE h
  refine run_jq (c85 11) (c85 16) (fun (j2_5:Int)=>(zipE [5] [.i j2_5])) (fun (j2_5:Int)=>⟨[],2⟩) (fun j=>j2_5 = j) (by kernel_rfl) (fun kj2=>?_) ?_
  ·refine run1z (c85 13) [] [5,21] [.i j1_5,.bool a1.octave] ⟨[],2⟩ _ (by kernel_rfl) cj0 ?_
   rcases iteE hj2 with ⟨hc3,hj2⟩ | ⟨hc3,hj2⟩
   ·refine run_cT 21 (c85 14) (c85 15) a1.octave hc3 (by kernel_rfl) (by kernel_rfl) ?_
    refine run0z [] [5] [.i (wr (j1_5 + 12))] ⟨[],2⟩ _ (by kernel_rfl) cj0 ?_
    replace hj2:=Option.some.inj hj2; subst hj2
    refine thenN ?_
    exact kj2 (wr (j1_5 + 12)) rfl
   ·refine run_cF 21 (c85 14) (c85 15) a1.octave hc3 (by kernel_rfl) (by kernel_rfl) ?_
    replace hj2:=Option.some.inj hj2; subst hj2
    refine awp_p [5] [] (zipE [5] [.i j1_5]) ⟨[],2⟩ (by kernel_rfl) (?_)
    refine run_k (by kernel_rfl) ?_
    refine thenN ?_
    exact kj2 j1_5 rfl
  ·rintro _ rfl
   refine run1z (c85 18) [] [4] [.i j2_5] ⟨[],2⟩ _ (by kernel_rfl) cj0 ?_
   refine run_t (by kernel_rfl) ?_
   replace h:=Option.some.inj h; subst h
   exact fin_r (by kernel_rfl) rfl
def f73 (a0:GInstrument):Option Int:=((bif (decide (14 < (a0.courses.length:Int))) then (some true) else (some (decide (18 < (a0.steps.length:Int))))):Option Bool).bind fun (j1_17:Bool)=>bif j1_17 then (some 2) else (bif (decide ((a0.courses.length:Int) = 0)) then (some 11) else ((loopN (σ:=(Int × Int)) (τ:=(Unit ⊕ Int)) (fun ((l2_3,l2_25):(Int × Int))=>bif (decide (l2_25 < (a0.steps.length:Int))) then ((ix a0.steps l2_25).bind fun y5=>((bif (decide (y5 ≤ l2_3)) then (some true) else (some (decide (127 < y5)))):Option Bool).bind fun (j3_35:Bool)=>bif j3_35 then (some (.inr (.inr 11))) else (some (.inl (y5,(wr (l2_25 + 1)))))) else (some (.inr (.inl ())))) FUEL (0,0)).bind (Sum.elim (fun (_:Unit)=>(loopN (σ:=Int) (τ:=(Unit ⊕ Int)) (fun (l4_41:Int)=>bif (decide (l4_41 < (a0.courses.length:Int))) then ((ix a0.courses l4_41).bind fun y9=>((bif (decide (y9.frets < 0)) then (some true) else (some (decide ((a0.steps.length:Int) < y9.frets)))):Option Bool).bind fun (j5_55:Bool)=>bif j5_55 then (some (.inr (.inr 13))) else (((bif (decide (y9.pitch < 0)) then (some true) else (bif (decide (127 < y9.pitch)) then (some true) else ((f85 a0 y9).bind fun r14=>some (decide (127 < r14))))):Option Bool).bind fun (j6_69:Bool)=>bif j6_69 then (some (.inr (.inr 10))) else (some (.inl (wr (l4_41 + 1)))))) else (some (.inr (.inl ())))) FUEL 0).bind (Sum.elim (fun (_:Unit)=>some 0) some)) some)))
theorem f73_ok (a0:GInstrument) (r:Int) (h:f73 a0 = some r):APure Try.prog 73 [E_GInstrument a0] (.i r):=by
 refine apure (clK (cl_GInstrument a0) clZ) rfl ?_
 refine run_f 71 [.tmp 2] (c73 0) (zipE [0] [E_GInstrument a0]) (by kernel_rfl) (by kernel_rfl) (by kernel_rfl) rfl ?_
 unfold f73 at h
 let b_0:Blk:=.cells 2 [E_GInstrument a0]
 refine run1z (c73 2) [] [1] [.mp 0 0 0] ⟨[(0,b_0)],1⟩ _ (by kernel_rfl) cj0 ?_
 refine run_s (c73 3) (c73 10) (by kernel_rfl) ?_
 obtain ⟨j1_17,hj1,h⟩:=bindE h
 refine run_gq (c73 5) (fun (j1_17:Bool)=>(zipE [1,17] [.mp 0 0 0,.bool j1_17])) (fun (j1_17:Bool)=>⟨[(0,b_0)],1⟩) (fun j=>j1_17 = j) (fun kj1=>?_) ?_
 ·rcases iteE hj1 with ⟨hc1,hj1⟩ | ⟨hc1,hj1⟩
  ·replace hj1:=Option.some.inj hj1; subst hj1
   exact run1z (c73 5) [{},{},{ k:=1,n:=a0.courses.length },{},{},{ g:=false },{ g:=false },{ g:=false },{ g:=false },{ k:=1,b:=true }] [1,17] [.mp 0 0 0,.bool true] ⟨[(0,b_0)],1⟩ _ (by kernel_rfl) (cjC (mapLen a0.courses E_GCourse) (cjC (hc1) (cjC (hc1) (cjC (hc1) (cjC (hc1) (cj1 (hc1))))))) (kj1 true rfl)
  ·replace hj1:=Option.some.inj hj1; subst hj1
   exact run1z (c73 5) [{},{},{ k:=1,n:=a0.courses.length },{},{},{},{},{ k:=1,n:=a0.steps.length },{},{ k:=1,b:=false }] [1,17] [.mp 0 0 0,.bool (decide (18 < (a0.steps.length:Int)))] ⟨[(0,b_0)],1⟩ _ (by kernel_rfl) (cjC (mapLen a0.courses E_GCourse) (cjC (hc1) (cjC (hc1) (cjC (hc1) (cjC (mapLen a0.steps AV.i) (cjC (hc1) (cj1 (hc1)))))))) (kj1 (decide (18 < (a0.steps.length:Int))) rfl)
 ·rintro _ rfl
  rcases iteE h with ⟨hc2,h⟩ | ⟨hc2,h⟩
  ·refine run_cT 17 (c73 6) (c73 9) j1_17 hc2 (by kernel_rfl) (by kernel_rfl) ?_
   refine run1z (c73 8) [] [2] [.i 2] ⟨[],1⟩ _ (by kernel_rfl) cj0 ?_
   refine run_t (by kernel_rfl) ?_
   refine thenR ?_
   replace h:=Option.some.inj h; subst h
   exact fin_r (by kernel_rfl) rfl
  ·refine run_cF 17 (c73 6) (c73 9) j1_17 hc2 (by kernel_rfl) (by kernel_rfl) ?_
   refine run_k (by kernel_rfl) ?_
   refine thenN ?_
   refine run_s (c73 11) (c73 18) (by kernel_rfl) ?_
   refine run1z (c73 13) [{},{},{ k:=1,n:=a0.courses.length }] [1,21] [.mp 0 0 0,.bool (decide ((a0.courses.length:Int) = 0))] ⟨[(0,b_0)],1⟩ _ (by kernel_rfl) (cj1 (mapLen a0.courses E_GCourse)) ?_
   rcases iteE h with ⟨hc3,h⟩ | ⟨hc3,h⟩
   ·refine run_cT 21 (c73 14) (c73 17) (decide ((a0.courses.length:Int) = 0)) hc3 (by kernel_rfl) (by kernel_rfl) ?_
    refine run1z (c73 16) [] [2] [.i 11] ⟨[],1⟩ _ (by kernel_rfl) cj0 ?_
    refine run_t (by kernel_rfl) ?_
    refine thenR ?_
    replace h:=Option.some.inj h; subst h
    exact fin_r (by kernel_rfl) rfl
   ·refine run_cF 21 (c73 14) (c73 17) (decide ((a0.courses.length:Int) = 0)) hc3 (by kernel_rfl) (by kernel_rfl) ?_
    refine run_k (by kernel_rfl) ?_
    refine thenN ?_
    refine run1z (c73 20) [] [1,3] [.mp 0 0 0,.i 0] ⟨[(0,b_0)],1⟩ _ (by kernel_rfl) cj0 ?_
    refine run_s (c73 21) (c73 45) (by kernel_rfl) ?_
    let v_0:AV:=.sl false (a0.steps.map AV.i)
    let v_1:AV:=.i (a0.steps.length:Int)
    refine run1z (c73 23) [{},{},{ k:=1,n:=a0.steps.length }] [1,3,23,24,25] [.mp 0 0 0,.i 0,v_0,v_1,.i 0] ⟨[(0,b_0)],1⟩ _ (by kernel_rfl) (cj1 (mapLen a0.steps AV.i)) ?_
    obtain ⟨ol2x,hll2x,h⟩:=bindE h
    refine run_tq (fun (_:Unit)=>(zipE [1] [.mp 0 0 0])) (fun (_:Unit)=>⟨[(0,b_0)],1⟩) (fun j=>ol2x = .inl j) (fun kl2=>?_) ?_
    ·refine run_b 0 (c73 24) (by kernel_rfl) ?_
     refine run_l (c73 25) _ hll2x (fun ((l2_3,l2_25):(Int × Int))=>(zipE [1,3,23,24,25] [.mp 0 0 0,.i l2_3,v_0,v_1,.i l2_25])) (fun ((l2_3,l2_25):(Int × Int))=>⟨[(0,b_0)],1⟩) [] (by intro i e; cases e <;> exact Nat.le_of_ble_eq_true rfl) (by kernel_rfl) (mkInto (ks:=[1,3,23,24,25]) (ys:=[.mp 0 0 0,.i 0,v_0,v_1,.i 0]) (by kernel_rfl) (by kernel_rfl) (.k (.mp rfl rfl) (.k (.c rfl) (.k (.c (cleanMap _ _ cl_i)) (.k (.c rfl) (.k (.c rfl) .z))))) (.k rfl (.cells (.k (.c (cl_GInstrument a0)) .z)) .z)) ?_
     rintro ⟨l2_3,l2_25⟩ out hl2 rl2
     refine run1z (c73 27) [] [1,3,23,24,25,26] [.mp 0 0 0,.i l2_3,v_0,v_1,.i l2_25,.bool (decide (l2_25 < (a0.steps.length:Int)))] ⟨[(0,b_0)],1⟩ _ (by kernel_rfl) cj0 ?_
     refine run_s (c73 28) (c73 31) (by kernel_rfl) ?_
     rcases iteE hl2 with ⟨hc4,hl2⟩ | ⟨hc4,hl2⟩
     ·refine run_cT 26 (c73 29) (c73 30) (decide (l2_25 < (a0.steps.length:Int))) hc4 (by kernel_rfl) (by kernel_rfl) ?_
      refine run_k (by kernel_rfl) ?_
      refine thenN ?_
      refine run_s (c73 32) (c73 44) (by kernel_rfl) ?_
      refine run_b 1 (c73 33) (by kernel_rfl) ?_
      obtain ⟨y5,hy5,hl2⟩:=bindE hl2
      refine run1z (c73 35) [{ k:=1,x:=AV.i y5 }] [1,3,5,23,24,25] [.mp 0 0 0,.i l2_3,.i y5,v_0,v_1,.i l2_25] ⟨[(0,b_0)],1⟩ _ (by kernel_rfl) (cjC ((ixE hy5).1) (cj1 (mapGet AV.i (ixE hy5).2))) ?_
      refine run_s (c73 36) (c73 43) (by kernel_rfl) ?_
      obtain ⟨j3_35,hj3,hl2⟩:=bindE hl2
      refine run_gq (c73 38) (fun (j3_35:Bool)=>(zipE [1,5,23,24,25,35] [.mp 0 0 0,.i y5,v_0,v_1,.i l2_25,.bool j3_35])) (fun (j3_35:Bool)=>⟨[(0,b_0)],1⟩) (fun j=>j3_35 = j) (fun kj3=>?_) ?_
      ·rcases iteE hj3 with ⟨hc6,hj3⟩ | ⟨hc6,hj3⟩
       ·replace hj3:=Option.some.inj hj3; subst hj3
        exact run1z (c73 38) [{},{},{},{},{ g:=false },{ g:=false },{ k:=1,b:=true }] [1,5,23,24,25,35] [.mp 0 0 0,.i y5,v_0,v_1,.i l2_25,.bool true] ⟨[(0,b_0)],1⟩ _ (by kernel_rfl) (cjC (hc6) (cjC (hc6) (cj1 (hc6)))) (kj3 true rfl)
       ·replace hj3:=Option.some.inj hj3; subst hj3
        exact run1z (c73 38) [{},{},{},{},{},{},{ k:=1,b:=false }] [1,5,23,24,25,35] [.mp 0 0 0,.i y5,v_0,v_1,.i l2_25,.bool (decide (127 < y5))] ⟨[(0,b_0)],1⟩ _ (by kernel_rfl) (cjC (hc6) (cjC (hc6) (cj1 (hc6)))) (kj3 (decide (127 < y5)) rfl)
      ·rintro _ rfl
       rcases iteE hl2 with ⟨hc7,hl2⟩ | ⟨hc7,hl2⟩
       ·refine run_cT 35 (c73 39) (c73 42) j3_35 hc7 (by kernel_rfl) (by kernel_rfl) ?_
        refine run1z (c73 41) [] [2] [.i 11] ⟨[],1⟩ _ (by kernel_rfl) cj0 ?_
        replace hl2:=Option.some.inj hl2; subst hl2
        have hr:=rl2 _ rfl
        subst hr
        replace h:=elimR h
        refine run_t (by kernel_rfl) ?_
        refine thenR ?_
        refine inbR ?_
        refine thenR ?_
        refine ⟨⟨_,rfl⟩,?_⟩
        refine inbR ?_
        refine thenR ?_
        replace h:=Option.some.inj h; subst h
        exact fin_r (by kernel_rfl) rfl
       ·refine run_cF 35 (c73 39) (c73 42) j3_35 hc7 (by kernel_rfl) (by kernel_rfl) ?_
        refine run_k (by kernel_rfl) ?_
        refine thenN ?_
        refine run0z [] [1,3,23,24,25] [.mp 0 0 0,.i y5,v_0,v_1,.i l2_25] ⟨[(0,b_0)],1⟩ _ (by kernel_rfl) cj0 ?_
        refine inbN ?_
        refine thenN ?_
        refine run0z [] [1,3,23,24,25] [.mp 0 0 0,.i y5,v_0,v_1,.i (wr (l2_25 + 1))] ⟨[(0,b_0)],1⟩ _ (by kernel_rfl) cj0 ?_
        replace hl2:=Option.some.inj hl2; subst hl2
        exact ⟨_,rfl,pi [],mkInto (ks:=[1,3,23,24,25]) (ys:=[.mp 0 0 0,.i y5,v_0,v_1,.i (wr (l2_25 + 1))]) (by kernel_rfl) (by kernel_rfl) (.k (.mp rfl rfl) (.k (.c rfl) (.k (.c (cleanMap _ _ cl_i)) (.k (.c rfl) (.k (.c rfl) .z))))) (.k rfl (.cells (.k (.c (cl_GInstrument a0)) .z)) .z)⟩
     ·refine run_cF 26 (c73 29) (c73 30) (decide (l2_25 < (a0.steps.length:Int))) hc4 (by kernel_rfl) (by kernel_rfl) ?_
      replace hl2:=Option.some.inj hl2; subst hl2
      have hr:=rl2 _ rfl
      subst hr
      refine awp_p [1] [0] (zipE [1] [.mp 0 0 0]) ⟨[(0,b_0)],1⟩ (by kernel_rfl) (?_)
      refine run_e 0 (by kernel_rfl) ?_
      refine thenE ?_
      refine ⟨⟨_,rfl⟩,?_⟩
      refine inbE ?_
      exact kl2 () rfl
    ·rintro ⟨⟩ rfl
     replace h:=elimL h
     refine thenN ?_
     refine run_s (c73 46) (c73 76) (by kernel_rfl) ?_
     let v_2:AV:=.sl false (a0.courses.map E_GCourse)
     let v_3:AV:=.i (a0.courses.length:Int)
     refine run1z (c73 48) [{},{},{ k:=1,n:=a0.courses.length }] [1,39,40,41] [.mp 0 0 0,v_2,v_3,.i 0] ⟨[(0,b_0)],1⟩ _ (by kernel_rfl) (cj1 (mapLen a0.courses E_GCourse)) ?_
     obtain ⟨ol4x,hll4x,h⟩:=bindE h
     refine run_tq (fun (_:Unit)=>(zipE [] [])) (fun (_:Unit)=>⟨[],1⟩) (fun j=>ol4x = .inl j) (fun kl4=>?_) ?_
     ·refine run_b 2 (c73 49) (by kernel_rfl) ?_
      refine run_l (c73 50) _ hll4x (fun (l4_41:Int)=>(zipE [1,39,40,41] [.mp 0 0 0,v_2,v_3,.i l4_41])) (fun (l4_41:Int)=>⟨[(0,b_0)],1⟩) [] (by intro i e; cases e <;> exact Nat.le_of_ble_eq_true rfl) (by kernel_rfl) (mkInto (ks:=[1,39,40,41]) (ys:=[.mp 0 0 0,v_2,v_3,.i 0]) (by kernel_rfl) (by kernel_rfl) (.k (.mp rfl rfl) (.k (.c (cleanMap _ _ cl_GCourse)) (.k (.c rfl) (.k (.c rfl) .z)))) (.k rfl (.cells (.k (.c (cl_GInstrument a0)) .z)) .z)) ?_
      rintro l4_41 out hl4 rl4
      refine run1z (c73 52) [] [1,39,40,41,42] [.mp 0 0 0,v_2,v_3,.i l4_41,.bool (decide (l4_41 < (a0.courses.length:Int)))] ⟨[(0,b_0)],1⟩ _ (by kernel_rfl) cj0 ?_
      refine run_s (c73 53) (c73 56) (by kernel_rfl) ?_
      rcases iteE hl4 with ⟨hc8,hl4⟩ | ⟨hc8,hl4⟩
      ·refine run_cT 42 (c73 54) (c73 55) (decide (l4_41 < (a0.courses.length:Int))) hc8 (by kernel_rfl) (by kernel_rfl) ?_
       refine run_k (by kernel_rfl) ?_
       refine thenN ?_
       refine run_s (c73 57) (c73 75) (by kernel_rfl) ?_
       refine run_b 3 (c73 58) (by kernel_rfl) ?_
       obtain ⟨y9,hy9,hl4⟩:=bindE hl4
       let b_1:Blk:=.cells 3 [E_GCourse y9]
       let s_0:St:=⟨[(1,b_1),(0,b_0)],2⟩
       refine run1z (c73 60) [{ k:=1,x:=E_GCourse y9 }] [1,7,39,40,41] [.mp 0 0 0,.mp 1 0 0,v_2,v_3,.i l4_41] s_0 _ (by kernel_rfl) (cjC ((ixE hy9).1) (cj1 (mapGet E_GCourse (ixE hy9).2))) ?_
       refine run_s (c73 61) (c73 68) (by kernel_rfl) ?_
       obtain ⟨j5_55,hj5,hl4⟩:=bindE hl4
       refine run_gq (c73 63) (fun (j5_55:Bool)=>(zipE [1,7,39,40,41,55] [.mp 0 0 0,.mp 1 0 0,v_2,v_3,.i l4_41,.bool j5_55])) (fun (j5_55:Bool)=>s_0) (fun j=>j5_55 = j) (fun kj5=>?_) ?_
       ·rcases iteE hj5 with ⟨hc10,hj5⟩ | ⟨hc10,hj5⟩
        ·replace hj5:=Option.some.inj hj5; subst hj5
         exact run1z (c73 63) [{},{},{},{},{ g:=false },{ g:=false },{ g:=false },{ g:=false },{ g:=false },{ g:=false },{ k:=1,b:=true }] [1,7,39,40,41,55] [.mp 0 0 0,.mp 1 0 0,v_2,v_3,.i l4_41,.bool true] s_0 _ (by kernel_rfl) (cjC (hc10) (cjC (hc10) (cjC (hc10) (cjC (hc10) (cjC (hc10) (cjC (hc10) (cj1 (hc10)))))))) (kj5 true rfl)
        ·replace hj5:=Option.some.inj hj5; subst hj5
         exact run1z (c73 63) [{},{},{},{},{},{},{},{},{ k:=1,n:=a0.steps.length },{},{ k:=1,b:=false }] [1,7,39,40,41,55] [.mp 0 0 0,.mp 1 0 0,v_2,v_3,.i l4_41,.bool (decide ((a0.steps.length:Int) < y9.frets))] s_0 _ (by kernel_rfl) (cjC (hc10) (cjC (hc10) (cjC (hc10) (cjC (hc10) (cjC (hc10) (cjC (mapLen a0.steps AV.i) (cjC (hc10) (cj1 (hc10))))))))) (kj5 (decide ((a0.steps.length:Int) < y9.frets)) rfl)
       ·rintro _ rfl
        rcases iteE hl4 with ⟨hc11,hl4⟩ | ⟨hc11,hl4⟩
        ·refine run_cT 55 (c73 64) (c73 67) j5_55 hc11 (by kernel_rfl) (by kernel_rfl) ?_
         refine run1z (c73 66) [] [2] [.i 13] ⟨[],2⟩ _ (by kernel_rfl) cj0 ?_
         replace hl4:=Option.some.inj hl4; subst hl4
         have hr:=rl4 _ rfl
         subst hr
         replace h:=elimR h
         refine run_t (by kernel_rfl) ?_
         refine thenR ?_
         refine inbR ?_
         refine thenR ?_
         refine ⟨⟨_,rfl⟩,?_⟩
         refine inbR ?_
         refine thenR ?_
         replace h:=Option.some.inj h; subst h
         exact fin_r (by kernel_rfl) rfl
        ·refine run_cF 55 (c73 64) (c73 67) j5_55 hc11 (by kernel_rfl) (by kernel_rfl) ?_
         refine run_k (by kernel_rfl) ?_
         refine thenN ?_
         obtain ⟨j6_69,hj6,hl4⟩:=bindE hl4
         refine run_gq (c73 70) (fun (j6_69:Bool)=>(zipE [1,39,40,41,69] [.mp 0 0 0,v_2,v_3,.i l4_41,.bool j6_69])) (fun (j6_69:Bool)=>⟨[(0,b_0)],2⟩) (fun j=>j6_69 = j) (fun kj6=>?_) ?_
         ·rcases iteE hj6 with ⟨hc12,hj6⟩ | ⟨hc12,hj6⟩
          ·replace hj6:=Option.some.inj hj6; subst hj6
           exact run1z (c73 70) [{},{},{},{},{ g:=false },{ g:=false },{ g:=false },{ k:=1,b:=true },{},{ g:=false },{ g:=false },{ g:=false },{ g:=false }] [1,39,40,41,69] [.mp 0 0 0,v_2,v_3,.i l4_41,.bool true] ⟨[(0,b_0)],2⟩ _ (by kernel_rfl) (cjC (hc12) (cjC (hc12) (cjC (hc12) (cjC (hc12) (cjC (Eq.refl true) (cjC (Eq.refl true) (cjC (Eq.refl true) (cj1 (Eq.refl true))))))))) (kj6 true rfl)
          ·rcases iteE hj6 with ⟨hc13,hj6⟩ | ⟨hc13,hj6⟩
           ·replace hj6:=Option.some.inj hj6; subst hj6
            exact run1z (c73 70) [{},{},{},{},{},{},{},{ k:=1,b:=false },{},{ g:=false },{ g:=false },{ g:=false },{ g:=false },{ k:=1,b:=true }] [1,39,40,41,69] [.mp 0 0 0,v_2,v_3,.i l4_41,.bool true] ⟨[(0,b_0)],2⟩ _ (by kernel_rfl) (cjC (hc12) (cjC (hc12) (cjC (hc12) (cjC (hc12) (cjC (hc13) (cjC (hc13) (cjC (hc13) (cjC (hc13) (cj1 (hc13)))))))))) (kj6 true rfl)
           ·obtain ⟨r14,hr14,hj6⟩:=bindE hj6
            replace hj6:=Option.some.inj hj6; subst hj6
            exact run1z (c73 70) [{},{},{},{},{},{},{},{ k:=1,b:=false },{},{},{},{ c:=some (.i r14,s_0) },{},{ k:=1,b:=false }] [1,39,40,41,69] [.mp 0 0 0,v_2,v_3,.i l4_41,.bool (decide (127 < r14))] ⟨[(0,b_0)],2⟩ _ (by kernel_rfl) (cjC (hc12) (cjC (hc12) (cjC (hc12) (cjC (hc12) (cjC (hc13) (cjC (hc13) (cjC (hc13) (cjC (f85_ok a0 y9 _ hr14 s_0) (cjC (hc13) (cj1 (hc13))))))))))) (kj6 (decide (127 < r14)) rfl)
         ·rintro _ rfl
          rcases iteE hl4 with ⟨hc15,hl4⟩ | ⟨hc15,hl4⟩
          ·refine run_cT 69 (c73 71) (c73 74) j6_69 hc15 (by kernel_rfl) (by kernel_rfl) ?_
           refine run1z (c73 73) [] [2] [.i 10] ⟨[],2⟩ _ (by kernel_rfl) cj0 ?_
           replace hl4:=Option.some.inj hl4; subst hl4
           have hr:=rl4 _ rfl
           subst hr
           replace h:=elimR h
           refine run_t (by kernel_rfl) ?_
           refine inbR ?_
           refine thenR ?_
           refine ⟨⟨_,rfl⟩,?_⟩
           refine inbR ?_
           refine thenR ?_
           replace h:=Option.some.inj h; subst h
           exact fin_r (by kernel_rfl) rfl
          ·refine run_cF 69 (c73 71) (c73 74) j6_69 hc15 (by kernel_rfl) (by kernel_rfl) ?_
           refine run_k (by kernel_rfl) ?_
           refine inbN ?_
           refine thenN ?_
           refine run0z [] [1,39,40,41] [.mp 0 0 0,v_2,v_3,.i (wr (l4_41 + 1))] ⟨[(0,b_0)],2⟩ _ (by kernel_rfl) cj0 ?_
           replace hl4:=Option.some.inj hl4; subst hl4
           exact ⟨_,rfl,pi [],mkInto (ks:=[1,39,40,41]) (ys:=[.mp 0 0 0,v_2,v_3,.i (wr (l4_41 + 1))]) (by kernel_rfl) (by kernel_rfl) (.k (.mp rfl rfl) (.k (.c (cleanMap _ _ cl_GCourse)) (.k (.c rfl) (.k (.c rfl) .z)))) (.k rfl (.cells (.k (.c (cl_GInstrument a0)) .z)) .z)⟩
      ·refine run_cF 42 (c73 54) (c73 55) (decide (l4_41 < (a0.courses.length:Int))) hc8 (by kernel_rfl) (by kernel_rfl) ?_
       replace hl4:=Option.some.inj hl4; subst hl4
       have hr:=rl4 _ rfl
       subst hr
       refine awp_p [] [] (zipE [] []) ⟨[],1⟩ (by kernel_rfl) (?_)
       refine run_e 2 (by kernel_rfl) ?_
       refine thenE ?_
       refine ⟨⟨_,rfl⟩,?_⟩
       refine inbE ?_
       exact kl4 () rfl
     ·rintro ⟨⟩ rfl
      replace h:=elimL h
      refine thenN ?_
      refine run1z (c73 78) [] [2] [.i 0] ⟨[],1⟩ _ (by kernel_rfl) cj0 ?_
      refine run_t (by kernel_rfl) ?_
      replace h:=Option.some.inj h; subst h
      exact fin_r (by kernel_rfl) rfl
def f77 (a0:GSign):Option Int:=((bif (decide (a0.value < 1)) then (some true) else (bif (decide (7 < a0.value)) then (some true) else (bif a0.dot then (some a0.three) else (some false)))):Option Bool).bind fun (j1_19:Bool)=>bif j1_19 then (some 0) else (need (0 ≤ (wr (a0.value - 1))) <| bif a0.dot then (some (wr ((wr (Int.tdiv (shrI 384 (wr (a0.value - 1))) 2)) * 3))) else (bif a0.three then (some (wr ((wr (Int.tdiv (shrI 384 (wr (a0.value - 1))) 3)) * 2))) else (some (shrI 384 (wr (a0.value - 1))))))
theorem f77_ok (a0:GSign) (r:Int) (h:f77 a0 = some r):APure Try.prog 77 [E_GSign a0] (.i r):=by
 refine apure (clK (cl_GSign a0) clZ) rfl ?_
 refine run_f 37 [.tmp 2] (c77 0) (zipE [0] [E_GSign a0]) (by kernel_rfl) (by kernel_rfl) (by kernel_rfl) rfl ?_
 unfold f77 at h
 let b_0:Blk:=.cells 3 [E_GSign a0]
 refine run1z (c77 2) [] [1] [.mp 0 0 0] ⟨[(0,b_0)],1⟩ _ (by kernel_rfl) cj0 ?_
 refine run_s (c77 3) (c77 10) (by kernel_rfl) ?_
 obtain ⟨j1_19,hj1,h⟩:=bindE h
 refine run_gq (c77 5) (fun (j1_19:Bool)=>(zipE [1,19] [.mp 0 0 0,.bool j1_19])) (fun (j1_19:Bool)=>⟨[(0,b_0)],1⟩) (fun j=>j1_19 = j) (fun kj1=>?_) ?_
 ·rcases iteE hj1 with ⟨hc1,hj1⟩ | ⟨hc1,hj1⟩
  ·replace hj1:=Option.some.inj hj1; subst hj1
   exact run1z (c77 5) [{},{},{},{},{ g:=false },{ g:=false },{ g:=false },{ k:=1,b:=true },{},{ g:=false },{ g:=false },{ g:=false },{},{},{ g:=false }] [1,19] [.mp 0 0 0,.bool true] ⟨[(0,b_0)],1⟩ _ (by kernel_rfl) (cjC (hc1) (cjC (hc1) (cjC (hc1) (cjC (hc1) (cjC (Eq.refl true) (cjC (Eq.refl true) (cjC (Eq.refl true) (cj1 (Eq.refl true))))))))) (kj1 true rfl)
  ·rcases iteE hj1 with ⟨hc2,hj1⟩ | ⟨hc2,hj1⟩
   ·replace hj1:=Option.some.inj hj1; subst hj1
    exact run1z (c77 5) [{},{},{},{},{},{},{},{ k:=1,b:=false },{},{ g:=false },{ g:=false },{ g:=false },{},{},{ g:=false },{ k:=1,b:=true }] [1,19] [.mp 0 0 0,.bool true] ⟨[(0,b_0)],1⟩ _ (by kernel_rfl) (cjC (hc1) (cjC (hc1) (cjC (hc1) (cjC (hc1) (cjC (hc2) (cjC (hc2) (cjC (hc2) (cjC (hc2) (cj1 (hc2)))))))))) (kj1 true rfl)
   ·rcases iteE hj1 with ⟨hc3,hj1⟩ | ⟨hc3,hj1⟩
    ·replace hj1:=Option.some.inj hj1; subst hj1
     exact run1z (c77 5) [{},{},{},{},{},{},{},{ k:=1,b:=false },{},{},{},{},{},{},{ k:=1,b:=true },{ k:=1,b:=false }] [1,19] [.mp 0 0 0,.bool a0.three] ⟨[(0,b_0)],1⟩ _ (by kernel_rfl) (cjC (hc1) (cjC (hc1) (cjC (hc1) (cjC (hc1) (cjC (hc2) (cjC (hc2) (cjC (hc2) (cjC (hc3) (cjC (hc3) (cjC (hc2) (cjC (hc3) (cj1 (hc2))))))))))))) (kj1 a0.three rfl)
    ·replace hj1:=Option.some.inj hj1; subst hj1
     exact run1z (c77 5) [{},{},{},{},{},{},{},{ k:=1,b:=false },{},{},{},{},{ g:=false },{ g:=false },{ k:=1,b:=false },{ k:=1,b:=false }] [1,19] [.mp 0 0 0,.bool false] ⟨[(0,b_0)],1⟩ _ (by kernel_rfl) (cjC (hc1) (cjC (hc1) (cjC (hc1) (cjC (hc1) (cjC (hc2) (cjC (hc2) (cjC (hc2) (cjC (hc3) (cjC (hc3) (cjC (hc2) (cjC (hc3) (cj1 (hc2))))))))))))) (kj1 false rfl)
 ·rintro _ rfl
  rcases iteE h with ⟨hc4,h⟩ | ⟨hc4,h⟩
  ·refine run_cT 19 (c77 6) (c77 9) j1_19 hc4 (by kernel_rfl) (by kernel_rfl) ?_
   refine run1z (c77 8) [] [2] [.i 0] ⟨[],1⟩ _ (by kernel_rfl) cj0 ?_
   refine run_t (by kernel_rfl) ?_
   refine thenR ?_
   replace h:=Option.some.inj h; subst h
   exact fin_r (by kernel_rfl) rfl
  ·refine run_cF 19 (c77 6) (c77 9) j1_19 hc4 (by kernel_rfl) (by kernel_rfl) ?_
   refine run_k (by kernel_rfl) ?_
   refine thenN ?_
   obtain ⟨hn5,h⟩:=needE h
   let v_0:AV:=.i (shrI 384 (wr (a0.value - 1)))
   refine run1z (c77 12) [{},{},{},{ k:=1 }] [1,3] [.mp 0 0 0,v_0] ⟨[(0,b_0)],1⟩ _ (by kernel_rfl) (cj1 (hn5)) ?_
   refine run_s (c77 13) (c77 27) (by kernel_rfl) ?_
   refine run_b 0 (c77 14) (by kernel_rfl) ?_
   refine run1z (c77 16) [] [1,3,24] [.mp 0 0 0,v_0,.bool a0.dot] ⟨[(0,b_0)],1⟩ _ (by kernel_rfl) cj0 ?_
   rcases iteE h with ⟨hc6,h⟩ | ⟨hc6,h⟩
   ·refine run_cT 24 (c77 17) (c77 20) a0.dot hc6 (by kernel_rfl) (by kernel_rfl) ?_
    refine run1z (c77 19) [{},{ k:=1 }] [2] [.i (wr ((wr (Int.tdiv (shrI 384 (wr (a0.value - 1))) 2)) * 3))] ⟨[],1⟩ _ (by kernel_rfl) (cj1 ((by decide:(2:Int) ≠ 0))) ?_
    refine run_t (by kernel_rfl) ?_
    refine inbR ?_
    refine thenR ?_
    replace h:=Option.some.inj h; subst h
    exact fin_r (by kernel_rfl) rfl
   ·refine run_cF 24 (c77 17) (c77 20) a0.dot hc6 (by kernel_rfl) (by kernel_rfl) ?_
    refine run1z (c77 22) [] [3,30] [v_0,.bool a0.three] ⟨[],1⟩ _ (by kernel_rfl) cj0 ?_
    rcases iteE h with ⟨hc7,h⟩ | ⟨hc7,h⟩
    ·refine run_cT 30 (c77 23) (c77 26) a0.three hc7 (by kernel_rfl) (by kernel_rfl) ?_
     refine run1z (c77 25) [{},{ k:=1 }] [2] [.i (wr ((wr (Int.tdiv (shrI 384 (wr (a0.value - 1))) 3)) * 2))] ⟨[],1⟩ _ (by kernel_rfl) (cj1 ((by decide:(3:Int) ≠ 0))) ?_
     refine run_t (by kernel_rfl) ?_
     refine inbR ?_
     refine thenR ?_
     replace h:=Option.some.inj h; subst h
     exact fin_r (by kernel_rfl) rfl
    ·refine run_cF 30 (c77 23) (c77 26) a0.three hc7 (by kernel_rfl) (by kernel_rfl) ?_
     refine run_k (by kernel_rfl) ?_
     refine inbN ?_
     refine thenN ?_
     refine run1z (c77 29) [] [2] [v_0] ⟨[],1⟩ _ (by kernel_rfl) cj0 ?_
     refine run_t (by kernel_rfl) ?_
     replace h:=Option.some.inj h; subst h
     exact fin_r (by kernel_rfl) rfl
def f74 (a0:GSign):Option Bool:=((bif (eq_GSign a0 (⟨0,false,false⟩:GSign)) then (some true) else ((f77 a0).bind fun r2=>some (decide (0 < r2)))):Option Bool).bind fun (j1_2:Bool)=>some j1_2
theorem f74_ok (a0:GSign) (r:Bool) (h:f74 a0 = some r):APure Try.prog 74 [E_GSign a0] (.bool r):=by
 refine apure (clK (cl_GSign a0) clZ) rfl ?_
 refine run_f 11 [.tmp 2] (c74 0) (zipE [0] [E_GSign a0]) (by kernel_rfl) (by kernel_rfl) (by kernel_rfl) rfl ?_
 unfold f74 at h
 let b_0:Blk:=.cells 3 [E_GSign a0]
 refine run1z (c74 2) [] [1] [.mp 0 0 0] ⟨[(0,b_0)],1⟩ _ (by kernel_rfl) cj0 ?_
 obtain ⟨j1_2,hj1,h⟩:=bindE h
 refine run_gq (c74 4) (fun (j1_2:Bool)=>(zipE [2] [.bool j1_2])) (fun (j1_2:Bool)=>⟨[],1⟩) (fun j=>j1_2 = j) (fun kj1=>?_) ?_
 ·rcases iteE hj1 with ⟨hc1,hj1⟩ | ⟨hc1,hj1⟩
  ·replace hj1:=Option.some.inj hj1; subst hj1
   exact run1z (c74 4) [{},{},{},{},{ g:=false },{ g:=false },{ g:=false },{ k:=1,b:=true }] [2] [.bool true] ⟨[],1⟩ _ (by kernel_rfl) (cjC (hc1) (cjC (hc1) (cjC (hc1) (cj1 (hc1))))) (kj1 true rfl)
  ·obtain ⟨r2,hr2,hj1⟩:=bindE hj1
   replace hj1:=Option.some.inj hj1; subst hj1
   exact run1z (c74 4) [{},{},{},{},{},{ c:=some (.i r2,⟨[(0,b_0)],1⟩) },{},{ k:=1,b:=false }] [2] [.bool (decide (0 < r2))] ⟨[],1⟩ _ (by kernel_rfl) (cjC (hc1) (cjC (hc1) (cjC (f77_ok a0 _ hr2 ⟨[(0,b_0)],1⟩) (cjC (hc1) (cj1 (hc1)))))) (kj1 (decide (0 < r2)) rfl)
 ·rintro _ rfl
  refine run_t (by kernel_rfl) ?_
  replace h:=Option.some.inj h; subst h
  exact fin_r (by kernel_rfl) rfl
def f91 (a0:GEvent):Option Bool:=((bif (decide ((a0.stops.length:Int) = 0)) then (some (!a0.tie)) else (some false)):Option Bool).bind fun (j1_2:Bool)=>some j1_2
theorem f91_ok (a0:GEvent) (r:Bool) (h:f91 a0 = some r):APure Try.prog 91 [E_GEvent a0] (.bool r):=by
 refine apure (clK (cl_GEvent a0) clZ) rfl ?_
 refine run_f 12 [.tmp 2] (c91 0) (zipE [0] [E_GEvent a0]) (by kernel_rfl) (by kernel_rfl) (by kernel_rfl) rfl ?_
 unfold f91 at h
 refine run1z (c91 2) [] [1] [.mp 0 0 0] ⟨[(0,.cells 6 [E_GEvent a0])],1⟩ _ (by kernel_rfl) cj0 ?_
 obtain ⟨j1_2,hj1,h⟩:=bindE h
 refine run_gq (c91 4) (fun (j1_2:Bool)=>(zipE [2] [.bool j1_2])) (fun (j1_2:Bool)=>⟨[],1⟩) (fun j=>j1_2 = j) (fun kj1=>?_) ?_
 ·rcases iteE hj1 with ⟨hc1,hj1⟩ | ⟨hc1,hj1⟩
  ·replace hj1:=Option.some.inj hj1; subst hj1
   exact run1z (c91 4) [{},{},{ k:=1,n:=a0.stops.length },{},{},{},{},{},{ k:=1,b:=true }] [2] [.bool (!a0.tie)] ⟨[],1⟩ _ (by kernel_rfl) (cjC (mapLen a0.stops E_GStop) (cjC (hc1) (cjC (hc1) (cjC (hc1) (cj1 (hc1)))))) (kj1 (!a0.tie) rfl)
  ·replace hj1:=Option.some.inj hj1; subst hj1
   exact run1z (c91 4) [{},{},{ k:=1,n:=a0.stops.length },{},{},{ g:=false },{ g:=false },{ g:=false },{ k:=1,b:=false }] [2] [.bool false] ⟨[],1⟩ _ (by kernel_rfl) (cjC (mapLen a0.stops E_GStop) (cjC (hc1) (cjC (hc1) (cjC (hc1) (cj1 (hc1)))))) (kj1 false rfl)
 ·rintro _ rfl
  refine run_t (by kernel_rfl) ?_
  replace h:=Option.some.inj h; subst h
  exact fin_r (by kernel_rfl) rfl
def f98 (a0:GStop) (a1:Int):Option Bool:=some (decide (a0.course = a1))
theorem f98_ok (a0:GStop) (a1:Int) (r:Bool) (h:f98 a0 a1 = some r):ACalls Try.prog 98 [E_GStop a0,.mp 0 0 0] ⟨[(0,.cells 1 [.i a1])],1⟩ (fun y t=>y = .bool r ∧ t = ⟨[(0,.cells 1 [.i a1])],2⟩):=by
 refine run_f 8 [.tmp 3] (c98 0) (zipE [0,1] [E_GStop a0,.mp 0 0 0]) (by kernel_rfl) (by kernel_rfl) (by kernel_rfl) rfl ?_
 unfold f98 at h
 let b_0:Blk:=.cells 1 [.i a1]
 refine run1z (c98 2) [] [1,2] [.mp 0 0 0,.mp 1 0 0] ⟨[(1,.cells 5 [E_GStop a0]),(0,b_0)],2⟩ _ (by kernel_rfl) cj0 ?_
 refine run1z (c98 4) [] [3] [.bool (decide (a0.course = a1))] ⟨[(0,b_0)],2⟩ _ (by kernel_rfl) cj0 ?_
 refine run_t (by kernel_rfl) ?_
 replace h:=Option.some.inj h; subst h
 exact fin_p [0] ⟨[(0,b_0)],2⟩ (by kernel_rfl) (by kernel_rfl) rfl ⟨rfl,rfl⟩
def f99 (a0:List GStop) (a1_0:Int):Option Int:=(loopN (σ:=Int) (τ:=(Unit ⊕ Int)) (fun (l1_8:Int)=>bif (decide (l1_8 < (a0.length:Int))) then ((ix a0 l1_8).bind fun y2=>(f98 y2 a1_0).bind fun r3=>bif r3 then (some (.inr (.inr l1_8))) else (some (.inl (wr (l1_8 + 1))))) else (some (.inr (.inl ())))) FUEL 0).bind (Sum.elim (fun (_:Unit)=>some (-1)) some)
theorem f99_ok (a0:List GStop) (a1_0:Int) (r:Int) (h:f99 a0 a1_0 = some r):ACalls Try.prog 99 [.sl false (a0.map E_GStop),.fn 98 [.mp 0 0 0]] ⟨[(0,.cells 1 [.i a1_0])],1⟩ (fun y t=>y = .i r ∧ t = ⟨[(0,.cells 1 [.i a1_0])],2⟩):=by
 let v_0:AV:=.sl false (a0.map E_GStop)
 let w_0:AV:=.fn 98 [.mp 0 0 0]
 refine run_f 19 [.tmp 4] (c99 0) (zipE [0,1] [v_0,w_0]) (by kernel_rfl) (by kernel_rfl) (by kernel_rfl) rfl ?_
 unfold f99 at h
 let b_0:Blk:=.cells 1 [.i a1_0]
 refine run1z (c99 2) [] [0,1] [v_0,w_0] ⟨[(0,b_0)],1⟩ _ (by kernel_rfl) cj0 ?_
 refine run_s (c99 3) (c99 25) (by kernel_rfl) ?_
 let v_1:AV:=.i (a0.length:Int)
 refine run1z (c99 5) [{},{ k:=1,n:=a0.length }] [0,1,7,8] [v_0,w_0,v_1,.i 0] ⟨[(0,b_0)],1⟩ _ (by kernel_rfl) (cj1 (mapLen a0 E_GStop)) ?_
 obtain ⟨ol1x,hll1x,h⟩:=bindE h
 refine run_tq (fun (_:Unit)=>(zipE [] [])) (fun (_:Unit)=>⟨[(0,b_0)],1⟩) (fun j=>ol1x = .inl j) (fun kl1=>?_) ?_
 ·refine run_b 0 (c99 6) (by kernel_rfl) ?_
  refine run_l (c99 7) _ hll1x (fun (l1_8:Int)=>(zipE [0,1,7,8] [v_0,w_0,v_1,.i l1_8])) (fun (l1_8:Int)=>⟨[(0,b_0)],1⟩) [] (by intro i e; cases e <;> exact Nat.le_of_ble_eq_true rfl) (by kernel_rfl) (mkInto (ks:=[0,1,7,8]) (ys:=[v_0,w_0,v_1,.i 0]) (by kernel_rfl) (by kernel_rfl) (.k (.c (cleanMap _ _ cl_GStop)) (.k (.f (.k (.mp rfl rfl) .z)) (.k (.c rfl) (.k (.c rfl) .z)))) (.k rfl (.cells (.k (.c rfl) .z)) .z)) ?_
  rintro l1_8 out hl1 rl1
  refine run1z (c99 9) [] [0,1,7,8,9] [v_0,w_0,v_1,.i l1_8,.bool (decide (l1_8 < (a0.length:Int)))] ⟨[(0,b_0)],1⟩ _ (by kernel_rfl) cj0 ?_
  refine run_s (c99 10) (c99 13) (by kernel_rfl) ?_
  rcases iteE hl1 with ⟨hc1,hl1⟩ | ⟨hc1,hl1⟩
  ·refine run_cT 9 (c99 11) (c99 12) (decide (l1_8 < (a0.length:Int))) hc1 (by kernel_rfl) (by kernel_rfl) ?_
   refine run_k (by kernel_rfl) ?_
   refine thenN ?_
   refine run_s (c99 14) (c99 24) (by kernel_rfl) ?_
   refine run_b 1 (c99 15) (by kernel_rfl) ?_
   refine run1z (c99 17) [] [0,1,5,7,8] [v_0,w_0,.i l1_8,v_1,.i l1_8] ⟨[(0,b_0)],1⟩ _ (by kernel_rfl) cj0 ?_
   obtain ⟨y2,hy2,hl1⟩:=bindE hl1
   obtain ⟨r3,hr3,hl1⟩:=bindE hl1
   refine run1z (c99 19) [{},{},{},{ k:=1,x:=E_GStop y2 },{},{ c:=some (.bool r3,⟨[(0,b_0)],2⟩) }] [0,1,5,7,8,16] [v_0,w_0,.i l1_8,v_1,.i l1_8,.bool r3] ⟨[(0,b_0)],2⟩ _ (by kernel_rfl) (cjC ((ixE hy2).1) (cjC (mapGet E_GStop (ixE hy2).2) (cj1 (callF (f98_ok y2 a1_0 _ hr3) [(0,0)] [(0,0)] [] [E_GStop y2,.mp 0 0 0] ⟨[(0,b_0)],1⟩ (.bool r3) ⟨[(0,b_0)],2⟩ (by kernel_rfl) (.k (.c (cl_GStop y2)) (.k (.mp rfl rfl) .z)) (.c rfl) (.k rfl (.cells (.k (.c rfl) .z)) .z) (.d (x':=b_0) rfl (by kernel_rfl) (.cells (.k (.c rfl) .z)) .z))))) ?_
   rcases iteE hl1 with ⟨hc4,hl1⟩ | ⟨hc4,hl1⟩
   ·refine run_cT 16 (c99 20) (c99 23) r3 hc4 (by kernel_rfl) (by kernel_rfl) ?_
    refine run1z (c99 22) [] [4] [.i l1_8] ⟨[(0,b_0)],2⟩ _ (by kernel_rfl) cj0 ?_
    replace hl1:=Option.some.inj hl1; subst hl1
    have hr:=rl1 _ rfl
    subst hr
    replace h:=elimR h
    refine run_t (by kernel_rfl) ?_
    refine inbR ?_
    refine thenR ?_
    refine ⟨⟨_,rfl⟩,?_⟩
    refine inbR ?_
    refine thenR ?_
    replace h:=Option.some.inj h; subst h
    exact fin_p [0] ⟨[(0,b_0)],2⟩ (by kernel_rfl) (by kernel_rfl) rfl ⟨rfl,rfl⟩
   ·refine run_cF 16 (c99 20) (c99 23) r3 hc4 (by kernel_rfl) (by kernel_rfl) ?_
    refine run_k (by kernel_rfl) ?_
    refine inbN ?_
    refine thenN ?_
    refine run0z [] [0,1,7,8] [v_0,w_0,v_1,.i (wr (l1_8 + 1))] ⟨[(0,b_0)],2⟩ _ (by kernel_rfl) cj0 ?_
    replace hl1:=Option.some.inj hl1; subst hl1
    exact ⟨_,rfl,pi [],mkInto (ks:=[0,1,7,8]) (ys:=[v_0,w_0,v_1,.i (wr (l1_8 + 1))]) (by kernel_rfl) (by kernel_rfl) (.k (.c (cleanMap _ _ cl_GStop)) (.k (.f (.k (.mp rfl rfl) .z)) (.k (.c rfl) (.k (.c rfl) .z)))) (.k rfl (.cells (.k (.c rfl) .z)) .z)⟩
  ·refine run_cF 9 (c99 11) (c99 12) (decide (l1_8 < (a0.length:Int))) hc1 (by kernel_rfl) (by kernel_rfl) ?_
   replace hl1:=Option.some.inj hl1; subst hl1
   have hr:=rl1 _ rfl
   subst hr
   refine awp_p [] [0] (zipE [] []) ⟨[(0,b_0)],1⟩ (by kernel_rfl) (?_)
   refine run_e 0 (by kernel_rfl) ?_
   refine thenE ?_
   refine ⟨⟨_,rfl⟩,?_⟩
   refine inbE ?_
   exact kl1 () rfl
 ·rintro ⟨⟩ rfl
  replace h:=elimL h
  refine thenN ?_
  refine run1z (c99 27) [] [4] [.i (-1)] ⟨[(0,b_0)],1⟩ _ (by kernel_rfl) cj0 ?_
  refine run_i 1 [] [4] [.i (-1)] (xs:=[.i (-1)]) (S2:=⟨[(0,b_0)],2⟩) ?_ (by intro i e; cases e <;> exact Nat.le_of_ble_eq_true rfl) (by kernel_rfl) (by kernel_rfl) (by kernel_rfl) (.k (.c rfl) .z) (.k rfl (.cells (.k (.c rfl) .z)) .z)
  refine run_t (by kernel_rfl) ?_
  replace h:=Option.some.inj h; subst h
  exact fin_p [0] ⟨[(0,b_0)],2⟩ (by kernel_rfl) (by kernel_rfl) rfl ⟨rfl,rfl⟩
def f97 (a0:List GStop) (a1_0:Int):Option Bool:=(f99 a0 a1_0).bind fun r1=>some (decide (0 ≤ r1))
theorem f97_ok (a0:List GStop) (a1_0:Int) (r:Bool) (h:f97 a0 a1_0 = some r):ACalls Try.prog 97 [.sl false (a0.map E_GStop),.fn 98 [.mp 0 0 0]] ⟨[(0,.cells 1 [.i a1_0])],1⟩ (fun y t=>y = .bool r ∧ t = ⟨[(0,.cells 1 [.i a1_0])],2⟩):=by
 let v_0:AV:=.sl false (a0.map E_GStop)
 let w_0:AV:=.fn 98 [.mp 0 0 0]
 refine run_f 9 [.tmp 4] (c97 0) (zipE [0,1] [v_0,w_0]) (by kernel_rfl) (by kernel_rfl) (by kernel_rfl) rfl ?_
 unfold f97 at h
 let b_0:Blk:=.cells 1 [.i a1_0]
 refine run1z (c97 2) [] [0,1] [v_0,w_0] ⟨[(0,b_0)],1⟩ _ (by kernel_rfl) cj0 ?_
 obtain ⟨r1,hr1,h⟩:=bindE h
 refine run1z (c97 4) [{},{},{ c:=some (.i r1,⟨[(0,b_0)],2⟩) }] [4] [.bool (decide (0 ≤ r1))] ⟨[(0,b_0)],2⟩ _ (by kernel_rfl) (cj1 (callF (f99_ok a0 a1_0 _ hr1) [(0,0)] [(0,0)] [] [v_0,w_0] ⟨[(0,b_0)],1⟩ (.i r1) ⟨[(0,b_0)],2⟩ (by kernel_rfl) (.k (.c (cleanMap _ _ cl_GStop)) (.k (.f (.k (.mp rfl rfl) .z)) .z)) (.c rfl) (.k rfl (.cells (.k (.c rfl) .z)) .z) (.d (x':=b_0) rfl (by kernel_rfl) (.cells (.k (.c rfl) .z)) .z))) ?_
 refine run_t (by kernel_rfl) ?_
 replace h:=Option.some.inj h; subst h
 exact fin_p [0] ⟨[(0,b_0)],2⟩ (by kernel_rfl) (by kernel_rfl) rfl ⟨rfl,rfl⟩
def f92 (a0:GEvent) (a1:Int):Option Bool:=(f97 a0.stops a1).bind fun r1=>some r1
theorem f92_ok (a0:GEvent) (a1:Int) (r:Bool) (h:f92 a0 a1 = some r):APure Try.prog 92 [E_GEvent a0,.i a1] (.bool r):=by
 refine apure (clK (cl_GEvent a0) (clK rfl clZ)) rfl ?_
 refine run_f 9 [.tmp 4] (c92 0) (zipE [0,1] [E_GEvent a0,.i a1]) (by kernel_rfl) (by kernel_rfl) (by kernel_rfl) rfl ?_
 unfold f92 at h
 let b_0:Blk:=.cells 6 [E_GEvent a0]
 let b_1:Blk:=.cells 1 [.i a1]
 refine run1z (c92 2) [] [2,3] [.mp 0 0 0,.mp 1 0 0] ⟨[(1,b_1),(0,b_0)],2⟩ _ (by kernel_rfl) cj0 ?_
 obtain ⟨r1,hr1,h⟩:=bindE h
 refine run1z (c92 4) [{},{},{},{ c:=some (.bool r1,⟨[(1,b_1),(0,b_0)],3⟩) }] [4] [.bool r1] ⟨[],3⟩ _ (by kernel_rfl) (cj1 (callF (f97_ok a0.stops a1 _ hr1) [(0,1)] [(1,0)] [0] [.sl false (a0.stops.map E_GStop),.fn 98 [.mp 1 0 0]] ⟨[(1,b_1),(0,b_0)],2⟩ (.bool r1) ⟨[(1,b_1),(0,b_0)],3⟩ (by kernel_rfl) (.k (.c (cleanMap _ _ cl_GStop)) (.k (.f (.k (.mp rfl rfl) .z)) .z)) (.c rfl) (.k rfl (.cells (.k (.c rfl) .z)) .z) (.d (x':=b_1) rfl (by kernel_rfl) (.cells (.k (.c rfl) .z)) (.f rfl (by kernel_rfl) .z)))) ?_
 refine run_t (by kernel_rfl) ?_
 replace h:=Option.some.inj h; subst h
 exact fin_r (by kernel_rfl) rfl
def f86 (a0:GPiece) (a1:Int) (a2:Int):Option Int:=((bif (decide (a1 < 0)) then (some true) else (some (decide ((a0.events.length:Int) ≤ a1)))):Option Bool).bind fun (j1_18:Bool)=>bif j1_18 then (some 0) else (need (0 ≤ (wr (a1 + 1))) <| need ((wr (a1 + 1)).toNat ≤ a0.events.length) <| (loopN (σ:=(Int × Int)) (τ:=Int) (fun ((l2_7,l2_25):(Int × Int))=>bif (decide (l2_25 < (((a0.events.take a0.events.length).drop (wr (a1 + 1)).toNat).length:Int))) then ((ix ((a0.events.take a0.events.length).drop (wr (a1 + 1)).toNat) l2_25).bind fun y6=>((bif (decide (l2_7 = 15)) then (some true) else ((f91 y6).bind fun r8=>bif r8 then (some true) else ((f92 y6 a2).bind fun r10=>some r10))):Option Bool).bind fun (j3_39:Bool)=>bif j3_39 then (some (.inr l2_7)) else (some (.inl ((wr (l2_7 + 1)),(wr (l2_25 + 1)))))) else (some (.inr l2_7))) FUEL (0,0)).bind fun (l2x_7:Int)=>some l2x_7)
theorem f86_ok (a0:GPiece) (a1:Int) (a2:Int) (r:Int) (h:f86 a0 a1 a2 = some r):APure Try.prog 86 [E_GPiece a0,.i a1,.i a2] (.i r):=by
 refine apure (clK (cl_GPiece a0) (clK rfl (clK rfl clZ))) rfl ?_
 refine run_f 44 [.tmp 6] (c86 0) (zipE [0,1,2] [E_GPiece a0,.i a1,.i a2]) (by kernel_rfl) (by kernel_rfl) (by kernel_rfl) rfl ?_
 unfold f86 at h
 let b_0:Blk:=.cells 3 [E_GPiece a0]
 refine run1z (c86 2) [] [1,2,3] [.i a1,.i a2,.mp 0 0 0] ⟨[(0,b_0)],1⟩ _ (by kernel_rfl) cj0 ?_
 refine run_s (c86 3) (c86 10) (by kernel_rfl) ?_
 obtain ⟨j1_18,hj1,h⟩:=bindE h
 refine run_gq (c86 5) (fun (j1_18:Bool)=>(zipE [1,2,3,18] [.i a1,.i a2,.mp 0 0 0,.bool j1_18])) (fun (j1_18:Bool)=>⟨[(0,b_0)],1⟩) (fun j=>j1_18 = j) (fun kj1=>?_) ?_
 ·rcases iteE hj1 with ⟨hc1,hj1⟩ | ⟨hc1,hj1⟩
  ·replace hj1:=Option.some.inj hj1; subst hj1
   exact run1z (c86 5) [{},{},{},{ g:=false },{ g:=false },{ g:=false },{ g:=false },{ g:=false },{ k:=1,b:=true }] [1,2,3,18] [.i a1,.i a2,.mp 0 0 0,.bool true] ⟨[(0,b_0)],1⟩ _ (by kernel_rfl) (cjC (hc1) (cjC (hc1) (cjC (hc1) (cjC (hc1) (cjC (hc1) (cj1 (hc1))))))) (kj1 true rfl)
  ·replace hj1:=Option.some.inj hj1; subst hj1
   exact run1z (c86 5) [{},{},{},{},{},{},{ k:=1,n:=a0.events.length },{},{ k:=1,b:=false }] [1,2,3,18] [.i a1,.i a2,.mp 0 0 0,.bool (decide ((a0.events.length:Int) ≤ a1))] ⟨[(0,b_0)],1⟩ _ (by kernel_rfl) (cjC (hc1) (cjC (hc1) (cjC (hc1) (cjC (hc1) (cjC (mapLen a0.events E_GEvent) (cjC (hc1) (cj1 (hc1)))))))) (kj1 (decide ((a0.events.length:Int) ≤ a1)) rfl)
 ·rintro _ rfl
  rcases iteE h with ⟨hc2,h⟩ | ⟨hc2,h⟩
  ·refine run_cT 18 (c86 6) (c86 9) j1_18 hc2 (by kernel_rfl) (by kernel_rfl) ?_
   refine run1z (c86 8) [] [6] [.i 0] ⟨[],1⟩ _ (by kernel_rfl) cj0 ?_
   refine run_t (by kernel_rfl) ?_
   refine thenR ?_
   replace h:=Option.some.inj h; subst h
   exact fin_r (by kernel_rfl) rfl
  ·refine run_cF 18 (c86 6) (c86 9) j1_18 hc2 (by kernel_rfl) (by kernel_rfl) ?_
   refine run_k (by kernel_rfl) ?_
   refine thenN ?_
   refine run1z (c86 12) [] [1,2,3,7] [.i a1,.i a2,.mp 0 0 0,.i 0] ⟨[(0,b_0)],1⟩ _ (by kernel_rfl) cj0 ?_
   refine run_s (c86 13) (c86 35) (by kernel_rfl) ?_
   obtain ⟨hn3,h⟩:=needE h
   obtain ⟨hn4,h⟩:=needE h
   let v_0:AV:=.sl false (((a0.events.take a0.events.length).drop (wr (a1 + 1)).toNat).map E_GEvent)
   let v_1:AV:=.i (((a0.events.take a0.events.length).drop (wr (a1 + 1)).toNat).length:Int)
   refine run1z (c86 15) [{},{},{},{},{ k:=1,n:=(wr (a1 + 1)).toNat,m:=a0.events.length,b:=false,l:=((a0.events.take a0.events.length).drop (wr (a1 + 1)).toNat).map E_GEvent },{ k:=1,n:=((a0.events.take a0.events.length).drop (wr (a1 + 1)).toNat).length }] [2,7,23,24,25] [.i a2,.i 0,v_0,v_1,.i 0] ⟨[],1⟩ _ (by kernel_rfl) (cjC (hn4) (cjC (leMap E_GEvent (Nat.le_refl a0.events.length)) (cjC (fitsMap (P:=Try.prog) (t:=115) (k:=6) a0.events E_GEvent (by kernel_rfl) sz_GEvent) (cjC (Eq.refl false) (cjC (mapSub a0.events E_GEvent (wr (a1 + 1)).toNat a0.events.length) (cjC (hn3) (cjC (Eq.refl ((wr (a1 + 1)).toNat)) (cjC (mapLen a0.events E_GEvent) (cj1 (mapLen ((a0.events.take a0.events.length).drop (wr (a1 + 1)).toNat) E_GEvent)))))))))) ?_
   obtain ⟨l2x_7,hll2x,h⟩:=bindE h
   refine run_tq (fun (l2x_7:Int)=>(zipE [7] [.i l2x_7])) (fun (l2x_7:Int)=>⟨[],2⟩) (fun j=>l2x_7 = j) (fun kl2=>?_) ?_
   ·refine run_b 0 (c86 16) (by kernel_rfl) ?_
    refine run_l (c86 17) _ hll2x (fun ((l2_7,l2_25):(Int × Int))=>(zipE [2,7,23,24,25] [.i a2,.i l2_7,v_0,v_1,.i l2_25])) (fun ((l2_7,l2_25):(Int × Int))=>⟨[],1⟩) [] (by intro i e; cases e <;> exact Nat.le_of_ble_eq_true rfl) (by kernel_rfl) (mkInto (ks:=[2,7,23,24,25]) (ys:=[.i a2,.i 0,v_0,v_1,.i 0]) (by kernel_rfl) (by kernel_rfl) (.k (.c rfl) (.k (.c rfl) (.k (.c (cleanMap _ _ cl_GEvent)) (.k (.c rfl) (.k (.c rfl) .z))))) .z) ?_
    rintro ⟨l2_7,l2_25⟩ out hl2 rl2
    refine run1z (c86 19) [] [2,7,23,24,25,26] [.i a2,.i l2_7,v_0,v_1,.i l2_25,.bool (decide (l2_25 < (((a0.events.take a0.events.length).drop (wr (a1 + 1)).toNat).length:Int)))] ⟨[],1⟩ _ (by kernel_rfl) cj0 ?_
    refine run_s (c86 20) (c86 23) (by kernel_rfl) ?_
    rcases iteE hl2 with ⟨hc5,hl2⟩ | ⟨hc5,hl2⟩
    ·refine run_cT 26 (c86 21) (c86 22) (decide (l2_25 < (((a0.events.take a0.events.length).drop (wr (a1 + 1)).toNat).length:Int))) hc5 (by kernel_rfl) (by kernel_rfl) ?_
     refine run_k (by kernel_rfl) ?_
     refine thenN ?_
     refine run_s (c86 24) (c86 34) (by kernel_rfl) ?_
     refine run_b 1 (c86 25) (by kernel_rfl) ?_
     obtain ⟨y6,hy6,hl2⟩:=bindE hl2
     let b_1:Blk:=.cells 6 [E_GEvent y6]
     refine run1z (c86 27) [{ k:=1,x:=E_GEvent y6 }] [2,7,9,23,24,25] [.i a2,.i l2_7,.mp 1 0 0,v_0,v_1,.i l2_25] ⟨[(1,b_1)],2⟩ _ (by kernel_rfl) (cjC ((ixE hy6).1) (cj1 (mapGet E_GEvent (ixE hy6).2))) ?_
     refine run_s (c86 28) (c86 33) (by kernel_rfl) ?_
     obtain ⟨j3_39,hj3,hl2⟩:=bindE hl2
     refine run_gq (c86 30) (fun (j3_39:Bool)=>(zipE [2,7,23,24,25,39] [.i a2,.i l2_7,v_0,v_1,.i l2_25,.bool j3_39])) (fun (j3_39:Bool)=>⟨[],2⟩) (fun j=>j3_39 = j) (fun kj3=>?_) ?_
     ·rcases iteE hj3 with ⟨hc7,hj3⟩ | ⟨hc7,hj3⟩
      ·replace hj3:=Option.some.inj hj3; subst hj3
       exact run1z (c86 30) [{},{},{},{ g:=false },{ g:=false },{ k:=1,b:=true },{},{ g:=false },{ g:=false },{ g:=false }] [2,7,23,24,25,39] [.i a2,.i l2_7,v_0,v_1,.i l2_25,.bool true] ⟨[],2⟩ _ (by kernel_rfl) (cjC (hc7) (cjC (hc7) (cjC (hc7) (cjC (Eq.refl true) (cjC (Eq.refl true) (cj1 (Eq.refl true))))))) (kj3 true rfl)
      ·obtain ⟨r8,hr8,hj3⟩:=bindE hj3
       rcases iteE hj3 with ⟨hc9,hj3⟩ | ⟨hc9,hj3⟩
       ·replace hj3:=Option.some.inj hj3; subst hj3
        exact run1z (c86 30) [{},{},{},{},{ c:=some (.bool r8,⟨[(1,b_1)],2⟩) },{ k:=1,b:=false },{},{ g:=false },{ g:=false },{ g:=false },{ k:=1,b:=true }] [2,7,23,24,25,39] [.i a2,.i l2_7,v_0,v_1,.i l2_25,.bool true] ⟨[],2⟩ _ (by kernel_rfl) (cjC (hc7) (cjC (hc7) (cjC (f91_ok y6 _ hr8 ⟨[(1,b_1)],2⟩) (cjC (hc7) (cjC (hc9) (cjC (hc9) (cjC (hc9) (cj1 (hc9))))))))) (kj3 true rfl)
       ·obtain ⟨r10,hr10,hj3⟩:=bindE hj3
        replace hj3:=Option.some.inj hj3; subst hj3
        exact run1z (c86 30) [{},{},{},{},{ c:=some (.bool r8,⟨[(1,b_1)],2⟩) },{ k:=1,b:=false },{},{},{},{ c:=some (.bool r10,⟨[(1,b_1)],2⟩) },{ k:=1,b:=false }] [2,7,23,24,25,39] [.i a2,.i l2_7,v_0,v_1,.i l2_25,.bool r10] ⟨[],2⟩ _ (by kernel_rfl) (cjC (hc7) (cjC (hc7) (cjC (f91_ok y6 _ hr8 ⟨[(1,b_1)],2⟩) (cjC (hc7) (cjC (hc9) (cjC (hc9) (cjC (hc9) (cjC (f92_ok y6 a2 _ hr10 ⟨[(1,b_1)],2⟩) (cj1 (hc9)))))))))) (kj3 r10 rfl)
     ·rintro _ rfl
      rcases iteE hl2 with ⟨hc11,hl2⟩ | ⟨hc11,hl2⟩
      ·refine run_cT 39 (c86 31) (c86 32) j3_39 hc11 (by kernel_rfl) (by kernel_rfl) ?_
       replace hl2:=Option.some.inj hl2; subst hl2
       have hr:=rl2 _ rfl
       subst hr
       refine awp_p [7] [] (zipE [7] [.i l2_7]) ⟨[],2⟩ (by kernel_rfl) (?_)
       refine run_e 0 (by kernel_rfl) ?_
       refine thenE ?_
       refine inbX rfl ?_
       refine thenE ?_
       refine ⟨⟨_,rfl⟩,?_⟩
       refine inbE ?_
       exact kl2 l2_7 rfl
      ·refine run_cF 39 (c86 31) (c86 32) j3_39 hc11 (by kernel_rfl) (by kernel_rfl) ?_
       refine run_k (by kernel_rfl) ?_
       refine thenN ?_
       refine run0z [] [2,7,23,24,25] [.i a2,.i (wr (l2_7 + 1)),v_0,v_1,.i l2_25] ⟨[],2⟩ _ (by kernel_rfl) cj0 ?_
       refine inbN ?_
       refine thenN ?_
       refine run0z [] [2,7,23,24,25] [.i a2,.i (wr (l2_7 + 1)),v_0,v_1,.i (wr (l2_25 + 1))] ⟨[],2⟩ _ (by kernel_rfl) cj0 ?_
       replace hl2:=Option.some.inj hl2; subst hl2
       exact ⟨_,rfl,pi [],mkInto (ks:=[2,7,23,24,25]) (ys:=[.i a2,.i (wr (l2_7 + 1)),v_0,v_1,.i (wr (l2_25 + 1))]) (by kernel_rfl) (by kernel_rfl) (.k (.c rfl) (.k (.c rfl) (.k (.c (cleanMap _ _ cl_GEvent)) (.k (.c rfl) (.k (.c rfl) .z))))) .z⟩
    ·refine run_cF 26 (c86 21) (c86 22) (decide (l2_25 < (((a0.events.take a0.events.length).drop (wr (a1 + 1)).toNat).length:Int))) hc5 (by kernel_rfl) (by kernel_rfl) ?_
     replace hl2:=Option.some.inj hl2; subst hl2
     have hr:=rl2 _ rfl
     subst hr
     refine run_i 2 [] [7] [.i l2_7] (xs:=[.i l2_7]) (S2:=⟨[],2⟩) ?_ (by intro i e; cases e <;> exact Nat.le_of_ble_eq_true rfl) (by kernel_rfl) (by kernel_rfl) (by kernel_rfl) (.k (.c rfl) .z) .z
     refine run_e 0 (by kernel_rfl) ?_
     refine thenE ?_
     refine ⟨⟨_,rfl⟩,?_⟩
     refine inbE ?_
     exact kl2 l2_7 rfl
   ·rintro _ rfl
    refine thenN ?_
    refine run1z (c86 37) [] [6] [.i l2x_7] ⟨[],2⟩ _ (by kernel_rfl) cj0 ?_
    refine run_t (by kernel_rfl) ?_
    replace h:=Option.some.inj h; subst h
    exact fin_r (by kernel_rfl) rfl
def f75 (a0:GPiece) (a1:Int) (a2:GStop) (a3:Int):Option Int:=((bif (decide (a2.course < 1)) then (some true) else (some (decide ((a0.instrument.courses.length:Int) < a2.course)))):Option Bool).bind fun (j1_9:Bool)=>bif j1_9 then (some 12) else (((bif (decide (a2.fret < 0)) then (some true) else ((ix a0.instrument.courses (wr (a2.course - 1))).bind fun y4=>some (decide (y4.frets < a2.fret)))):Option Bool).bind fun (j2_22:Bool)=>bif j2_22 then (some 13) else (bif (decide (a2.course ≤ a3)) then (some 22) else (((bif (decide (a2.right < 0)) then (some true) else (bif (decide (3 < a2.right)) then (some true) else (bif (decide (a2.grace < 0)) then (some true) else (some (decide (4 < a2.grace)))))):Option Bool).bind fun (j3_45:Bool)=>bif j3_45 then (some 23) else (((bif (decide (a2.hold < 0)) then (some true) else ((f86 a0 a1 a2.course).bind fun r12=>bif (decide (r12 < a2.hold)) then (some true) else (bif (decide (0 < a2.hold)) then (some (decide (a2.fret = 0))) else (some false)))):Option Bool).bind fun (j4_64:Bool)=>bif j4_64 then (some 24) else (some 0)))))
theorem f75_ok (a0:GPiece) (a1:Int) (a2:GStop) (a3:Int) (r:Int) (h:f75 a0 a1 a2 a3 = some r):APure Try.prog 75 [E_GPiece a0,.i a1,E_GStop a2,.i a3] (.i r):=by
 refine apure (clK (cl_GPiece a0) (clK rfl (clK (cl_GStop a2) (clK rfl clZ)))) rfl ?_
 refine run_f 88 [.tmp 8] (c75 0) (zipE [0,1,2,3] [E_GPiece a0,.i a1,E_GStop a2,.i a3]) (by kernel_rfl) (by kernel_rfl) (by kernel_rfl) rfl ?_
 unfold f75 at h
 let b_0:Blk:=.cells 3 [E_GPiece a0]
 let b_1:Blk:=.cells 5 [E_GStop a2]
 let s_0:St:=⟨[(1,b_1),(0,b_0)],2⟩
 refine run1z (c75 2) [] [1,3,4,6] [.i a1,.i a3,.mp 0 0 0,.mp 1 0 0] s_0 _ (by kernel_rfl) cj0 ?_
 refine run_s (c75 3) (c75 35) (by kernel_rfl) ?_
 refine run_b 0 (c75 4) (by kernel_rfl) ?_
 obtain ⟨j1_9,hj1,h⟩:=bindE h
 refine run_gq (c75 6) (fun (j1_9:Bool)=>(zipE [1,3,4,6,9] [.i a1,.i a3,.mp 0 0 0,.mp 1 0 0,.bool j1_9])) (fun (j1_9:Bool)=>s_0) (fun j=>j1_9 = j) (fun kj1=>?_) ?_
 ·rcases iteE hj1 with ⟨hc1,hj1⟩ | ⟨hc1,hj1⟩
  ·replace hj1:=Option.some.inj hj1; subst hj1
   exact run1z (c75 6) [{},{},{},{},{ g:=false },{ g:=false },{ g:=false },{ g:=false },{ g:=false },{ g:=false },{ g:=false },{ k:=1,b:=true }] [1,3,4,6,9] [.i a1,.i a3,.mp 0 0 0,.mp 1 0 0,.bool true] s_0 _ (by kernel_rfl) (cjC (hc1) (cjC (hc1) (cjC (hc1) (cjC (hc1) (cjC (hc1) (cjC (hc1) (cjC (hc1) (cj1 (hc1))))))))) (kj1 true rfl)
  ·replace hj1:=Option.some.inj hj1; subst hj1
   exact run1z (c75 6) [{},{},{},{},{},{},{},{},{},{ k:=1,n:=a0.instrument.courses.length },{},{ k:=1,b:=false }] [1,3,4,6,9] [.i a1,.i a3,.mp 0 0 0,.mp 1 0 0,.bool (decide ((a0.instrument.courses.length:Int) < a2.course))] s_0 _ (by kernel_rfl) (cjC (hc1) (cjC (hc1) (cjC (hc1) (cjC (hc1) (cjC (hc1) (cjC (hc1) (cjC (mapLen a0.instrument.courses E_GCourse) (cjC (hc1) (cj1 (hc1)))))))))) (kj1 (decide ((a0.instrument.courses.length:Int) < a2.course)) rfl)
 ·rintro _ rfl
  rcases iteE h with ⟨hc2,h⟩ | ⟨hc2,h⟩
  ·refine run_cT 9 (c75 7) (c75 10) j1_9 hc2 (by kernel_rfl) (by kernel_rfl) ?_
   refine run1z (c75 9) [] [8] [.i 12] ⟨[],2⟩ _ (by kernel_rfl) cj0 ?_
   refine run_t (by kernel_rfl) ?_
   refine inbR ?_
   refine thenR ?_
   replace h:=Option.some.inj h; subst h
   exact fin_r (by kernel_rfl) rfl
  ·refine run_cF 9 (c75 7) (c75 10) j1_9 hc2 (by kernel_rfl) (by kernel_rfl) ?_
   obtain ⟨j2_22,hj2,h⟩:=bindE h
   refine run_gq (c75 12) (fun (j2_22:Bool)=>(zipE [1,3,4,6,22] [.i a1,.i a3,.mp 0 0 0,.mp 1 0 0,.bool j2_22])) (fun (j2_22:Bool)=>s_0) (fun j=>j2_22 = j) (fun kj2=>?_) ?_
   ·rcases iteE hj2 with ⟨hc3,hj2⟩ | ⟨hc3,hj2⟩
    ·replace hj2:=Option.some.inj hj2; subst hj2
     exact yun1z (c75 12) [[],[0],[0,1],[0,1,2],[0,1,2,3],[0,1,2,3,4],[0,1,2,3],[0,1,2,3,6],[0,1,2,3,6,7],[0,1,2,3],[0,1,2,3,9],[0,1,2,3,9,10],[0,1,2,3,6,7,8,9,10,11],[0,1,2,3,6,7,8,9,10,11,12],[0,1,2,3,6,7,8,9,10,11,12,13],[0,1,2,3,4,5,6,7,8,9,10,11,12,13,14],[0,1,2,3,4,5,6,7,8,9,10,11,12,13,14,15],[0,1,2,3,4,5,6,7,8,9,10,11,12,13,14,15,16]] [.light 0 false,.light 1 false,.light 2 false,.light 3 false,.light 4 false,.light 5 false,.light 6 false,.light 7 false,.light 8 false,.light 9 false,.light 10 false,.light 11 false,.light 12 false,.light 13 false,.light 14 false,.light 15 false,.light 16 false,.light 17 false] [{},{},{},{},{ g:=false },{ g:=false },{ g:=false },{ g:=false },{ g:=false },{ g:=false },{ g:=false },{ g:=false },{ g:=false },{ g:=false },{ g:=false },{ g:=false }] [1,3,4,6,22] [.i a1,.i a3,.mp 0 0 0,.mp 1 0 0,.bool true] s_0 _ (by kernel_rfl) (cjC (hc3) (cjC (Eq.refl true) (cjC (Eq.refl true) (cjC (Eq.refl true) (cjC (Eq.refl true) (cjC (Eq.refl true) (cjC (Eq.refl true) (cjC (Eq.refl true) (cjC (Eq.refl true) (cjC (Eq.refl true) (cjC (Eq.refl true) (cj1 (Eq.refl true))))))))))))) (kj2 true rfl)
    ·obtain ⟨y4,hy4,hj2⟩:=bindE hj2
     replace hj2:=Option.some.inj hj2; subst hj2
     exact yun1z (c75 12) [[],[0],[0,1],[0,1,2],[0,1,2,3],[0,1,2,3,4],[0,1,2,3],[0,1,2,3,6],[0,1,2,3,6,7],[0,1,2,3],[0,1,2,3,9],[0,1,2,3,9,10],[0,1,2,3,6,7,8,9,10,11],[0,1,2,3,6,7,8,9,10,11,12],[0,1,2,3,6,7,8,9,10,11,12,13],[0,1,2,3,4,5,6,7,8,9,10,11,12,13,14],[0,1,2,3,4,5,6,7,8,9,10,11,12,13,14,15],[0,1,2,3,4,5,6,7,8,9,10,11,12,13,14,15,16]] [.light 0 false,.light 1 false,.light 2 false,.light 3 false,.light 4 false,.light 5 false,.light 6 false,.light 7 false,.light 8 false,.light 9 false,.light 10 false,.light 11 false,.light 12 false,.light 13 false,.light 14 false,.light 15 false,.light 16 false,.light 17 false] [{},{},{},{},{},{},{},{},{},{},{},{},{ k:=1,x:=E_GCourse y4 }] [1,3,4,6,22] [.i a1,.i a3,.mp 0 0 0,.mp 1 0 0,.bool (decide (y4.frets < a2.fret))] s_0 _ (by kernel_rfl) (cjC (hc3) (cjC (Eq.refl false) (cjC (Eq.refl false) (cjC (Eq.refl false) (cjC (Eq.refl false) (cjC (Eq.refl false) (cjC (Eq.refl false) (cjC (Eq.refl false) (cjC (Eq.refl false) (cjC ((ixE hy4).1) (cjC (mapGet E_GCourse (ixE hy4).2) (cjC (Eq.refl false) (cjC (Eq.refl false) (cj1 (Eq.refl false))))))))))))))) (kj2 (decide (y4.frets < a2.fret)) rfl)
   ·rintro _ rfl
    rcases iteE h with ⟨hc5,h⟩ | ⟨hc5,h⟩
    ·refine run_cT 22 (c75 13) (c75 16) j2_22 hc5 (by kernel_rfl) (by kernel_rfl) ?_
     refine run1z (c75 15) [] [8] [.i 13] ⟨[],2⟩ _ (by kernel_rfl) cj0 ?_
     refine run_t (by kernel_rfl) ?_
     refine inbR ?_
     refine thenR ?_
     replace h:=Option.some.inj h; subst h
     exact fin_r (by kernel_rfl) rfl
    ·refine run_cF 22 (c75 13) (c75 16) j2_22 hc5 (by kernel_rfl) (by kernel_rfl) ?_
     refine run1z (c75 18) [] [1,4,6,40] [.i a1,.mp 0 0 0,.mp 1 0 0,.bool (decide (a2.course ≤ a3))] s_0 _ (by kernel_rfl) cj0 ?_
     rcases iteE h with ⟨hc6,h⟩ | ⟨hc6,h⟩
     ·refine run_cT 40 (c75 19) (c75 22) (decide (a2.course ≤ a3)) hc6 (by kernel_rfl) (by kernel_rfl) ?_
      refine run1z (c75 21) [] [8] [.i 22] ⟨[],2⟩ _ (by kernel_rfl) cj0 ?_
      refine run_t (by kernel_rfl) ?_
      refine inbR ?_
      refine thenR ?_
      replace h:=Option.some.inj h; subst h
      exact fin_r (by kernel_rfl) rfl
     ·refine run_cF 40 (c75 19) (c75 22) (decide (a2.course ≤ a3)) hc6 (by kernel_rfl) (by kernel_rfl) ?_
      obtain ⟨j3_45,hj3,h⟩:=bindE h
      refine run_gq (c75 24) (fun (j3_45:Bool)=>(zipE [1,4,6,45] [.i a1,.mp 0 0 0,.mp 1 0 0,.bool j3_45])) (fun (j3_45:Bool)=>s_0) (fun j=>j3_45 = j) (fun kj3=>?_) ?_
      ·rcases iteE hj3 with ⟨hc7,hj3⟩ | ⟨hc7,hj3⟩
       ·replace hj3:=Option.some.inj hj3; subst hj3
        exact run1z (c75 24) [{},{},{},{},{ g:=false },{ g:=false },{ g:=false },{ k:=1,b:=true },{},{ g:=false },{ g:=false },{ g:=false },{},{},{ g:=false },{ g:=false },{ g:=false }] [1,4,6,45] [.i a1,.mp 0 0 0,.mp 1 0 0,.bool true] s_0 _ (by kernel_rfl) (cjC (hc7) (cjC (hc7) (cjC (hc7) (cjC (hc7) (cjC (Eq.refl true) (cjC (Eq.refl true) (cjC (Eq.refl true) (cjC (Eq.refl true) (cjC (Eq.refl true) (cj1 (Eq.refl true))))))))))) (kj3 true rfl)
       ·rcases iteE hj3 with ⟨hc8,hj3⟩ | ⟨hc8,hj3⟩
        ·replace hj3:=Option.some.inj hj3; subst hj3
         exact run1z (c75 24) [{},{},{},{},{},{},{},{ k:=1,b:=false },{},{ g:=false },{ g:=false },{ g:=false },{ k:=1,b:=true },{},{ g:=false },{ g:=false },{ g:=false }] [1,4,6,45] [.i a1,.mp 0 0 0,.mp 1 0 0,.bool true] s_0 _ (by kernel_rfl) (cjC (hc7) (cjC (hc7) (cjC (hc7) (cjC (hc7) (cjC (hc8) (cjC (hc8) (cjC (hc8) (cjC (hc8) (cjC (Eq.refl true) (cjC (Eq.refl true) (cj1 (Eq.refl true)))))))))))) (kj3 true rfl)
        ·rcases iteE hj3 with ⟨hc9,hj3⟩ | ⟨hc9,hj3⟩
         ·replace hj3:=Option.some.inj hj3; subst hj3
          exact run1z (c75 24) [{},{},{},{},{},{},{},{ k:=1,b:=false },{},{},{},{},{ k:=1,b:=false },{},{ g:=false },{ g:=false },{ g:=false },{ k:=1,b:=true }] [1,4,6,45] [.i a1,.mp 0 0 0,.mp 1 0 0,.bool true] s_0 _ (by kernel_rfl) (cjC (hc7) (cjC (hc7) (cjC (hc7) (cjC (hc7) (cjC (hc8) (cjC (hc8) (cjC (hc8) (cjC (hc8) (cjC (hc9) (cjC (hc9) (cjC (hc9) (cj1 (hc9))))))))))))) (kj3 true rfl)
         ·replace hj3:=Option.some.inj hj3; subst hj3
          exact run1z (c75 24) [{},{},{},{},{},{},{},{ k:=1,b:=false },{},{},{},{},{ k:=1,b:=false },{},{},{},{},{ k:=1,b:=false }] [1,4,6,45] [.i a1,.mp 0 0 0,.mp 1 0 0,.bool (decide (4 < a2.grace))] s_0 _ (by kernel_rfl) (cjC (hc7) (cjC (hc7) (cjC (hc7) (cjC (hc7) (cjC (hc8) (cjC (hc8) (cjC (hc8) (cjC (hc8) (cjC (hc9) (cjC (hc9) (cjC (hc9) (cj1 (hc9))))))))))))) (kj3 (decide (4 < a2.grace)) rfl)
      ·rintro _ rfl
       rcases iteE h with ⟨hc10,h⟩ | ⟨hc10,h⟩
       ·refine run_cT 45 (c75 25) (c75 28) j3_45 hc10 (by kernel_rfl) (by kernel_rfl) ?_
        refine run1z (c75 27) [] [8] [.i 23] ⟨[],2⟩ _ (by kernel_rfl) cj0 ?_
        refine run_t (by kernel_rfl) ?_
        refine inbR ?_
        refine thenR ?_
        replace h:=Option.some.inj h; subst h
        exact fin_r (by kernel_rfl) rfl
       ·refine run_cF 45 (c75 25) (c75 28) j3_45 hc10 (by kernel_rfl) (by kernel_rfl) ?_
        obtain ⟨j4_64,hj4,h⟩:=bindE h
        refine run_gq (c75 30) (fun (j4_64:Bool)=>(zipE [64] [.bool j4_64])) (fun (j4_64:Bool)=>⟨[],2⟩) (fun j=>j4_64 = j) (fun kj4=>?_) ?_
        ·rcases iteE hj4 with ⟨hc11,hj4⟩ | ⟨hc11,hj4⟩
         ·replace hj4:=Option.some.inj hj4; subst hj4
          exact yun1z (c75 30) [[],[0],[0,1],[0,1,2],[0,1,2,3],[0,1,2,3,4],[0,1,2,3],[0,1,2,3],[0,1,2,3],[0,1,2,3,8],[0,1,2,3,6,7,8,9],[0,1,2,3,4,5,6,7,8,9,10],[0,1,2,3,4,5,6,7,8,9,10,11],[0,1,2,3,4,5,6,7,8,9,10,11,12],[0,1,2,3,4,5,6,7,8,9,10,11,12,13],[0,1,2,3,4,5,6,7,8,9,10,11,12,13,14],[0,1,2,3,4,5,6,7,8,9,10,11,12,13,14,15],[0,1,2,3,4,5,6,7,8,9,10,11,12,13,14,15,16],[0,1,2,3,4,5,6,7,8,9,10,11,12,13,14,15,16,17],[0,1,2,3,4,5,6,7,8,9,10,11,12,13,14,15,16,17,18],[0,1,2,3,4,5,6,7,8,9,10,11,12,13,14,15,16,17,18,19],[0,1,2,3,4,5,6,7,8,9,10,11,12,13,14,15,16,17,18,19,20],[0,1,2,3,4,5,6,7,8,9,10,11,12,13,14,15,16,17,18,19,20,21],[0,1,2,3,4,5,6,7,8,9,10,11,12,13,14,15,16,17,18,19,20,21,22]] [.light 0 false,.light 1 false,.light 2 false,.light 3 false,.light 4 false,.light 5 true,.light 6 false,.light 7 false,.light 8 false,.light 9 false,.heavy 10 [5],.light 11 false,.light 12 false,.light 13 false,.light 14 false,.light 15 false,.light 16 false,.light 17 false,.light 18 false,.light 19 false,.light 20 false,.light 21 false,.light 22 false,.light 23 false] [{},{},{},{},{ g:=false },{ g:=false },{ g:=false },{ g:=false },{ g:=false },{ g:=false },{ g:=false },{ g:=false },{},{},{ g:=false },{ g:=false },{ g:=false },{ g:=false },{},{},{},{ g:=false }] [64] [.bool true] ⟨[],2⟩ _ (by kernel_rfl) (cjC (hc11) (cjC (Eq.refl true) (cjC (Eq.refl true) (cjC (Eq.refl true) (cjC (Eq.refl true) (cjC (Eq.refl true) (cjC (Eq.refl true) (cjC (Eq.refl true) (cjC (Eq.refl true) (cjC (Eq.refl true) (cjC (Eq.refl true) (cjC (Eq.refl true) (cj1 (Eq.refl true)))))))))))))) (kj4 true rfl)
         ·obtain ⟨r12,hr12,hj4⟩:=bindE hj4
          rcases iteE hj4 with ⟨hc13,hj4⟩ | ⟨hc13,hj4⟩
          ·replace hj4:=Option.some.inj hj4; subst hj4
           exact yun1z (c75 30) [[],[0],[0,1],[0,1,2],[0,1,2,3],[0,1,2,3,4],[0,1,2,3],[0,1,2,3],[0,1,2,3],[0,1,2,3,8],[0,1,2,3,6,7,8,9],[0,1,2,3,4,5,6,7,8,9,10],[0,1,2,3,4,5,6,7,8,9,10,11],[0,1,2,3,4,5,6,7,8,9,10,11,12],[0,1,2,3,4,5,6,7,8,9,10,11,12,13],[0,1,2,3,4,5,6,7,8,9,10,11,12,13,14],[0,1,2,3,4,5,6,7,8,9,10,11,12,13,14,15],[0,1,2,3,4,5,6,7,8,9,10,11,12,13,14,15,16],[0,1,2,3,4,5,6,7,8,9,10,11,12,13,14,15,16,17],[0,1,2,3,4,5,6,7,8,9,10,11,12,13,14,15,16,17,18],[0,1,2,3,4,5,6,7,8,9,10,11,12,13,14,15,16,17,18,19],[0,1,2,3,4,5,6,7,8,9,10,11,12,13,14,15,16,17,18,19,20],[0,1,2,3,4,5,6,7,8,9,10,11,12,13,14,15,16,17,18,19,20,21],[0,1,2,3,4,5,6,7,8,9,10,11,12,13,14,15,16,17,18,19,20,21,22]] [.light 0 false,.light 1 false,.light 2 false,.light 3 false,.light 4 false,.light 5 true,.light 6 false,.light 7 false,.light 8 false,.light 9 false,.heavy 10 [5],.light 11 false,.light 12 false,.light 13 false,.light 14 false,.light 15 false,.light 16 false,.light 17 false,.light 18 false,.light 19 false,.light 20 false,.light 21 false,.light 22 false,.light 23 false] [{},{},{},{},{},{},{},{},{},{},{ c:=some (.i r12,s_0) },{},{},{},{ g:=false },{ g:=false },{ g:=false },{ g:=false },{},{},{},{ g:=false }] [64] [.bool true] ⟨[],2⟩ _ (by kernel_rfl) (cjC (hc11) (cjC (Eq.refl false) (cjC (Eq.refl false) (cjC (Eq.refl false) (cjC (Eq.refl false) (cjC (Eq.refl false) (cjC (Eq.refl false) (cjC (f86_ok a0 a1 a2.course _ hr12 s_0) (cjC (@Eq.refl AV (.i a2.hold)) (cjC (Eq.refl false) (cjC (hc13) (cjC (Eq.refl true) (cjC (Eq.refl true) (cjC (Eq.refl true) (cj1 (Eq.refl true)))))))))))))))) (kj4 true rfl)
          ·rcases iteE hj4 with ⟨hc14,hj4⟩ | ⟨hc14,hj4⟩
           ·replace hj4:=Option.some.inj hj4; subst hj4
            exact yun1z (c75 30) [[],[0],[0,1],[0,1,2],[0,1,2,3],[0,1,2,3,4],[0,1,2,3],[0,1,2,3],[0,1,2,3],[0,1,2,3,8],[0,1,2,3,6,7,8,9],[0,1,2,3,4,5,6,7,8,9,10],[0,1,2,3,4,5,6,7,8,9,10,11],[0,1,2,3,4,5,6,7,8,9,10,11,12],[0,1,2,3,4,5,6,7,8,9,10,11,12,13],[0,1,2,3,4,5,6,7,8,9,10,11,12,13,14],[0,1,2,3,4,5,6,7,8,9,10,11,12,13,14,15],[0,1,2,3,4,5,6,7,8,9,10,11,12,13,14,15,16],[0,1,2,3,4,5,6,7,8,9,10,11,12,13,14,15,16,17],[0,1,2,3,4,5,6,7,8,9,10,11,12,13,14,15,16,17,18],[0,1,2,3,4,5,6,7,8,9,10,11,12,13,14,15,16,17,18,19],[0,1,2,3,4,5,6,7,8,9,10,11,12,13,14,15,16,17,18,19,20],[0,1,2,3,4,5,6,7,8,9,10,11,12,13,14,15,16,17,18,19,20,21],[0,1,2,3,4,5,6,7,8,9,10,11,12,13,14,15,16,17,18,19,20,21,22]] [.light 0 false,.light 1 false,.light 2 false,.light 3 false,.light 4 false,.light 5 true,.light 6 false,.light 7 false,.light 8 false,.light 9 false,.heavy 10 [5],.light 11 false,.light 12 false,.light 13 false,.light 14 false,.light 15 false,.light 16 false,.light 17 false,.light 18 false,.light 19 false,.light 20 false,.light 21 false,.light 22 false,.light 23 false] [{},{},{},{},{},{},{},{},{},{},{ c:=some (.i r12,s_0) }] [64] [.bool (decide (a2.fret = 0))] ⟨[],2⟩ _ (by kernel_rfl) (cjC (hc11) (cjC (Eq.refl false) (cjC (Eq.refl false) (cjC (Eq.refl false) (cjC (Eq.refl false) (cjC (Eq.refl false) (cjC (Eq.refl false) (cjC (f86_ok a0 a1 a2.course _ hr12 s_0) (cjC (@Eq.refl AV (.i a2.hold)) (cjC (Eq.refl false) (cjC (hc13) (cjC (Eq.refl false) (cjC (Eq.refl false) (cjC (Eq.refl false) (cjC (hc14) (cjC (Eq.refl true) (cjC (Eq.refl true) (cj1 (Eq.refl false))))))))))))))))))) (kj4 (decide (a2.fret = 0)) rfl)
           ·replace hj4:=Option.some.inj hj4; subst hj4
            exact yun1z (c75 30) [[],[0],[0,1],[0,1,2],[0,1,2,3],[0,1,2,3,4],[0,1,2,3],[0,1,2,3],[0,1,2,3],[0,1,2,3,8],[0,1,2,3,6,7,8,9],[0,1,2,3,4,5,6,7,8,9,10],[0,1,2,3,4,5,6,7,8,9,10,11],[0,1,2,3,4,5,6,7,8,9,10,11,12],[0,1,2,3,4,5,6,7,8,9,10,11,12,13],[0,1,2,3,4,5,6,7,8,9,10,11,12,13,14],[0,1,2,3,4,5,6,7,8,9,10,11,12,13,14,15],[0,1,2,3,4,5,6,7,8,9,10,11,12,13,14,15,16],[0,1,2,3,4,5,6,7,8,9,10,11,12,13,14,15,16,17],[0,1,2,3,4,5,6,7,8,9,10,11,12,13,14,15,16,17,18],[0,1,2,3,4,5,6,7,8,9,10,11,12,13,14,15,16,17,18,19],[0,1,2,3,4,5,6,7,8,9,10,11,12,13,14,15,16,17,18,19,20],[0,1,2,3,4,5,6,7,8,9,10,11,12,13,14,15,16,17,18,19,20,21],[0,1,2,3,4,5,6,7,8,9,10,11,12,13,14,15,16,17,18,19,20,21,22]] [.light 0 false,.light 1 false,.light 2 false,.light 3 false,.light 4 false,.light 5 true,.light 6 false,.light 7 false,.light 8 false,.light 9 false,.heavy 10 [5],.light 11 false,.light 12 false,.light 13 false,.light 14 false,.light 15 false,.light 16 false,.light 17 false,.light 18 false,.light 19 false,.light 20 false,.light 21 false,.light 22 false,.light 23 false] [{},{},{},{},{},{},{},{},{},{},{ c:=some (.i r12,s_0) },{},{},{},{},{},{},{},{ g:=false },{ g:=false },{ g:=false }] [64] [.bool false] ⟨[],2⟩ _ (by kernel_rfl) (cjC (hc11) (cjC (Eq.refl false) (cjC (Eq.refl false) (cjC (Eq.refl false) (cjC (Eq.refl false) (cjC (Eq.refl false) (cjC (Eq.refl false) (cjC (f86_ok a0 a1 a2.course _ hr12 s_0) (cjC (@Eq.refl AV (.i a2.hold)) (cjC (Eq.refl false) (cjC (hc13) (cjC (Eq.refl false) (cjC (Eq.refl false) (cjC (Eq.refl false) (cjC (hc14) (cjC (Eq.refl false) (cjC (Eq.refl false) (cj1 (Eq.refl false))))))))))))))))))) (kj4 false rfl)
        ·rintro _ rfl
         rcases iteE h with ⟨hc15,h⟩ | ⟨hc15,h⟩
         ·refine run_cT 64 (c75 31) (c75 34) j4_64 hc15 (by kernel_rfl) (by kernel_rfl) ?_
          refine run1z (c75 33) [] [8] [.i 24] ⟨[],2⟩ _ (by kernel_rfl) cj0 ?_
          refine run_t (by kernel_rfl) ?_
          refine inbR ?_
          refine thenR ?_
          replace h:=Option.some.inj h; subst h
          exact fin_r (by kernel_rfl) rfl
         ·refine run_cF 64 (c75 31) (c75 34) j4_64 hc15 (by kernel_rfl) (by kernel_rfl) ?_
          refine run_k (by kernel_rfl) ?_
          refine inbN ?_
          refine thenN ?_
          refine run1z (c75 37) [] [8] [.i 0] ⟨[],2⟩ _ (by kernel_rfl) cj0 ?_
          refine run_t (by kernel_rfl) ?_
          replace h:=Option.some.inj h; subst h
          exact fin_r (by kernel_rfl) rfl
def f59 (a0:GPiece):Option Int:=(f73 a0.instrument).bind fun r1=>bif (decide (r1 ≠ 0)) then (some r1) else (bif (decide (400 < (a0.events.length:Int))) then (some 2) else ((loopN (σ:=Int) (τ:=(Unit ⊕ Int)) (fun (l1_23:Int)=>bif (decide (l1_23 < (a0.events.length:Int))) then ((ix a0.events l1_23).bind fun y5=>(((f74 y5.sign).bind fun r6=>bif (!r6) then (some true) else (bif (decide (l1_23 = 0)) then (some (eq_GSign y5.sign (⟨0,false,false⟩:GSign))) else (some false))):Option Bool).bind fun (j2_41:Bool)=>bif j2_41 then (some (.inr (.inr 20))) else (((bif y5.tie then (bif (decide (l1_23 = 0)) then (some true) else (some (decide (0 < (y5.stops.length:Int))))) else (some false)):Option Bool).bind fun (j3_53:Bool)=>bif j3_53 then (some (.inr (.inr 21))) else ((loopN (σ:=(Int × Int)) (τ:=(Unit ⊕ (Int ⊕ (Unit ⊕ Int)))) (fun ((l4_6,l4_57):(Int × Int))=>bif (decide (l4_57 < (y5.stops.length:Int))) then ((ix y5.stops l4_57).bind fun y14=>(f75 a0 l1_23 y14 l4_6).bind fun r15=>bif (decide (r15 ≠ 0)) then (some (.inr (.inr (.inr (.inr r15))))) else (some (.inl (y14.course,(wr (l4_57 + 1)))))) else (some (.inr (.inl ())))) FUEL (0,0)).bind (Sum.elim (fun (_:Unit)=>some (.inl (wr (l1_23 + 1)))) some)))) else (some (.inr (.inl ())))) FUEL 0).bind (Sum.elim (fun (_:Unit)=>some 0) some)))
theorem f59_ok (a0:GPiece) (r:Int) (h:f59 a0 = some r):APure Try.prog 59 [E_GPiece a0] (.i r):=by
 refine apure (clK (cl_GPiece a0) clZ) rfl ?_
 refine run_f 73 [.tmp 2] (c59 0) (zipE [0] [E_GPiece a0]) (by kernel_rfl) (by kernel_rfl) (by kernel_rfl) rfl ?_
 unfold f59 at h
 let b_0:Blk:=.cells 3 [E_GPiece a0]
 refine run1z (c59 2) [] [1] [.mp 0 0 0] ⟨[(0,b_0)],1⟩ _ (by kernel_rfl) cj0 ?_
 refine run_s (c59 3) (c59 12) (by kernel_rfl) ?_
 obtain ⟨r1,hr1,h⟩:=bindE h
 refine run1z (c59 5) [{},{},{ c:=some (.i r1,⟨[(0,b_0)],1⟩) }] [1,3] [.mp 0 0 0,.i r1] ⟨[(0,b_0)],1⟩ _ (by kernel_rfl) (cj1 (f73_ok a0.instrument _ hr1 ⟨[(0,b_0)],1⟩)) ?_
 refine run1z (c59 7) [] [1,3,14] [.mp 0 0 0,.i r1,.bool (decide (r1 ≠ 0))] ⟨[(0,b_0)],1⟩ _ (by kernel_rfl) cj0 ?_
 rcases iteE h with ⟨hc2,h⟩ | ⟨hc2,h⟩
 ·refine run_cT 14 (c59 8) (c59 11) (decide (r1 ≠ 0)) hc2 (by kernel_rfl) (by kernel_rfl) ?_
  refine run1z (c59 10) [] [2] [.i r1] ⟨[],1⟩ _ (by kernel_rfl) cj0 ?_
  refine run_t (by kernel_rfl) ?_
  refine thenR ?_
  replace h:=Option.some.inj h; subst h
  exact fin_r (by kernel_rfl) rfl
 ·refine run_cF 14 (c59 8) (c59 11) (decide (r1 ≠ 0)) hc2 (by kernel_rfl) (by kernel_rfl) ?_
  refine run_k (by kernel_rfl) ?_
  refine thenN ?_
  refine run_s (c59 13) (c59 20) (by kernel_rfl) ?_
  refine run1z (c59 15) [{},{},{ k:=1,n:=a0.events.length }] [1,19] [.mp 0 0 0,.bool (decide (400 < (a0.events.length:Int)))] ⟨[(0,b_0)],1⟩ _ (by kernel_rfl) (cj1 (mapLen a0.events E_GEvent)) ?_
  rcases iteE h with ⟨hc3,h⟩ | ⟨hc3,h⟩
  ·refine run_cT 19 (c59 16) (c59 19) (decide (400 < (a0.events.length:Int))) hc3 (by kernel_rfl) (by kernel_rfl) ?_
   refine run1z (c59 18) [] [2] [.i 2] ⟨[],1⟩ _ (by kernel_rfl) cj0 ?_
   refine run_t (by kernel_rfl) ?_
   refine thenR ?_
   replace h:=Option.some.inj h; subst h
   exact fin_r (by kernel_rfl) rfl
  ·refine run_cF 19 (c59 16) (c59 19) (decide (400 < (a0.events.length:Int))) hc3 (by kernel_rfl) (by kernel_rfl) ?_
   refine run_k (by kernel_rfl) ?_
   refine thenN ?_
   refine run_s (c59 21) (c59 80) (by kernel_rfl) ?_
   let v_0:AV:=.sl false (a0.events.map E_GEvent)
   let v_1:AV:=.i (a0.events.length:Int)
   refine run1z (c59 23) [{},{},{ k:=1,n:=a0.events.length }] [1,21,22,23] [.mp 0 0 0,v_0,v_1,.i 0] ⟨[(0,b_0)],1⟩ _ (by kernel_rfl) (cj1 (mapLen a0.events E_GEvent)) ?_
   obtain ⟨ol1x,hll1x,h⟩:=bindE h
   refine run_tq (fun (_:Unit)=>(zipE [] [])) (fun (_:Unit)=>⟨[],1⟩) (fun j=>ol1x = .inl j) (fun kl1=>?_) ?_
   ·refine run_b 0 (c59 24) (by kernel_rfl) ?_
    refine run_l (c59 25) _ hll1x (fun (l1_23:Int)=>(zipE [1,21,22,23] [.mp 0 0 0,v_0,v_1,.i l1_23])) (fun (l1_23:Int)=>⟨[(0,b_0)],1⟩) [] (by intro i e; cases e <;> exact Nat.le_of_ble_eq_true rfl) (by kernel_rfl) (mkInto (ks:=[1,21,22,23]) (ys:=[.mp 0 0 0,v_0,v_1,.i 0]) (by kernel_rfl) (by kernel_rfl) (.k (.mp rfl rfl) (.k (.c (cleanMap _ _ cl_GEvent)) (.k (.c rfl) (.k (.c rfl) .z)))) (.k rfl (.cells (.k (.c (cl_GPiece a0)) .z)) .z)) ?_
    rintro l1_23 out hl1 rl1
    refine run1z (c59 27) [] [1,21,22,23,24] [.mp 0 0 0,v_0,v_1,.i l1_23,.bool (decide (l1_23 < (a0.events.length:Int)))] ⟨[(0,b_0)],1⟩ _ (by kernel_rfl) cj0 ?_
    refine run_s (c59 28) (c59 31) (by kernel_rfl) ?_
    rcases iteE hl1 with ⟨hc4,hl1⟩ | ⟨hc4,hl1⟩
    ·refine run_cT 24 (c59 29) (c59 30) (decide (l1_23 < (a0.events.length:Int))) hc4 (by kernel_rfl) (by kernel_rfl) ?_
     refine run_k (by kernel_rfl) ?_
     refine thenN ?_
     refine run_s (c59 32) (c59 79) (by kernel_rfl) ?_
     refine run_b 1 (c59 33) (by kernel_rfl) ?_
     obtain ⟨y5,hy5,hl1⟩:=bindE hl1
     let b_1:Blk:=.cells 6 [E_GEvent y5]
     let s_0:St:=⟨[(1,b_1),(0,b_0)],2⟩
     refine run1z (c59 35) [{},{ k:=1,x:=E_GEvent y5 }] [1,4,5,21,22,23] [.mp 0 0 0,.i l1_23,.mp 1 0 0,v_0,v_1,.i l1_23] s_0 _ (by kernel_rfl) (cjC ((ixE hy5).1) (cj1 (mapGet E_GEvent (ixE hy5).2))) ?_
     refine run_s (c59 36) (c59 43) (by kernel_rfl) ?_
     obtain ⟨j2_41,hj2,hl1⟩:=bindE hl1
     refine run_gq (c59 38) (fun (j2_41:Bool)=>(zipE [1,4,5,21,22,23,41] [.mp 0 0 0,.i l1_23,.mp 1 0 0,v_0,v_1,.i l1_23,.bool j2_41])) (fun (j2_41:Bool)=>s_0) (fun j=>j2_41 = j) (fun kj2=>?_) ?_
     ·obtain ⟨r6,hr6,hj2⟩:=bindE hj2
      rcases iteE hj2 with ⟨hc7,hj2⟩ | ⟨hc7,hj2⟩
      ·replace hj2:=Option.some.inj hj2; subst hj2
       exact run1z (c59 38) [{},{},{ c:=some (.bool r6,s_0) },{},{},{ g:=false },{ g:=false },{ g:=false },{},{},{},{},{ g:=false },{ k:=1,b:=true }] [1,4,5,21,22,23,41] [.mp 0 0 0,.i l1_23,.mp 1 0 0,v_0,v_1,.i l1_23,.bool true] s_0 _ (by kernel_rfl) (cjC (f74_ok y5.sign _ hr6 s_0) (cjC (hc7) (cjC (hc7) (cjC (hc7) (cjC (hc7) (cj1 (hc7))))))) (kj2 true rfl)
      ·rcases iteE hj2 with ⟨hc8,hj2⟩ | ⟨hc8,hj2⟩
       ·replace hj2:=Option.some.inj hj2; subst hj2
        exact run1z (c59 38) [{},{},{ c:=some (.bool r6,s_0) },{},{},{},{},{},{},{},{},{},{ k:=1,b:=true },{ k:=1,b:=false }] [1,4,5,21,22,23,41] [.mp 0 0 0,.i l1_23,.mp 1 0 0,v_0,v_1,.i l1_23,.bool (eq_GSign y5.sign (⟨0,false,false⟩:GSign))] s_0 _ (by kernel_rfl) (cjC (f74_ok y5.sign _ hr6 s_0) (cjC (hc7) (cjC (hc7) (cjC (hc7) (cjC (hc8) (cjC (hc8) (cjC (hc8) (cjC (hc8) (cjC (hc7) (cjC (hc8) (cj1 (hc7)))))))))))) (kj2 (eq_GSign y5.sign (⟨0,false,false⟩:GSign)) rfl)
       ·replace hj2:=Option.some.inj hj2; subst hj2
        exact run1z (c59 38) [{},{},{ c:=some (.bool r6,s_0) },{},{},{},{},{},{ g:=false },{ g:=false },{ g:=false },{ g:=false },{ k:=1,b:=false },{ k:=1,b:=false }] [1,4,5,21,22,23,41] [.mp 0 0 0,.i l1_23,.mp 1 0 0,v_0,v_1,.i l1_23,.bool false] s_0 _ (by kernel_rfl) (cjC (f74_ok y5.sign _ hr6 s_0) (cjC (hc7) (cjC (hc7) (cjC (hc7) (cjC (hc8) (cjC (hc8) (cjC (hc8) (cjC (hc8) (cjC (hc7) (cjC (hc8) (cj1 (hc7)))))))))))) (kj2 false rfl)
     ·rintro _ rfl
      rcases iteE hl1 with ⟨hc9,hl1⟩ | ⟨hc9,hl1⟩
      ·refine run_cT 41 (c59 39) (c59 42) j2_41 hc9 (by kernel_rfl) (by kernel_rfl) ?_
       refine run1z (c59 41) [] [2] [.i 20] ⟨[],2⟩ _ (by kernel_rfl) cj0 ?_
       replace hl1:=Option.some.inj hl1; subst hl1
       have hr:=rl1 _ rfl
       subst hr
       replace h:=elimR h
       refine run_t (by kernel_rfl) ?_
       refine thenR ?_
       refine inbR ?_
       refine thenR ?_
       refine ⟨⟨_,rfl⟩,?_⟩
       refine inbR ?_
       refine thenR ?_
       replace h:=Option.some.inj h; subst h
       exact fin_r (by kernel_rfl) rfl
      ·refine run_cF 41 (c59 39) (c59 42) j2_41 hc9 (by kernel_rfl) (by kernel_rfl) ?_
       refine run_k (by kernel_rfl) ?_
       refine thenN ?_
       refine run_s (c59 44) (c59 51) (by kernel_rfl) ?_
       obtain ⟨j3_53,hj3,hl1⟩:=bindE hl1
       refine run_gq (c59 46) (fun (j3_53:Bool)=>(zipE [1,4,5,21,22,23,53] [.mp 0 0 0,.i l1_23,.mp 1 0 0,v_0,v_1,.i l1_23,.bool j3_53])) (fun (j3_53:Bool)=>s_0) (fun j=>j3_53 = j) (fun kj3=>?_) ?_
       ·rcases iteE hj3 with ⟨hc10,hj3⟩ | ⟨hc10,hj3⟩
        ·rcases iteE hj3 with ⟨hc11,hj3⟩ | ⟨hc11,hj3⟩
         ·replace hj3:=Option.some.inj hj3; subst hj3
          exact run1z (c59 46) [{},{},{},{},{},{},{ g:=false },{ g:=false },{ g:=false },{ g:=false },{ k:=1,b:=true },{ k:=1,b:=true }] [1,4,5,21,22,23,53] [.mp 0 0 0,.i l1_23,.mp 1 0 0,v_0,v_1,.i l1_23,.bool true] s_0 _ (by kernel_rfl) (cjC (hc10) (cjC (hc10) (cjC (hc10) (cjC (hc11) (cjC (hc11) (cjC (hc11) (cjC (hc11) (cjC (hc10) (cjC (hc11) (cj1 (hc10))))))))))) (kj3 true rfl)
         ·replace hj3:=Option.some.inj hj3; subst hj3
          exact run1z (c59 46) [{},{},{},{},{},{},{},{},{ k:=1,n:=y5.stops.length },{},{ k:=1,b:=false },{ k:=1,b:=true }] [1,4,5,21,22,23,53] [.mp 0 0 0,.i l1_23,.mp 1 0 0,v_0,v_1,.i l1_23,.bool (decide (0 < (y5.stops.length:Int)))] s_0 _ (by kernel_rfl) (cjC (hc10) (cjC (hc10) (cjC (hc10) (cjC (hc11) (cjC (hc11) (cjC (hc11) (cjC (mapLen y5.stops E_GStop) (cjC (hc11) (cjC (hc10) (cjC (hc11) (cj1 (hc10)))))))))))) (kj3 (decide (0 < (y5.stops.length:Int))) rfl)
        ·replace hj3:=Option.some.inj hj3; subst hj3
         exact run1z (c59 46) [{},{},{},{ g:=false },{ g:=false },{ g:=false },{},{},{},{},{ g:=false },{ k:=1,b:=false }] [1,4,5,21,22,23,53] [.mp 0 0 0,.i l1_23,.mp 1 0 0,v_0,v_1,.i l1_23,.bool false] s_0 _ (by kernel_rfl) (cjC (hc10) (cjC (hc10) (cjC (hc10) (cjC (hc10) (cj1 (hc10)))))) (kj3 false rfl)
       ·rintro _ rfl
        rcases iteE hl1 with ⟨hc12,hl1⟩ | ⟨hc12,hl1⟩
        ·refine run_cT 53 (c59 47) (c59 50) j3_53 hc12 (by kernel_rfl) (by kernel_rfl) ?_
         refine run1z (c59 49) [] [2] [.i 21] ⟨[],2⟩ _ (by kernel_rfl) cj0 ?_
         replace hl1:=Option.some.inj hl1; subst hl1
         have hr:=rl1 _ rfl
         subst hr
         replace h:=elimR h
         refine run_t (by kernel_rfl) ?_
         refine thenR ?_
         refine inbR ?_
         refine thenR ?_
         refine ⟨⟨_,rfl⟩,?_⟩
         refine inbR ?_
         refine thenR ?_
         replace h:=Option.some.inj h; subst h
         exact fin_r (by kernel_rfl) rfl
        ·refine run_cF 53 (c59 47) (c59 50) j3_53 hc12 (by kernel_rfl) (by kernel_rfl) ?_
         refine run_k (by kernel_rfl) ?_
         refine thenN ?_
         refine run1z (c59 53) [] [1,4,5,6,21,22,23] [.mp 0 0 0,.i l1_23,.mp 1 0 0,.i 0,v_0,v_1,.i l1_23] s_0 _ (by kernel_rfl) cj0 ?_
         let v_2:AV:=.sl false (y5.stops.map E_GStop)
         let v_3:AV:=.i (y5.stops.length:Int)
         refine run1z (c59 55) [{},{},{ k:=1,n:=y5.stops.length }] [1,4,6,21,22,23,55,56,57] [.mp 0 0 0,.i l1_23,.i 0,v_0,v_1,.i l1_23,v_2,v_3,.i 0] ⟨[(0,b_0)],2⟩ _ (by kernel_rfl) (cj1 (mapLen y5.stops E_GStop)) ?_
         obtain ⟨ol4x,hll4x,hl1⟩:=bindE hl1
         refine run_tq (fun (_:Unit)=>(zipE [1,21,22,23] [.mp 0 0 0,v_0,v_1,.i l1_23])) (fun (_:Unit)=>⟨[(0,b_0)],2⟩) (fun j=>ol4x = .inl j) (fun kl4=>?_) ?_
         ·refine run_b 2 (c59 56) (by kernel_rfl) ?_
          refine run_l (c59 57) _ hll4x (fun ((l4_6,l4_57):(Int × Int))=>(zipE [1,4,6,21,22,23,55,56,57] [.mp 0 0 0,.i l1_23,.i l4_6,v_0,v_1,.i l1_23,v_2,v_3,.i l4_57])) (fun ((l4_6,l4_57):(Int × Int))=>⟨[(0,b_0)],2⟩) [] (by intro i e; cases e <;> exact Nat.le_of_ble_eq_true rfl) (by kernel_rfl) (mkInto (ks:=[1,4,6,21,22,23,55,56,57]) (ys:=[.mp 0 0 0,.i l1_23,.i 0,v_0,v_1,.i l1_23,v_2,v_3,.i 0]) (by kernel_rfl) (by kernel_rfl) (.k (.mp rfl rfl) (.k (.c rfl) (.k (.c rfl) (.k (.c (cleanMap _ _ cl_GEvent)) (.k (.c rfl) (.k (.c rfl) (.k (.c (cleanMap _ _ cl_GStop)) (.k (.c rfl) (.k (.c rfl) .z))))))))) (.k rfl (.cells (.k (.c (cl_GPiece a0)) .z)) .z)) ?_
          rintro ⟨l4_6,l4_57⟩ out hl4 rl4
          refine run1z (c59 59) [] [1,4,6,21,22,23,55,56,57,58] [.mp 0 0 0,.i l1_23,.i l4_6,v_0,v_1,.i l1_23,v_2,v_3,.i l4_57,.bool (decide (l4_57 < (y5.stops.length:Int)))] ⟨[(0,b_0)],2⟩ _ (by kernel_rfl) cj0 ?_
          refine run_s (c59 60) (c59 63) (by kernel_rfl) ?_
          rcases iteE hl4 with ⟨hc13,hl4⟩ | ⟨hc13,hl4⟩
          ·refine run_cT 58 (c59 61) (c59 62) (decide (l4_57 < (y5.stops.length:Int))) hc13 (by kernel_rfl) (by kernel_rfl) ?_
           refine run_k (by kernel_rfl) ?_
           refine thenN ?_
           refine run_s (c59 64) (c59 78) (by kernel_rfl) ?_
           refine run_b 3 (c59 65) (by kernel_rfl) ?_
           obtain ⟨y14,hy14,hl4⟩:=bindE hl4
           let b_2:Blk:=.cells 5 [E_GStop y14]
           let s_1:St:=⟨[(2,b_2),(0,b_0)],3⟩
           refine run1z (c59 67) [{ k:=1,x:=E_GStop y14 }] [1,4,6,8,21,22,23,55,56,57] [.mp 0 0 0,.i l1_23,.i l4_6,.mp 2 0 0,v_0,v_1,.i l1_23,v_2,v_3,.i l4_57] s_1 _ (by kernel_rfl) (cjC ((ixE hy14).1) (cj1 (mapGet E_GStop (ixE hy14).2))) ?_
           refine run_s (c59 68) (c59 77) (by kernel_rfl) ?_
           obtain ⟨r15,hr15,hl4⟩:=bindE hl4
           refine run1z (c59 70) [{},{},{},{},{ c:=some (.i r15,s_1) }] [1,4,8,9,21,22,23,55,56,57] [.mp 0 0 0,.i l1_23,.mp 2 0 0,.i r15,v_0,v_1,.i l1_23,v_2,v_3,.i l4_57] s_1 _ (by kernel_rfl) (cj1 (f75_ok a0 l1_23 y14 l4_6 _ hr15 s_1)) ?_
           refine run1z (c59 72) [] [1,4,8,9,21,22,23,55,56,57,67] [.mp 0 0 0,.i l1_23,.mp 2 0 0,.i r15,v_0,v_1,.i l1_23,v_2,v_3,.i l4_57,.bool (decide (r15 ≠ 0))] s_1 _ (by kernel_rfl) cj0 ?_
           rcases iteE hl4 with ⟨hc16,hl4⟩ | ⟨hc16,hl4⟩
           ·refine run_cT 67 (c59 73) (c59 76) (decide (r15 ≠ 0)) hc16 (by kernel_rfl) (by kernel_rfl) ?_
            refine run1z (c59 75) [] [2] [.i r15] ⟨[],3⟩ _ (by kernel_rfl) cj0 ?_
            replace hl4:=Option.some.inj hl4; subst hl4
            have hr:=rl4 _ rfl
            subst hr
            replace hl1:=elimR hl1
            replace hl1:=Option.some.inj hl1; subst hl1
            have hr:=rl1 _ rfl
            subst hr
            replace h:=elimR h
            refine run_t (by kernel_rfl) ?_
            refine thenR ?_
            refine inbR ?_
            refine thenR ?_
            refine ⟨⟨_,rfl⟩,?_⟩
            refine inbR ?_
            refine inbR ?_
            refine thenR ?_
            refine ⟨⟨_,rfl⟩,?_⟩
            refine inbR ?_
            refine thenR ?_
            replace h:=Option.some.inj h; subst h
            exact fin_r (by kernel_rfl) rfl
           ·refine run_cF 67 (c59 73) (c59 76) (decide (r15 ≠ 0)) hc16 (by kernel_rfl) (by kernel_rfl) ?_
            refine run_k (by kernel_rfl) ?_
            refine thenN ?_
            refine run0z [] [1,4,6,21,22,23,55,56,57] [.mp 0 0 0,.i l1_23,.i y14.course,v_0,v_1,.i l1_23,v_2,v_3,.i l4_57] ⟨[(0,b_0)],3⟩ _ (by kernel_rfl) cj0 ?_
            refine inbN ?_
            refine thenN ?_
            refine run0z [] [1,4,6,21,22,23,55,56,57] [.mp 0 0 0,.i l1_23,.i y14.course,v_0,v_1,.i l1_23,v_2,v_3,.i (wr (l4_57 + 1))] ⟨[(0,b_0)],3⟩ _ (by kernel_rfl) cj0 ?_
            replace hl4:=Option.some.inj hl4; subst hl4
            exact ⟨_,rfl,pi [],mkInto (ks:=[1,4,6,21,22,23,55,56,57]) (ys:=[.mp 0 0 0,.i l1_23,.i y14.course,v_0,v_1,.i l1_23,v_2,v_3,.i (wr (l4_57 + 1))]) (by kernel_rfl) (by kernel_rfl) (.k (.mp rfl rfl) (.k (.c rfl) (.k (.c rfl) (.k (.c (cleanMap _ _ cl_GEvent)) (.k (.c rfl) (.k (.c rfl) (.k (.c (cleanMap _ _ cl_GStop)) (.k (.c rfl) (.k (.c rfl) .z))))))))) (.k rfl (.cells (.k (.c (cl_GPiece a0)) .z)) .z)⟩
          ·refine run_cF 58 (c59 61) (c59 62) (decide (l4_57 < (y5.stops.length:Int))) hc13 (by kernel_rfl) (by kernel_rfl) ?_
           replace hl4:=Option.some.inj hl4; subst hl4
           have hr:=rl4 _ rfl
           subst hr
           refine awp_p [1,21,22,23] [0] (zipE [1,21,22,23] [.mp 0 0 0,v_0,v_1,.i l1_23]) ⟨[(0,b_0)],2⟩ (by kernel_rfl) (?_)
           refine run_e 2 (by kernel_rfl) ?_
           refine thenE ?_
           refine ⟨⟨_,rfl⟩,?_⟩
           refine inbE ?_
           exact kl4 () rfl
         ·rintro ⟨⟩ rfl
          replace hl1:=elimL hl1
          refine inbN ?_
          refine thenN ?_
          refine run0z [] [1,21,22,23] [.mp 0 0 0,v_0,v_1,.i (wr (l1_23 + 1))] ⟨[(0,b_0)],2⟩ _ (by kernel_rfl) cj0 ?_
          replace hl1:=Option.some.inj hl1; subst hl1
          exact ⟨_,rfl,pi [],mkInto (ks:=[1,21,22,23]) (ys:=[.mp 0 0 0,v_0,v_1,.i (wr (l1_23 + 1))]) (by kernel_rfl) (by kernel_rfl) (.k (.mp rfl rfl) (.k (.c (cleanMap _ _ cl_GEvent)) (.k (.c rfl) (.k (.c rfl) .z)))) (.k rfl (.cells (.k (.c (cl_GPiece a0)) .z)) .z)⟩
    ·refine run_cF 24 (c59 29) (c59 30) (decide (l1_23 < (a0.events.length:Int))) hc4 (by kernel_rfl) (by kernel_rfl) ?_
     replace hl1:=Option.some.inj hl1; subst hl1
     have hr:=rl1 _ rfl
     subst hr
     refine awp_p [] [] (zipE [] []) ⟨[],1⟩ (by kernel_rfl) (?_)
     refine run_e 0 (by kernel_rfl) ?_
     refine thenE ?_
     refine ⟨⟨_,rfl⟩,?_⟩
     refine inbE ?_
     exact kl1 () rfl
   ·rintro ⟨⟩ rfl
    replace h:=elimL h
    refine thenN ?_
    refine run1z (c59 82) [] [2] [.i 0] ⟨[],1⟩ _ (by kernel_rfl) cj0 ?_
    refine run_t (by kernel_rfl) ?_
    replace h:=Option.some.inj h; subst h
    exact fin_r (by kernel_rfl) rfl
def f60 (a0:GPiece):Option Unit:=some ()
theorem f60_ok (a0:GPiece) (r:Unit) (h:f60 a0 = some r):ACalls Try.prog 60 [E_GPiece a0] ⟨[],0⟩ (fun y t=>y = .fn 76 [.mp 0 0 0] ∧ t = ⟨[(0,.cells 3 [E_GPiece a0])],1⟩):=by
 refine run_f 4 [.tmp 2] (c60 0) (zipE [0] [E_GPiece a0]) (by kernel_rfl) (by kernel_rfl) (by kernel_rfl) rfl ?_
 unfold f60 at h
 let b_0:Blk:=.cells 3 [E_GPiece a0]
 refine run1z (c60 2) [] [1] [.mp 0 0 0] ⟨[(0,b_0)],1⟩ _ (by kernel_rfl) cj0 ?_
 refine run1z (c60 4) [] [2] [.fn 76 [.mp 0 0 0]] ⟨[(0,b_0)],1⟩ _ (by kernel_rfl) cj0 ?_
 refine run_t (by kernel_rfl) ?_
 replace h:=Option.some.inj h; subst h
 exact fin_p [0] ⟨[(0,b_0)],1⟩ (by kernel_rfl) (by kernel_rfl) rfl ⟨rfl,rfl⟩
def f76 (a0_e5:List Int) (a0_e15_0:GPiece):Option (List Int):=(loopN (σ:=(List Int × Int × Int)) (τ:=((List Int) ⊕ (List Int))) (fun ((l1_h1,l1_3,l1_10):(List Int × Int × Int))=>bif (decide (l1_10 < (a0_e15_0.events.length:Int))) then ((ix a0_e15_0.events l1_10).bind fun y2=>(((f77 y2.sign).bind fun r3=>bif (decide (0 < r3)) then (some r3) else (some l1_3)):Option Int).bind fun (j2_3:Int)=>(((ix l1_h1 l1_10).bind fun y6=>need (l1_h1.length + 1 ≤ maxElems) <| some (l1_h1 ++ [(wr (y6 + j2_3))]):Option (List Int))).bind fun r5=>some (.inl (r5,j2_3,(wr (l1_10 + 1))))) else (some (.inr (.inl l1_h1)))) FUEL (a0_e5,0,0)).bind (Sum.elim (fun (l1x_h1:(List Int))=>some l1x_h1) some)
theorem f76_ok (a0_e5:List Int) (a0_e15_0:GPiece) (r:(List Int)) (h:f76 a0_e5 a0_e15_0 = some r):ACalls Try.prog 76 [.yld 0,.mp 3 0 0] ⟨[(3,.cells 3 [E_GPiece a0_e15_0]),(2,.cells 1 (a0_e5.map AV.i)),(1,.cells 1 [.ms 2 0 a0_e5.length]),(0,.loop ⟨zipE [5,15] [.mp 1 0 0,.fn 76 [.mp 3 0 0]],28,[16,17],(c39 19),(c39 22),.ready,none⟩)],4⟩ (fun y t=>y = .tup [] ∧ t = ⟨[(4,.cells 1 (r.map AV.i)),(3,.cells 3 [E_GPiece a0_e15_0]),(1,.cells 1 [.ms 4 0 r.length]),(0,.loop ⟨zipE [5,15] [.mp 1 0 0,.fn 76 [.mp 3 0 0]],28,[16,17],(c39 19),(c39 22),.ready,none⟩)],5⟩):=by
 refine run_f 27 [] (c76 0) (zipE [0,1] [.yld 0,.mp 3 0 0]) (by kernel_rfl) (by kernel_rfl) (by kernel_rfl) rfl ?_
 unfold f76 at h
 let w_0:AV:=.fn 76 [.mp 3 0 0]
 let b_0:Blk:=.cells 1 [.ms 2 0 a0_e5.length]
 let b_1:Blk:=.cells 3 [E_GPiece a0_e15_0]
 let s_0:St:=⟨[(3,b_1),(2,.cells 1 (a0_e5.map AV.i)),(1,b_0),(0,.loop ⟨zipE [5,15] [.mp 1 0 0,w_0],28,[16,17],(c39 19),(c39 22),.ready,none⟩)],4⟩
 refine run1z (c76 2) [] [0,1,3] [.yld 0,.mp 3 0 0,.i 0] s_0 _ (by kernel_rfl) cj0 ?_
 let v_0:AV:=.sl false (a0_e15_0.events.map E_GEvent)
 let v_1:AV:=.i (a0_e15_0.events.length:Int)
 refine run1z (c76 4) [{},{},{ k:=1,n:=a0_e15_0.events.length }] [0,3,8,9,10] [.yld 0,.i 0,v_0,v_1,.i 0] s_0 _ (by kernel_rfl) (cj1 (mapLen a0_e15_0.events E_GEvent)) ?_
 obtain ⟨ol1x,hll1x,h⟩:=bindE h
 refine run_tq (fun (l1x_h1:(List Int))=>(zipE [] [])) (fun (l1x_h1:(List Int))=>⟨[(4,.cells 1 (l1x_h1.map AV.i)),(3,b_1),(1,.cells 1 [.ms 4 0 l1x_h1.length]),(0,.loop ⟨zipE [5,15] [.mp 1 0 0,w_0],28,[16,17],(c39 19),(c39 22),.ready,none⟩)],5⟩) (fun j=>ol1x = .inl j) (fun kl1=>?_) ?_
 ·refine run_b 0 (c76 5) (by kernel_rfl) ?_
  refine run_l (c76 6) _ hll1x (fun ((l1_h1,l1_3,l1_10):(List Int × Int × Int))=>(zipE [0,3,8,9,10] [.yld 0,.i l1_3,v_0,v_1,.i l1_10])) (fun ((l1_h1,l1_3,l1_10):(List Int × Int × Int))=>⟨[(4,.cells 1 (l1_h1.map AV.i)),(3,b_1),(1,.cells 1 [.ms 4 0 l1_h1.length]),(0,.loop ⟨zipE [5,15] [.mp 1 0 0,w_0],28,[16,17],(c39 19),(c39 22),.ready,none⟩)],5⟩) [(4,2)] (by intro i e; cases e <;> exact Nat.le_of_ble_eq_true rfl) (by kernel_rfl) (mkInto (ks:=[0,3,8,9,10]) (ys:=[.yld 0,.i 0,v_0,v_1,.i 0]) (by kernel_rfl) (by kernel_rfl) (.k (.y rfl rfl) (.k (.c rfl) (.k (.c (cleanMap _ _ cl_GEvent)) (.k (.c rfl) (.k (.c rfl) .z))))) (.k rfl (.cells (.r (cleanMap _ _ cl_i))) (.k rfl (.cells (.k (.c (cl_GPiece a0_e15_0)) .z)) (.k rfl (.cells (.k (.ms rfl rfl) .z)) (.k rfl (.loop (ks:=[5,15]) (.k (.mp rfl rfl) (.k (.f (.k (.mp rfl rfl) .z)) .z))) .z))))) ?_
  rintro ⟨l1_h1,l1_3,l1_10⟩ out hl1 rl1
  let v_2:AV:=.ms 4 0 l1_h1.length
  let b_2:Blk:=.cells 1 (l1_h1.map AV.i)
  let s_1:St:=⟨[(4,b_2),(3,b_1),(1,.cells 1 [v_2]),(0,.loop ⟨zipE [5,15] [.mp 1 0 0,w_0],28,[16,17],(c39 19),(c39 22),.ready,none⟩)],5⟩
  refine run1z (c76 8) [] [0,3,8,9,10,11] [.yld 0,.i l1_3,v_0,v_1,.i l1_10,.bool (decide (l1_10 < (a0_e15_0.events.length:Int)))] s_1 _ (by kernel_rfl) cj0 ?_
  refine run_s (c76 9) (c76 12) (by kernel_rfl) ?_
  rcases iteE hl1 with ⟨hc1,hl1⟩ | ⟨hc1,hl1⟩
  ·refine run_cT 11 (c76 10) (c76 11) (decide (l1_10 < (a0_e15_0.events.length:Int))) hc1 (by kernel_rfl) (by kernel_rfl) ?_
   refine run_k (by kernel_rfl) ?_
   refine thenN ?_
   refine run_s (c76 13) (c76 29) (by kernel_rfl) ?_
   refine run_b 1 (c76 14) (by kernel_rfl) ?_
   obtain ⟨y2,hy2,hl1⟩:=bindE hl1
   let b_3:Blk:=.cells 6 [E_GEvent y2]
   let s_2:St:=⟨[(5,b_3),(4,b_2),(3,b_1),(1,.cells 1 [v_2]),(0,.loop ⟨zipE [5,15] [.mp 1 0 0,w_0],28,[16,17],(c39 19),(c39 22),.ready,none⟩)],6⟩
   refine run1z (c76 16) [{},{ k:=1,x:=E_GEvent y2 }] [0,3,4,5,8,9,10] [.yld 0,.i l1_3,.i l1_10,.mp 5 0 0,v_0,v_1,.i l1_10] s_2 _ (by kernel_rfl) (cjC ((ixE hy2).1) (cj1 (mapGet E_GEvent (ixE hy2).2))) ?_
   obtain ⟨j2_3,hj2,hl1⟩:=bindE hl1
   let s_3:St:=⟨[(4,b_2),(3,b_1),(1,.cells 1 [v_2]),(0,.loop ⟨zipE [5,15] [.mp 1 0 0,w_0],28,[16,17],(c39 19),(c39 22),.ready,none⟩)],6⟩
   refine run_jq (c76 17) (c76 24) (fun (j2_3:Int)=>(zipE [0,3,4,8,9,10] [.yld 0,.i j2_3,.i l1_10,v_0,v_1,.i l1_10])) (fun (j2_3:Int)=>s_3) (fun j=>j2_3 = j) (by kernel_rfl) (fun kj2=>?_) ?_
   ·obtain ⟨r3,hr3,hj2⟩:=bindE hj2
    refine run1z (c76 19) [{},{},{ c:=some (.i r3,s_2) }] [0,3,4,6,8,9,10] [.yld 0,.i l1_3,.i l1_10,.i r3,v_0,v_1,.i l1_10] s_3 _ (by kernel_rfl) (cj1 (f77_ok y2.sign _ hr3 s_2)) ?_
    refine run1z (c76 21) [] [0,3,4,6,8,9,10,19] [.yld 0,.i l1_3,.i l1_10,.i r3,v_0,v_1,.i l1_10,.bool (decide (0 < r3))] s_3 _ (by kernel_rfl) cj0 ?_
    rcases iteE hj2 with ⟨hc4,hj2⟩ | ⟨hc4,hj2⟩
    ·refine run_cT 19 (c76 22) (c76 23) (decide (0 < r3)) hc4 (by kernel_rfl) (by kernel_rfl) ?_
     refine run0z [] [0,3,4,8,9,10] [.yld 0,.i r3,.i l1_10,v_0,v_1,.i l1_10] s_3 _ (by kernel_rfl) cj0 ?_
     replace hj2:=Option.some.inj hj2; subst hj2
     refine thenN ?_
     exact kj2 r3 rfl
    ·refine run_cF 19 (c76 22) (c76 23) (decide (0 < r3)) hc4 (by kernel_rfl) (by kernel_rfl) ?_
     replace hj2:=Option.some.inj hj2; subst hj2
     refine awp_p [0,3,4,8,9,10] [4,3,1,0] (zipE [0,3,4,8,9,10] [.yld 0,.i l1_3,.i l1_10,v_0,v_1,.i l1_10]) s_3 (by kernel_rfl) (?_)
     refine run_k (by kernel_rfl) ?_
     refine thenN ?_
     exact kj2 l1_3 rfl
   ·rintro _ rfl
    obtain ⟨r5,hr5,hl1⟩:=bindE hl1
    have hYr5:AYield Try.prog 0 [.i l1_10,.i j2_3] ⟨[(4,.cells 1 (l1_h1.map AV.i)),(3,.cells 3 [E_GPiece a0_e15_0]),(1,.cells 1 [.ms 4 0 l1_h1.length]),(0,.loop ⟨zipE [5,15] [.mp 1 0 0,.fn 76 [.mp 3 0 0]],28,[16,17],(c39 19),(c39 22),.ready,none⟩)],6⟩ (fun y t=>y = .bool true ∧ t = ⟨[(6,.cells 1 (r5.map AV.i)),(3,.cells 3 [E_GPiece a0_e15_0]),(1,.cells 1 [.ms 6 0 r5.length]),(0,.loop ⟨zipE [5,15] [.mp 1 0 0,.fn 76 [.mp 3 0 0]],28,[16,17],(c39 19),(c39 22),.ready,none⟩)],7⟩):=by
     refine run_y ⟨zipE [5,15] [.mp 1 0 0,w_0],28,[16,17],(c39 19),(c39 22),.ready,none⟩ (putParams [16,17] [.i l1_10,.i j2_3] (zipE [5,15] [.mp 1 0 0,w_0])) (by kernel_rfl) rfl (by kernel_rfl) ?_
     refine run1z (c39 21) [] [5,6,15,17] [.mp 1 0 0,.i l1_10,w_0,.i j2_3] s_3 _ (by kernel_rfl) cj0 ?_
     refine run0z [] [5,6,7,15] [.mp 1 0 0,.i l1_10,.i j2_3,w_0] s_3 _ (by kernel_rfl) cj0 ?_
     refine thenN ⟨⟨zipE [5,15] [.mp 1 0 0,w_0],28,[16,17],(c39 19),(c39 22),.ready,none⟩,by kernel_rfl,rfl,?_⟩
     refine awp_post (by intro i e; cases e <;> exact Nat.le_of_ble_eq_true rfl) ?_
     refine run_b 1 (c39 23) (by kernel_rfl) ?_
     obtain ⟨y6,hy6,hr5⟩:=bindE hr5
     obtain ⟨hn7,hr5⟩:=needE hr5
     let b_4:Blk:=.cells 1 [.ms 6 0 (l1_h1 ++ [(wr (y6 + j2_3))]).length]
     let b_5:Blk:=.cells 1 ((l1_h1 ++ [(wr (y6 + j2_3))]).map AV.i)
     let s_4:St:=⟨[(6,b_5),(3,b_1),(1,b_4),(0,.loop ⟨zipE [5,15] [.mp 1 0 0,w_0],28,[16,17],(c39 19),(c39 22),.busy,none⟩)],7⟩
     refine yun0z [[],[],[],[1,2],[1,2,3],[],[1,2,3,4,5],[1,2,3,4,5,6],[0,1,2,3,4,5,6,7],[0,1,2,3,4,5,6,7,8]] [.light 0 false,.light 1 false,.light 2 false,.light 3 false,.light 4 false,.light 5 false,.light 6 false,.light 7 false,.heavy 8 [],.heavy 9 []] [{},{},{},{ k:=1,n:=l1_10.toNat },{ k:=1,x:=AV.i y6 },{},{},{},{ k:=1,n:=(l1_h1 ++ [(wr (y6 + j2_3))]).length,l:=(l1_h1 ++ [(wr (y6 + j2_3))]).map AV.i }] [5,15] [.mp 1 0 0,w_0] s_4 _ (by kernel_rfl) (cjC ((ixE hy6).1) (cjC (ixLt hy6) (cjC (Nat.zero_add l1_10.toNat) (cjC (mapGet AV.i (ixE hy6).2) (cjC (@List.cons_ne_nil AV (.i (wr (y6 + j2_3))) []) (cjC (mLe l1_h1 AV.i) (cjC (hn7) (cjC (lenA l1_h1 ([(wr (y6 + j2_3))]:List Int)) (cjC (appA l1_h1 ([(wr (y6 + j2_3))]:List Int) AV.i) (cj1 (fitsOne (P:=Try.prog) (t:=3) (x:=.i (wr (y6 + j2_3))) (r:=[]) (by kernel_rfl)))))))))))) ?_
     replace hr5:=Option.some.inj hr5; subst hr5
     refine inbN ?_
     exact ⟨7,pi [],zipE [] [],s_4,Nat.le_of_ble_eq_true rfl,mkInto (ks:=[]) (ys:=[]) (by kernel_rfl) (by kernel_rfl) .z (.k (x':=b_5) (by kernel_rfl) (.cells (.r (cleanMap _ _ cl_i))) (.k rfl (.cells (.k (.c (cl_GPiece a0_e15_0)) .z)) (.k rfl (.cells (.k (.ms rfl rfl) .z)) (.k rfl (.loop (ks:=[5,15]) (.k (.mp rfl rfl) (.k (.f (.k (.mp rfl rfl) .z)) .z))) .z)))),⟨zipE [5,15] [.mp 1 0 0,w_0],28,[16,17],(c39 19),(c39 22),.busy,none⟩,by kernel_rfl,rfl,by kernel_rfl⟩
    let b_6:Blk:=.cells 1 [.ms 6 0 r5.length]
    let b_7:Blk:=.cells 1 (r5.map AV.i)
    let s_5:St:=⟨[(6,b_7),(3,b_1),(1,b_6),(0,.loop ⟨zipE [5,15] [.mp 1 0 0,w_0],28,[16,17],(c39 19),(c39 22),.ready,none⟩)],7⟩
    refine run1z (c76 26) [{},{},{},{ c:=some (.bool true,s_5) }] [0,3,8,9,10,25] [.yld 0,.i j2_3,v_0,v_1,.i l1_10,.bool false] s_5 _ (by kernel_rfl) (cj1 (hYr5)) ?_
    refine run_cF 25 (c76 27) (c76 28) false rfl (by kernel_rfl) (by kernel_rfl) ?_
    refine run_k (by kernel_rfl) ?_
    refine inbN ?_
    refine thenN ?_
    refine run0z [] [0,3,8,9,10] [.yld 0,.i j2_3,v_0,v_1,.i (wr (l1_10 + 1))] s_5 _ (by kernel_rfl) cj0 ?_
    replace hl1:=Option.some.inj hl1; subst hl1
    exact ⟨_,rfl,pi [(4,6)],mkInto (ks:=[0,3,8,9,10]) (ys:=[.yld 0,.i j2_3,v_0,v_1,.i (wr (l1_10 + 1))]) (by kernel_rfl) (by kernel_rfl) (.k (.y rfl rfl) (.k (.c rfl) (.k (.c (cleanMap _ _ cl_GEvent)) (.k (.c rfl) (.k (.c rfl) .z))))) (.k rfl (.cells (.r (cleanMap _ _ cl_i))) (.k rfl (.cells (.k (.c (cl_GPiece a0_e15_0)) .z)) (.k rfl (.cells (.k (.ms rfl rfl) .z)) (.k rfl (.loop (ks:=[5,15]) (.k (.mp rfl rfl) (.k (.f (.k (.mp rfl rfl) .z)) .z))) .z))))⟩
  ·refine run_cF 11 (c76 10) (c76 11) (decide (l1_10 < (a0_e15_0.events.length:Int))) hc1 (by kernel_rfl) (by kernel_rfl) ?_
   replace hl1:=Option.some.inj hl1; subst hl1
   have hr:=rl1 _ rfl
   subst hr
   refine awp_p [] [4,3,1,0] (zipE [] []) s_1 (by kernel_rfl) (?_)
   refine run_e 0 (by kernel_rfl) ?_
   refine thenE ?_
   refine ⟨⟨_,rfl⟩,?_⟩
   refine inbE ?_
   exact kl1 l1_h1 rfl
 ·rintro l1x_h1 rfl
  replace h:=elimL h
  replace h:=Option.some.inj h; subst h
  exact fin_q [4,3,1,0] ⟨[(4,.cells 1 (l1x_h1.map AV.i)),(3,b_1),(1,.cells 1 [.ms 4 0 l1x_h1.length]),(0,.loop ⟨zipE [5,15] [.mp 1 0 0,w_0],28,[16,17],(c39 19),(c39 22),.ready,none⟩)],5⟩ (by kernel_rfl) (by kernel_rfl) rfl ⟨rfl,rfl⟩
def f39 (a0:GPiece):Option (((List Int)) × Int):=(f59 a0).bind fun r1=>bif (decide (r1 ≠ 0)) then (some (([]:List Int),r1)) else ((f60 a0).bind fun r3=>(f76 ([0]:List Int) a0).bind fun r4=>some (r4,0))
theorem f39_ok (a0:GPiece) (r:(((List Int)) × Int)) (h:f39 a0 = some r):APure Try.prog 39 [E_GPiece a0] (.tup [.sl false (r.1.map AV.i),.i r.2]):=by
 refine apure (clK (cl_GPiece a0) clZ) (clK (cleanMap r.1 _ cl_i) (clK rfl clZ)) ?_
 refine run_f 28 [.tmp 2,.tmp 3] (c39 0) (zipE [0] [E_GPiece a0]) (by kernel_rfl) (by kernel_rfl) (by kernel_rfl) rfl ?_
 unfold f39 at h
 let b_0:Blk:=.cells 3 [E_GPiece a0]
 refine run1z (c39 2) [] [1] [.mp 0 0 0] ⟨[(0,b_0)],1⟩ _ (by kernel_rfl) cj0 ?_
 refine run_s (c39 3) (c39 12) (by kernel_rfl) ?_
 obtain ⟨r1,hr1,h⟩:=bindE h
 refine run1z (c39 5) [{},{ c:=some (.i r1,⟨[(0,b_0)],1⟩) }] [1,4] [.mp 0 0 0,.i r1] ⟨[(0,b_0)],1⟩ _ (by kernel_rfl) (cj1 (f59_ok a0 _ hr1 ⟨[(0,b_0)],1⟩)) ?_
 refine run1z (c39 7) [] [1,4,11] [.mp 0 0 0,.i r1,.bool (decide (r1 ≠ 0))] ⟨[(0,b_0)],1⟩ _ (by kernel_rfl) cj0 ?_
 rcases iteE h with ⟨hc2,h⟩ | ⟨hc2,h⟩
 ·refine run_cT 11 (c39 8) (c39 11) (decide (r1 ≠ 0)) hc2 (by kernel_rfl) (by kernel_rfl) ?_
  refine run1z (c39 10) [] [2,3] [.sl true [],.i r1] ⟨[],1⟩ _ (by kernel_rfl) cj0 ?_
  refine run_i 1 [] [2,3] [.sl true [],.i r1] (xs:=[.sl false (([]:List Int).map AV.i),.i r1]) (S2:=⟨[],1⟩) ?_ (by intro i e; cases e <;> exact Nat.le_of_ble_eq_true rfl) (by kernel_rfl) (by kernel_rfl) (by kernel_rfl) (.k (.s (cleanMap (([]:List Int)) _ cl_i)) (.k (.c rfl) .z)) .z
  refine run_t (by kernel_rfl) ?_
  refine thenR ?_
  replace h:=Option.some.inj h; subst h
  exact fin_r (by kernel_rfl) rfl
 ·refine run_cF 11 (c39 8) (c39 11) (decide (r1 ≠ 0)) hc2 (by kernel_rfl) (by kernel_rfl) ?_
  refine run_k (by kernel_rfl) ?_
  refine thenN ?_
  let b_1:Blk:=.cells 1 [.ms 1 0 ([0]:List Int).length]
  let b_2:Blk:=.cells 1 (([0]:List Int).map AV.i)
  let s_0:St:=⟨[(2,b_1),(1,b_2),(0,b_0)],3⟩
  refine run1z (c39 14) [{ k:=3,n:=([0]:List Int).length,l:=([0]:List Int).map AV.i }] [1,5] [.mp 0 0 0,.mp 2 0 0] s_0 _ (by kernel_rfl) (cjC (@Eq.refl (List AV) (([0]:List Int).map AV.i)) (cj1 (@Eq.refl Nat (([0]:List Int).length)))) ?_
  refine run_s (c39 15) (c39 24) (by kernel_rfl) ?_
  obtain ⟨r3,hr3,h⟩:=bindE h
  let w_0:AV:=.fn 76 [.mp 3 0 0]
  let s_1:St:=⟨[(3,b_0),(2,b_1),(1,b_2),(0,b_0)],4⟩
  refine run1z (c39 17) [{},{ c:=some (w_0,s_1) }] [5,15] [.mp 2 0 0,w_0] ⟨[(3,b_0),(2,b_1),(1,b_2)],4⟩ _ (by kernel_rfl) (cj1 (callF (f60_ok a0 _ hr3) [] [(3,0)] [2,1,0] [E_GPiece a0] s_0 (w_0) s_1 (by kernel_rfl) (.k (.c (cl_GPiece a0)) .z) (.f (.k (.mp rfl rfl) .z)) .z (.d (x':=b_0) rfl (by kernel_rfl) (.cells (.k (.c (cl_GPiece a0)) .z)) (.f rfl (by kernel_rfl) (.f rfl (by kernel_rfl) (.f rfl (by kernel_rfl) .z)))))) ?_
  refine run_b 0 (c39 18) (by kernel_rfl) ?_
  obtain ⟨r4,hr4,h⟩:=bindE h
  let v_0:AV:=.ms 6 0 r4.length
  let b_3:Blk:=.cells 1 (r4.map AV.i)
  let s_2:St:=⟨[(6,b_3),(5,.loop ⟨zipE [5,15] [.mp 2 0 0,w_0],28,[16,17],(c39 19),(c39 22),.ready,none⟩),(3,b_0),(2,.cells 1 [v_0])],7⟩
  refine run_rf (g:=.tmp 15) (ps:=[16,17]) (assign:=(c39 19)) (body:=(c39 22)) (gf:=76) (caps:=[.mp 3 0 0]) (v:=.tup []) (s':=s_2) (by kernel_rfl) (by kernel_rfl) (by kernel_rfl) (callF (f76_ok ([0]:List Int) a0 _ hr4) [(0,5),(1,2),(2,1),(3,3)] [(6,4),(3,3),(2,1),(5,0)] [] [.yld 5,.mp 3 0 0] ⟨[(5,.loop ⟨zipE [5,15] [.mp 2 0 0,w_0],28,[16,17],(c39 19),(c39 22),.ready,none⟩),(3,b_0),(2,b_1),(1,b_2)],6⟩ (.tup []) s_2 (by kernel_rfl) (.k (.y rfl rfl) (.k (.mp rfl rfl) .z)) (.t .z) (.k rfl (.cells (.k (.c (cl_GPiece a0)) .z)) (.k rfl (.cells (.r (cleanMap _ _ cl_i))) (.k rfl (.cells (.k (.ms rfl rfl) .z)) (.k rfl (.loop (ks:=[5,15]) (.k (.mp rfl rfl) (.k (.f (.k (.mp rfl rfl) .z)) .z))) .z)))) (.d (x':=b_3) rfl (by kernel_rfl) (.cells (.r (cleanMap _ _ cl_i))) (.d (x':=.loop ⟨zipE [5,15] [.mp 1 0 0,w_0],28,[16,17],(c39 19),(c39 22),.ready,none⟩) rfl (by kernel_rfl) (.loop (ks:=[5,15]) (.k (.mp rfl rfl) (.k (.f (.k (.mp rfl rfl) .z)) .z))) (.d (x':=b_0) rfl (by kernel_rfl) (.cells (.k (.c (cl_GPiece a0)) .z)) (.d (x':=.cells 1 [.ms 4 0 r4.length]) rfl (by kernel_rfl) (.cells (.k (.ms rfl rfl) .z)) .z))))) ⟨zipE [5,15] [.mp 2 0 0,w_0],28,[16,17],(c39 19),(c39 22),.ready,none⟩ (by kernel_rfl) (by intro e; cases e) rfl ?_
  refine inbN ?_
  refine thenN ?_
  refine run1z (c39 26) [] [2,3] [v_0,.i 0] ⟨[(4,.dfr),(6,b_3)],7⟩ _ (by kernel_rfl) cj0 ?_
  refine run_z 6 1 (r4.map AV.i) [2,3] [v_0,.i 0] (xs:=[.sl false (r4.map AV.i),.i 0]) (S2:=⟨[(4,.dfr)],7⟩) ?_ (by kernel_rfl) (by kernel_rfl) (.k (.m (mLe r4 AV.i) (mapAll r4 AV.i)) (.k (.r _) .z)) (.k (x':=.dfr) rfl (by kernel_rfl) (.r _) .z) rfl rfl
  refine run_t (by kernel_rfl) ?_
  replace h:=Option.some.inj h; subst h
  exact fin_r (by kernel_rfl) rfl
def f54 (a0:GPiece):Option (GSSounding × Int):=(f39 a0).bind fun r1=>some ((⟨a0,r1.1⟩:GSSounding),r1.2)
theorem f54_ok (a0:GPiece) (r:(GSSounding × Int)) (h:f54 a0 = some r):APure Try.prog 54 [E_GPiece a0] (.tup [E_GSSounding r.1,.i r.2]):=by
 refine apure (clK (cl_GPiece a0) clZ) (clK (cl_GSSounding r.1) (clK rfl clZ)) ?_
 refine run_f 15 [.cell 2 121,.tmp 3] (c54 0) (zipE [0] [E_GPiece a0]) (by kernel_rfl) (by kernel_rfl) (by kernel_rfl) rfl ?_
 unfold f54 at h
 let w_0:AV:=.agg [.sl true [],.sl true [],.sl true [],.sl true []]
 let b_0:Blk:=.cells 3 [E_GPiece a0]
 let s_0:St:=⟨[(1,.cells 4 [w_0]),(0,b_0)],2⟩
 refine run1z (c54 2) [] [1,2] [.mp 0 0 0,.mp 1 0 0] s_0 _ (by kernel_rfl) cj0 ?_
 obtain ⟨r1,hr1,h⟩:=bindE h
 let v_0:AV:=.sl false (r1.1.map AV.i)
 refine run1z (c54 4) [{},{ c:=some (.tup [v_0,.i r1.2],s_0) }] [1,2,4,5] [.mp 0 0 0,.mp 1 0 0,v_0,.i r1.2] s_0 _ (by kernel_rfl) (cj1 (f39_ok a0 _ hr1 s_0)) ?_
 refine run1z (c54 6) [] [2,3] [.mp 1 0 0,.i r1.2] ⟨[(1,.cells 4 [.agg [.sl false (a0.instrument.courses.map E_GCourse),.sl false (a0.instrument.steps.map AV.i),.sl false (a0.events.map E_GEvent),v_0]])],2⟩ _ (by kernel_rfl) cj0 ?_
 refine run_t (by kernel_rfl) ?_
 replace h:=Option.some.inj h; subst h
 exact fin_r (by kernel_rfl) rfl
def f67 (a0:Int) (a1:Int) (a2:List Int) (a3:List GNote):Option (List GNote × List Int):=need (a0 < 15) <| (ix a2 a0).bind fun y2=>bif (decide (0 < y2)) then ((ix a3 (wr (y2 - 1))).bind fun y4=>some ((a3.set (wr (y2 - 1)).toNat (⟨y4.event,y4.course,y4.pitch,y4.from_,a1⟩:GNote)),(a2.set a0.toNat 0))) else (some (a3,a2))
theorem f67_ok (a0:Int) (a1:Int) (a2:List Int) (a3:List GNote) (r:(List GNote × List Int)) (h:f67 a0 a1 a2 a3 = some r):ACalls Try.prog 67 [.i a0,.i a1,.mp 0 0 0,.mp 1 0 0] ⟨[(2,.cells 5 (a3.map E_GNote)),(1,.cells 1 [.ms 2 0 a3.length]),(0,.cells 15 [.agg (a2.map AV.i)])],3⟩ (fun y t=>y = .tup [] ∧ t = ⟨[(2,.cells 5 (r.1.map E_GNote)),(1,.cells 1 [.ms 2 0 r.1.length]),(0,.cells 15 [.agg (r.2.map AV.i)])],3⟩):=by
 refine run_f 20 [] (c67 0) (zipE [0,1,2,3] [.i a0,.i a1,.mp 0 0 0,.mp 1 0 0]) (by kernel_rfl) (by kernel_rfl) (by kernel_rfl) rfl ?_
 unfold f67 at h
 obtain ⟨hn1,h⟩:=needE h
 obtain ⟨y2,hy2,h⟩:=bindE h
 let v_0:AV:=.ms 2 0 a3.length
 let b_0:Blk:=.cells 15 [.agg (a2.map AV.i)]
 let b_1:Blk:=.cells 5 (a3.map E_GNote)
 let s_0:St:=⟨[(2,b_1),(1,.cells 1 [v_0]),(0,b_0)],3⟩
 refine run1z (c67 2) [{},{ k:=1,n:=a0.toNat },{ k:=2,x:=.i y2 }] [0,1,2,3,6] [.i a0,.i a1,.mp 0 0 0,.mp 1 0 0,.i y2] s_0 _ (by kernel_rfl) (cjC ((ixE hy2).1) (cjC (hn1) (cjC (vecOff a0.toNat) (cj1 (mapGet AV.i (ixE hy2).2))))) ?_
 refine run1z (c67 4) [] [0,1,2,3,6,11] [.i a0,.i a1,.mp 0 0 0,.mp 1 0 0,.i y2,.bool (decide (0 < y2))] s_0 _ (by kernel_rfl) cj0 ?_
 rcases iteE h with ⟨hc3,h⟩ | ⟨hc3,h⟩
 ·refine run_cT 11 (c67 5) (c67 8) (decide (0 < y2)) hc3 (by kernel_rfl) (by kernel_rfl) ?_
  obtain ⟨y4,hy4,h⟩:=bindE h
  let b_2:Blk:=.cells 5 ((a3.set (wr (y2 - 1)).toNat (⟨y4.event,y4.course,y4.pitch,y4.from_,a1⟩:GNote)).map E_GNote)
  refine run1z (c67 7) [{},{},{},{},{ k:=1,n:=(wr (y2 - 1)).toNat },{},{ k:=1,x:=E_GNote y4,l:=(a3.set (wr (y2 - 1)).toNat (⟨y4.event,y4.course,y4.pitch,y4.from_,a1⟩:GNote)).map E_GNote }] [0,2] [.i a0,.mp 0 0 0] ⟨[(2,b_2),(1,.cells 1 [v_0]),(0,b_0)],3⟩ _ (by kernel_rfl) (cjC ((ixE hy4).1) (cjC (ixLt hy4) (cjC (Nat.zero_add (wr (y2 - 1)).toNat) (cjC (mapGet E_GNote (ixE hy4).2) (cjC ((by decide:(5:Nat) ≤ 5)) (cj1 (mapSet a3 E_GNote (wr (y2 - 1)).toNat (⟨y4.event,y4.course,y4.pitch,y4.from_,a1⟩:GNote)))))))) ?_
  let b_3:Blk:=.cells 1 [.ms 2 0 (a3.set (wr (y2 - 1)).toNat (⟨y4.event,y4.course,y4.pitch,y4.from_,a1⟩:GNote)).length]
  refine run_i 3 [] [0,2] [.i a0,.mp 0 0 0] (xs:=[.i a0,.mp 0 0 0]) (S2:=⟨[(2,b_2),(1,b_3),(0,b_0)],3⟩) ?_ (by intro i e; cases e <;> exact Nat.le_of_ble_eq_true rfl) (by kernel_rfl) (by kernel_rfl) (by kernel_rfl) (.k (.c rfl) (.k (.mp rfl rfl) .z)) (.k (x':=b_2) (by kernel_rfl) (.cells (.r (cleanMap _ _ cl_GNote))) (.k rfl (.cells (.k (.e rfl rfl (by simp)) .z)) (.k rfl (.cells (.k (.a (.r (cleanMap _ _ cl_i))) .z)) .z)))
  let b_4:Blk:=.cells 15 [.agg ((a2.set a0.toNat 0).map AV.i)]
  let s_1:St:=⟨[(2,b_2),(1,b_3),(0,b_4)],3⟩
  refine run0z [{},{ k:=1,n:=a0.toNat },{ k:=1,x:=.agg (a2.map AV.i),l:=[.agg ((a2.set a0.toNat 0).map AV.i)] }] [] [] s_1 _ (by kernel_rfl) (cjC ((ixE hy2).1) (cjC (hn1) (cjC (vecOff a0.toNat) (cjC (@Eq.refl (Option AV) (some (.agg (a2.map AV.i)))) (cjC (vecLe AV.i hy2) (cj1 (vecSet AV.i hy2 0))))))) ?_
  replace h:=Option.some.inj h; subst h
  exact fin_q [2,1,0] s_1 (by kernel_rfl) (by kernel_rfl) rfl ⟨rfl,rfl⟩
 ·refine run_cF 11 (c67 5) (c67 8) (decide (0 < y2)) hc3 (by kernel_rfl) (by kernel_rfl) ?_
  refine run_k (by kernel_rfl) ?_
  replace h:=Option.some.inj h; subst h
  exact fin_q [2,1,0] s_0 (by kernel_rfl) (by kernel_rfl) rfl ⟨rfl,rfl⟩
def f82 (a0:GInstrument) (a1:GCourse) (a2:Int):Option Int:=bif (decide (a2 = 0)) then (some a1.pitch) else ((ix a0.steps (wr (a2 - 1))).bind fun y2=>some (wr (a1.pitch + y2)))
theorem f82_ok (a0:GInstrument) (a1:GCourse) (a2:Int) (r:Int) (h:f82 a0 a1 a2 = some r):APure Try.prog 82 [E_GInstrument a0,E_GCourse a1,.i a2] (.i r):=by
 refine apure (clK (cl_GInstrument a0) (clK (cl_GCourse a1) (clK rfl clZ))) rfl ?_
 refine run_f 20 [.tmp 6] (c82 0) (zipE [0,1,2] [E_GInstrument a0,E_GCourse a1,.i a2]) (by kernel_rfl) (by kernel_rfl) (by kernel_rfl) rfl ?_
 unfold f82 at h
 let b_0:Blk:=.cells 2 [E_GInstrument a0]
 let s_0:St:=⟨[(1,.cells 3 [E_GCourse a1]),(0,b_0)],2⟩
 refine run1z (c82 2) [] [2,3,4] [.i a2,.mp 0 0 0,.mp 1 0 0] s_0 _ (by kernel_rfl) cj0 ?_
 refine run_s (c82 3) (c82 10) (by kernel_rfl) ?_
 refine run1z (c82 5) [] [2,3,4,8] [.i a2,.mp 0 0 0,.mp 1 0 0,.bool (decide (a2 = 0))] s_0 _ (by kernel_rfl) cj0 ?_
 rcases iteE h with ⟨hc1,h⟩ | ⟨hc1,h⟩
 ·refine run_cT 8 (c82 6) (c82 9) (decide (a2 = 0)) hc1 (by kernel_rfl) (by kernel_rfl) ?_
  refine run1z (c82 8) [] [6] [.i a1.pitch] ⟨[],2⟩ _ (by kernel_rfl) cj0 ?_
  refine run_t (by kernel_rfl) ?_
  refine thenR ?_
  replace h:=Option.some.inj h; subst h
  exact fin_r (by kernel_rfl) rfl
 ·refine run_cF 8 (c82 6) (c82 9) (decide (a2 = 0)) hc1 (by kernel_rfl) (by kernel_rfl) ?_
  refine run_k (by kernel_rfl) ?_
  refine thenN ?_
  obtain ⟨y2,hy2,h⟩:=bindE h
  refine yun1z (c82 12) [[],[0],[],[2],[],[4],[2,3,4,5],[2,3,4,5,6],[0,1,2,3,4,5,6,7],[0,1,2,3,4,5,6,7,8]] [.light 0 false,.light 1 false,.light 2 false,.light 3 false,.light 4 false,.light 5 false,.light 6 false,.light 7 false,.light 8 false,.light 9 false] [{},{},{},{},{},{},{ k:=1,x:=AV.i y2 }] [6] [.i (wr (a1.pitch + y2))] ⟨[],2⟩ _ (by kernel_rfl) (cjC ((ixE hy2).1) (cj1 (mapGet AV.i (ixE hy2).2))) ?_
  refine run_t (by kernel_rfl) ?_
  replace h:=Option.some.inj h; subst h
  exact fin_r (by kernel_rfl) rfl
def f68 (a0:GInstrument) (a1:GPlace):Option (Int × Int):=(f73 a0).bind fun r1=>bif (decide (r1 ≠ 0)) then (some (0,r1)) else (((bif (decide (a1.course < 1)) then (some true) else (some (decide ((a0.courses.length:Int) < a1.course)))):Option Bool).bind fun (j1_23:Bool)=>bif j1_23 then (some (0,12)) else ((ix a0.courses (wr (a1.course - 1))).bind fun y5=>((bif (decide (a1.fret < 0)) then (some true) else (some (decide (y5.frets < a1.fret)))):Option Bool).bind fun (j2_40:Bool)=>bif j2_40 then (some (0,13)) else ((f82 a0 y5 a1.fret).bind fun r8=>some (r8,0))))
theorem f68_ok (a0:GInstrument) (a1:GPlace) (r:(Int × Int)) (h:f68 a0 a1 = some r):APure Try.prog 68 [E_GInstrument a0,E_GPlace a1] (.tup [.i r.1,.i r.2]):=by
 refine apure (clK (cl_GInstrument a0) (clK (cl_GPlace a1) clZ)) (clK rfl (clK rfl clZ)) ?_
 refine run_f 46 [.tmp 4,.tmp 5] (c68 0) (zipE [0,1] [E_GInstrument a0,E_GPlace a1]) (by kernel_rfl) (by kernel_rfl) (by kernel_rfl) rfl ?_
 unfold f68 at h
 let b_0:Blk:=.cells 2 [E_GInstrument a0]
 let b_1:Blk:=.cells 2 [E_GPlace a1]
 let s_0:St:=⟨[(1,b_1),(0,b_0)],2⟩
 refine run1z (c68 2) [] [2,3] [.mp 0 0 0,.mp 1 0 0] s_0 _ (by kernel_rfl) cj0 ?_
 refine run_s (c68 3) (c68 12) (by kernel_rfl) ?_
 obtain ⟨r1,hr1,h⟩:=bindE h
 refine run1z (c68 5) [{},{ c:=some (.i r1,s_0) }] [2,3,6] [.mp 0 0 0,.mp 1 0 0,.i r1] s_0 _ (by kernel_rfl) (cj1 (f73_ok a0 _ hr1 s_0)) ?_
 refine run1z (c68 7) [] [2,3,6,11] [.mp 0 0 0,.mp 1 0 0,.i r1,.bool (decide (r1 ≠ 0))] s_0 _ (by kernel_rfl) cj0 ?_
 rcases iteE h with ⟨hc2,h⟩ | ⟨hc2,h⟩
 ·refine run_cT 11 (c68 8) (c68 11) (decide (r1 ≠ 0)) hc2 (by kernel_rfl) (by kernel_rfl) ?_
  refine run1z (c68 10) [] [4,5] [.i 0,.i r1] ⟨[],2⟩ _ (by kernel_rfl) cj0 ?_
  refine run_t (by kernel_rfl) ?_
  refine thenR ?_
  replace h:=Option.some.inj h; subst h
  exact fin_r (by kernel_rfl) rfl
 ·refine run_cF 11 (c68 8) (c68 11) (decide (r1 ≠ 0)) hc2 (by kernel_rfl) (by kernel_rfl) ?_
  refine run_k (by kernel_rfl) ?_
  refine thenN ?_
  refine run_s (c68 13) (c68 20) (by kernel_rfl) ?_
  obtain ⟨j1_23,hj1,h⟩:=bindE h
  refine run_gq (c68 15) (fun (j1_23:Bool)=>(zipE [2,3,23] [.mp 0 0 0,.mp 1 0 0,.bool j1_23])) (fun (j1_23:Bool)=>s_0) (fun j=>j1_23 = j) (fun kj1=>?_) ?_
  ·rcases iteE hj1 with ⟨hc3,hj1⟩ | ⟨hc3,hj1⟩
   ·replace hj1:=Option.some.inj hj1; subst hj1
    exact run1z (c68 15) [{},{},{},{},{ g:=false },{ g:=false },{ g:=false },{ g:=false },{ g:=false },{ g:=false },{ k:=1,b:=true }] [2,3,23] [.mp 0 0 0,.mp 1 0 0,.bool true] s_0 _ (by kernel_rfl) (cjC (hc3) (cjC (hc3) (cjC (hc3) (cjC (hc3) (cjC (hc3) (cjC (hc3) (cj1 (hc3)))))))) (kj1 true rfl)
   ·replace hj1:=Option.some.inj hj1; subst hj1
    exact run1z (c68 15) [{},{},{},{},{},{},{},{},{ k:=1,n:=a0.courses.length },{},{ k:=1,b:=false }] [2,3,23] [.mp 0 0 0,.mp 1 0 0,.bool (decide ((a0.courses.length:Int) < a1.course))] s_0 _ (by kernel_rfl) (cjC (hc3) (cjC (hc3) (cjC (hc3) (cjC (hc3) (cjC (hc3) (cjC (mapLen a0.courses E_GCourse) (cjC (hc3) (cj1 (hc3))))))))) (kj1 (decide ((a0.courses.length:Int) < a1.course)) rfl)
  ·rintro _ rfl
   rcases iteE h with ⟨hc4,h⟩ | ⟨hc4,h⟩
   ·refine run_cT 23 (c68 16) (c68 19) j1_23 hc4 (by kernel_rfl) (by kernel_rfl) ?_
    refine run1z (c68 18) [] [4,5] [.i 0,.i 12] ⟨[],2⟩ _ (by kernel_rfl) cj0 ?_
    refine run_t (by kernel_rfl) ?_
    refine thenR ?_
    replace h:=Option.some.inj h; subst h
    exact fin_r (by kernel_rfl) rfl
   ·refine run_cF 23 (c68 16) (c68 19) j1_23 hc4 (by kernel_rfl) (by kernel_rfl) ?_
    refine run_k (by kernel_rfl) ?_
    refine thenN ?_
    obtain ⟨y5,hy5,h⟩:=bindE h
    let b_2:Blk:=.cells 3 [E_GCourse y5]
    let s_1:St:=⟨[(2,b_2),(1,b_1),(0,b_0)],3⟩
    refine run1z (c68 22) [{},{},{},{},{},{ k:=1,x:=E_GCourse y5 }] [2,3,7] [.mp 0 0 0,.mp 1 0 0,.mp 2 0 0] s_1 _ (by kernel_rfl) (cjC ((ixE hy5).1) (cj1 (mapGet E_GCourse (ixE hy5).2))) ?_
    refine run_s (c68 23) (c68 30) (by kernel_rfl) ?_
    obtain ⟨j2_40,hj2,h⟩:=bindE h
    refine run_gq (c68 25) (fun (j2_40:Bool)=>(zipE [2,3,7,40] [.mp 0 0 0,.mp 1 0 0,.mp 2 0 0,.bool j2_40])) (fun (j2_40:Bool)=>s_1) (fun j=>j2_40 = j) (fun kj2=>?_) ?_
    ·rcases iteE hj2 with ⟨hc6,hj2⟩ | ⟨hc6,hj2⟩
     ·replace hj2:=Option.some.inj hj2; subst hj2
      exact run1z (c68 25) [{},{},{},{},{ g:=false },{ g:=false },{ g:=false },{ g:=false },{ g:=false },{ k:=1,b:=true }] [2,3,7,40] [.mp 0 0 0,.mp 1 0 0,.mp 2 0 0,.bool true] s_1 _ (by kernel_rfl) (cjC (hc6) (cjC (hc6) (cjC (hc6) (cjC (hc6) (cjC (hc6) (cj1 (hc6))))))) (kj2 true rfl)
     ·replace hj2:=Option.some.inj hj2; subst hj2
      exact run1z (c68 25) [{},{},{},{},{},{},{},{},{},{ k:=1,b:=false }] [2,3,7,40] [.mp 0 0 0,.mp 1 0 0,.mp 2 0 0,.bool (decide (y5.frets < a1.fret))] s_1 _ (by kernel_rfl) (cjC (hc6) (cjC (hc6) (cjC (hc6) (cjC (hc6) (cjC (hc6) (cj1 (hc6))))))) (kj2 (decide (y5.frets < a1.fret)) rfl)
    ·rintro _ rfl
     rcases iteE h with ⟨hc7,h⟩ | ⟨hc7,h⟩
     ·refine run_cT 40 (c68 26) (c68 29) j2_40 hc7 (by kernel_rfl) (by kernel_rfl) ?_
      refine run1z (c68 28) [] [4,5] [.i 0,.i 13] ⟨[],3⟩ _ (by kernel_rfl) cj0 ?_
      refine run_t (by kernel_rfl) ?_
      refine thenR ?_
      replace h:=Option.some.inj h; subst h
      exact fin_r (by kernel_rfl) rfl
     ·refine run_cF 40 (c68 26) (c68 29) j2_40 hc7 (by kernel_rfl) (by kernel_rfl) ?_
      refine run_k (by kernel_rfl) ?_
      refine thenN ?_
      obtain ⟨r8,hr8,h⟩:=bindE h
      refine run1z (c68 32) [{},{},{},{},{ c:=some (.i r8,s_1) }] [4,5] [.i r8,.i 0] ⟨[],3⟩ _ (by kernel_rfl) (cj1 (f82_ok a0 y5 a1.fret _ hr8 s_1)) ?_
      refine run_t (by kernel_rfl) ?_
      replace h:=Option.some.inj h; subst h
      exact fin_r (by kernel_rfl) rfl
def f69 (a0:GSSounding):Option Int:=(ix a0.onsets (wr ((a0.onsets.length:Int) - 1))).bind fun y1=>some y1
theorem f69_ok (a0:GSSounding) (r:Int) (h:f69 a0 = some r):APure Try.prog 69 [E_GSSounding a0] (.i r):=by
 refine apure (clK (cl_GSSounding a0) clZ) rfl ?_
 refine run_f 11 [.tmp 2] (c69 0) (zipE [0] [E_GSSounding a0]) (by kernel_rfl) (by kernel_rfl) (by kernel_rfl) rfl ?_
 unfold f69 at h
 refine run1z (c69 2) [] [1] [.mp 0 0 0] ⟨[(0,.cells 4 [E_GSSounding a0])],1⟩ _ (by kernel_rfl) cj0 ?_
 obtain ⟨y1,hy1,h⟩:=bindE h
 refine run1z (c69 4) [{},{},{},{},{ k:=1,n:=a0.onsets.length },{},{ k:=1,x:=AV.i y1 }] [2] [.i y1] ⟨[],1⟩ _ (by kernel_rfl) (cjC (mapLen a0.onsets AV.i) (cjC ((ixE hy1).1) (cj1 (mapGet AV.i (ixE hy1).2)))) ?_
 refine run_t (by kernel_rfl) ?_
 replace h:=Option.some.inj h; subst h
 exact fin_r (by kernel_rfl) rfl
def f70 (a0:GSSounding) (a1:Int) (a2:Int):Option Int:=(loopN (σ:=Int) (τ:=Int) (fun (l1_7:Int)=>((bif (decide ((wr (l1_7 + 1)) < (a0.p.events.length:Int))) then ((ix a0.p.events (wr (l1_7 + 1))).bind fun y2=>some y2.tie) else (some false)):Option Bool).bind fun (j2_27:Bool)=>bif j2_27 then (some (.inl (wr (l1_7 + 1)))) else (some (.inr l1_7))) FUEL (wr (a1 + a2))).bind fun (l1x_7:Int)=>some l1x_7
theorem f70_ok (a0:GSSounding) (a1:Int) (a2:Int) (r:Int) (h:f70 a0 a1 a2 = some r):APure Try.prog 70 [E_GSSounding a0,.i a1,.i a2] (.i r):=by
 refine apure (clK (cl_GSSounding a0) (clK rfl (clK rfl clZ))) rfl ?_
 refine run_f 31 [.tmp 6] (c70 0) (zipE [0,1,2] [E_GSSounding a0,.i a1,.i a2]) (by kernel_rfl) (by kernel_rfl) (by kernel_rfl) rfl ?_
 unfold f70 at h
 let b_0:Blk:=.cells 4 [E_GSSounding a0]
 refine run1z (c70 2) [] [1,2,3] [.i a1,.i a2,.mp 0 0 0] ⟨[(0,b_0)],1⟩ _ (by kernel_rfl) cj0 ?_
 refine run1z (c70 4) [] [3,7] [.mp 0 0 0,.i (wr (a1 + a2))] ⟨[(0,b_0)],1⟩ _ (by kernel_rfl) cj0 ?_
 obtain ⟨l1x_7,hll1x,h⟩:=bindE h
 refine run_jq (c70 5) (c70 15) (fun (l1x_7:Int)=>(zipE [7] [.i l1x_7])) (fun (l1x_7:Int)=>⟨[],1⟩) (fun j=>l1x_7 = j) (by kernel_rfl) (fun kl1=>?_) ?_
 ·refine run_b 0 (c70 6) (by kernel_rfl) ?_
  refine run_l (c70 7) _ hll1x (fun (l1_7:Int)=>(zipE [3,7] [.mp 0 0 0,.i l1_7])) (fun (l1_7:Int)=>⟨[(0,b_0)],1⟩) [] (by intro i e; cases e <;> exact Nat.le_of_ble_eq_true rfl) (by kernel_rfl) (mkInto (ks:=[3,7]) (ys:=[.mp 0 0 0,.i (wr (a1 + a2))]) (by kernel_rfl) (by kernel_rfl) (.k (.mp rfl rfl) (.k (.c rfl) .z)) (.k rfl (.cells (.k (.c (cl_GSSounding a0)) .z)) .z)) ?_
  rintro l1_7 out hl1 rl1
  refine run_s (c70 8) (c70 13) (by kernel_rfl) ?_
  obtain ⟨j2_27,hj2,hl1⟩:=bindE hl1
  refine run_gq (c70 10) (fun (j2_27:Bool)=>(zipE [3,7,27] [.mp 0 0 0,.i l1_7,.bool j2_27])) (fun (j2_27:Bool)=>⟨[(0,b_0)],1⟩) (fun j=>j2_27 = j) (fun kj2=>?_) ?_
  ·rcases iteE hj2 with ⟨hc1,hj2⟩ | ⟨hc1,hj2⟩
   ·obtain ⟨y2,hy2,hj2⟩:=bindE hj2
    replace hj2:=Option.some.inj hj2; subst hj2
    exact run1z (c70 10) [{},{},{},{},{},{ k:=1,n:=a0.p.events.length },{},{},{},{},{},{},{},{ k:=1,x:=E_GEvent y2 },{},{},{ k:=1,b:=true }] [3,7,27] [.mp 0 0 0,.i l1_7,.bool y2.tie] ⟨[(0,b_0)],1⟩ _ (by kernel_rfl) (cjC (mapLen a0.p.events E_GEvent) (cjC (hc1) (cjC (hc1) (cjC (hc1) (cjC (hc1) (cjC (hc1) (cjC (hc1) (cjC ((ixE hy2).1) (cjC (mapGet E_GEvent (ixE hy2).2) (cjC (hc1) (cjC (hc1) (cj1 (hc1))))))))))))) (kj2 y2.tie rfl)
   ·replace hj2:=Option.some.inj hj2; subst hj2
    exact run1z (c70 10) [{},{},{},{},{},{ k:=1,n:=a0.p.events.length },{},{},{ g:=false },{ g:=false },{ g:=false },{ g:=false },{ g:=false },{ g:=false },{ g:=false },{ g:=false },{ k:=1,b:=false }] [3,7,27] [.mp 0 0 0,.i l1_7,.bool false] ⟨[(0,b_0)],1⟩ _ (by kernel_rfl) (cjC (mapLen a0.p.events E_GEvent) (cjC (hc1) (cjC (hc1) (cjC (hc1) (cjC (hc1) (cjC (hc1) (cjC (hc1) (cjC (hc1) (cjC (hc1) (cj1 (hc1))))))))))) (kj2 false rfl)
  ·rintro _ rfl
   rcases iteE hl1 with ⟨hc3,hl1⟩ | ⟨hc3,hl1⟩
   ·refine run_cT 27 (c70 11) (c70 12) j2_27 hc3 (by kernel_rfl) (by kernel_rfl) ?_
    refine run_k (by kernel_rfl) ?_
    refine thenN ?_
    refine run_b 1 (c70 14) (by kernel_rfl) ?_
    refine run0z [] [3,7] [.mp 0 0 0,.i (wr (l1_7 + 1))] ⟨[(0,b_0)],1⟩ _ (by kernel_rfl) cj0 ?_
    replace hl1:=Option.some.inj hl1; subst hl1
    refine inbN ?_
    exact ⟨_,rfl,pi [],mkInto (ks:=[3,7]) (ys:=[.mp 0 0 0,.i (wr (l1_7 + 1))]) (by kernel_rfl) (by kernel_rfl) (.k (.mp rfl rfl) (.k (.c rfl) .z)) (.k rfl (.cells (.k (.c (cl_GSSounding a0)) .z)) .z)⟩
   ·refine run_cF 27 (c70 11) (c70 12) j2_27 hc3 (by kernel_rfl) (by kernel_rfl) ?_
    replace hl1:=Option.some.inj hl1; subst hl1
    have hr:=rl1 _ rfl
    subst hr
    refine awp_p [7] [] (zipE [7] [.i l1_7]) ⟨[],1⟩ (by kernel_rfl) (?_)
    refine run_e 0 (by kernel_rfl) ?_
    refine thenE ?_
    refine ⟨⟨_,rfl⟩,?_⟩
    refine inbE ?_
    refine thenN ?_
    exact kl1 l1_7 rfl
 ·rintro _ rfl
  refine run1z (c70 17) [] [6] [.i l1x_7] ⟨[],1⟩ _ (by kernel_rfl) cj0 ?_
  refine run_t (by kernel_rfl) ?_
  replace h:=Option.some.inj h; subst h
  exact fin_r (by kernel_rfl) rfl
def f55 (a0:GSSounding):Option (((List GNote)) × ((List GSPress))):=(loopN (σ:=(List GNote × List GSPress × List Int × Int)) (τ:=(List GNote × List GSPress)) (fun ((l1_h1,l1_5,l1_h2,l1_22):(List GNote × List GSPress × List Int × Int))=>bif (decide (l1_22 < (a0.p.events.length:Int))) then ((ix a0.p.events l1_22).bind fun y2=>(ix a0.onsets l1_22).bind fun y3=>((((bif (decide ((y2.stops.length:Int) = 0)) then (some (!y2.tie)) else (some false)):Option Bool).bind fun (j3_40:Bool)=>bif j3_40 then ((loopN (σ:=(List GNote × List Int × Int)) (τ:=(List GNote × List Int)) (fun ((l4_h1,l4_h2,l4_41):(List GNote × List Int × Int))=>bif (decide (l4_41 < 15)) then ((f67 l4_41 y3 l4_h2 l4_h1).bind fun r7=>some (.inl (r7.1,r7.2,(wr (l4_41 + 1))))) else (some (.inr (l4_h1,l4_h2)))) FUEL (l1_h1,l1_h2,0)).bind fun ((l4x_h1,l4x_h2):(List GNote × List Int))=>some (l4x_h1,l4x_h2)) else (some (l1_h1,l1_h2))):Option (List GNote × List Int)).bind fun ((j2_h1,j2_h2):(List GNote × List Int))=>(loopN (σ:=(List GNote × List GSPress × List Int × Int)) (τ:=(List GNote × List GSPress × List Int)) (fun ((l5_h1,l5_5,l5_h2,l5_52):(List GNote × List GSPress × List Int × Int))=>bif (decide (l5_52 < (y2.stops.length:Int))) then ((ix y2.stops l5_52).bind fun y9=>(f67 y9.course y3 l5_h2 l5_h1).bind fun r10=>(f68 a0.p.instrument (⟨y9.course,y9.fret⟩:GPlace)).bind fun r11=>(f69 a0).bind fun r12=>((bif (decide (0 < y9.fret)) then ((f70 a0 l1_22 y9.hold).bind fun r14=>(ix a0.onsets (wr (r14 + 1))).bind fun y15=>some (r10.2,y15)) else (need (y9.course < 15) <| (ix r10.2 y9.course).bind fun y17=>some ((r10.2.set y9.course.toNat (wr ((r10.1.length:Int) + 1))),r12))):Option (List Int × Int)).bind fun ((j6_h2,j6_h9_4):(List Int × Int))=>need (r10.1.length + 1 ≤ maxElems) <| need (l5_5.length + 1 ≤ maxElems) <| some (.inl ((r10.1 ++ [(⟨l1_22,y9.course,r11.1,y3,j6_h9_4⟩:GNote)]),(l5_5 ++ [(⟨l1_22,y9.course,y9.fret,y3,j6_h9_4⟩:GSPress)]),j6_h2,(wr (l5_52 + 1))))) else (some (.inr (l5_h1,l5_5,l5_h2)))) FUEL (j2_h1,l1_5,j2_h2,0)).bind fun ((l5x_h1,l5x_5,l5x_h2):(List GNote × List GSPress × List Int))=>some (.inl (l5x_h1,l5x_5,l5x_h2,(wr (l1_22 + 1))))) else (some (.inr (l1_h1,l1_5)))) FUEL (([]:List GNote),([]:List GSPress),(List.replicate 15 (0:Int)),0)).bind fun ((l1x_h1,l1x_5):(List GNote × List GSPress))=>some (l1x_h1,l1x_5)
theorem f55_ok (a0:GSSounding) (r:(((List GNote)) × ((List GSPress)))) (h:f55 a0 = some r):APure Try.prog 55 [E_GSSounding a0] (.tup [.sl false (r.1.map E_GNote),.sl false (r.2.map E_GSPress)]):=by
 refine apure (clK (cl_GSSounding a0) clZ) (clK (cleanMap r.1 _ cl_GNote) (clK (cleanMap r.2 _ cl_GSPress) clZ)) ?_
 refine run_f 122 [.tmp 2,.tmp 3] (c55 0) (zipE [0] [E_GSSounding a0]) (by kernel_rfl) (by kernel_rfl) (by kernel_rfl) rfl ?_
 unfold f55 at h
 let b_0:Blk:=.cells 4 [E_GSSounding a0]
 refine run1z (c55 2) [] [1] [.mp 0 0 0] ⟨[(0,b_0)],1⟩ _ (by kernel_rfl) cj0 ?_
 let b_1:Blk:=.cells 1 [.sl true []]
 refine run1z (c55 4) [] [1,4] [.mp 0 0 0,.mp 1 0 0] ⟨[(1,b_1),(0,b_0)],2⟩ _ (by kernel_rfl) cj0 ?_
 refine run1z (c55 6) [] [1,4,5] [.mp 0 0 0,.mp 1 0 0,.sl true []] ⟨[(1,b_1),(0,b_0)],2⟩ _ (by kernel_rfl) cj0 ?_
 let b_2:Blk:=.cells 15 [.agg ((List.replicate 15 (0:Int)).map AV.i)]
 let s_0:St:=⟨[(2,b_2),(1,b_1),(0,b_0)],3⟩
 refine run1z (c55 8) [] [1,4,5,6] [.mp 0 0 0,.mp 1 0 0,.sl true [],.mp 2 0 0] s_0 _ (by kernel_rfl) cj0 ?_
 let w_0:AV:=.fn 67 [.mp 2 0 0,.mp 1 0 0]
 refine run1z (c55 10) [] [1,4,5,6,7] [.mp 0 0 0,.mp 1 0 0,.sl true [],.mp 2 0 0,w_0] s_0 _ (by kernel_rfl) cj0 ?_
 refine run_s (c55 11) (c55 79) (by kernel_rfl) ?_
 let v_0:AV:=.sl false (a0.p.events.map E_GEvent)
 let v_1:AV:=.i (a0.p.events.length:Int)
 refine run1z (c55 13) [{},{},{},{ k:=1,n:=a0.p.events.length }] [1,4,5,6,7,20,21,22] [.mp 0 0 0,.mp 1 0 0,.sl true [],.mp 2 0 0,w_0,v_0,v_1,.i 0] s_0 _ (by kernel_rfl) (cj1 (mapLen a0.p.events E_GEvent)) ?_
 obtain ⟨ol1x,hll1x,h⟩:=bindE h
 refine run_tq (fun ((l1x_h1,l1x_5):(List GNote × List GSPress))=>(zipE [4,5] [.mp 1 0 0,.ms 4 0 l1x_5.length])) (fun ((l1x_h1,l1x_5):(List GNote × List GSPress))=>⟨[(4,.cells 5 (l1x_5.map E_GSPress)),(3,.cells 5 (l1x_h1.map E_GNote)),(1,.cells 1 [.ms 3 0 l1x_h1.length])],5⟩) (fun j=>ol1x = j) (fun kl1=>?_) ?_
 ·refine run_b 0 (c55 14) (by kernel_rfl) ?_
  refine run_l (c55 15) _ hll1x (fun ((l1_h1,l1_5,l1_h2,l1_22):(List GNote × List GSPress × List Int × Int))=>(zipE [1,4,5,6,7,20,21,22] [.mp 0 0 0,.mp 1 0 0,.ms 4 0 l1_5.length,.mp 2 0 0,w_0,v_0,v_1,.i l1_22])) (fun ((l1_h1,l1_5,l1_h2,l1_22):(List GNote × List GSPress × List Int × Int))=>⟨[(4,.cells 5 (l1_5.map E_GSPress)),(3,.cells 5 (l1_h1.map E_GNote)),(2,.cells 15 [.agg (l1_h2.map AV.i)]),(1,.cells 1 [.ms 3 0 l1_h1.length]),(0,b_0)],5⟩) [(3,1000000),(4,1000001)] (by intro i e; cases e <;> exact Nat.le_of_ble_eq_true rfl) (by kernel_rfl) (mkInto (ks:=[1,4,5,6,7,20,21,22]) (ys:=[.mp 0 0 0,.mp 1 0 0,.sl true [],.mp 2 0 0,w_0,v_0,v_1,.i 0]) (by kernel_rfl) (by kernel_rfl) (.k (.mp rfl rfl) (.k (.mp rfl rfl) (.k (.n) (.k (.mp rfl rfl) (.k (.f (.k (.mp rfl rfl) (.k (.mp rfl rfl) .z))) (.k (.c (cleanMap _ _ cl_GEvent)) (.k (.c rfl) (.k (.c rfl) .z)))))))) (.n rfl rfl rfl (.n rfl rfl rfl (.k rfl (.cells (.k (.a (.r (cleanMap _ _ cl_i))) .z)) (.k rfl (.cells (.k (.n) .z)) (.k rfl (.cells (.k (.c (cl_GSSounding a0)) .z)) .z)))))) ?_
  rintro ⟨l1_h1,l1_5,l1_h2,l1_22⟩ out hl1 rl1
  let v_2:AV:=.ms 3 0 l1_h1.length
  let v_3:AV:=.ms 4 0 l1_5.length
  let b_3:Blk:=.cells 15 [.agg (l1_h2.map AV.i)]
  let b_4:Blk:=.cells 5 (l1_5.map E_GSPress)
  let b_5:Blk:=.cells 5 (l1_h1.map E_GNote)
  refine run1z (c55 17) [] [1,4,5,6,7,20,21,22,23] [.mp 0 0 0,.mp 1 0 0,v_3,.mp 2 0 0,w_0,v_0,v_1,.i l1_22,.bool (decide (l1_22 < (a0.p.events.length:Int)))] ⟨[(4,b_4),(3,b_5),(2,b_3),(1,.cells 1 [v_2]),(0,b_0)],5⟩ _ (by kernel_rfl) cj0 ?_
  refine run_s (c55 18) (c55 21) (by kernel_rfl) ?_
  rcases iteE hl1 with ⟨hc1,hl1⟩ | ⟨hc1,hl1⟩
  ·refine run_cT 23 (c55 19) (c55 20) (decide (l1_22 < (a0.p.events.length:Int))) hc1 (by kernel_rfl) (by kernel_rfl) ?_
   refine run_k (by kernel_rfl) ?_
   refine thenN ?_
   refine run_s (c55 22) (c55 78) (by kernel_rfl) ?_
   refine run_b 1 (c55 23) (by kernel_rfl) ?_
   obtain ⟨y2,hy2,hl1⟩:=bindE hl1
   let b_6:Blk:=.cells 6 [E_GEvent y2]
   let s_1:St:=⟨[(5,b_6),(4,b_4),(3,b_5),(2,b_3),(1,.cells 1 [v_2]),(0,b_0)],6⟩
   refine run1z (c55 25) [{},{ k:=1,x:=E_GEvent y2 }] [1,4,5,6,7,8,9,20,21,22] [.mp 0 0 0,.mp 1 0 0,v_3,.mp 2 0 0,w_0,.i l1_22,.mp 5 0 0,v_0,v_1,.i l1_22] s_1 _ (by kernel_rfl) (cjC ((ixE hy2).1) (cj1 (mapGet E_GEvent (ixE hy2).2))) ?_
   obtain ⟨y3,hy3,hl1⟩:=bindE hl1
   refine run1z (c55 27) [{},{},{},{ k:=1,x:=AV.i y3 }] [1,4,5,6,7,8,9,10,20,21,22] [.mp 0 0 0,.mp 1 0 0,v_3,.mp 2 0 0,w_0,.i l1_22,.mp 5 0 0,.i y3,v_0,v_1,.i l1_22] s_1 _ (by kernel_rfl) (cjC ((ixE hy3).1) (cj1 (mapGet AV.i (ixE hy3).2))) ?_
   obtain ⟨oj2,hj2,hl1⟩:=bindE hl1
   refine run_jq (c55 28) (c55 48) (fun ((j2_h1,j2_h2):(List GNote × List Int))=>(zipE [1,4,5,6,7,8,9,10,20,21,22] [.mp 0 0 0,.mp 1 0 0,v_3,.mp 2 0 0,w_0,.i l1_22,.mp 5 0 0,.i y3,v_0,v_1,.i l1_22])) (fun ((j2_h1,j2_h2):(List GNote × List Int))=>⟨[(5,b_6),(4,b_4),(3,.cells 5 (j2_h1.map E_GNote)),(2,.cells 15 [.agg (j2_h2.map AV.i)]),(1,.cells 1 [.ms 3 0 j2_h1.length]),(0,b_0)],6⟩) (fun j=>oj2 = j) (by kernel_rfl) (fun kj2=>?_) ?_
   ·obtain ⟨j3_40,hj3,hj2⟩:=bindE hj2
    refine run_gq (c55 30) (fun (j3_40:Bool)=>(zipE [1,4,5,6,7,8,9,10,20,21,22,40] [.mp 0 0 0,.mp 1 0 0,v_3,.mp 2 0 0,w_0,.i l1_22,.mp 5 0 0,.i y3,v_0,v_1,.i l1_22,.bool j3_40])) (fun (j3_40:Bool)=>s_1) (fun j=>j3_40 = j) (fun kj3=>?_) ?_
    ·rcases iteE hj3 with ⟨hc4,hj3⟩ | ⟨hc4,hj3⟩
     ·replace hj3:=Option.some.inj hj3; subst hj3
      exact run1z (c55 30) [{},{},{ k:=1,n:=y2.stops.length },{},{},{},{},{},{ k:=1,b:=true }] [1,4,5,6,7,8,9,10,20,21,22,40] [.mp 0 0 0,.mp 1 0 0,v_3,.mp 2 0 0,w_0,.i l1_22,.mp 5 0 0,.i y3,v_0,v_1,.i l1_22,.bool (!y2.tie)] s_1 _ (by kernel_rfl) (cjC (mapLen y2.stops E_GStop) (cjC (hc4) (cjC (hc4) (cjC (hc4) (cj1 (hc4)))))) (kj3 (!y2.tie) rfl)
     ·replace hj3:=Option.some.inj hj3; subst hj3
      exact run1z (c55 30) [{},{},{ k:=1,n:=y2.stops.length },{},{},{ g:=false },{ g:=false },{ g:=false },{ k:=1,b:=false }] [1,4,5,6,7,8,9,10,20,21,22,40] [.mp 0 0 0,.mp 1 0 0,v_3,.mp 2 0 0,w_0,.i l1_22,.mp 5 0 0,.i y3,v_0,v_1,.i l1_22,.bool false] s_1 _ (by kernel_rfl) (cjC (mapLen y2.stops E_GStop) (cjC (hc4) (cjC (hc4) (cjC (hc4) (cj1 (hc4)))))) (kj3 false rfl)
    ·rintro _ rfl
     rcases iteE hj2 with ⟨hc5,hj2⟩ | ⟨hc5,hj2⟩
     ·refine run_cT 40 (c55 31) (c55 47) j3_40 hc5 (by kernel_rfl) (by kernel_rfl) ?_
      refine run1z (c55 33) [] [1,4,5,6,7,8,9,10,20,21,22,41] [.mp 0 0 0,.mp 1 0 0,v_3,.mp 2 0 0,w_0,.i l1_22,.mp 5 0 0,.i y3,v_0,v_1,.i l1_22,.i 0] s_1 _ (by kernel_rfl) cj0 ?_
      obtain ⟨ol4x,hll4x,hj2⟩:=bindE hj2
      refine run_tq (fun ((l4x_h1,l4x_h2):(List GNote × List Int))=>(zipE [1,4,5,6,7,8,9,10,20,21,22] [.mp 0 0 0,.mp 1 0 0,v_3,.mp 2 0 0,w_0,.i l1_22,.mp 5 0 0,.i y3,v_0,v_1,.i l1_22])) (fun ((l4x_h1,l4x_h2):(List GNote × List Int))=>⟨[(5,b_6),(4,b_4),(3,.cells 5 (l4x_h1.map E_GNote)),(2,.cells 15 [.agg (l4x_h2.map AV.i)]),(1,.cells 1 [.ms 3 0 l4x_h1.length]),(0,b_0)],6⟩) (fun j=>ol4x = j) (fun kl4=>?_) ?_
      ·refine run_b 2 (c55 34) (by kernel_rfl) ?_
       refine run_l (c55 35) _ hll4x (fun ((l4_h1,l4_h2,l4_41):(List GNote × List Int × Int))=>(zipE [1,4,5,6,7,8,9,10,20,21,22,41] [.mp 0 0 0,.mp 1 0 0,v_3,.mp 2 0 0,w_0,.i l1_22,.mp 5 0 0,.i y3,v_0,v_1,.i l1_22,.i l4_41])) (fun ((l4_h1,l4_h2,l4_41):(List GNote × List Int × Int))=>⟨[(5,b_6),(4,b_4),(3,.cells 5 (l4_h1.map E_GNote)),(2,.cells 15 [.agg (l4_h2.map AV.i)]),(1,.cells 1 [.ms 3 0 l4_h1.length]),(0,b_0)],6⟩) [] (by intro i e; cases e <;> exact Nat.le_of_ble_eq_true rfl) (by kernel_rfl) (mkInto (ks:=[1,4,5,6,7,8,9,10,20,21,22,41]) (ys:=[.mp 0 0 0,.mp 1 0 0,v_3,.mp 2 0 0,w_0,.i l1_22,.mp 5 0 0,.i y3,v_0,v_1,.i l1_22,.i 0]) (by kernel_rfl) (by kernel_rfl) (.k (.mp rfl rfl) (.k (.mp rfl rfl) (.k (.ms rfl rfl) (.k (.mp rfl rfl) (.k (.f (.k (.mp rfl rfl) (.k (.mp rfl rfl) .z))) (.k (.c rfl) (.k (.mp rfl rfl) (.k (.c rfl) (.k (.c (cleanMap _ _ cl_GEvent)) (.k (.c rfl) (.k (.c rfl) (.k (.c rfl) .z)))))))))))) (.k rfl (.cells (.k (.c (cl_GEvent y2)) .z)) (.k rfl (.cells (.r (cleanMap _ _ cl_GSPress))) (.k rfl (.cells (.r (cleanMap _ _ cl_GNote))) (.k rfl (.cells (.k (.a (.r (cleanMap _ _ cl_i))) .z)) (.k rfl (.cells (.k (.ms rfl rfl) .z)) (.k rfl (.cells (.k (.c (cl_GSSounding a0)) .z)) .z))))))) ?_
       rintro ⟨l4_h1,l4_h2,l4_41⟩ out hl4 rl4
       let v_4:AV:=.ms 3 0 l4_h1.length
       let b_7:Blk:=.cells 15 [.agg (l4_h2.map AV.i)]
       let b_8:Blk:=.cells 5 (l4_h1.map E_GNote)
       let s_2:St:=⟨[(5,b_6),(4,b_4),(3,b_8),(2,b_7),(1,.cells 1 [v_4]),(0,b_0)],6⟩
       refine run1z (c55 37) [] [1,4,5,6,7,8,9,10,20,21,22,41,42] [.mp 0 0 0,.mp 1 0 0,v_3,.mp 2 0 0,w_0,.i l1_22,.mp 5 0 0,.i y3,v_0,v_1,.i l1_22,.i l4_41,.bool (decide (l4_41 < 15))] s_2 _ (by kernel_rfl) cj0 ?_
       refine run_s (c55 38) (c55 41) (by kernel_rfl) ?_
       rcases iteE hl4 with ⟨hc6,hl4⟩ | ⟨hc6,hl4⟩
       ·refine run_cT 42 (c55 39) (c55 40) (decide (l4_41 < 15)) hc6 (by kernel_rfl) (by kernel_rfl) ?_
        refine run_k (by kernel_rfl) ?_
        refine thenN ?_
        refine run_s (c55 42) (c55 46) (by kernel_rfl) ?_
        refine run_b 3 (c55 43) (by kernel_rfl) ?_
        refine run1z (c55 45) [] [1,4,5,6,7,8,9,10,11,20,21,22,41] [.mp 0 0 0,.mp 1 0 0,v_3,.mp 2 0 0,w_0,.i l1_22,.mp 5 0 0,.i y3,.i l4_41,v_0,v_1,.i l1_22,.i l4_41] s_2 _ (by kernel_rfl) cj0 ?_
        obtain ⟨r7,hr7,hl4⟩:=bindE hl4
        let v_5:AV:=.ms 3 0 r7.1.length
        let b_9:Blk:=.cells 15 [.agg (r7.2.map AV.i)]
        let b_10:Blk:=.cells 5 (r7.1.map E_GNote)
        let s_3:St:=⟨[(5,b_6),(4,b_4),(3,b_10),(2,b_9),(1,.cells 1 [v_5]),(0,b_0)],6⟩
        refine run0z [{},{},{},{ c:=some (.tup [],s_3) }] [1,4,5,6,7,8,9,10,20,21,22,41] [.mp 0 0 0,.mp 1 0 0,v_3,.mp 2 0 0,w_0,.i l1_22,.mp 5 0 0,.i y3,v_0,v_1,.i l1_22,.i l4_41] s_3 _ (by kernel_rfl) (cj1 (callF (f67_ok l4_41 y3 l4_h2 l4_h1 _ hr7) [(0,2),(1,1),(2,3)] [(3,2),(1,1),(2,0)] [5,4,0] [.i l4_41,.i y3,.mp 2 0 0,.mp 1 0 0] s_2 (.tup []) s_3 (by kernel_rfl) (.k (.c rfl) (.k (.c rfl) (.k (.mp rfl rfl) (.k (.mp rfl rfl) .z)))) (.t .z) (.k rfl (.cells (.r (cleanMap _ _ cl_GNote))) (.k rfl (.cells (.k (.ms rfl rfl) .z)) (.k rfl (.cells (.k (.a (.r (cleanMap _ _ cl_i))) .z)) .z))) (.f rfl (by kernel_rfl) (.f rfl (by kernel_rfl) (.d (x':=b_10) rfl (by kernel_rfl) (.cells (.r (cleanMap _ _ cl_GNote))) (.d (x':=b_9) rfl (by kernel_rfl) (.cells (.k (.a (.r (cleanMap _ _ cl_i))) .z)) (.d (x':=.cells 1 [.ms 2 0 r7.1.length]) rfl (by kernel_rfl) (.cells (.k (.ms rfl rfl) .z)) (.f rfl (by kernel_rfl) .z)))))))) ?_
        refine inbN ?_
        refine thenN ?_
        refine run0z [] [1,4,5,6,7,8,9,10,20,21,22,41] [.mp 0 0 0,.mp 1 0 0,v_3,.mp 2 0 0,w_0,.i l1_22,.mp 5 0 0,.i y3,v_0,v_1,.i l1_22,.i (wr (l4_41 + 1))] s_3 _ (by kernel_rfl) cj0 ?_
        replace hl4:=Option.some.inj hl4; subst hl4
        exact ⟨_,rfl,pi [],mkInto (ks:=[1,4,5,6,7,8,9,10,20,21,22,41]) (ys:=[.mp 0 0 0,.mp 1 0 0,v_3,.mp 2 0 0,w_0,.i l1_22,.mp 5 0 0,.i y3,v_0,v_1,.i l1_22,.i (wr (l4_41 + 1))]) (by kernel_rfl) (by kernel_rfl) (.k (.mp rfl rfl) (.k (.mp rfl rfl) (.k (.ms rfl rfl) (.k (.mp rfl rfl) (.k (.f (.k (.mp rfl rfl) (.k (.mp rfl rfl) .z))) (.k (.c rfl) (.k (.mp rfl rfl) (.k (.c rfl) (.k (.c (cleanMap _ _ cl_GEvent)) (.k (.c rfl) (.k (.c rfl) (.k (.c rfl) .z)))))))))))) (.k rfl (.cells (.k (.c (cl_GEvent y2)) .z)) (.k rfl (.cells (.r (cleanMap _ _ cl_GSPress))) (.k rfl (.cells (.r (cleanMap _ _ cl_GNote))) (.k rfl (.cells (.k (.a (.r (cleanMap _ _ cl_i))) .z)) (.k rfl (.cells (.k (.ms rfl rfl) .z)) (.k rfl (.cells (.k (.c (cl_GSSounding a0)) .z)) .z))))))⟩
       ·refine run_cF 42 (c55 39) (c55 40) (decide (l4_41 < 15)) hc6 (by kernel_rfl) (by kernel_rfl) ?_
        replace hl4:=Option.some.inj hl4; subst hl4
        have hr:=rl4 _ rfl
        subst hr
        refine awp_p [1,4,5,6,7,8,9,10,20,21,22] [5,4,3,2,1,0] (zipE [1,4,5,6,7,8,9,10,20,21,22] [.mp 0 0 0,.mp 1 0 0,v_3,.mp 2 0 0,w_0,.i l1_22,.mp 5 0 0,.i y3,v_0,v_1,.i l1_22]) s_2 (by kernel_rfl) (?_)
        refine run_e 2 (by kernel_rfl) ?_
        refine thenE ?_
        refine ⟨⟨_,rfl⟩,?_⟩
        refine inbE ?_
        exact kl4 (l4_h1,l4_h2) rfl
      ·rintro ⟨l4x_h1,l4x_h2⟩ rfl
       replace hj2:=Option.some.inj hj2; subst hj2
       refine thenN ?_
       exact kj2 (l4x_h1,l4x_h2) rfl
     ·refine run_cF 40 (c55 31) (c55 47) j3_40 hc5 (by kernel_rfl) (by kernel_rfl) ?_
      replace hj2:=Option.some.inj hj2; subst hj2
      refine awp_p [1,4,5,6,7,8,9,10,20,21,22] [5,4,3,2,1,0] (zipE [1,4,5,6,7,8,9,10,20,21,22] [.mp 0 0 0,.mp 1 0 0,v_3,.mp 2 0 0,w_0,.i l1_22,.mp 5 0 0,.i y3,v_0,v_1,.i l1_22]) s_1 (by kernel_rfl) (?_)
      refine run_k (by kernel_rfl) ?_
      refine thenN ?_
      exact kj2 (l1_h1,l1_h2) rfl
   ·rintro ⟨j2_h1,j2_h2⟩ rfl
    let v_6:AV:=.sl false (y2.stops.map E_GStop)
    let v_7:AV:=.i (y2.stops.length:Int)
    refine run1z (c55 50) [{},{},{ k:=1,n:=y2.stops.length }] [1,4,5,6,7,8,10,20,21,22,50,51,52] [.mp 0 0 0,.mp 1 0 0,v_3,.mp 2 0 0,w_0,.i l1_22,.i y3,v_0,v_1,.i l1_22,v_6,v_7,.i 0] ⟨[(4,b_4),(3,.cells 5 (j2_h1.map E_GNote)),(2,.cells 15 [.agg (j2_h2.map AV.i)]),(1,.cells 1 [.ms 3 0 j2_h1.length]),(0,b_0)],6⟩ _ (by kernel_rfl) (cj1 (mapLen y2.stops E_GStop)) ?_
    obtain ⟨ol5x,hll5x,hl1⟩:=bindE hl1
    refine run_tq (fun ((l5x_h1,l5x_5,l5x_h2):(List GNote × List GSPress × List Int))=>(zipE [1,4,5,6,7,20,21,22] [.mp 0 0 0,.mp 1 0 0,.ms 7 0 l5x_5.length,.mp 2 0 0,w_0,v_0,v_1,.i l1_22])) (fun ((l5x_h1,l5x_5,l5x_h2):(List GNote × List GSPress × List Int))=>⟨[(7,.cells 5 (l5x_5.map E_GSPress)),(6,.cells 5 (l5x_h1.map E_GNote)),(2,.cells 15 [.agg (l5x_h2.map AV.i)]),(1,.cells 1 [.ms 6 0 l5x_h1.length]),(0,b_0)],8⟩) (fun j=>ol5x = j) (fun kl5=>?_) ?_
    ·refine run_b 4 (c55 51) (by kernel_rfl) ?_
     refine run_l (c55 52) _ hll5x (fun ((l5_h1,l5_5,l5_h2,l5_52):(List GNote × List GSPress × List Int × Int))=>(zipE [1,4,5,6,7,8,10,20,21,22,50,51,52] [.mp 0 0 0,.mp 1 0 0,.ms 7 0 l5_5.length,.mp 2 0 0,w_0,.i l1_22,.i y3,v_0,v_1,.i l1_22,v_6,v_7,.i l5_52])) (fun ((l5_h1,l5_5,l5_h2,l5_52):(List GNote × List GSPress × List Int × Int))=>⟨[(7,.cells 5 (l5_5.map E_GSPress)),(6,.cells 5 (l5_h1.map E_GNote)),(2,.cells 15 [.agg (l5_h2.map AV.i)]),(1,.cells 1 [.ms 6 0 l5_h1.length]),(0,b_0)],8⟩) [(6,3),(7,4)] (by intro i e; cases e <;> exact Nat.le_of_ble_eq_true rfl) (by kernel_rfl) (mkInto (ks:=[1,4,5,6,7,8,10,20,21,22,50,51,52]) (ys:=[.mp 0 0 0,.mp 1 0 0,v_3,.mp 2 0 0,w_0,.i l1_22,.i y3,v_0,v_1,.i l1_22,v_6,v_7,.i 0]) (by kernel_rfl) (by kernel_rfl) (.k (.mp rfl rfl) (.k (.mp rfl rfl) (.k (.ms rfl rfl) (.k (.mp rfl rfl) (.k (.f (.k (.mp rfl rfl) (.k (.mp rfl rfl) .z))) (.k (.c rfl) (.k (.c rfl) (.k (.c (cleanMap _ _ cl_GEvent)) (.k (.c rfl) (.k (.c rfl) (.k (.c (cleanMap _ _ cl_GStop)) (.k (.c rfl) (.k (.c rfl) .z))))))))))))) (.k rfl (.cells (.r (cleanMap _ _ cl_GSPress))) (.k rfl (.cells (.r (cleanMap _ _ cl_GNote))) (.k rfl (.cells (.k (.a (.r (cleanMap _ _ cl_i))) .z)) (.k rfl (.cells (.k (.ms rfl rfl) .z)) (.k rfl (.cells (.k (.c (cl_GSSounding a0)) .z)) .z)))))) ?_
     rintro ⟨l5_h1,l5_5,l5_h2,l5_52⟩ out hl5 rl5
     let v_8:AV:=.ms 6 0 l5_h1.length
     let v_9:AV:=.ms 7 0 l5_5.length
     let b_11:Blk:=.cells 15 [.agg (l5_h2.map AV.i)]
     let b_12:Blk:=.cells 5 (l5_5.map E_GSPress)
     let b_13:Blk:=.cells 5 (l5_h1.map E_GNote)
     let s_4:St:=⟨[(7,b_12),(6,b_13),(2,b_11),(1,.cells 1 [v_8]),(0,b_0)],8⟩
     refine run1z (c55 54) [] [1,4,5,6,7,8,10,20,21,22,50,51,52,53] [.mp 0 0 0,.mp 1 0 0,v_9,.mp 2 0 0,w_0,.i l1_22,.i y3,v_0,v_1,.i l1_22,v_6,v_7,.i l5_52,.bool (decide (l5_52 < (y2.stops.length:Int)))] s_4 _ (by kernel_rfl) cj0 ?_
     refine run_s (c55 55) (c55 58) (by kernel_rfl) ?_
     rcases iteE hl5 with ⟨hc8,hl5⟩ | ⟨hc8,hl5⟩
     ·refine run_cT 53 (c55 56) (c55 57) (decide (l5_52 < (y2.stops.length:Int))) hc8 (by kernel_rfl) (by kernel_rfl) ?_
      refine run_k (by kernel_rfl) ?_
      refine thenN ?_
      refine run_s (c55 59) (c55 77) (by kernel_rfl) ?_
      refine run_b 5 (c55 60) (by kernel_rfl) ?_
      obtain ⟨y9,hy9,hl5⟩:=bindE hl5
      let b_14:Blk:=.cells 5 [E_GStop y9]
      let s_5:St:=⟨[(8,b_14),(7,b_12),(6,b_13),(2,b_11),(1,.cells 1 [v_8]),(0,b_0)],9⟩
      refine run1z (c55 62) [{ k:=1,x:=E_GStop y9 }] [1,4,5,6,7,8,10,13,20,21,22,50,51,52] [.mp 0 0 0,.mp 1 0 0,v_9,.mp 2 0 0,w_0,.i l1_22,.i y3,.mp 8 0 0,v_0,v_1,.i l1_22,v_6,v_7,.i l5_52] s_5 _ (by kernel_rfl) (cjC ((ixE hy9).1) (cj1 (mapGet E_GStop (ixE hy9).2))) ?_
      obtain ⟨r10,hr10,hl5⟩:=bindE hl5
      let v_10:AV:=.ms 6 0 r10.1.length
      let b_15:Blk:=.cells 15 [.agg (r10.2.map AV.i)]
      let b_16:Blk:=.cells 5 (r10.1.map E_GNote)
      let s_6:St:=⟨[(8,b_14),(7,b_12),(6,b_16),(2,b_15),(1,.cells 1 [v_10]),(0,b_0)],9⟩
      refine run1z (c55 64) [{},{},{},{},{ c:=some (.tup [],s_6) }] [1,4,5,6,7,8,10,13,20,21,22,50,51,52] [.mp 0 0 0,.mp 1 0 0,v_9,.mp 2 0 0,w_0,.i l1_22,.i y3,.mp 8 0 0,v_0,v_1,.i l1_22,v_6,v_7,.i l5_52] s_6 _ (by kernel_rfl) (cj1 (callF (f67_ok y9.course y3 l5_h2 l5_h1 _ hr10) [(0,2),(1,1),(2,6)] [(6,2),(1,1),(2,0)] [8,7,0] [.i y9.course,.i y3,.mp 2 0 0,.mp 1 0 0] s_5 (.tup []) s_6 (by kernel_rfl) (.k (.c rfl) (.k (.c rfl) (.k (.mp rfl rfl) (.k (.mp rfl rfl) .z)))) (.t .z) (.k rfl (.cells (.r (cleanMap _ _ cl_GNote))) (.k rfl (.cells (.k (.ms rfl rfl) .z)) (.k rfl (.cells (.k (.a (.r (cleanMap _ _ cl_i))) .z)) .z))) (.f rfl (by kernel_rfl) (.f rfl (by kernel_rfl) (.d (x':=b_16) rfl (by kernel_rfl) (.cells (.r (cleanMap _ _ cl_GNote))) (.d (x':=b_15) rfl (by kernel_rfl) (.cells (.k (.a (.r (cleanMap _ _ cl_i))) .z)) (.d (x':=.cells 1 [.ms 2 0 r10.1.length]) rfl (by kernel_rfl) (.cells (.k (.ms rfl rfl) .z)) (.f rfl (by kernel_rfl) .z)))))))) ?_
      obtain ⟨r11,hr11,hl5⟩:=bindE hl5
      refine run1z (c55 66) [{},{},{},{},{},{},{},{},{ c:=some (.tup [.i r11.1,.i r11.2],s_6) }] [1,4,5,6,7,8,10,13,14,20,21,22,50,51,52] [.mp 0 0 0,.mp 1 0 0,v_9,.mp 2 0 0,w_0,.i l1_22,.i y3,.mp 8 0 0,.i r11.1,v_0,v_1,.i l1_22,v_6,v_7,.i l5_52] s_6 _ (by kernel_rfl) (cj1 (f68_ok a0.p.instrument (⟨y9.course,y9.fret⟩:GPlace) _ hr11 s_6)) ?_
      obtain ⟨r12,hr12,hl5⟩:=bindE hl5
      let w_1:AV:=.agg [.i l1_22,.i y9.course,.i r11.1,.i y3,.i r12]
      let s_7:St:=⟨[(9,.cells 5 [w_1]),(8,b_14),(7,b_12),(6,b_16),(2,b_15),(1,.cells 1 [v_10]),(0,b_0)],10⟩
      refine yun1z (c55 68) [[],[],[1],[],[],[],[5],[0,1,2,3,4,5,6],[],[0,1,2,3,4,5,6,7,8]] [.light 0 false,.light 1 false,.light 2 true,.light 3 false,.light 4 false,.light 5 false,.heavy 6 [2],.light 7 false,.alloc 8,.heavy 9 []] [{},{},{},{},{},{},{ c:=some (.i r12,s_6) }] [1,4,5,6,7,8,10,13,16,20,21,22,50,51,52] [.mp 0 0 0,.mp 1 0 0,v_9,.mp 2 0 0,w_0,.i l1_22,.i y3,.mp 8 0 0,.mp 9 0 0,v_0,v_1,.i l1_22,v_6,v_7,.i l5_52] s_7 _ (by kernel_rfl) (cjC (f69_ok a0 _ hr12 s_6) (cj1 (@Eq.refl AV (.i y9.course)))) ?_
      obtain ⟨oj6,hj6,hl5⟩:=bindE hl5
      refine run_jq (c55 69) (c55 74) (fun ((j6_h2,j6_h9_4):(List Int × Int))=>(zipE [1,4,5,6,7,8,10,13,16,20,21,22,50,51,52] [.mp 0 0 0,.mp 1 0 0,v_9,.mp 2 0 0,w_0,.i l1_22,.i y3,.mp 8 0 0,.mp 9 0 0,v_0,v_1,.i l1_22,v_6,v_7,.i l5_52])) (fun ((j6_h2,j6_h9_4):(List Int × Int))=>⟨[(9,.cells 5 [.agg [.i l1_22,.i y9.course,.i r11.1,.i y3,.i j6_h9_4]]),(8,b_14),(7,b_12),(6,b_16),(2,.cells 15 [.agg (j6_h2.map AV.i)]),(1,.cells 1 [v_10]),(0,b_0)],10⟩) (fun j=>oj6 = j) (by kernel_rfl) (fun kj6=>?_) ?_
      ·refine run1z (c55 71) [] [1,4,5,6,7,8,10,13,16,20,21,22,50,51,52,83] [.mp 0 0 0,.mp 1 0 0,v_9,.mp 2 0 0,w_0,.i l1_22,.i y3,.mp 8 0 0,.mp 9 0 0,v_0,v_1,.i l1_22,v_6,v_7,.i l5_52,.bool (decide (0 < y9.fret))] s_7 _ (by kernel_rfl) cj0 ?_
       rcases iteE hj6 with ⟨hc13,hj6⟩ | ⟨hc13,hj6⟩
       ·refine run_cT 83 (c55 72) (c55 73) (decide (0 < y9.fret)) hc13 (by kernel_rfl) (by kernel_rfl) ?_
        obtain ⟨r14,hr14,hj6⟩:=bindE hj6
        obtain ⟨y15,hy15,hj6⟩:=bindE hj6
        refine yun0z [[],[0],[],[],[],[4],[2,3,4,5],[2,3,4,5,6],[0,1,2,3,4,5,6,7],[0,1,2,3,4,5,6,7,8],[0,1,2,3,4,5,6,7,8,9],[0,1,2,3,4,5,6,7,8,9,10]] [.light 0 false,.light 1 true,.light 2 false,.light 3 false,.light 4 false,.light 5 false,.heavy 6 [1],.light 7 false,.light 8 false,.light 9 false,.light 10 false,.heavy 11 []] [{},{},{},{},{},{},{ c:=some (.i r14,s_7) },{},{ k:=1,x:=AV.i y15 }] [1,4,5,6,7,8,10,13,16,20,21,22,50,51,52] [.mp 0 0 0,.mp 1 0 0,v_9,.mp 2 0 0,w_0,.i l1_22,.i y3,.mp 8 0 0,.mp 9 0 0,v_0,v_1,.i l1_22,v_6,v_7,.i l5_52] ⟨[(9,.cells 5 [.agg [.i l1_22,.i y9.course,.i r11.1,.i y3,.i y15]]),(8,b_14),(7,b_12),(6,b_16),(2,b_15),(1,.cells 1 [v_10]),(0,b_0)],10⟩ _ (by kernel_rfl) (cjC (f70_ok a0 l1_22 y9.hold _ hr14 s_7) (cjC (@Eq.refl AV (.sl false (a0.onsets.map AV.i))) (cjC ((ixE hy15).1) (cj1 (mapGet AV.i (ixE hy15).2))))) ?_
        replace hj6:=Option.some.inj hj6; subst hj6
        refine thenN ?_
        exact kj6 (r10.2,y15) rfl
       ·refine run_cF 83 (c55 72) (c55 73) (decide (0 < y9.fret)) hc13 (by kernel_rfl) (by kernel_rfl) ?_
        obtain ⟨hn16,hj6⟩:=needE hj6
        obtain ⟨y17,hy17,hj6⟩:=bindE hj6
        refine run0z [{},{},{},{},{},{ k:=1,n:=y9.course.toNat },{ k:=1,x:=.agg (r10.2.map AV.i),l:=[.agg ((r10.2.set y9.course.toNat (wr ((r10.1.length:Int) + 1))).map AV.i)] }] [1,4,5,6,7,8,10,13,16,20,21,22,50,51,52] [.mp 0 0 0,.mp 1 0 0,v_9,.mp 2 0 0,w_0,.i l1_22,.i y3,.mp 8 0 0,.mp 9 0 0,v_0,v_1,.i l1_22,v_6,v_7,.i l5_52] ⟨[(9,.cells 5 [w_1]),(8,b_14),(7,b_12),(6,b_16),(2,.cells 15 [.agg ((r10.2.set y9.course.toNat (wr ((r10.1.length:Int) + 1))).map AV.i)]),(1,.cells 1 [v_10]),(0,b_0)],10⟩ _ (by kernel_rfl) (cjC ((ixE hy17).1) (cjC (hn16) (cjC (vecOff y9.course.toNat) (cjC (@Eq.refl (Option AV) (some (.agg (r10.2.map AV.i)))) (cjC (vecLe AV.i hy17) (cj1 (vecSet AV.i hy17 (wr ((r10.1.length:Int) + 1))))))))) ?_
        replace hj6:=Option.some.inj hj6; subst hj6
        refine thenN ?_
        exact kj6 ((r10.2.set y9.course.toNat (wr ((r10.1.length:Int) + 1))),r12) rfl
      ·rintro ⟨j6_h2,j6_h9_4⟩ rfl
       obtain ⟨hn18,hl5⟩:=needE hl5
       let w_2:AV:=.agg [.i l1_22,.i y9.course,.i r11.1,.i y3,.i j6_h9_4]
       let b_17:Blk:=.cells 1 [.ms 10 0 (r10.1 ++ [(⟨l1_22,y9.course,r11.1,y3,j6_h9_4⟩:GNote)]).length]
       let b_18:Blk:=.cells 5 ((r10.1 ++ [(⟨l1_22,y9.course,r11.1,y3,j6_h9_4⟩:GNote)]).map E_GNote)
       let b_19:Blk:=.cells 15 [.agg (j6_h2.map AV.i)]
       refine run1z (c55 76) [{},{},{},{ k:=1,n:=(r10.1 ++ [(⟨l1_22,y9.course,r11.1,y3,j6_h9_4⟩:GNote)]).length,l:=(r10.1 ++ [(⟨l1_22,y9.course,r11.1,y3,j6_h9_4⟩:GNote)]).map E_GNote }] [1,4,5,6,7,8,10,13,16,20,21,22,50,51,52] [.mp 0 0 0,.mp 1 0 0,v_9,.mp 2 0 0,w_0,.i l1_22,.i y3,.mp 8 0 0,.mp 9 0 0,v_0,v_1,.i l1_22,v_6,v_7,.i l5_52] ⟨[(10,b_18),(9,.cells 5 [w_2]),(8,b_14),(7,b_12),(2,b_19),(1,b_17),(0,b_0)],11⟩ _ (by kernel_rfl) (cjC (@List.cons_ne_nil AV (w_2) []) (cjC (mLe r10.1 E_GNote) (cjC (hn18) (cjC (lenA r10.1 ([(⟨l1_22,y9.course,r11.1,y3,j6_h9_4⟩:GNote)]:List GNote)) (cjC (appA r10.1 ([(⟨l1_22,y9.course,r11.1,y3,j6_h9_4⟩:GNote)]:List GNote) E_GNote) (cj1 (fitsOne (P:=Try.prog) (t:=78) (x:=w_2) (r:=[]) (by kernel_rfl)))))))) ?_
       obtain ⟨hn19,hl5⟩:=needE hl5
       let w_3:AV:=.agg [.i l1_22,.i y9.course,.i y9.fret,.i y3,.i j6_h9_4]
       let b_20:Blk:=.cells 5 ((l5_5 ++ [(⟨l1_22,y9.course,y9.fret,y3,j6_h9_4⟩:GSPress)]).map E_GSPress)
       let s_8:St:=⟨[(11,b_20),(10,b_18),(2,b_19),(1,b_17),(0,b_0)],12⟩
       refine run0z [{},{},{},{},{},{},{},{},{},{},{},{},{ k:=1,n:=(l5_5 ++ [(⟨l1_22,y9.course,y9.fret,y3,j6_h9_4⟩:GSPress)]).length,l:=(l5_5 ++ [(⟨l1_22,y9.course,y9.fret,y3,j6_h9_4⟩:GSPress)]).map E_GSPress }] [1,4,5,6,7,8,10,20,21,22,50,51,52] [.mp 0 0 0,.mp 1 0 0,.ms 11 0 (l5_5 ++ [(⟨l1_22,y9.course,y9.fret,y3,j6_h9_4⟩:GSPress)]).length,.mp 2 0 0,w_0,.i l1_22,.i y3,v_0,v_1,.i l1_22,v_6,v_7,.i l5_52] s_8 _ (by kernel_rfl) (cjC (@List.cons_ne_nil AV (w_3) []) (cjC (mLe l5_5 E_GSPress) (cjC (hn19) (cjC (lenA l5_5 ([(⟨l1_22,y9.course,y9.fret,y3,j6_h9_4⟩:GSPress)]:List GSPress)) (cjC (appA l5_5 ([(⟨l1_22,y9.course,y9.fret,y3,j6_h9_4⟩:GSPress)]:List GSPress) E_GSPress) (cj1 (fitsOne (P:=Try.prog) (t:=146) (x:=w_3) (r:=[]) (by kernel_rfl)))))))) ?_
       refine inbN ?_
       refine thenN ?_
       refine run0z [] [1,4,5,6,7,8,10,20,21,22,50,51,52] [.mp 0 0 0,.mp 1 0 0,.ms 11 0 (l5_5 ++ [(⟨l1_22,y9.course,y9.fret,y3,j6_h9_4⟩:GSPress)]).length,.mp 2 0 0,w_0,.i l1_22,.i y3,v_0,v_1,.i l1_22,v_6,v_7,.i (wr (l5_52 + 1))] s_8 _ (by kernel_rfl) cj0 ?_
       replace hl5:=Option.some.inj hl5; subst hl5
       exact ⟨_,rfl,pi [(6,10),(7,11)],mkInto (ks:=[1,4,5,6,7,8,10,20,21,22,50,51,52]) (ys:=[.mp 0 0 0,.mp 1 0 0,.ms 11 0 (l5_5 ++ [(⟨l1_22,y9.course,y9.fret,y3,j6_h9_4⟩:GSPress)]).length,.mp 2 0 0,w_0,.i l1_22,.i y3,v_0,v_1,.i l1_22,v_6,v_7,.i (wr (l5_52 + 1))]) (by kernel_rfl) (by kernel_rfl) (.k (.mp rfl rfl) (.k (.mp rfl rfl) (.k (.ms rfl rfl) (.k (.mp rfl rfl) (.k (.f (.k (.mp rfl rfl) (.k (.mp rfl rfl) .z))) (.k (.c rfl) (.k (.c rfl) (.k (.c (cleanMap _ _ cl_GEvent)) (.k (.c rfl) (.k (.c rfl) (.k (.c (cleanMap _ _ cl_GStop)) (.k (.c rfl) (.k (.c rfl) .z))))))))))))) (.k rfl (.cells (.r (cleanMap _ _ cl_GSPress))) (.k rfl (.cells (.r (cleanMap _ _ cl_GNote))) (.k rfl (.cells (.k (.a (.r (cleanMap _ _ cl_i))) .z)) (.k rfl (.cells (.k (.ms rfl rfl) .z)) (.k rfl (.cells (.k (.c (cl_GSSounding a0)) .z)) .z)))))⟩
     ·refine run_cF 53 (c55 56) (c55 57) (decide (l5_52 < (y2.stops.length:Int))) hc8 (by kernel_rfl) (by kernel_rfl) ?_
      replace hl5:=Option.some.inj hl5; subst hl5
      have hr:=rl5 _ rfl
      subst hr
      refine awp_p [1,4,5,6,7,20,21,22] [7,6,2,1,0] (zipE [1,4,5,6,7,20,21,22] [.mp 0 0 0,.mp 1 0 0,v_9,.mp 2 0 0,w_0,v_0,v_1,.i l1_22]) s_4 (by kernel_rfl) (?_)
      refine run_e 4 (by kernel_rfl) ?_
      refine thenE ?_
      refine ⟨⟨_,rfl⟩,?_⟩
      refine inbE ?_
      exact kl5 (l5_h1,l5_5,l5_h2) rfl
    ·rintro ⟨l5x_h1,l5x_5,l5x_h2⟩ rfl
     refine inbN ?_
     refine thenN ?_
     refine run0z [] [1,4,5,6,7,20,21,22] [.mp 0 0 0,.mp 1 0 0,.ms 7 0 l5x_5.length,.mp 2 0 0,w_0,v_0,v_1,.i (wr (l1_22 + 1))] ⟨[(7,.cells 5 (l5x_5.map E_GSPress)),(6,.cells 5 (l5x_h1.map E_GNote)),(2,.cells 15 [.agg (l5x_h2.map AV.i)]),(1,.cells 1 [.ms 6 0 l5x_h1.length]),(0,b_0)],8⟩ _ (by kernel_rfl) cj0 ?_
     replace hl1:=Option.some.inj hl1; subst hl1
     exact ⟨_,rfl,pi [(3,6),(4,7)],mkInto (ks:=[1,4,5,6,7,20,21,22]) (ys:=[.mp 0 0 0,.mp 1 0 0,.ms 7 0 l5x_5.length,.mp 2 0 0,w_0,v_0,v_1,.i (wr (l1_22 + 1))]) (by kernel_rfl) (by kernel_rfl) (.k (.mp rfl rfl) (.k (.mp rfl rfl) (.k (.ms rfl rfl) (.k (.mp rfl rfl) (.k (.f (.k (.mp rfl rfl) (.k (.mp rfl rfl) .z))) (.k (.c (cleanMap _ _ cl_GEvent)) (.k (.c rfl) (.k (.c rfl) .z)))))))) (.k rfl (.cells (.r (cleanMap _ _ cl_GSPress))) (.k rfl (.cells (.r (cleanMap _ _ cl_GNote))) (.k rfl (.cells (.k (.a (.r (cleanMap _ _ cl_i))) .z)) (.k rfl (.cells (.k (.ms rfl rfl) .z)) (.k rfl (.cells (.k (.c (cl_GSSounding a0)) .z)) .z)))))⟩
  ·refine run_cF 23 (c55 19) (c55 20) (decide (l1_22 < (a0.p.events.length:Int))) hc1 (by kernel_rfl) (by kernel_rfl) ?_
   replace hl1:=Option.some.inj hl1; subst hl1
   have hr:=rl1 _ rfl
   subst hr
   refine awp_p [4,5] [4,3,1] (zipE [4,5] [.mp 1 0 0,v_3]) ⟨[(4,b_4),(3,b_5),(1,.cells 1 [v_2])],5⟩ (by kernel_rfl) (?_)
   refine run_e 0 (by kernel_rfl) ?_
   refine thenE ?_
   refine ⟨⟨_,rfl⟩,?_⟩
   refine inbE ?_
   exact kl1 (l1_h1,l1_5) rfl
 ·rintro ⟨l1x_h1,l1x_5⟩ rfl
  refine thenN ?_
  let v_11:AV:=.ms 3 0 l1x_h1.length
  let b_21:Blk:=.cells 5 (l1x_h1.map E_GNote)
  refine run1z (c55 81) [] [2,3] [v_11,.ms 4 0 l1x_5.length] ⟨[(4,.cells 5 (l1x_5.map E_GSPress)),(3,b_21)],5⟩ _ (by kernel_rfl) cj0 ?_
  let v_12:AV:=.sl false (l1x_5.map E_GSPress)
  refine run_z 4 5 (l1x_5.map E_GSPress) [2,3] [v_11,.ms 4 0 l1x_5.length] (xs:=[v_11,v_12]) (S2:=⟨[(3,b_21)],5⟩) ?_ (by kernel_rfl) (by kernel_rfl) (.k (.r _) (.k (.m (mLe l1x_5 E_GSPress) (mapAll l1x_5 E_GSPress)) .z)) (.k (x':=b_21) rfl (by kernel_rfl) (.r _) .z) rfl rfl
  refine run_z 3 5 (l1x_h1.map E_GNote) [2,3] [v_11,v_12] (xs:=[.sl false (l1x_h1.map E_GNote),v_12]) (S2:=⟨[],5⟩) ?_ (by kernel_rfl) (by kernel_rfl) (.k (.m (mLe l1x_h1 E_GNote) (mapAll l1x_h1 E_GNote)) (.k (.r _) .z)) .z rfl rfl
  refine run_t (by kernel_rfl) ?_
  replace h:=Option.some.inj h; subst h
  exact fin_r (by kernel_rfl) rfl
def f32 (a0:GPiece):Option (((List GNote)) × Int):=(f54 a0).bind fun r1=>bif (decide (r1.2 ≠ 0)) then (some (([]:List GNote),r1.2)) else ((f55 r1.1).bind fun r3=>some (r3.1,0))
theorem f32_ok (a0:GPiece) (r:(((List GNote)) × Int)) (h:f32 a0 = some r):APure Try.prog 32 [E_GPiece a0] (.tup [.sl false (r.1.map E_GNote),.i r.2]):=by
 refine apure (clK (cl_GPiece a0) clZ) (clK (cleanMap r.1 _ cl_GNote) (clK rfl clZ)) ?_
 refine run_f 22 [.tmp 2,.tmp 3] (c32 0) (zipE [0] [E_GPiece a0]) (by kernel_rfl) (by kernel_rfl) (by kernel_rfl) rfl ?_
 unfold f32 at h
 let b_0:Blk:=.cells 3 [E_GPiece a0]
 refine run1z (c32 2) [] [1] [.mp 0 0 0] ⟨[(0,b_0)],1⟩ _ (by kernel_rfl) cj0 ?_
 obtain ⟨r1,hr1,h⟩:=bindE h
 let b_1:Blk:=.cells 4 [E_GSSounding r1.1]
 refine run1z (c32 4) [{},{ c:=some (.tup [E_GSSounding r1.1,.i r1.2],⟨[(0,b_0)],1⟩) }] [4,5] [.mp 1 0 0,.i r1.2] ⟨[(1,b_1)],2⟩ _ (by kernel_rfl) (cj1 (f54_ok a0 _ hr1 ⟨[(0,b_0)],1⟩)) ?_
 refine run_s (c32 5) (c32 12) (by kernel_rfl) ?_
 refine run1z (c32 7) [] [4,5,14] [.mp 1 0 0,.i r1.2,.bool (decide (r1.2 ≠ 0))] ⟨[(1,b_1)],2⟩ _ (by kernel_rfl) cj0 ?_
 rcases iteE h with ⟨hc2,h⟩ | ⟨hc2,h⟩
 ·refine run_cT 14 (c32 8) (c32 11) (decide (r1.2 ≠ 0)) hc2 (by kernel_rfl) (by kernel_rfl) ?_
  refine run1z (c32 10) [] [2,3] [.sl true [],.i r1.2] ⟨[],2⟩ _ (by kernel_rfl) cj0 ?_
  refine run_i 2 [] [2,3] [.sl true [],.i r1.2] (xs:=[.sl false (([]:List GNote).map E_GNote),.i r1.2]) (S2:=⟨[],2⟩) ?_ (by intro i e; cases e <;> exact Nat.le_of_ble_eq_true rfl) (by kernel_rfl) (by kernel_rfl) (by kernel_rfl) (.k (.s (cleanMap (([]:List GNote)) _ cl_GNote)) (.k (.c rfl) .z)) .z
  refine run_t (by kernel_rfl) ?_
  refine thenR ?_
  replace h:=Option.some.inj h; subst h
  exact fin_r (by kernel_rfl) rfl
 ·refine run_cF 14 (c32 8) (c32 11) (decide (r1.2 ≠ 0)) hc2 (by kernel_rfl) (by kernel_rfl) ?_
  refine run_k (by kernel_rfl) ?_
  refine thenN ?_
  obtain ⟨r3,hr3,h⟩:=bindE h
  let v_0:AV:=.sl false (r3.1.map E_GNote)
  refine run1z (c32 14) [{},{ c:=some (.tup [v_0,.sl false (r3.2.map E_GSPress)],⟨[(1,b_1)],2⟩) }] [6] [v_0] ⟨[],2⟩ _ (by kernel_rfl) (cj1 (f55_ok r1.1 _ hr3 ⟨[(1,b_1)],2⟩)) ?_
  refine run1z (c32 16) [] [2,3] [v_0,.i 0] ⟨[],2⟩ _ (by kernel_rfl) cj0 ?_
  refine run_t (by kernel_rfl) ?_
  replace h:=Option.some.inj h; subst h
  exact fin_r (by kernel_rfl) rfl
end Go.Proofs.Ytpljabnngpnieaa
