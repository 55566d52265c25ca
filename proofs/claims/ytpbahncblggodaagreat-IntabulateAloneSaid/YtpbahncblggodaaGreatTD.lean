/-
  Functions of the program as Lean functions, and the walks. Written by a program of ours.
-/
import Derived.Test.YtpbahncblggodaaGreatAmH
import Derived.Test.YtpbahncblggodaaGreatChecked
import Derived.Test.YtpbahncblggodaaGreatSg
import Derived.Test.YtpbahncblggodaaGreatSo
import Derived.Test.YtpbahncblggodaaGreatLsf
import Derived.Test.YtpbahncblggodaaGreatTm
import Derived.Test.YtpbahncblggodaaGreatWb
namespace Go.Proofs.YtpbahncblggodaaGreat
open Go Go.Am
set_option maxRecDepth 100000
set_option linter.all false
structure GTone where
 pitch:Int
 from_:Int
 to_:Int
 deriving DecidableEq
def E_GTone(x:GTone):AV:=.agg [.i x.pitch,.i x.from_,.i x.to_]
theorem cl_GTone(x:GTone):(E_GTone x).clean=true:=(clK rfl (clK rfl (clK rfl clZ)))
structure GCourse where
 pitch:Int
 frets:Int
 octave:Bool
 deriving DecidableEq
def E_GCourse(x:GCourse):AV:=.agg [.i x.pitch,.i x.frets,.bool x.octave]
theorem cl_GCourse(x:GCourse):(E_GCourse x).clean=true:=(clK rfl (clK rfl (clK rfl clZ)))
structure GInstrument where
 courses:(List GCourse)
 steps:(List Int)
 deriving DecidableEq
def E_GInstrument(x:GInstrument):AV:=.agg [.sl false (x.courses.map E_GCourse),.sl false (x.steps.map AV.i)]
theorem cl_GInstrument(x:GInstrument):(E_GInstrument x).clean=true:=(clK (cleanMap _ _ cl_GCourse) (clK (cleanMap _ _ cl_i) clZ))
structure GHand where
 low:(List Int)
 high:(List Int)
 barre:(List Bool)
 top:Int
 jump:Int
 shift:Int
 lift:Int
 bar:Int
 stretch:Int
 slide:Int
 deriving DecidableEq
def E_GHand(x:GHand):AV:=.agg [.sl false (x.low.map AV.i),.sl false (x.high.map AV.i),.sl false (x.barre.map AV.bool),.i x.top,.i x.jump,.i x.shift,.i x.lift,.i x.bar,.i x.stretch,.i x.slide]
theorem cl_GHand(x:GHand):(E_GHand x).clean=true:=(clK (cleanMap _ _ cl_i) (clK (cleanMap _ _ cl_i) (clK (cleanMap _ _ cl_bool) (clK rfl (clK rfl (clK rfl (clK rfl (clK rfl (clK rfl (clK rfl clZ))))))))))
structure GLaw08Job where
 parts:(List (List GTone))
 instrument:GInstrument
 hand:GHand
 shift:Int
 deriving DecidableEq
def E_GLaw08Job(x:GLaw08Job):AV:=.agg [.sl false (x.parts.map (SL E_GTone)),.sl false (x.instrument.courses.map E_GCourse),.sl false (x.instrument.steps.map AV.i),.sl false (x.hand.low.map AV.i),.sl false (x.hand.high.map AV.i),.sl false (x.hand.barre.map AV.bool),.i x.hand.top,.i x.hand.jump,.i x.hand.shift,.i x.hand.lift,.i x.hand.bar,.i x.hand.stretch,.i x.hand.slide,.i x.shift]
theorem cl_GLaw08Job(x:GLaw08Job):(E_GLaw08Job x).clean=true:=(clK (cleanMap _ _ (cl_SL cl_GTone)) (clK (cleanMap _ _ cl_GCourse) (clK (cleanMap _ _ cl_i) (clK (cleanMap _ _ cl_i) (clK (cleanMap _ _ cl_i) (clK (cleanMap _ _ cl_bool) (clK rfl (clK rfl (clK rfl (clK rfl (clK rfl (clK rfl (clK rfl (clK rfl clZ))))))))))))))
structure GPlace where
 course:Int
 fret:Int
 deriving DecidableEq
def E_GPlace(x:GPlace):AV:=.agg [.i x.course,.i x.fret]
theorem cl_GPlace(x:GPlace):(E_GPlace x).clean=true:=(clK rfl (clK rfl clZ))
def eq_GPlace(x y:GPlace):Bool:=((decide (x.course=y.course))&&((decide (x.fret=y.fret))&&true))
structure GSign where
 value:Int
 dot:Bool
 three:Bool
 deriving DecidableEq
def E_GSign(x:GSign):AV:=.agg [.i x.value,.bool x.dot,.bool x.three]
theorem cl_GSign(x:GSign):(E_GSign x).clean=true:=(clK rfl (clK rfl (clK rfl clZ)))
structure GStop where
 course:Int
 fret:Int
 right:Int
 grace:Int
 hold:Int
 deriving DecidableEq
def E_GStop(x:GStop):AV:=.agg [.i x.course,.i x.fret,.i x.right,.i x.grace,.i x.hold]
theorem cl_GStop(x:GStop):(E_GStop x).clean=true:=(clK rfl (clK rfl (clK rfl (clK rfl (clK rfl clZ)))))
structure GEvent where
 bar:Bool
 sign:GSign
 tie:Bool
 stops:(List GStop)
 deriving DecidableEq
def E_GEvent(x:GEvent):AV:=.agg [.bool x.bar,.i x.sign.value,.bool x.sign.dot,.bool x.sign.three,.bool x.tie,.sl false (x.stops.map E_GStop)]
theorem cl_GEvent(x:GEvent):(E_GEvent x).clean=true:=(clK rfl (clK rfl (clK rfl (clK rfl (clK rfl (clK (cleanMap _ _ cl_GStop) clZ))))))
structure GPiece where
 instrument:GInstrument
 events:(List GEvent)
 deriving DecidableEq
structure GLoss where
 part:Int
 tone:Int
 kind:Int
 time:Int
 deriving DecidableEq
def E_GLoss(x:GLoss):AV:=.agg [.i x.part,.i x.tone,.i x.kind,.i x.time]
theorem cl_GLoss(x:GLoss):(E_GLoss x).clean=true:=(clK rfl (clK rfl (clK rfl (clK rfl clZ))))
def eq_GLoss(x y:GLoss):Bool:=((decide (x.part=y.part))&&((decide (x.tone=y.tone))&&((decide (x.kind=y.kind))&&((decide (x.time=y.time))&&true))))
structure GSetting where
 piece:GPiece
 shift:Int
 where_:(List (List GPlace))
 losses:(List GLoss)
 deriving DecidableEq
def E_GSetting(x:GSetting):AV:=.agg [.sl false (x.piece.instrument.courses.map E_GCourse),.sl false (x.piece.instrument.steps.map AV.i),.sl false (x.piece.events.map E_GEvent),.i x.shift,.sl false (x.where_.map (SL E_GPlace)),.sl false (x.losses.map E_GLoss)]
theorem cl_GSetting(x:GSetting):(E_GSetting x).clean=true:=(clK (cleanMap _ _ cl_GCourse) (clK (cleanMap _ _ cl_i) (clK (cleanMap _ _ cl_GEvent) (clK rfl (clK (cleanMap _ _ (cl_SL cl_GPlace)) (clK (cleanMap _ _ cl_GLoss) clZ))))))
structure GChord where
 down:(List GPlace)
 held:(List Int)
 open_:(List Int)
 deriving DecidableEq
def E_GChord(x:GChord):AV:=.agg [.sl false (x.down.map E_GPlace),.sl false (x.held.map AV.i),.sl false (x.open_.map AV.i)]
theorem cl_GChord(x:GChord):(E_GChord x).clean=true:=(clK (cleanMap _ _ cl_GPlace) (clK (cleanMap _ _ cl_i) (clK (cleanMap _ _ cl_i) clZ)))
structure GNMember where
 part:Int
 tone:Int
 deriving DecidableEq
def E_GNMember(x:GNMember):AV:=.agg [.i x.part,.i x.tone]
theorem cl_GNMember(x:GNMember):(E_GNMember x).clean=true:=(clK rfl (clK rfl clZ))
structure GNNote where
 members:(List GNMember)
 pitch:Int
 from_:Int
 to_:Int
 place:GPlace
 event:Int
 deriving DecidableEq
def E_GNNote(x:GNNote):AV:=.agg [.sl false (x.members.map E_GNMember),.i x.pitch,.i x.from_,.i x.to_,.i x.place.course,.i x.place.fret,.i x.event]
theorem cl_GNNote(x:GNNote):(E_GNNote x).clean=true:=(clK (cleanMap _ _ cl_GNMember) (clK rfl (clK rfl (clK rfl (clK rfl (clK rfl (clK rfl clZ)))))))
structure GGrip where
 pos:Int
 fingers:(List Int)
 deriving DecidableEq
def E_GGrip(x:GGrip):AV:=.agg [.i x.pos,.sl false (x.fingers.map AV.i)]
theorem cl_GGrip(x:GGrip):(E_GGrip x).clean=true:=(clK rfl (clK (cleanMap _ _ cl_i) clZ))
structure GNDesk where
 chord:GChord
 in_:GInstrument
 h:GHand
 shift:Int
 piece:GPiece
 live:(List GNNote)
 possible:(List GGrip)
 deriving DecidableEq
structure GNChoice where
 places:(List GPlace)
 cut:(List Bool)
 deriving DecidableEq
def E_GNChoice(x:GNChoice):AV:=.agg [.sl false (x.places.map E_GPlace),.sl false (x.cut.map AV.bool)]
theorem cl_GNChoice(x:GNChoice):(E_GNChoice x).clean=true:=(clK (cleanMap _ _ cl_GPlace) (clK (cleanMap _ _ cl_bool) clZ))
def TS:Nat->Type
 |0=>GTone
 |1=>GCourse
 |2=>Int
 |3=>GInstrument
 |4=>Bool
 |5=>GHand
 |6=>(List GTone)
 |7=>GLaw08Job
 |8=>GPlace
 |9=>GSign
 |10=>(List GSign)
 |11=>(List GPlace)
 |12=>GLoss
 |13=>GStop
 |14=>GEvent
 |15=>GNMember
 |16=>GNNote
 |17=>GGrip
 |18=>GNChoice
 |19=>GChord
 |20=>GSetting
 |_+21=>Unit
def TE:(c:Nat)->TS c->AV
 |0,x=>E_GTone x
 |1,x=>E_GCourse x
 |2,x=>AV.i x
 |3,x=>E_GInstrument x
 |4,x=>AV.bool x
 |5,x=>E_GHand x
 |6,x=>(SL E_GTone) x
 |7,x=>E_GLaw08Job x
 |8,x=>E_GPlace x
 |9,x=>E_GSign x
 |10,x=>(SL E_GSign) x
 |11,x=>(SL E_GPlace) x
 |12,x=>E_GLoss x
 |13,x=>E_GStop x
 |14,x=>E_GEvent x
 |15,x=>E_GNMember x
 |16,x=>(λ(x:GNNote)=>AV.ip [.sl false (x.members.map E_GNMember),.i x.pitch,.i x.from_,.i x.to_,.i x.place.course,.i x.place.fret,.i x.event]) x
 |17,x=>E_GGrip x
 |18,x=>E_GNChoice x
 |19,x=>E_GChord x
 |20,x=>E_GSetting x
 |_+21,_=>.nilp
def TX:(c:Nat)->TS c->TV TS
 |0,(x:GTone)=>.agg [.n x.pitch,.n x.from_,.n x.to_]
 |1,(x:GCourse)=>.agg [.n x.pitch,.n x.frets,.b x.octave]
 |2,(x:Int)=>.n x
 |3,(x:GInstrument)=>.agg [.l false 1 x.courses,.l false 2 x.steps]
 |4,(x:Bool)=>.b x
 |5,(x:GHand)=>.agg [.l false 2 x.low,.l false 2 x.high,.l false 4 x.barre,.n x.top,.n x.jump,.n x.shift,.n x.lift,.n x.bar,.n x.stretch,.n x.slide]
 |6,(x:(List GTone))=>.l false 0 x
 |7,(x:GLaw08Job)=>.agg [.l false 6 x.parts,.l false 1 x.instrument.courses,.l false 2 x.instrument.steps,.l false 2 x.hand.low,.l false 2 x.hand.high,.l false 4 x.hand.barre,.n x.hand.top,.n x.hand.jump,.n x.hand.shift,.n x.hand.lift,.n x.hand.bar,.n x.hand.stretch,.n x.hand.slide,.n x.shift]
 |8,(x:GPlace)=>.agg [.n x.course,.n x.fret]
 |9,(x:GSign)=>.agg [.n x.value,.b x.dot,.b x.three]
 |10,(x:(List GSign))=>.l false 9 x
 |11,(x:(List GPlace))=>.l false 8 x
 |12,(x:GLoss)=>.agg [.n x.part,.n x.tone,.n x.kind,.n x.time]
 |13,(x:GStop)=>.agg [.n x.course,.n x.fret,.n x.right,.n x.grace,.n x.hold]
 |14,(x:GEvent)=>.agg [.b x.bar,.n x.sign.value,.b x.sign.dot,.b x.sign.three,.b x.tie,.l false 13 x.stops]
 |15,(x:GNMember)=>.agg [.n x.part,.n x.tone]
 |16,(x:GNNote)=>.ip [.l false 15 x.members,.n x.pitch,.n x.from_,.n x.to_,.n x.place.course,.n x.place.fret,.n x.event]
 |17,(x:GGrip)=>.agg [.n x.pos,.l false 2 x.fingers]
 |18,(x:GNChoice)=>.agg [.l false 8 x.places,.l false 4 x.cut]
 |19,(x:GChord)=>.agg [.l false 8 x.down,.l false 2 x.held,.l false 2 x.open_]
 |20,(x:GSetting)=>.agg [.l false 1 x.piece.instrument.courses,.l false 2 x.piece.instrument.steps,.l false 14 x.piece.events,.n x.shift,.l false 11 x.where_,.l false 12 x.losses]
 |_+21,_=>.a .nilp
def gI:TV TS->Option Int
 |.i _ n=>some n
 |.a (.int _ n)=>some n
 |.v d x=>match TX d x with
  |.i _ n=>some n
  |_=>none
 |_=>none
def gB:TV TS->Option Bool
 |.b t=>some t
 |.a (.bool t)=>some t
 |.v d x=>match TX d x with
  |.b t=>some t
  |_=>none
 |_=>none
def gV(d c:Nat)(x:TS d):Option (TS c):=if h:d=c then some (h ▸ x)else none
def gLx(d c:Nat)(x:List (TS d)):Option (List (TS c)):=if h:d=c then some (h ▸ x)else none
def gL(c:Nat):TV TS->Option (List (TS c))
 |.l _ d x=>gLx d c x
 |.a (.sl _ [])=>some []
 |.v d x=>match TX d x with
  |.l _ d x=>gLx d c x
  |_=>none
 |_=>none
def TD:(c:Nat)->TV TS->Option (TS c)
 |0,.a (.agg [x0,x1,x2])=>(gI (.a x0)).bind λx0=>(gI (.a x1)).bind λx1=>(gI (.a x2)).bind λx2=>some ⟨x0,x1,x2⟩
 |0,.v d x=>gV d 0 x
 |0,.agg [x0,x1,x2]=>(gI x0).bind λx0=>(gI x1).bind λx1=>(gI x2).bind λx2=>some ⟨x0,x1,x2⟩
 |1,.a (.agg [x0,x1,x2])=>(gI (.a x0)).bind λx0=>(gI (.a x1)).bind λx1=>(gB (.a x2)).bind λx2=>some ⟨x0,x1,x2⟩
 |1,.v d x=>gV d 1 x
 |1,.agg [x0,x1,x2]=>(gI x0).bind λx0=>(gI x1).bind λx1=>(gB x2).bind λx2=>some ⟨x0,x1,x2⟩
 |2,x=>gI x
 |3,.a (.agg [x0,x1])=>(gL 1 (.a x0)).bind λx0=>(gL 2 (.a x1)).bind λx1=>some ⟨x0,x1⟩
 |3,.v d x=>gV d 3 x
 |3,.agg [x0,x1]=>(gL 1 x0).bind λx0=>(gL 2 x1).bind λx1=>some ⟨x0,x1⟩
 |4,x=>gB x
 |5,.a (.agg [x0,x1,x2,x3,x4,x5,x6,x7,x8,x9])=>(gL 2 (.a x0)).bind λx0=>(gL 2 (.a x1)).bind λx1=>(gL 4 (.a x2)).bind λx2=>(gI (.a x3)).bind λx3=>(gI (.a x4)).bind λx4=>(gI (.a x5)).bind λx5=>(gI (.a x6)).bind λx6=>(gI (.a x7)).bind λx7=>(gI (.a x8)).bind λx8=>(gI (.a x9)).bind λx9=>some ⟨x0,x1,x2,x3,x4,x5,x6,x7,x8,x9⟩
 |5,.v d x=>gV d 5 x
 |5,.agg [x0,x1,x2,x3,x4,x5,x6,x7,x8,x9]=>(gL 2 x0).bind λx0=>(gL 2 x1).bind λx1=>(gL 4 x2).bind λx2=>(gI x3).bind λx3=>(gI x4).bind λx4=>(gI x5).bind λx5=>(gI x6).bind λx6=>(gI x7).bind λx7=>(gI x8).bind λx8=>(gI x9).bind λx9=>some ⟨x0,x1,x2,x3,x4,x5,x6,x7,x8,x9⟩
 |6,x=>gL 0 x
 |7,.a (.agg [x0,x1,x2,x3,x4,x5,x6,x7,x8,x9,x10,x11,x12,x13])=>(gL 6 (.a x0)).bind λx0=>(gL 1 (.a x1)).bind λx1=>(gL 2 (.a x2)).bind λx2=>(gL 2 (.a x3)).bind λx3=>(gL 2 (.a x4)).bind λx4=>(gL 4 (.a x5)).bind λx5=>(gI (.a x6)).bind λx6=>(gI (.a x7)).bind λx7=>(gI (.a x8)).bind λx8=>(gI (.a x9)).bind λx9=>(gI (.a x10)).bind λx10=>(gI (.a x11)).bind λx11=>(gI (.a x12)).bind λx12=>(gI (.a x13)).bind λx13=>some ⟨x0,⟨x1,x2⟩,⟨x3,x4,x5,x6,x7,x8,x9,x10,x11,x12⟩,x13⟩
 |7,.v d x=>gV d 7 x
 |7,.agg [x0,x1,x2,x3,x4,x5,x6,x7,x8,x9,x10,x11,x12,x13]=>(gL 6 x0).bind λx0=>(gL 1 x1).bind λx1=>(gL 2 x2).bind λx2=>(gL 2 x3).bind λx3=>(gL 2 x4).bind λx4=>(gL 4 x5).bind λx5=>(gI x6).bind λx6=>(gI x7).bind λx7=>(gI x8).bind λx8=>(gI x9).bind λx9=>(gI x10).bind λx10=>(gI x11).bind λx11=>(gI x12).bind λx12=>(gI x13).bind λx13=>some ⟨x0,⟨x1,x2⟩,⟨x3,x4,x5,x6,x7,x8,x9,x10,x11,x12⟩,x13⟩
 |8,.a (.agg [x0,x1])=>(gI (.a x0)).bind λx0=>(gI (.a x1)).bind λx1=>some ⟨x0,x1⟩
 |8,.v d x=>gV d 8 x
 |8,.agg [x0,x1]=>(gI x0).bind λx0=>(gI x1).bind λx1=>some ⟨x0,x1⟩
 |9,.a (.agg [x0,x1,x2])=>(gI (.a x0)).bind λx0=>(gB (.a x1)).bind λx1=>(gB (.a x2)).bind λx2=>some ⟨x0,x1,x2⟩
 |9,.v d x=>gV d 9 x
 |9,.agg [x0,x1,x2]=>(gI x0).bind λx0=>(gB x1).bind λx1=>(gB x2).bind λx2=>some ⟨x0,x1,x2⟩
 |10,x=>gL 9 x
 |11,x=>gL 8 x
 |12,.a (.agg [x0,x1,x2,x3])=>(gI (.a x0)).bind λx0=>(gI (.a x1)).bind λx1=>(gI (.a x2)).bind λx2=>(gI (.a x3)).bind λx3=>some ⟨x0,x1,x2,x3⟩
 |12,.v d x=>gV d 12 x
 |12,.agg [x0,x1,x2,x3]=>(gI x0).bind λx0=>(gI x1).bind λx1=>(gI x2).bind λx2=>(gI x3).bind λx3=>some ⟨x0,x1,x2,x3⟩
 |13,.a (.agg [x0,x1,x2,x3,x4])=>(gI (.a x0)).bind λx0=>(gI (.a x1)).bind λx1=>(gI (.a x2)).bind λx2=>(gI (.a x3)).bind λx3=>(gI (.a x4)).bind λx4=>some ⟨x0,x1,x2,x3,x4⟩
 |13,.v d x=>gV d 13 x
 |13,.agg [x0,x1,x2,x3,x4]=>(gI x0).bind λx0=>(gI x1).bind λx1=>(gI x2).bind λx2=>(gI x3).bind λx3=>(gI x4).bind λx4=>some ⟨x0,x1,x2,x3,x4⟩
 |14,.a (.agg [x0,x1,x2,x3,x4,x5])=>(gB (.a x0)).bind λx0=>(gI (.a x1)).bind λx1=>(gB (.a x2)).bind λx2=>(gB (.a x3)).bind λx3=>(gB (.a x4)).bind λx4=>(gL 13 (.a x5)).bind λx5=>some ⟨x0,⟨x1,x2,x3⟩,x4,x5⟩
 |14,.v d x=>gV d 14 x
 |14,.agg [x0,x1,x2,x3,x4,x5]=>(gB x0).bind λx0=>(gI x1).bind λx1=>(gB x2).bind λx2=>(gB x3).bind λx3=>(gB x4).bind λx4=>(gL 13 x5).bind λx5=>some ⟨x0,⟨x1,x2,x3⟩,x4,x5⟩
 |15,.a (.agg [x0,x1])=>(gI (.a x0)).bind λx0=>(gI (.a x1)).bind λx1=>some ⟨x0,x1⟩
 |15,.v d x=>gV d 15 x
 |15,.agg [x0,x1]=>(gI x0).bind λx0=>(gI x1).bind λx1=>some ⟨x0,x1⟩
 |16,.v d x=>gV d 16 x
 |16,.ip [x0,x1,x2,x3,x4,x5,x6]=>(gL 15 x0).bind λx0=>(gI x1).bind λx1=>(gI x2).bind λx2=>(gI x3).bind λx3=>(gI x4).bind λx4=>(gI x5).bind λx5=>(gI x6).bind λx6=>some ⟨x0,x1,x2,x3,⟨x4,x5⟩,x6⟩
 |17,.a (.agg [x0,x1])=>(gI (.a x0)).bind λx0=>(gL 2 (.a x1)).bind λx1=>some ⟨x0,x1⟩
 |17,.v d x=>gV d 17 x
 |17,.agg [x0,x1]=>(gI x0).bind λx0=>(gL 2 x1).bind λx1=>some ⟨x0,x1⟩
 |18,.a (.agg [x0,x1])=>(gL 8 (.a x0)).bind λx0=>(gL 4 (.a x1)).bind λx1=>some ⟨x0,x1⟩
 |18,.v d x=>gV d 18 x
 |18,.agg [x0,x1]=>(gL 8 x0).bind λx0=>(gL 4 x1).bind λx1=>some ⟨x0,x1⟩
 |19,.a (.agg [x0,x1,x2])=>(gL 8 (.a x0)).bind λx0=>(gL 2 (.a x1)).bind λx1=>(gL 2 (.a x2)).bind λx2=>some ⟨x0,x1,x2⟩
 |19,.v d x=>gV d 19 x
 |19,.agg [x0,x1,x2]=>(gL 8 x0).bind λx0=>(gL 2 x1).bind λx1=>(gL 2 x2).bind λx2=>some ⟨x0,x1,x2⟩
 |20,.a (.agg [x0,x1,x2,x3,x4,x5])=>(gL 1 (.a x0)).bind λx0=>(gL 2 (.a x1)).bind λx1=>(gL 14 (.a x2)).bind λx2=>(gI (.a x3)).bind λx3=>(gL 11 (.a x4)).bind λx4=>(gL 12 (.a x5)).bind λx5=>some ⟨⟨⟨x0,x1⟩,x2⟩,x3,x4,x5⟩
 |20,.v d x=>gV d 20 x
 |20,.agg [x0,x1,x2,x3,x4,x5]=>(gL 1 x0).bind λx0=>(gL 2 x1).bind λx1=>(gL 14 x2).bind λx2=>(gI x3).bind λx3=>(gL 11 x4).bind λx4=>(gL 12 x5).bind λx5=>some ⟨⟨⟨x0,x1⟩,x2⟩,x3,x4,x5⟩
 |_,_=>none
def TTc:TypeId->Option Nat
 |2=>some 2
 |3=>some 2
 |4=>some 4
 |26=>some 3
 |29=>some 5
 |31=>some 7
 |40=>some 20
 |41=>some 2
 |45=>some 6
 |49=>some 1
 |54=>some 8
 |55=>some 11
 |57=>some 19
 |59=>some 12
 |72=>some 0
 |79=>some 9
 |82=>some 14
 |103=>some 13
 |108=>some 10
 |151=>some 15
 |184=>some 18
 |217=>some 17
 |265=>some 2
 |_=>none
def TWd:Nat->Nat
 |0=>3
 |1=>3
 |2=>1
 |3=>2
 |4=>1
 |5=>10
 |6=>1
 |7=>14
 |8=>2
 |9=>3
 |10=>1
 |11=>1
 |12=>4
 |13=>5
 |14=>6
 |15=>2
 |16=>1
 |17=>2
 |18=>2
 |19=>3
 |20=>6
 |_+21=>1
theorem TT_X: ∀(c:Nat)(x:TS c),(TX c x).er TE=TE c x:=λc x=>match c,x with|0,_=>rfl|1,_=>rfl|2,_=>rfl|3,_=>rfl|4,_=>rfl|5,_=>rfl|6,_=>rfl|7,_=>rfl|8,_=>rfl|9,_=>rfl|10,_=>rfl|11,_=>rfl|12,_=>rfl|13,_=>rfl|14,_=>rfl|15,_=>rfl|16,_=>rfl|17,_=>rfl|18,_=>rfl|19,_=>rfl|20,_=>rfl|_+21,_=>rfl
theorem TT_v: ∀(c:Nat)(x:TS c),(TX c x).isV=false:=λc x=>match c,x with|0,_=>rfl|1,_=>rfl|2,_=>rfl|3,_=>rfl|4,_=>rfl|5,_=>rfl|6,_=>rfl|7,_=>rfl|8,_=>rfl|9,_=>rfl|10,_=>rfl|11,_=>rfl|12,_=>rfl|13,_=>rfl|14,_=>rfl|15,_=>rfl|16,_=>rfl|17,_=>rfl|18,_=>rfl|19,_=>rfl|20,_=>rfl|_+21,_=>rfl
theorem TT_c: ∀(c:Nat)(x:TS c),(TE c x).clean=true:=λc x=>match c,x with|0,x=>cl_GTone x|1,x=>cl_GCourse x|2,x=>cl_i x|3,x=>cl_GInstrument x|4,x=>cl_bool x|5,x=>cl_GHand x|6,x=>(cl_SL cl_GTone) x|7,x=>cl_GLaw08Job x|8,x=>cl_GPlace x|9,x=>cl_GSign x|10,x=>(cl_SL cl_GSign) x|11,x=>(cl_SL cl_GPlace) x|12,x=>cl_GLoss x|13,x=>cl_GStop x|14,x=>cl_GEvent x|15,x=>cl_GNMember x|16,x=>(λ(x:GNNote)=>(cl_GNNote x:(AV.ip [.sl false (x.members.map E_GNMember),.i x.pitch,.i x.from_,.i x.to_,.i x.place.course,.i x.place.fret,.i x.event]).clean=true)) x|17,x=>cl_GGrip x|18,x=>cl_GNChoice x|19,x=>cl_GChord x|20,x=>cl_GSetting x|_+21,_=>rfl
theorem TT_w: ∀(c:Nat)(x:TS c),(TE c x).cells.length=TWd c:=λc x=>match c,x with|0,_=>rfl|1,_=>rfl|2,_=>rfl|3,_=>rfl|4,_=>rfl|5,_=>rfl|6,_=>rfl|7,_=>rfl|8,_=>rfl|9,_=>rfl|10,_=>rfl|11,_=>rfl|12,_=>rfl|13,_=>rfl|14,_=>rfl|15,_=>rfl|16,_=>rfl|17,_=>rfl|18,_=>rfl|19,_=>rfl|20,_=>rfl|_+21,_=>rfl
noncomputable def TLp:Nat->LoopC
 |0=>lpOf Tryz.prog 98 13
 |1=>lpOf Tryz.prog 218 19
 |2=>lpOf Tryz.prog 218 5
 |_=>⟨0,[],.skip,.skip⟩
def TKn:Nat->Nat
 |11=>1
 |14=>1
 |16=>2
 |_=>0
theorem injS_GPlace(x y:GPlace)(h:E_GPlace x=E_GPlace y):x=y:=by
 obtain⟨a1,a2⟩:=x;obtain⟨b1,b2⟩:=y
 simp only[E_GPlace,AV.ip.injEq,AV.agg.injEq,List.cons.injEq,AV.int.injEq,AV.bool.injEq,AV.str.injEq,AV.sl.injEq,true_and,and_true]at h
 obtain⟨rfl,rfl⟩:=h
 rfl
theorem inj_11(x y:(List GPlace))(h:(SL E_GPlace) x=(SL E_GPlace) y):x=y:=injSL injS_GPlace x y (by simpa[SL]using h)
theorem injS_GStop(x y:GStop)(h:E_GStop x=E_GStop y):x=y:=by
 obtain⟨a1,a2,a3,a4,a5⟩:=x;obtain⟨b1,b2,b3,b4,b5⟩:=y
 simp only[E_GStop,AV.ip.injEq,AV.agg.injEq,List.cons.injEq,AV.int.injEq,AV.bool.injEq,AV.str.injEq,AV.sl.injEq,true_and,and_true]at h
 obtain⟨rfl,rfl,rfl,rfl,rfl⟩:=h
 rfl
theorem injS_GEvent(x y:GEvent)(h:E_GEvent x=E_GEvent y):x=y:=by
 obtain⟨a1,⟨a2,a3,a4⟩,a5,a6⟩:=x;obtain⟨b1,⟨b2,b3,b4⟩,b5,b6⟩:=y
 simp only[E_GEvent,AV.ip.injEq,AV.agg.injEq,List.cons.injEq,AV.int.injEq,AV.bool.injEq,AV.str.injEq,AV.sl.injEq,true_and,and_true]at h
 obtain⟨rfl,rfl,rfl,rfl,rfl,h5⟩:=h
 cases injSL injS_GStop _ _ h5
 rfl
theorem injS_GNMember(x y:GNMember)(h:E_GNMember x=E_GNMember y):x=y:=by
 obtain⟨a1,a2⟩:=x;obtain⟨b1,b2⟩:=y
 simp only[E_GNMember,AV.ip.injEq,AV.agg.injEq,List.cons.injEq,AV.int.injEq,AV.bool.injEq,AV.str.injEq,AV.sl.injEq,true_and,and_true]at h
 obtain⟨rfl,rfl⟩:=h
 rfl
theorem inj_16(x y:GNNote)(h:(λ(x:GNNote)=>AV.ip [.sl false (x.members.map E_GNMember),.i x.pitch,.i x.from_,.i x.to_,.i x.place.course,.i x.place.fret,.i x.event]) x=(λ(x:GNNote)=>AV.ip [.sl false (x.members.map E_GNMember),.i x.pitch,.i x.from_,.i x.to_,.i x.place.course,.i x.place.fret,.i x.event]) y):x=y:=by
 obtain⟨a1,a2,a3,a4,⟨a5,a6⟩,a7⟩:=x;obtain⟨b1,b2,b3,b4,⟨b5,b6⟩,b7⟩:=y
 simp only[E_GNNote,AV.ip.injEq,AV.agg.injEq,List.cons.injEq,AV.int.injEq,AV.bool.injEq,AV.str.injEq,AV.sl.injEq,true_and,and_true]at h
 obtain⟨h0,rfl,rfl,rfl,rfl,rfl,rfl⟩:=h
 cases injSL injS_GNMember _ _ h0
 rfl
def TYf:(c:Nat)->Nat->TS c->TV TS
 |0,_,x=>TX 0 x
 |1,_,x=>TX 1 x
 |2,_,x=>TX 2 x
 |3,_,x=>TX 3 x
 |4,_,x=>TX 4 x
 |5,_,x=>TX 5 x
 |6,_,x=>TX 6 x
 |7,_,x=>TX 7 x
 |8,_,x=>TX 8 x
 |9,_,x=>TX 9 x
 |10,_,x=>TX 10 x
 |11,r,(x:(List GPlace))=>.a (.ms r 0 x.length)
 |12,_,x=>TX 12 x
 |13,_,x=>TX 13 x
 |14,r,(x:GEvent)=>.agg [.b x.bar,.n x.sign.value,.b x.sign.dot,.b x.sign.three,.b x.tie,.a (.ms r 0 x.stops.length)]
 |15,_,x=>TX 15 x
 |16,r,(x:GNNote)=>.a (.mp r 0 0)
 |17,_,x=>TX 17 x
 |18,_,x=>TX 18 x
 |19,_,x=>TX 19 x
 |20,_,x=>TX 20 x
 |_+21,_,_=>.a .nilp
def TZf:(c:Nat)->Nat->TS c->List (ZB TS)
 |0,_,_=>[]
 |1,_,_=>[]
 |2,_,_=>[]
 |3,_,_=>[]
 |4,_,_=>[]
 |5,_,_=>[]
 |6,_,_=>[]
 |7,_,_=>[]
 |8,_,_=>[]
 |9,_,_=>[]
 |10,_,_=>[]
 |11,_,(x:(List GPlace))=>[.l 2 8 x]
 |12,_,_=>[]
 |13,_,_=>[]
 |14,_,(x:GEvent)=>[.l 5 13 x.stops]
 |15,_,_=>[]
 |16,r,(x:GNNote)=>[.o 7 [.agg [.a (.ms (r+1) 0 x.members.length),.n x.pitch,.n x.from_,.n x.to_,.n x.place.course,.n x.place.fret,.n x.event]],.l 2 15 x.members]
 |17,_,_=>[]
 |18,_,_=>[]
 |19,_,_=>[]
 |20,_,_=>[]
 |_+21,_,_=>[]
theorem TT_F: ∀c,FamOk TE TWd TKn TYf TZf c:=λc=>match c with
 |0=>famNone rfl (λ_ _=>rfl) (λ_ y=>TT_X 0 y) (TT_w 0) (TT_c 0)
 |1=>famNone rfl (λ_ _=>rfl) (λ_ y=>TT_X 1 y) (TT_w 1) (TT_c 1)
 |2=>famNone rfl (λ_ _=>rfl) (λ_ y=>TT_X 2 y) (TT_w 2) (TT_c 2)
 |3=>famNone rfl (λ_ _=>rfl) (λ_ y=>TT_X 3 y) (TT_w 3) (TT_c 3)
 |4=>famNone rfl (λ_ _=>rfl) (λ_ y=>TT_X 4 y) (TT_w 4) (TT_c 4)
 |5=>famNone rfl (λ_ _=>rfl) (λ_ y=>TT_X 5 y) (TT_w 5) (TT_c 5)
 |6=>famNone rfl (λ_ _=>rfl) (λ_ y=>TT_X 6 y) (TT_w 6) (TT_c 6)
 |7=>famNone rfl (λ_ _=>rfl) (λ_ y=>TT_X 7 y) (TT_w 7) (TT_c 7)
 |8=>famNone rfl (λ_ _=>rfl) (λ_ y=>TT_X 8 y) (TT_w 8) (TT_c 8)
 |9=>famNone rfl (λ_ _=>rfl) (λ_ y=>TT_X 9 y) (TT_w 9) (TT_c 9)
 |10=>famNone rfl (λ_ _=>rfl) (λ_ y=>TT_X 10 y) (TT_w 10) (TT_c 10)
 |11=>famLst (d:=8) (n:=2) (λx=>x) rfl rfl (λ_ _=>rfl) (λ_ _=>rfl) (λ_=>rfl) (TT_c 8) inj_11
 |12=>famNone rfl (λ_ _=>rfl) (λ_ y=>TT_X 12 y) (TT_w 12) (TT_c 12)
 |13=>famNone rfl (λ_ _=>rfl) (λ_ y=>TT_X 13 y) (TT_w 13) (TT_c 13)
 |14=>famAgg (d:=13) (n:=5) (p:=5) (λ(x:GEvent)=>x.stops) (λ(x:GEvent)=>[.bool x.bar,.i x.sign.value,.bool x.sign.dot,.bool x.sign.three,.bool x.tie]) (λ(x:GEvent)=>[]) (λ_=>rfl) rfl (λ_=>rfl) (λ_ _=>rfl) (λ_ _=>rfl) (λ_=>rfl) (TT_c 13) (λ_=>⟨rfl,rfl⟩) (λy x h=>by simp at h;rcases h with rfl|rfl|rfl|rfl|rfl<;>rfl) injS_GEvent
 |15=>famNone rfl (λ_ _=>rfl) (λ_ y=>TT_X 15 y) (TT_w 15) (TT_c 15)
 |16=>famObj (d:=15) (n:=7) (n2:=2) (λ(x:GNNote)=>x.members) (λr(x:GNNote)=>.agg [.a (.ms (r+1) 0 x.members.length),.n x.pitch,.n x.from_,.n x.to_,.n x.place.course,.n x.place.fret,.n x.event]) (λ(x:GNNote)=>[]) (λ(x:GNNote)=>[.i x.pitch,.i x.from_,.i x.to_,.i x.place.course,.i x.place.fret,.i x.event]) rfl rfl (λ_ _=>rfl) (λ_ _=>rfl) (λ_ _=>rfl) (λ_=>rfl) (TT_c 15) (λ_=>⟨rfl,rfl⟩) inj_16
 |17=>famNone rfl (λ_ _=>rfl) (λ_ y=>TT_X 17 y) (TT_w 17) (TT_c 17)
 |18=>famNone rfl (λ_ _=>rfl) (λ_ y=>TT_X 18 y) (TT_w 18) (TT_c 18)
 |19=>famNone rfl (λ_ _=>rfl) (λ_ y=>TT_X 19 y) (TT_w 19) (TT_c 19)
 |20=>famNone rfl (λ_ _=>rfl) (λ_ y=>TT_X 20 y) (TT_w 20) (TT_c 20)
 |_+21=>famNone rfl (λ_ _=>rfl) (λ_ _=>rfl) (λ_=>rfl) (λ_=>rfl)
noncomputable def TT:Tab:=⟨TS,TE,TX,TD,TTc,TT_X,TT_v,TT_c,TWd,TT_w,TLp,TKn,TYf,TZf,TT_F⟩
noncomputable section
def f14(a:GHand):Option Int:=((bif (decide ((a.low.length:Int)<1))then(some true)else(bif (decide (4<(a.low.length:Int)))then(some true)else(bif (decide ((a.high.length:Int)≠(a.low.length:Int)))then(some true)else(some (decide ((a.barre.length:Int)≠(a.low.length:Int))))))):Option Bool).bind λ(h:Bool)=>bif h then(some 60)else((loopN (σ:=Int) (τ:=(Unit⊕Int)) (λ(b:Int)=>bif (decide (b<(a.low.length:Int)))then((((ix a.low b).bind λd=>bif (decide (d<0))then(some true)else((ix a.high b).bind λe=>bif (decide (e<d))then(some true)else(bif (decide (8<e))then(some true)else(bif (decide (0<b))then((ix a.low (wr (b-1))).bind λj=>bif (decide (d<j))then(some true)else((ix a.high (wr (b-1))).bind λg=>some (decide (e<g))))else(some false))))):Option Bool).bind λ(k:Bool)=>bif k then(some (.inr (.inr 60)))else(some (.inl (wr (b+1)))))else(some (.inr (.inl ())))) FUEL 0).bind (Sum.elim (λ(_:Unit)=>((bif (decide (a.top<1))then(some true)else(bif (decide (18<a.top))then(some true)else(bif (decide (a.jump<0))then(some true)else(some (decide (18<a.jump)))))):Option Bool).bind λ(l:Bool)=>bif l then(some 60)else((loopN (σ:=Int) (τ:=(Unit⊕Int)) (λ(c:Int)=>bif (decide (c<5))then((ix ([a.shift,a.lift,a.bar,a.stretch,a.slide]:List Int) c).bind λf=>((bif (decide (f<0))then(some true)else(some (decide (1000<f)))):Option Bool).bind λ(i:Bool)=>bif i then(some (.inr (.inr 60)))else(some (.inl (wr (c+1)))))else(some (.inr (.inl ())))) FUEL 0).bind (Sum.elim (λ(_:Unit)=>some 0) some))) some))
def f15(a:GInstrument):Option Int:=((bif (decide (14<(a.courses.length:Int)))then(some true)else(some (decide (18<(a.steps.length:Int))))):Option Bool).bind λ(g:Bool)=>bif g then(some 2)else(bif (decide ((a.courses.length:Int)=0))then(some 11)else((loopN (σ:=(Int×Int)) (τ:=(Unit⊕Int)) (λ((l,c):(Int×Int))=>bif (decide (c<(a.steps.length:Int)))then((((ix a.steps c).bind λe=>bif (decide (e<=l))then(some true)else(some (decide (127<e)))):Option Bool).bind λ(j:Bool)=>bif j then(some (.inr (.inr 11)))else((ix a.steps c).bind λm=>some (.inl (m,(wr (c+1))))))else(some (.inr (.inl ())))) FUEL (0,0)).bind (Sum.elim (λ(_:Unit)=>(loopN (σ:=Int) (τ:=(Unit⊕Int)) (λ(d:Int)=>bif (decide (d<(a.courses.length:Int)))then((ix a.courses d).bind λb=>((bif (decide (b.frets<0))then(some true)else(some (decide ((a.steps.length:Int)<b.frets)))):Option Bool).bind λ(h:Bool)=>bif h then(some (.inr (.inr 13)))else(((bif (decide (b.pitch<0))then(some true)else(some (decide (127<b.pitch)))):Option Bool).bind λ(k:Bool)=>bif k then(some (.inr (.inr 10)))else(((bif (decide (0<b.frets))then((ix a.steps (wr (b.frets-1))).bind λn=>some (wr (b.pitch+n)))else(some b.pitch)):Option Int).bind λ(f:Int)=>((bif b.octave then(some (wr (f+12)))else(some f)):Option Int).bind λ(i:Int)=>bif (decide (127<i))then(some (.inr (.inr 10)))else(some (.inl (wr (d+1)))))))else(some (.inr (.inl ())))) FUEL 0).bind (Sum.elim (λ(_:Unit)=>some 0) some)) some)))
def f82(c:List GTone):Option Bool:=(loopN (σ:=Int) (τ:=(Unit⊕Bool)) (λ(b:Int)=>bif (decide (b<(c.length:Int)))then((ix c b).bind λa=>((bif (decide (a.pitch<0))then(some true)else(bif (decide (127<a.pitch))then(some true)else(bif (decide (a.from_<0))then(some true)else(bif (decide (a.to_<=a.from_))then(some true)else(bif (decide (262144<a.to_))then(some true)else(bif (decide (0<b))then((ix c (wr (b-1))).bind λd=>some (decide (a.from_<d.to_)))else(some false))))))):Option Bool).bind λ(e:Bool)=>bif e then(some (.inr (.inr false)))else(some (.inl (wr (b+1)))))else(some (.inr (.inl ())))) FUEL 0).bind (Sum.elim (λ(_:Unit)=>some true) some)
def f33(a:List (List GTone)):Option Int:=(loopN (σ:=(Bool×Int)) (τ:=Bool) (λ((d,c):(Bool×Int))=>bif (decide (c<(a.length:Int)))then(((bif d then(some true)else((ix a c).bind λe=>some (decide (400<(e.length:Int))))):Option Bool).bind λ(g:Bool)=>some (.inl (g,(wr (c+1)))))else(some (.inr d))) FUEL ((decide (6<(a.length:Int))),0)).bind λ(h:Bool)=>bif h then(some 2)else((loopN (σ:=Int) (τ:=(Unit⊕Int)) (λ(b:Int)=>bif (decide (b<(a.length:Int)))then((ix a b).bind λi=>(f82 i).bind λf=>bif (!f)then(some (.inr (.inr 80)))else(some (.inl (wr (b+1)))))else(some (.inr (.inl ())))) FUEL 0).bind (Sum.elim (λ(_:Unit)=>some 0) some))
def f105(a:List Int)(d:Int):Option (List Int):=(loopN (σ:=Int) (τ:=Int) (λ(c:Int)=>((bif (decide (0<c))then((ix a (wr (c-1))).bind λg=>some (decide (d<=g)))else(some false)):Option Bool).bind λ(h:Bool)=>bif h then(some (.inl (wr (c-1))))else(some (.inr c))) FUEL (a.length:Int)).bind λ(b:Int)=>((bif (decide (b<(a.length:Int)))then((ix a b).bind λe=>some (decide (e=d)))else(some false)):Option Bool).bind λ(f:Bool)=>bif f then(some a)else(need (a.length+1<=maxElems)<|need (0<=(wr (b+1)))<|need ((wr (b+1)).toNat<=(a++([0]:List Int)).length)<|need (0<=b)<|need (b.toNat<=(a++([0]:List Int)).length)<|need (b.toNat+((a++([0]:List Int)).length-b.toNat)<=(a++([0]:List Int)).length)<|need ((wr (b+1)).toNat+((a++([0]:List Int)).length-(wr (b+1)).toNat)<=(a++([0]:List Int)).length)<|need ((cpL (a++([0]:List Int)) (wr (b+1)).toNat ((a++([0]:List Int)).length-(wr (b+1)).toNat) (((a++([0]:List Int)).drop b.toNat).take ((a++([0]:List Int)).length-b.toNat))).length=(a++([0]:List Int)).length)<|(ix (cpL (a++([0]:List Int)) (wr (b+1)).toNat ((a++([0]:List Int)).length-(wr (b+1)).toNat) (((a++([0]:List Int)).drop b.toNat).take ((a++([0]:List Int)).length-b.toNat))) b).bind λi=>some ((cpL (a++([0]:List Int)) (wr (b+1)).toNat ((a++([0]:List Int)).length-(wr (b+1)).toNat) (((a++([0]:List Int)).drop b.toNat).take ((a++([0]:List Int)).length-b.toNat))).set b.toNat d))
def f106(d:List (List GTone))(c:Int):Option Bool:=(loopN (σ:=Int) (τ:=(Unit⊕Bool)) (λ(a:Int)=>bif (decide (a<(d.length:Int)))then((loopN (σ:=Int) (τ:=(Unit⊕(Int⊕(Unit⊕Bool)))) (λ(b:Int)=>(ix d a).bind λf=>bif (decide (b<(f.length:Int)))then((((ix f b).bind λe=>bif (decide (e.from_<=c))then(some (decide (c<e.to_)))else(some false)):Option Bool).bind λ(g:Bool)=>bif g then(some (.inr (.inr (.inr (.inr false)))))else(some (.inl (wr (b+1)))))else(some (.inr (.inl ())))) FUEL 0).bind (Sum.elim (λ(_:Unit)=>some (.inl (wr (a+1)))) some))else(some (.inr (.inl ())))) FUEL 0).bind (Sum.elim (λ(_:Unit)=>some true) some)
def f53(b:List (List GTone)):Option ((List Int)):=(loopN (σ:=(List Int×Int)) (τ:=(List Int)) (λ((e,a):(List Int×Int))=>bif (decide (a<(b.length:Int)))then((loopN (σ:=(List Int×Int)) (τ:=(List Int)) (λ((g,d):(List Int×Int))=>(ix b a).bind λh=>bif (decide (d<(h.length:Int)))then((((ix h d).bind λc=>(f105 g c.from_).bind λf=>(f106 b c.to_).bind λm=>bif m then((f105 f c.to_).bind λk=>some k)else(some f)):Option (List Int)).bind λ(j:(List Int))=>some (.inl (j,(wr (d+1)))))else(some (.inr g))) FUEL (e,0)).bind λ(i:(List Int))=>some (.inl (i,(wr (a+1)))))else(some (.inr e))) FUEL (([0]:List Int),0)).bind λ(l:(List Int))=>some l
def f34(b:List (List GTone)):Option (((List Int))×Int):=(f33 b).bind λa=>bif (decide (a≠0))then(some (([]:List Int),a))else((f53 b).bind λc=>some (c,0))
def f83(c:GInstrument)(a:GPlace):Option Int:=(ix c.courses (wr (a.course-1))).bind λb=>((bif (decide (0<a.fret))then((ix c.steps (wr (a.fret-1))).bind λd=>some (wr (b.pitch+d)))else(some b.pitch)):Option Int).bind λ(e:Int)=>some e
def f35(b:GInstrument)(e:Int):Option (((List GPlace))×Int):=(f15 b).bind λg=>bif (decide (g≠0))then(some (([]:List GPlace),g))else(((bif (decide (e<0))then(some true)else(some (decide (127<e)))):Option Bool).bind λ(h:Bool)=>bif h then(some (([]:List GPlace),10))else((loopN (σ:=(List GPlace×Int)) (τ:=(List GPlace)) (λ((f,a):(List GPlace×Int))=>bif (decide (a<=(b.courses.length:Int)))then((loopN (σ:=(List GPlace×Int)) (τ:=(List GPlace)) (λ((c,d):(List GPlace×Int))=>(ix b.courses (wr (a-1))).bind λl=>bif (decide (d<=l.frets))then((((f83 b (⟨a,d⟩:GPlace)).bind λj=>bif (decide (j=e))then(need (c.length+1<=maxElems)<|some (c++([(⟨a,d⟩:GPlace)]:List GPlace)))else(some c)):Option (List GPlace)).bind λ(m:(List GPlace))=>some (.inl (m,(wr (d+1)))))else(some (.inr c))) FUEL (f,0)).bind λ(i:(List GPlace))=>some (.inl (i,(wr (a+1)))))else(some (.inr f))) FUEL (([]:List GPlace),1)).bind λ(k:(List GPlace))=>some (k,0)))
def f9(a:GLaw08Job):Option Bool:=(((f33 a.parts).bind λt=>bif (decide (t≠0))then(some true)else((f15 a.instrument).bind λr=>some (decide (r≠0)))):Option Bool).bind λ(s:Bool)=>bif s then(some false)else(bif (decide (4<(a.parts.length:Int)))then(some true)else((loopN (σ:=(Int×Int)) (τ:=Int) (λ((j,d):(Int×Int))=>bif (decide (d<(a.parts.length:Int)))then((ix a.parts d).bind λl=>some (.inl ((wr (j+(l.length:Int))),(wr (d+1)))))else(some (.inr j))) FUEL (0,0)).bind λ(p:Int)=>bif (decide (24<p))then(some true)else((f34 a.parts).bind λg=>(loopN (σ:=Int) (τ:=(Unit⊕Bool)) (λ(f:Int)=>bif (decide (f<(g.1.length:Int)))then((loopN (σ:=(Int×Int)) (τ:=Int) (λ((k,b):(Int×Int))=>bif (decide (b<(a.parts.length:Int)))then((loopN (σ:=(Int×Int)) (τ:=Int) (λ((e,c):(Int×Int))=>(ix a.parts b).bind λi=>bif (decide (c<(i.length:Int)))then((((ix i c).bind λh=>(((ix g.1 f).bind λu=>bif (decide (h.from_=u))then(bif (decide (-1000<a.shift))then(some (decide (a.shift<1000)))else(some false))else(some false)):Option Bool).bind λ(m:Bool)=>bif m then((f35 a.instrument (wr (h.pitch+a.shift))).bind λo=>some (wr (e*(maxI 1 (o.1.length:Int)))))else(some e)):Option Int).bind λ(n:Int)=>some (.inl (n,(wr (c+1)))))else(some (.inr e))) FUEL (k,0)).bind λ(q:Int)=>some (.inl (q,(wr (b+1)))))else(some (.inr k))) FUEL (1,0)).bind λ(v:Int)=>bif (decide (300<v))then(some (.inr (.inr true)))else(some (.inl (wr (f+1)))))else(some (.inr (.inl ())))) FUEL 0).bind (Sum.elim (λ(_:Unit)=>some false) some))))
def f36:Option GInstrument:=some ⟨[⟨67,8,false⟩,⟨62,8,false⟩,⟨57,8,false⟩,⟨53,8,true⟩,⟨48,8,true⟩,⟨43,8,true⟩],[1,2,3,4,5,6,7,8]⟩
def f37:Option GHand:=some (⟨([0,1,2,3]:List Int),([0,2,3,4]:List Int),([true,false,false,false]:List Bool),12,7,2,3,4,2,1⟩:GHand)
def f74(a:List GTone):Option Bool:=some (decide (400<(a.length:Int)))
def f138(b:List (List GTone)):Option Int:=(loopN (σ:=Int) (τ:=(Unit⊕Int)) (λ(a:Int)=>bif (decide (a<(b.length:Int)))then((ix b a).bind λc=>(f74 c).bind λd=>bif d then(some (.inr (.inr a)))else(some (.inl (wr (a+1)))))else(some (.inr (.inl ())))) FUEL 0).bind (Sum.elim (λ(_:Unit)=>some (-1)) some)
def f73(b:List (List GTone)):Option Bool:=(f138 b).bind λa=>some (decide (0<=a))
def f75(a:Int)(b:Int)(c:Int):Option Bool:=((bif (decide (b<=a))then(some (decide (a<=c)))else(some false)):Option Bool).bind λ(d:Bool)=>some d
def f28(b:List (List GTone)):Option Int:=((bif (decide (6<(b.length:Int)))then(some true)else((f73 b).bind λi=>some i)):Option Bool).bind λ(g:Bool)=>bif g then(some 2)else((loopN (σ:=Int) (τ:=(Unit⊕Int)) (λ(d:Int)=>bif (decide (d<(b.length:Int)))then((ix b d).bind λe=>(loopN (σ:=(Int×Int)) (τ:=(Unit⊕(Int⊕(Unit⊕Int)))) (λ((f,c):(Int×Int))=>bif (decide (c<(e.length:Int)))then((ix e c).bind λa=>(((f75 a.pitch 0 127).bind λh=>bif (!h)then(some true)else(bif (decide (a.from_<f))then(some true)else(bif (decide (a.to_<=a.from_))then(some true)else(some (decide (262144<a.to_)))))):Option Bool).bind λ(j:Bool)=>bif j then(some (.inr (.inr (.inr (.inr 80)))))else(some (.inl (a.to_,(wr (c+1))))))else(some (.inr (.inl ())))) FUEL (0,0)).bind (Sum.elim (λ(_:Unit)=>some (.inl (wr (d+1)))) some))else(some (.inr (.inl ())))) FUEL 0).bind (Sum.elim (λ(_:Unit)=>some 0) some))
def f135(c:GInstrument)(a:GCourse):Option Int:=((bif (decide (0<a.frets))then((ix c.steps (wr (a.frets-1))).bind λd=>some (wr (a.pitch+d)))else(some a.pitch)):Option Int).bind λ(b:Int)=>((bif a.octave then(some (wr (b+12)))else(some b)):Option Int).bind λ(e:Int)=>some e
def f70(a:GInstrument):Option Int:=((bif (decide (14<(a.courses.length:Int)))then(some true)else(some (decide (18<(a.steps.length:Int))))):Option Bool).bind λ(f:Bool)=>bif f then(some 2)else(bif (decide ((a.courses.length:Int)=0))then(some 11)else((loopN (σ:=(Int×Int)) (τ:=(Unit⊕Int)) (λ((j,d):(Int×Int))=>bif (decide (d<(a.steps.length:Int)))then((ix a.steps d).bind λc=>((bif (decide (c<=j))then(some true)else(some (decide (127<c)))):Option Bool).bind λ(g:Bool)=>bif g then(some (.inr (.inr 11)))else(some (.inl (c,(wr (d+1))))))else(some (.inr (.inl ())))) FUEL (0,0)).bind (Sum.elim (λ(_:Unit)=>(loopN (σ:=Int) (τ:=(Unit⊕Int)) (λ(e:Int)=>bif (decide (e<(a.courses.length:Int)))then((ix a.courses e).bind λb=>((bif (decide (b.frets<0))then(some true)else(some (decide ((a.steps.length:Int)<b.frets)))):Option Bool).bind λ(i:Bool)=>bif i then(some (.inr (.inr 13)))else(((bif (decide (b.pitch<0))then(some true)else(bif (decide (127<b.pitch))then(some true)else((f135 a b).bind λh=>some (decide (127<h))))):Option Bool).bind λ(k:Bool)=>bif k then(some (.inr (.inr 10)))else(some (.inl (wr (e+1))))))else(some (.inr (.inl ())))) FUEL 0).bind (Sum.elim (λ(_:Unit)=>some 0) some)) some)))
def f38(c:List (List GTone))(b:GInstrument):Option Int:=(f28 c).bind λa=>bif (decide (a≠0))then(some a)else((f70 b).bind λd=>some d)
def f85(a:Int)(b:Int)(c:Int):Option Bool:=((bif (decide (b<=a))then(some (decide (a<=c)))else(some false)):Option Bool).bind λ(d:Bool)=>some d
def f177(a:Int):Option Bool:=some (decide (a≠a))
def f149(b:Int)(a:Int):Option Bool:=(((f177 b).bind λc=>bif c then((f177 a).bind λd=>bif (!d)then(some true)else(some (decide (b<a))))else(some (decide (b<a)))):Option Bool).bind λ(e:Bool)=>some e
def f86(b:List Int):Option Bool:=(loopN (σ:=Int) (τ:=(Unit⊕Bool)) (λ(a:Int)=>bif (decide (0<a))then((ix b a).bind λe=>(ix b (wr (a-1))).bind λc=>(f149 e c).bind λd=>bif d then(some (.inr (.inr false)))else(some (.inl (wr (a-1)))))else(some (.inr (.inl ())))) FUEL (wr ((b.length:Int)-1))).bind (Sum.elim (λ(_:Unit)=>some true) some)
def f39(a:GHand):Option Int:=(((f85 (a.low.length:Int) 1 4).bind λk=>bif (!k)then(some true)else(bif (decide ((a.high.length:Int)≠(a.low.length:Int)))then(some true)else(some (decide ((a.barre.length:Int)≠(a.low.length:Int)))))):Option Bool).bind λ(g:Bool)=>bif g then(some 60)else((loopN (σ:=Int) (τ:=(Unit⊕Int)) (λ(b:Int)=>bif (decide (b<(a.low.length:Int)))then((((ix a.low b).bind λd=>bif (decide (d<0))then(some true)else((ix a.high b).bind λe=>bif (decide (e<d))then(some true)else(some (decide (8<e))))):Option Bool).bind λ(i:Bool)=>bif i then(some (.inr (.inr 60)))else(some (.inl (wr (b+1)))))else(some (.inr (.inl ())))) FUEL 0).bind (Sum.elim (λ(_:Unit)=>(((f86 a.low).bind λo=>bif (!o)then(some true)else((f86 a.high).bind λh=>bif (!h)then(some true)else((f85 a.top 1 18).bind λn=>bif (!n)then(some true)else((f85 a.jump 0 18).bind λj=>some (!j))))):Option Bool).bind λ(m:Bool)=>bif m then(some 60)else((loopN (σ:=Int) (τ:=(Unit⊕Int)) (λ(c:Int)=>bif (decide (c<5))then((ix ([a.shift,a.lift,a.bar,a.stretch,a.slide]:List Int) c).bind λf=>(f85 f 0 1000).bind λl=>bif (!l)then(some (.inr (.inr 60)))else(some (.inl (wr (c+1)))))else(some (.inr (.inl ())))) FUEL 0).bind (Sum.elim (λ(_:Unit)=>some 0) some))) some))
def f40(a:Int)(b:Int)(c:Int):Option Bool:=((bif (decide (b<=a))then(some (decide (a<=c)))else(some false)):Option Bool).bind λ(d:Bool)=>some d
def f150(a:Int):Option (List GTone):=if 0<=a/\a<=4194304 then some []else none
def f87(b:List (List GTone)):Option ((List GTone)):=(loopN (σ:=(Int×Int)) (τ:=Int) (λ((d,c):(Int×Int))=>bif (decide (c<(b.length:Int)))then((((ix b c).bind λg=>bif (decide ((wr (d+(g.length:Int)))<0))then(none)else(some (wr (d+(g.length:Int))))):Option Int).bind λ(k:Int)=>some (.inl (k,(wr (c+1)))))else(some (.inr d))) FUEL (0,0)).bind λ(l:Int)=>(f150 l).bind λj=>(loopN (σ:=(List GTone×Int)) (τ:=(List GTone)) (λ((a,e):(List GTone×Int))=>bif (decide (e<(b.length:Int)))then((ix b e).bind λf=>((bif f.isEmpty then(some a)else(need (a.length+f.length<=maxElems)<|some (a++f))):Option (List GTone)).bind λ(i:(List GTone))=>some (.inl (i,(wr (e+1)))))else(some (.inr a))) FUEL (j,0)).bind λ(h:(List GTone))=>some h
def f89(b:GTone)(a:GTone):Option Bool:=((bif (decide (b.from_<=a.to_))then(some (decide (a.to_<b.to_)))else(some false)):Option Bool).bind λ(c:Bool)=>some c
def f151(b:List GTone)(c:GTone):Option Int:=(loopN (σ:=Int) (τ:=(Unit⊕Int)) (λ(a:Int)=>bif (decide (a<(b.length:Int)))then((ix b a).bind λd=>(f89 d c).bind λe=>bif e then(some (.inr (.inr a)))else(some (.inl (wr (a+1)))))else(some (.inr (.inl ())))) FUEL 0).bind (Sum.elim (λ(_:Unit)=>some (-1)) some)
def f88(c:List GTone)(b:GTone):Option Bool:=(f151 c b).bind λa=>some (decide (0<=a))
def f90(a:List Int):Option (List Int):=if a.length<=4194304 then some (sortS a)else none
def f91(a:List Int):Option (List Int):=if 0<a.length/\a.length<=4194304 then some (Go.Lib.compact a)else none
def f41(i:List (List GTone)):Option ((List Int)):=(f87 i).bind λd=>(loopN (σ:=(List Int×Int)) (τ:=(List Int)) (λ((b,c):(List Int×Int))=>bif (decide (c<(d.length:Int)))then((((ix d c).bind λa=>need (b.length+1<=maxElems)<|(f88 d a).bind λh=>bif (!h)then(need ((b++([a.from_]:List Int)).length+1<=maxElems)<|some ((b++([a.from_]:List Int))++([a.to_]:List Int)))else(some (b++([a.from_]:List Int)))):Option (List Int)).bind λ(j:(List Int))=>some (.inl (j,(wr (c+1)))))else(some (.inr b))) FUEL (([0]:List Int),0)).bind λ(e:(List Int))=>(f90 e).bind λf=>need (f.length=e.length)<|(f91 f).bind λg=>some g
def f92:Option (List GSign):=some [⟨1,true,false⟩,⟨1,false,false⟩,⟨2,true,false⟩,⟨1,false,true⟩,⟨2,false,false⟩,⟨3,true,false⟩,⟨2,false,true⟩,⟨3,false,false⟩,⟨4,true,false⟩,⟨3,false,true⟩,⟨4,false,false⟩,⟨5,true,false⟩,⟨4,false,true⟩,⟨5,false,false⟩,⟨6,true,false⟩,⟨5,false,true⟩,⟨6,false,false⟩,⟨7,true,false⟩,⟨6,false,true⟩,⟨7,false,false⟩,⟨7,false,true⟩]
def f93(a:GSign):Option Int:=((bif (decide (a.value<1))then(some true)else(bif (decide (7<a.value))then(some true)else(bif a.dot then(some a.three)else(some false)))):Option Bool).bind λ(b:Bool)=>bif b then(some 0)else(need (0<=(wr (a.value-1)))<|bif a.dot then(some (wr ((wr (Int.tdiv (shrI 384 (wr (a.value-1))) 2))*3)))else(bif a.three then(some (wr ((wr (Int.tdiv (shrI 384 (wr (a.value-1))) 3))*2)))else(some (shrI 384 (wr (a.value-1))))))
def f94r:Nat->Int->Int->(List GSign)->(List Int)->(List GSign)->Option (Bool×List GSign)
 |0,_,_,_,_,_=>none
 |j+1,c,o,e,f,i=>bif (decide (c=0))then(some (true,i))else((loopN (σ:=(List GSign×Int)) (τ:=((List GSign)⊕(Bool×List GSign))) (λ((d,g):(List GSign×Int))=>bif (decide (g<(e.length:Int)))then((((ix e g).bind λh=>(f93 h).bind λb=>((bif (decide (o<b))then(some true)else(bif (decide (c<b))then(some true)else((ix f (wr (c-b))).bind λk=>(ix f c).bind λp=>some (decide (k≠(wr (p-1))))))):Option Bool).bind λ(n:Bool)=>bif n then(some (.inl d))else(need (d.length+1<=maxElems)<|(f94r j (wr (c-b)) b e f (d++([h]:List GSign))).bind λa=>bif a.1 then(some (.inr (.inr (.inr (true,a.2)))))else(need (0<=(wr ((a.2.length:Int)-1)))<|need ((wr ((a.2.length:Int)-1)).toNat<=a.2.length)<|need ((wr ((a.2.length:Int)-1)).toNat<=a.2.length)<|some (.inl (a.2.take (wr ((a.2.length:Int)-1)).toNat))))):Option ((List GSign)⊕((List GSign×Int)⊕((List GSign)⊕(Bool×List GSign))))).bind (Sum.elim (λ(l:(List GSign))=>some (.inl (l,(wr (g+1))))) some))else(some (.inr (.inl d)))) FUEL (i,0)).bind (Sum.elim (λ(m:(List GSign))=>some (false,m)) some))
def f94(d:Int)(c:Int)(a:List GSign)(b:List Int)(e:List GSign):Option (Bool×List GSign):=f94r FUEL d c a b e
def f42(b:Int):Option (((List GSign))×Int):=((bif (decide (b<0))then(some true)else(some (decide (4608<b)))):Option Bool).bind λ(o:Bool)=>bif o then(some (([]:List GSign),1))else((f92).bind λe=>need (0<=(wr (b+1)))<|need ((wr (b+1))<=(maxElems:Int))<|(loopN (σ:=(List Int×Int)) (τ:=(List Int)) (λ((f,a):(List Int×Int))=>bif (decide (a<=b))then((ix f a).bind λs=>(loopN (σ:=(List Int×Int)) (τ:=(List Int)) (λ((c,g):(List Int×Int))=>bif (decide (g<(e.length:Int)))then((((ix e g).bind λk=>(f93 k).bind λd=>((bif (decide (0<=(wr (a-d))))then((ix c (wr (a-d))).bind λj=>bif (decide (0<=j))then((ix c a).bind λi=>bif (decide (i<0))then(some true)else(some (decide ((wr (j+1))<i))))else(some false))else(some false)):Option Bool).bind λ(p:Bool)=>bif p then((ix c (wr (a-d))).bind λn=>(ix c a).bind λt=>some (c.set a.toNat (wr (n+1))))else(some c)):Option (List Int)).bind λ(q:(List Int))=>some (.inl (q,(wr (g+1)))))else(some (.inr c))) FUEL ((f.set a.toNat (-1)),0)).bind λ(m:(List Int))=>some (.inl (m,(wr (a+1)))))else(some (.inr f))) FUEL ((List.replicate (wr (b+1)).toNat (0:Int)),1)).bind λ(h:(List Int))=>(ix h b).bind λr=>bif (decide (r<0))then(some (([]:List GSign),25))else((f94 b 768 e h ([]:List GSign)).bind λl=>some (l.2,0)))
def f95(a:Int):Option (List GSign):=if 0<=a/\a<=4194304 then some []else none
def f43(b:List (List GSign)):Option ((List GSign)):=(loopN (σ:=(Int×Int)) (τ:=Int) (λ((d,c):(Int×Int))=>bif (decide (c<(b.length:Int)))then((((ix b c).bind λg=>bif (decide ((wr (d+(g.length:Int)))<0))then(none)else(some (wr (d+(g.length:Int))))):Option Int).bind λ(k:Int)=>some (.inl (k,(wr (c+1)))))else(some (.inr d))) FUEL (0,0)).bind λ(l:Int)=>(f95 l).bind λj=>(loopN (σ:=(List GSign×Int)) (τ:=(List GSign)) (λ((a,e):(List GSign×Int))=>bif (decide (e<(b.length:Int)))then((ix b e).bind λf=>((bif f.isEmpty then(some a)else(need (a.length+f.length<=maxElems)<|some (a++f))):Option (List GSign)).bind λ(i:(List GSign))=>some (.inl (i,(wr (e+1)))))else(some (.inr a))) FUEL (j,0)).bind λ(h:(List GSign))=>some h
def f44(a:List GCourse):Option ((List GCourse)):=((bif a.isEmpty then(some ([]:List GCourse))else(need (a.length<=maxElems)<|some a)):Option (List GCourse)).bind λ(b:(List GCourse))=>some b
def f45(a:List Int):Option ((List Int)):=((bif a.isEmpty then(some ([]:List Int))else(need (a.length<=maxElems)<|some a)):Option (List Int)).bind λ(b:(List Int))=>some b
def f47(a:List GTone):Option (List GPlace):=need (0<=(a.length:Int))<|need ((a.length:Int)<=(maxElems:Int))<|some (List.replicate (a.length:Int).toNat (⟨0,0⟩:GPlace))
def f46(a:List (List GTone)):Option (List (List GPlace)):=need ((0:Int)<=(a.length:Int))<|need ((a.length:Int)<=(maxElems:Int))<|(loopN (σ:=(List (List GPlace)×Int)) (τ:=(List (List GPlace))) (λ((b,c):(List (List GPlace)×Int))=>bif (decide (c<(a.length:Int)))then((ix a c).bind λe=>(f47 e).bind λd=>need (b.length<famCap)<|some (.inl ((b++[d]),(wr (c+1)))))else(some (.inr b))) FUEL (([]:List (List GPlace)),0)).bind λ(f:(List (List GPlace)))=>some f
def f156(b:GNNote)(a:GTone):Option Bool:=some (decide (b.pitch=a.pitch))
def f155(b:List GNNote)(c:GTone):Option Int:=(loopN (σ:=Int) (τ:=(Unit⊕Int)) (λ(a:Int)=>bif (decide (a<(b.length:Int)))then((ix b a).bind λe=>need (a.toNat<famCap)<|(f156 e c).bind λd=>bif d then(some (.inr (.inr a)))else(some (.inl (wr (a+1)))))else(some (.inr (.inl ())))) FUEL 0).bind (Sum.elim (λ(_:Unit)=>some (-1)) some)
def f96(j:List (List GTone))(i:Int):Option (List GNNote):=(loopN (σ:=(List GNNote×Int)) (τ:=(List GNNote)) (λ((g,e):(List GNNote×Int))=>bif (decide (e<(j.length:Int)))then((ix j e).bind λk=>(loopN (σ:=(List GNNote×Int)) (τ:=(List GNNote)) (λ((b,c):(List GNNote×Int))=>bif (decide (c<(k.length:Int)))then((((ix k c).bind λd=>bif (decide (d.from_≠i))then(some b)else((f155 b d).bind λh=>((bif (decide (h<0))then(need (b.length<famCap)<|some ((b++[(⟨([]:List GNMember),d.pitch,i,0,(⟨0,0⟩:GPlace),0⟩:GNNote)]),(b.length:Int)))else(some (b,h))):Option (List GNNote×Int)).bind λ((l,f):(List GNNote×Int))=>(ix l f).bind λa=>need (f.toNat<famCap)<|need (a.members.length+1<=maxElems)<|some (l.set f.toNat (⟨(a.members++([(⟨e,c⟩:GNMember)]:List GNMember)),a.pitch,a.from_,(maxI a.to_ d.to_),a.place,a.event⟩:GNNote)))):Option (List GNNote)).bind λ(m:(List GNNote))=>some (.inl (m,(wr (c+1)))))else(some (.inr b))) FUEL (g,0)).bind λ(n:(List GNNote))=>some (.inl (n,(wr (e+1)))))else(some (.inr g))) FUEL (([]:List GNNote),0)).bind λ(o:(List GNNote))=>some o
def f104(a:Int)(b:Int):Option Int:=(f177 a).bind λd=>(f177 b).bind λc=>bif d then(bif c then(some 0)else(some (-1)))else(bif c then(some 1)else(bif (decide (a<b))then(some (-1))else(bif (decide (b<a))then(some 1)else(some 0))))
def f158(c:List GNMember)(h:Int)(l:Int)(p:Int)(k:Int)(o:Int)(f:Int)(b:List GNMember)(q:Int)(i:Int)(g:Int)(m:Int)(n:Int)(j:Int):Option Int:=(ix c 0).bind λa=>(ix b 0).bind λd=>(f104 a.part d.part).bind λe=>some e
def f263(m:List GNNote)(h:Int)(i:Int):Option (List GNNote):=(loopN (σ:=(List GNNote×Int)) (τ:=(List GNNote)) (λ((f,e):(List GNNote×Int))=>bif (decide (e<i))then((loopN (σ:=(List GNNote×Int)) (τ:=(List GNNote)) (λ((d,a):(List GNNote×Int))=>((bif (decide (h<a))then((ix d a).bind λb=>(ix d (wr (a-1))).bind λc=>(f158 b.members b.pitch b.from_ b.to_ b.place.course b.place.fret b.event c.members c.pitch c.from_ c.to_ c.place.course c.place.fret c.event).bind λl=>some (decide (l<0)))else(some false)):Option Bool).bind λ(n:Bool)=>bif n then((ix d (wr (a-1))).bind λg=>(ix d a).bind λk=>(ix (d.set a.toNat g) (wr (a-1))).bind λp=>some (.inl (((d.set a.toNat g).set (wr (a-1)).toNat k),(wr (a-1)))))else(some (.inr d))) FUEL (f,e)).bind λ(j:(List GNNote))=>some (.inl (j,(wr (e+1)))))else(some (.inr f))) FUEL (m,(wr (h+1)))).bind λ(o:(List GNNote))=>some o
def f321(h:List GNNote)(d:Int)(c:Int)(g:Int):Option (List GNNote):=(loopN (σ:=(List GNNote×Int)) (τ:=(List GNNote)) (λ((b,a):(List GNNote×Int))=>bif (decide (a<g))then((ix b (wr (c+a))).bind λe=>(ix b (wr (d+a))).bind λf=>(ix (b.set (wr (d+a)).toNat e) (wr (c+a))).bind λj=>some (.inl (((b.set (wr (d+a)).toNat e).set (wr (c+a)).toNat f),(wr (a+1)))))else(some (.inr b))) FUEL (h,0)).bind λ(i:(List GNNote))=>some i
def f305(j:List GNNote)(k:Int)(b:Int)(h:Int):Option (List GNNote):=(loopN (σ:=(List GNNote×Int×Int)) (τ:=(List GNNote×Int)) (λ((d,a,c):(List GNNote×Int×Int))=>bif (decide (a≠c))then(bif (decide (c<a))then((f321 d (wr (b-a)) b c).bind λg=>need (g.length=d.length)<|some (.inl (g,(wr (a-c)),c)))else((f321 d (wr (b-a)) (wr ((wr (b+c))-a)) a).bind λe=>need (e.length=d.length)<|some (.inl (e,a,(wr (c-a))))))else(some (.inr (d,a)))) FUEL (j,(wr (b-k)),(wr (h-b)))).bind λ((l,f):(List GNNote×Int))=>(f321 l (wr (b-f)) b f).bind λi=>some i
def f264r:Nat->(List GNNote)->Int->Int->Int->Option (List GNNote)
 |0,_,_,_,_=>none
 |x+1,d,a,c,b=>bif (decide ((wr (c-a))=1))then((loopN (σ:=(Int×Int)) (τ:=Int) (λ((p,s):(Int×Int))=>bif (decide (p<s))then((ix d (wr ((shrI (IntKind.wrap .u64 ((wr (p+s)))) 1)))).bind λm=>(ix d a).bind λn=>(f158 m.members m.pitch m.from_ m.to_ m.place.course m.place.fret m.event n.members n.pitch n.from_ n.to_ n.place.course n.place.fret n.event).bind λK=>bif (decide (K<0))then(some (.inl ((wr ((wr ((shrI (IntKind.wrap .u64 ((wr (p+s)))) 1)))+1)),s)))else(some (.inl (p,(wr ((shrI (IntKind.wrap .u64 ((wr (p+s)))) 1)))))))else(some (.inr p))) FUEL (c,b)).bind λ(F:Int)=>(loopN (σ:=(List GNNote×Int)) (τ:=(List GNNote)) (λ((r,g):(List GNNote×Int))=>bif (decide (g<(wr (F-1))))then((ix r (wr (g+1))).bind λy=>(ix r g).bind λD=>(ix (r.set g.toNat y) (wr (g+1))).bind λS=>some (.inl (((r.set g.toNat y).set (wr (g+1)).toNat D),(wr (g+1)))))else(some (.inr r))) FUEL (d,a)).bind λ(G:(List GNNote))=>some G)else(bif (decide ((wr (b-c))=1))then((loopN (σ:=(Int×Int)) (τ:=Int) (λ((o,u):(Int×Int))=>bif (decide (o<u))then((ix d c).bind λl=>(ix d (wr ((shrI (IntKind.wrap .u64 ((wr (o+u)))) 1)))).bind λh=>(f158 l.members l.pitch l.from_ l.to_ l.place.course l.place.fret l.event h.members h.pitch h.from_ h.to_ h.place.course h.place.fret h.event).bind λM=>bif (!(decide (M<0)))then(some (.inl ((wr ((wr ((shrI (IntKind.wrap .u64 ((wr (o+u)))) 1)))+1)),u)))else(some (.inl (o,(wr ((shrI (IntKind.wrap .u64 ((wr (o+u)))) 1)))))))else(some (.inr o))) FUEL (a,c)).bind λ(L:Int)=>(loopN (σ:=(List GNNote×Int)) (τ:=(List GNNote)) (λ((t,f):(List GNNote×Int))=>bif (decide (L<f))then((ix t (wr (f-1))).bind λz=>(ix t f).bind λQ=>(ix (t.set f.toNat z) (wr (f-1))).bind λR=>some (.inl (((t.set f.toNat z).set (wr (f-1)).toNat Q),(wr (f-1)))))else(some (.inr t))) FUEL (d,c)).bind λ(J:(List GNNote))=>some J)else(((bif (decide ((wr ((shrI (IntKind.wrap .u64 ((wr (a+b)))) 1)))<c))then(some ((wr ((wr ((wr ((shrI (IntKind.wrap .u64 ((wr (a+b)))) 1)))+c))-b)),(wr ((shrI (IntKind.wrap .u64 ((wr (a+b)))) 1)))))else(some (a,c))):Option (Int×Int)).bind λ((I,C):(Int×Int))=>(loopN (σ:=(Int×Int)) (τ:=Int) (λ((k,q):(Int×Int))=>bif (decide (k<q))then((ix d (wr ((wr ((wr ((wr ((shrI (IntKind.wrap .u64 ((wr (a+b)))) 1)))+c))-1))-(wr ((shrI (IntKind.wrap .u64 ((wr (k+q)))) 1)))))).bind λi=>(ix d (wr ((shrI (IntKind.wrap .u64 ((wr (k+q)))) 1)))).bind λj=>(f158 i.members i.pitch i.from_ i.to_ i.place.course i.place.fret i.event j.members j.pitch j.from_ j.to_ j.place.course j.place.fret j.event).bind λP=>bif (!(decide (P<0)))then(some (.inl ((wr ((wr ((shrI (IntKind.wrap .u64 ((wr (k+q)))) 1)))+1)),q)))else(some (.inl (k,(wr ((shrI (IntKind.wrap .u64 ((wr (k+q)))) 1)))))))else(some (.inr k))) FUEL (I,C)).bind λ(e:Int)=>((((bif (decide (e<c))then(some (decide (c<(wr ((wr ((wr ((shrI (IntKind.wrap .u64 ((wr (a+b)))) 1)))+c))-e)))))else(some false)):Option Bool).bind λ(N:Bool)=>bif N then((f305 d e c (wr ((wr ((wr ((shrI (IntKind.wrap .u64 ((wr (a+b)))) 1)))+c))-e))).bind λw=>need (w.length=d.length)<|some w)else(some d)):Option (List GNNote)).bind λ(v:(List GNNote))=>((((bif (decide (a<e))then(some (decide (e<(wr ((shrI (IntKind.wrap .u64 ((wr (a+b)))) 1))))))else(some false)):Option Bool).bind λ(H:Bool)=>bif H then((f264r x v a e (wr ((shrI (IntKind.wrap .u64 ((wr (a+b)))) 1)))).bind λA=>need (A.length=v.length)<|some A)else(some v)):Option (List GNNote)).bind λ(B:(List GNNote))=>((bif (decide ((wr ((shrI (IntKind.wrap .u64 ((wr (a+b)))) 1)))<(wr ((wr ((wr ((shrI (IntKind.wrap .u64 ((wr (a+b)))) 1)))+c))-e))))then(some (decide ((wr ((wr ((wr ((shrI (IntKind.wrap .u64 ((wr (a+b)))) 1)))+c))-e))<b)))else(some false)):Option Bool).bind λ(O:Bool)=>bif O then((f264r x B (wr ((shrI (IntKind.wrap .u64 ((wr (a+b)))) 1))) (wr ((wr ((wr ((shrI (IntKind.wrap .u64 ((wr (a+b)))) 1)))+c))-e)) b).bind λE=>some E)else(some B)))
def f264(b:List GNNote)(a:Int)(c:Int)(d:Int):Option (List GNNote):=f264r FUEL b a c d
def f217(t:List GNNote)(b:Int):Option (List GNNote):=(loopN (σ:=(List GNNote×Int×Int)) (τ:=(List GNNote×Int)) (λ((i,j,c):(List GNNote×Int×Int))=>bif (decide (c<=b))then((f263 i j c).bind λp=>need (p.length=i.length)<|some (.inl (p,c,(wr (c+20)))))else(some (.inr (i,j)))) FUEL (t,0,20)).bind λ((n,s):(List GNNote×Int))=>(f263 n s b).bind λl=>need (l.length=n.length)<|(loopN (σ:=(List GNNote×Int)) (τ:=(List GNNote)) (λ((m,a):(List GNNote×Int))=>bif (decide (a<b))then((loopN (σ:=(List GNNote×Int×Int)) (τ:=(List GNNote×Int)) (λ((h,f,d):(List GNNote×Int×Int))=>bif (decide (d<=b))then((f264 h f (wr (f+a)) d).bind λk=>need (k.length=h.length)<|some (.inl (k,d,(wr (d+(wr (2*a)))))))else(some (.inr (h,f)))) FUEL (m,0,(wr (2*a)))).bind λ((e,g):(List GNNote×Int))=>((bif (decide ((wr (g+a))<b))then((f264 e g (wr (g+a)) b).bind λo=>need (o.length=e.length)<|some o)else(some e)):Option (List GNNote)).bind λ(q:(List GNNote))=>some (.inl (q,(wr (a*2)))))else(some (.inr m))) FUEL (l,20)).bind λ(r:(List GNNote))=>some r
def f157(a:List GNNote):Option (List GNNote):=(f217 a (a.length:Int)).bind λb=>some b
def f97(e:GNDesk)(g:Int):Option (List GNNote):=(loopN (σ:=(List GNNote×Int)) (τ:=(List GNNote)) (λ((a,b):(List GNNote×Int))=>bif (decide (b<(e.live.length:Int)))then((((ix e.live b).bind λf=>bif (decide (g<f.to_))then(need (a.length+1<=maxElems)<|some (a++([f]:List GNNote)))else(some a)):Option (List GNNote)).bind λ(h:(List GNNote))=>some (.inl (h,(wr (b+1)))))else(some (.inr a))) FUEL (([]:List GNNote),0)).bind λ(c:(List GNNote))=>(f157 c).bind λd=>need (d.length=c.length)<|some d
def f159(b:GNDesk)(a:List GNNote)(c:List GNNote):Option Unit:=some ()
def f219(a:Int):Option Unit:=some ()
def f134(b:List Bool)(c:Bool):Option Int:=(loopN (σ:=Int) (τ:=(Unit⊕Int)) (λ(a:Int)=>bif (decide (a<(b.length:Int)))then((ix b a).bind λd=>bif (c==d)then(some (.inr (.inr a)))else(some (.inl (wr (a+1)))))else(some (.inr (.inl ())))) FUEL 0).bind (Sum.elim (λ(_:Unit)=>some (-1)) some)
def f69(c:List Bool)(b:Bool):Option Bool:=(f134 c b).bind λa=>some (decide (0<=a))
def f268(a:List GPlace):Option (List GPlace):=((bif a.isEmpty then(some ([]:List GPlace))else(need (a.length<=maxElems)<|some a)):Option (List GPlace)).bind λ(b:(List GPlace))=>some b
def f71(c:GInstrument)(a:GCourse)(b:Int):Option Int:=bif (decide (b=0))then(some a.pitch)else((ix c.steps (wr (b-1))).bind λd=>some (wr (a.pitch+d)))
def f124(b:GInstrument)(e:Int):Option (((List GPlace))×Int):=(f70 b).bind λg=>bif (decide (g≠0))then(some (([]:List GPlace),g))else(((bif (decide (e<0))then(some true)else(some (decide (127<e)))):Option Bool).bind λ(i:Bool)=>bif i then(some (([]:List GPlace),10))else((loopN (σ:=(List GPlace×Int)) (τ:=(List GPlace)) (λ((f,a):(List GPlace×Int))=>bif (decide (a<(b.courses.length:Int)))then((ix b.courses a).bind λh=>(loopN (σ:=(List GPlace×Int)) (τ:=(List GPlace)) (λ((c,d):(List GPlace×Int))=>bif (decide (d<=h.frets))then((((f71 b h d).bind λk=>bif (decide (k=e))then(need (c.length+1<=maxElems)<|some (c++([(⟨(wr (a+1)),d⟩:GPlace)]:List GPlace)))else(some c)):Option (List GPlace)).bind λ(m:(List GPlace))=>some (.inl (m,(wr (d+1)))))else(some (.inr c))) FUEL (f,0)).bind λ(j:(List GPlace))=>some (.inl (j,(wr (a+1)))))else(some (.inr f))) FUEL (([]:List GPlace),0)).bind λ(l:(List GPlace))=>some (l,0)))
def f274(b:GPlace)(a:Int):Option Bool:=some (decide (b.course=a))
def f185(b:List GPlace)(c:Int):Option Int:=(loopN (σ:=Int) (τ:=(Unit⊕Int)) (λ(a:Int)=>bif (decide (a<(b.length:Int)))then((ix b a).bind λd=>(f274 d c).bind λe=>bif e then(some (.inr (.inr a)))else(some (.inl (wr (a+1)))))else(some (.inr (.inl ())))) FUEL 0).bind (Sum.elim (λ(_:Unit)=>some (-1)) some)
def f190(c:List GPlace)(b:Int):Option Bool:=(f185 c b).bind λa=>some (decide (0<=a))
def f223(c:List GPlace)(b:Int):Option Bool:=(f190 c b).bind λa=>some a
def f267r:Nat->Int->(List GNNote)->(List (List GPlace))->(List GPlace)->(List Bool)->GInstrument->Int->Option (List (List GPlace)×List GPlace)
 |0,_,_,_,_,_,_,_=>none
 |l+1,a,e,d,c,j,k,h=>bif (decide (a=(e.length:Int)))then((f268 c).bind λw=>need (d.length+1<=maxElems)<|some ((d++([w]:List (List GPlace))),c))else((ix c a).bind λx=>(ix j a).bind λs=>bif s then((f267r l (wr (a+1)) e d (c.set a.toNat (⟨0,0⟩:GPlace)) j k h).bind λn=>some (n.1,n.2))else((ix e a).bind λr=>need (a.toNat<famCap)<|(f124 k (wr (r.pitch+h))).bind λf=>bif (decide (f.2≠0))then(some (d,(c.set a.toNat (⟨0,0⟩:GPlace))))else((loopN (σ:=(List GPlace×List (List GPlace)×Int)) (τ:=(List (List GPlace)×List GPlace)) (λ((b,i,g):(List GPlace×List (List GPlace)×Int))=>bif (decide (g<(f.1.length:Int)))then((((ix f.1 g).bind λm=>need (0<=a)<|need (a.toNat<=b.length)<|need (0+a.toNat<=b.length)<|(f223 (b.take a.toNat) m.course).bind λp=>bif (!p)then((ix b a).bind λy=>(f267r l (wr (a+1)) e i (b.set a.toNat m) j k h).bind λo=>some (o.2,o.1))else(some (b,i))):Option (List GPlace×List (List GPlace))).bind λ((q,t):(List GPlace×List (List GPlace)))=>some (.inl (q,t,(wr (g+1)))))else(some (.inr (i,b)))) FUEL ((c.set a.toNat (⟨0,0⟩:GPlace)),d,0)).bind λ((v,u):(List (List GPlace)×List GPlace))=>some (v,u))))
def f267(e:Int)(d:List GNNote)(a:List (List GPlace))(b:List GPlace)(f:List Bool)(g:GInstrument)(c:Int):Option (List (List GPlace)×List GPlace):=f267r FUEL e d a b f g c
def f271(b:List GPlace):Option Int:=(loopN (σ:=(Int×Int)) (τ:=Int) (λ((c,a):(Int×Int))=>bif (decide (a<(b.length:Int)))then((ix b a).bind λd=>some (.inl ((wr (c+d.fret)),(wr (a+1)))))else(some (.inr c))) FUEL (0,0)).bind λ(e:Int)=>some e
def f273(c:GPlace)(b:GPlace):Option Int:=(f104 c.course b.course).bind λa=>some a
def f272(c:List GPlace)(b:List GPlace):Option Int:=(loopN (σ:=Int) (τ:=(Unit⊕Int)) (λ(a:Int)=>bif (decide (a<(c.length:Int)))then((ix c a).bind λf=>bif (decide ((b.length:Int)<=a))then(some (.inr (.inr 1)))else((ix b a).bind λe=>(f273 f e).bind λd=>bif (decide (d≠0))then(some (.inr (.inr d)))else(some (.inl (wr (a+1))))))else(some (.inr (.inl ())))) FUEL 0).bind (Sum.elim (λ(_:Unit)=>bif (decide ((c.length:Int)<(b.length:Int)))then(some (-1))else(some 0)) some)
def f103(b:List Int):Option Int:=(loopN (σ:=Int) (τ:=(Unit⊕Int)) (λ(a:Int)=>bif (decide (a<(b.length:Int)))then((ix b a).bind λc=>bif (decide (c≠0))then(some (.inr (.inr c)))else(some (.inl (wr (a+1)))))else(some (.inr (.inl ())))) FUEL 0).bind (Sum.elim (λ(_:Unit)=>some 0) some)
def f270(b:List GPlace)(a:List GPlace):Option Int:=(f271 b).bind λc=>(f271 a).bind λg=>(f104 c g).bind λf=>(f272 b a).bind λd=>(f103 ([f,d]:List Int)).bind λe=>some e
def f322(l:List (List GPlace))(f:Int)(h:Int):Option (List (List GPlace)):=(loopN (σ:=(List (List GPlace)×Int)) (τ:=(List (List GPlace))) (λ((d,c):(List (List GPlace)×Int))=>bif (decide (c<h))then((loopN (σ:=(List (List GPlace)×Int)) (τ:=(List (List GPlace))) (λ((b,a):(List (List GPlace)×Int))=>((bif (decide (f<a))then((ix b a).bind λg=>(ix b (wr (a-1))).bind λm=>(f270 g m).bind λk=>some (decide (k<0)))else(some false)):Option Bool).bind λ(n:Bool)=>bif n then((ix b (wr (a-1))).bind λe=>(ix b a).bind λj=>(ix (b.set a.toNat e) (wr (a-1))).bind λp=>some (.inl (((b.set a.toNat e).set (wr (a-1)).toNat j),(wr (a-1)))))else(some (.inr b))) FUEL (d,c)).bind λ(i:(List (List GPlace)))=>some (.inl (i,(wr (c+1)))))else(some (.inr d))) FUEL (l,(wr (f+1)))).bind λ(o:(List (List GPlace)))=>some o
def f331(h:List (List GPlace))(d:Int)(c:Int)(g:Int):Option (List (List GPlace)):=(loopN (σ:=(List (List GPlace)×Int)) (τ:=(List (List GPlace))) (λ((b,a):(List (List GPlace)×Int))=>bif (decide (a<g))then((ix b (wr (c+a))).bind λe=>(ix b (wr (d+a))).bind λf=>(ix (b.set (wr (d+a)).toNat e) (wr (c+a))).bind λj=>some (.inl (((b.set (wr (d+a)).toNat e).set (wr (c+a)).toNat f),(wr (a+1)))))else(some (.inr b))) FUEL (h,0)).bind λ(i:(List (List GPlace)))=>some i
def f329(j:List (List GPlace))(k:Int)(b:Int)(h:Int):Option (List (List GPlace)):=(loopN (σ:=(List (List GPlace)×Int×Int)) (τ:=(List (List GPlace)×Int)) (λ((d,a,c):(List (List GPlace)×Int×Int))=>bif (decide (a≠c))then(bif (decide (c<a))then((f331 d (wr (b-a)) b c).bind λg=>need (g.length=d.length)<|some (.inl (g,(wr (a-c)),c)))else((f331 d (wr (b-a)) (wr ((wr (b+c))-a)) a).bind λe=>need (e.length=d.length)<|some (.inl (e,a,(wr (c-a))))))else(some (.inr (d,a)))) FUEL (j,(wr (b-k)),(wr (h-b)))).bind λ((l,f):(List (List GPlace)×Int))=>(f331 l (wr (b-f)) b f).bind λi=>some i
def f323r:Nat->(List (List GPlace))->Int->Int->Int->Option (List (List GPlace))
 |0,_,_,_,_=>none
 |r+1,d,a,c,b=>bif (decide ((wr (c-a))=1))then((loopN (σ:=(Int×Int)) (τ:=Int) (λ((j,m):(Int×Int))=>bif (decide (j<m))then((ix d (wr ((shrI (IntKind.wrap .u64 ((wr (j+m)))) 1)))).bind λM=>(ix d a).bind λP=>(f270 M P).bind λH=>bif (decide (H<0))then(some (.inl ((wr ((wr ((shrI (IntKind.wrap .u64 ((wr (j+m)))) 1)))+1)),m)))else(some (.inl (j,(wr ((shrI (IntKind.wrap .u64 ((wr (j+m)))) 1)))))))else(some (.inr j))) FUEL (c,b)).bind λ(B:Int)=>(loopN (σ:=(List (List GPlace)×Int)) (τ:=(List (List GPlace))) (λ((l,g):(List (List GPlace)×Int))=>bif (decide (g<(wr (B-1))))then((ix l (wr (g+1))).bind λs=>(ix l g).bind λy=>(ix (l.set g.toNat s) (wr (g+1))).bind λS=>some (.inl (((l.set g.toNat s).set (wr (g+1)).toNat y),(wr (g+1)))))else(some (.inr l))) FUEL (d,a)).bind λ(C:(List (List GPlace)))=>some C)else(bif (decide ((wr (b-c))=1))then((loopN (σ:=(Int×Int)) (τ:=Int) (λ((i,o):(Int×Int))=>bif (decide (i<o))then((ix d c).bind λL=>(ix d (wr ((shrI (IntKind.wrap .u64 ((wr (i+o)))) 1)))).bind λx=>(f270 L x).bind λJ=>bif (!(decide (J<0)))then(some (.inl ((wr ((wr ((shrI (IntKind.wrap .u64 ((wr (i+o)))) 1)))+1)),o)))else(some (.inl (i,(wr ((shrI (IntKind.wrap .u64 ((wr (i+o)))) 1)))))))else(some (.inr i))) FUEL (a,c)).bind λ(I:Int)=>(loopN (σ:=(List (List GPlace)×Int)) (τ:=(List (List GPlace))) (λ((n,f):(List (List GPlace)×Int))=>bif (decide (I<f))then((ix n (wr (f-1))).bind λt=>(ix n f).bind λQ=>(ix (n.set f.toNat t) (wr (f-1))).bind λR=>some (.inl (((n.set f.toNat t).set (wr (f-1)).toNat Q),(wr (f-1)))))else(some (.inr n))) FUEL (d,c)).bind λ(G:(List (List GPlace)))=>some G)else(((bif (decide ((wr ((shrI (IntKind.wrap .u64 ((wr (a+b)))) 1)))<c))then(some ((wr ((wr ((wr ((shrI (IntKind.wrap .u64 ((wr (a+b)))) 1)))+c))-b)),(wr ((shrI (IntKind.wrap .u64 ((wr (a+b)))) 1)))))else(some (a,c))):Option (Int×Int)).bind λ((E,w):(Int×Int))=>(loopN (σ:=(Int×Int)) (τ:=Int) (λ((h,k):(Int×Int))=>bif (decide (h<k))then((ix d (wr ((wr ((wr ((wr ((shrI (IntKind.wrap .u64 ((wr (a+b)))) 1)))+c))-1))-(wr ((shrI (IntKind.wrap .u64 ((wr (h+k)))) 1)))))).bind λA=>(ix d (wr ((shrI (IntKind.wrap .u64 ((wr (h+k)))) 1)))).bind λF=>(f270 A F).bind λO=>bif (!(decide (O<0)))then(some (.inl ((wr ((wr ((shrI (IntKind.wrap .u64 ((wr (h+k)))) 1)))+1)),k)))else(some (.inl (h,(wr ((shrI (IntKind.wrap .u64 ((wr (h+k)))) 1)))))))else(some (.inr h))) FUEL (E,w)).bind λ(e:Int)=>((((bif (decide (e<c))then(some (decide (c<(wr ((wr ((wr ((shrI (IntKind.wrap .u64 ((wr (a+b)))) 1)))+c))-e)))))else(some false)):Option Bool).bind λ(K:Bool)=>bif K then((f329 d e c (wr ((wr ((wr ((shrI (IntKind.wrap .u64 ((wr (a+b)))) 1)))+c))-e))).bind λq=>need (q.length=d.length)<|some q)else(some d)):Option (List (List GPlace))).bind λ(p:(List (List GPlace)))=>((((bif (decide (a<e))then(some (decide (e<(wr ((shrI (IntKind.wrap .u64 ((wr (a+b)))) 1))))))else(some false)):Option Bool).bind λ(D:Bool)=>bif D then((f323r r p a e (wr ((shrI (IntKind.wrap .u64 ((wr (a+b)))) 1)))).bind λu=>need (u.length=p.length)<|some u)else(some p)):Option (List (List GPlace))).bind λ(v:(List (List GPlace)))=>((bif (decide ((wr ((shrI (IntKind.wrap .u64 ((wr (a+b)))) 1)))<(wr ((wr ((wr ((shrI (IntKind.wrap .u64 ((wr (a+b)))) 1)))+c))-e))))then(some (decide ((wr ((wr ((wr ((shrI (IntKind.wrap .u64 ((wr (a+b)))) 1)))+c))-e))<b)))else(some false)):Option Bool).bind λ(N:Bool)=>bif N then((f323r r v (wr ((shrI (IntKind.wrap .u64 ((wr (a+b)))) 1))) (wr ((wr ((wr ((shrI (IntKind.wrap .u64 ((wr (a+b)))) 1)))+c))-e)) b).bind λz=>some z)else(some v)))
def f323(b:List (List GPlace))(a:Int)(c:Int)(d:Int):Option (List (List GPlace)):=f323r FUEL b a c d
def f306(t:List (List GPlace))(b:Int):Option (List (List GPlace)):=(loopN (σ:=(List (List GPlace)×Int×Int)) (τ:=(List (List GPlace)×Int)) (λ((i,j,c):(List (List GPlace)×Int×Int))=>bif (decide (c<=b))then((f322 i j c).bind λp=>need (p.length=i.length)<|some (.inl (p,c,(wr (c+20)))))else(some (.inr (i,j)))) FUEL (t,0,20)).bind λ((n,s):(List (List GPlace)×Int))=>(f322 n s b).bind λl=>need (l.length=n.length)<|(loopN (σ:=(List (List GPlace)×Int)) (τ:=(List (List GPlace))) (λ((m,a):(List (List GPlace)×Int))=>bif (decide (a<b))then((loopN (σ:=(List (List GPlace)×Int×Int)) (τ:=(List (List GPlace)×Int)) (λ((h,f,d):(List (List GPlace)×Int×Int))=>bif (decide (d<=b))then((f323 h f (wr (f+a)) d).bind λk=>need (k.length=h.length)<|some (.inl (k,d,(wr (d+(wr (2*a)))))))else(some (.inr (h,f)))) FUEL (m,0,(wr (2*a)))).bind λ((e,g):(List (List GPlace)×Int))=>((bif (decide ((wr (g+a))<b))then((f323 e g (wr (g+a)) b).bind λo=>need (o.length=e.length)<|some o)else(some e)):Option (List (List GPlace))).bind λ(q:(List (List GPlace)))=>some (.inl (q,(wr (a*2)))))else(some (.inr m))) FUEL (l,20)).bind λ(r:(List (List GPlace)))=>some r
def f269(a:List (List GPlace)):Option (List (List GPlace)):=(f306 a (a.length:Int)).bind λb=>some b
def f220(f:GInstrument)(a:List GNNote)(d:List Bool)(e:Int):Option (List (List GPlace)):=need (0<=(a.length:Int))<|need ((a.length:Int)<=(maxElems:Int))<|(f267 0 a ([]:List (List GPlace)) (List.replicate (a.length:Int).toNat (⟨0,0⟩:GPlace)) d f e).bind λc=>(f269 c.1).bind λb=>need (b.length=c.1.length)<|some b
def f221(a:List Bool):Option (List Bool):=((bif a.isEmpty then(some ([]:List Bool))else(need (a.length<=maxElems)<|some a)):Option (List Bool)).bind λ(b:(List Bool))=>some b
def f222(i:GNDesk)(b:GNChoice)(d:List GNNote):Option Bool:=(loopN (σ:=Int) (τ:=(Unit⊕Bool)) (λ(a:Int)=>bif (decide (a<(d.length:Int)))then((ix d a).bind λc=>(f223 b.places c.place.course).bind λe=>(((ix b.cut a).bind λk=>bif k then(bif (decide (c.place.fret=0))then(some (!e))else(some false))else(some false)):Option Bool).bind λ(h:Bool)=>bif h then(some (.inr (.inr false)))else((((ix b.cut a).bind λl=>bif (!l)then(some e)else(some false)):Option Bool).bind λ(g:Bool)=>bif g then(some (.inr (.inr false)))else((((ix b.cut a).bind λj=>bif (!j)then(bif (decide (0<c.place.fret))then(some (decide (15<(wr ((i.piece.events.length:Int)-c.event)))))else(some false))else(some false)):Option Bool).bind λ(f:Bool)=>bif f then(some (.inr (.inr false)))else(some (.inl (wr (a+1)))))))else(some (.inr (.inl ())))) FUEL 0).bind (Sum.elim (λ(_:Unit)=>some true) some)
def f225(c:GPlace)(b:GPlace):Option Int:=(f104 c.course b.course).bind λa=>some a
def f224(a:List GPlace):Option (List GPlace):=sortF f225 a
def f160(t:GNDesk)(d:GNChoice)(s:List GNNote):Option GChord:=(loopN (σ:=(List GPlace×List Int×Int)) (τ:=(List GPlace×List Int)) (λ((h,e,f):(List GPlace×List Int×Int))=>bif (decide (f<(s.length:Int)))then((((ix s f).bind λj=>(((ix d.cut f).bind λz=>bif (!z)then(some (decide (0<j.place.fret)))else(some false)):Option Bool).bind λ(B:Bool)=>bif B then(need (h.length+1<=maxElems)<|need (e.length+1<=maxElems)<|some ((h++([j.place]:List GPlace)),(e++([j.place.course]:List Int))))else(some (h,e))):Option (List GPlace×List Int)).bind λ((w,C):(List GPlace×List Int))=>some (.inl (w,C,(wr (f+1)))))else(some (.inr (h,e)))) FUEL (([]:List GPlace),([]:List Int),0)).bind λ((u,m):(List GPlace×List Int))=>(loopN (σ:=(List GPlace×List Int×Int)) (τ:=(List GPlace×List Int)) (λ((a,b,i):(List GPlace×List Int×Int))=>bif (decide (i<(d.places.length:Int)))then((((ix d.places i).bind λc=>bif (decide (0<c.fret))then(need (a.length+1<=maxElems)<|some ((a++([c]:List GPlace)),b))else(bif (decide (0<c.course))then(need (b.length+1<=maxElems)<|some (a,(b++([c.course]:List Int))))else(some (a,b)))):Option (List GPlace×List Int)).bind λ((v,A):(List GPlace×List Int))=>some (.inl (v,A,(wr (i+1)))))else(some (.inr (a,b)))) FUEL (u,([]:List Int),0)).bind λ((q,y):(List GPlace×List Int))=>(loopN (σ:=(List Int×Int)) (τ:=(List Int)) (λ((g,k):(List Int×Int))=>bif (decide (k<(t.chord.open_.length:Int)))then((((ix t.chord.open_ k).bind λo=>(f223 d.places o).bind λD=>bif (!D)then(need (g.length+1<=maxElems)<|some (g++([o]:List Int)))else(some g)):Option (List Int)).bind λ(x:(List Int))=>some (.inl (x,(wr (k+1)))))else(some (.inr g))) FUEL (y,0)).bind λ(p:(List Int))=>(f224 q).bind λn=>need (n.length=q.length)<|(f90 m).bind λl=>need (l.length=m.length)<|(f90 p).bind λr=>need (r.length=p.length)<|some (⟨n,l,r⟩:GChord)
def f118(b:List Int):Option Bool:=(loopN (σ:=Int) (τ:=(Unit⊕Bool)) (λ(a:Int)=>bif (decide (a<(b.length:Int)))then((ix b a).bind λd=>(ix b (wr (a-1))).bind λc=>bif (decide (d<=c))then(some (.inr (.inr false)))else(some (.inl (wr (a+1)))))else(some (.inr (.inl ())))) FUEL 1).bind (Sum.elim (λ(_:Unit)=>some true) some)
def f186(b:GPlace)(a:Int):Option Bool:=some (decide (b.course=a))
def f185_1(b:List GPlace)(c:Int):Option Int:=(loopN (σ:=Int) (τ:=(Unit⊕Int)) (λ(a:Int)=>bif (decide (a<(b.length:Int)))then((ix b a).bind λd=>(f186 d c).bind λe=>bif e then(some (.inr (.inr a)))else(some (.inl (wr (a+1)))))else(some (.inr (.inl ())))) FUEL 0).bind (Sum.elim (λ(_:Unit)=>some (-1)) some)
def f119(c:GChord)(b:Int):Option Int:=(f185_1 c.down b).bind λa=>some a
def f59(a:GChord):Option Bool:=(loopN (σ:=(Int×Int)) (τ:=(Unit⊕Bool)) (λ((j,e):(Int×Int))=>bif (decide (e<(a.down.length:Int)))then((ix a.down e).bind λb=>((bif (decide (b.course<=j))then(some true)else(bif (decide (14<b.course))then(some true)else((f85 b.fret 1 18).bind λn=>some (!n)))):Option Bool).bind λ(o:Bool)=>bif o then(some (.inr (.inr false)))else(some (.inl (b.course,(wr (e+1))))))else(some (.inr (.inl ())))) FUEL (0,0)).bind (Sum.elim (λ(_:Unit)=>(((f118 a.held).bind λl=>bif (!l)then(some true)else((f118 a.open_).bind λi=>some (!i))):Option Bool).bind λ(h:Bool)=>bif h then(some false)else((loopN (σ:=Int) (τ:=(Unit⊕Bool)) (λ(c:Int)=>bif (decide (c<(a.held.length:Int)))then((ix a.held c).bind λp=>(f119 a p).bind λg=>bif (decide (g<0))then(some (.inr (.inr false)))else(some (.inl (wr (c+1)))))else(some (.inr (.inl ())))) FUEL 0).bind (Sum.elim (λ(_:Unit)=>(loopN (σ:=Int) (τ:=(Unit⊕Bool)) (λ(d:Int)=>bif (decide (d<(a.open_.length:Int)))then((ix a.open_ d).bind λf=>(((f85 f 1 14).bind λk=>bif (!k)then(some true)else((f119 a f).bind λq=>some (decide (0<=q)))):Option Bool).bind λ(m:Bool)=>bif m then(some (.inr (.inr false)))else(some (.inl (wr (d+1)))))else(some (.inr (.inl ())))) FUEL 0).bind (Sum.elim (λ(_:Unit)=>some true) some)) some))) some)
def f187(b:List Int)(c:Int):Option Int:=(loopN (σ:=Int) (τ:=(Unit⊕Int)) (λ(a:Int)=>bif (decide (a<(b.length:Int)))then((ix b a).bind λd=>bif (decide (c=d))then(some (.inr (.inr a)))else(some (.inl (wr (a+1)))))else(some (.inr (.inl ())))) FUEL 0).bind (Sum.elim (λ(_:Unit)=>some (-1)) some)
def f189(a:Int)(b:Int)(c:Int):Option Bool:=((bif (decide (b<a))then(some (decide (a<c)))else(some false)):Option Bool).bind λ(d:Bool)=>some d
def f243(b:List Int)(c:Int)(f:Int):Option Int:=(loopN (σ:=Int) (τ:=(Unit⊕Int)) (λ(a:Int)=>bif (decide (a<(b.length:Int)))then((ix b a).bind λd=>(f189 d c f).bind λe=>bif e then(some (.inr (.inr a)))else(some (.inl (wr (a+1)))))else(some (.inr (.inl ())))) FUEL 0).bind (Sum.elim (λ(_:Unit)=>some (-1)) some)
def f188(c:List Int)(b:Int)(d:Int):Option Bool:=(f243 c b d).bind λa=>some (decide (0<=a))
def f191(b:GPlace)(a:Int):Option Bool:=some (decide (b.fret<a))
def f185_2(b:List GPlace)(c:Int):Option Int:=(loopN (σ:=Int) (τ:=(Unit⊕Int)) (λ(a:Int)=>bif (decide (a<(b.length:Int)))then((ix b a).bind λd=>(f191 d c).bind λe=>bif e then(some (.inr (.inr a)))else(some (.inl (wr (a+1)))))else(some (.inr (.inl ())))) FUEL 0).bind (Sum.elim (λ(_:Unit)=>some (-1)) some)
def f190_1(c:List GPlace)(b:Int):Option Bool:=(f185_2 c b).bind λa=>some (decide (0<=a))
def f121(h:GHand)(b:GChord)(f:List Int):Option Bool:=(loopN (σ:=Int) (τ:=(Unit⊕Bool)) (λ(d:Int)=>bif (decide (d<=(h.low.length:Int)))then((((f187 f d).bind λa=>bif (decide (a<0))then(some (.inl ()))else((loopN (σ:=(Int×Int)) (τ:=Int) (λ((g,e):(Int×Int))=>bif (decide (e<(f.length:Int)))then((((ix f e).bind λj=>bif (decide (j=d))then(some e)else(some g)):Option Int).bind λ(m:Int)=>some (.inl (m,(wr (e+1)))))else(some (.inr g))) FUEL (a,0)).bind λ(c:Int)=>bif (decide (a=c))then(some (.inl ()))else((((ix h.barre (wr (d-1))).bind λo=>bif (!o)then(some true)else((ix b.down a).bind λk=>(ix b.down c).bind λp=>some (decide (k.fret≠p.fret)))):Option Bool).bind λ(r:Bool)=>bif r then(some (.inr (.inr (.inr false))))else((ix b.down a).bind λi=>(ix b.down c).bind λl=>(f188 b.open_ i.course l.course).bind λq=>bif q then(some (.inr (.inr (.inr false))))else(need (0<=a)<|need (0<=c)<|need (a.toNat<=c.toNat)<|need (c.toNat<=b.down.length)<|(f190_1 ((b.down.take c.toNat).drop a.toNat) i.fret).bind λn=>bif n then(some (.inr (.inr (.inr false))))else(some (.inl ()))))))):Option (Unit⊕(Int⊕(Unit⊕Bool)))).bind (Sum.elim (λ(_:Unit)=>some (.inl (wr (d+1)))) some))else(some (.inr (.inl ())))) FUEL 1).bind (Sum.elim (λ(_:Unit)=>some true) some)
def f45_1(a:List Int):Option (List Int):=((bif a.isEmpty then(some ([]:List Int))else(need (a.length<=maxElems)<|some a)):Option (List Int)).bind λ(b:(List Int))=>some b
def f122(c:GHand)(b:Int)(a:Int)(d:Int):Option Bool:=(ix c.low (wr (a-1))).bind λe=>(ix c.high (wr (a-1))).bind λf=>(f85 d (wr (b+e)) (wr (b+f))).bind λg=>some g
def f123(d:GPlace)(c:GPlace)(a:Int)(b:Int):Option Bool:=bif (decide (d.fret<c.fret))then(some (decide (a<b)))else(bif (decide (c.fret<d.fret))then(some (decide (b<a)))else(bif (decide (d.course<c.course))then(some (decide (b<=a)))else(some (decide (a<=b)))))
def f120r:Nat->Int->(List Int)->GChord->GHand->(List GGrip)->Option (List Int×List GGrip)
 |0,_,_,_,_,_=>none
 |r+1,j,a,d,f,i=>bif (decide ((a.length:Int)=(d.down.length:Int)))then((((f121 f d a).bind λx=>bif x then((f45_1 a).bind λo=>need (i.length+1<=maxElems)<|some (i++([(⟨j,o⟩:GGrip)]:List GGrip)))else(some i)):Option (List GGrip)).bind λ(p:(List GGrip))=>some (a,p))else((loopN (σ:=(List Int×List GGrip×Int)) (τ:=(List Int×List GGrip)) (λ((b,e,c):(List Int×List GGrip×Int))=>((bif (decide (c<=(f.low.length:Int)))then(some (decide ((e.length:Int)<=200)))else(some false)):Option Bool).bind λ(w:Bool)=>bif w then((((ix d.down (a.length:Int)).bind λk=>(f122 f j c k.fret).bind λl=>bif (!l)then(some (b,e))else((loopN (σ:=Int) (τ:=(Unit⊕_)) (λ(h:Int)=>bif (decide (h<(b.length:Int)))then((ix b h).bind λt=>(ix d.down h).bind λu=>(f123 u k t c).bind λv=>bif (!v)then(some (.inr (.inr (b,e))))else(some (.inl (wr (h+1)))))else(some (.inr (.inl ())))) FUEL 0).bind (Sum.elim (λ(_:Unit)=>need (b.length+1<=maxElems)<|(f120r r j (b++([c]:List Int)) d f e).bind λg=>need (0<=(a.length:Int))<|need ((a.length:Int).toNat<=g.1.length)<|need ((a.length:Int).toNat<=g.1.length)<|some ((g.1.take (a.length:Int).toNat),g.2)) some))):Option (List Int×List GGrip)).bind λ((m,n):(List Int×List GGrip))=>some (.inl (m,n,(wr (c+1)))))else(some (.inr (b,e)))) FUEL (a,i,1)).bind λ((q,s):(List Int×List GGrip))=>some (q,s))
def f120(d:Int)(c:List Int)(a:GChord)(b:GHand)(e:List GGrip):Option (List Int×List GGrip):=f120r FUEL d c a b e
def f60(c:GHand)(g:GChord):Option ((List GGrip)):=(loopN (σ:=(List GGrip×List Int×Int)) (τ:=(List GGrip)) (λ((b,e,a):(List GGrip×List Int×Int))=>bif (decide (a<=c.top))then((f120 a e g c b).bind λd=>some (.inl (d.2,d.1,(wr (a+1)))))else(some (.inr b))) FUEL (([]:List GGrip),([]:List Int),1)).bind λ(f:(List GGrip))=>some f
def f16(d:GHand)(c:GChord):Option (((List GGrip))×Int):=(f39 d).bind λa=>bif (decide (a≠0))then(some (([]:List GGrip),a))else((f59 c).bind λe=>bif (!e)then(some (([]:List GGrip),1))else((f60 d c).bind λb=>bif (decide (200<(b.length:Int)))then(some (([]:List GGrip),2))else(some (b,0))))
def f246(c:GChord)(a:GChord):Option Bool:=(loopN (σ:=Int) (τ:=(Unit⊕Bool)) (λ(b:Int)=>bif (decide (b<(a.held.length:Int)))then((ix a.held b).bind λd=>(f119 c d).bind λe=>((bif (decide (e<0))then(some true)else((ix c.down e).bind λf=>(f119 a d).bind λi=>(ix a.down i).bind λg=>some (!(eq_GPlace f g)))):Option Bool).bind λ(h:Bool)=>bif h then(some (.inr (.inr false)))else(some (.inl (wr (b+1)))))else(some (.inr (.inl ())))) FUEL 0).bind (Sum.elim (λ(_:Unit)=>some true) some)
def f196(b:List GChord):Option Int:=bif (decide (400<(b.length:Int)))then(some 2)else((loopN (σ:=Int) (τ:=(Unit⊕Int)) (λ(a:Int)=>bif (decide (a<(b.length:Int)))then((ix b a).bind λc=>(((f59 c).bind λf=>bif (!f)then(some true)else(bif (decide (0<a))then((ix b (wr (a-1))).bind λd=>(f246 d c).bind λe=>some (!e))else(some false))):Option Bool).bind λ(g:Bool)=>bif g then(some (.inr (.inr 1)))else(some (.inl (wr (a+1)))))else(some (.inr (.inl ())))) FUEL 0).bind (Sum.elim (λ(_:Unit)=>some 0) some))
def f187_1(b:List Int)(c:Int):Option Int:=(loopN (σ:=Int) (τ:=(Unit⊕Int)) (λ(a:Int)=>bif (decide (a<(b.length:Int)))then((ix b a).bind λd=>bif (decide (c=d))then(some (.inr (.inr a)))else(some (.inl (wr (a+1)))))else(some (.inr (.inl ())))) FUEL 0).bind (Sum.elim (λ(_:Unit)=>some (-1)) some)
def f121_1(h:GHand)(b:GChord)(f:List Int):Option Bool:=(loopN (σ:=Int) (τ:=(Unit⊕Bool)) (λ(d:Int)=>bif (decide (d<=(h.low.length:Int)))then((((f187_1 f d).bind λa=>bif (decide (a<0))then(some (.inl ()))else((loopN (σ:=(Int×Int)) (τ:=Int) (λ((g,e):(Int×Int))=>bif (decide (e<(f.length:Int)))then((((ix f e).bind λj=>bif (decide (j=d))then(some e)else(some g)):Option Int).bind λ(m:Int)=>some (.inl (m,(wr (e+1)))))else(some (.inr g))) FUEL (a,0)).bind λ(c:Int)=>bif (decide (a=c))then(some (.inl ()))else((((ix h.barre (wr (d-1))).bind λo=>bif (!o)then(some true)else((ix b.down a).bind λk=>(ix b.down c).bind λp=>some (decide (k.fret≠p.fret)))):Option Bool).bind λ(r:Bool)=>bif r then(some (.inr (.inr (.inr false))))else((ix b.down a).bind λi=>(ix b.down c).bind λl=>(f188 b.open_ i.course l.course).bind λq=>bif q then(some (.inr (.inr (.inr false))))else(need (0<=a)<|need (0<=c)<|need (a.toNat<=c.toNat)<|need (c.toNat<=b.down.length)<|(f190_1 ((b.down.take c.toNat).drop a.toNat) i.fret).bind λn=>bif n then(some (.inr (.inr (.inr false))))else(some (.inl ()))))))):Option (Unit⊕(Int⊕(Unit⊕Bool)))).bind (Sum.elim (λ(_:Unit)=>some (.inl (wr (d+1)))) some))else(some (.inr (.inl ())))) FUEL 1).bind (Sum.elim (λ(_:Unit)=>some true) some)
def f277(e:GHand)(c:GChord)(a:GGrip):Option Bool:=(((f85 a.pos 1 e.top).bind λi=>bif (!i)then(some true)else(some (decide ((a.fingers.length:Int)≠(c.down.length:Int))))):Option Bool).bind λ(k:Bool)=>bif k then(some false)else((loopN (σ:=Int) (τ:=(Unit⊕Bool)) (λ(b:Int)=>bif (decide (b<(a.fingers.length:Int)))then((ix a.fingers b).bind λf=>(((f85 f 1 (e.low.length:Int)).bind λq=>bif (!q)then(some true)else((ix c.down b).bind λo=>(f122 e a.pos f o.fret).bind λh=>some (!h))):Option Bool).bind λ(m:Bool)=>bif m then(some (.inr (.inr false)))else((loopN (σ:=Int) (τ:=(Unit⊕(Int⊕(Unit⊕Bool)))) (λ(d:Int)=>bif (decide (d<b))then((ix c.down d).bind λl=>(ix c.down b).bind λp=>(ix a.fingers d).bind λj=>(f123 l p j f).bind λn=>bif (!n)then(some (.inr (.inr (.inr (.inr false)))))else(some (.inl (wr (d+1)))))else(some (.inr (.inl ())))) FUEL 0).bind (Sum.elim (λ(_:Unit)=>some (.inl (wr (b+1)))) some)))else(some (.inr (.inl ())))) FUEL 0).bind (Sum.elim (λ(_:Unit)=>(f121_1 e c a.fingers).bind λg=>some g) some))
def f198(b:Int)(a:Int):Option Int:=some (maxI (wr (b-a)) (wr (a-b)))
def f197(g:GChord)(c:GGrip)(e:Int):Option ((List GPlace)):=(loopN (σ:=(List GPlace×Int)) (τ:=(List GPlace)) (λ((b,a):(List GPlace×Int))=>bif (decide (a<(c.fingers.length:Int)))then((((ix c.fingers a).bind λi=>bif (decide (i=e))then((ix g.down a).bind λh=>need (b.length+1<=maxElems)<|some (b++([h]:List GPlace)))else(some b)):Option (List GPlace)).bind λ(d:(List GPlace))=>some (.inl (d,(wr (a+1)))))else(some (.inr b))) FUEL (([]:List GPlace),0)).bind λ(f:(List GPlace))=>some f
def f327(b:List GPlace)(c:GPlace):Option Int:=(loopN (σ:=Int) (τ:=(Unit⊕Int)) (λ(a:Int)=>bif (decide (a<(b.length:Int)))then((ix b a).bind λd=>bif (eq_GPlace c d)then(some (.inr (.inr a)))else(some (.inl (wr (a+1)))))else(some (.inr (.inl ())))) FUEL 0).bind (Sum.elim (λ(_:Unit)=>some (-1)) some)
def f316(c:List GPlace)(b:GPlace):Option Bool:=(f327 c b).bind λa=>some (decide (0<=a))
def f315(c:GPlace)(b:List GPlace):Option Bool:=(f316 b c).bind λa=>some a
def f185_3(b:List GPlace)(c:List GPlace):Option Int:=(loopN (σ:=Int) (τ:=(Unit⊕Int)) (λ(a:Int)=>bif (decide (a<(b.length:Int)))then((ix b a).bind λd=>(f315 d c).bind λe=>bif e then(some (.inr (.inr a)))else(some (.inl (wr (a+1)))))else(some (.inr (.inl ())))) FUEL 0).bind (Sum.elim (λ(_:Unit)=>some (-1)) some)
def f190_2(c:List GPlace)(b:List GPlace):Option Bool:=(f185_3 c b).bind λa=>some (decide (0<=a))
def f278(a:GHand)(f:GChord)(i:GGrip)(b:GChord)(g:GGrip):Option (Int×Bool):=(loopN (σ:=Int) (τ:=(Unit⊕(Int×Bool))) (λ(e:Int)=>bif (decide (e<(b.held.length:Int)))then((ix b.held e).bind λl=>(f119 f l).bind λs=>(ix i.fingers s).bind λy=>(f119 b l).bind λv=>(ix g.fingers v).bind λw=>bif (decide (y≠w))then(some (.inr (.inr (0,false))))else(some (.inl (wr (e+1)))))else(some (.inr (.inl ())))) FUEL 0).bind (Sum.elim (λ(_:Unit)=>(f198 i.pos g.pos).bind λc=>((bif (decide (0<(f.down.length:Int)))then(some (decide (0<(b.down.length:Int))))else(some false)):Option Bool).bind λ(j:Bool)=>((bif j then(some (decide (a.jump<c)))else(some false)):Option Bool).bind λ(t:Bool)=>bif t then(some (0,false))else(((((bif j then(some (decide (0<c)))else(some false)):Option Bool).bind λ(p:Bool)=>bif p then(some (wr ((wr (a.shift*c))+a.lift)))else(some (wr (a.shift*c)))):Option Int).bind λ(r:Int)=>(loopN (σ:=(Int×Int)) (τ:=Int) (λ((h,d):(Int×Int))=>((bif (decide (d<=(a.low.length:Int)))then(some j)else(some false)):Option Bool).bind λ(o:Bool)=>bif o then((((f197 f i d).bind λm=>(f197 b g d).bind λk=>((bif (decide (0<(m.length:Int)))then(bif (decide (0<(k.length:Int)))then((f190_2 m k).bind λx=>some (!x))else(some false))else(some false)):Option Bool).bind λ(q:Bool)=>bif q then(some (wr (h+a.slide)))else(some h)):Option Int).bind λ(u:Int)=>some (.inl (u,(wr (d+1)))))else(some (.inr h))) FUEL (r,1)).bind λ(n:Int)=>some (n,true))) some)
def f228(a:GHand)(c:GChord)(d:GGrip)(b:GChord)(g:GGrip):Option (Int×Int):=(f39 a).bind λf=>bif (decide (f≠0))then(some (0,f))else((f196 ([c,b]:List GChord)).bind λh=>bif (decide (h≠0))then(some (0,h))else((((f277 a c d).bind λj=>bif (!j)then(some true)else((f277 a b g).bind λi=>some (!i))):Option Bool).bind λ(k:Bool)=>bif k then(some (0,61))else((f278 a c d b g).bind λe=>bif (!e.2)then(some (0,61))else(some (e.1,0)))))
def f227(e:GGrip)(a:GNDesk)(b:GChord)(c:GGrip):Option Bool:=(f228 a.h a.chord e b c).bind λd=>some (decide (d.2=0))
def f276(b:List GGrip)(c:GNDesk)(g:GChord)(d:GGrip):Option Int:=(loopN (σ:=Int) (τ:=(Unit⊕Int)) (λ(a:Int)=>bif (decide (a<(b.length:Int)))then((ix b a).bind λe=>(f227 e c g d).bind λf=>bif f then(some (.inr (.inr a)))else(some (.inl (wr (a+1)))))else(some (.inr (.inl ())))) FUEL 0).bind (Sum.elim (λ(_:Unit)=>some (-1)) some)
def f226(d:List GGrip)(b:GNDesk)(e:GChord)(c:GGrip):Option Bool:=(f276 d b e c).bind λa=>some (decide (0<=a))
def f161(c:GNDesk)(f:GChord):Option (List GGrip):=(f16 c.h f).bind λa=>bif (decide (a.2≠0))then(some ([]:List GGrip))else(bif (decide ((c.piece.events.length:Int)=0))then(some a.1)else((loopN (σ:=(List GGrip×Int)) (τ:=(List GGrip)) (λ((b,d):(List GGrip×Int))=>bif (decide (d<(a.1.length:Int)))then((((ix a.1 d).bind λe=>(f226 c.possible c f e).bind λi=>bif i then(need (b.length+1<=maxElems)<|some (b++([e]:List GGrip)))else(some b)):Option (List GGrip)).bind λ(j:(List GGrip))=>some (.inl (j,(wr (d+1)))))else(some (.inr b))) FUEL (([]:List GGrip),0)).bind λ(g:(List GGrip))=>some g))
def f350(b:GNDesk)(d:List GNNote)(g:GNChoice)(h:GChord)(f:List GGrip)(i:Bool)(j:List GNNote)(k:List GNNote)(e:GNChoice):Option ((List GGrip×GChord)⊕Unit):=(f160 b e d).bind λa=>(f161 b (⟨a.down,a.held,a.open_⟩:GChord)).bind λc=>bif (decide (0<(c.length:Int)))then(some (.inl (c,(⟨a.down,a.held,a.open_⟩:GChord))))else(some (.inr ()))
def f349(l:List GNNote)(e:GNDesk)(g:List GNNote)(o:List GNNote)(m:GNChoice)(h:GChord)(i:List GGrip)(n:Bool)(f:List (List GPlace))(r:Int)(q:Int)(k:List Bool):Option ((List GGrip×GChord×GNChoice)⊕Unit):=(loopN (σ:=Int) (τ:=(Unit⊕((List GGrip×GChord×GNChoice)⊕Unit))) (λ(b:Int)=>bif (decide (b<(f.length:Int)))then((ix f b).bind λc=>(f221 k).bind λd=>(f222 e (⟨c,d⟩:GNChoice) g).bind λj=>bif j then((f350 e o m h i n l g (⟨c,d⟩:GNChoice)).bind (Sum.elim (λa=>some (.inr (.inr (.inl (a.1,(⟨a.2.down,a.2.held,a.2.open_⟩:GChord),(⟨c,d⟩:GNChoice)))))) λp=>some (.inl (wr (b+1)))))else(some (.inl (wr (b+1)))))else(some (.inr (.inl ())))) FUEL 0).bind (Sum.elim (λ(_:Unit)=>some (.inr ())) some)
def f266_1r:Nat->Int->Int->Int->(List GNNote)->GNDesk->(List GNNote)->(List GNNote)->GNChoice->GChord->(List GGrip)->Bool->(List (List GPlace))->Int->(List Bool)->Option ((List Bool)⊕(GNChoice×GChord×List GGrip×List Bool))
 |0,_,_,_,_,_,_,_,_,_,_,_,_,_,_=>none
 |v+1,d,g,f,t,q,r,p,j,k,l,o,s,m,c=>bif (decide (d=f))then(bif (decide (0<g))then(some (.inl c))else((f349 t q r p j k l o s m f c).bind (Sum.elim (λb=>some (.inr ((⟨b.2.2.places,b.2.2.cut⟩:GNChoice),(⟨b.2.1.down,b.2.1.held,b.2.1.open_⟩:GChord),b.1,c))) λA=>some (.inl c))))else((loopN (σ:=(List Bool×Int)) (τ:=((List Bool)⊕((List Bool)⊕(GNChoice×GChord×List GGrip×List Bool)))) (λ((e,i):(List Bool×Int))=>bif (decide (i<2))then((((ix ([false,true]:List Bool) i).bind λn=>((bif n then(some (wr (g-1)))else(some g)):Option Int).bind λ(h:Int)=>((bif (decide (h<0))then(some true)else(some (decide ((wr ((wr (f-d))-1))<h)))):Option Bool).bind λ(y:Bool)=>bif y then(some (.inl e))else((ix e d).bind λz=>(f266_1r v (wr (d+1)) h f t q r p j k l o s m (e.set d.toNat n)).bind (Sum.elim (λw=>some (.inl w)) λa=>some (.inr (.inr (.inr (.inr ((⟨a.1.places,a.1.cut⟩:GNChoice),(⟨a.2.1.down,a.2.1.held,a.2.1.open_⟩:GChord),a.2.2.1,a.2.2.2)))))))):Option ((List Bool)⊕((List Bool×Int)⊕((List Bool)⊕((List Bool)⊕(GNChoice×GChord×List GGrip×List Bool)))))).bind (Sum.elim (λ(u:(List Bool))=>some (.inl (u,(wr (i+1))))) some))else(some (.inr (.inl e)))) FUEL (c,0)).bind (Sum.elim (λ(x:(List Bool))=>some (.inl x)) some))
def f266_1(h:Int)(g:Int)(b:Int)(m:List GNNote)(j:GNDesk)(n:List GNNote)(c:List GNNote)(l:GNChoice)(d:GChord)(f:List GGrip)(a:Bool)(e:List (List GPlace))(i:Int)(k:List Bool):Option ((List Bool)⊕(GNChoice×GChord×List GGrip×List Bool)):=f266_1r FUEL h g b m j n c l d f a e i k
def f265_1(k:List GNNote)(f:GNDesk)(j:List GNNote)(n:List GNNote)(o:GNChoice)(e:GChord)(h:List GGrip)(l:Bool)(i:List (List GPlace))(m:Int)(b:Int):Option ((List GGrip×GChord×GNChoice)⊕Unit):=need (0<=b)<|need (b<=(maxElems:Int))<|(loopN (σ:=(List Bool×Int)) (τ:=(Unit⊕((List GGrip×GChord×GNChoice)⊕Unit))) (λ((d,c):(List Bool×Int))=>bif (decide (c<=b))then((f266_1 0 c b k f j n o e h l i m d).bind (Sum.elim (λg=>some (.inl (g,(wr (c+1))))) λa=>some (.inr (.inr (.inl (a.2.2.1,(⟨a.2.1.down,a.2.1.held,a.2.1.open_⟩:GChord),(⟨a.1.places,a.1.cut⟩:GNChoice)))))))else(some (.inr (.inl ())))) FUEL ((List.replicate b.toNat (false:Bool)),0)).bind (Sum.elim (λ(_:Unit)=>some (.inr ())) some)
def f348(e:List GNNote)(b:GNDesk)(c:List GNNote)(l:List GNNote)(m:GNChoice)(f:GChord)(h:List GGrip)(j:Bool)(k:Int)(d:List Bool):Option (Unit⊕((List GGrip×GChord×GNChoice)⊕Unit)):=(f69 d false).bind λg=>bif (!g)then(some (.inl ()))else((f220 b.in_ e d b.shift).bind λi=>(f219 (c.length:Int)).bind λn=>(f265_1 e b c l m f h j i k (c.length:Int)).bind (Sum.elim (λa=>some (.inr (.inl (a.1,(⟨a.2.1.down,a.2.1.held,a.2.1.open_⟩:GChord),(⟨a.2.2.places,a.2.2.cut⟩:GNChoice))))) λo=>some (.inr (.inr ()))))
def f266r:Nat->Int->Int->Int->(List GNNote)->GNDesk->(List GNNote)->(List GNNote)->GNChoice->GChord->(List GGrip)->Bool->(List Bool)->Option ((List Bool)⊕((List Bool)⊕(GNChoice×GChord×List GGrip×List Bool)))
 |0,_,_,_,_,_,_,_,_,_,_,_,_=>none
 |s+1,d,g,f,r,p,q,o,j,k,l,n,c=>bif (decide (d=f))then(bif (decide (0<g))then(some (.inl c))else((f348 r p q o j k l n f c).bind (Sum.elim (λA=>some (.inr (.inl c))) (Sum.elim (λb=>some (.inr (.inr ((⟨b.2.2.places,b.2.2.cut⟩:GNChoice),(⟨b.2.1.down,b.2.1.held,b.2.1.open_⟩:GChord),b.1,c)))) λz=>some (.inl c)))))else((loopN (σ:=(List Bool×Int)) (τ:=((List Bool)⊕((List Bool)⊕((List Bool)⊕(GNChoice×GChord×List GGrip×List Bool))))) (λ((e,i):(List Bool×Int))=>bif (decide (i<2))then((((ix ([false,true]:List Bool) i).bind λm=>((bif m then(some (wr (g-1)))else(some g)):Option Int).bind λ(h:Int)=>((bif (decide (h<0))then(some true)else(some (decide ((wr ((wr (f-d))-1))<h)))):Option Bool).bind λ(x:Bool)=>bif x then(some (.inl e))else((ix e d).bind λy=>(f266r s (wr (d+1)) h f r p q o j k l n (e.set d.toNat m)).bind (Sum.elim (λt=>some (.inl t)) (Sum.elim (λv=>some (.inr (.inr (.inr (.inr (.inl v)))))) λa=>some (.inr (.inr (.inr (.inr (.inr ((⟨a.1.places,a.1.cut⟩:GNChoice),(⟨a.2.1.down,a.2.1.held,a.2.1.open_⟩:GChord),a.2.2.1,a.2.2.2)))))))))):Option ((List Bool)⊕((List Bool×Int)⊕((List Bool)⊕((List Bool)⊕((List Bool)⊕(GNChoice×GChord×List GGrip×List Bool))))))).bind (Sum.elim (λ(w:(List Bool))=>some (.inl (w,(wr (i+1))))) some))else(some (.inr (.inl e)))) FUEL (c,0)).bind (Sum.elim (λ(u:(List Bool))=>some (.inl u)) some))
def f266(g:Int)(f:Int)(b:Int)(k:List GNNote)(h:GNDesk)(l:List GNNote)(c:List GNNote)(j:GNChoice)(d:GChord)(e:List GGrip)(a:Bool)(i:List Bool):Option ((List Bool)⊕((List Bool)⊕(GNChoice×GChord×List GGrip×List Bool))):=f266r FUEL g f b k h l c j d e a i
def f265(j:List GNNote)(e:GNDesk)(i:List GNNote)(l:List GNNote)(m:GNChoice)(d:GChord)(g:List GGrip)(k:Bool)(b:Int):Option (Unit⊕((List GGrip×GChord×GNChoice)⊕Unit)):=need (0<=b)<|need (b<=(maxElems:Int))<|(loopN (σ:=(List Bool×Int)) (τ:=(Unit⊕(Unit⊕((List GGrip×GChord×GNChoice)⊕Unit)))) (λ((h,c):(List Bool×Int))=>bif (decide (c<=b))then((f266 0 c b j e i l m d g k h).bind (Sum.elim (λf=>some (.inl (f,(wr (c+1))))) (Sum.elim (λn=>some (.inr (.inr (.inl ())))) λa=>some (.inr (.inr (.inr (.inl (a.2.2.1,(⟨a.2.1.down,a.2.1.held,a.2.1.open_⟩:GChord),(⟨a.1.places,a.1.cut⟩:GNChoice)))))))))else(some (.inr (.inl ())))) FUEL ((List.replicate b.toNat (false:Bool)),0)).bind (Sum.elim (λ(_:Unit)=>some (.inr (.inr ()))) some)
def f218(f:GNDesk)(e:List GNNote)(c:GNChoice)(g:GChord)(d:List GGrip)(h:Bool)(b:List GNNote)(i:List GNNote):Option (Unit⊕(List GGrip×GChord×GNChoice)):=(f219 (b.length:Int)).bind λj=>(f265 b f i e c g d h (b.length:Int)).bind (Sum.elim (λl=>some (.inl ())) (Sum.elim (λa=>some (.inr (a.1,(⟨a.2.1.down,a.2.1.held,a.2.1.open_⟩:GChord),(⟨a.2.2.places,a.2.2.cut⟩:GNChoice)))) λk=>some (.inl ())))
def f98(d:GNDesk)(c:List GNNote)(b:List GNNote):Option (GNChoice×GChord×List GGrip×Bool):=(loopN (σ:=Unit) (τ:=(GNChoice×GChord×List GGrip×Bool)) (λ(_:Unit)=>(f159 d c b).bind λi=>(f218 d b (⟨([]:List GPlace),([]:List Bool)⟩:GNChoice) (⟨([]:List GPlace),([]:List Int),([]:List Int)⟩:GChord) ([]:List GGrip) false c b).bind (Sum.elim (λj=>some (.inr ((⟨([]:List GPlace),([]:List Bool)⟩:GNChoice),(⟨([]:List GPlace),([]:List Int),([]:List Int)⟩:GChord),([]:List GGrip),false))) λa=>some (.inr ((⟨a.2.2.places,a.2.2.cut⟩:GNChoice),(⟨a.2.1.down,a.2.1.held,a.2.1.open_⟩:GChord),a.1,true)))) FUEL ()).bind λ((h,g,e,f):(GNChoice×GChord×List GGrip×Bool))=>some (h,g,e,f)
def f163(a:GPlace):Option Int:=some a.course
def f162(a:List GPlace):Option ((List Int)):=need ((0:Int)<=(a.length:Int))<|need ((a.length:Int)<=(maxElems:Int))<|(loopN (σ:=(List Int×Int)) (τ:=(List Int)) (λ((b,c):(List Int×Int))=>bif (decide (c<(a.length:Int)))then((ix a c).bind λf=>(f163 f).bind λd=>need (b.length+1<=maxElems)<|some (.inl ((b++([d]:List Int)),(wr (c+1)))))else(some (.inr b))) FUEL (([]:List Int),0)).bind λ(e:(List Int))=>some e
def f99(a:GNDesk)(d:GSign)(c:Bool):Option (List GPlace×List Int×List Int×List GEvent×List GGrip):=((bif c then((f162 a.chord.down).bind λf=>some (⟨a.chord.down,f,a.chord.open_⟩:GChord))else(some (⟨([]:List GPlace),([]:List Int),([]:List Int)⟩:GChord))):Option GChord).bind λ(b:GChord)=>(f161 a b).bind λe=>need (a.piece.events.length<famCap)<|some (b.down,b.held,b.open_,(a.piece.events++[(⟨false,d,c,([]:List GStop)⟩:GEvent)]),e)
def f164(a:GStop)(d:List GNMember)(e:Int)(c:Int)(f:Int)(b:Int)(h:Int)(g:Int):Option Bool:=some (decide (a.course=b))
def f140(b:List GStop)(d:List GNMember)(k:Int)(f:Int)(i:Int)(e:Int)(j:Int)(c:Int):Option Int:=(loopN (σ:=Int) (τ:=(Unit⊕Int)) (λ(a:Int)=>bif (decide (a<(b.length:Int)))then((ix b a).bind λg=>(f164 g d k f i e j c).bind λh=>bif h then(some (.inr (.inr a)))else(some (.inl (wr (a+1)))))else(some (.inr (.inl ())))) FUEL 0).bind (Sum.elim (λ(_:Unit)=>some (-1)) some)
def f166(c:GStop)(b:GStop):Option Int:=(f104 c.course b.course).bind λa=>some a
def f165(a:List GStop):Option (List GStop):=sortF f166 a
def f100(l:GNDesk)(s:GNChoice)(p:List GNNote)(r:List GNNote)(I:GSign):Option (List GStop×List GNNote×List GNNote×List GEvent×List GNNote):=(loopN (σ:=(List GEvent×List GNNote×List GNNote×Int)) (τ:=(List GEvent×List GNNote×List GNNote)) (λ((h,f,i,j):(List GEvent×List GNNote×List GNNote×Int))=>bif (decide (j<(r.length:Int)))then((((ix r j).bind λa=>(ix s.cut j).bind λD=>bif D then(need (i.length+1<=maxElems)<|some (h,f,(i++([a]:List GNNote))))else(need (f.length+1<=maxElems)<|bif (decide (0<a.place.fret))then((ix h a.event).bind λd=>need (a.event.toNat<famCap)<|(f140 d.stops a.members a.pitch a.from_ a.to_ a.place.course a.place.fret a.event).bind λq=>(ix d.stops q).bind λm=>some ((h.set a.event.toNat (⟨d.bar,d.sign,d.tie,(d.stops.set q.toNat (⟨m.course,m.fret,m.right,m.grace,(wr ((l.piece.events.length:Int)-a.event))⟩:GStop))⟩:GEvent)),(f++([a]:List GNNote)),i))else(some (h,(f++([a]:List GNNote)),i)))):Option (List GEvent×List GNNote×List GNNote)).bind λ((w,C,A):(List GEvent×List GNNote×List GNNote))=>some (.inl (w,C,A,(wr (j+1)))))else(some (.inr (h,f,i)))) FUEL (l.piece.events,([]:List GNNote),([]:List GNNote),0)).bind λ((E,H,F):(List GEvent×List GNNote×List GNNote))=>(loopN (σ:=(List GNNote×List GStop×List GNNote×List GNNote×Int)) (τ:=(List GStop×List GNNote×List GNNote×List GNNote)) (λ((k,n,g,o,c):(List GNNote×List GStop×List GNNote×List GNNote×Int))=>bif (decide (c<(p.length:Int)))then((((ix o 0).bind λb=>need (g.length<famCap)<|need (0<=c/\c<(p.length:Int))<|need (c.toNat=g.length/\c.toNat<=famCap)<|(ix s.places c).bind λe=>bif (decide (0<e.course))then(need (k.length+1<=maxElems)<|need (n.length+1<=maxElems)<|some ((k++([(⟨b.members,b.pitch,b.from_,b.to_,e,(l.piece.events.length:Int)⟩:GNNote)]:List GNNote)),(n++([(⟨e.course,e.fret,0,0,0⟩:GStop)]:List GStop)),(g++[(⟨b.members,b.pitch,b.from_,b.to_,e,(l.piece.events.length:Int)⟩:GNNote)])))else(some (k,n,(g++[(⟨b.members,b.pitch,b.from_,b.to_,e,b.event⟩:GNNote)])))):Option (List GNNote×List GStop×List GNNote)).bind λ((x,z,y):(List GNNote×List GStop×List GNNote))=>some (.inl (x,z,y,(o.drop 1),(wr (c+1)))))else(some (.inr (n,g,o,k)))) FUEL (H,([]:List GStop),([]:List GNNote),p,0)).bind λ((t,B,G,v):(List GStop×List GNNote×List GNNote×List GNNote))=>(f165 t).bind λu=>need (u.length=t.length)<|need (G=[])<|some (u,F,B,E,v)
def f48(a:GNDesk)(C:List (List GTone))(u:Int)(c:List GSign):Option (List GNNote×List GNNote×List GPlace×List Int×List Int×List GEvent×List GNNote×List GGrip):=(f96 C u).bind λe=>(f97 a u).bind λi=>(f98 a e i).bind λd=>bif (!d.2.2.2)then((loopN (σ:=(List GPlace×List Int×List Int×List GEvent×List GGrip×Int)) (τ:=(List GPlace×List Int×List Int×List GEvent×List GGrip)) (λ((n,o,m,v,r,k):(List GPlace×List Int×List Int×List GEvent×List GGrip×Int))=>bif (decide (k<(c.length:Int)))then((ix c k).bind λH=>(f99 (⟨(⟨n,o,m⟩:GChord),a.in_,a.h,a.shift,(⟨a.piece.instrument,v⟩:GPiece),a.live,r⟩:GNDesk) H (decide (0<(i.length:Int)))).bind λf=>some (.inl (f.1,f.2.1,f.2.2.1,f.2.2.2.1,f.2.2.2.2,(wr (k+1)))))else(some (.inr (n,o,m,v,r)))) FUEL (a.chord.down,a.chord.held,a.chord.open_,a.piece.events,a.possible,0)).bind λ((x,A,I,J,D):(List GPlace×List Int×List Int×List GEvent×List GGrip))=>need (e.length<=famCap)<|some (e,([]:List GNNote),x,A,I,J,i,D))else((ix c 0).bind λl=>(f100 a (⟨d.1.places,d.1.cut⟩:GNChoice) e i l).bind λb=>need (b.2.2.1.length=e.length)<|need (b.2.2.2.1.length<famCap)<|need (1<=c.length)<|(loopN (σ:=(List GPlace×List Int×List Int×List GEvent×List GGrip×Int)) (τ:=(List GPlace×List Int×List Int×List GEvent×List GGrip)) (λ((t,s,q,w,p,j):(List GPlace×List Int×List Int×List GEvent×List GGrip×Int))=>bif (decide (j<(((c.take c.length).drop 1).length:Int)))then((ix ((c.take c.length).drop 1) j).bind λG=>(f99 (⟨(⟨t,s,q⟩:GChord),a.in_,a.h,a.shift,(⟨a.piece.instrument,w⟩:GPiece),b.2.2.2.2,p⟩:GNDesk) G true).bind λg=>some (.inl (g.1,g.2.1,g.2.2.1,g.2.2.2.1,g.2.2.2.2,(wr (j+1)))))else(some (.inr (t,s,q,w,p)))) FUEL (d.2.1.down,d.2.1.held,d.2.1.open_,(b.2.2.2.1++[(⟨false,l,false,b.1⟩:GEvent)]),d.2.2.1,0)).bind λ((E,z,B,F,y):(List GPlace×List Int×List Int×List GEvent×List GGrip))=>some (b.2.2.1,b.2.1,E,z,B,F,b.2.2.2.2,y))
def f49(s:GSetting)(y:List (List GTone))(r:List GNNote)(m:List GNNote)(h:Int):Option (List (List GPlace)×List GLoss):=(loopN (σ:=(List (List GPlace)×List GLoss×Int)) (τ:=(List (List GPlace)×List GLoss)) (λ((p,o,l):(List (List GPlace)×List GLoss×Int))=>bif (decide (l<(r.length:Int)))then((ix r l).bind λc=>(loopN (σ:=(List (List GPlace)×List GLoss×Int)) (τ:=(List (List GPlace)×List GLoss)) (λ((d,b,i):(List (List GPlace)×List GLoss×Int))=>bif (decide (i<(c.members.length:Int)))then((((ix c.members i).bind λa=>(ix d a.part).bind λe=>need (a.part.toNat<famCap)<|(ix e a.tone).bind λF=>bif (decide (c.place.course=0))then(need (b.length+1<=maxElems)<|some ((d.set a.part.toNat (e.set a.tone.toNat c.place)),(b++([(⟨a.part,a.tone,1,h⟩:GLoss)]:List GLoss))))else(bif (decide (0<i))then(need (b.length+1<=maxElems)<|some ((d.set a.part.toNat (e.set a.tone.toNat c.place)),(b++([(⟨a.part,a.tone,2,h⟩:GLoss)]:List GLoss))))else(some ((d.set a.part.toNat (e.set a.tone.toNat c.place)),b)))):Option (List (List GPlace)×List GLoss)).bind λ((E,x):(List (List GPlace)×List GLoss))=>some (.inl (E,x,(wr (i+1)))))else(some (.inr (d,b)))) FUEL (p,o,0)).bind λ((z,A):(List (List GPlace)×List GLoss))=>some (.inl (z,A,(wr (l+1)))))else(some (.inr (p,o)))) FUEL (s.where_,s.losses,0)).bind λ((D,C):(List (List GPlace)×List GLoss))=>(loopN (σ:=(List GLoss×Int)) (τ:=(List GLoss)) (λ((n,j):(List GLoss×Int))=>bif (decide (j<(m.length:Int)))then((ix m j).bind λq=>(loopN (σ:=(List GLoss×Int)) (τ:=(List GLoss)) (λ((f,k):(List GLoss×Int))=>bif (decide (k<(q.members.length:Int)))then((((ix q.members k).bind λg=>(ix y g.part).bind λv=>(ix v g.tone).bind λu=>bif (decide (h<u.to_))then(need (f.length+1<=maxElems)<|some (f++([(⟨g.part,g.tone,3,h⟩:GLoss)]:List GLoss)))else(some f)):Option (List GLoss)).bind λ(w:(List GLoss))=>some (.inl (w,(wr (k+1)))))else(some (.inr f))) FUEL (n,0)).bind λ(B:(List GLoss))=>some (.inl (B,(wr (j+1)))))else(some (.inr n))) FUEL (C,0)).bind λ(t:(List GLoss))=>some (D,t)
def f51(b:GLoss)(a:GLoss):Option Int:=(f104 b.part a.part).bind λc=>(f104 b.tone a.tone).bind λf=>(f104 b.kind a.kind).bind λe=>(f103 ([c,f,e]:List Int)).bind λd=>some d
def f50(a:List GLoss):Option (List GLoss):=sortF f51 a
def f11(b:List (List GTone))(k:GInstrument)(B:GHand)(d:Int):Option (GSetting×Int):=(f38 b k).bind λu=>bif (decide (u≠0))then(some ((⟨(⟨(⟨([]:List GCourse),([]:List Int)⟩:GInstrument),([]:List GEvent)⟩:GPiece),0,([]:List (List GPlace)),([]:List GLoss)⟩:GSetting),u))else((f39 B).bind λs=>bif (decide (s≠0))then(some ((⟨(⟨(⟨([]:List GCourse),([]:List Int)⟩:GInstrument),([]:List GEvent)⟩:GPiece),0,([]:List (List GPlace)),([]:List GLoss)⟩:GSetting),s))else((f40 d (-24) 24).bind λK=>bif (!K)then(some ((⟨(⟨(⟨([]:List GCourse),([]:List Int)⟩:GInstrument),([]:List GEvent)⟩:GPiece),0,([]:List (List GPlace)),([]:List GLoss)⟩:GSetting),1))else((f41 b).bind λf=>(loopN (σ:=(List (List GSign)×Int)) (τ:=((List (List GSign))⊕(GSetting×Int))) (λ((m,c):(List (List GSign)×Int))=>bif (decide (c<(wr ((f.length:Int)-1))))then((ix f (wr (c+1))).bind λG=>(ix f c).bind λJ=>(f42 (wr (G-J))).bind λy=>bif (decide (y.2≠0))then(some (.inr (.inr ((⟨(⟨(⟨([]:List GCourse),([]:List Int)⟩:GInstrument),([]:List GEvent)⟩:GPiece),0,([]:List (List GPlace)),([]:List GLoss)⟩:GSetting),25))))else(need (m.length+1<=maxElems)<|some (.inl ((m++([y.1]:List (List GSign))),(wr (c+1))))))else(some (.inr (.inl m)))) FUEL (([]:List (List GSign)),0)).bind (Sum.elim (λ(g:(List (List GSign)))=>(f43 g).bind λL=>bif (decide (400<(L.length:Int)))then(some ((⟨(⟨(⟨([]:List GCourse),([]:List Int)⟩:GInstrument),([]:List GEvent)⟩:GPiece),0,([]:List (List GPlace)),([]:List GLoss)⟩:GSetting),2))else((f44 k.courses).bind λn=>(f45 k.steps).bind λi=>(f46 b).bind λH=>(loopN (σ:=(List GPlace×List Int×List Int×List GEvent×List GNNote×List GGrip×List GCourse×List Int×List GEvent×List (List GPlace)×List GLoss×Int)) (τ:=(List GPlace×List Int×List Int×List GEvent×List GNNote×List GGrip×List GCourse×List Int×List GEvent×List (List GPlace)×List GLoss)) (λ((r,x,D,v,o,p,l,j,h,E,w,e):(List GPlace×List Int×List Int×List GEvent×List GNNote×List GGrip×List GCourse×List Int×List GEvent×List (List GPlace)×List GLoss×Int))=>bif (decide (e<(g.length:Int)))then((ix g e).bind λI=>(ix f e).bind λF=>(f48 (⟨(⟨r,x,D⟩:GChord),(⟨n,i⟩:GInstrument),B,d,(⟨(⟨n,i⟩:GInstrument),v⟩:GPiece),o,p⟩:GNDesk) b F I).bind λa=>(f49 (⟨(⟨(⟨l,j⟩:GInstrument),h⟩:GPiece),d,E,w⟩:GSetting) b a.1 a.2.1 F).bind λA=>some (.inl (a.2.2.1,a.2.2.2.1,a.2.2.2.2.1,a.2.2.2.2.2.1,a.2.2.2.2.2.2.1,a.2.2.2.2.2.2.2,l,j,h,A.1,A.2,(wr (e+1)))))else(some (.inr (r,x,D,v,o,p,l,j,h,E,w)))) FUEL (([]:List GPlace),([]:List Int),([]:List Int),([]:List GEvent),([]:List GNNote),([]:List GGrip),([]:List GCourse),([]:List Int),([]:List GEvent),H,([]:List GLoss),0)).bind λ((N,S,O,q,P,R,T,M,Q,z,t):(List GPlace×List Int×List Int×List GEvent×List GNNote×List GGrip×List GCourse×List Int×List GEvent×List (List GPlace)×List GLoss))=>(f50 t).bind λC=>need (q.length<=famCap)<|need (z.length<=famCap)<|need (C.length=t.length)<|some ((⟨(⟨(⟨n,i⟩:GInstrument),q⟩:GPiece),d,z,C⟩:GSetting),0))) some))))
def f10:Option Bool:=(f36).bind λd=>(f37).bind λg=>(f11 ([([(⟨67,0,192⟩:GTone)]:List GTone),([(⟨67,0,96⟩:GTone),(⟨60,96,192⟩:GTone)]:List GTone)]:List (List GTone)) d g 0).bind λa=>((bif (decide (a.2≠0))then(some true)else(bif (decide ((a.1.losses.length:Int)≠1))then(some true)else((ix a.1.losses 0).bind λf=>bif (!(eq_GLoss f (⟨1,0,2,0⟩:GLoss)))then(some true)else(some (decide ((a.1.piece.events.length:Int)≠2)))))):Option Bool).bind λ(e:Bool)=>bif e then(some false)else((ix a.1.piece.events 1).bind λb=>((bif (decide ((b.stops.length:Int)=1))then((ix b.stops 0).bind λc=>bif (decide (c.course=3))then(some (decide (c.fret=3)))else(some false))else(some false)):Option Bool).bind λ(h:Bool)=>some h)
def f61(f:List (List GTone))(l:GInstrument)(h:Int):Option Int:=(loopN (σ:=(Int×Int)) (τ:=Int) (λ((d,c):(Int×Int))=>bif (decide (c<(f.length:Int)))then((ix f c).bind λg=>(loopN (σ:=(Int×Int)) (τ:=Int) (λ((b,a):(Int×Int))=>bif (decide (a<(g.length:Int)))then((((ix g a).bind λm=>(f124 l (wr (m.pitch+h))).bind λe=>((bif (decide (e.2≠0))then(some true)else(some (decide ((e.1.length:Int)=0)))):Option Bool).bind λ(k:Bool)=>bif k then(some (wr (b+1)))else(some b)):Option Int).bind λ(j:Int)=>some (.inl (j,(wr (a+1)))))else(some (.inr b))) FUEL (d,0)).bind λ(n:Int)=>some (.inl (n,(wr (c+1)))))else(some (.inr d))) FUEL (0,0)).bind λ(i:Int)=>some i
def f17(d:List (List GTone))(c:GInstrument)(a:Int):Option (Int×Int):=(f38 d c).bind λb=>bif (decide (b≠0))then(some (0,b))else((f40 a (-24) 24).bind λf=>bif (!f)then(some (0,1))else((f61 d c a).bind λe=>some (e,0)))
def f4(h:List GTone)(c:GInstrument)(a:GHand):Option Bool:=(((f14 (⟨a.low,a.high,a.barre,a.top,a.top,a.shift,a.lift,a.bar,a.stretch,a.slide⟩:GHand)).bind λs=>bif (decide (s≠0))then(some true)else((f15 c).bind λq=>bif (decide (q≠0))then(some true)else((f9 (⟨([h]:List (List GTone)),c,(⟨a.low,a.high,a.barre,a.top,a.top,a.shift,a.lift,a.bar,a.stretch,a.slide⟩:GHand),0⟩:GLaw08Job)).bind λu=>some u))):Option Bool).bind λ(p:Bool)=>bif p then((f10).bind λy=>some y)else((f11 ([h]:List (List GTone)) c (⟨a.low,a.high,a.barre,a.top,a.top,a.shift,a.lift,a.bar,a.stretch,a.slide⟩:GHand) 0).bind λb=>bif (decide (b.2≠0))then((f10).bind λl=>some l)else((loopN (σ:=(Bool×Int)) (τ:=Bool) (λ((i,e):(Bool×Int))=>bif (decide (e<(c.courses.length:Int)))then((ix c.courses e).bind λo=>(loopN (σ:=(Bool×Int)) (τ:=Bool) (λ((k,f):(Bool×Int))=>bif (decide (f<=o.frets))then((f16 (⟨a.low,a.high,a.barre,a.top,a.top,a.shift,a.lift,a.bar,a.stretch,a.slide⟩:GHand) (⟨([(⟨(wr (e+1)),f⟩:GPlace)]:List GPlace),([]:List Int),([]:List Int)⟩:GChord)).bind λj=>((bif k then(bif (decide (j.2=0))then(some (decide (0<(j.1.length:Int))))else(some false))else(some false)):Option Bool).bind λ(n:Bool)=>some (.inl (n,(wr (f+1)))))else(some (.inr k))) FUEL (i,1)).bind λ(w:Bool)=>some (.inl (w,(wr (e+1)))))else(some (.inr i))) FUEL (true,0)).bind λ(t:Bool)=>(loopN (σ:=Int) (τ:=(Unit⊕Bool)) (λ(g:Int)=>bif (decide (g<(b.1.losses.length:Int)))then((ix b.1.losses g).bind λr=>bif (decide (r.kind≠1))then(some (.inr (.inr false)))else(some (.inl (wr (g+1)))))else(some (.inr (.inl ())))) FUEL 0).bind (Sum.elim (λ(_:Unit)=>(f17 ([h]:List (List GTone)) c 0).bind λd=>((bif (decide (d.2=0))then(bif (!t)then(bif (decide (d.1<=(b.1.losses.length:Int)))then((f10).bind λx=>some x)else(some false))else(bif (decide ((b.1.losses.length:Int)=d.1))then(bif (decide (d.1<=(b.1.losses.length:Int)))then((f10).bind λm=>some m)else(some false))else(some false)))else(some false)):Option Bool).bind λ(v:Bool)=>some v) some)))
end
end Go.Proofs.YtpbahncblggodaaGreat
