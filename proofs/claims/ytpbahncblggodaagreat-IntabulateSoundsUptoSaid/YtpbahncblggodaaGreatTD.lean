/- Functions of the program as Lean functions, and the walks. -/
import Derived.Test.YtpbahncblggodaaGreatAmH
import Derived.Test.YtpbahncblggodaaGreatChecked
import Derived.Test.YtpbahncblggodaaGreatSg
import Derived.Test.YtpbahncblggodaaGreatSo
import Derived.Test.YtpbahncblggodaaGreatLsf
import Derived.Test.YtpbahncblggodaaGreatTm
namespace Go.Proofs.YtpbahncblggodaaGreat
open Go Go.Am
set_option maxRecDepth 100000
set_option linter.all false
structure bV where
 bW:Int
 bX:Int
 dr:Int
 deriving DecidableEq
def mO(x:bV):AV:=.agg [.i x.bW,.i x.bX,.i x.dr]
theorem yZ(x:bV):(mO x).dv=true:=(gz rfl (gz rfl (gz rfl zD)))
structure cK where
 bW:Int
 dz:Int
 ja:Bool
 deriving DecidableEq
def ju(x:cK):AV:=.agg [.i x.bW,.i x.dz,.bool x.ja]
theorem kV(x:cK):(ju x).dv=true:=(gz rfl (gz rfl (gz rfl zD)))
structure bK where
 cj:(List cK)
 bN:(List Int)
 deriving DecidableEq
def np(x:bK):AV:=.agg [.sl false (x.cj.map ju),.sl false (x.bN.map AV.i)]
theorem za(x:bK):(np x).dv=true:=(gz (dE _ _ kV) (gz (dE _ _ tl) zD))
structure ee where
 low:(List Int)
 high:(List Int)
 fV:(List Bool)
 top:Int
 jump:Int
 shift:Int
 lift:Int
 k8:Int
 ey:Int
 gw:Int
 deriving DecidableEq
def Cx(x:ee):AV:=.agg [.sl false (x.low.map AV.i),.sl false (x.high.map AV.i),.sl false (x.fV.map AV.bool),.i x.top,.i x.jump,.i x.shift,.i x.lift,.i x.k8,.i x.ey,.i x.gw]
theorem Nn(x:ee):(Cx x).dv=true:=(gz (dE _ _ tl) (gz (dE _ _ tl) (gz (dE _ _ wF) (gz rfl (gz rfl (gz rfl (gz rfl (gz rfl (gz rfl (gz rfl zD))))))))))
structure fY where
 cu:(List (List bV))
 instrument:bK
 hand:ee
 shift:Int
 deriving DecidableEq
def mP(x:fY):AV:=.agg [.sl false (x.cu.map (SL mO)),.sl false (x.instrument.cj.map ju),.sl false (x.instrument.bN.map AV.i),.sl false (x.hand.low.map AV.i),.sl false (x.hand.high.map AV.i),.sl false (x.hand.fV.map AV.bool),.i x.hand.top,.i x.hand.jump,.i x.hand.shift,.i x.hand.lift,.i x.hand.k8,.i x.hand.ey,.i x.hand.gw,.i x.shift]
theorem CA(x:fY):(mP x).dv=true:=(gz (dE _ _ (Dh yZ)) (gz (dE _ _ kV) (gz (dE _ _ tl) (gz (dE _ _ tl) (gz (dE _ _ tl) (gz (dE _ _ wF) (gz rfl (gz rfl (gz rfl (gz rfl (gz rfl (gz rfl (gz rfl (gz rfl zD))))))))))))))
structure bn where
 bc:Int
 ct:Int
 deriving DecidableEq
def iy(x:bn):AV:=.agg [.i x.bc,.i x.ct]
theorem nZ(x:bn):(iy x).dv=true:=(gz rfl (gz rfl zD))
def gK(x y:bn):Bool:=((decide (x.bc=y.bc))&&((decide (x.ct=y.ct))&&true))
structure dH where
 qo:Int
 alter:Int
 ja:Int
 deriving DecidableEq
def pj(x:dH):AV:=.agg [.i x.qo,.i x.alter,.i x.ja]
theorem vm(x:dH):(pj x).dv=true:=(gz rfl (gz rfl (gz rfl zD)))
structure cI where
 value:Int
 dot:Bool
 three:Bool
 deriving DecidableEq
def qV(x:cI):AV:=.agg [.i x.value,.bool x.dot,.bool x.three]
theorem Ep(x:cI):(qV x).dv=true:=(gz rfl (gz rfl (gz rfl zD)))
def nV(x y:cI):Bool:=((decide (x.value=y.value))&&((x.dot==y.dot)&&((x.three==y.three)&&true)))
structure cT where
 bc:Int
 ct:Int
 right:Int
 jx:Int
 hold:Int
 deriving DecidableEq
def mS(x:cT):AV:=.agg [.i x.bc,.i x.ct,.i x.right,.i x.jx,.i x.hold]
theorem Er(x:cT):(mS x).dv=true:=(gz rfl (gz rfl (gz rfl (gz rfl (gz rfl zD)))))
structure cg where
 k8:Bool
 sign:cI
 tie:Bool
 cZ:(List cT)
 deriving DecidableEq
def lx(x:cg):AV:=.agg [.bool x.k8,.i x.sign.value,.bool x.sign.dot,.bool x.sign.three,.bool x.tie,.sl false (x.cZ.map mS)]
theorem qW(x:cg):(lx x).dv=true:=(gz rfl (gz rfl (gz rfl (gz rfl (gz rfl (gz (dE _ _ Er) zD))))))
structure dL where
 instrument:bK
 bG:(List cg)
 deriving DecidableEq
def Es(x:dL):AV:=.agg [.sl false (x.instrument.cj.map ju),.sl false (x.instrument.bN.map AV.i),.sl false (x.bG.map lx)]
theorem JK(x:dL):(Es x).dv=true:=(gz (dE _ _ kV) (gz (dE _ _ tl) (gz (dE _ _ qW) zD)))
structure cQ where
 part:Int
 eK:Int
 kind:Int
 time:Int
 deriving DecidableEq
def ur(x:cQ):AV:=.agg [.i x.part,.i x.eK,.i x.kind,.i x.time]
theorem Et(x:cQ):(ur x).dv=true:=(gz rfl (gz rfl (gz rfl (gz rfl zD))))
def Np(x y:cQ):Bool:=((decide (x.part=y.part))&&((decide (x.eK=y.eK))&&((decide (x.kind=y.kind))&&((decide (x.time=y.time))&&true))))
structure dR where
 bM:dL
 shift:Int
 dp:(List (List bn))
 cX:(List cQ)
 deriving DecidableEq
def zb(x:dR):AV:=.agg [.sl false (x.bM.instrument.cj.map ju),.sl false (x.bM.instrument.bN.map AV.i),.sl false (x.bM.bG.map lx),.i x.shift,.sl false (x.dp.map (SL iy)),.sl false (x.cX.map ur)]
theorem Eu(x:dR):(zb x).dv=true:=(gz (dE _ _ kV) (gz (dE _ _ tl) (gz (dE _ _ qW) (gz rfl (gz (dE _ _ (Dh nZ)) (gz (dE _ _ Et) zD))))))
structure bR where
 cD:(List bn)
 held:(List Int)
 db:(List Int)
 deriving DecidableEq
def Ev(x:bR):AV:=.agg [.sl false (x.cD.map iy),.sl false (x.held.map AV.i),.sl false (x.db.map AV.i)]
theorem JL(x:bR):(Ev x).dv=true:=(gz (dE _ _ nZ) (gz (dE _ _ tl) (gz (dE _ _ tl) zD)))
structure b8 where
 part:Int
 eK:Int
 deriving DecidableEq
def gU(x:b8):AV:=.agg [.i x.part,.i x.eK]
theorem vR(x:b8):(gU x).dv=true:=(gz rfl (gz rfl zD))
structure bF where
 bO:(List b8)
 bW:Int
 bX:Int
 dr:Int
 bP:bn
 cW:Int
 deriving DecidableEq
def Ew(x:bF):AV:=.agg [.sl false (x.bO.map gU),.i x.bW,.i x.bX,.i x.dr,.i x.bP.bc,.i x.bP.ct,.i x.cW]
theorem JM(x:bF):(Ew x).dv=true:=(gz (dE _ _ vR) (gz rfl (gz rfl (gz rfl (gz rfl (gz rfl (gz rfl zD)))))))
structure cp where
 pos:Int
 dg:(List Int)
 deriving DecidableEq
def Im(x:cp):AV:=.agg [.i x.pos,.sl false (x.dg.map AV.i)]
theorem Nq(x:cp):(Im x).dv=true:=(gz rfl (gz (dE _ _ tl) zD))
structure cM where
 dw:bR
 ka:bK
 h:ee
 shift:Int
 bM:dL
 cV:(List bF)
 eY:(List cp)
 deriving DecidableEq
structure bU where
 places:(List bn)
 cut:(List Bool)
 deriving DecidableEq
def zd(x:bU):AV:=.agg [.sl false (x.places.map iy),.sl false (x.cut.map AV.bool)]
theorem Ex(x:bU):(zd x).dv=true:=(gz (dE _ _ nZ) (gz (dE _ _ wF) zD))
structure fL where
 p:dL
 vn:(List Int)
 deriving DecidableEq
def uu(x:fL):AV:=.agg [.sl false (x.p.instrument.cj.map ju),.sl false (x.p.instrument.bN.map AV.i),.sl false (x.p.bG.map lx),.sl false (x.vn.map AV.i)]
theorem zV(x:fL):(uu x).dv=true:=(gz (dE _ _ kV) (gz (dE _ _ tl) (gz (dE _ _ qW) (gz (dE _ _ tl) zD))))
structure eg where
 cW:Int
 bc:Int
 bW:Int
 bX:Int
 dr:Int
 deriving DecidableEq
def Io(x:eg):AV:=.agg [.i x.cW,.i x.bc,.i x.bW,.i x.bX,.i x.dr]
theorem Nr(x:eg):(Io x).dv=true:=(gz rfl (gz rfl (gz rfl (gz rfl (gz rfl zD)))))
structure gR where
 cW:Int
 bc:Int
 ct:Int
 bX:Int
 dr:Int
 deriving DecidableEq
def AZ(x:gR):AV:=.agg [.i x.cW,.i x.bc,.i x.ct,.i x.bX,.i x.dr]
theorem Gz(x:gR):(AZ x).dv=true:=(gz rfl (gz rfl (gz rfl (gz rfl (gz rfl zD)))))
structure eF where
 cu:(List (List bV))
 s:dR
 notes:(List eg)
 jN:(List Bool)
 deriving DecidableEq
def TS:Nat->Type
 |0=>bV
 |1=>cK
 |2=>Int
 |3=>bK
 |4=>Bool
 |5=>ee
 |6=>(List bV)
 |7=>fY
 |8=>bn
 |9=>ByteArray
 |10=>dH
 |11=>cI
 |12=>(List cI)
 |13=>(List bn)
 |14=>cQ
 |15=>cT
 |16=>cg
 |17=>b8
 |18=>bF
 |19=>cp
 |20=>bU
 |21=>bR
 |22=>dR
 |23=>dL
 |24=>fL
 |25=>eg
 |26=>gR
 |_+27=>Unit
def TE:(c:Nat)->TS c->AV
 |0,x=>mO x
 |1,x=>ju x
 |2,x=>AV.i x
 |3,x=>np x
 |4,x=>AV.bool x
 |5,x=>Cx x
 |6,x=>(SL mO) x
 |7,x=>mP x
 |8,x=>iy x
 |9,x=>AV.str x
 |10,x=>pj x
 |11,x=>qV x
 |12,x=>(SL qV) x
 |13,x=>(SL iy) x
 |14,x=>ur x
 |15,x=>mS x
 |16,x=>lx x
 |17,x=>gU x
 |18,x=>(λ(x:bF)=>AV.ip [.sl false (x.bO.map gU),.i x.bW,.i x.bX,.i x.dr,.i x.bP.bc,.i x.bP.ct,.i x.cW]) x
 |19,x=>Im x
 |20,x=>zd x
 |21,x=>Ev x
 |22,x=>zb x
 |23,x=>Es x
 |24,x=>uu x
 |25,x=>Io x
 |26,x=>AZ x
 |_+27,_=>.ij
def TX:(c:Nat)->TS c->TV TS
 |0,(x:bV)=>.agg [.n x.bW,.n x.bX,.n x.dr]
 |1,(x:cK)=>.agg [.n x.bW,.n x.dz,.b x.ja]
 |2,(x:Int)=>.n x
 |3,(x:bK)=>.agg [.l false 1 x.cj,.l false 2 x.bN]
 |4,(x:Bool)=>.b x
 |5,(x:ee)=>.agg [.l false 2 x.low,.l false 2 x.high,.l false 4 x.fV,.n x.top,.n x.jump,.n x.shift,.n x.lift,.n x.k8,.n x.ey,.n x.gw]
 |6,(x:(List bV))=>.l false 0 x
 |7,(x:fY)=>.agg [.l false 6 x.cu,.l false 1 x.instrument.cj,.l false 2 x.instrument.bN,.l false 2 x.hand.low,.l false 2 x.hand.high,.l false 4 x.hand.fV,.n x.hand.top,.n x.hand.jump,.n x.hand.shift,.n x.hand.lift,.n x.hand.k8,.n x.hand.ey,.n x.hand.gw,.n x.shift]
 |8,(x:bn)=>.agg [.n x.bc,.n x.ct]
 |9,(x:ByteArray)=>.z x
 |10,(x:dH)=>.agg [.n x.qo,.n x.alter,.n x.ja]
 |11,(x:cI)=>.agg [.n x.value,.b x.dot,.b x.three]
 |12,(x:(List cI))=>.l false 11 x
 |13,(x:(List bn))=>.l false 8 x
 |14,(x:cQ)=>.agg [.n x.part,.n x.eK,.n x.kind,.n x.time]
 |15,(x:cT)=>.agg [.n x.bc,.n x.ct,.n x.right,.n x.jx,.n x.hold]
 |16,(x:cg)=>.agg [.b x.k8,.n x.sign.value,.b x.sign.dot,.b x.sign.three,.b x.tie,.l false 15 x.cZ]
 |17,(x:b8)=>.agg [.n x.part,.n x.eK]
 |18,(x:bF)=>.ip [.l false 17 x.bO,.n x.bW,.n x.bX,.n x.dr,.n x.bP.bc,.n x.bP.ct,.n x.cW]
 |19,(x:cp)=>.agg [.n x.pos,.l false 2 x.dg]
 |20,(x:bU)=>.agg [.l false 8 x.places,.l false 4 x.cut]
 |21,(x:bR)=>.agg [.l false 8 x.cD,.l false 2 x.held,.l false 2 x.db]
 |22,(x:dR)=>.agg [.l false 1 x.bM.instrument.cj,.l false 2 x.bM.instrument.bN,.l false 16 x.bM.bG,.n x.shift,.l false 13 x.dp,.l false 14 x.cX]
 |23,(x:dL)=>.agg [.l false 1 x.instrument.cj,.l false 2 x.instrument.bN,.l false 16 x.bG]
 |24,(x:fL)=>.agg [.l false 1 x.p.instrument.cj,.l false 2 x.p.instrument.bN,.l false 16 x.p.bG,.l false 2 x.vn]
 |25,(x:eg)=>.agg [.n x.cW,.n x.bc,.n x.bW,.n x.bX,.n x.dr]
 |26,(x:gR)=>.agg [.n x.cW,.n x.bc,.n x.ct,.n x.bX,.n x.dr]
 |_+27,_=>.a .ij
def gI:TV TS->Option Int
 |.i _ n=>some n
 |.a (.int _ n)=>some n
 |.v d x=>match TX d x with
  |.i _ n=>some n
  |_=>none
 |_=>none
def gB:TV TS->Option Bool
 |.b t=>some t
 |.a (.bool t)=>some t
 |.v d x=>match TX d x with
  |.b t=>some t
  |_=>none
 |_=>none
def gZ:TV TS->Option ByteArray
 |.z t=>some t
 |.a (.str t)=>some t
 |_=>none
def gV(d c:Nat)(x:TS d):Option (TS c):=if h:d=c then some (h ▸ x)else none
def gLx(d c:Nat)(x:List (TS d)):Option (List (TS c)):=if h:d=c then some (h ▸ x)else none
def gL(c:Nat):TV TS->Option (List (TS c))
 |.l _ d x=>gLx d c x
 |.a (.sl _ [])=>some []
 |.v d x=>match TX d x with
  |.l _ d x=>gLx d c x
  |_=>none
 |_=>none
def TD:(c:Nat)->TV TS->Option (TS c)
 |0,.a (.agg [x0,x1,x2])=>(gI (.a x0)).bind λx0=>(gI (.a x1)).bind λx1=>(gI (.a x2)).bind λx2=>some ⟨x0,x1,x2⟩
 |0,.v d x=>gV d 0 x
 |0,.agg [x0,x1,x2]=>(gI x0).bind λx0=>(gI x1).bind λx1=>(gI x2).bind λx2=>some ⟨x0,x1,x2⟩
 |1,.a (.agg [x0,x1,x2])=>(gI (.a x0)).bind λx0=>(gI (.a x1)).bind λx1=>(gB (.a x2)).bind λx2=>some ⟨x0,x1,x2⟩
 |1,.v d x=>gV d 1 x
 |1,.agg [x0,x1,x2]=>(gI x0).bind λx0=>(gI x1).bind λx1=>(gB x2).bind λx2=>some ⟨x0,x1,x2⟩
 |2,x=>gI x
 |3,.a (.agg [x0,x1])=>(gL 1 (.a x0)).bind λx0=>(gL 2 (.a x1)).bind λx1=>some ⟨x0,x1⟩
 |3,.v d x=>gV d 3 x
 |3,.agg [x0,x1]=>(gL 1 x0).bind λx0=>(gL 2 x1).bind λx1=>some ⟨x0,x1⟩
 |4,x=>gB x
 |5,.a (.agg [x0,x1,x2,x3,x4,x5,x6,x7,x8,x9])=>(gL 2 (.a x0)).bind λx0=>(gL 2 (.a x1)).bind λx1=>(gL 4 (.a x2)).bind λx2=>(gI (.a x3)).bind λx3=>(gI (.a x4)).bind λx4=>(gI (.a x5)).bind λx5=>(gI (.a x6)).bind λx6=>(gI (.a x7)).bind λx7=>(gI (.a x8)).bind λx8=>(gI (.a x9)).bind λx9=>some ⟨x0,x1,x2,x3,x4,x5,x6,x7,x8,x9⟩
 |5,.v d x=>gV d 5 x
 |5,.agg [x0,x1,x2,x3,x4,x5,x6,x7,x8,x9]=>(gL 2 x0).bind λx0=>(gL 2 x1).bind λx1=>(gL 4 x2).bind λx2=>(gI x3).bind λx3=>(gI x4).bind λx4=>(gI x5).bind λx5=>(gI x6).bind λx6=>(gI x7).bind λx7=>(gI x8).bind λx8=>(gI x9).bind λx9=>some ⟨x0,x1,x2,x3,x4,x5,x6,x7,x8,x9⟩
 |6,x=>gL 0 x
 |7,.a (.agg [x0,x1,x2,x3,x4,x5,x6,x7,x8,x9,S6,S7,S8,S9])=>(gL 6 (.a x0)).bind λx0=>(gL 1 (.a x1)).bind λx1=>(gL 2 (.a x2)).bind λx2=>(gL 2 (.a x3)).bind λx3=>(gL 2 (.a x4)).bind λx4=>(gL 4 (.a x5)).bind λx5=>(gI (.a x6)).bind λx6=>(gI (.a x7)).bind λx7=>(gI (.a x8)).bind λx8=>(gI (.a x9)).bind λx9=>(gI (.a S6)).bind λS6=>(gI (.a S7)).bind λS7=>(gI (.a S8)).bind λS8=>(gI (.a S9)).bind λS9=>some ⟨x0,⟨x1,x2⟩,⟨x3,x4,x5,x6,x7,x8,x9,S6,S7,S8⟩,S9⟩
 |7,.v d x=>gV d 7 x
 |7,.agg [x0,x1,x2,x3,x4,x5,x6,x7,x8,x9,S6,S7,S8,S9]=>(gL 6 x0).bind λx0=>(gL 1 x1).bind λx1=>(gL 2 x2).bind λx2=>(gL 2 x3).bind λx3=>(gL 2 x4).bind λx4=>(gL 4 x5).bind λx5=>(gI x6).bind λx6=>(gI x7).bind λx7=>(gI x8).bind λx8=>(gI x9).bind λx9=>(gI S6).bind λS6=>(gI S7).bind λS7=>(gI S8).bind λS8=>(gI S9).bind λS9=>some ⟨x0,⟨x1,x2⟩,⟨x3,x4,x5,x6,x7,x8,x9,S6,S7,S8⟩,S9⟩
 |8,.a (.agg [x0,x1])=>(gI (.a x0)).bind λx0=>(gI (.a x1)).bind λx1=>some ⟨x0,x1⟩
 |8,.v d x=>gV d 8 x
 |8,.agg [x0,x1]=>(gI x0).bind λx0=>(gI x1).bind λx1=>some ⟨x0,x1⟩
 |9,x=>gZ x
 |10,.a (.agg [x0,x1,x2])=>(gI (.a x0)).bind λx0=>(gI (.a x1)).bind λx1=>(gI (.a x2)).bind λx2=>some ⟨x0,x1,x2⟩
 |10,.v d x=>gV d 10 x
 |10,.agg [x0,x1,x2]=>(gI x0).bind λx0=>(gI x1).bind λx1=>(gI x2).bind λx2=>some ⟨x0,x1,x2⟩
 |11,.a (.agg [x0,x1,x2])=>(gI (.a x0)).bind λx0=>(gB (.a x1)).bind λx1=>(gB (.a x2)).bind λx2=>some ⟨x0,x1,x2⟩
 |11,.v d x=>gV d 11 x
 |11,.agg [x0,x1,x2]=>(gI x0).bind λx0=>(gB x1).bind λx1=>(gB x2).bind λx2=>some ⟨x0,x1,x2⟩
 |12,x=>gL 11 x
 |13,x=>gL 8 x
 |14,.a (.agg [x0,x1,x2,x3])=>(gI (.a x0)).bind λx0=>(gI (.a x1)).bind λx1=>(gI (.a x2)).bind λx2=>(gI (.a x3)).bind λx3=>some ⟨x0,x1,x2,x3⟩
 |14,.v d x=>gV d 14 x
 |14,.agg [x0,x1,x2,x3]=>(gI x0).bind λx0=>(gI x1).bind λx1=>(gI x2).bind λx2=>(gI x3).bind λx3=>some ⟨x0,x1,x2,x3⟩
 |15,.a (.agg [x0,x1,x2,x3,x4])=>(gI (.a x0)).bind λx0=>(gI (.a x1)).bind λx1=>(gI (.a x2)).bind λx2=>(gI (.a x3)).bind λx3=>(gI (.a x4)).bind λx4=>some ⟨x0,x1,x2,x3,x4⟩
 |15,.v d x=>gV d 15 x
 |15,.agg [x0,x1,x2,x3,x4]=>(gI x0).bind λx0=>(gI x1).bind λx1=>(gI x2).bind λx2=>(gI x3).bind λx3=>(gI x4).bind λx4=>some ⟨x0,x1,x2,x3,x4⟩
 |16,.a (.agg [x0,x1,x2,x3,x4,x5])=>(gB (.a x0)).bind λx0=>(gI (.a x1)).bind λx1=>(gB (.a x2)).bind λx2=>(gB (.a x3)).bind λx3=>(gB (.a x4)).bind λx4=>(gL 15 (.a x5)).bind λx5=>some ⟨x0,⟨x1,x2,x3⟩,x4,x5⟩
 |16,.v d x=>gV d 16 x
 |16,.agg [x0,x1,x2,x3,x4,x5]=>(gB x0).bind λx0=>(gI x1).bind λx1=>(gB x2).bind λx2=>(gB x3).bind λx3=>(gB x4).bind λx4=>(gL 15 x5).bind λx5=>some ⟨x0,⟨x1,x2,x3⟩,x4,x5⟩
 |17,.a (.agg [x0,x1])=>(gI (.a x0)).bind λx0=>(gI (.a x1)).bind λx1=>some ⟨x0,x1⟩
 |17,.v d x=>gV d 17 x
 |17,.agg [x0,x1]=>(gI x0).bind λx0=>(gI x1).bind λx1=>some ⟨x0,x1⟩
 |18,.v d x=>gV d 18 x
 |18,.ip [x0,x1,x2,x3,x4,x5,x6]=>(gL 17 x0).bind λx0=>(gI x1).bind λx1=>(gI x2).bind λx2=>(gI x3).bind λx3=>(gI x4).bind λx4=>(gI x5).bind λx5=>(gI x6).bind λx6=>some ⟨x0,x1,x2,x3,⟨x4,x5⟩,x6⟩
 |19,.a (.agg [x0,x1])=>(gI (.a x0)).bind λx0=>(gL 2 (.a x1)).bind λx1=>some ⟨x0,x1⟩
 |19,.v d x=>gV d 19 x
 |19,.agg [x0,x1]=>(gI x0).bind λx0=>(gL 2 x1).bind λx1=>some ⟨x0,x1⟩
 |20,.a (.agg [x0,x1])=>(gL 8 (.a x0)).bind λx0=>(gL 4 (.a x1)).bind λx1=>some ⟨x0,x1⟩
 |20,.v d x=>gV d 20 x
 |20,.agg [x0,x1]=>(gL 8 x0).bind λx0=>(gL 4 x1).bind λx1=>some ⟨x0,x1⟩
 |21,.a (.agg [x0,x1,x2])=>(gL 8 (.a x0)).bind λx0=>(gL 2 (.a x1)).bind λx1=>(gL 2 (.a x2)).bind λx2=>some ⟨x0,x1,x2⟩
 |21,.v d x=>gV d 21 x
 |21,.agg [x0,x1,x2]=>(gL 8 x0).bind λx0=>(gL 2 x1).bind λx1=>(gL 2 x2).bind λx2=>some ⟨x0,x1,x2⟩
 |22,.a (.agg [x0,x1,x2,x3,x4,x5])=>(gL 1 (.a x0)).bind λx0=>(gL 2 (.a x1)).bind λx1=>(gL 16 (.a x2)).bind λx2=>(gI (.a x3)).bind λx3=>(gL 13 (.a x4)).bind λx4=>(gL 14 (.a x5)).bind λx5=>some ⟨⟨⟨x0,x1⟩,x2⟩,x3,x4,x5⟩
 |22,.v d x=>gV d 22 x
 |22,.agg [x0,x1,x2,x3,x4,x5]=>(gL 1 x0).bind λx0=>(gL 2 x1).bind λx1=>(gL 16 x2).bind λx2=>(gI x3).bind λx3=>(gL 13 x4).bind λx4=>(gL 14 x5).bind λx5=>some ⟨⟨⟨x0,x1⟩,x2⟩,x3,x4,x5⟩
 |23,.a (.agg [x0,x1,x2])=>(gL 1 (.a x0)).bind λx0=>(gL 2 (.a x1)).bind λx1=>(gL 16 (.a x2)).bind λx2=>some ⟨⟨x0,x1⟩,x2⟩
 |23,.v d x=>gV d 23 x
 |23,.agg [x0,x1,x2]=>(gL 1 x0).bind λx0=>(gL 2 x1).bind λx1=>(gL 16 x2).bind λx2=>some ⟨⟨x0,x1⟩,x2⟩
 |24,.a (.agg [x0,x1,x2,x3])=>(gL 1 (.a x0)).bind λx0=>(gL 2 (.a x1)).bind λx1=>(gL 16 (.a x2)).bind λx2=>(gL 2 (.a x3)).bind λx3=>some ⟨⟨⟨x0,x1⟩,x2⟩,x3⟩
 |24,.v d x=>gV d 24 x
 |24,.agg [x0,x1,x2,x3]=>(gL 1 x0).bind λx0=>(gL 2 x1).bind λx1=>(gL 16 x2).bind λx2=>(gL 2 x3).bind λx3=>some ⟨⟨⟨x0,x1⟩,x2⟩,x3⟩
 |25,.a (.agg [x0,x1,x2,x3,x4])=>(gI (.a x0)).bind λx0=>(gI (.a x1)).bind λx1=>(gI (.a x2)).bind λx2=>(gI (.a x3)).bind λx3=>(gI (.a x4)).bind λx4=>some ⟨x0,x1,x2,x3,x4⟩
 |25,.v d x=>gV d 25 x
 |25,.agg [x0,x1,x2,x3,x4]=>(gI x0).bind λx0=>(gI x1).bind λx1=>(gI x2).bind λx2=>(gI x3).bind λx3=>(gI x4).bind λx4=>some ⟨x0,x1,x2,x3,x4⟩
 |26,.a (.agg [x0,x1,x2,x3,x4])=>(gI (.a x0)).bind λx0=>(gI (.a x1)).bind λx1=>(gI (.a x2)).bind λx2=>(gI (.a x3)).bind λx3=>(gI (.a x4)).bind λx4=>some ⟨x0,x1,x2,x3,x4⟩
 |26,.v d x=>gV d 26 x
 |26,.agg [x0,x1,x2,x3,x4]=>(gI x0).bind λx0=>(gI x1).bind λx1=>(gI x2).bind λx2=>(gI x3).bind λx3=>(gI x4).bind λx4=>some ⟨x0,x1,x2,x3,x4⟩
 |_,_=>none
def TTc:TypeId->Option Nat
 |2=>some 2
 |3=>some 2
 |4=>some 4
 |9=>some 9
 |10=>some 9
 |11=>some 9
 |26=>some 3
 |29=>some 5
 |31=>some 7
 |36=>some 23
 |40=>some 22
 |41=>some 2
 |45=>some 6
 |49=>some 1
 |54=>some 8
 |55=>some 13
 |57=>some 21
 |59=>some 14
 |72=>some 0
 |77=>some 25
 |79=>some 11
 |82=>some 16
 |103=>some 15
 |108=>some 12
 |139=>some 24
 |151=>some 17
 |184=>some 20
 |217=>some 19
 |225=>some 26
 |265=>some 2
 |356=>some 10
 |_=>none
def TWd:Nat->Nat
 |0=>3
 |1=>3
 |2=>1
 |3=>2
 |4=>1
 |5=>10
 |6=>1
 |7=>14
 |8=>2
 |9=>1
 |10=>3
 |11=>3
 |12=>1
 |13=>1
 |14=>4
 |15=>5
 |16=>6
 |17=>2
 |18=>1
 |19=>2
 |20=>2
 |21=>3
 |22=>6
 |23=>3
 |24=>4
 |25=>5
 |26=>5
 |_+27=>1
theorem lG: ∀(c:Nat)(x:TS c),(TX c x).er TE=TE c x:=λc x=>match c,x with|0,_=>rfl|1,_=>rfl|2,_=>rfl|3,_=>rfl|4,_=>rfl|5,_=>rfl|6,_=>rfl|7,_=>rfl|8,_=>rfl|9,_=>rfl|10,_=>rfl|11,_=>rfl|12,_=>rfl|13,_=>rfl|14,_=>rfl|15,_=>rfl|16,_=>rfl|17,_=>rfl|18,_=>rfl|19,_=>rfl|20,_=>rfl|21,_=>rfl|22,_=>rfl|23,_=>rfl|24,_=>rfl|25,_=>rfl|26,_=>rfl|_+27,_=>rfl
theorem aal: ∀(c:Nat)(x:TS c),(TX c x).OG=false:=λc x=>match c,x with|0,_=>rfl|1,_=>rfl|2,_=>rfl|3,_=>rfl|4,_=>rfl|5,_=>rfl|6,_=>rfl|7,_=>rfl|8,_=>rfl|9,_=>rfl|10,_=>rfl|11,_=>rfl|12,_=>rfl|13,_=>rfl|14,_=>rfl|15,_=>rfl|16,_=>rfl|17,_=>rfl|18,_=>rfl|19,_=>rfl|20,_=>rfl|21,_=>rfl|22,_=>rfl|23,_=>rfl|24,_=>rfl|25,_=>rfl|26,_=>rfl|_+27,_=>rfl
theorem kD: ∀(c:Nat)(x:TS c),(TE c x).dv=true:=λc x=>match c,x with|0,x=>yZ x|1,x=>kV x|2,x=>tl x|3,x=>za x|4,x=>wF x|5,x=>Nn x|6,x=>(Dh yZ) x|7,x=>CA x|8,x=>nZ x|9,x=>RC x|10,x=>vm x|11,x=>Ep x|12,x=>(Dh Ep) x|13,x=>(Dh nZ) x|14,x=>Et x|15,x=>Er x|16,x=>qW x|17,x=>vR x|18,x=>(λ(x:bF)=>(JM x:(AV.ip [.sl false (x.bO.map gU),.i x.bW,.i x.bX,.i x.dr,.i x.bP.bc,.i x.bP.ct,.i x.cW]).dv=true)) x|19,x=>Nq x|20,x=>Ex x|21,x=>JL x|22,x=>Eu x|23,x=>JK x|24,x=>zV x|25,x=>Nr x|26,x=>Gz x|_+27,_=>rfl
theorem lH: ∀(c:Nat)(x:TS c),(TE c x).cells.length=TWd c:=λc x=>match c,x with|0,_=>rfl|1,_=>rfl|2,_=>rfl|3,_=>rfl|4,_=>rfl|5,_=>rfl|6,_=>rfl|7,_=>rfl|8,_=>rfl|9,_=>rfl|10,_=>rfl|11,_=>rfl|12,_=>rfl|13,_=>rfl|14,_=>rfl|15,_=>rfl|16,_=>rfl|17,_=>rfl|18,_=>rfl|19,_=>rfl|20,_=>rfl|21,_=>rfl|22,_=>rfl|23,_=>rfl|24,_=>rfl|25,_=>rfl|26,_=>rfl|_+27,_=>rfl
noncomputable def TLp:Nat->xZ
 |0=>OE zP 98 13
 |1=>OE zP 218 19
 |2=>OE zP 218 5
 |3=>OE zP 29 18
 |_=>⟨0,[],.skip,.skip⟩
def TKn:Nat->Nat
 |13=>1
 |16=>1
 |18=>2
 |_=>0
theorem Ey(x y:bn)(h:iy x=iy y):x=y:=by
 obtain⟨a1,a2⟩:=x;obtain⟨b1,b2⟩:=y
 simp only[iy,AV.ip.injEq,AV.agg.injEq,List.cons.injEq,AV.int.injEq,AV.bool.injEq,AV.str.injEq,AV.sl.injEq,true_and,and_true]at h
 obtain⟨rfl,rfl⟩:=h
 rfl
theorem Ta(x y:(List bn))(h:(SL iy) x=(SL iy) y):x=y:=Hf Ey x y (by simpa[SL]using h)
theorem GA(x y:cT)(h:mS x=mS y):x=y:=by
 obtain⟨a1,a2,a3,a4,a5⟩:=x;obtain⟨b1,b2,b3,b4,b5⟩:=y
 simp only[mS,AV.ip.injEq,AV.agg.injEq,List.cons.injEq,AV.int.injEq,AV.bool.injEq,AV.str.injEq,AV.sl.injEq,true_and,and_true]at h
 obtain⟨rfl,rfl,rfl,rfl,rfl⟩:=h
 rfl
theorem Ez(x y:cg)(h:lx x=lx y):x=y:=by
 obtain⟨a1,⟨a2,a3,a4⟩,a5,a6⟩:=x;obtain⟨b1,⟨b2,b3,b4⟩,b5,b6⟩:=y
 simp only[lx,AV.ip.injEq,AV.agg.injEq,List.cons.injEq,AV.int.injEq,AV.bool.injEq,AV.str.injEq,AV.sl.injEq,true_and,and_true]at h
 obtain⟨rfl,rfl,rfl,rfl,rfl,h5⟩:=h
 cases Hf GA _ _ h5
 rfl
theorem zW(x y:b8)(h:gU x=gU y):x=y:=by
 obtain⟨a1,a2⟩:=x;obtain⟨b1,b2⟩:=y
 simp only[gU,AV.ip.injEq,AV.agg.injEq,List.cons.injEq,AV.int.injEq,AV.bool.injEq,AV.str.injEq,AV.sl.injEq,true_and,and_true]at h
 obtain⟨rfl,rfl⟩:=h
 rfl
theorem Tb(x y:bF)(h:(λ(x:bF)=>AV.ip [.sl false (x.bO.map gU),.i x.bW,.i x.bX,.i x.dr,.i x.bP.bc,.i x.bP.ct,.i x.cW]) x=(λ(x:bF)=>AV.ip [.sl false (x.bO.map gU),.i x.bW,.i x.bX,.i x.dr,.i x.bP.bc,.i x.bP.ct,.i x.cW]) y):x=y:=by
 obtain⟨a1,a2,a3,a4,⟨a5,a6⟩,a7⟩:=x;obtain⟨b1,b2,b3,b4,⟨b5,b6⟩,b7⟩:=y
 simp only[Ew,AV.ip.injEq,AV.agg.injEq,List.cons.injEq,AV.int.injEq,AV.bool.injEq,AV.str.injEq,AV.sl.injEq,true_and,and_true]at h
 obtain⟨h0,rfl,rfl,rfl,rfl,rfl,rfl⟩:=h
 cases Hf zW _ _ h0
 rfl
def TYf:(c:Nat)->Nat->TS c->TV TS
 |0,_,x=>TX 0 x
 |1,_,x=>TX 1 x
 |2,_,x=>TX 2 x
 |3,_,x=>TX 3 x
 |4,_,x=>TX 4 x
 |5,_,x=>TX 5 x
 |6,_,x=>TX 6 x
 |7,_,x=>TX 7 x
 |8,_,x=>TX 8 x
 |9,_,x=>TX 9 x
 |10,_,x=>TX 10 x
 |11,_,x=>TX 11 x
 |12,_,x=>TX 12 x
 |13,r,(x:(List bn))=>.a (.ms r 0 x.length)
 |14,_,x=>TX 14 x
 |15,_,x=>TX 15 x
 |16,r,(x:cg)=>.agg [.b x.k8,.n x.sign.value,.b x.sign.dot,.b x.sign.three,.b x.tie,.a (.ms r 0 x.cZ.length)]
 |17,_,x=>TX 17 x
 |18,r,(x:bF)=>.a (.mp r 0 0)
 |19,_,x=>TX 19 x
 |20,_,x=>TX 20 x
 |21,_,x=>TX 21 x
 |22,_,x=>TX 22 x
 |23,_,x=>TX 23 x
 |24,_,x=>TX 24 x
 |25,_,x=>TX 25 x
 |26,_,x=>TX 26 x
 |_+27,_,_=>.a .ij
def TZf:(c:Nat)->Nat->TS c->List (ZB TS)
 |0,_,_=>[]
 |1,_,_=>[]
 |2,_,_=>[]
 |3,_,_=>[]
 |4,_,_=>[]
 |5,_,_=>[]
 |6,_,_=>[]
 |7,_,_=>[]
 |8,_,_=>[]
 |9,_,_=>[]
 |10,_,_=>[]
 |11,_,_=>[]
 |12,_,_=>[]
 |13,_,(x:(List bn))=>[.l 2 8 x]
 |14,_,_=>[]
 |15,_,_=>[]
 |16,_,(x:cg)=>[.l 5 15 x.cZ]
 |17,_,_=>[]
 |18,r,(x:bF)=>[.o 7 [.agg [.a (.ms (r+1) 0 x.bO.length),.n x.bW,.n x.bX,.n x.dr,.n x.bP.bc,.n x.bP.ct,.n x.cW]],.l 2 17 x.bO]
 |19,_,_=>[]
 |20,_,_=>[]
 |21,_,_=>[]
 |22,_,_=>[]
 |23,_,_=>[]
 |24,_,_=>[]
 |25,_,_=>[]
 |26,_,_=>[]
 |_+27,_,_=>[]
theorem aam: ∀c,Ar TE TWd TKn TYf TZf c:=λc=>match c with
 |0=>fc rfl (λ_ _=>rfl) (λ_ y=>lG 0 y) (lH 0) (kD 0)
 |1=>fc rfl (λ_ _=>rfl) (λ_ y=>lG 1 y) (lH 1) (kD 1)
 |2=>fc rfl (λ_ _=>rfl) (λ_ y=>lG 2 y) (lH 2) (kD 2)
 |3=>fc rfl (λ_ _=>rfl) (λ_ y=>lG 3 y) (lH 3) (kD 3)
 |4=>fc rfl (λ_ _=>rfl) (λ_ y=>lG 4 y) (lH 4) (kD 4)
 |5=>fc rfl (λ_ _=>rfl) (λ_ y=>lG 5 y) (lH 5) (kD 5)
 |6=>fc rfl (λ_ _=>rfl) (λ_ y=>lG 6 y) (lH 6) (kD 6)
 |7=>fc rfl (λ_ _=>rfl) (λ_ y=>lG 7 y) (lH 7) (kD 7)
 |8=>fc rfl (λ_ _=>rfl) (λ_ y=>lG 8 y) (lH 8) (kD 8)
 |9=>fc rfl (λ_ _=>rfl) (λ_ y=>lG 9 y) (lH 9) (kD 9)
 |10=>fc rfl (λ_ _=>rfl) (λ_ y=>lG 10 y) (lH 10) (kD 10)
 |11=>fc rfl (λ_ _=>rfl) (λ_ y=>lG 11 y) (lH 11) (kD 11)
 |12=>fc rfl (λ_ _=>rfl) (λ_ y=>lG 12 y) (lH 12) (kD 12)
 |13=>RE (d:=8) (n:=2) (λx=>x) rfl rfl (λ_ _=>rfl) (λ_ _=>rfl) (λ_=>rfl) (kD 8) Ta
 |14=>fc rfl (λ_ _=>rfl) (λ_ y=>lG 14 y) (lH 14) (kD 14)
 |15=>fc rfl (λ_ _=>rfl) (λ_ y=>lG 15 y) (lH 15) (kD 15)
 |16=>RF (d:=15) (n:=5) (p:=5) (λ(x:cg)=>x.cZ) (λ(x:cg)=>[.bool x.k8,.i x.sign.value,.bool x.sign.dot,.bool x.sign.three,.bool x.tie]) (λ(x:cg)=>[]) (λ_=>rfl) rfl (λ_=>rfl) (λ_ _=>rfl) (λ_ _=>rfl) (λ_=>rfl) (kD 15) (λ_=>⟨rfl,rfl⟩) (λy x h=>by simp at h;rcases h with rfl|rfl|rfl|rfl|rfl<;>rfl) Ez
 |17=>fc rfl (λ_ _=>rfl) (λ_ y=>lG 17 y) (lH 17) (kD 17)
 |18=>RG (d:=17) (n:=7) (n2:=2) (λ(x:bF)=>x.bO) (λr(x:bF)=>.agg [.a (.ms (r+1) 0 x.bO.length),.n x.bW,.n x.bX,.n x.dr,.n x.bP.bc,.n x.bP.ct,.n x.cW]) (λ(x:bF)=>[]) (λ(x:bF)=>[.i x.bW,.i x.bX,.i x.dr,.i x.bP.bc,.i x.bP.ct,.i x.cW]) rfl rfl (λ_ _=>rfl) (λ_ _=>rfl) (λ_ _=>rfl) (λ_=>rfl) (kD 17) (λ_=>⟨rfl,rfl⟩) Tb
 |19=>fc rfl (λ_ _=>rfl) (λ_ y=>lG 19 y) (lH 19) (kD 19)
 |20=>fc rfl (λ_ _=>rfl) (λ_ y=>lG 20 y) (lH 20) (kD 20)
 |21=>fc rfl (λ_ _=>rfl) (λ_ y=>lG 21 y) (lH 21) (kD 21)
 |22=>fc rfl (λ_ _=>rfl) (λ_ y=>lG 22 y) (lH 22) (kD 22)
 |23=>fc rfl (λ_ _=>rfl) (λ_ y=>lG 23 y) (lH 23) (kD 23)
 |24=>fc rfl (λ_ _=>rfl) (λ_ y=>lG 24 y) (lH 24) (kD 24)
 |25=>fc rfl (λ_ _=>rfl) (λ_ y=>lG 25 y) (lH 25) (kD 25)
 |26=>fc rfl (λ_ _=>rfl) (λ_ y=>lG 26 y) (lH 26) (kD 26)
 |_+27=>fc rfl (λ_ _=>rfl) (λ_ _=>rfl) (λ_=>rfl) (λ_=>rfl)
noncomputable def TT:iP:=⟨TS,TE,TX,TD,TTc,lG,aal,kD,TWd,lH,TLp,TKn,TYf,TZf,aam⟩
noncomputable section
def f15(a:bK):Option Int:=((bif (decide (14<(a.cj.length:Int)))then(some true)else(some (decide (18<(a.bN.length:Int))))):Option Bool).bind λ(m:Bool)=>bif m then(some 2)else(bif (decide ((a.cj.length:Int)=0))then(some 11)else((bY (τ:=(Unit⊕Int)) (λ((l,c):(Int×Int))=>bif (decide (c<(a.bN.length:Int)))then((((ix a.bN c).bind λf=>bif (decide (f<=l))then(some true)else(some (decide (127<f)))):Option Bool).bind λ(i:Bool)=>bif i then(some (.inr (.inr 11)))else((ix a.bN c).bind λg=>some (.inl (g,(wr (c+1))))))else(some (.inr (.inl ())))) cy (0,0)).bind (Sum.elim (λ(_:Unit)=>(bY (τ:=(Unit⊕Int)) (λ(d:Int)=>bif (decide (d<(a.cj.length:Int)))then((ix a.cj d).bind λb=>((bif (decide (b.dz<0))then(some true)else(some (decide ((a.bN.length:Int)<b.dz)))):Option Bool).bind λ(k:Bool)=>bif k then(some (.inr (.inr 13)))else(((bif (decide (b.bW<0))then(some true)else(some (decide (127<b.bW)))):Option Bool).bind λ(h:Bool)=>bif h then(some (.inr (.inr 10)))else(((bif (decide (0<b.dz))then((ix a.bN (wr (b.dz-1))).bind λj=>some (wr (b.bW+j)))else(some b.bW)):Option Int).bind λ(e:Int)=>((bif b.ja then(some (wr (e+12)))else(some e)):Option Int).bind λ(n:Int)=>bif (decide (127<n))then(some (.inr (.inr 10)))else(some (.inl (wr (d+1)))))))else(some (.inr (.inl ())))) cy 0).bind (Sum.elim (λ(_:Unit)=>some 0) some)) some)))
def f82(c:List bV):Option Bool:=(bY (τ:=(Unit⊕Bool)) (λ(b:Int)=>bif (decide (b<(c.length:Int)))then((ix c b).bind λa=>((bif (decide (a.bW<0))then(some true)else(bif (decide (127<a.bW))then(some true)else(bif (decide (a.bX<0))then(some true)else(bif (decide (a.dr<=a.bX))then(some true)else(bif (decide (262144<a.dr))then(some true)else(bif (decide (0<b))then((ix c (wr (b-1))).bind λd=>some (decide (a.bX<d.dr)))else(some false))))))):Option Bool).bind λ(e:Bool)=>bif e then(some (.inr (.inr false)))else(some (.inl (wr (b+1)))))else(some (.inr (.inl ())))) cy 0).bind (Sum.elim (λ(_:Unit)=>some true) some)
def f33(a:List (List bV)):Option Int:=(bY (τ:=Bool) (λ((d,b):(Bool×Int))=>bif (decide (b<(a.length:Int)))then(((bif d then(some true)else((ix a b).bind λe=>some (decide (400<(e.length:Int))))):Option Bool).bind λ(h:Bool)=>some (.inl (h,(wr (b+1)))))else(some (.inr d))) cy ((decide (6<(a.length:Int))),0)).bind λ(i:Bool)=>bif i then(some 2)else((bY (τ:=(Unit⊕Int)) (λ(c:Int)=>bif (decide (c<(a.length:Int)))then((ix a c).bind λf=>(f82 f).bind λg=>bif (!g)then(some (.inr (.inr 80)))else(some (.inl (wr (c+1)))))else(some (.inr (.inl ())))) cy 0).bind (Sum.elim (λ(_:Unit)=>some 0) some))
def f105(a:List Int)(d:Int):Option (List Int):=(bY (τ:=Int) (λ(c:Int)=>((bif (decide (0<c))then((ix a (wr (c-1))).bind λf=>some (decide (d<=f)))else(some false)):Option Bool).bind λ(g:Bool)=>bif g then(some (.inl (wr (c-1))))else(some (.inr c))) cy (a.length:Int)).bind λ(b:Int)=>((bif (decide (b<(a.length:Int)))then((ix a b).bind λh=>some (decide (h=d)))else(some false)):Option Bool).bind λ(e:Bool)=>bif e then(some a)else(cr (a.length+1<=bJ)<|cr (0<=(wr (b+1)))<|cr ((wr (b+1)).toNat<=(a++([0]:List Int)).length)<|cr (0<=b)<|cr (b.toNat<=(a++([0]:List Int)).length)<|cr (b.toNat+((a++([0]:List Int)).length-b.toNat)<=(a++([0]:List Int)).length)<|cr ((wr (b+1)).toNat+((a++([0]:List Int)).length-(wr (b+1)).toNat)<=(a++([0]:List Int)).length)<|cr ((NM (a++([0]:List Int)) (wr (b+1)).toNat ((a++([0]:List Int)).length-(wr (b+1)).toNat) (((a++([0]:List Int)).drop b.toNat).take ((a++([0]:List Int)).length-b.toNat))).length=(a++([0]:List Int)).length)<|(ix (NM (a++([0]:List Int)) (wr (b+1)).toNat ((a++([0]:List Int)).length-(wr (b+1)).toNat) (((a++([0]:List Int)).drop b.toNat).take ((a++([0]:List Int)).length-b.toNat))) b).bind λi=>some ((NM (a++([0]:List Int)) (wr (b+1)).toNat ((a++([0]:List Int)).length-(wr (b+1)).toNat) (((a++([0]:List Int)).drop b.toNat).take ((a++([0]:List Int)).length-b.toNat))).set b.toNat d))
def f106(f:List (List bV))(d:Int):Option Bool:=(bY (τ:=(Unit⊕Bool)) (λ(b:Int)=>bif (decide (b<(f.length:Int)))then((bY (τ:=(Unit⊕(Int⊕(Unit⊕Bool)))) (λ(a:Int)=>(ix f b).bind λc=>bif (decide (a<(c.length:Int)))then((((ix c a).bind λe=>bif (decide (e.bX<=d))then(some (decide (d<e.dr)))else(some false)):Option Bool).bind λ(g:Bool)=>bif g then(some (.inr (.inr (.inr (.inr false)))))else(some (.inl (wr (a+1)))))else(some (.inr (.inl ())))) cy 0).bind (Sum.elim (λ(_:Unit)=>some (.inl (wr (b+1)))) some))else(some (.inr (.inl ())))) cy 0).bind (Sum.elim (λ(_:Unit)=>some true) some)
def f53(d:List (List bV)):Option ((List Int)):=(bY (τ:=(List Int)) (λ((f,a):(List Int×Int))=>bif (decide (a<(d.length:Int)))then((bY (τ:=(List Int)) (λ((g,b):(List Int×Int))=>(ix d a).bind λe=>bif (decide (b<(e.length:Int)))then((((ix e b).bind λc=>(f105 g c.bX).bind λh=>(f106 d c.dr).bind λk=>bif k then((f105 h c.dr).bind λl=>some l)else(some h)):Option (List Int)).bind λ(m:(List Int))=>some (.inl (m,(wr (b+1)))))else(some (.inr g))) cy (f,0)).bind λ(j:(List Int))=>some (.inl (j,(wr (a+1)))))else(some (.inr f))) cy (([0]:List Int),0)).bind λ(i:(List Int))=>some i
def f34(a:List (List bV)):Option (((List Int))×Int):=(f33 a).bind λb=>bif (decide (b≠0))then(some (([]:List Int),b))else((f53 a).bind λc=>some (c,0))
def f83(c:bK)(a:bn):Option Int:=(ix c.cj (wr (a.bc-1))).bind λb=>((bif (decide (0<a.ct))then((ix c.bN (wr (a.ct-1))).bind λe=>some (wr (b.bW+e)))else(some b.bW)):Option Int).bind λ(d:Int)=>some d
def f35(d:bK)(e:Int):Option (((List bn))×Int):=(f15 d).bind λf=>bif (decide (f≠0))then(some (([]:List bn),f))else(((bif (decide (e<0))then(some true)else(some (decide (127<e)))):Option Bool).bind λ(l:Bool)=>bif l then(some (([]:List bn),10))else((bY (τ:=(List bn)) (λ((g,a):(List bn×Int))=>bif (decide (a<=(d.cj.length:Int)))then((bY (τ:=(List bn)) (λ((c,b):(List bn×Int))=>(ix d.cj (wr (a-1))).bind λj=>bif (decide (b<=j.dz))then((((f83 d (⟨a,b⟩:bn)).bind λk=>bif (decide (k=e))then(cr (c.length+1<=bJ)<|some (c++([(⟨a,b⟩:bn)]:List bn)))else(some c)):Option (List bn)).bind λ(h:(List bn))=>some (.inl (h,(wr (b+1)))))else(some (.inr c))) cy (g,0)).bind λ(i:(List bn))=>some (.inl (i,(wr (a+1)))))else(some (.inr g))) cy (([]:List bn),1)).bind λ(m:(List bn))=>some (m,0)))
def f9(a:fY):Option Bool:=(((f33 a.cu).bind λr=>bif (decide (r≠0))then(some true)else((f15 a.instrument).bind λn=>some (decide (n≠0)))):Option Bool).bind λ(o:Bool)=>bif o then(some false)else(bif (decide (4<(a.cu.length:Int)))then(some true)else((bY (τ:=Int) (λ((g,f):(Int×Int))=>bif (decide (f<(a.cu.length:Int)))then((ix a.cu f).bind λm=>some (.inl ((wr (g+(m.length:Int))),(wr (f+1)))))else(some (.inr g))) cy (0,0)).bind λ(t:Int)=>bif (decide (24<t))then(some true)else((f34 a.cu).bind λk=>(bY (τ:=(Unit⊕Bool)) (λ(b:Int)=>bif (decide (b<(k.1.length:Int)))then((bY (τ:=Int) (λ((h,c):(Int×Int))=>bif (decide (c<(a.cu.length:Int)))then((bY (τ:=Int) (λ((d,e):(Int×Int))=>(ix a.cu c).bind λi=>bif (decide (e<(i.length:Int)))then((((ix i e).bind λj=>(((ix k.1 b).bind λv=>bif (decide (j.bX=v))then(bif (decide (-1000<a.shift))then(some (decide (a.shift<1000)))else(some false))else(some false)):Option Bool).bind λ(q:Bool)=>bif q then((f35 a.instrument (wr (j.bW+a.shift))).bind λu=>some (wr (d*(kw 1 (u.1.length:Int)))))else(some d)):Option Int).bind λ(s:Int)=>some (.inl (s,(wr (e+1)))))else(some (.inr d))) cy (h,0)).bind λ(l:Int)=>some (.inl (l,(wr (c+1)))))else(some (.inr h))) cy (1,0)).bind λ(p:Int)=>bif (decide (300<p))then(some (.inr (.inr true)))else(some (.inl (wr (b+1)))))else(some (.inr (.inl ())))) cy 0).bind (Sum.elim (λ(_:Unit)=>some false) some))))
def f146:Option ((List ByteArray)):=some ([(ByteArray.mk #[108,117,116,101,54]),(ByteArray.mk #[108,117,116,101,55]),(ByteArray.mk #[108,117,116,101,49,48]),(ByteArray.mk #[98,97,114,111,113,117,101,49,51]),(ByteArray.mk #[116,104,101,111,114,98,111,49,52]),(ByteArray.mk #[118,105,104,117,101,108,97,54]),(ByteArray.mk #[103,117,105,116,97,114,52]),(ByteArray.mk #[103,117,105,116,97,114,53]),(ByteArray.mk #[99,105,116,116,101,114,110,52])]:List ByteArray)
def f148:Option ((List ByteArray)):=some ([(ByteArray.mk #[71,52,47,56,32,68,52,47,56,32,65,51,47,56,32,70,51,47,56,43,32,67,51,47,56,43,32,71,50,47,56,43,32,58,32,49,32,50,32,51,32,52,32,53,32,54,32,55,32,56]),(ByteArray.mk #[71,52,47,56,32,68,52,47,56,32,65,51,47,56,32,70,51,47,56,43,32,67,51,47,56,43,32,71,50,47,56,43,32,68,50,47,56,43,32,58,32,49,32,50,32,51,32,52,32,53,32,54,32,55,32,56]),(ByteArray.mk #[71,52,47,56,32,68,52,47,56,32,65,51,47,56,32,70,51,47,56,32,67,51,47,56,43,32,71,50,47,56,43,32,70,50,47,56,43,32,69,98,50,47,56,43,32,68,50,47,56,43,32,67,50,47,56,43,32,58,32,49,32,50,32,51,32,52,32,53,32,54,32,55,32,56]),(ByteArray.mk #[70,52,47,57,32,68,52,47,57,32,65,51,47,57,32,70,51,47,57,32,68,51,47,57,32,65,50,47,57,43,32,71,50,47,57,43,32,70,50,47,57,43,32,69,50,47,48,43,32,68,50,47,48,43,32,67,50,47,48,43,32,66,49,47,48,43,32,65,49,47,48,43,32,58,32,49,32,50,32,51,32,52,32,53,32,54,32,55,32,56,32,57]),(ByteArray.mk #[65,51,47,56,32,69,51,47,56,32,66,51,47,56,32,71,51,47,56,32,68,51,47,56,32,65,50,47,56,32,71,50,47,48,32,70,50,47,48,32,69,50,47,48,32,68,50,47,48,32,67,50,47,48,32,66,49,47,48,32,65,49,47,48,32,71,49,47,48,32,58,32,49,32,50,32,51,32,52,32,53,32,54,32,55,32,56]),(ByteArray.mk #[71,52,47,49,48,32,68,52,47,49,48,32,65,51,47,49,48,32,70,51,47,49,48,32,67,51,47,49,48,32,71,50,47,49,48,32,58,32,49,32,50,32,51,32,52,32,53,32,54,32,55,32,56,32,57,32,49,48]),(ByteArray.mk #[65,52,47,56,32,69,52,47,56,32,67,52,47,56,32,71,51,47,56,43,32,58,32,49,32,50,32,51,32,52,32,53,32,54,32,55,32,56]),(ByteArray.mk #[69,52,47,56,32,66,51,47,56,32,71,51,47,56,32,68,52,47,56,32,65,51,47,56,32,58,32,49,32,50,32,51,32,52,32,53,32,54,32,55,32,56]),(ByteArray.mk #[69,52,47,57,32,68,52,47,57,32,71,51,47,57,32,66,51,47,57,32,58,32,50,32,51,32,52,32,53,32,55,32,57,32,49,48,32,49,49,32,49,50])]:List ByteArray)
def f204(b:ByteArray):Option ((List ByteArray)):=(bY (τ:=(List ByteArray)) (λ((d,c,a):(List ByteArray×Int×Int))=>bif (decide (a<=(b.size:Int)))then(((((bif (decide (a=(b.size:Int)))then(some true)else(cr ((0:Int)<=a/\a<(b.size:Int))<|some (decide ((zK b a)=32)))):Option Bool).bind λ(e:Bool)=>bif e then(cr (0<=c)<|cr (0<=a)<|cr (c.toNat<=a.toNat/\a.toNat<=b.size)<|cr (d.length+1<=bJ)<|some ((d++([(b.extract c.toNat a.toNat)]:List ByteArray)),(wr (a+1))))else(some (d,c))):Option (List ByteArray×Int)).bind λ((f,h):(List ByteArray×Int))=>some (.inl (f,h,(wr (a+1)))))else(some (.inr d))) cy (([]:List ByteArray),0,0)).bind λ(g:(List ByteArray))=>some g
def f298(b:Int):Option Int:=(bY (τ:=(Unit⊕Int)) (λ(a:Int)=>bif (decide (a<7))then(cr ((0:Int)<=a/\a<((ByteArray.mk #[67,68,69,70,71,65,66]).size:Int))<|bif (decide ((zK (ByteArray.mk #[67,68,69,70,71,65,66]) a)=b))then(some (.inr (.inr a)))else(some (.inl (wr (a+1)))))else(some (.inr (.inl ())))) cy 0).bind (Sum.elim (λ(_:Unit)=>some (-1)) some)
def f300(a:Int):Option Int:=bif (decide (a<3))then(some (wr (2*a)))else(some (wr ((wr (2*a))-1)))
def f299(a:dH):Option Bool:=((bif (decide (a.qo<0))then(some true)else(bif (decide (6<a.qo))then(some true)else(bif (decide (a.alter< -1))then(some true)else(bif (decide (1<a.alter))then(some true)else(bif (decide (a.ja< -1))then(some true)else(some (decide (9<a.ja)))))))):Option Bool).bind λ(c:Bool)=>bif c then(some false)else((f300 a.qo).bind λb=>((bif (decide (0<=(wr ((wr ((wr (12*(wr (a.ja+1))))+b))+a.alter))))then(some (decide ((wr ((wr ((wr (12*(wr (a.ja+1))))+b))+a.alter))<=127)))else(some false)):Option Bool).bind λ(d:Bool)=>some d)
def f250(a:ByteArray):Option (dH×Int):=((bif (decide ((a.size:Int)<2))then(some true)else(cr ((0:Int)<=0/\0<(a.size:Int))<|(f298 (zK a 0)).bind λf=>some (decide (f<0)))):Option Bool).bind λ(i:Bool)=>bif i then(some ((⟨0,0,0⟩:dH),4))else(cr ((0:Int)<=0/\0<(a.size:Int))<|(f298 (zK a 0)).bind λc=>cr (1<=a.size/\a.size<=a.size)<|((cr ((0:Int)<=0/\0<((a.extract 1 a.size).size:Int))<|bif (decide ((zK (a.extract 1 a.size) 0)=35))then(cr (1<=(a.extract 1 a.size).size/\(a.extract 1 a.size).size<=(a.extract 1 a.size).size)<|some (1,((a.extract 1 a.size).extract 1 (a.extract 1 a.size).size)))else(bif (decide ((zK (a.extract 1 a.size) 0)=98))then(cr (1<=(a.extract 1 a.size).size/\(a.extract 1 a.size).size<=(a.extract 1 a.size).size)<|some (-1,((a.extract 1 a.size).extract 1 (a.extract 1 a.size).size)))else(some (0,(a.extract 1 a.size))))):Option (Int×ByteArray)).bind λ((e,b):(Int×ByteArray))=>((bif (b.toList==(ByteArray.mk #[45,49]).toList)then(some (.inl (-1)))else(((bif (decide ((b.size:Int)=1))then(cr ((0:Int)<=0/\0<(b.size:Int))<|bif (decide (48<=(zK b 0)))then(some (decide ((zK b 0)<=57)))else(some false))else(some false)):Option Bool).bind λ(h:Bool)=>bif h then(cr ((0:Int)<=0/\0<(b.size:Int))<|some (.inl (wr ((IntKind.wrap .u8 ((zK b 0)-48))))))else(some (.inr ((⟨0,0,0⟩:dH),4))))):Option (Int⊕(dH×Int))).bind (Sum.elim (λ(d:Int)=>(f299 (⟨c,e,d⟩:dH)).bind λg=>bif (!g)then(some ((⟨0,0,0⟩:dH),10))else(some ((⟨c,e,d⟩:dH),0))) some))
def f206(a:ByteArray):Option (Int×Bool):=((bif (decide ((a.size:Int)<1))then(some true)else(bif (decide (3<(a.size:Int)))then(some true)else(cr ((0:Int)<=0/\0<(a.size:Int))<|bif (decide ((zK a 0)=48))then(some (decide (1<(a.size:Int))))else(some false)))):Option Bool).bind λ(f:Bool)=>bif f then(some (0,false))else((bY (τ:=(Int⊕(Int×Bool))) (λ((c,b):(Int×Int))=>bif (decide (b<(a.size:Int)))then(((cr ((0:Int)<=b/\b<(a.size:Int))<|bif (decide ((zK a b)<48))then(some true)else(some (decide (57<(zK a b))))):Option Bool).bind λ(d:Bool)=>bif d then(some (.inr (.inr (0,false))))else(cr ((0:Int)<=b/\b<(a.size:Int))<|some (.inl ((wr ((wr (10*c))+(wr ((IntKind.wrap .u8 ((zK a b)-48)))))),(wr (b+1))))))else(some (.inr (.inl c)))) cy (0,0)).bind (Sum.elim (λ(e:Int)=>some (e,true)) some))
def f251(a:dH):Option (Int×Int):=(f299 a).bind λc=>bif (!c)then(some (0,10))else((f300 a.qo).bind λb=>some ((wr ((wr ((wr (12*(wr (a.ja+1))))+b))+a.alter)),0))
def f205(a:ByteArray):Option (cK×Int):=((((bif (decide (0<(a.size:Int)))then(cr ((0:Int)<=(wr ((a.size:Int)-1))/\(wr ((a.size:Int)-1))<(a.size:Int))<|some (decide ((zK a (wr ((a.size:Int)-1)))=43)))else(some false)):Option Bool).bind λ(j:Bool)=>bif j then(cr (0<=(wr ((a.size:Int)-1)))<|cr (0<=(wr ((a.size:Int)-1)).toNat/\(wr ((a.size:Int)-1)).toNat<=a.size)<|some ((a.extract 0 (wr ((a.size:Int)-1)).toNat),true))else(some (a,false))):Option (ByteArray×Bool)).bind λ((b,g):(ByteArray×Bool))=>(bY (τ:=Int) (λ(d:Int)=>((bif (decide (d<(b.size:Int)))then(cr ((0:Int)<=d/\d<(b.size:Int))<|some (decide ((zK b d)≠47)))else(some false)):Option Bool).bind λ(k:Bool)=>bif k then(some (.inl (wr (d+1))))else(some (.inr d))) cy 0).bind λ(c:Int)=>bif (decide (c=(b.size:Int)))then(some ((⟨0,0,false⟩:cK),4))else(cr (0<=c)<|cr (0<=c.toNat/\c.toNat<=b.size)<|(f250 (b.extract 0 c.toNat)).bind λe=>cr (0<=(wr (c+1)))<|cr ((wr (c+1)).toNat<=b.size/\b.size<=b.size)<|(f206 (b.extract (wr (c+1)).toNat b.size)).bind λf=>((bif (decide (e.2=4))then(some true)else(some (!f.2))):Option Bool).bind λ(i:Bool)=>bif i then(some ((⟨0,0,false⟩:cK),4))else(bif (decide (e.2≠0))then(some ((⟨0,0,false⟩:cK),e.2))else((f251 e.1).bind λh=>some ((⟨h.1,f.1,g⟩:cK),0))))
def f207(a:bK):Option (bK×Int):=(f15 a).bind λb=>bif (decide (b≠0))then(some ((⟨([]:List cK),([]:List Int)⟩:bK),b))else(some (a,0))
def f147(o:ByteArray):Option (bK×Int):=(f204 o).bind λa=>(bY (τ:=Int) (λ(b:Int)=>((bif (decide (b<(a.length:Int)))then((ix a b).bind λl=>some (!(l.toList==(ByteArray.mk #[58]).toList)))else(some false)):Option Bool).bind λ(q:Bool)=>bif q then(some (.inl (wr (b+1))))else(some (.inr b))) cy 0).bind λ(c:Int)=>bif (decide (c=(a.length:Int)))then(some ((⟨([]:List cK),([]:List Int)⟩:bK),4))else((bY (τ:=((List cK)⊕(bK×Int))) (λ((h,g):(List cK×Int))=>bif (decide (g<c))then((ix a g).bind λm=>(f205 m).bind λf=>bif (decide (f.2≠0))then(some (.inr (.inr ((⟨([]:List cK),([]:List Int)⟩:bK),f.2))))else(cr (h.length+1<=bJ)<|some (.inl ((h++([f.1]:List cK)),(wr (g+1))))))else(some (.inr (.inl h)))) cy (([]:List cK),0)).bind (Sum.elim (λ(k:(List cK))=>(bY (τ:=((List Int)⊕(bK×Int))) (λ((e,d):(List Int×Int))=>bif (decide (d<(a.length:Int)))then((ix a d).bind λn=>(f206 n).bind λj=>bif (!j.2)then(some (.inr (.inr ((⟨([]:List cK),([]:List Int)⟩:bK),4))))else(cr (e.length+1<=bJ)<|some (.inl ((e++([j.1]:List Int)),(wr (d+1))))))else(some (.inr (.inl e)))) cy (([]:List Int),(wr (c+1)))).bind (Sum.elim (λ(p:(List Int))=>(f207 (⟨k,p⟩:bK)).bind λi=>some (i.1,i.2)) some)) some))
def f84(g:ByteArray):Option (bK×Int):=(f146).bind λb=>(bY (τ:=(Unit⊕(bK×Int))) (λ(a:Int)=>bif (decide (a<(b.length:Int)))then((ix b a).bind λd=>bif (d.toList==g.toList)then((f148).bind λf=>(ix f a).bind λe=>(f147 e).bind λc=>some (.inr (.inr (c.1,c.2))))else(some (.inl (wr (a+1)))))else(some (.inr (.inl ())))) cy 0).bind (Sum.elim (λ(_:Unit)=>some ((⟨([]:List cK),([]:List Int)⟩:bK),3)) some)
def f36:Option bK:=(f84 (ByteArray.mk #[108,117,116,101,54])).bind λa=>some a.1
def f37:Option ee:=some (⟨([0,1,2,3]:List Int),([0,2,3,4]:List Int),([true,false,false,false]:List Bool),12,7,2,3,4,2,1⟩:ee)
def f74(a:List bV):Option Bool:=some (decide (400<(a.length:Int)))
def f138(b:List (List bV)):Option Int:=(bY (τ:=(Unit⊕Int)) (λ(a:Int)=>bif (decide (a<(b.length:Int)))then((ix b a).bind λd=>(f74 d).bind λc=>bif c then(some (.inr (.inr a)))else(some (.inl (wr (a+1)))))else(some (.inr (.inl ())))) cy 0).bind (Sum.elim (λ(_:Unit)=>some (-1)) some)
def f73(a:List (List bV)):Option Bool:=(f138 a).bind λb=>some (decide (0<=b))
def f75(a:Int)(b:Int)(d:Int):Option Bool:=((bif (decide (b<=a))then(some (decide (a<=d)))else(some false)):Option Bool).bind λ(c:Bool)=>some c
def f28(b:List (List bV)):Option Int:=((bif (decide (6<(b.length:Int)))then(some true)else((f73 b).bind λg=>some g)):Option Bool).bind λ(j:Bool)=>bif j then(some 2)else((bY (τ:=(Unit⊕Int)) (λ(d:Int)=>bif (decide (d<(b.length:Int)))then((ix b d).bind λe=>(bY (τ:=(Unit⊕(Int⊕(Unit⊕Int)))) (λ((f,c):(Int×Int))=>bif (decide (c<(e.length:Int)))then((ix e c).bind λa=>(((f75 a.bW 0 127).bind λh=>bif (!h)then(some true)else(bif (decide (a.bX<f))then(some true)else(bif (decide (a.dr<=a.bX))then(some true)else(some (decide (262144<a.dr)))))):Option Bool).bind λ(i:Bool)=>bif i then(some (.inr (.inr (.inr (.inr 80)))))else(some (.inl (a.dr,(wr (c+1))))))else(some (.inr (.inl ())))) cy (0,0)).bind (Sum.elim (λ(_:Unit)=>some (.inl (wr (d+1)))) some))else(some (.inr (.inl ())))) cy 0).bind (Sum.elim (λ(_:Unit)=>some 0) some))
def f135(e:bK)(a:cK):Option Int:=((bif (decide (0<a.dz))then((ix e.bN (wr (a.dz-1))).bind λc=>some (wr (a.bW+c)))else(some a.bW)):Option Int).bind λ(b:Int)=>((bif a.ja then(some (wr (b+12)))else(some b)):Option Int).bind λ(d:Int)=>some d
def f70(a:bK):Option Int:=((bif (decide (14<(a.cj.length:Int)))then(some true)else(some (decide (18<(a.bN.length:Int))))):Option Bool).bind λ(g:Bool)=>bif g then(some 2)else(bif (decide ((a.cj.length:Int)=0))then(some 11)else((bY (τ:=(Unit⊕Int)) (λ((h,d):(Int×Int))=>bif (decide (d<(a.bN.length:Int)))then((ix a.bN d).bind λe=>((bif (decide (e<=h))then(some true)else(some (decide (127<e)))):Option Bool).bind λ(i:Bool)=>bif i then(some (.inr (.inr 11)))else(some (.inl (e,(wr (d+1))))))else(some (.inr (.inl ())))) cy (0,0)).bind (Sum.elim (λ(_:Unit)=>(bY (τ:=(Unit⊕Int)) (λ(c:Int)=>bif (decide (c<(a.cj.length:Int)))then((ix a.cj c).bind λb=>((bif (decide (b.dz<0))then(some true)else(some (decide ((a.bN.length:Int)<b.dz)))):Option Bool).bind λ(f:Bool)=>bif f then(some (.inr (.inr 13)))else(((bif (decide (b.bW<0))then(some true)else(bif (decide (127<b.bW))then(some true)else((f135 a b).bind λk=>some (decide (127<k))))):Option Bool).bind λ(j:Bool)=>bif j then(some (.inr (.inr 10)))else(some (.inl (wr (c+1))))))else(some (.inr (.inl ())))) cy 0).bind (Sum.elim (λ(_:Unit)=>some 0) some)) some)))
def f38(b:List (List bV))(c:bK):Option Int:=(f28 b).bind λa=>bif (decide (a≠0))then(some a)else((f70 c).bind λd=>some d)
def f85(a:Int)(b:Int)(d:Int):Option Bool:=((bif (decide (b<=a))then(some (decide (a<=d)))else(some false)):Option Bool).bind λ(c:Bool)=>some c
def f177(a:Int):Option Bool:=some (decide (a≠a))
def f149(b:Int)(a:Int):Option Bool:=(((f177 b).bind λd=>bif d then((f177 a).bind λc=>bif (!c)then(some true)else(some (decide (b<a))))else(some (decide (b<a)))):Option Bool).bind λ(e:Bool)=>some e
def f86(b:List Int):Option Bool:=(bY (τ:=(Unit⊕Bool)) (λ(a:Int)=>bif (decide (0<a))then((ix b a).bind λc=>(ix b (wr (a-1))).bind λd=>(f149 c d).bind λe=>bif e then(some (.inr (.inr false)))else(some (.inl (wr (a-1)))))else(some (.inr (.inl ())))) cy (wr ((b.length:Int)-1))).bind (Sum.elim (λ(_:Unit)=>some true) some)
def f39(a:ee):Option Int:=(((f85 (a.low.length:Int) 1 4).bind λh=>bif (!h)then(some true)else(bif (decide ((a.high.length:Int)≠(a.low.length:Int)))then(some true)else(some (decide ((a.fV.length:Int)≠(a.low.length:Int)))))):Option Bool).bind λ(k:Bool)=>bif k then(some 60)else((bY (τ:=(Unit⊕Int)) (λ(b:Int)=>bif (decide (b<(a.low.length:Int)))then((((ix a.low b).bind λe=>bif (decide (e<0))then(some true)else((ix a.high b).bind λd=>bif (decide (d<e))then(some true)else(some (decide (8<d))))):Option Bool).bind λ(f:Bool)=>bif f then(some (.inr (.inr 60)))else(some (.inl (wr (b+1)))))else(some (.inr (.inl ())))) cy 0).bind (Sum.elim (λ(_:Unit)=>(((f86 a.low).bind λl=>bif (!l)then(some true)else((f86 a.high).bind λm=>bif (!m)then(some true)else((f85 a.top 1 18).bind λn=>bif (!n)then(some true)else((f85 a.jump 0 18).bind λj=>some (!j))))):Option Bool).bind λ(o:Bool)=>bif o then(some 60)else((bY (τ:=(Unit⊕Int)) (λ(c:Int)=>bif (decide (c<5))then((ix ([a.shift,a.lift,a.k8,a.ey,a.gw]:List Int) c).bind λg=>(f85 g 0 1000).bind λi=>bif (!i)then(some (.inr (.inr 60)))else(some (.inl (wr (c+1)))))else(some (.inr (.inl ())))) cy 0).bind (Sum.elim (λ(_:Unit)=>some 0) some))) some))
def f40(a:Int)(b:Int)(d:Int):Option Bool:=((bif (decide (b<=a))then(some (decide (a<=d)))else(some false)):Option Bool).bind λ(c:Bool)=>some c
def f150(a:Int):Option (List bV):=if 0<=a/\a<=4194304 then some []else none
def f87(a:List (List bV)):Option ((List bV)):=(bY (τ:=Int) (λ((d,c):(Int×Int))=>bif (decide (c<(a.length:Int)))then((((ix a c).bind λg=>bif (decide ((wr (d+(g.length:Int)))<0))then(none)else(some (wr (d+(g.length:Int))))):Option Int).bind λ(i:Int)=>some (.inl (i,(wr (c+1)))))else(some (.inr d))) cy (0,0)).bind λ(j:Int)=>(f150 j).bind λl=>(bY (τ:=(List bV)) (λ((b,f):(List bV×Int))=>bif (decide (f<(a.length:Int)))then((ix a f).bind λe=>((bif e.isEmpty then(some b)else(cr (b.length+e.length<=bJ)<|some (b++e))):Option (List bV)).bind λ(k:(List bV))=>some (.inl (k,(wr (f+1)))))else(some (.inr b))) cy (l,0)).bind λ(h:(List bV))=>some h
def f89(a:bV)(b:bV):Option Bool:=((bif (decide (a.bX<=b.dr))then(some (decide (b.dr<a.dr)))else(some false)):Option Bool).bind λ(c:Bool)=>some c
def f151(b:List bV)(e:bV):Option Int:=(bY (τ:=(Unit⊕Int)) (λ(a:Int)=>bif (decide (a<(b.length:Int)))then((ix b a).bind λd=>(f89 d e).bind λc=>bif c then(some (.inr (.inr a)))else(some (.inl (wr (a+1)))))else(some (.inr (.inl ())))) cy 0).bind (Sum.elim (λ(_:Unit)=>some (-1)) some)
def f88(a:List bV)(b:bV):Option Bool:=(f151 a b).bind λc=>some (decide (0<=c))
def f90(a:List Int):Option (List Int):=if a.length<=4194304 then some (jX a)else none
def f91(a:List Int):Option (List Int):=if 0<a.length/\a.length<=4194304 then some (Go.Lib.compact a)else none
def f41(i:List (List bV)):Option ((List Int)):=(f87 i).bind λc=>(bY (τ:=(List Int)) (λ((a,d):(List Int×Int))=>bif (decide (d<(c.length:Int)))then((((ix c d).bind λb=>cr (a.length+1<=bJ)<|(f88 c b).bind λh=>bif (!h)then(cr ((a++([b.bX]:List Int)).length+1<=bJ)<|some ((a++([b.bX]:List Int))++([b.dr]:List Int)))else(some (a++([b.bX]:List Int)))):Option (List Int)).bind λ(j:(List Int))=>some (.inl (j,(wr (d+1)))))else(some (.inr a))) cy (([0]:List Int),0)).bind λ(e:(List Int))=>(f90 e).bind λf=>cr (f.length=e.length)<|(f91 f).bind λg=>some g
def f93(a:cI):Option Int:=((bif (decide (a.value<1))then(some true)else(bif (decide (7<a.value))then(some true)else(bif a.dot then(some a.three)else(some false)))):Option Bool).bind λ(b:Bool)=>bif b then(some 0)else(cr (0<=(wr (a.value-1)))<|bif a.dot then(some (wr ((wr (Int.tdiv (dZ 384 (wr (a.value-1))) 2))*3)))else(bif a.three then(some (wr ((wr (Int.tdiv (dZ 384 (wr (a.value-1))) 3))*2)))else(some (dZ 384 (wr (a.value-1))))))
def f154(a:cI)(b:cI):Option Int:=(f93 b).bind λc=>(f93 a).bind λd=>some (wr (c-d))
def f153(a:List cI):Option (List cI):=rL f154 a
def f92:Option ((List cI)):=(bY (τ:=(List cI)) (λ((b,a):(List cI×Int))=>bif (decide (a<=7))then(cr (b.length+3<=bJ)<|some (.inl ((b++([(⟨a,false,false⟩:cI),(⟨a,true,false⟩:cI),(⟨a,false,true⟩:cI)]:List cI)),(wr (a+1)))))else(some (.inr b))) cy (([]:List cI),1)).bind λ(c:(List cI))=>(f153 c).bind λd=>cr (d.length=c.length)<|some d
def f94r:Nat->Int->Int->(List cI)->(List Int)->(List cI)->Option (Bool×List cI)
 |0,_,_,_,_,_=>none
 |l+1,b,o,e,g,i=>bif (decide (b=0))then(some (true,i))else((bY (τ:=((List cI)⊕(Bool×List cI))) (λ((d,f):(List cI×Int))=>bif (decide (f<(e.length:Int)))then((((ix e f).bind λh=>(f93 h).bind λc=>((bif (decide (o<c))then(some true)else(bif (decide (b<c))then(some true)else((ix g (wr (b-c))).bind λn=>(ix g b).bind λj=>some (decide (n≠(wr (j-1))))))):Option Bool).bind λ(m:Bool)=>bif m then(some (.inl d))else(cr (d.length+1<=bJ)<|(f94r l (wr (b-c)) c e g (d++([h]:List cI))).bind λa=>bif a.1 then(some (.inr (.inr (.inr (true,a.2)))))else(cr (0<=(wr ((a.2.length:Int)-1)))<|cr ((wr ((a.2.length:Int)-1)).toNat<=a.2.length)<|cr ((wr ((a.2.length:Int)-1)).toNat<=a.2.length)<|some (.inl (a.2.take (wr ((a.2.length:Int)-1)).toNat))))):Option ((List cI)⊕((List cI×Int)⊕((List cI)⊕(Bool×List cI))))).bind (Sum.elim (λ(k:(List cI))=>some (.inl (k,(wr (f+1))))) some))else(some (.inr (.inl d)))) cy (i,0)).bind (Sum.elim (λ(p:(List cI))=>some (false,p)) some))
def f94(d:Int)(c:Int)(a:List cI)(e:List Int)(b:List cI):Option (Bool×List cI):=f94r cy d c a e b
def f42(b:Int):Option (((List cI))×Int):=((bif (decide (b<0))then(some true)else(some (decide (4608<b)))):Option Bool).bind λ(p:Bool)=>bif p then(some (([]:List cI),1))else((f92).bind λe=>cr (0<=(wr (b+1)))<|cr ((wr (b+1))<=(bJ:Int))<|(bY (τ:=(List Int)) (λ((f,a):(List Int×Int))=>bif (decide (a<=b))then((ix f a).bind λs=>(bY (τ:=(List Int)) (λ((c,d):(List Int×Int))=>bif (decide (d<(e.length:Int)))then((((ix e d).bind λk=>(f93 k).bind λg=>((bif (decide (0<=(wr (a-g))))then((ix c (wr (a-g))).bind λi=>bif (decide (0<=i))then((ix c a).bind λj=>bif (decide (j<0))then(some true)else(some (decide ((wr (i+1))<j))))else(some false))else(some false)):Option Bool).bind λ(m:Bool)=>bif m then((ix c (wr (a-g))).bind λn=>(ix c a).bind λt=>some (c.set a.toNat (wr (n+1))))else(some c)):Option (List Int)).bind λ(q:(List Int))=>some (.inl (q,(wr (d+1)))))else(some (.inr c))) cy ((f.set a.toNat (-1)),0)).bind λ(l:(List Int))=>some (.inl (l,(wr (a+1)))))else(some (.inr f))) cy ((List.replicate (wr (b+1)).toNat (0:Int)),1)).bind λ(h:(List Int))=>(ix h b).bind λo=>bif (decide (o<0))then(some (([]:List cI),25))else((f94 b 768 e h ([]:List cI)).bind λr=>some (r.2,0)))
def f95(a:Int):Option (List cI):=if 0<=a/\a<=4194304 then some []else none
def f43(a:List (List cI)):Option ((List cI)):=(bY (τ:=Int) (λ((d,c):(Int×Int))=>bif (decide (c<(a.length:Int)))then((((ix a c).bind λg=>bif (decide ((wr (d+(g.length:Int)))<0))then(none)else(some (wr (d+(g.length:Int))))):Option Int).bind λ(i:Int)=>some (.inl (i,(wr (c+1)))))else(some (.inr d))) cy (0,0)).bind λ(j:Int)=>(f95 j).bind λl=>(bY (τ:=(List cI)) (λ((b,f):(List cI×Int))=>bif (decide (f<(a.length:Int)))then((ix a f).bind λe=>((bif e.isEmpty then(some b)else(cr (b.length+e.length<=bJ)<|some (b++e))):Option (List cI)).bind λ(k:(List cI))=>some (.inl (k,(wr (f+1)))))else(some (.inr b))) cy (l,0)).bind λ(h:(List cI))=>some h
def f44(a:List cK):Option ((List cK)):=((bif a.isEmpty then(some ([]:List cK))else(cr (a.length<=bJ)<|some a)):Option (List cK)).bind λ(b:(List cK))=>some b
def f45(a:List Int):Option ((List Int)):=((bif a.isEmpty then(some ([]:List Int))else(cr (a.length<=bJ)<|some a)):Option (List Int)).bind λ(b:(List Int))=>some b
def f47(a:List bV):Option (List bn):=cr (0<=(a.length:Int))<|cr ((a.length:Int)<=(bJ:Int))<|some (List.replicate (a.length:Int).toNat (⟨0,0⟩:bn))
def f46(a:List (List bV)):Option (List (List bn)):=cr ((0:Int)<=(a.length:Int))<|cr ((a.length:Int)<=(bJ:Int))<|(bY (τ:=(List (List bn))) (λ((b,c):(List (List bn)×Int))=>bif (decide (c<(a.length:Int)))then((ix a c).bind λd=>(f47 d).bind λe=>cr (b.length<cO)<|some (.inl ((b++[e]),(wr (c+1)))))else(some (.inr b))) cy (([]:List (List bn)),0)).bind λ(f:(List (List bn)))=>some f
def f156(a:bF)(b:bV):Option Bool:=some (decide (a.bW=b.bW))
def f155(b:List bF)(d:bV):Option Int:=(bY (τ:=(Unit⊕Int)) (λ(a:Int)=>bif (decide (a<(b.length:Int)))then((ix b a).bind λc=>cr (a.toNat<cO)<|(f156 c d).bind λe=>bif e then(some (.inr (.inr a)))else(some (.inl (wr (a+1)))))else(some (.inr (.inl ())))) cy 0).bind (Sum.elim (λ(_:Unit)=>some (-1)) some)
def f96(l:List (List bV))(k:Int):Option (List bF):=(bY (τ:=(List bF)) (λ((g,d):(List bF×Int))=>bif (decide (d<(l.length:Int)))then((ix l d).bind λi=>(bY (τ:=(List bF)) (λ((a,c):(List bF×Int))=>bif (decide (c<(i.length:Int)))then((((ix i c).bind λe=>bif (decide (e.bX≠k))then(some a)else((f155 a e).bind λh=>((bif (decide (h<0))then(cr (a.length<cO)<|some ((a++[(⟨([]:List b8),e.bW,k,0,(⟨0,0⟩:bn),0⟩:bF)]),(a.length:Int)))else(some (a,h))):Option (List bF×Int)).bind λ((j,f):(List bF×Int))=>(ix j f).bind λb=>cr (f.toNat<cO)<|cr (b.bO.length+1<=bJ)<|some (j.set f.toNat (⟨(b.bO++([(⟨d,c⟩:b8)]:List b8)),b.bW,b.bX,(kw b.dr e.dr),b.bP,b.cW⟩:bF)))):Option (List bF)).bind λ(n:(List bF))=>some (.inl (n,(wr (c+1)))))else(some (.inr a))) cy (g,0)).bind λ(m:(List bF))=>some (.inl (m,(wr (d+1)))))else(some (.inr g))) cy (([]:List bF),0)).bind λ(o:(List bF))=>some o
def f104(a:Int)(b:Int):Option Int:=(f177 a).bind λd=>(f177 b).bind λc=>bif d then(bif c then(some 0)else(some (-1)))else(bif c then(some 1)else(bif (decide (a<b))then(some (-1))else(bif (decide (b<a))then(some 1)else(some 0))))
def f158(a:List b8)(g:Int)(o:Int)(h:Int)(l:Int)(q:Int)(n:Int)(e:List b8)(m:Int)(i:Int)(k:Int)(f:Int)(p:Int)(j:Int):Option Int:=(ix a 0).bind λd=>(ix e 0).bind λc=>(f104 d.part c.part).bind λb=>some b
def f263(o:List bF)(g:Int)(j:Int):Option (List bF):=(bY (τ:=(List bF)) (λ((h,e):(List bF×Int))=>bif (decide (e<j))then((bY (τ:=(List bF)) (λ((c,a):(List bF×Int))=>((bif (decide (g<a))then((ix c a).bind λb=>(ix c (wr (a-1))).bind λd=>(f158 b.bO b.bW b.bX b.dr b.bP.bc b.bP.ct b.cW d.bO d.bW d.bX d.dr d.bP.bc d.bP.ct d.cW).bind λn=>some (decide (n<0)))else(some false)):Option Bool).bind λ(m:Bool)=>bif m then((ix c (wr (a-1))).bind λf=>(ix c a).bind λi=>(ix (c.set a.toNat f) (wr (a-1))).bind λp=>some (.inl (((c.set a.toNat f).set (wr (a-1)).toNat i),(wr (a-1)))))else(some (.inr c))) cy (h,e)).bind λ(l:(List bF))=>some (.inl (l,(wr (e+1)))))else(some (.inr h))) cy (o,(wr (g+1)))).bind λ(k:(List bF))=>some k
def f321(h:List bF)(d:Int)(c:Int)(i:Int):Option (List bF):=(bY (τ:=(List bF)) (λ((b,a):(List bF×Int))=>bif (decide (a<i))then((ix b (wr (c+a))).bind λe=>(ix b (wr (d+a))).bind λg=>(ix (b.set (wr (d+a)).toNat e) (wr (c+a))).bind λj=>some (.inl (((b.set (wr (d+a)).toNat e).set (wr (c+a)).toNat g),(wr (a+1)))))else(some (.inr b))) cy (h,0)).bind λ(f:(List bF))=>some f
def f305(k:List bF)(i:Int)(b:Int)(l:Int):Option (List bF):=(bY (τ:=(List bF×Int)) (λ((d,a,c):(List bF×Int×Int))=>bif (decide (a≠c))then(bif (decide (c<a))then((f321 d (wr (b-a)) b c).bind λe=>cr (e.length=d.length)<|some (.inl (e,(wr (a-c)),c)))else((f321 d (wr (b-a)) (wr ((wr (b+c))-a)) a).bind λg=>cr (g.length=d.length)<|some (.inl (g,a,(wr (c-a))))))else(some (.inr (d,a)))) cy (k,(wr (b-i)),(wr (l-b)))).bind λ((j,f):(List bF×Int))=>(f321 j (wr (b-f)) b f).bind λh=>some h
def f264r:Nat->(List bF)->Int->Int->Int->Option (List bF)
 |0,_,_,_,_=>none
 |w+1,d,a,c,b=>bif (decide ((wr (c-a))=1))then((bY (τ:=Int) (λ((p,t):(Int×Int))=>bif (decide (p<t))then((ix d (wr ((dZ (IntKind.wrap .u64 ((wr (p+t)))) 1)))).bind λn=>(ix d a).bind λj=>(f158 n.bO n.bW n.bX n.dr n.bP.bc n.bP.ct n.cW j.bO j.bW j.bX j.dr j.bP.bc j.bP.ct j.cW).bind λK=>bif (decide (K<0))then(some (.inl ((wr ((wr ((dZ (IntKind.wrap .u64 ((wr (p+t)))) 1)))+1)),t)))else(some (.inl (p,(wr ((dZ (IntKind.wrap .u64 ((wr (p+t)))) 1)))))))else(some (.inr p))) cy (c,b)).bind λ(H:Int)=>(bY (τ:=(List bF)) (λ((u,f):(List bF×Int))=>bif (decide (f<(wr (H-1))))then((ix u (wr (f+1))).bind λz=>(ix u f).bind λC=>(ix (u.set f.toNat z) (wr (f+1))).bind λR=>some (.inl (((u.set f.toNat z).set (wr (f+1)).toNat C),(wr (f+1)))))else(some (.inr u))) cy (d,a)).bind λ(N:(List bF))=>some N)else(bif (decide ((wr (b-c))=1))then((bY (τ:=Int) (λ((q,s):(Int×Int))=>bif (decide (q<s))then((ix d c).bind λk=>(ix d (wr ((dZ (IntKind.wrap .u64 ((wr (q+s)))) 1)))).bind λl=>(f158 k.bO k.bW k.bX k.dr k.bP.bc k.bP.ct k.cW l.bO l.bW l.bX l.dr l.bP.bc l.bP.ct l.cW).bind λM=>bif (!(decide (M<0)))then(some (.inl ((wr ((wr ((dZ (IntKind.wrap .u64 ((wr (q+s)))) 1)))+1)),s)))else(some (.inl (q,(wr ((dZ (IntKind.wrap .u64 ((wr (q+s)))) 1)))))))else(some (.inr q))) cy (a,c)).bind λ(E:Int)=>(bY (τ:=(List bF)) (λ((r,g):(List bF×Int))=>bif (decide (E<g))then((ix r (wr (g-1))).bind λy=>(ix r g).bind λJ=>(ix (r.set g.toNat y) (wr (g-1))).bind λS=>some (.inl (((r.set g.toNat y).set (wr (g-1)).toNat J),(wr (g-1)))))else(some (.inr r))) cy (d,c)).bind λ(P:(List bF))=>some P)else(((bif (decide ((wr ((dZ (IntKind.wrap .u64 ((wr (a+b)))) 1)))<c))then(some ((wr ((wr ((wr ((dZ (IntKind.wrap .u64 ((wr (a+b)))) 1)))+c))-b)),(wr ((dZ (IntKind.wrap .u64 ((wr (a+b)))) 1)))))else(some (a,c))):Option (Int×Int)).bind λ((O,L):(Int×Int))=>(bY (τ:=Int) (λ((m,o):(Int×Int))=>bif (decide (m<o))then((ix d (wr ((wr ((wr ((wr ((dZ (IntKind.wrap .u64 ((wr (a+b)))) 1)))+c))-1))-(wr ((dZ (IntKind.wrap .u64 ((wr (m+o)))) 1)))))).bind λh=>(ix d (wr ((dZ (IntKind.wrap .u64 ((wr (m+o)))) 1)))).bind λi=>(f158 h.bO h.bW h.bX h.dr h.bP.bc h.bP.ct h.cW i.bO i.bW i.bX i.dr i.bP.bc i.bP.ct i.cW).bind λF=>bif (!(decide (F<0)))then(some (.inl ((wr ((wr ((dZ (IntKind.wrap .u64 ((wr (m+o)))) 1)))+1)),o)))else(some (.inl (m,(wr ((dZ (IntKind.wrap .u64 ((wr (m+o)))) 1)))))))else(some (.inr m))) cy (O,L)).bind λ(e:Int)=>((((bif (decide (e<c))then(some (decide (c<(wr ((wr ((wr ((dZ (IntKind.wrap .u64 ((wr (a+b)))) 1)))+c))-e)))))else(some false)):Option Bool).bind λ(Q:Bool)=>bif Q then((f305 d e c (wr ((wr ((wr ((dZ (IntKind.wrap .u64 ((wr (a+b)))) 1)))+c))-e))).bind λx=>cr (x.length=d.length)<|some x)else(some d)):Option (List bF)).bind λ(v:(List bF))=>((((bif (decide (a<e))then(some (decide (e<(wr ((dZ (IntKind.wrap .u64 ((wr (a+b)))) 1))))))else(some false)):Option Bool).bind λ(G:Bool)=>bif G then((f264r w v a e (wr ((dZ (IntKind.wrap .u64 ((wr (a+b)))) 1)))).bind λA=>cr (A.length=v.length)<|some A)else(some v)):Option (List bF)).bind λ(B:(List bF))=>((bif (decide ((wr ((dZ (IntKind.wrap .u64 ((wr (a+b)))) 1)))<(wr ((wr ((wr ((dZ (IntKind.wrap .u64 ((wr (a+b)))) 1)))+c))-e))))then(some (decide ((wr ((wr ((wr ((dZ (IntKind.wrap .u64 ((wr (a+b)))) 1)))+c))-e))<b)))else(some false)):Option Bool).bind λ(D:Bool)=>bif D then((f264r w B (wr ((dZ (IntKind.wrap .u64 ((wr (a+b)))) 1))) (wr ((wr ((wr ((dZ (IntKind.wrap .u64 ((wr (a+b)))) 1)))+c))-e)) b).bind λI=>some I)else(some B)))
def f264(a:List bF)(b:Int)(c:Int)(d:Int):Option (List bF):=f264r cy a b c d
def f217(r:List bF)(b:Int):Option (List bF):=(bY (τ:=(List bF×Int)) (λ((f,j,c):(List bF×Int×Int))=>bif (decide (c<=b))then((f263 f j c).bind λm=>cr (m.length=f.length)<|some (.inl (m,c,(wr (c+20)))))else(some (.inr (f,j)))) cy (r,0,20)).bind λ((l,t):(List bF×Int))=>(f263 l t b).bind λp=>cr (p.length=l.length)<|(bY (τ:=(List bF)) (λ((n,a):(List bF×Int))=>bif (decide (a<b))then((bY (τ:=(List bF×Int)) (λ((g,e,d):(List bF×Int×Int))=>bif (decide (d<=b))then((f264 g e (wr (e+a)) d).bind λk=>cr (k.length=g.length)<|some (.inl (k,d,(wr (d+(wr (2*a)))))))else(some (.inr (g,e)))) cy (n,0,(wr (2*a)))).bind λ((h,i):(List bF×Int))=>((bif (decide ((wr (i+a))<b))then((f264 h i (wr (i+a)) b).bind λo=>cr (o.length=h.length)<|some o)else(some h)):Option (List bF)).bind λ(q:(List bF))=>some (.inl (q,(wr (a*2)))))else(some (.inr n))) cy (p,20)).bind λ(s:(List bF))=>some s
def f157(a:List bF):Option (List bF):=(f217 a (a.length:Int)).bind λb=>some b
def f97(f:cM)(g:Int):Option (List bF):=(bY (τ:=(List bF)) (λ((a,b):(List bF×Int))=>bif (decide (b<(f.cV.length:Int)))then((((ix f.cV b).bind λc=>bif (decide (g<c.dr))then(cr (a.length+1<=bJ)<|some (a++([c]:List bF)))else(some a)):Option (List bF)).bind λ(h:(List bF))=>some (.inl (h,(wr (b+1)))))else(some (.inr a))) cy (([]:List bF),0)).bind λ(d:(List bF))=>(f157 d).bind λe=>cr (e.length=d.length)<|some e
def f159(a:cM)(b:List bF)(c:List bF):Option Unit:=some ()
def f219(a:Int):Option Unit:=some ()
def f134(b:List Bool)(c:Bool):Option Int:=(bY (τ:=(Unit⊕Int)) (λ(a:Int)=>bif (decide (a<(b.length:Int)))then((ix b a).bind λd=>bif (c==d)then(some (.inr (.inr a)))else(some (.inl (wr (a+1)))))else(some (.inr (.inl ())))) cy 0).bind (Sum.elim (λ(_:Unit)=>some (-1)) some)
def f69(a:List Bool)(b:Bool):Option Bool:=(f134 a b).bind λc=>some (decide (0<=c))
def f268(a:List bn):Option (List bn):=((bif a.isEmpty then(some ([]:List bn))else(cr (a.length<=bJ)<|some a)):Option (List bn)).bind λ(b:(List bn))=>some b
def f71(c:bK)(a:cK)(b:Int):Option Int:=bif (decide (b=0))then(some a.bW)else((ix c.bN (wr (b-1))).bind λd=>some (wr (a.bW+d)))
def f124(d:bK)(e:Int):Option (((List bn))×Int):=(f70 d).bind λf=>bif (decide (f≠0))then(some (([]:List bn),f))else(((bif (decide (e<0))then(some true)else(some (decide (127<e)))):Option Bool).bind λ(m:Bool)=>bif m then(some (([]:List bn),10))else((bY (τ:=(List bn)) (λ((g,b):(List bn×Int))=>bif (decide (b<(d.cj.length:Int)))then((ix d.cj b).bind λh=>(bY (τ:=(List bn)) (λ((c,a):(List bn×Int))=>bif (decide (a<=h.dz))then((((f71 d h a).bind λk=>bif (decide (k=e))then(cr (c.length+1<=bJ)<|some (c++([(⟨(wr (b+1)),a⟩:bn)]:List bn)))else(some c)):Option (List bn)).bind λ(i:(List bn))=>some (.inl (i,(wr (a+1)))))else(some (.inr c))) cy (g,0)).bind λ(j:(List bn))=>some (.inl (j,(wr (b+1)))))else(some (.inr g))) cy (([]:List bn),0)).bind λ(l:(List bn))=>some (l,0)))
def f274(a:bn)(b:Int):Option Bool:=some (decide (a.bc=b))
def f185(b:List bn)(e:Int):Option Int:=(bY (τ:=(Unit⊕Int)) (λ(a:Int)=>bif (decide (a<(b.length:Int)))then((ix b a).bind λd=>(f274 d e).bind λc=>bif c then(some (.inr (.inr a)))else(some (.inl (wr (a+1)))))else(some (.inr (.inl ())))) cy 0).bind (Sum.elim (λ(_:Unit)=>some (-1)) some)
def f190(a:List bn)(b:Int):Option Bool:=(f185 a b).bind λc=>some (decide (0<=c))
def f223(a:List bn)(b:Int):Option Bool:=(f190 a b).bind λc=>some c
def f267r:Nat->Int->(List bF)->(List (List bn))->(List bn)->(List Bool)->bK->Int->Option (List (List bn)×List bn)
 |0,_,_,_,_,_,_,_=>none
 |l+1,a,e,d,c,j,f,h=>bif (decide (a=(e.length:Int)))then((f268 c).bind λt=>cr (d.length+1<=bJ)<|some ((d++([t]:List (List bn))),c))else((ix c a).bind λy=>(ix j a).bind λv=>bif v then((f267r l (wr (a+1)) e d (c.set a.toNat (⟨0,0⟩:bn)) j f h).bind λm=>some (m.1,m.2))else((ix e a).bind λr=>cr (a.toNat<cO)<|(f124 f (wr (r.bW+h))).bind λk=>bif (decide (k.2≠0))then(some (d,(c.set a.toNat (⟨0,0⟩:bn))))else((bY (τ:=(List (List bn)×List bn)) (λ((b,g,i):(List bn×List (List bn)×Int))=>bif (decide (i<(k.1.length:Int)))then((((ix k.1 i).bind λn=>cr (0<=a)<|cr (a.toNat<=b.length)<|cr (0+a.toNat<=b.length)<|(f223 (b.take a.toNat) n.bc).bind λp=>bif (!p)then((ix b a).bind λx=>(f267r l (wr (a+1)) e g (b.set a.toNat n) j f h).bind λo=>some (o.2,o.1))else(some (b,g))):Option (List bn×List (List bn))).bind λ((q,w):(List bn×List (List bn)))=>some (.inl (q,w,(wr (i+1)))))else(some (.inr (g,b)))) cy ((c.set a.toNat (⟨0,0⟩:bn)),d,0)).bind λ((u,s):(List (List bn)×List bn))=>some (u,s))))
def f267(e:Int)(d:List bF)(a:List (List bn))(g:List bn)(b:List Bool)(c:bK)(f:Int):Option (List (List bn)×List bn):=f267r cy e d a g b c f
def f271(c:List bn):Option Int:=(bY (τ:=Int) (λ((b,a):(Int×Int))=>bif (decide (a<(c.length:Int)))then((ix c a).bind λd=>some (.inl ((wr (b+d.ct)),(wr (a+1)))))else(some (.inr b))) cy (0,0)).bind λ(e:Int)=>some e
def f273(a:bn)(b:bn):Option Int:=(f104 a.bc b.bc).bind λc=>some c
def f272(c:List bn)(b:List bn):Option Int:=(bY (τ:=(Unit⊕Int)) (λ(a:Int)=>bif (decide (a<(c.length:Int)))then((ix c a).bind λe=>bif (decide ((b.length:Int)<=a))then(some (.inr (.inr 1)))else((ix b a).bind λf=>(f273 e f).bind λd=>bif (decide (d≠0))then(some (.inr (.inr d)))else(some (.inl (wr (a+1))))))else(some (.inr (.inl ())))) cy 0).bind (Sum.elim (λ(_:Unit)=>bif (decide ((c.length:Int)<(b.length:Int)))then(some (-1))else(some 0)) some)
def f103(b:List Int):Option Int:=(bY (τ:=(Unit⊕Int)) (λ(a:Int)=>bif (decide (a<(b.length:Int)))then((ix b a).bind λc=>bif (decide (c≠0))then(some (.inr (.inr c)))else(some (.inl (wr (a+1)))))else(some (.inr (.inl ())))) cy 0).bind (Sum.elim (λ(_:Unit)=>some 0) some)
def f270(b:List bn)(a:List bn):Option Int:=(f271 b).bind λd=>(f271 a).bind λe=>(f104 d e).bind λc=>(f272 b a).bind λg=>(f103 ([c,g]:List Int)).bind λf=>some f
def f322(o:List (List bn))(e:Int)(h:Int):Option (List (List bn)):=(bY (τ:=(List (List bn))) (λ((f,c):(List (List bn)×Int))=>bif (decide (c<h))then((bY (τ:=(List (List bn))) (λ((b,a):(List (List bn)×Int))=>((bif (decide (e<a))then((ix b a).bind λj=>(ix b (wr (a-1))).bind λm=>(f270 j m).bind λn=>some (decide (n<0)))else(some false)):Option Bool).bind λ(l:Bool)=>bif l then((ix b (wr (a-1))).bind λd=>(ix b a).bind λg=>(ix (b.set a.toNat d) (wr (a-1))).bind λp=>some (.inl (((b.set a.toNat d).set (wr (a-1)).toNat g),(wr (a-1)))))else(some (.inr b))) cy (f,c)).bind λ(k:(List (List bn)))=>some (.inl (k,(wr (c+1)))))else(some (.inr f))) cy (o,(wr (e+1)))).bind λ(i:(List (List bn)))=>some i
def f331(h:List (List bn))(d:Int)(c:Int)(i:Int):Option (List (List bn)):=(bY (τ:=(List (List bn))) (λ((b,a):(List (List bn)×Int))=>bif (decide (a<i))then((ix b (wr (c+a))).bind λe=>(ix b (wr (d+a))).bind λg=>(ix (b.set (wr (d+a)).toNat e) (wr (c+a))).bind λj=>some (.inl (((b.set (wr (d+a)).toNat e).set (wr (c+a)).toNat g),(wr (a+1)))))else(some (.inr b))) cy (h,0)).bind λ(f:(List (List bn)))=>some f
def f329(k:List (List bn))(i:Int)(b:Int)(l:Int):Option (List (List bn)):=(bY (τ:=(List (List bn)×Int)) (λ((d,a,c):(List (List bn)×Int×Int))=>bif (decide (a≠c))then(bif (decide (c<a))then((f331 d (wr (b-a)) b c).bind λe=>cr (e.length=d.length)<|some (.inl (e,(wr (a-c)),c)))else((f331 d (wr (b-a)) (wr ((wr (b+c))-a)) a).bind λg=>cr (g.length=d.length)<|some (.inl (g,a,(wr (c-a))))))else(some (.inr (d,a)))) cy (k,(wr (b-i)),(wr (l-b)))).bind λ((j,f):(List (List bn)×Int))=>(f331 j (wr (b-f)) b f).bind λh=>some h
def f323r:Nat->(List (List bn))->Int->Int->Int->Option (List (List bn))
 |0,_,_,_,_=>none
 |q+1,d,a,c,b=>bif (decide ((wr (c-a))=1))then((bY (τ:=Int) (λ((j,n):(Int×Int))=>bif (decide (j<n))then((ix d (wr ((dZ (IntKind.wrap .u64 ((wr (j+n)))) 1)))).bind λQ=>(ix d a).bind λG=>(f270 Q G).bind λH=>bif (decide (H<0))then(some (.inl ((wr ((wr ((dZ (IntKind.wrap .u64 ((wr (j+n)))) 1)))+1)),n)))else(some (.inl (j,(wr ((dZ (IntKind.wrap .u64 ((wr (j+n)))) 1)))))))else(some (.inr j))) cy (c,b)).bind λ(D:Int)=>(bY (τ:=(List (List bn))) (λ((o,f):(List (List bn)×Int))=>bif (decide (f<(wr (D-1))))then((ix o (wr (f+1))).bind λt=>(ix o f).bind λw=>(ix (o.set f.toNat t) (wr (f+1))).bind λR=>some (.inl (((o.set f.toNat t).set (wr (f+1)).toNat w),(wr (f+1)))))else(some (.inr o))) cy (d,a)).bind λ(K:(List (List bn)))=>some K)else(bif (decide ((wr (b-c))=1))then((bY (τ:=Int) (λ((k,m):(Int×Int))=>bif (decide (k<m))then((ix d c).bind λL=>(ix d (wr ((dZ (IntKind.wrap .u64 ((wr (k+m)))) 1)))).bind λN=>(f270 L N).bind λJ=>bif (!(decide (J<0)))then(some (.inl ((wr ((wr ((dZ (IntKind.wrap .u64 ((wr (k+m)))) 1)))+1)),m)))else(some (.inl (k,(wr ((dZ (IntKind.wrap .u64 ((wr (k+m)))) 1)))))))else(some (.inr k))) cy (a,c)).bind λ(z:Int)=>(bY (τ:=(List (List bn))) (λ((l,g):(List (List bn)×Int))=>bif (decide (z<g))then((ix l (wr (g-1))).bind λs=>(ix l g).bind λF=>(ix (l.set g.toNat s) (wr (g-1))).bind λS=>some (.inl (((l.set g.toNat s).set (wr (g-1)).toNat F),(wr (g-1)))))else(some (.inr l))) cy (d,c)).bind λ(O:(List (List bn)))=>some O)else(((bif (decide ((wr ((dZ (IntKind.wrap .u64 ((wr (a+b)))) 1)))<c))then(some ((wr ((wr ((wr ((dZ (IntKind.wrap .u64 ((wr (a+b)))) 1)))+c))-b)),(wr ((dZ (IntKind.wrap .u64 ((wr (a+b)))) 1)))))else(some (a,c))):Option (Int×Int)).bind λ((M,I):(Int×Int))=>(bY (τ:=Int) (λ((h,i):(Int×Int))=>bif (decide (h<i))then((ix d (wr ((wr ((wr ((wr ((dZ (IntKind.wrap .u64 ((wr (a+b)))) 1)))+c))-1))-(wr ((dZ (IntKind.wrap .u64 ((wr (h+i)))) 1)))))).bind λy=>(ix d (wr ((dZ (IntKind.wrap .u64 ((wr (h+i)))) 1)))).bind λB=>(f270 y B).bind λA=>bif (!(decide (A<0)))then(some (.inl ((wr ((wr ((dZ (IntKind.wrap .u64 ((wr (h+i)))) 1)))+1)),i)))else(some (.inl (h,(wr ((dZ (IntKind.wrap .u64 ((wr (h+i)))) 1)))))))else(some (.inr h))) cy (M,I)).bind λ(e:Int)=>((((bif (decide (e<c))then(some (decide (c<(wr ((wr ((wr ((dZ (IntKind.wrap .u64 ((wr (a+b)))) 1)))+c))-e)))))else(some false)):Option Bool).bind λ(P:Bool)=>bif P then((f329 d e c (wr ((wr ((wr ((dZ (IntKind.wrap .u64 ((wr (a+b)))) 1)))+c))-e))).bind λr=>cr (r.length=d.length)<|some r)else(some d)):Option (List (List bn))).bind λ(p:(List (List bn)))=>((((bif (decide (a<e))then(some (decide (e<(wr ((dZ (IntKind.wrap .u64 ((wr (a+b)))) 1))))))else(some false)):Option Bool).bind λ(C:Bool)=>bif C then((f323r q p a e (wr ((dZ (IntKind.wrap .u64 ((wr (a+b)))) 1)))).bind λu=>cr (u.length=p.length)<|some u)else(some p)):Option (List (List bn))).bind λ(v:(List (List bn)))=>((bif (decide ((wr ((dZ (IntKind.wrap .u64 ((wr (a+b)))) 1)))<(wr ((wr ((wr ((dZ (IntKind.wrap .u64 ((wr (a+b)))) 1)))+c))-e))))then(some (decide ((wr ((wr ((wr ((dZ (IntKind.wrap .u64 ((wr (a+b)))) 1)))+c))-e))<b)))else(some false)):Option Bool).bind λ(x:Bool)=>bif x then((f323r q v (wr ((dZ (IntKind.wrap .u64 ((wr (a+b)))) 1))) (wr ((wr ((wr ((dZ (IntKind.wrap .u64 ((wr (a+b)))) 1)))+c))-e)) b).bind λE=>some E)else(some v)))
def f323(a:List (List bn))(b:Int)(c:Int)(d:Int):Option (List (List bn)):=f323r cy a b c d
def f306(r:List (List bn))(b:Int):Option (List (List bn)):=(bY (τ:=(List (List bn)×Int)) (λ((f,j,c):(List (List bn)×Int×Int))=>bif (decide (c<=b))then((f322 f j c).bind λm=>cr (m.length=f.length)<|some (.inl (m,c,(wr (c+20)))))else(some (.inr (f,j)))) cy (r,0,20)).bind λ((l,t):(List (List bn)×Int))=>(f322 l t b).bind λp=>cr (p.length=l.length)<|(bY (τ:=(List (List bn))) (λ((n,a):(List (List bn)×Int))=>bif (decide (a<b))then((bY (τ:=(List (List bn)×Int)) (λ((g,e,d):(List (List bn)×Int×Int))=>bif (decide (d<=b))then((f323 g e (wr (e+a)) d).bind λk=>cr (k.length=g.length)<|some (.inl (k,d,(wr (d+(wr (2*a)))))))else(some (.inr (g,e)))) cy (n,0,(wr (2*a)))).bind λ((h,i):(List (List bn)×Int))=>((bif (decide ((wr (i+a))<b))then((f323 h i (wr (i+a)) b).bind λo=>cr (o.length=h.length)<|some o)else(some h)):Option (List (List bn))).bind λ(q:(List (List bn)))=>some (.inl (q,(wr (a*2)))))else(some (.inr n))) cy (p,20)).bind λ(s:(List (List bn)))=>some s
def f269(a:List (List bn)):Option (List (List bn)):=(f306 a (a.length:Int)).bind λb=>some b
def f220(e:bK)(a:List bF)(d:List Bool)(f:Int):Option (List (List bn)):=cr (0<=(a.length:Int))<|cr ((a.length:Int)<=(bJ:Int))<|(f267 0 a ([]:List (List bn)) (List.replicate (a.length:Int).toNat (⟨0,0⟩:bn)) d e f).bind λb=>(f269 b.1).bind λc=>cr (c.length=b.1.length)<|some c
def f221(a:List Bool):Option (List Bool):=((bif a.isEmpty then(some ([]:List Bool))else(cr (a.length<=bJ)<|some a)):Option (List Bool)).bind λ(b:(List Bool))=>some b
def f222(j:cM)(c:bU)(e:List bF):Option Bool:=(bY (τ:=(Unit⊕Bool)) (λ(a:Int)=>bif (decide (a<(e.length:Int)))then((ix e a).bind λb=>(f223 c.places b.bP.bc).bind λd=>(((ix c.cut a).bind λi=>bif i then(bif (decide (b.bP.ct=0))then(some (!d))else(some false))else(some false)):Option Bool).bind λ(l:Bool)=>bif l then(some (.inr (.inr false)))else((((ix c.cut a).bind λf=>bif (!f)then(some d)else(some false)):Option Bool).bind λ(g:Bool)=>bif g then(some (.inr (.inr false)))else((((ix c.cut a).bind λh=>bif (!h)then(bif (decide (0<b.bP.ct))then(some (decide (15<(wr ((j.bM.bG.length:Int)-b.cW)))))else(some false))else(some false)):Option Bool).bind λ(k:Bool)=>bif k then(some (.inr (.inr false)))else(some (.inl (wr (a+1)))))))else(some (.inr (.inl ())))) cy 0).bind (Sum.elim (λ(_:Unit)=>some true) some)
def f225(a:bn)(b:bn):Option Int:=(f104 a.bc b.bc).bind λc=>some c
def f224(a:List bn):Option (List bn):=rL f225 a
def f160(l:cM)(e:bU)(q:List bF):Option bR:=(bY (τ:=(List bn×List Int)) (λ((d,f,h):(List bn×List Int×Int))=>bif (decide (h<(q.length:Int)))then((((ix q h).bind λj=>(((ix e.cut h).bind λB=>bif (!B)then(some (decide (0<j.bP.ct)))else(some false)):Option Bool).bind λ(u:Bool)=>bif u then(cr (d.length+1<=bJ)<|cr (f.length+1<=bJ)<|some ((d++([j.bP]:List bn)),(f++([j.bP.bc]:List Int))))else(some (d,f))):Option (List bn×List Int)).bind λ((C,v):(List bn×List Int))=>some (.inl (C,v,(wr (h+1)))))else(some (.inr (d,f)))) cy (([]:List bn),([]:List Int),0)).bind λ((x,r):(List bn×List Int))=>(bY (τ:=(List bn×List Int)) (λ((b,a,i):(List bn×List Int×Int))=>bif (decide (i<(e.places.length:Int)))then((((ix e.places i).bind λc=>bif (decide (0<c.ct))then(cr (b.length+1<=bJ)<|some ((b++([c]:List bn)),a))else(bif (decide (0<c.bc))then(cr (a.length+1<=bJ)<|some (b,(a++([c.bc]:List Int))))else(some (b,a)))):Option (List bn×List Int)).bind λ((A,D):(List bn×List Int))=>some (.inl (A,D,(wr (i+1)))))else(some (.inr (b,a)))) cy (x,([]:List Int),0)).bind λ((n,y):(List bn×List Int))=>(bY (τ:=(List Int)) (λ((g,k):(List Int×Int))=>bif (decide (k<(l.dw.db.length:Int)))then((((ix l.dw.db k).bind λp=>(f223 e.places p).bind λw=>bif (!w)then(cr (g.length+1<=bJ)<|some (g++([p]:List Int)))else(some g)):Option (List Int)).bind λ(z:(List Int))=>some (.inl (z,(wr (k+1)))))else(some (.inr g))) cy (y,0)).bind λ(s:(List Int))=>(f224 n).bind λm=>cr (m.length=n.length)<|(f90 r).bind λt=>cr (t.length=r.length)<|(f90 s).bind λo=>cr (o.length=s.length)<|some (⟨m,t,o⟩:bR)
def f118(b:List Int):Option Bool:=(bY (τ:=(Unit⊕Bool)) (λ(a:Int)=>bif (decide (a<(b.length:Int)))then((ix b a).bind λd=>(ix b (wr (a-1))).bind λc=>bif (decide (d<=c))then(some (.inr (.inr false)))else(some (.inl (wr (a+1)))))else(some (.inr (.inl ())))) cy 1).bind (Sum.elim (λ(_:Unit)=>some true) some)
def f186(a:bn)(b:Int):Option Bool:=some (decide (a.bc=b))
def f185_1(b:List bn)(e:Int):Option Int:=(bY (τ:=(Unit⊕Int)) (λ(a:Int)=>bif (decide (a<(b.length:Int)))then((ix b a).bind λd=>(f186 d e).bind λc=>bif c then(some (.inr (.inr a)))else(some (.inl (wr (a+1)))))else(some (.inr (.inl ())))) cy 0).bind (Sum.elim (λ(_:Unit)=>some (-1)) some)
def f119(a:bR)(b:Int):Option Int:=(f185_1 a.cD b).bind λc=>some c
def f59(a:bR):Option Bool:=(bY (τ:=(Unit⊕Bool)) (λ((h,c):(Int×Int))=>bif (decide (c<(a.cD.length:Int)))then((ix a.cD c).bind λb=>((bif (decide (b.bc<=h))then(some true)else(bif (decide (14<b.bc))then(some true)else((f85 b.ct 1 18).bind λn=>some (!n)))):Option Bool).bind λ(g:Bool)=>bif g then(some (.inr (.inr false)))else(some (.inl (b.bc,(wr (c+1))))))else(some (.inr (.inl ())))) cy (0,0)).bind (Sum.elim (λ(_:Unit)=>(((f118 a.held).bind λk=>bif (!k)then(some true)else((f118 a.db).bind λq=>some (!q))):Option Bool).bind λ(o:Bool)=>bif o then(some false)else((bY (τ:=(Unit⊕Bool)) (λ(d:Int)=>bif (decide (d<(a.held.length:Int)))then((ix a.held d).bind λl=>(f119 a l).bind λm=>bif (decide (m<0))then(some (.inr (.inr false)))else(some (.inl (wr (d+1)))))else(some (.inr (.inl ())))) cy 0).bind (Sum.elim (λ(_:Unit)=>(bY (τ:=(Unit⊕Bool)) (λ(e:Int)=>bif (decide (e<(a.db.length:Int)))then((ix a.db e).bind λf=>(((f85 f 1 14).bind λj=>bif (!j)then(some true)else((f119 a f).bind λi=>some (decide (0<=i)))):Option Bool).bind λ(p:Bool)=>bif p then(some (.inr (.inr false)))else(some (.inl (wr (e+1)))))else(some (.inr (.inl ())))) cy 0).bind (Sum.elim (λ(_:Unit)=>some true) some)) some))) some)
def f187(b:List Int)(c:Int):Option Int:=(bY (τ:=(Unit⊕Int)) (λ(a:Int)=>bif (decide (a<(b.length:Int)))then((ix b a).bind λd=>bif (decide (c=d))then(some (.inr (.inr a)))else(some (.inl (wr (a+1)))))else(some (.inr (.inl ())))) cy 0).bind (Sum.elim (λ(_:Unit)=>some (-1)) some)
def f189(a:Int)(d:Int)(c:Int):Option Bool:=((bif (decide (d<a))then(some (decide (a<c)))else(some false)):Option Bool).bind λ(b:Bool)=>some b
def f243(b:List Int)(e:Int)(f:Int):Option Int:=(bY (τ:=(Unit⊕Int)) (λ(a:Int)=>bif (decide (a<(b.length:Int)))then((ix b a).bind λd=>(f189 d e f).bind λc=>bif c then(some (.inr (.inr a)))else(some (.inl (wr (a+1)))))else(some (.inr (.inl ())))) cy 0).bind (Sum.elim (λ(_:Unit)=>some (-1)) some)
def f188(a:List Int)(b:Int)(d:Int):Option Bool:=(f243 a b d).bind λc=>some (decide (0<=c))
def f191(a:bn)(b:Int):Option Bool:=some (decide (a.ct<b))
def f185_2(b:List bn)(e:Int):Option Int:=(bY (τ:=(Unit⊕Int)) (λ(a:Int)=>bif (decide (a<(b.length:Int)))then((ix b a).bind λd=>(f191 d e).bind λc=>bif c then(some (.inr (.inr a)))else(some (.inl (wr (a+1)))))else(some (.inr (.inl ())))) cy 0).bind (Sum.elim (λ(_:Unit)=>some (-1)) some)
def f190_1(a:List bn)(b:Int):Option Bool:=(f185_2 a b).bind λc=>some (decide (0<=c))
def f121(i:ee)(c:bR)(f:List Int):Option Bool:=(bY (τ:=(Unit⊕Bool)) (λ(d:Int)=>bif (decide (d<=(i.low.length:Int)))then((((f187 f d).bind λa=>bif (decide (a<0))then(some (.inl ()))else((bY (τ:=Int) (λ((h,e):(Int×Int))=>bif (decide (e<(f.length:Int)))then((((ix f e).bind λp=>bif (decide (p=d))then(some e)else(some h)):Option Int).bind λ(l:Int)=>some (.inl (l,(wr (e+1)))))else(some (.inr h))) cy (a,0)).bind λ(b:Int)=>bif (decide (a=b))then(some (.inl ()))else((((ix i.fV (wr (d-1))).bind λj=>bif (!j)then(some true)else((ix c.cD a).bind λk=>(ix c.cD b).bind λn=>some (decide (k.ct≠n.ct)))):Option Bool).bind λ(o:Bool)=>bif o then(some (.inr (.inr (.inr false))))else((ix c.cD a).bind λg=>(ix c.cD b).bind λr=>(f188 c.db g.bc r.bc).bind λq=>bif q then(some (.inr (.inr (.inr false))))else(cr (0<=a)<|cr (0<=b)<|cr (a.toNat<=b.toNat)<|cr (b.toNat<=c.cD.length)<|(f190_1 ((c.cD.take b.toNat).drop a.toNat) g.ct).bind λm=>bif m then(some (.inr (.inr (.inr false))))else(some (.inl ()))))))):Option (Unit⊕(Int⊕(Unit⊕Bool)))).bind (Sum.elim (λ(_:Unit)=>some (.inl (wr (d+1)))) some))else(some (.inr (.inl ())))) cy 1).bind (Sum.elim (λ(_:Unit)=>some true) some)
def f45_1(a:List Int):Option (List Int):=((bif a.isEmpty then(some ([]:List Int))else(cr (a.length<=bJ)<|some a)):Option (List Int)).bind λ(b:(List Int))=>some b
def f122(c:ee)(b:Int)(a:Int)(g:Int):Option Bool:=(ix c.low (wr (a-1))).bind λf=>(ix c.high (wr (a-1))).bind λe=>(f85 g (wr (b+f)) (wr (b+e))).bind λd=>some d
def f123(c:bn)(d:bn)(a:Int)(b:Int):Option Bool:=bif (decide (c.ct<d.ct))then(some (decide (a<b)))else(bif (decide (d.ct<c.ct))then(some (decide (b<a)))else(bif (decide (c.bc<d.bc))then(some (decide (b<=a)))else(some (decide (a<=b)))))
def f120r:Nat->Int->(List Int)->bR->ee->(List cp)->Option (List Int×List cp)
 |0,_,_,_,_,_=>none
 |n+1,j,a,d,g,i=>bif (decide ((a.length:Int)=(d.cD.length:Int)))then((((f121 g d a).bind λv=>bif v then((f45_1 a).bind λw=>cr (i.length+1<=bJ)<|some (i++([(⟨j,w⟩:cp)]:List cp)))else(some i)):Option (List cp)).bind λ(u:(List cp))=>some (a,u))else((bY (τ:=(List Int×List cp)) (λ((b,c,e):(List Int×List cp×Int))=>((bif (decide (e<=(g.low.length:Int)))then(some (decide ((c.length:Int)<=200)))else(some false)):Option Bool).bind λ(r:Bool)=>bif r then((((ix d.cD (a.length:Int)).bind λk=>(f122 g j e k.ct).bind λx=>bif (!x)then(some (b,c))else((bY (τ:=(Unit⊕_)) (λ(h:Int)=>bif (decide (h<(b.length:Int)))then((ix b h).bind λs=>(ix d.cD h).bind λq=>(f123 q k s e).bind λt=>bif (!t)then(some (.inr (.inr (b,c))))else(some (.inl (wr (h+1)))))else(some (.inr (.inl ())))) cy 0).bind (Sum.elim (λ(_:Unit)=>cr (b.length+1<=bJ)<|(f120r n j (b++([e]:List Int)) d g c).bind λf=>cr (0<=(a.length:Int))<|cr ((a.length:Int).toNat<=f.1.length)<|cr ((a.length:Int).toNat<=f.1.length)<|some ((f.1.take (a.length:Int).toNat),f.2)) some))):Option (List Int×List cp)).bind λ((o,l):(List Int×List cp))=>some (.inl (o,l,(wr (e+1)))))else(some (.inr (b,c)))) cy (a,i,1)).bind λ((p,m):(List Int×List cp))=>some (p,m))
def f120(d:Int)(c:List Int)(a:bR)(e:ee)(b:List cp):Option (List Int×List cp):=f120r cy d c a e b
def f60(d:ee)(e:bR):Option ((List cp)):=(bY (τ:=(List cp)) (λ((c,g,a):(List cp×List Int×Int))=>bif (decide (a<=d.top))then((f120 a g e d c).bind λb=>some (.inl (b.2,b.1,(wr (a+1)))))else(some (.inr c))) cy (([]:List cp),([]:List Int),1)).bind λ(f:(List cp))=>some f
def f16(d:ee)(b:bR):Option (((List cp))×Int):=(f39 d).bind λa=>bif (decide (a≠0))then(some (([]:List cp),a))else((f59 b).bind λe=>bif (!e)then(some (([]:List cp),1))else((f60 d b).bind λc=>bif (decide (200<(c.length:Int)))then(some (([]:List cp),2))else(some (c,0))))
def f246(e:bR)(a:bR):Option Bool:=(bY (τ:=(Unit⊕Bool)) (λ(b:Int)=>bif (decide (b<(a.held.length:Int)))then((ix a.held b).bind λd=>(f119 e d).bind λc=>((bif (decide (c<0))then(some true)else((ix e.cD c).bind λi=>(f119 a d).bind λf=>(ix a.cD f).bind λh=>some (!(gK i h)))):Option Bool).bind λ(g:Bool)=>bif g then(some (.inr (.inr false)))else(some (.inl (wr (b+1)))))else(some (.inr (.inl ())))) cy 0).bind (Sum.elim (λ(_:Unit)=>some true) some)
def f196(b:List bR):Option Int:=bif (decide (400<(b.length:Int)))then(some 2)else((bY (τ:=(Unit⊕Int)) (λ(a:Int)=>bif (decide (a<(b.length:Int)))then((ix b a).bind λc=>(((f59 c).bind λg=>bif (!g)then(some true)else(bif (decide (0<a))then((ix b (wr (a-1))).bind λf=>(f246 f c).bind λe=>some (!e))else(some false))):Option Bool).bind λ(d:Bool)=>bif d then(some (.inr (.inr 1)))else(some (.inl (wr (a+1)))))else(some (.inr (.inl ())))) cy 0).bind (Sum.elim (λ(_:Unit)=>some 0) some))
def f187_1(b:List Int)(c:Int):Option Int:=(bY (τ:=(Unit⊕Int)) (λ(a:Int)=>bif (decide (a<(b.length:Int)))then((ix b a).bind λd=>bif (decide (c=d))then(some (.inr (.inr a)))else(some (.inl (wr (a+1)))))else(some (.inr (.inl ())))) cy 0).bind (Sum.elim (λ(_:Unit)=>some (-1)) some)
def f121_1(i:ee)(c:bR)(f:List Int):Option Bool:=(bY (τ:=(Unit⊕Bool)) (λ(d:Int)=>bif (decide (d<=(i.low.length:Int)))then((((f187_1 f d).bind λa=>bif (decide (a<0))then(some (.inl ()))else((bY (τ:=Int) (λ((h,e):(Int×Int))=>bif (decide (e<(f.length:Int)))then((((ix f e).bind λp=>bif (decide (p=d))then(some e)else(some h)):Option Int).bind λ(l:Int)=>some (.inl (l,(wr (e+1)))))else(some (.inr h))) cy (a,0)).bind λ(b:Int)=>bif (decide (a=b))then(some (.inl ()))else((((ix i.fV (wr (d-1))).bind λj=>bif (!j)then(some true)else((ix c.cD a).bind λk=>(ix c.cD b).bind λn=>some (decide (k.ct≠n.ct)))):Option Bool).bind λ(o:Bool)=>bif o then(some (.inr (.inr (.inr false))))else((ix c.cD a).bind λg=>(ix c.cD b).bind λr=>(f188 c.db g.bc r.bc).bind λq=>bif q then(some (.inr (.inr (.inr false))))else(cr (0<=a)<|cr (0<=b)<|cr (a.toNat<=b.toNat)<|cr (b.toNat<=c.cD.length)<|(f190_1 ((c.cD.take b.toNat).drop a.toNat) g.ct).bind λm=>bif m then(some (.inr (.inr (.inr false))))else(some (.inl ()))))))):Option (Unit⊕(Int⊕(Unit⊕Bool)))).bind (Sum.elim (λ(_:Unit)=>some (.inl (wr (d+1)))) some))else(some (.inr (.inl ())))) cy 1).bind (Sum.elim (λ(_:Unit)=>some true) some)
def f277(e:ee)(c:bR)(a:cp):Option Bool:=(((f85 a.pos 1 e.top).bind λi=>bif (!i)then(some true)else(some (decide ((a.dg.length:Int)≠(c.cD.length:Int))))):Option Bool).bind λ(j:Bool)=>bif j then(some false)else((bY (τ:=(Unit⊕Bool)) (λ(b:Int)=>bif (decide (b<(a.dg.length:Int)))then((ix a.dg b).bind λf=>(((f85 f 1 (e.low.length:Int)).bind λk=>bif (!k)then(some true)else((ix c.cD b).bind λg=>(f122 e a.pos f g.ct).bind λq=>some (!q))):Option Bool).bind λ(m:Bool)=>bif m then(some (.inr (.inr false)))else((bY (τ:=(Unit⊕(Int⊕(Unit⊕Bool)))) (λ(d:Int)=>bif (decide (d<b))then((ix c.cD d).bind λn=>(ix c.cD b).bind λh=>(ix a.dg d).bind λp=>(f123 n h p f).bind λo=>bif (!o)then(some (.inr (.inr (.inr (.inr false)))))else(some (.inl (wr (d+1)))))else(some (.inr (.inl ())))) cy 0).bind (Sum.elim (λ(_:Unit)=>some (.inl (wr (b+1)))) some)))else(some (.inr (.inl ())))) cy 0).bind (Sum.elim (λ(_:Unit)=>(f121_1 e c a.dg).bind λl=>some l) some))
def f198(a:Int)(b:Int):Option Int:=some (kw (wr (a-b)) (wr (b-a)))
def f197(i:bR)(c:cp)(e:Int):Option ((List bn)):=(bY (τ:=(List bn)) (λ((a,b):(List bn×Int))=>bif (decide (b<(c.dg.length:Int)))then((((ix c.dg b).bind λf=>bif (decide (f=e))then((ix i.cD b).bind λh=>cr (a.length+1<=bJ)<|some (a++([h]:List bn)))else(some a)):Option (List bn)).bind λ(d:(List bn))=>some (.inl (d,(wr (b+1)))))else(some (.inr a))) cy (([]:List bn),0)).bind λ(g:(List bn))=>some g
def f327(b:List bn)(c:bn):Option Int:=(bY (τ:=(Unit⊕Int)) (λ(a:Int)=>bif (decide (a<(b.length:Int)))then((ix b a).bind λd=>bif (gK c d)then(some (.inr (.inr a)))else(some (.inl (wr (a+1)))))else(some (.inr (.inl ())))) cy 0).bind (Sum.elim (λ(_:Unit)=>some (-1)) some)
def f316(a:List bn)(b:bn):Option Bool:=(f327 a b).bind λc=>some (decide (0<=c))
def f315(a:bn)(b:List bn):Option Bool:=(f316 b a).bind λc=>some c
def f185_3(b:List bn)(e:List bn):Option Int:=(bY (τ:=(Unit⊕Int)) (λ(a:Int)=>bif (decide (a<(b.length:Int)))then((ix b a).bind λd=>(f315 d e).bind λc=>bif c then(some (.inr (.inr a)))else(some (.inl (wr (a+1)))))else(some (.inr (.inl ())))) cy 0).bind (Sum.elim (λ(_:Unit)=>some (-1)) some)
def f190_2(a:List bn)(b:List bn):Option Bool:=(f185_3 a b).bind λc=>some (decide (0<=c))
def f278(a:ee)(f:bR)(i:cp)(b:bR)(j:cp):Option (Int×Bool):=(bY (τ:=(Unit⊕(Int×Bool))) (λ(h:Int)=>bif (decide (h<(b.held.length:Int)))then((ix b.held h).bind λm=>(f119 f m).bind λp=>(ix i.dg p).bind λu=>(f119 b m).bind λv=>(ix j.dg v).bind λr=>bif (decide (u≠r))then(some (.inr (.inr (0,false))))else(some (.inl (wr (h+1)))))else(some (.inr (.inl ())))) cy 0).bind (Sum.elim (λ(_:Unit)=>(f198 i.pos j.pos).bind λd=>((bif (decide (0<(f.cD.length:Int)))then(some (decide (0<(b.cD.length:Int))))else(some false)):Option Bool).bind λ(e:Bool)=>((bif e then(some (decide (a.jump<d)))else(some false)):Option Bool).bind λ(x:Bool)=>bif x then(some (0,false))else(((((bif e then(some (decide (0<d)))else(some false)):Option Bool).bind λ(s:Bool)=>bif s then(some (wr ((wr (a.shift*d))+a.lift)))else(some (wr (a.shift*d)))):Option Int).bind λ(o:Int)=>(bY (τ:=Int) (λ((g,c):(Int×Int))=>((bif (decide (c<=(a.low.length:Int)))then(some e)else(some false)):Option Bool).bind λ(n:Bool)=>bif n then((((f197 f i c).bind λl=>(f197 b j c).bind λk=>((bif (decide (0<(l.length:Int)))then(bif (decide (0<(k.length:Int)))then((f190_2 l k).bind λy=>some (!y))else(some false))else(some false)):Option Bool).bind λ(q:Bool)=>bif q then(some (wr (g+a.gw)))else(some g)):Option Int).bind λ(w:Int)=>some (.inl (w,(wr (c+1)))))else(some (.inr g))) cy (o,1)).bind λ(t:Int)=>some (t,true))) some)
def f228(a:ee)(b:bR)(f:cp)(c:bR)(g:cp):Option (Int×Int):=(f39 a).bind λe=>bif (decide (e≠0))then(some (0,e))else((f196 ([b,c]:List bR)).bind λd=>bif (decide (d≠0))then(some (0,d))else((((f277 a b f).bind λk=>bif (!k)then(some true)else((f277 a c g).bind λj=>some (!j))):Option Bool).bind λ(i:Bool)=>bif i then(some (0,61))else((f278 a b f c g).bind λh=>bif (!h.2)then(some (0,61))else(some (h.1,0)))))
def f227(d:cp)(a:cM)(c:bR)(e:cp):Option Bool:=(f228 a.h a.dw d c e).bind λb=>some (decide (b.2=0))
def f276(b:List cp)(f:cM)(g:bR)(d:cp):Option Int:=(bY (τ:=(Unit⊕Int)) (λ(a:Int)=>bif (decide (a<(b.length:Int)))then((ix b a).bind λe=>(f227 e f g d).bind λc=>bif c then(some (.inr (.inr a)))else(some (.inl (wr (a+1)))))else(some (.inr (.inl ())))) cy 0).bind (Sum.elim (λ(_:Unit)=>some (-1)) some)
def f226(e:List cp)(c:cM)(d:bR)(b:cp):Option Bool:=(f276 e c d b).bind λa=>some (decide (0<=a))
def f161(c:cM)(e:bR):Option (List cp):=(f16 c.h e).bind λa=>bif (decide (a.2≠0))then(some ([]:List cp))else(bif (decide ((c.bM.bG.length:Int)=0))then(some a.1)else((bY (τ:=(List cp)) (λ((b,d):(List cp×Int))=>bif (decide (d<(a.1.length:Int)))then((((ix a.1 d).bind λf=>(f226 c.eY c e f).bind λg=>bif g then(cr (b.length+1<=bJ)<|some (b++([f]:List cp)))else(some b)):Option (List cp)).bind λ(j:(List cp))=>some (.inl (j,(wr (d+1)))))else(some (.inr b))) cy (([]:List cp),0)).bind λ(i:(List cp))=>some i))
def f350(c:cM)(e:List bF)(k:bU)(g:bR)(f:List cp)(i:Bool)(h:List bF)(j:List bF)(d:bU):Option ((List cp×bR)⊕Unit):=(f160 c d e).bind λa=>(f161 c (⟨a.cD,a.held,a.db⟩:bR)).bind λb=>bif (decide (0<(b.length:Int)))then(some (.inl (b,(⟨a.cD,a.held,a.db⟩:bR))))else(some (.inr ()))
def f349(n:List bF)(e:cM)(f:List bF)(l:List bF)(j:bU)(h:bR)(k:List cp)(m:Bool)(g:List (List bn))(q:Int)(r:Int)(i:List Bool):Option ((List cp×bR×bU)⊕Unit):=(bY (τ:=(Unit⊕((List cp×bR×bU)⊕Unit))) (λ(b:Int)=>bif (decide (b<(g.length:Int)))then((ix g b).bind λd=>(f221 i).bind λc=>(f222 e (⟨d,c⟩:bU) f).bind λo=>bif o then((f350 e l j h k m n f (⟨d,c⟩:bU)).bind (Sum.elim (λa=>some (.inr (.inr (.inl (a.1,(⟨a.2.cD,a.2.held,a.2.db⟩:bR),(⟨d,c⟩:bU)))))) λp=>some (.inl (wr (b+1)))))else(some (.inl (wr (b+1)))))else(some (.inr (.inl ())))) cy 0).bind (Sum.elim (λ(_:Unit)=>some (.inr ())) some)
def f266_1r:Nat->Int->Int->Int->(List bF)->cM->(List bF)->(List bF)->bU->bR->(List cp)->Bool->(List (List bn))->Int->(List Bool)->Option ((List Bool)⊕(bU×bR×List cp×List Bool))
 |0,_,_,_,_,_,_,_,_,_,_,_,_,_,_=>none
 |v+1,c,g,f,n,t,p,q,o,m,j,r,l,s,d=>bif (decide (c=f))then(bif (decide (0<g))then(some (.inl d))else((f349 n t p q o m j r l s f d).bind (Sum.elim (λb=>some (.inr ((⟨b.2.2.places,b.2.2.cut⟩:bU),(⟨b.2.1.cD,b.2.1.held,b.2.1.db⟩:bR),b.1,d))) λA=>some (.inl d))))else((bY (τ:=((List Bool)⊕((List Bool)⊕(bU×bR×List cp×List Bool)))) (λ((e,h):(List Bool×Int))=>bif (decide (h<2))then((((ix ([false,true]:List Bool) h).bind λk=>((bif k then(some (wr (g-1)))else(some g)):Option Int).bind λ(i:Int)=>((bif (decide (i<0))then(some true)else(some (decide ((wr ((wr (f-c))-1))<i)))):Option Bool).bind λ(y:Bool)=>bif y then(some (.inl e))else((ix e c).bind λz=>(f266_1r v (wr (c+1)) i f n t p q o m j r l s (e.set c.toNat k)).bind (Sum.elim (λu=>some (.inl u)) λa=>some (.inr (.inr (.inr (.inr ((⟨a.1.places,a.1.cut⟩:bU),(⟨a.2.1.cD,a.2.1.held,a.2.1.db⟩:bR),a.2.2.1,a.2.2.2)))))))):Option ((List Bool)⊕((List Bool×Int)⊕((List Bool)⊕((List Bool)⊕(bU×bR×List cp×List Bool)))))).bind (Sum.elim (λ(x:(List Bool))=>some (.inl (x,(wr (h+1))))) some))else(some (.inr (.inl e)))) cy (d,0)).bind (Sum.elim (λ(w:(List Bool))=>some (.inl w)) some))
def f266_1(n:Int)(j:Int)(c:Int)(f:List bF)(l:cM)(h:List bF)(a:List bF)(e:bU)(m:bR)(b:List cp)(g:Bool)(k:List (List bn))(i:Int)(d:List Bool):Option ((List Bool)⊕(bU×bR×List cp×List Bool)):=f266_1r cy n j c f l h a e m b g k i d
def f265_1(n:List bF)(e:cM)(h:List bF)(l:List bF)(i:bU)(g:bR)(j:List cp)(m:Bool)(o:List (List bn))(f:Int)(b:Int):Option ((List cp×bR×bU)⊕Unit):=cr (0<=b)<|cr (b<=(bJ:Int))<|(bY (τ:=(Unit⊕((List cp×bR×bU)⊕Unit))) (λ((k,c):(List Bool×Int))=>bif (decide (c<=b))then((f266_1 0 c b n e h l i g j m o f k).bind (Sum.elim (λd=>some (.inl (d,(wr (c+1))))) λa=>some (.inr (.inr (.inl (a.2.2.1,(⟨a.2.1.cD,a.2.1.held,a.2.1.db⟩:bR),(⟨a.1.places,a.1.cut⟩:bU)))))))else(some (.inr (.inl ())))) cy ((List.replicate b.toNat (false:Bool)),0)).bind (Sum.elim (λ(_:Unit)=>some (.inr ())) some)
def f348(e:List bF)(b:cM)(c:List bF)(l:List bF)(j:bU)(i:bR)(k:List cp)(m:Bool)(h:Int)(d:List Bool):Option (Unit⊕((List cp×bR×bU)⊕Unit)):=(f69 d false).bind λg=>bif (!g)then(some (.inl ()))else((f220 b.ka e d b.shift).bind λf=>(f219 (c.length:Int)).bind λo=>(f265_1 e b c l j i k m f h (c.length:Int)).bind (Sum.elim (λa=>some (.inr (.inl (a.1,(⟨a.2.1.cD,a.2.1.held,a.2.1.db⟩:bR),(⟨a.2.2.places,a.2.2.cut⟩:bU))))) λn=>some (.inr (.inr ()))))
def f266r:Nat->Int->Int->Int->(List bF)->cM->(List bF)->(List bF)->bU->bR->(List cp)->Bool->(List Bool)->Option ((List Bool)⊕((List Bool)⊕(bU×bR×List cp×List Bool)))
 |0,_,_,_,_,_,_,_,_,_,_,_,_=>none
 |v+1,d,g,f,l,r,n,o,m,k,j,p,b=>bif (decide (d=f))then(bif (decide (0<g))then(some (.inl b))else((f348 l r n o m k j p f b).bind (Sum.elim (λA=>some (.inr (.inl b))) (Sum.elim (λc=>some (.inr (.inr ((⟨c.2.2.places,c.2.2.cut⟩:bU),(⟨c.2.1.cD,c.2.1.held,c.2.1.db⟩:bR),c.1,b)))) λz=>some (.inl b)))))else((bY (τ:=((List Bool)⊕((List Bool)⊕((List Bool)⊕(bU×bR×List cp×List Bool))))) (λ((e,h):(List Bool×Int))=>bif (decide (h<2))then((((ix ([false,true]:List Bool) h).bind λq=>((bif q then(some (wr (g-1)))else(some g)):Option Int).bind λ(i:Int)=>((bif (decide (i<0))then(some true)else(some (decide ((wr ((wr (f-d))-1))<i)))):Option Bool).bind λ(w:Bool)=>bif w then(some (.inl e))else((ix e d).bind λy=>(f266r v (wr (d+1)) i f l r n o m k j p (e.set d.toNat q)).bind (Sum.elim (λs=>some (.inl s)) (Sum.elim (λx=>some (.inr (.inr (.inr (.inr (.inl x)))))) λa=>some (.inr (.inr (.inr (.inr (.inr ((⟨a.1.places,a.1.cut⟩:bU),(⟨a.2.1.cD,a.2.1.held,a.2.1.db⟩:bR),a.2.2.1,a.2.2.2)))))))))):Option ((List Bool)⊕((List Bool×Int)⊕((List Bool)⊕((List Bool)⊕((List Bool)⊕(bU×bR×List cp×List Bool))))))).bind (Sum.elim (λ(u:(List Bool))=>some (.inl (u,(wr (h+1))))) some))else(some (.inr (.inl e)))) cy (b,0)).bind (Sum.elim (λ(t:(List Bool))=>some (.inl t)) some))
def f266(j:Int)(i:Int)(c:Int)(f:List bF)(k:cM)(h:List bF)(a:List bF)(e:bU)(l:bR)(b:List cp)(g:Bool)(d:List Bool):Option ((List Bool)⊕((List Bool)⊕(bU×bR×List cp×List Bool))):=f266r cy j i c f k h a e l b g d
def f265(l:List bF)(e:cM)(h:List bF)(k:List bF)(i:bU)(g:bR)(j:List cp)(m:Bool)(b:Int):Option (Unit⊕((List cp×bR×bU)⊕Unit)):=cr (0<=b)<|cr (b<=(bJ:Int))<|(bY (τ:=(Unit⊕(Unit⊕((List cp×bR×bU)⊕Unit)))) (λ((f,c):(List Bool×Int))=>bif (decide (c<=b))then((f266 0 c b l e h k i g j m f).bind (Sum.elim (λd=>some (.inl (d,(wr (c+1))))) (Sum.elim (λn=>some (.inr (.inr (.inl ())))) λa=>some (.inr (.inr (.inr (.inl (a.2.2.1,(⟨a.2.1.cD,a.2.1.held,a.2.1.db⟩:bR),(⟨a.1.places,a.1.cut⟩:bU)))))))))else(some (.inr (.inl ())))) cy ((List.replicate b.toNat (false:Bool)),0)).bind (Sum.elim (λ(_:Unit)=>some (.inr (.inr ()))) some)
def f218(e:cM)(i:List bF)(f:bU)(d:bR)(c:List cp)(g:Bool)(b:List bF)(h:List bF):Option (Unit⊕(List cp×bR×bU)):=(f219 (b.length:Int)).bind λj=>(f265 b e h i f d c g (b.length:Int)).bind (Sum.elim (λl=>some (.inl ())) (Sum.elim (λa=>some (.inr (a.1,(⟨a.2.1.cD,a.2.1.held,a.2.1.db⟩:bR),(⟨a.2.2.places,a.2.2.cut⟩:bU)))) λk=>some (.inl ())))
def f98(d:cM)(c:List bF)(b:List bF):Option (bU×bR×List cp×Bool):=(bY (τ:=(bU×bR×List cp×Bool)) (λ(_:Unit)=>(f159 d c b).bind λi=>(f218 d b (⟨([]:List bn),([]:List Bool)⟩:bU) (⟨([]:List bn),([]:List Int),([]:List Int)⟩:bR) ([]:List cp) false c b).bind (Sum.elim (λj=>some (.inr ((⟨([]:List bn),([]:List Bool)⟩:bU),(⟨([]:List bn),([]:List Int),([]:List Int)⟩:bR),([]:List cp),false))) λa=>some (.inr ((⟨a.2.2.places,a.2.2.cut⟩:bU),(⟨a.2.1.cD,a.2.1.held,a.2.1.db⟩:bR),a.1,true)))) cy ()).bind λ((f,h,g,e):(bU×bR×List cp×Bool))=>some (f,h,g,e)
def f163(a:bn):Option Int:=some a.bc
def f162(a:List bn):Option ((List Int)):=cr ((0:Int)<=(a.length:Int))<|cr ((a.length:Int)<=(bJ:Int))<|(bY (τ:=(List Int)) (λ((c,b):(List Int×Int))=>bif (decide (b<(a.length:Int)))then((ix a b).bind λe=>(f163 e).bind λf=>cr (c.length+1<=bJ)<|some (.inl ((c++([f]:List Int)),(wr (b+1)))))else(some (.inr c))) cy (([]:List Int),0)).bind λ(d:(List Int))=>some d
def f99(a:cM)(f:cI)(c:Bool):Option (List bn×List Int×List Int×List cg×List cp):=((bif c then((f162 a.dw.cD).bind λe=>some (⟨a.dw.cD,e,a.dw.db⟩:bR))else(some (⟨([]:List bn),([]:List Int),([]:List Int)⟩:bR))):Option bR).bind λ(b:bR)=>(f161 a b).bind λd=>cr (a.bM.bG.length<cO)<|some (b.cD,b.held,b.db,(a.bM.bG++[(⟨false,f,c,([]:List cT)⟩:cg)]),d)
def f164(b:cT)(c:List b8)(h:Int)(g:Int)(f:Int)(a:Int)(d:Int)(e:Int):Option Bool:=some (decide (b.bc=a))
def f140(b:List cT)(h:List b8)(j:Int)(k:Int)(c:Int)(i:Int)(e:Int)(g:Int):Option Int:=(bY (τ:=(Unit⊕Int)) (λ(a:Int)=>bif (decide (a<(b.length:Int)))then((ix b a).bind λf=>(f164 f h j k c i e g).bind λd=>bif d then(some (.inr (.inr a)))else(some (.inl (wr (a+1)))))else(some (.inr (.inl ())))) cy 0).bind (Sum.elim (λ(_:Unit)=>some (-1)) some)
def f166(a:cT)(b:cT):Option Int:=(f104 a.bc b.bc).bind λc=>some c
def f165(a:List cT):Option (List cT):=rL f166 a
def f100(l:cM)(r:bU)(p:List bF)(q:List bF)(I:cI):Option (List cT×List bF×List bF×List cg×List bF):=(bY (τ:=(List cg×List bF×List bF)) (λ((g,i,h,j):(List cg×List bF×List bF×Int))=>bif (decide (j<(q.length:Int)))then((((ix q j).bind λa=>(ix r.cut j).bind λD=>bif D then(cr (h.length+1<=bJ)<|some (g,i,(h++([a]:List bF))))else(cr (i.length+1<=bJ)<|bif (decide (0<a.bP.ct))then((ix g a.cW).bind λe=>cr (a.cW.toNat<cO)<|(f140 e.cZ a.bO a.bW a.bX a.dr a.bP.bc a.bP.ct a.cW).bind λu=>(ix e.cZ u).bind λk=>some ((g.set a.cW.toNat (⟨e.k8,e.sign,e.tie,(e.cZ.set u.toNat (⟨k.bc,k.ct,k.right,k.jx,(wr ((l.bM.bG.length:Int)-a.cW))⟩:cT))⟩:cg)),(i++([a]:List bF)),h))else(some (g,(i++([a]:List bF)),h)))):Option (List cg×List bF×List bF)).bind λ((y,C,x):(List cg×List bF×List bF))=>some (.inl (y,C,x,(wr (j+1)))))else(some (.inr (g,i,h)))) cy (l.bM.bG,([]:List bF),([]:List bF),0)).bind λ((E,v,H):(List cg×List bF×List bF))=>(bY (τ:=(List cT×List bF×List bF×List bF)) (λ((n,m,f,o,c):(List bF×List cT×List bF×List bF×Int))=>bif (decide (c<(p.length:Int)))then((((ix o 0).bind λb=>cr (f.length<cO)<|cr (0<=c/\c<(p.length:Int))<|cr (c.toNat=f.length/\c.toNat<=cO)<|(ix r.places c).bind λd=>bif (decide (0<d.bc))then(cr (n.length+1<=bJ)<|cr (m.length+1<=bJ)<|some ((n++([(⟨b.bO,b.bW,b.bX,b.dr,d,(l.bM.bG.length:Int)⟩:bF)]:List bF)),(m++([(⟨d.bc,d.ct,0,0,0⟩:cT)]:List cT)),(f++[(⟨b.bO,b.bW,b.bX,b.dr,d,(l.bM.bG.length:Int)⟩:bF)])))else(some (n,m,(f++[(⟨b.bO,b.bW,b.bX,b.dr,d,b.cW⟩:bF)])))):Option (List bF×List cT×List bF)).bind λ((z,B,A):(List bF×List cT×List bF))=>some (.inl (z,B,A,(o.drop 1),(wr (c+1)))))else(some (.inr (m,f,o,n)))) cy (v,([]:List cT),([]:List bF),p,0)).bind λ((s,G,F,w):(List cT×List bF×List bF×List bF))=>(f165 s).bind λt=>cr (t.length=s.length)<|cr (F=[])<|some (t,H,G,E,w)
def f48(a:cM)(C:List (List bV))(u:Int)(b:List cI):Option (List bF×List bF×List bn×List Int×List Int×List cg×List bF×List cp):=(f96 C u).bind λg=>(f97 a u).bind λi=>(f98 a g i).bind λd=>bif (!d.2.2.2)then((bY (τ:=(List bn×List Int×List Int×List cg×List cp)) (λ((w,n,l,p,t,k):(List bn×List Int×List Int×List cg×List cp×Int))=>bif (decide (k<(b.length:Int)))then((ix b k).bind λA=>(f99 (⟨(⟨w,n,l⟩:bR),a.ka,a.h,a.shift,(⟨a.bM.instrument,p⟩:dL),a.cV,t⟩:cM) A (decide (0<(i.length:Int)))).bind λf=>some (.inl (f.1,f.2.1,f.2.2.1,f.2.2.2.1,f.2.2.2.2,(wr (k+1)))))else(some (.inr (w,n,l,p,t)))) cy (a.dw.cD,a.dw.held,a.dw.db,a.bM.bG,a.eY,0)).bind λ((H,G,y,z,E):(List bn×List Int×List Int×List cg×List cp))=>cr (g.length<=cO)<|some (g,([]:List bF),H,G,y,z,i,E))else((ix b 0).bind λm=>(f100 a (⟨d.1.places,d.1.cut⟩:bU) g i m).bind λc=>cr (c.2.2.1.length=g.length)<|cr (c.2.2.2.1.length<cO)<|cr (1<=b.length)<|(bY (τ:=(List bn×List Int×List Int×List cg×List cp)) (λ((s,r,v,q,o,j):(List bn×List Int×List Int×List cg×List cp×Int))=>bif (decide (j<(((b.take b.length).drop 1).length:Int)))then((ix ((b.take b.length).drop 1) j).bind λF=>(f99 (⟨(⟨s,r,v⟩:bR),a.ka,a.h,a.shift,(⟨a.bM.instrument,q⟩:dL),c.2.2.2.2,o⟩:cM) F true).bind λe=>some (.inl (e.1,e.2.1,e.2.2.1,e.2.2.2.1,e.2.2.2.2,(wr (j+1)))))else(some (.inr (s,r,v,q,o)))) cy (d.2.1.cD,d.2.1.held,d.2.1.db,(c.2.2.2.1++[(⟨false,m,false,c.1⟩:cg)]),d.2.2.1,0)).bind λ((J,D,B,I,x):(List bn×List Int×List Int×List cg×List cp))=>some (c.2.2.1,c.2.1,J,D,B,I,c.2.2.2.2,x))
def f49(o:dR)(x:List (List bV))(s:List bF)(n:List bF)(g:Int):Option (List (List bn)×List cQ):=(bY (τ:=(List (List bn)×List cQ)) (λ((q,r,l):(List (List bn)×List cQ×Int))=>bif (decide (l<(s.length:Int)))then((ix s l).bind λc=>(bY (τ:=(List (List bn)×List cQ)) (λ((d,b,e):(List (List bn)×List cQ×Int))=>bif (decide (e<(c.bO.length:Int)))then((((ix c.bO e).bind λa=>(ix d a.part).bind λi=>cr (a.part.toNat<cO)<|(ix i a.eK).bind λF=>bif (decide (c.bP.bc=0))then(cr (b.length+1<=bJ)<|some ((d.set a.part.toNat (i.set a.eK.toNat c.bP)),(b++([(⟨a.part,a.eK,1,g⟩:cQ)]:List cQ))))else(bif (decide (0<e))then(cr (b.length+1<=bJ)<|some ((d.set a.part.toNat (i.set a.eK.toNat c.bP)),(b++([(⟨a.part,a.eK,2,g⟩:cQ)]:List cQ))))else(some ((d.set a.part.toNat (i.set a.eK.toNat c.bP)),b)))):Option (List (List bn)×List cQ)).bind λ((z,y):(List (List bn)×List cQ))=>some (.inl (z,y,(wr (e+1)))))else(some (.inr (d,b)))) cy (q,r,0)).bind λ((A,u):(List (List bn)×List cQ))=>some (.inl (A,u,(wr (l+1)))))else(some (.inr (q,r)))) cy (o.dp,o.cX,0)).bind λ((D,t):(List (List bn)×List cQ))=>(bY (τ:=(List cQ)) (λ((m,k):(List cQ×Int))=>bif (decide (k<(n.length:Int)))then((ix n k).bind λp=>(bY (τ:=(List cQ)) (λ((h,j):(List cQ×Int))=>bif (decide (j<(p.bO.length:Int)))then((((ix p.bO j).bind λf=>(ix x f.part).bind λv=>(ix v f.eK).bind λw=>bif (decide (g<w.dr))then(cr (h.length+1<=bJ)<|some (h++([(⟨f.part,f.eK,3,g⟩:cQ)]:List cQ)))else(some h)):Option (List cQ)).bind λ(B:(List cQ))=>some (.inl (B,(wr (j+1)))))else(some (.inr h))) cy (m,0)).bind λ(C:(List cQ))=>some (.inl (C,(wr (k+1)))))else(some (.inr m))) cy (t,0)).bind λ(E:(List cQ))=>some (D,E)
def f51(b:cQ)(a:cQ):Option Int:=(f104 b.part a.part).bind λd=>(f104 b.eK a.eK).bind λe=>(f104 b.kind a.kind).bind λc=>(f103 ([d,e,c]:List Int)).bind λf=>some f
def f50(a:List cQ):Option (List cQ):=rL f51 a
def f11(b:List (List bV))(j:bK)(D:ee)(d:Int):Option (dR×Int):=(f38 b j).bind λy=>bif (decide (y≠0))then(some ((⟨(⟨(⟨([]:List cK),([]:List Int)⟩:bK),([]:List cg)⟩:dL),0,([]:List (List bn)),([]:List cQ)⟩:dR),y))else((f39 D).bind λu=>bif (decide (u≠0))then(some ((⟨(⟨(⟨([]:List cK),([]:List Int)⟩:bK),([]:List cg)⟩:dL),0,([]:List (List bn)),([]:List cQ)⟩:dR),u))else((f40 d (-24) 24).bind λH=>bif (!H)then(some ((⟨(⟨(⟨([]:List cK),([]:List Int)⟩:bK),([]:List cg)⟩:dL),0,([]:List (List bn)),([]:List cQ)⟩:dR),1))else((f41 b).bind λf=>(bY (τ:=((List (List cI))⊕(dR×Int))) (λ((g,c):(List (List cI)×Int))=>bif (decide (c<(wr ((f.length:Int)-1))))then((ix f (wr (c+1))).bind λG=>(ix f c).bind λI=>(f42 (wr (G-I))).bind λF=>bif (decide (F.2≠0))then(some (.inr (.inr ((⟨(⟨(⟨([]:List cK),([]:List Int)⟩:bK),([]:List cg)⟩:dL),0,([]:List (List bn)),([]:List cQ)⟩:dR),25))))else(cr (g.length+1<=bJ)<|some (.inl ((g++([F.1]:List (List cI))),(wr (c+1))))))else(some (.inr (.inl g)))) cy (([]:List (List cI)),0)).bind (Sum.elim (λ(n:(List (List cI)))=>(f43 n).bind λJ=>bif (decide (400<(J.length:Int)))then(some ((⟨(⟨(⟨([]:List cK),([]:List Int)⟩:bK),([]:List cg)⟩:dL),0,([]:List (List bn)),([]:List cQ)⟩:dR),2))else((f44 j.cj).bind λi=>(f45 j.bN).bind λh=>(f46 b).bind λK=>(bY (τ:=(List bn×List Int×List Int×List cg×List bF×List cp×List cK×List Int×List cg×List (List bn)×List cQ)) (λ((z,w,x,C,r,q,k,l,m,v,s,e):(List bn×List Int×List Int×List cg×List bF×List cp×List cK×List Int×List cg×List (List bn)×List cQ×Int))=>bif (decide (e<(n.length:Int)))then((ix n e).bind λL=>(ix f e).bind λo=>(f48 (⟨(⟨z,w,x⟩:bR),(⟨i,h⟩:bK),D,d,(⟨(⟨i,h⟩:bK),C⟩:dL),r,q⟩:cM) b o L).bind λa=>(f49 (⟨(⟨(⟨k,l⟩:bK),m⟩:dL),d,v,s⟩:dR) b a.1 a.2.1 o).bind λA=>some (.inl (a.2.2.1,a.2.2.2.1,a.2.2.2.2.1,a.2.2.2.2.2.1,a.2.2.2.2.2.2.1,a.2.2.2.2.2.2.2,k,l,m,A.1,A.2,(wr (e+1)))))else(some (.inr (z,w,x,C,r,q,k,l,m,v,s)))) cy (([]:List bn),([]:List Int),([]:List Int),([]:List cg),([]:List bF),([]:List cp),([]:List cK),([]:List Int),([]:List cg),K,([]:List cQ),0)).bind λ((Q,N,P,p,M,R,S,T,O,B,t):(List bn×List Int×List Int×List cg×List bF×List cp×List cK×List Int×List cg×List (List bn)×List cQ))=>(f50 t).bind λE=>cr (p.length<=cO)<|cr (B.length<=cO)<|cr (E.length=t.length)<|some ((⟨(⟨(⟨i,h⟩:bK),p⟩:dL),d,B,E⟩:dR),0))) some))))
def f10:Option Bool:=(f36).bind λe=>(f37).bind λg=>(f11 ([([(⟨67,0,192⟩:bV)]:List bV),([(⟨67,0,96⟩:bV),(⟨60,96,192⟩:bV)]:List bV)]:List (List bV)) e g 0).bind λa=>((bif (decide (a.2≠0))then(some true)else(bif (decide ((a.1.cX.length:Int)≠1))then(some true)else((ix a.1.cX 0).bind λf=>bif (!(Np f (⟨1,0,2,0⟩:cQ)))then(some true)else(some (decide ((a.1.bM.bG.length:Int)≠2)))))):Option Bool).bind λ(h:Bool)=>bif h then(some false)else((ix a.1.bM.bG 1).bind λb=>((bif (decide ((b.cZ.length:Int)=1))then((ix b.cZ 0).bind λc=>bif (decide (c.bc=3))then(some (decide (c.ct=3)))else(some false))else(some false)):Option Bool).bind λ(d:Bool)=>some d)
def f129(a:cI):Option Bool:=((bif (nV a (⟨0,false,false⟩:cI))then(some true)else((f93 a).bind λb=>some (decide (0<b)))):Option Bool).bind λ(c:Bool)=>some c
def f244(a:cg):Option Bool:=((bif (decide ((a.cZ.length:Int)=0))then(some (!a.tie))else(some false)):Option Bool).bind λ(b:Bool)=>some b
def f296(a:cT)(b:Int):Option Bool:=some (decide (a.bc=b))
def f140_1(b:List cT)(e:Int):Option Int:=(bY (τ:=(Unit⊕Int)) (λ(a:Int)=>bif (decide (a<(b.length:Int)))then((ix b a).bind λd=>(f296 d e).bind λc=>bif c then(some (.inr (.inr a)))else(some (.inl (wr (a+1)))))else(some (.inr (.inl ())))) cy 0).bind (Sum.elim (λ(_:Unit)=>some (-1)) some)
def f78(a:List cT)(b:Int):Option Bool:=(f140_1 a b).bind λc=>some (decide (0<=c))
def f245(a:cg)(b:Int):Option Bool:=(f78 a.cZ b).bind λc=>some c
def f192(b:dL)(a:Int)(g:Int):Option Int:=((bif (decide (a<0))then(some true)else(some (decide ((b.bG.length:Int)<=a)))):Option Bool).bind λ(f:Bool)=>bif f then(some 0)else(cr (0<=(wr (a+1)))<|cr ((wr (a+1)).toNat<=b.bG.length)<|(bY (τ:=Int) (λ((c,d):(Int×Int))=>bif (decide (d<(((b.bG.take b.bG.length).drop (wr (a+1)).toNat).length:Int)))then((ix ((b.bG.take b.bG.length).drop (wr (a+1)).toNat) d).bind λe=>((bif (decide (c=15))then(some true)else((f244 e).bind λi=>bif i then(some true)else((f245 e g).bind λj=>some j))):Option Bool).bind λ(h:Bool)=>bif h then(some (.inr c))else(some (.inl ((wr (c+1)),(wr (d+1))))))else(some (.inr c))) cy (0,0)).bind λ(k:Int)=>some k)
def f130(b:dL)(e:Int)(a:cT)(j:Int):Option Int:=((bif (decide (a.bc<1))then(some true)else(some (decide ((b.instrument.cj.length:Int)<a.bc)))):Option Bool).bind λ(g:Bool)=>bif g then(some 12)else(((bif (decide (a.ct<0))then(some true)else((ix b.instrument.cj (wr (a.bc-1))).bind λf=>some (decide (f.dz<a.ct)))):Option Bool).bind λ(d:Bool)=>bif d then(some 13)else(bif (decide (a.bc<=j))then(some 22)else(((bif (decide (a.right<0))then(some true)else(bif (decide (3<a.right))then(some true)else(bif (decide (a.jx<0))then(some true)else(some (decide (4<a.jx)))))):Option Bool).bind λ(c:Bool)=>bif c then(some 23)else(((bif (decide (a.hold<0))then(some true)else((f192 b e a.bc).bind λi=>bif (decide (i<a.hold))then(some true)else(bif (decide (0<a.hold))then(some (decide (a.ct=0)))else(some false)))):Option Bool).bind λ(h:Bool)=>bif h then(some 24)else(some 0)))))
def f66(c:dL):Option Int:=(f70 c.instrument).bind λe=>bif (decide (e≠0))then(some e)else(bif (decide (400<(c.bG.length:Int)))then(some 2)else((bY (τ:=(Unit⊕Int)) (λ(a:Int)=>bif (decide (a<(c.bG.length:Int)))then((ix c.bG a).bind λb=>(((f129 b.sign).bind λi=>bif (!i)then(some true)else(bif (decide (a=0))then(some (nV b.sign (⟨0,false,false⟩:cI)))else(some false))):Option Bool).bind λ(k:Bool)=>bif k then(some (.inr (.inr 20)))else(((bif b.tie then(bif (decide (a=0))then(some true)else(some (decide (0<(b.cZ.length:Int)))))else(some false)):Option Bool).bind λ(h:Bool)=>bif h then(some (.inr (.inr 21)))else((bY (τ:=(Unit⊕(Int⊕(Unit⊕Int)))) (λ((j,d):(Int×Int))=>bif (decide (d<(b.cZ.length:Int)))then((ix b.cZ d).bind λg=>(f130 c a g j).bind λf=>bif (decide (f≠0))then(some (.inr (.inr (.inr (.inr f)))))else(some (.inl (g.bc,(wr (d+1))))))else(some (.inr (.inl ())))) cy (0,0)).bind (Sum.elim (λ(_:Unit)=>some (.inl (wr (a+1)))) some))))else(some (.inr (.inl ())))) cy 0).bind (Sum.elim (λ(_:Unit)=>some 0) some)))
def f76(a:dL):Option Unit:=some ()
def f351(a:List Int)(e:dL)(c:Int)(b:Int):Option (List Int):=(ix a c).bind λd=>cr (a.length+1<=bJ)<|some (a++([(wr (d+b))]:List Int))
def f139(j:List Int)(b:dL):Option (List Int):=(bY (τ:=((List Int)⊕(List Int))) (λ((e,g,a):(List Int×Int×Int))=>bif (decide (a<(b.bG.length:Int)))then((ix b.bG a).bind λf=>(((f93 f.sign).bind λc=>bif (decide (0<c))then(some c)else(some g)):Option Int).bind λ(d:Int)=>(f351 e b a d).bind λi=>some (.inl (i,d,(wr (a+1)))))else(some (.inr (.inl e)))) cy (j,0,0)).bind (Sum.elim (λ(h:(List Int))=>some h) some)
def f29(a:dL):Option (((List Int))×Int):=(f66 a).bind λb=>bif (decide (b≠0))then(some (([]:List Int),b))else((f76 a).bind λd=>(f139 ([0]:List Int) a).bind λc=>some (c,0))
def f64(a:dL):Option (fL×Int):=(f29 a).bind λb=>some ((⟨a,b.1⟩:fL),b.2)
def f126(d:Int)(f:Int)(b:List Int)(e:List eg):Option (List eg×List Int):=cr (d<15)<|(ix b d).bind λc=>bif (decide (0<c))then((ix e (wr (c-1))).bind λa=>some ((e.set (wr (c-1)).toNat (⟨a.cW,a.bc,a.bW,a.bX,f⟩:eg)),(b.set d.toNat 0)))else(some (e,b))
def f25(b:bK)(a:bn):Option (Int×Int):=(f70 b).bind λc=>bif (decide (c≠0))then(some (0,c))else(((bif (decide (a.bc<1))then(some true)else(some (decide ((b.cj.length:Int)<a.bc)))):Option Bool).bind λ(g:Bool)=>bif g then(some (0,12))else((ix b.cj (wr (a.bc-1))).bind λd=>((bif (decide (a.ct<0))then(some true)else(some (decide (d.dz<a.ct)))):Option Bool).bind λ(f:Bool)=>bif f then(some (0,13))else((f71 b d a.ct).bind λe=>some (e,0))))
def f127(a:fL):Option Int:=(ix a.vn (wr ((a.vn.length:Int)-1))).bind λb=>some b
def f128(b:fL)(f:Int)(d:Int):Option Int:=(bY (τ:=Int) (λ(a:Int)=>((bif (decide ((wr (a+1))<(b.p.bG.length:Int)))then((ix b.p.bG (wr (a+1))).bind λe=>some e.tie)else(some false)):Option Bool).bind λ(c:Bool)=>bif c then(some (.inl (wr (a+1))))else(some (.inr a))) cy (wr (f+d))).bind λ(g:Int)=>some g
def f65(c:fL):Option (((List eg))×((List gR))):=(bY (τ:=(List eg×List gR)) (λ((i,o,r,b):(List eg×List gR×List Int×Int))=>bif (decide (b<(c.p.bG.length:Int)))then((ix c.p.bG b).bind λe=>(ix c.vn b).bind λf=>((((bif (decide ((e.cZ.length:Int)=0))then(some (!e.tie))else(some false)):Option Bool).bind λ(B:Bool)=>bif B then((bY (τ:=(List eg×List Int)) (λ((m,n,g):(List eg×List Int×Int))=>bif (decide (g<15))then((f126 g f n m).bind λq=>some (.inl (q.1,q.2,(wr (g+1)))))else(some (.inr (m,n)))) cy (i,r,0)).bind λ((u,A):(List eg×List Int))=>some (u,A))else(some (i,r))):Option (List eg×List Int)).bind λ((F,v):(List eg×List Int))=>(bY (τ:=(List eg×List gR×List Int)) (λ((l,h,k,j):(List eg×List gR×List Int×Int))=>bif (decide (j<(e.cZ.length:Int)))then((ix e.cZ j).bind λa=>(f126 a.bc f k l).bind λd=>(f25 c.p.instrument (⟨a.bc,a.ct⟩:bn)).bind λH=>(f127 c).bind λy=>((bif (decide (0<a.ct))then((f128 c b a.hold).bind λC=>(ix c.vn (wr (C+1))).bind λD=>some (d.2,D))else(cr (a.bc<15)<|(ix d.2 a.bc).bind λI=>some ((d.2.set a.bc.toNat (wr ((d.1.length:Int)+1))),y))):Option (List Int×Int)).bind λ((z,s):(List Int×Int))=>cr (d.1.length+1<=bJ)<|cr (h.length+1<=bJ)<|some (.inl ((d.1++([(⟨b,a.bc,H.1,f,s⟩:eg)]:List eg)),(h++([(⟨b,a.bc,a.ct,f,s⟩:gR)]:List gR)),z,(wr (j+1)))))else(some (.inr (l,h,k)))) cy (F,o,v,0)).bind λ((x,w,t):(List eg×List gR×List Int))=>some (.inl (x,w,t,(wr (b+1)))))else(some (.inr (i,o)))) cy (([]:List eg),([]:List gR),([0,0,0,0,0,0,0,0,0,0,0,0,0,0,0]:List Int),0)).bind λ((G,E):(List eg×List gR))=>some (G,E)
def f22(b:dL):Option (((List eg))×Int):=(f64 b).bind λa=>bif (decide (a.2≠0))then(some (([]:List eg),a.2))else((f65 a.1).bind λc=>some (c.1,0))
def f67(c:eF):Option Bool:=(bY (τ:=(Unit⊕Bool)) (λ(a:Int)=>bif (decide (a<(c.s.cX.length:Int)))then((ix c.s.cX a).bind λb=>(((f40 b.part 0 (wr ((c.cu.length:Int)-1))).bind λd=>bif (!d)then(some true)else((ix c.cu b.part).bind λi=>(f40 b.eK 0 (wr ((i.length:Int)-1))).bind λe=>bif (!e)then(some true)else((f40 b.kind 1 3).bind λg=>some (!g)))):Option Bool).bind λ(h:Bool)=>bif h then(some (.inr (.inr false)))else(((bif (decide (0<a))then((ix c.s.cX (wr (a-1))).bind λf=>(f51 f b).bind λj=>some (decide (0<=j)))else(some false)):Option Bool).bind λ(k:Bool)=>bif k then(some (.inr (.inr false)))else(some (.inl (wr (a+1))))))else(some (.inr (.inl ())))) cy 0).bind (Sum.elim (λ(_:Unit)=>some true) some)
def f137(a:cQ)(b:b8)(d:Int):Option Bool:=((bif (decide (a.part=b.part))then(bif (decide (a.eK=b.eK))then(some (decide (a.kind=d)))else(some false))else(some false)):Option Bool).bind λ(c:Bool)=>some c
def f136(b:List cQ)(e:b8)(f:Int):Option Int:=(bY (τ:=(Unit⊕Int)) (λ(a:Int)=>bif (decide (a<(b.length:Int)))then((ix b a).bind λd=>(f137 d e f).bind λc=>bif c then(some (.inr (.inr a)))else(some (.inl (wr (a+1)))))else(some (.inr (.inl ())))) cy 0).bind (Sum.elim (λ(_:Unit)=>some (-1)) some)
def f72(b:eF)(e:b8)(c:Int):Option (cQ×Bool):=(f136 b.s.cX e c).bind λa=>bif (decide (a<0))then(some ((⟨0,0,0,0⟩:cQ),false))else((ix b.s.cX a).bind λd=>some (d,true))
def f131(b:eF)(a:b8)(e:cQ):Option Bool:=(f72 b a 2).bind λd=>(f72 b a 3).bind λi=>((bif (!d.2)then(bif (!i.2)then((ix b.cu a.part).bind λj=>(ix j a.eK).bind λh=>bif (decide (e.time=h.bX))then((ix b.s.dp a.part).bind λc=>(ix c a.eK).bind λf=>some (gK f (⟨0,0⟩:bn)))else(some false))else(some false))else(some false)):Option Bool).bind λ(g:Bool)=>some g
def f132(d:eF)(b:b8):Option Bool:=(ix d.cu b.part).bind λk=>(ix k b.eK).bind λh=>(ix d.s.dp b.part).bind λi=>(ix i b.eK).bind λm=>(bY (τ:=(Unit⊕Bool)) (λ(c:Int)=>bif (decide (c<b.part))then((ix d.cu c).bind λe=>(bY (τ:=(Unit⊕(Int⊕(Unit⊕Bool)))) (λ(a:Int)=>bif (decide (a<(e.length:Int)))then((((ix e a).bind λf=>((bif (decide (f.bX≠h.bX))then(some true)else((ix d.s.dp c).bind λg=>(ix g a).bind λj=>some (!(gK j m)))):Option Bool).bind λ(n:Bool)=>bif n then(some (.inl ()))else((f72 d (⟨c,a⟩:b8) 1).bind λl=>bif (!l.2)then(some (.inr (.inr (.inr (.inr (.inr true))))))else(some (.inl ())))):Option (Unit⊕(Int⊕(Unit⊕(Int⊕(Unit⊕Bool)))))).bind (Sum.elim (λ(_:Unit)=>some (.inl (wr (a+1)))) some))else(some (.inr (.inl ())))) cy 0).bind (Sum.elim (λ(_:Unit)=>some (.inl (wr (c+1)))) some))else(some (.inr (.inl ())))) cy 0).bind (Sum.elim (λ(_:Unit)=>some false) some)
def f193(e:bK)(d:bn)(b:Int):Option Bool:=(f25 e d).bind λa=>((bif (decide (a.2=0))then(some (decide (a.1=b)))else(some false)):Option Bool).bind λ(c:Bool)=>some c
def f195(a:eg)(b:bV)(d:bn)(e:eF):Option Bool:=((bif (decide (a.bX=b.bX))then(bif (decide (a.bc=d.bc))then(some (decide (a.bW=(wr (b.bW+e.s.shift)))))else(some false))else(some false)):Option Bool).bind λ(c:Bool)=>some c
def f194(b:List eg)(f:bV)(g:bn)(d:eF):Option Int:=(bY (τ:=(Unit⊕Int)) (λ(a:Int)=>bif (decide (a<(b.length:Int)))then((ix b a).bind λe=>(f195 e f g d).bind λc=>bif c then(some (.inr (.inr a)))else(some (.inl (wr (a+1)))))else(some (.inr (.inl ())))) cy 0).bind (Sum.elim (λ(_:Unit)=>some (-1)) some)
def f133(a:eF)(c:b8):Option (Bool×List Bool):=(ix a.cu c.part).bind λi=>(ix i c.eK).bind λd=>(ix a.s.dp c.part).bind λh=>(ix h c.eK).bind λf=>(f193 a.s.bM.instrument f (wr (d.bW+a.s.shift))).bind λj=>bif (!j)then(some (false,a.jN))else((f194 a.notes d f a).bind λb=>bif (decide (b<0))then(some (false,a.jN))else((ix a.jN b).bind λm=>(f72 (⟨a.cu,a.s,a.notes,(a.jN.set b.toNat true)⟩:eF) c 3).bind λe=>bif e.2 then(((bif (decide (e.1.time<d.dr))then((ix a.notes b).bind λg=>some (decide (g.dr=e.1.time)))else(some false)):Option Bool).bind λ(k:Bool)=>some (k,(a.jN.set b.toNat true)))else((ix a.notes b).bind λl=>some ((decide (d.dr<=l.dr)),(a.jN.set b.toNat true)))))
def f68(a:eF)(b:b8):Option (Bool×List Bool):=(f72 a b 1).bind λc=>bif c.2 then((f131 a b (⟨c.1.part,c.1.eK,c.1.kind,c.1.time⟩:cQ)).bind λf=>some (f,a.jN))else((f72 a b 2).bind λd=>(((f132 a b).bind λj=>bif (!(d.2==j))then(some true)else(bif d.2 then((ix a.cu b.part).bind λg=>(ix g b.eK).bind λh=>some (decide (d.1.time≠h.bX)))else(some false))):Option Bool).bind λ(i:Bool)=>bif i then(some (false,a.jN))else((f133 a b).bind λe=>some (e.1,e.2)))
def f23(a:List (List bV))(c:dR):Option Int:=(f28 a).bind λi=>bif (decide (i≠0))then(some i)else((f66 c.bM).bind λg=>bif (decide (g≠0))then(some g)else((((f40 c.shift (-24) 24).bind λq=>bif (!q)then(some true)else(some (decide ((c.dp.length:Int)≠(a.length:Int))))):Option Bool).bind λ(o:Bool)=>bif o then(some 1)else((bY (τ:=(Unit⊕Int)) (λ(d:Int)=>bif (decide (d<(a.length:Int)))then((ix a d).bind λl=>(ix c.dp d).bind λr=>bif (decide ((r.length:Int)≠(l.length:Int)))then(some (.inr (.inr 1)))else(some (.inl (wr (d+1)))))else(some (.inr (.inl ())))) cy 0).bind (Sum.elim (λ(_:Unit)=>(f22 c.bM).bind λb=>bif (decide (b.2≠0))then(some b.2)else(cr (0<=(b.1.length:Int))<|cr ((b.1.length:Int)<=(bJ:Int))<|(f67 (⟨a,c,b.1,(List.replicate (b.1.length:Int).toNat (false:Bool))⟩:eF)).bind λm=>bif (!m)then(some 82)else((bY (τ:=((List Bool)⊕Int)) (λ((h,e):(List Bool×Int))=>bif (decide (e<(a.length:Int)))then((ix a e).bind λp=>(bY (τ:=((List Bool)⊕((List Bool×Int)⊕((List Bool)⊕Int)))) (λ((j,f):(List Bool×Int))=>bif (decide (f<(p.length:Int)))then((f68 (⟨a,c,b.1,j⟩:eF) (⟨e,f⟩:b8)).bind λk=>bif (!k.1)then(some (.inr (.inr (.inr (.inr 82)))))else(some (.inl (k.2,(wr (f+1))))))else(some (.inr (.inl j)))) cy (h,0)).bind (Sum.elim (λ(n:(List Bool))=>some (.inl (n,(wr (e+1))))) some))else(some (.inr (.inl h)))) cy ((List.replicate (b.1.length:Int).toNat (false:Bool)),0)).bind (Sum.elim (λ(t:(List Bool))=>(f69 t false).bind λs=>bif s then(some 82)else(some 0)) some)))) some))))
def f24(c:List cQ)(e:Int)(d:Int)(g:Int):Option (cQ×Bool):=(bY (τ:=(Unit⊕(cQ×Bool))) (λ(b:Int)=>bif (decide (b<(c.length:Int)))then((ix c b).bind λa=>((bif (decide (a.part=e))then(bif (decide (a.eK=d))then(some (decide (a.kind=g)))else(some false))else(some false)):Option Bool).bind λ(f:Bool)=>bif f then(some (.inr (.inr (a,true))))else(some (.inl (wr (b+1)))))else(some (.inr (.inl ())))) cy 0).bind (Sum.elim (λ(_:Unit)=>some ((⟨0,0,0,0⟩:cQ),false)) some)
def f6(a:fY):Option Bool:=(f9 a).bind λz=>bif z then((f10).bind λw=>some w)else((f11 a.cu a.instrument a.hand a.shift).bind λb=>bif (decide (b.2≠0))then((f10).bind λx=>some x)else((f22 b.1.bM).bind λe=>((bif (decide (e.2≠0))then(some true)else((f23 a.cu b.1).bind λJ=>bif (decide (J≠0))then(some true)else(some (decide ((b.1.dp.length:Int)≠(a.cu.length:Int)))))):Option Bool).bind λ(y:Bool)=>bif y then(some false)else(cr (0<=(e.1.length:Int))<|cr ((e.1.length:Int)<=(bJ:Int))<|(bY (τ:=((List Bool)⊕Bool)) (λ((o,d):(List Bool×Int))=>bif (decide (d<(a.cu.length:Int)))then((ix a.cu d).bind λn=>(ix b.1.dp d).bind λp=>bif (decide ((p.length:Int)≠(n.length:Int)))then(some (.inr (.inr false)))else((bY (τ:=((List Bool)⊕((List Bool×Int)⊕((List Bool)⊕Bool)))) (λ((k,g):(List Bool×Int))=>bif (decide (g<(n.length:Int)))then((((ix n g).bind λh=>(f24 b.1.cX d g 1).bind λG=>bif G.2 then(some (.inl k))else((ix p g).bind λq=>(f25 b.1.bM.instrument q).bind λm=>((bif (decide (m.2≠0))then(some true)else(some (decide (m.1≠(wr (h.bW+a.shift)))))):Option Bool).bind λ(t:Bool)=>bif t then(some (.inr (.inr (.inr (.inr (.inr false))))))else((f24 b.1.cX d g 3).bind λc=>(bY (τ:=((List Bool×Bool)⊕_)) (λ((j,r,i):(List Bool×Bool×Int))=>bif (decide (i<(e.1.length:Int)))then((((ix e.1 i).bind λf=>((bif (decide (f.bX≠h.bX))then(some true)else(bif (decide (f.bc≠q.bc))then(some true)else(some (decide (f.bW≠m.1))))):Option Bool).bind λ(D:Bool)=>bif D then(some (.inl (j,r)))else((ix j i).bind λK=>((bif (!c.2)then(bif (decide (f.dr<h.dr))then(some true)else(bif c.2 then(bif (decide (f.dr≠c.1.time))then(some true)else(some (decide (h.dr<=c.1.time))))else(some false)))else(bif c.2 then(bif (decide (f.dr≠c.1.time))then(some true)else(some (decide (h.dr<=c.1.time))))else(some false))):Option Bool).bind λ(v:Bool)=>bif v then(some (.inr (.inr (.inr (.inr (.inr (.inr (.inr (.inr false)))))))))else(some (.inl ((j.set i.toNat true),true))))):Option ((List Bool×Bool)⊕((List Bool×Bool×Int)⊕((List Bool×Bool)⊕_)))).bind (Sum.elim (λ((A,u):(List Bool×Bool))=>some (.inl (A,u,(wr (i+1))))) some))else(some (.inr (.inl (j,r))))) cy (k,false,0)).bind (Sum.elim (λ((E,F):(List Bool×Bool))=>bif (!F)then(some (.inr (.inr (.inr (.inr (.inr false))))))else(some (.inl E))) some)))):Option ((List Bool)⊕((List Bool×Int)⊕((List Bool)⊕((List Bool×Int)⊕((List Bool)⊕Bool)))))).bind (Sum.elim (λ(I:(List Bool))=>some (.inl (I,(wr (g+1))))) some))else(some (.inr (.inl k)))) cy (o,0)).bind (Sum.elim (λ(C:(List Bool))=>some (.inl (C,(wr (d+1))))) some)))else(some (.inr (.inl o)))) cy ((List.replicate (e.1.length:Int).toNat (false:Bool)),0)).bind (Sum.elim (λ(s:(List Bool))=>(bY (τ:=(Unit⊕Bool)) (λ(l:Int)=>bif (decide (l<(s.length:Int)))then((ix s l).bind λB=>bif (!B)then(some (.inr (.inr false)))else(some (.inl (wr (l+1)))))else(some (.inr (.inl ())))) cy 0).bind (Sum.elim (λ(_:Unit)=>(f10).bind λH=>some H) some)) some))))
end
end Go.Proofs.YtpbahncblggodaaGreat
