/- Functions of the program as Lean functions, and the walks. -/
import Derived.Test.YtfdnjgoegamonaaGreatDoorAmI
import Derived.Test.YtfdnjgoegamonaaGreatDoorChecked
import Derived.Test.YtfdnjgoegamonaaGreatDoorSg
import Derived.Test.YtfdnjgoegamonaaGreatDoorSo
import Derived.Test.YtfdnjgoegamonaaGreatDoorLsf
import Derived.Test.YtfdnjgoegamonaaGreatDoorTm
import Derived.Test.YtfdnjgoegamonaaGreatDoorStr
import Derived.Test.YtfdnjgoegamonaaGreatDoorSnd
namespace Go.Proofs.YtfdnjgoegamonaaGreatDoor
open Go Go.Am
set_option maxRecDepth 100000
set_option linter.all false
structure cj where
 cw:Int
 cy:Int
 dK:Int
 deriving DecidableEq
def jV(x:cj):AV:=.agg [.i x.cw,.i x.cy,.i x.dK]
theorem zU(x:cj):(jV x).dI=true:=(gG rfl (gG rfl (gG rfl xJ)))
structure eM where
 low:(List Int)
 high:(List Int)
 gA:(List Bool)
 top:Int
 jump:Int
 shift:Int
 lift:Int
 lR:Int
 eW:Int
 ie:Int
 deriving DecidableEq
def Dn(x:eM):AV:=.agg [.sl false (x.low.map AV.i),.sl false (x.high.map AV.i),.sl false (x.gA.map AV.bool),.i x.top,.i x.jump,.i x.shift,.i x.lift,.i x.lR,.i x.eW,.i x.ie]
theorem NY(x:eM):(Dn x).dI=true:=(gG (dT _ _ sG) (gG (dT _ _ sG) (gG (dT _ _ xI) (gG rfl (gG rfl (gG rfl (gG rfl (gG rfl (gG rfl (gG rfl xJ))))))))))
structure jW where
 cR:(List (List cj))
 text:ByteArray
 hand:eM
 shift:Int
 deriving DecidableEq
def sd(x:jW):AV:=.agg [.sl false (x.cR.map (SL jV)),.str x.text,.sl false (x.hand.low.map AV.i),.sl false (x.hand.high.map AV.i),.sl false (x.hand.gA.map AV.bool),.i x.hand.top,.i x.hand.jump,.i x.hand.shift,.i x.hand.lift,.i x.hand.lR,.i x.hand.eW,.i x.hand.ie,.i x.shift]
theorem HG(x:jW):(sd x).dI=true:=(gG (dT _ _ (BC zU)) (gG rfl (gG (dT _ _ sG) (gG (dT _ _ sG) (gG (dT _ _ xI) (gG rfl (gG rfl (gG rfl (gG rfl (gG rfl (gG rfl (gG rfl (gG rfl xJ)))))))))))))
structure cT where
 cw:Int
 eZ:Int
 iX:Bool
 deriving DecidableEq
def mX(x:cT):AV:=.agg [.i x.cw,.i x.eZ,.bool x.iX]
theorem nz(x:cT):(mX x).dI=true:=(gG rfl (gG rfl (gG rfl xJ)))
structure bY where
 cS:(List cT)
 cu:(List Int)
 deriving DecidableEq
def sT(x:bY):AV:=.agg [.sl false (x.cS.map mX),.sl false (x.cu.map AV.i)]
theorem zV(x:bY):(sT x).dI=true:=(gG (dT _ _ nz) (gG (dT _ _ sG) xJ))
structure df where
 value:Int
 dot:Bool
 three:Bool
 deriving DecidableEq
def se(x:df):AV:=.agg [.i x.value,.bool x.dot,.bool x.three]
theorem Ft(x:df):(se x).dI=true:=(gG rfl (gG rfl (gG rfl xJ)))
def oZ(x y:df):Bool:=((decide (x.value=y.value))&&((x.dot==y.dot)&&((x.three==y.three)&&true)))
structure dw where
 aY:Int
 cO:Int
 right:Int
 ka:Int
 hold:Int
 deriving DecidableEq
def nQ(x:dw):AV:=.agg [.i x.aY,.i x.cO,.i x.right,.i x.ka,.i x.hold]
theorem Fu(x:dw):(nQ x).dI=true:=(gG rfl (gG rfl (gG rfl (gG rfl (gG rfl xJ)))))
structure cz where
 lR:Bool
 sign:df
 tie:Bool
 dy:(List dw)
 deriving DecidableEq
def mi(x:cz):AV:=.agg [.bool x.lR,.i x.sign.value,.bool x.sign.dot,.bool x.sign.three,.bool x.tie,.sl false (x.dy.map nQ)]
theorem sf(x:cz):(mi x).dI=true:=(gG rfl (gG rfl (gG rfl (gG rfl (gG rfl (gG (dT _ _ Fu) xJ))))))
structure dW where
 instrument:bY
 bP:(List cz)
 deriving DecidableEq
def Fv(x:dW):AV:=.agg [.sl false (x.instrument.cS.map mX),.sl false (x.instrument.cu.map AV.i),.sl false (x.bP.map mi)]
theorem KS(x:dW):(Fv x).dI=true:=(gG (dT _ _ nz) (gG (dT _ _ sG) (gG (dT _ _ sf) xJ)))
structure be where
 aY:Int
 cO:Int
 deriving DecidableEq
def iY(x:be):AV:=.agg [.i x.aY,.i x.cO]
theorem pe(x:be):(iY x).dI=true:=(gG rfl (gG rfl xJ))
def jX(x y:be):Bool:=((decide (x.aY=y.aY))&&((decide (x.cO=y.cO))&&true))
structure dG where
 part:Int
 gD:Int
 kind:Int
 time:Int
 deriving DecidableEq
def uS(x:dG):AV:=.agg [.i x.part,.i x.gD,.i x.kind,.i x.time]
theorem Fw(x:dG):(uS x).dI=true:=(gG rfl (gG rfl (gG rfl (gG rfl xJ))))
structure dX where
 ck:dW
 shift:Int
 gO:(List (List be))
 eA:(List dG)
 deriving DecidableEq
def zW(x:dX):AV:=.agg [.sl false (x.ck.instrument.cS.map mX),.sl false (x.ck.instrument.cu.map AV.i),.sl false (x.ck.bP.map mi),.i x.shift,.sl false (x.gO.map (SL iY)),.sl false (x.eA.map uS)]
theorem Fx(x:dX):(zW x).dI=true:=(gG (dT _ _ nz) (gG (dT _ _ sG) (gG (dT _ _ sf) (gG rfl (gG (dT _ _ (BC pe)) (gG (dT _ _ Fw) xJ))))))
structure ga where
 letter:Int
 alter:Int
 iX:Int
 deriving DecidableEq
def wU(x:ga):AV:=.agg [.i x.letter,.i x.alter,.i x.iX]
theorem Dp(x:ga):(wU x).dI=true:=(gG rfl (gG rfl (gG rfl xJ)))
structure cq where
 cV:(List be)
 held:(List Int)
 dz:(List Int)
 deriving DecidableEq
def Fy(x:cq):AV:=.agg [.sl false (x.cV.map iY),.sl false (x.held.map AV.i),.sl false (x.dz.map AV.i)]
theorem KT(x:cq):(Fy x).dI=true:=(gG (dT _ _ pe) (gG (dT _ _ sG) (gG (dT _ _ sG) xJ)))
structure cK where
 part:Int
 gD:Int
 deriving DecidableEq
def iG(x:cK):AV:=.agg [.i x.part,.i x.gD]
theorem wV(x:cK):(iG x).dI=true:=(gG rfl (gG rfl xJ))
structure bE where
 cg:(List cK)
 cw:Int
 cy:Int
 dK:Int
 cp:be
 cP:Int
 deriving DecidableEq
def FA(x:bE):AV:=.agg [.sl false (x.cg.map iG),.i x.cw,.i x.cy,.i x.dK,.i x.cp.aY,.i x.cp.cO,.i x.cP]
theorem KU(x:bE):(FA x).dI=true:=(gG (dT _ _ wV) (gG rfl (gG rfl (gG rfl (gG rfl (gG rfl (gG rfl xJ)))))))
structure cG where
 pos:Int
 dC:(List Int)
 deriving DecidableEq
def Jl(x:cG):AV:=.agg [.i x.pos,.sl false (x.dC.map AV.i)]
theorem NZ(x:cG):(Jl x).dI=true:=(gG rfl (gG (dT _ _ sG) xJ))
structure dl where
 dM:cq
 kQ:bY
 h:eM
 shift:Int
 ck:dW
 dx:(List bE)
 fI:(List cG)
 deriving DecidableEq
structure ct where
 places:(List be)
 cut:(List Bool)
 deriving DecidableEq
def zX(x:ct):AV:=.agg [.sl false (x.places.map iY),.sl false (x.cut.map AV.bool)]
theorem FB(x:ct):(zX x).dI=true:=(gG (dT _ _ pe) (gG (dT _ _ xI) xJ))
structure eg where
 letter:Int
 alter:Int
 iX:Int
 deriving DecidableEq
def qh(x:eg):AV:=.agg [.i x.letter,.i x.alter,.i x.iX]
theorem v7(x:eg):(qh x).dI=true:=(gG rfl (gG rfl (gG rfl xJ)))
structure gn where
 p:dW
 v8:(List Int)
 deriving DecidableEq
def uT(x:gn):AV:=.agg [.sl false (x.p.instrument.cS.map mX),.sl false (x.p.instrument.cu.map AV.i),.sl false (x.p.bP.map mi),.sl false (x.v8.map AV.i)]
theorem Bi(x:gn):(uT x).dI=true:=(gG (dT _ _ nz) (gG (dT _ _ sG) (gG (dT _ _ sf) (gG (dT _ _ sG) xJ))))
structure de where
 cP:Int
 aY:Int
 cw:Int
 cy:Int
 dK:Int
 deriving DecidableEq
def Dq(x:de):AV:=.agg [.i x.cP,.i x.aY,.i x.cw,.i x.cy,.i x.dK]
theorem FC(x:de):(Dq x).dI=true:=(gG rfl (gG rfl (gG rfl (gG rfl (gG rfl xJ)))))
structure iC where
 cP:Int
 aY:Int
 cO:Int
 cy:Int
 dK:Int
 deriving DecidableEq
def BX(x:iC):AV:=.agg [.i x.cP,.i x.aY,.i x.cO,.i x.cy,.i x.dK]
theorem HH(x:iC):(BX x).dI=true:=(gG rfl (gG rfl (gG rfl (gG rfl (gG rfl xJ)))))
structure gj where
 low:(List Int)
 high:(List Int)
 N0:Int
 Xw:Int
 FD:Int
 deriving DecidableEq
def BZ(x:gj):AV:=.agg [.sl false (x.low.map AV.i),.sl false (x.high.map AV.i),.i x.N0,.i x.Xw,.i x.FD]
theorem HI(x:gj):(BZ x).dI=true:=(gG (dT _ _ sG) (gG (dT _ _ sG) (gG rfl (gG rfl (gG rfl xJ)))))
structure eO where
 zY:(List Int)
 mY:Int
 Dr:Int
 deriving DecidableEq
def zZ(x:eO):AV:=.agg [.sl false (x.zY.map AV.i),.i x.mY,.i x.Dr]
theorem FE(x:eO):(zZ x).dI=true:=(gG (dT _ _ sG) (gG rfl (gG rfl xJ)))
def TS:Nat->Type
 |0=>cj
 |1=>(List cj)
 |2=>Int
 |3=>Bool
 |4=>jW
 |5=>ByteArray
 |6=>ga
 |7=>cT
 |8=>bY
 |9=>eM
 |10=>df
 |11=>(List df)
 |12=>be
 |13=>(List be)
 |14=>dG
 |15=>dw
 |16=>cz
 |17=>cK
 |18=>bE
 |19=>cG
 |20=>ct
 |21=>cq
 |22=>dX
 |23=>eg
 |24=>dW
 |25=>gn
 |26=>de
 |27=>iC
 |28=>gj
 |29=>(List de)
 |30=>eO
 |_+31=>Unit
def TE:(c:Nat)->TS c->AV
 |0,x=>jV x
 |1,x=>(SL jV) x
 |2,x=>AV.i x
 |3,x=>AV.bool x
 |4,x=>sd x
 |5,x=>AV.str x
 |6,x=>wU x
 |7,x=>mX x
 |8,x=>sT x
 |9,x=>Dn x
 |10,x=>se x
 |11,x=>(SL se) x
 |12,x=>iY x
 |13,x=>(SL iY) x
 |14,x=>uS x
 |15,x=>nQ x
 |16,x=>mi x
 |17,x=>iG x
 |18,x=>(λ(x:bE)=>AV.ip [.sl false (x.cg.map iG),.i x.cw,.i x.cy,.i x.dK,.i x.cp.aY,.i x.cp.cO,.i x.cP]) x
 |19,x=>Jl x
 |20,x=>zX x
 |21,x=>Fy x
 |22,x=>zW x
 |23,x=>qh x
 |24,x=>Fv x
 |25,x=>uT x
 |26,x=>Dq x
 |27,x=>BX x
 |28,x=>BZ x
 |29,x=>(SL Dq) x
 |30,x=>zZ x
 |_+31,_=>.iO
def TX:(c:Nat)->TS c->TV TS
 |0,(x:cj)=>.agg [.n x.cw,.n x.cy,.n x.dK]
 |1,(x:(List cj))=>.l false 0 x
 |2,(x:Int)=>.n x
 |3,(x:Bool)=>.b x
 |4,(x:jW)=>.agg [.l false 1 x.cR,.z x.text,.l false 2 x.hand.low,.l false 2 x.hand.high,.l false 3 x.hand.gA,.n x.hand.top,.n x.hand.jump,.n x.hand.shift,.n x.hand.lift,.n x.hand.lR,.n x.hand.eW,.n x.hand.ie,.n x.shift]
 |5,(x:ByteArray)=>.z x
 |6,(x:ga)=>.agg [.n x.letter,.n x.alter,.n x.iX]
 |7,(x:cT)=>.agg [.n x.cw,.n x.eZ,.b x.iX]
 |8,(x:bY)=>.agg [.l false 7 x.cS,.l false 2 x.cu]
 |9,(x:eM)=>.agg [.l false 2 x.low,.l false 2 x.high,.l false 3 x.gA,.n x.top,.n x.jump,.n x.shift,.n x.lift,.n x.lR,.n x.eW,.n x.ie]
 |10,(x:df)=>.agg [.n x.value,.b x.dot,.b x.three]
 |11,(x:(List df))=>.l false 10 x
 |12,(x:be)=>.agg [.n x.aY,.n x.cO]
 |13,(x:(List be))=>.l false 12 x
 |14,(x:dG)=>.agg [.n x.part,.n x.gD,.n x.kind,.n x.time]
 |15,(x:dw)=>.agg [.n x.aY,.n x.cO,.n x.right,.n x.ka,.n x.hold]
 |16,(x:cz)=>.agg [.b x.lR,.n x.sign.value,.b x.sign.dot,.b x.sign.three,.b x.tie,.l false 15 x.dy]
 |17,(x:cK)=>.agg [.n x.part,.n x.gD]
 |18,(x:bE)=>.ip [.l false 17 x.cg,.n x.cw,.n x.cy,.n x.dK,.n x.cp.aY,.n x.cp.cO,.n x.cP]
 |19,(x:cG)=>.agg [.n x.pos,.l false 2 x.dC]
 |20,(x:ct)=>.agg [.l false 12 x.places,.l false 3 x.cut]
 |21,(x:cq)=>.agg [.l false 12 x.cV,.l false 2 x.held,.l false 2 x.dz]
 |22,(x:dX)=>.agg [.l false 7 x.ck.instrument.cS,.l false 2 x.ck.instrument.cu,.l false 16 x.ck.bP,.n x.shift,.l false 13 x.gO,.l false 14 x.eA]
 |23,(x:eg)=>.agg [.n x.letter,.n x.alter,.n x.iX]
 |24,(x:dW)=>.agg [.l false 7 x.instrument.cS,.l false 2 x.instrument.cu,.l false 16 x.bP]
 |25,(x:gn)=>.agg [.l false 7 x.p.instrument.cS,.l false 2 x.p.instrument.cu,.l false 16 x.p.bP,.l false 2 x.v8]
 |26,(x:de)=>.agg [.n x.cP,.n x.aY,.n x.cw,.n x.cy,.n x.dK]
 |27,(x:iC)=>.agg [.n x.cP,.n x.aY,.n x.cO,.n x.cy,.n x.dK]
 |28,(x:gj)=>.agg [.l false 2 x.low,.l false 2 x.high,.n x.N0,.n x.Xw,.n x.FD]
 |29,(x:(List de))=>.l false 26 x
 |30,(x:eO)=>.agg [.l false 2 x.zY,.n x.mY,.n x.Dr]
 |_+31,_=>.a .iO
def gI:TV TS->Option Int
 |.i _ n=>some n
 |.a (.int _ n)=>some n
 |.v d x=>match TX d x with
  |.i _ n=>some n
  |_=>none
 |_=>none
def gB:TV TS->Option Bool
 |.b t=>some t
 |.a (.bool t)=>some t
 |.v d x=>match TX d x with
  |.b t=>some t
  |_=>none
 |_=>none
def gZ:TV TS->Option ByteArray
 |.z t=>some t
 |.a (.str t)=>some t
 |_=>none
def gV(d c:Nat)(x:TS d):Option (TS c):=if h:d=c then some (h ▸ x)else none
def gLx(d c:Nat)(x:List (TS d)):Option (List (TS c)):=if h:d=c then some (h ▸ x)else none
def gL(c:Nat):TV TS->Option (List (TS c))
 |.l _ d x=>gLx d c x
 |.a (.sl _ [])=>some []
 |.v d x=>match TX d x with
  |.l _ d x=>gLx d c x
  |_=>none
 |_=>none
def TD:(c:Nat)->TV TS->Option (TS c)
 |0,.a (.agg [x0,x1,x2])=>(gI (.a x0)).bind λx0=>(gI (.a x1)).bind λx1=>(gI (.a x2)).bind λx2=>some ⟨x0,x1,x2⟩
 |0,.v d x=>gV d 0 x
 |0,.agg [x0,x1,x2]=>(gI x0).bind λx0=>(gI x1).bind λx1=>(gI x2).bind λx2=>some ⟨x0,x1,x2⟩
 |1,x=>gL 0 x
 |2,x=>gI x
 |3,x=>gB x
 |4,.a (.agg [x0,x1,x2,x3,x4,x5,x6,x7,x8,x9,Un,Uo,Up])=>(gL 1 (.a x0)).bind λx0=>(gZ (.a x1)).bind λx1=>(gL 2 (.a x2)).bind λx2=>(gL 2 (.a x3)).bind λx3=>(gL 3 (.a x4)).bind λx4=>(gI (.a x5)).bind λx5=>(gI (.a x6)).bind λx6=>(gI (.a x7)).bind λx7=>(gI (.a x8)).bind λx8=>(gI (.a x9)).bind λx9=>(gI (.a Un)).bind λUn=>(gI (.a Uo)).bind λUo=>(gI (.a Up)).bind λUp=>some ⟨x0,x1,⟨x2,x3,x4,x5,x6,x7,x8,x9,Un,Uo⟩,Up⟩
 |4,.v d x=>gV d 4 x
 |4,.agg [x0,x1,x2,x3,x4,x5,x6,x7,x8,x9,Un,Uo,Up]=>(gL 1 x0).bind λx0=>(gZ x1).bind λx1=>(gL 2 x2).bind λx2=>(gL 2 x3).bind λx3=>(gL 3 x4).bind λx4=>(gI x5).bind λx5=>(gI x6).bind λx6=>(gI x7).bind λx7=>(gI x8).bind λx8=>(gI x9).bind λx9=>(gI Un).bind λUn=>(gI Uo).bind λUo=>(gI Up).bind λUp=>some ⟨x0,x1,⟨x2,x3,x4,x5,x6,x7,x8,x9,Un,Uo⟩,Up⟩
 |5,x=>gZ x
 |6,.a (.agg [x0,x1,x2])=>(gI (.a x0)).bind λx0=>(gI (.a x1)).bind λx1=>(gI (.a x2)).bind λx2=>some ⟨x0,x1,x2⟩
 |6,.v d x=>gV d 6 x
 |6,.agg [x0,x1,x2]=>(gI x0).bind λx0=>(gI x1).bind λx1=>(gI x2).bind λx2=>some ⟨x0,x1,x2⟩
 |7,.a (.agg [x0,x1,x2])=>(gI (.a x0)).bind λx0=>(gI (.a x1)).bind λx1=>(gB (.a x2)).bind λx2=>some ⟨x0,x1,x2⟩
 |7,.v d x=>gV d 7 x
 |7,.agg [x0,x1,x2]=>(gI x0).bind λx0=>(gI x1).bind λx1=>(gB x2).bind λx2=>some ⟨x0,x1,x2⟩
 |8,.a (.agg [x0,x1])=>(gL 7 (.a x0)).bind λx0=>(gL 2 (.a x1)).bind λx1=>some ⟨x0,x1⟩
 |8,.v d x=>gV d 8 x
 |8,.agg [x0,x1]=>(gL 7 x0).bind λx0=>(gL 2 x1).bind λx1=>some ⟨x0,x1⟩
 |9,.a (.agg [x0,x1,x2,x3,x4,x5,x6,x7,x8,x9])=>(gL 2 (.a x0)).bind λx0=>(gL 2 (.a x1)).bind λx1=>(gL 3 (.a x2)).bind λx2=>(gI (.a x3)).bind λx3=>(gI (.a x4)).bind λx4=>(gI (.a x5)).bind λx5=>(gI (.a x6)).bind λx6=>(gI (.a x7)).bind λx7=>(gI (.a x8)).bind λx8=>(gI (.a x9)).bind λx9=>some ⟨x0,x1,x2,x3,x4,x5,x6,x7,x8,x9⟩
 |9,.v d x=>gV d 9 x
 |9,.agg [x0,x1,x2,x3,x4,x5,x6,x7,x8,x9]=>(gL 2 x0).bind λx0=>(gL 2 x1).bind λx1=>(gL 3 x2).bind λx2=>(gI x3).bind λx3=>(gI x4).bind λx4=>(gI x5).bind λx5=>(gI x6).bind λx6=>(gI x7).bind λx7=>(gI x8).bind λx8=>(gI x9).bind λx9=>some ⟨x0,x1,x2,x3,x4,x5,x6,x7,x8,x9⟩
 |10,.a (.agg [x0,x1,x2])=>(gI (.a x0)).bind λx0=>(gB (.a x1)).bind λx1=>(gB (.a x2)).bind λx2=>some ⟨x0,x1,x2⟩
 |10,.v d x=>gV d 10 x
 |10,.agg [x0,x1,x2]=>(gI x0).bind λx0=>(gB x1).bind λx1=>(gB x2).bind λx2=>some ⟨x0,x1,x2⟩
 |11,x=>gL 10 x
 |12,.a (.agg [x0,x1])=>(gI (.a x0)).bind λx0=>(gI (.a x1)).bind λx1=>some ⟨x0,x1⟩
 |12,.v d x=>gV d 12 x
 |12,.agg [x0,x1]=>(gI x0).bind λx0=>(gI x1).bind λx1=>some ⟨x0,x1⟩
 |13,x=>gL 12 x
 |14,.a (.agg [x0,x1,x2,x3])=>(gI (.a x0)).bind λx0=>(gI (.a x1)).bind λx1=>(gI (.a x2)).bind λx2=>(gI (.a x3)).bind λx3=>some ⟨x0,x1,x2,x3⟩
 |14,.v d x=>gV d 14 x
 |14,.agg [x0,x1,x2,x3]=>(gI x0).bind λx0=>(gI x1).bind λx1=>(gI x2).bind λx2=>(gI x3).bind λx3=>some ⟨x0,x1,x2,x3⟩
 |15,.a (.agg [x0,x1,x2,x3,x4])=>(gI (.a x0)).bind λx0=>(gI (.a x1)).bind λx1=>(gI (.a x2)).bind λx2=>(gI (.a x3)).bind λx3=>(gI (.a x4)).bind λx4=>some ⟨x0,x1,x2,x3,x4⟩
 |15,.v d x=>gV d 15 x
 |15,.agg [x0,x1,x2,x3,x4]=>(gI x0).bind λx0=>(gI x1).bind λx1=>(gI x2).bind λx2=>(gI x3).bind λx3=>(gI x4).bind λx4=>some ⟨x0,x1,x2,x3,x4⟩
 |16,.a (.agg [x0,x1,x2,x3,x4,x5])=>(gB (.a x0)).bind λx0=>(gI (.a x1)).bind λx1=>(gB (.a x2)).bind λx2=>(gB (.a x3)).bind λx3=>(gB (.a x4)).bind λx4=>(gL 15 (.a x5)).bind λx5=>some ⟨x0,⟨x1,x2,x3⟩,x4,x5⟩
 |16,.v d x=>gV d 16 x
 |16,.agg [x0,x1,x2,x3,x4,x5]=>(gB x0).bind λx0=>(gI x1).bind λx1=>(gB x2).bind λx2=>(gB x3).bind λx3=>(gB x4).bind λx4=>(gL 15 x5).bind λx5=>some ⟨x0,⟨x1,x2,x3⟩,x4,x5⟩
 |17,.a (.agg [x0,x1])=>(gI (.a x0)).bind λx0=>(gI (.a x1)).bind λx1=>some ⟨x0,x1⟩
 |17,.v d x=>gV d 17 x
 |17,.agg [x0,x1]=>(gI x0).bind λx0=>(gI x1).bind λx1=>some ⟨x0,x1⟩
 |18,.v d x=>gV d 18 x
 |18,.ip [x0,x1,x2,x3,x4,x5,x6]=>(gL 17 x0).bind λx0=>(gI x1).bind λx1=>(gI x2).bind λx2=>(gI x3).bind λx3=>(gI x4).bind λx4=>(gI x5).bind λx5=>(gI x6).bind λx6=>some ⟨x0,x1,x2,x3,⟨x4,x5⟩,x6⟩
 |19,.a (.agg [x0,x1])=>(gI (.a x0)).bind λx0=>(gL 2 (.a x1)).bind λx1=>some ⟨x0,x1⟩
 |19,.v d x=>gV d 19 x
 |19,.agg [x0,x1]=>(gI x0).bind λx0=>(gL 2 x1).bind λx1=>some ⟨x0,x1⟩
 |20,.a (.agg [x0,x1])=>(gL 12 (.a x0)).bind λx0=>(gL 3 (.a x1)).bind λx1=>some ⟨x0,x1⟩
 |20,.v d x=>gV d 20 x
 |20,.agg [x0,x1]=>(gL 12 x0).bind λx0=>(gL 3 x1).bind λx1=>some ⟨x0,x1⟩
 |21,.a (.agg [x0,x1,x2])=>(gL 12 (.a x0)).bind λx0=>(gL 2 (.a x1)).bind λx1=>(gL 2 (.a x2)).bind λx2=>some ⟨x0,x1,x2⟩
 |21,.v d x=>gV d 21 x
 |21,.agg [x0,x1,x2]=>(gL 12 x0).bind λx0=>(gL 2 x1).bind λx1=>(gL 2 x2).bind λx2=>some ⟨x0,x1,x2⟩
 |22,.a (.agg [x0,x1,x2,x3,x4,x5])=>(gL 7 (.a x0)).bind λx0=>(gL 2 (.a x1)).bind λx1=>(gL 16 (.a x2)).bind λx2=>(gI (.a x3)).bind λx3=>(gL 13 (.a x4)).bind λx4=>(gL 14 (.a x5)).bind λx5=>some ⟨⟨⟨x0,x1⟩,x2⟩,x3,x4,x5⟩
 |22,.v d x=>gV d 22 x
 |22,.agg [x0,x1,x2,x3,x4,x5]=>(gL 7 x0).bind λx0=>(gL 2 x1).bind λx1=>(gL 16 x2).bind λx2=>(gI x3).bind λx3=>(gL 13 x4).bind λx4=>(gL 14 x5).bind λx5=>some ⟨⟨⟨x0,x1⟩,x2⟩,x3,x4,x5⟩
 |23,.a (.agg [x0,x1,x2])=>(gI (.a x0)).bind λx0=>(gI (.a x1)).bind λx1=>(gI (.a x2)).bind λx2=>some ⟨x0,x1,x2⟩
 |23,.v d x=>gV d 23 x
 |23,.agg [x0,x1,x2]=>(gI x0).bind λx0=>(gI x1).bind λx1=>(gI x2).bind λx2=>some ⟨x0,x1,x2⟩
 |24,.a (.agg [x0,x1,x2])=>(gL 7 (.a x0)).bind λx0=>(gL 2 (.a x1)).bind λx1=>(gL 16 (.a x2)).bind λx2=>some ⟨⟨x0,x1⟩,x2⟩
 |24,.v d x=>gV d 24 x
 |24,.agg [x0,x1,x2]=>(gL 7 x0).bind λx0=>(gL 2 x1).bind λx1=>(gL 16 x2).bind λx2=>some ⟨⟨x0,x1⟩,x2⟩
 |25,.a (.agg [x0,x1,x2,x3])=>(gL 7 (.a x0)).bind λx0=>(gL 2 (.a x1)).bind λx1=>(gL 16 (.a x2)).bind λx2=>(gL 2 (.a x3)).bind λx3=>some ⟨⟨⟨x0,x1⟩,x2⟩,x3⟩
 |25,.v d x=>gV d 25 x
 |25,.agg [x0,x1,x2,x3]=>(gL 7 x0).bind λx0=>(gL 2 x1).bind λx1=>(gL 16 x2).bind λx2=>(gL 2 x3).bind λx3=>some ⟨⟨⟨x0,x1⟩,x2⟩,x3⟩
 |26,.a (.agg [x0,x1,x2,x3,x4])=>(gI (.a x0)).bind λx0=>(gI (.a x1)).bind λx1=>(gI (.a x2)).bind λx2=>(gI (.a x3)).bind λx3=>(gI (.a x4)).bind λx4=>some ⟨x0,x1,x2,x3,x4⟩
 |26,.v d x=>gV d 26 x
 |26,.agg [x0,x1,x2,x3,x4]=>(gI x0).bind λx0=>(gI x1).bind λx1=>(gI x2).bind λx2=>(gI x3).bind λx3=>(gI x4).bind λx4=>some ⟨x0,x1,x2,x3,x4⟩
 |27,.a (.agg [x0,x1,x2,x3,x4])=>(gI (.a x0)).bind λx0=>(gI (.a x1)).bind λx1=>(gI (.a x2)).bind λx2=>(gI (.a x3)).bind λx3=>(gI (.a x4)).bind λx4=>some ⟨x0,x1,x2,x3,x4⟩
 |27,.v d x=>gV d 27 x
 |27,.agg [x0,x1,x2,x3,x4]=>(gI x0).bind λx0=>(gI x1).bind λx1=>(gI x2).bind λx2=>(gI x3).bind λx3=>(gI x4).bind λx4=>some ⟨x0,x1,x2,x3,x4⟩
 |28,.a (.agg [x0,x1,x2,x3,x4])=>(gL 2 (.a x0)).bind λx0=>(gL 2 (.a x1)).bind λx1=>(gI (.a x2)).bind λx2=>(gI (.a x3)).bind λx3=>(gI (.a x4)).bind λx4=>some ⟨x0,x1,x2,x3,x4⟩
 |28,.v d x=>gV d 28 x
 |28,.agg [x0,x1,x2,x3,x4]=>(gL 2 x0).bind λx0=>(gL 2 x1).bind λx1=>(gI x2).bind λx2=>(gI x3).bind λx3=>(gI x4).bind λx4=>some ⟨x0,x1,x2,x3,x4⟩
 |29,x=>gL 26 x
 |30,.a (.agg [x0,x1,x2])=>(gL 2 (.a x0)).bind λx0=>(gI (.a x1)).bind λx1=>(gI (.a x2)).bind λx2=>some ⟨x0,x1,x2⟩
 |30,.v d x=>gV d 30 x
 |30,.agg [x0,x1,x2]=>(gL 2 x0).bind λx0=>(gI x1).bind λx1=>(gI x2).bind λx2=>some ⟨x0,x1,x2⟩
 |_,_=>none
def TTc:TypeId->Option Nat
 |2=>some 2
 |3=>some 2
 |4=>some 3
 |9=>some 5
 |10=>some 5
 |11=>some 5
 |26=>some 9
 |28=>some 4
 |31=>some 8
 |34=>some 24
 |38=>some 22
 |42=>some 29
 |43=>some 2
 |47=>some 28
 |48=>some 1
 |49=>some 13
 |51=>some 0
 |53=>some 26
 |55=>some 12
 |57=>some 30
 |73=>some 10
 |76=>some 16
 |78=>some 25
 |105=>some 7
 |114=>some 11
 |121=>some 21
 |134=>some 14
 |140=>some 15
 |146=>some 27
 |159=>some 6
 |177=>some 20
 |188=>some 17
 |225=>some 2
 |236=>some 23
 |267=>some 19
 |_=>none
def TWd:Nat->Nat
 |0=>3
 |1=>1
 |2=>1
 |3=>1
 |4=>13
 |5=>1
 |6=>3
 |7=>3
 |8=>2
 |9=>10
 |10=>3
 |11=>1
 |12=>2
 |13=>1
 |14=>4
 |15=>5
 |16=>6
 |17=>2
 |18=>1
 |19=>2
 |20=>2
 |21=>3
 |22=>6
 |23=>3
 |24=>3
 |25=>4
 |26=>5
 |27=>5
 |28=>5
 |29=>1
 |30=>3
 |_+31=>1
theorem ln: ∀(c:Nat)(x:TS c),(TX c x).er TE=TE c x:=λc x=>match c,x with|0,_=>rfl|1,_=>rfl|2,_=>rfl|3,_=>rfl|4,_=>rfl|5,_=>rfl|6,_=>rfl|7,_=>rfl|8,_=>rfl|9,_=>rfl|10,_=>rfl|11,_=>rfl|12,_=>rfl|13,_=>rfl|14,_=>rfl|15,_=>rfl|16,_=>rfl|17,_=>rfl|18,_=>rfl|19,_=>rfl|20,_=>rfl|21,_=>rfl|22,_=>rfl|23,_=>rfl|24,_=>rfl|25,_=>rfl|26,_=>rfl|27,_=>rfl|28,_=>rfl|29,_=>rfl|30,_=>rfl|_+31,_=>rfl
theorem aaL: ∀(c:Nat)(x:TS c),(TX c x).P6=false:=λc x=>match c,x with|0,_=>rfl|1,_=>rfl|2,_=>rfl|3,_=>rfl|4,_=>rfl|5,_=>rfl|6,_=>rfl|7,_=>rfl|8,_=>rfl|9,_=>rfl|10,_=>rfl|11,_=>rfl|12,_=>rfl|13,_=>rfl|14,_=>rfl|15,_=>rfl|16,_=>rfl|17,_=>rfl|18,_=>rfl|19,_=>rfl|20,_=>rfl|21,_=>rfl|22,_=>rfl|23,_=>rfl|24,_=>rfl|25,_=>rfl|26,_=>rfl|27,_=>rfl|28,_=>rfl|29,_=>rfl|30,_=>rfl|_+31,_=>rfl
theorem kf: ∀(c:Nat)(x:TS c),(TE c x).dI=true:=λc x=>match c,x with|0,x=>zU x|1,x=>(BC zU) x|2,x=>sG x|3,x=>xI x|4,x=>HG x|5,x=>Tm x|6,x=>Dp x|7,x=>nz x|8,x=>zV x|9,x=>NY x|10,x=>Ft x|11,x=>(BC Ft) x|12,x=>pe x|13,x=>(BC pe) x|14,x=>Fw x|15,x=>Fu x|16,x=>sf x|17,x=>wV x|18,x=>(λ(x:bE)=>(KU x:(AV.ip [.sl false (x.cg.map iG),.i x.cw,.i x.cy,.i x.dK,.i x.cp.aY,.i x.cp.cO,.i x.cP]).dI=true)) x|19,x=>NZ x|20,x=>FB x|21,x=>KT x|22,x=>Fx x|23,x=>v7 x|24,x=>KS x|25,x=>Bi x|26,x=>FC x|27,x=>HH x|28,x=>HI x|29,x=>(BC FC) x|30,x=>FE x|_+31,_=>rfl
theorem lq: ∀(c:Nat)(x:TS c),(TE c x).cells.length=TWd c:=λc x=>match c,x with|0,_=>rfl|1,_=>rfl|2,_=>rfl|3,_=>rfl|4,_=>rfl|5,_=>rfl|6,_=>rfl|7,_=>rfl|8,_=>rfl|9,_=>rfl|10,_=>rfl|11,_=>rfl|12,_=>rfl|13,_=>rfl|14,_=>rfl|15,_=>rfl|16,_=>rfl|17,_=>rfl|18,_=>rfl|19,_=>rfl|20,_=>rfl|21,_=>rfl|22,_=>rfl|23,_=>rfl|24,_=>rfl|25,_=>rfl|26,_=>rfl|27,_=>rfl|28,_=>rfl|29,_=>rfl|30,_=>rfl|_+31,_=>rfl
noncomputable def TLp:Nat->yT
 |0=>QA zP 78 13
 |1=>QA zP 153 19
 |2=>QA zP 153 5
 |3=>QA zP 9 18
 |_=>⟨0,[],.skip,.skip⟩
def TKn:Nat->Nat
 |1=>1
 |13=>1
 |16=>1
 |18=>2
 |_=>0
theorem HJ(x y:cj)(h:jV x=jV y):x=y:=by
 obtain⟨a1,a2,a3⟩:=x;obtain⟨b1,b2,b3⟩:=y;simp only[jV,AV.ip.injEq,AV.agg.injEq,List.cons.injEq,AV.int.injEq,AV.bool.injEq,AV.str.injEq,AV.sl.injEq,O7,Px]at h;obtain⟨rfl,rfl,rfl⟩:=h;rfl
theorem Xx(x y:(List cj))(h:(SL jV) x=(SL jV) y):x=y:=E7 HJ x y (by simpa[SL]using h)
theorem FF(x y:be)(h:iY x=iY y):x=y:=by
 obtain⟨a1,a2⟩:=x;obtain⟨b1,b2⟩:=y;simp only[iY,AV.ip.injEq,AV.agg.injEq,List.cons.injEq,AV.int.injEq,AV.bool.injEq,AV.str.injEq,AV.sl.injEq,O7,Px]at h;obtain⟨rfl,rfl⟩:=h;rfl
theorem Uq(x y:(List be))(h:(SL iY) x=(SL iY) y):x=y:=E7 FF x y (by simpa[SL]using h)
theorem HK(x y:dw)(h:nQ x=nQ y):x=y:=by
 obtain⟨a1,a2,a3,a4,a5⟩:=x;obtain⟨b1,b2,b3,b4,b5⟩:=y;simp only[nQ,AV.ip.injEq,AV.agg.injEq,List.cons.injEq,AV.int.injEq,AV.bool.injEq,AV.str.injEq,AV.sl.injEq,O7,Px]at h;obtain⟨rfl,rfl,rfl,rfl,rfl⟩:=h;rfl
theorem FG(x y:cz)(h:mi x=mi y):x=y:=by
 obtain⟨a1,⟨a2,a3,a4⟩,a5,a6⟩:=x;obtain⟨b1,⟨b2,b3,b4⟩,b5,b6⟩:=y;simp only[mi,AV.ip.injEq,AV.agg.injEq,List.cons.injEq,AV.int.injEq,AV.bool.injEq,AV.str.injEq,AV.sl.injEq,O7,Px]at h;obtain⟨rfl,rfl,rfl,rfl,rfl,h5⟩:=h;cases E7 HK _ _ h5;rfl
theorem Bj(x y:cK)(h:iG x=iG y):x=y:=by
 obtain⟨a1,a2⟩:=x;obtain⟨b1,b2⟩:=y;simp only[iG,AV.ip.injEq,AV.agg.injEq,List.cons.injEq,AV.int.injEq,AV.bool.injEq,AV.str.injEq,AV.sl.injEq,O7,Px]at h;obtain⟨rfl,rfl⟩:=h;rfl
theorem Ur(x y:bE)(h:(λ(x:bE)=>AV.ip [.sl false (x.cg.map iG),.i x.cw,.i x.cy,.i x.dK,.i x.cp.aY,.i x.cp.cO,.i x.cP]) x=(λ(x:bE)=>AV.ip [.sl false (x.cg.map iG),.i x.cw,.i x.cy,.i x.dK,.i x.cp.aY,.i x.cp.cO,.i x.cP]) y):x=y:=by
 obtain⟨a1,a2,a3,a4,⟨a5,a6⟩,a7⟩:=x;obtain⟨b1,b2,b3,b4,⟨b5,b6⟩,b7⟩:=y;simp only[FA,AV.ip.injEq,AV.agg.injEq,List.cons.injEq,AV.int.injEq,AV.bool.injEq,AV.str.injEq,AV.sl.injEq,O7,Px]at h;obtain⟨h0,rfl,rfl,rfl,rfl,rfl,rfl⟩:=h;cases E7 Bj _ _ h0;rfl
def TYf:(c:Nat)->Nat->TS c->TV TS
 |0,_,x=>TX 0 x
 |1,r,(x:(List cj))=>.a (.ms r 0 x.length)
 |2,_,x=>TX 2 x
 |3,_,x=>TX 3 x
 |4,_,x=>TX 4 x
 |5,_,x=>TX 5 x
 |6,_,x=>TX 6 x
 |7,_,x=>TX 7 x
 |8,_,x=>TX 8 x
 |9,_,x=>TX 9 x
 |10,_,x=>TX 10 x
 |11,_,x=>TX 11 x
 |12,_,x=>TX 12 x
 |13,r,(x:(List be))=>.a (.ms r 0 x.length)
 |14,_,x=>TX 14 x
 |15,_,x=>TX 15 x
 |16,r,(x:cz)=>.agg [.b x.lR,.n x.sign.value,.b x.sign.dot,.b x.sign.three,.b x.tie,.a (.ms r 0 x.dy.length)]
 |17,_,x=>TX 17 x
 |18,r,(x:bE)=>.a (.mp r 0 0)
 |19,_,x=>TX 19 x
 |20,_,x=>TX 20 x
 |21,_,x=>TX 21 x
 |22,_,x=>TX 22 x
 |23,_,x=>TX 23 x
 |24,_,x=>TX 24 x
 |25,_,x=>TX 25 x
 |26,_,x=>TX 26 x
 |27,_,x=>TX 27 x
 |28,_,x=>TX 28 x
 |29,_,x=>TX 29 x
 |30,_,x=>TX 30 x
 |_+31,_,_=>.a .iO
def TZf:(c:Nat)->Nat->TS c->List (ZB TS)
 |0,_,_=>[]
 |1,_,(x:(List cj))=>[.l 3 0 x]
 |2,_,_=>[]
 |3,_,_=>[]
 |4,_,_=>[]
 |5,_,_=>[]
 |6,_,_=>[]
 |7,_,_=>[]
 |8,_,_=>[]
 |9,_,_=>[]
 |10,_,_=>[]
 |11,_,_=>[]
 |12,_,_=>[]
 |13,_,(x:(List be))=>[.l 2 12 x]
 |14,_,_=>[]
 |15,_,_=>[]
 |16,_,(x:cz)=>[.l 5 15 x.dy]
 |17,_,_=>[]
 |18,r,(x:bE)=>[.o 7 [.agg [.a (.ms (r+1) 0 x.cg.length),.n x.cw,.n x.cy,.n x.dK,.n x.cp.aY,.n x.cp.cO,.n x.cP]],.l 2 17 x.cg]
 |19,_,_=>[]
 |20,_,_=>[]
 |21,_,_=>[]
 |22,_,_=>[]
 |23,_,_=>[]
 |24,_,_=>[]
 |25,_,_=>[]
 |26,_,_=>[]
 |27,_,_=>[]
 |28,_,_=>[]
 |29,_,_=>[]
 |30,_,_=>[]
 |_+31,_,_=>[]
theorem aaM: ∀c,BD TE TWd TKn TYf TZf c:=λc=>match c with
 |0=>fw rfl (λ_ _=>rfl) (λ_ y=>ln 0 y) (lq 0) (kf 0)
 |1=>NE (d:=0) (n:=3) (λx=>x) rfl rfl (λ_ _=>rfl) (λ_ _=>rfl) (λ_=>rfl) (kf 0) Xx
 |2=>fw rfl (λ_ _=>rfl) (λ_ y=>ln 2 y) (lq 2) (kf 2)
 |3=>fw rfl (λ_ _=>rfl) (λ_ y=>ln 3 y) (lq 3) (kf 3)
 |4=>fw rfl (λ_ _=>rfl) (λ_ y=>ln 4 y) (lq 4) (kf 4)
 |5=>fw rfl (λ_ _=>rfl) (λ_ y=>ln 5 y) (lq 5) (kf 5)
 |6=>fw rfl (λ_ _=>rfl) (λ_ y=>ln 6 y) (lq 6) (kf 6)
 |7=>fw rfl (λ_ _=>rfl) (λ_ y=>ln 7 y) (lq 7) (kf 7)
 |8=>fw rfl (λ_ _=>rfl) (λ_ y=>ln 8 y) (lq 8) (kf 8)
 |9=>fw rfl (λ_ _=>rfl) (λ_ y=>ln 9 y) (lq 9) (kf 9)
 |10=>fw rfl (λ_ _=>rfl) (λ_ y=>ln 10 y) (lq 10) (kf 10)
 |11=>fw rfl (λ_ _=>rfl) (λ_ y=>ln 11 y) (lq 11) (kf 11)
 |12=>fw rfl (λ_ _=>rfl) (λ_ y=>ln 12 y) (lq 12) (kf 12)
 |13=>NE (d:=12) (n:=2) (λx=>x) rfl rfl (λ_ _=>rfl) (λ_ _=>rfl) (λ_=>rfl) (kf 12) Uq
 |14=>fw rfl (λ_ _=>rfl) (λ_ y=>ln 14 y) (lq 14) (kf 14)
 |15=>fw rfl (λ_ _=>rfl) (λ_ y=>ln 15 y) (lq 15) (kf 15)
 |16=>Ub (d:=15) (n:=5) (p:=5) (λ(x:cz)=>x.dy) (λ(x:cz)=>[.bool x.lR,.i x.sign.value,.bool x.sign.dot,.bool x.sign.three,.bool x.tie]) (λ(x:cz)=>[]) (λ_=>rfl) rfl (λ_=>rfl) (λ_ _=>rfl) (λ_ _=>rfl) (λ_=>rfl) (kf 15) (λ_=>⟨rfl,rfl⟩) (λy x h=>by simp at h;rcases h with rfl|rfl|rfl|rfl|rfl<;>rfl) FG
 |17=>fw rfl (λ_ _=>rfl) (λ_ y=>ln 17 y) (lq 17) (kf 17)
 |18=>Uc (d:=17) (n:=7) (n2:=2) (λ(x:bE)=>x.cg) (λr(x:bE)=>.agg [.a (.ms (r+1) 0 x.cg.length),.n x.cw,.n x.cy,.n x.dK,.n x.cp.aY,.n x.cp.cO,.n x.cP]) (λ(x:bE)=>[]) (λ(x:bE)=>[.i x.cw,.i x.cy,.i x.dK,.i x.cp.aY,.i x.cp.cO,.i x.cP]) rfl rfl (λ_ _=>rfl) (λ_ _=>rfl) (λ_ _=>rfl) (λ_=>rfl) (kf 17) (λ_=>⟨rfl,rfl⟩) Ur
 |19=>fw rfl (λ_ _=>rfl) (λ_ y=>ln 19 y) (lq 19) (kf 19)
 |20=>fw rfl (λ_ _=>rfl) (λ_ y=>ln 20 y) (lq 20) (kf 20)
 |21=>fw rfl (λ_ _=>rfl) (λ_ y=>ln 21 y) (lq 21) (kf 21)
 |22=>fw rfl (λ_ _=>rfl) (λ_ y=>ln 22 y) (lq 22) (kf 22)
 |23=>fw rfl (λ_ _=>rfl) (λ_ y=>ln 23 y) (lq 23) (kf 23)
 |24=>fw rfl (λ_ _=>rfl) (λ_ y=>ln 24 y) (lq 24) (kf 24)
 |25=>fw rfl (λ_ _=>rfl) (λ_ y=>ln 25 y) (lq 25) (kf 25)
 |26=>fw rfl (λ_ _=>rfl) (λ_ y=>ln 26 y) (lq 26) (kf 26)
 |27=>fw rfl (λ_ _=>rfl) (λ_ y=>ln 27 y) (lq 27) (kf 27)
 |28=>fw rfl (λ_ _=>rfl) (λ_ y=>ln 28 y) (lq 28) (kf 28)
 |29=>fw rfl (λ_ _=>rfl) (λ_ y=>ln 29 y) (lq 29) (kf 29)
 |30=>fw rfl (λ_ _=>rfl) (λ_ y=>ln 30 y) (lq 30) (kf 30)
 |_+31=>fw rfl (λ_ _=>rfl) (λ_ _=>rfl) (λ_=>rfl) (λ_=>rfl)
noncomputable def TT:jg:=⟨TS,TE,TX,TD,TTc,ln,aaL,kf,TWd,lq,TLp,TKn,TYf,TZf,aaM⟩
noncomputable section
def f10(b:List (List cj)):Option Bool:=(cA (τ:=Int) (λ((c,a):(Int×Int))=>bif decide (a<(b.length:Int)) then((ix b a).bind λe=>some (.inl ((wr (c+(e.length:Int))),wr (a+1))))else(some (.inr c))) cQ (0,0)).bind λ(f:Int)=>((bif decide ((b.length:Int)<=3) then(some (decide (f<=12)))else(some false)):Option Bool).bind λ(d:Bool)=>some d
def f59(b a:ByteArray)(d c:Int):Option (List ByteArray):=cB (a.data.toList.length=1)<|cB (d=0)<|cB (c= -1)<|cB (b.size<4294967281)<|some (jP b (a.data.toList.headD 0))
def f27(b:ByteArray)(a:ByteArray):Option ((List ByteArray)):=(f59 b a 0 (-1)).bind λc=>some c
def f28(b:List ByteArray)(d:ByteArray):Option Int:=(cA (τ:=(Unit⊕Int)) (λ(a:Int)=>bif decide (a<(b.length:Int)) then((ix b a).bind λc=>bif (d.toList==c.toList)then(some (.inr (.inr a)))else(some (.inl (wr (a+1)))))else(some (.inr (.inl ())))) cQ 0).bind (Sum.elim (λ(_:Unit)=>some (-1)) some)
def f138(b a:ByteArray):Option Int:=cB (a.data.toList.length=1)<|some (Lib.indexByte b.data.toList (a.data.toList.headD 0))
def f94(a:ByteArray)(c:ByteArray):Option (ByteArray×ByteArray×Bool):=(f138 a c).bind λb=>bif decide (0<=b) then(cB (0<=b)<|cB (0<=b.toNat/\b.toNat<=a.size)<|cB (0<=(wr (b+(c.size:Int))))<|cB ((wr (b+(c.size:Int))).toNat<=a.size/\a.size<=a.size)<|some ((a.extract 0 b.toNat),(a.extract (wr (b+(c.size:Int))).toNat a.size),true))else(some (a,(ByteArray.mk #[]),false))
def f60(c:ByteArray)(b:ByteArray):Option (ByteArray×ByteArray×Bool):=(f94 c b).bind λa=>some (a.1,a.2.1,a.2.2)
def f139(a:ByteArray)(b:Int):Option Int:=some (Lib.indexByte a.data.toList b.toNat.toUInt8)
def f95(b:ByteArray)(a:Int):Option Int:=(f139 b a).bind λc=>some c
def f140(b:ByteArray)(a:ByteArray):Option Bool:=((bif decide ((a.size:Int)<=(b.size:Int)) then(cB (0<=(a.size:Int))<|cB (0<=(a.size:Int).toNat/\(a.size:Int).toNat<=b.size)<|some ((b.extract 0 (a.size:Int).toNat).toList==a.toList))else(some false)):Option Bool).bind λ(c:Bool)=>some c
def f96(b:ByteArray)(a:ByteArray):Option Bool:=(f140 b a).bind λc=>some c
def f63(a:ga):Option (Int×Int):=some (KR a.letter a.alter a.iX)
def f61(a:ByteArray):Option (ga×Int):=bif (a.toList==(ByteArray.mk #[]).toList)then(some ((⟨0,0,0⟩:ga),4))else(cB ((0:Int)<=0/\0<(a.size:Int))<|(f95 (ByteArray.mk #[67,68,69,70,71,65,66]) (tU a 0)).bind λc=>bif decide (c<0) then(some ((⟨0,0,0⟩:ga),4))else(cB (1<=a.size/\a.size<=a.size)<|(((f96 (a.extract 1 a.size) (ByteArray.mk #[35])).bind λg=>bif g then(cB (1<=(a.extract 1 a.size).size/\(a.extract 1 a.size).size<=(a.extract 1 a.size).size)<|some (1,((a.extract 1 a.size).extract 1 (a.extract 1 a.size).size)))else((f96 (a.extract 1 a.size) (ByteArray.mk #[98])).bind λh=>bif h then(cB (1<=(a.extract 1 a.size).size/\(a.extract 1 a.size).size<=(a.extract 1 a.size).size)<|some (-1,((a.extract 1 a.size).extract 1 (a.extract 1 a.size).size)))else(some (0,(a.extract 1 a.size))))):Option (Int×ByteArray)).bind λ((e,b):(Int×ByteArray))=>((bif (b.toList==(ByteArray.mk #[45,49]).toList)then(some (.inl (-1)))else(((bif decide ((b.size:Int)=1) then(cB ((0:Int)<=0/\0<(b.size:Int))<|bif decide (48<=(tU b 0)) then(some (decide ((tU b 0)<=57)))else(some false))else(some false)):Option Bool).bind λ(i:Bool)=>bif i then(cB ((0:Int)<=0/\0<(b.size:Int))<|some (.inl (wr ((IntKind.wrap .u8 ((tU b 0)-48))))))else(some (.inr ((⟨0,0,0⟩:ga),4))))):Option (Int⊕(ga×Int))).bind (Sum.elim (λ(f:Int)=>(f63 (⟨c,e,f⟩:ga)).bind λd=>bif decide (d.2≠0) then(some ((⟨0,0,0⟩:ga),d.2))else(some ((⟨c,e,f⟩:ga),0))) some)))
def f141(a:ByteArray)(b:ByteArray):Option Bool:=((bif decide ((b.size:Int)<=(a.size:Int)) then(cB (0<=(wr ((a.size:Int)-(b.size:Int))))<|cB ((wr ((a.size:Int)-(b.size:Int))).toNat<=a.size/\a.size<=a.size)<|some ((a.extract (wr ((a.size:Int)-(b.size:Int))).toNat a.size).toList==b.toList))else(some false)):Option Bool).bind λ(c:Bool)=>some c
def f97(a:ByteArray)(b:ByteArray):Option (ByteArray×Bool):=(f141 a b).bind λc=>bif (!c)then(some (a,false))else(cB (0<=(wr ((a.size:Int)-(b.size:Int))))<|cB (0<=(wr ((a.size:Int)-(b.size:Int))).toNat/\(wr ((a.size:Int)-(b.size:Int))).toNat<=a.size)<|some ((a.extract 0 (wr ((a.size:Int)-(b.size:Int))).toNat),true))
def f62(c:ByteArray)(b:ByteArray):Option (ByteArray×Bool):=(f97 c b).bind λa=>some (a.1,a.2)
def f30(a:ByteArray):Option (Int×Bool):=((bif decide ((a.size:Int)<1) then(some true)else(bif decide (3<(a.size:Int)) then(some true)else(cB ((0:Int)<=0/\0<(a.size:Int))<|bif decide ((tU a 0)=48) then(some (!(a.toList==(ByteArray.mk #[48]).toList)))else(some false)))):Option Bool).bind λ(d:Bool)=>bif d then(some (0,false))else((cA (τ:=(Int⊕(Int×Bool))) (λ((c,b):(Int×Int))=>bif decide (b<(a.size:Int)) then(((cB ((0:Int)<=b/\b<(a.size:Int))<|bif decide ((tU a b)<48) then(some true)else(some (decide (57<(tU a b))))):Option Bool).bind λ(f:Bool)=>bif f then(some (.inr (.inr (0,false))))else(cB ((0:Int)<=b/\b<(a.size:Int))<|some (.inl ((wr ((wr (10*c))+(wr ((IntKind.wrap .u8 ((tU a b)-48)))))),wr (b+1)))))else(some (.inr (.inl c)))) cQ (0,0)).bind (Sum.elim (λ(e:Int)=>some (e,true)) some))
def f29(f:ByteArray):Option (cT×Int):=(f60 f (ByteArray.mk #[47])).bind λb=>bif (!b.2.2)then(some ((⟨0,0,false⟩:cT),4))else((f61 b.1).bind λa=>bif decide (a.2=4) then(some ((⟨0,0,false⟩:cT),a.2))else((f62 b.2.1 (ByteArray.mk #[43])).bind λe=>(f30 e.1).bind λc=>bif (!c.2)then(some ((⟨0,0,false⟩:cT),4))else(bif decide (a.2≠0) then(some ((⟨0,0,false⟩:cT),a.2))else((f63 a.1).bind λd=>some ((⟨d.1,c.1,e.2⟩:cT),d.2)))))
def f64(e:bY)(a:cT):Option Int:=((bif decide (0<a.eZ) then((ix e.cu (wr (a.eZ-1))).bind λc=>some (wr (a.cw+c)))else(some a.cw)):Option Int).bind λ(b:Int)=>((bif a.iX then(some (wr (b+12)))else(some b)):Option Int).bind λ(d:Int)=>some d
def f31(a:bY):Option Int:=((bif decide (14<(a.cS.length:Int)) then(some true)else(some (decide (18<(a.cu.length:Int))))):Option Bool).bind λ(h:Bool)=>bif h then(some 2)else(bif decide ((a.cS.length:Int)=0) then(some 11)else((cA (τ:=(Unit⊕Int)) (λ((k,c):(Int×Int))=>bif decide (c<(a.cu.length:Int)) then((ix a.cu c).bind λe=>((bif decide (e<=k) then(some true)else(some (decide (127<e)))):Option Bool).bind λ(f:Bool)=>bif f then(some (.inr (.inr 11)))else(some (.inl (e,wr (c+1)))))else(some (.inr (.inl ())))) cQ (0,0)).bind (Sum.elim (λ(_:Unit)=>(cA (τ:=(Unit⊕Int)) (λ(d:Int)=>bif decide (d<(a.cS.length:Int)) then((ix a.cS d).bind λb=>((bif decide (b.eZ<0) then(some true)else(some (decide ((a.cu.length:Int)<b.eZ)))):Option Bool).bind λ(g:Bool)=>bif g then(some (.inr (.inr 13)))else(((bif decide (b.cw<0) then(some true)else(bif decide (127<b.cw) then(some true)else((f64 a b).bind λi=>some (decide (127<i))))):Option Bool).bind λ(j:Bool)=>bif j then(some (.inr (.inr 10)))else(some (.inl (wr (d+1))))))else(some (.inr (.inl ())))) cQ 0).bind (Sum.elim (λ(_:Unit)=>some 0) some)) some)))
def f11(n:ByteArray):Option (bY×Int):=(f27 n (ByteArray.mk #[32])).bind λb=>(f28 b (ByteArray.mk #[58])).bind λa=>bif decide (a<0) then(some ((⟨([]:List cT),([]:List Int)⟩:bY),4))else(cB (0<=a)<|cB (a.toNat<=b.length)<|(cA (τ:=((List cT)⊕(bY×Int))) (λ((f,g):(List cT×Int))=>bif (decide (g<(((b.take a.toNat).drop 0).length:Int)))then((ix ((b.take a.toNat).drop 0) g).bind λl=>(f29 l).bind λe=>bif decide (e.2≠0) then(some (.inr (.inr ((⟨([]:List cT),([]:List Int)⟩:bY),e.2))))else(cB (f.length+1<=bQ)<|some (.inl ((f++([e.1]:List cT)),wr (g+1)))))else(some (.inr (.inl f)))) cQ (([]:List cT),0)).bind (Sum.elim (λ(j:(List cT))=>cB (0<=(wr (a+1)))<|cB ((wr (a+1)).toNat<=b.length)<|(cA (τ:=((List Int)⊕(bY×Int))) (λ((d,c):(List Int×Int))=>bif (decide (c<(((b.take b.length).drop (wr (a+1)).toNat).length:Int)))then((ix ((b.take b.length).drop (wr (a+1)).toNat) c).bind λm=>(f30 m).bind λk=>bif (!k.2)then(some (.inr (.inr ((⟨([]:List cT),([]:List Int)⟩:bY),4))))else(cB (d.length+1<=bQ)<|some (.inl ((d++([k.1]:List Int)),wr (c+1)))))else(some (.inr (.inl d)))) cQ (([]:List Int),0)).bind (Sum.elim (λ(i:(List Int))=>(f31 (⟨j,i⟩:bY)).bind λh=>bif decide (h≠0) then(some ((⟨([]:List cT),([]:List Int)⟩:bY),h))else(some ((⟨j,i⟩:bY),0))) some)) some))
def f13(e:List (List cj)):Option ((List (List cj))):=(cA (τ:=(List (List cj))) (λ((a,c):(List (List cj)×Int))=>bif decide (c<(e.length:Int)) then((((ix e c).bind λb=>bif b.isEmpty then(cB (a.length<cU)<|some (a++[([]:List cj)]))else(cB (b.length<=bQ)<|cB (a.length<cU)<|some (a.append [b]))):Option (List (List cj))).bind λ(f:(List (List cj)))=>some (.inl (f,wr (c+1))))else(some (.inr a))) cQ (([]:List (List cj)),0)).bind λ(d:(List (List cj)))=>cB (d.length<=cU)<|some d
def f99(a:List cj):Option Bool:=some (decide (400<(a.length:Int)))
def f142(b:List (List cj)):Option Int:=(cA (τ:=(Unit⊕Int)) (λ(a:Int)=>bif decide (a<(b.length:Int)) then((ix b a).bind λc=>(f99 c).bind λd=>bif d then(some (.inr (.inr a)))else(some (.inl (wr (a+1)))))else(some (.inr (.inl ())))) cQ 0).bind (Sum.elim (λ(_:Unit)=>some (-1)) some)
def f98(a:List (List cj)):Option Bool:=(f142 a).bind λb=>some (decide (0<=b))
def f24(a:Int)(b:Int)(d:Int):Option Bool:=((bif decide (b<=a) then(some (decide (a<=d)))else(some false)):Option Bool).bind λ(c:Bool)=>some c
def f65(b:List (List cj)):Option Int:=((bif decide (6<(b.length:Int)) then(some true)else((f98 b).bind λi=>some i)):Option Bool).bind λ(f:Bool)=>bif f then(some 2)else((cA (τ:=(Unit⊕Int)) (λ(c:Int)=>bif decide (c<(b.length:Int)) then((ix b c).bind λe=>(cA (τ:=(Unit⊕(Int⊕(Unit⊕Int)))) (λ((g,d):(Int×Int))=>bif decide (d<(e.length:Int)) then((ix e d).bind λa=>(((f24 a.cw 0 127).bind λh=>bif (!h)then(some true)else(bif decide (a.cy<g) then(some true)else(bif decide (a.dK<=a.cy) then(some true)else(some (decide (262144<a.dK)))))):Option Bool).bind λ(j:Bool)=>bif j then(some (.inr (.inr (.inr (.inr 80)))))else(some (.inl (a.dK,wr (d+1)))))else(some (.inr (.inl ())))) cQ (0,0)).bind (Sum.elim (λ(_:Unit)=>some (.inl (wr (c+1)))) some))else(some (.inr (.inl ())))) cQ 0).bind (Sum.elim (λ(_:Unit)=>some 0) some))
def f32(c:List (List cj))(b:bY):Option Int:=(f65 c).bind λa=>bif decide (a≠0) then(some a)else((f31 b).bind λd=>some d)
def f66(a:Int)(b:Int)(d:Int):Option Bool:=((bif decide (b<=a) then(some (decide (a<=d)))else(some false)):Option Bool).bind λ(c:Bool)=>some c
def f129(a:Int):Option Bool:=some (decide (a≠a))
def f100(b:Int)(a:Int):Option Bool:=(((f129 b).bind λe=>bif e then((f129 a).bind λd=>bif (!d)then(some true)else(some (decide (b<a))))else(some (decide (b<a)))):Option Bool).bind λ(c:Bool)=>some c
def f67(b:List Int):Option Bool:=(cA (τ:=(Unit⊕Bool)) (λ(a:Int)=>bif decide (0<a) then((ix b a).bind λc=>(ix b (wr (a-1))).bind λe=>(f100 c e).bind λd=>bif d then(some (.inr (.inr false)))else(some (.inl (wr (a-1)))))else(some (.inr (.inl ())))) cQ (wr ((b.length:Int)-1))).bind (Sum.elim (λ(_:Unit)=>some true) some)
def f33(a:eM):Option Int:=(((f66 (a.low.length:Int) 1 4).bind λo=>bif (!o)then(some true)else(bif decide ((a.high.length:Int)≠(a.low.length:Int)) then(some true)else(some (decide ((a.gA.length:Int)≠(a.low.length:Int)))))):Option Bool).bind λ(m:Bool)=>bif m then(some 60)else((cA (τ:=(Unit⊕Int)) (λ(b:Int)=>bif decide (b<(a.low.length:Int)) then((((ix a.low b).bind λe=>bif decide (e<0) then(some true)else((ix a.high b).bind λd=>bif decide (d<e) then(some true)else(some (decide (8<d))))):Option Bool).bind λ(j:Bool)=>bif j then(some (.inr (.inr 60)))else(some (.inl (wr (b+1)))))else(some (.inr (.inl ())))) cQ 0).bind (Sum.elim (λ(_:Unit)=>(((f67 a.low).bind λi=>bif (!i)then(some true)else((f67 a.high).bind λl=>bif (!l)then(some true)else((f66 a.top 1 18).bind λn=>bif (!n)then(some true)else((f66 a.jump 0 18).bind λf=>some (!f))))):Option Bool).bind λ(k:Bool)=>bif k then(some 60)else((cA (τ:=(Unit⊕Int)) (λ(c:Int)=>bif decide (c<5) then((ix ([a.shift,a.lift,a.lR,a.eW,a.ie]:List Int) c).bind λh=>(f66 h 0 1000).bind λg=>bif (!g)then(some (.inr (.inr 60)))else(some (.inl (wr (c+1)))))else(some (.inr (.inl ())))) cQ 0).bind (Sum.elim (λ(_:Unit)=>some 0) some))) some))
def f34(a:Int)(b:Int)(d:Int):Option Bool:=((bif decide (b<=a) then(some (decide (a<=d)))else(some false)):Option Bool).bind λ(c:Bool)=>some c
def f101(a:Int):Option (List cj):=if 0<=a/\a<=4194304 then some []else none
def f68(b:List (List cj)):Option ((List cj)):=(cA (τ:=Int) (λ((c,f):(Int×Int))=>bif decide (f<(b.length:Int)) then((((ix b f).bind λg=>bif (decide ((wr (c+(g.length:Int)))<0))then(none)else(some (wr (c+(g.length:Int))))):Option Int).bind λ(j:Int)=>some (.inl (j,wr (f+1))))else(some (.inr c))) cQ (0,0)).bind λ(k:Int)=>(f101 k).bind λh=>(cA (τ:=(List cj)) (λ((a,d):(List cj×Int))=>bif decide (d<(b.length:Int)) then((ix b d).bind λe=>((bif e.isEmpty then(some a)else(cB (a.length+e.length<=bQ)<|some (a++e))):Option (List cj)).bind λ(i:(List cj))=>some (.inl (i,wr (d+1))))else(some (.inr a))) cQ (h,0)).bind λ(l:(List cj))=>some l
def f70(a:cj)(b:cj):Option Bool:=((bif decide (a.cy<=b.dK) then(some (decide (b.dK<a.dK)))else(some false)):Option Bool).bind λ(c:Bool)=>some c
def f102(b:List cj)(d:cj):Option Int:=(cA (τ:=(Unit⊕Int)) (λ(a:Int)=>bif decide (a<(b.length:Int)) then((ix b a).bind λc=>(f70 c d).bind λe=>bif e then(some (.inr (.inr a)))else(some (.inl (wr (a+1)))))else(some (.inr (.inl ())))) cQ 0).bind (Sum.elim (λ(_:Unit)=>some (-1)) some)
def f69(a:List cj)(b:cj):Option Bool:=(f102 a b).bind λc=>some (decide (0<=c))
def f71(a:List Int):Option (List Int):=if a.length<=4194304 then some (kI a)else none
def f72(a:List Int):Option (List Int):=if 0<a.length/\a.length<=4194304 then some (Go.Lib.compact a)else none
def f35(j:List (List cj)):Option ((List Int)):=(f68 j).bind λd=>(cA (τ:=(List Int)) (λ((a,c):(List Int×Int))=>bif decide (c<(d.length:Int)) then((((ix d c).bind λb=>cB (a.length+1<=bQ)<|(f69 d b).bind λi=>bif (!i)then(cB ((a++([b.cy]:List Int)).length+1<=bQ)<|some ((a++([b.cy]:List Int))++([b.dK]:List Int)))else(some (a++([b.cy]:List Int)))):Option (List Int)).bind λ(h:(List Int))=>some (.inl (h,wr (c+1))))else(some (.inr a))) cQ (([0]:List Int),0)).bind λ(e:(List Int))=>(f71 e).bind λf=>cB (f.length=e.length)<|(f72 f).bind λg=>some g
def f58(a:df):Option Int:=((bif decide (a.value<1) then(some true)else(bif decide (7<a.value) then(some true)else(bif a.dot then(some a.three)else(some false)))):Option Bool).bind λ(b:Bool)=>bif b then(some 0)else(cB (0<=(wr (a.value-1)))<|bif a.dot then(some (wr ((wr (Int.tdiv (eK 384 (wr (a.value-1))) 2))*3)))else(bif a.three then(some (wr ((wr (Int.tdiv (eK 384 (wr (a.value-1))) 3))*2)))else(some (eK 384 (wr (a.value-1))))))
def f105(b:df)(a:df):Option Int:=(f58 a).bind λd=>(f58 b).bind λc=>some (wr (d-c))
def f104(a:List df):Option (List df):=sR f105 a
def f73:Option ((List df)):=(cA (τ:=(List df)) (λ((b,a):(List df×Int))=>bif decide (a<=7) then(cB (b.length+3<=bQ)<|some (.inl ((b++([(⟨a,false,false⟩:df),(⟨a,true,false⟩:df),(⟨a,false,true⟩:df)]:List df)),wr (a+1))))else(some (.inr b))) cQ (([]:List df),1)).bind λ(c:(List df))=>(f104 c).bind λd=>cB (d.length=c.length)<|some d
def f74r:Nat->Int->Int->(List df)->(List Int)->(List df)->Option (Bool×List df)
 |0,_,_,_,_,_=>none
 |o+1,c,j,e,g,h=>bif decide (c=0) then(some (true,h))else((cA (τ:=((List df)⊕(Bool×List df))) (λ((d,f):(List df×Int))=>bif decide (f<(e.length:Int)) then((((ix e f).bind λi=>(f58 i).bind λb=>((bif decide (j<b) then(some true)else(bif decide (c<b) then(some true)else((ix g (wr (c-b))).bind λm=>(ix g c).bind λn=>some (decide (m≠(wr (n-1))))))):Option Bool).bind λ(l:Bool)=>bif l then(some (.inl d))else(cB (d.length+1<=bQ)<|(f74r o (wr (c-b)) b e g (d++([i]:List df))).bind λa=>bif a.1 then(some (.inr (.inr (.inr (true,a.2)))))else(cB (0<=(wr ((a.2.length:Int)-1)))<|cB ((wr ((a.2.length:Int)-1)).toNat<=a.2.length)<|cB ((wr ((a.2.length:Int)-1)).toNat<=a.2.length)<|some (.inl (a.2.take (wr ((a.2.length:Int)-1)).toNat))))):Option ((List df)⊕((List df×Int)⊕((List df)⊕(Bool×List df))))).bind (Sum.elim (λ(k:(List df))=>some (.inl (k,wr (f+1)))) some))else(some (.inr (.inl d)))) cQ (h,0)).bind (Sum.elim (λ(p:(List df))=>some (false,p)) some))
def f74(d:Int)(b:Int)(a:List df)(e:List Int)(c:List df):Option (Bool×List df):=f74r cQ d b a e c
def f36(b:Int):Option (((List df))×Int):=((bif decide (b<0) then(some true)else(some (decide (4608<b)))):Option Bool).bind λ(r:Bool)=>bif r then(some (([]:List df),1))else((f73).bind λf=>cB (0<=(wr (b+1)))<|cB ((wr (b+1))<=(bQ:Int))<|(cA (τ:=(List Int)) (λ((g,a):(List Int×Int))=>bif decide (a<=b) then((ix g a).bind λs=>(cA (τ:=(List Int)) (λ((c,e):(List Int×Int))=>bif decide (e<(f.length:Int)) then((((ix f e).bind λk=>(f58 k).bind λd=>((bif (decide (0<=(wr (a-d))))then((ix c (wr (a-d))).bind λh=>bif decide (0<=h) then((ix c a).bind λi=>bif decide (i<0) then(some true)else(some (decide ((wr (h+1))<i))))else(some false))else(some false)):Option Bool).bind λ(o:Bool)=>bif o then((ix c (wr (a-d))).bind λm=>(ix c a).bind λt=>some (c.set a.toNat (wr (m+1))))else(some c)):Option (List Int)).bind λ(l:(List Int))=>some (.inl (l,wr (e+1))))else(some (.inr c))) cQ ((g.set a.toNat (-1)),0)).bind λ(n:(List Int))=>some (.inl (n,wr (a+1))))else(some (.inr g))) cQ ((List.replicate (wr (b+1)).toNat (0:Int)),1)).bind λ(j:(List Int))=>(ix j b).bind λq=>bif decide (q<0) then(some (([]:List df),25))else((f74 b 768 f j ([]:List df)).bind λp=>some (p.2,0)))
def f75(a:Int):Option (List df):=if 0<=a/\a<=4194304 then some []else none
def f37(b:List (List df)):Option ((List df)):=(cA (τ:=Int) (λ((c,f):(Int×Int))=>bif decide (f<(b.length:Int)) then((((ix b f).bind λg=>bif (decide ((wr (c+(g.length:Int)))<0))then(none)else(some (wr (c+(g.length:Int))))):Option Int).bind λ(j:Int)=>some (.inl (j,wr (f+1))))else(some (.inr c))) cQ (0,0)).bind λ(k:Int)=>(f75 k).bind λh=>(cA (τ:=(List df)) (λ((a,d):(List df×Int))=>bif decide (d<(b.length:Int)) then((ix b d).bind λe=>((bif e.isEmpty then(some a)else(cB (a.length+e.length<=bQ)<|some (a++e))):Option (List df)).bind λ(i:(List df))=>some (.inl (i,wr (d+1))))else(some (.inr a))) cQ (h,0)).bind λ(l:(List df))=>some l
def f38(a:List cT):Option ((List cT)):=((bif a.isEmpty then(some ([]:List cT))else(cB (a.length<=bQ)<|some a)):Option (List cT)).bind λ(b:(List cT))=>some b
def f22(a:List Int):Option ((List Int)):=((bif a.isEmpty then(some ([]:List Int))else(cB (a.length<=bQ)<|some a)):Option (List Int)).bind λ(b:(List Int))=>some b
def f40(a:List cj):Option (List be):=cB (0<=(a.length:Int))<|cB ((a.length:Int)<=(bQ:Int))<|some (List.replicate (a.length:Int).toNat (⟨0,0⟩:be))
def f39(a:List (List cj)):Option (List (List be)):=cB ((0:Int)<=(a.length:Int))<|cB ((a.length:Int)<=(bQ:Int))<|(cA (τ:=(List (List be))) (λ((b,c):(List (List be)×Int))=>bif decide (c<(a.length:Int)) then((ix a c).bind λd=>(f40 d).bind λf=>cB (b.length<cU)<|some (.inl ((b++[f]),wr (c+1))))else(some (.inr b))) cQ (([]:List (List be)),0)).bind λ(e:(List (List be)))=>some e
def f107(a:bE)(b:cj):Option Bool:=some (decide (a.cw=b.cw))
def f106(b:List bE)(d:cj):Option Int:=(cA (τ:=(Unit⊕Int)) (λ(a:Int)=>bif decide (a<(b.length:Int)) then((ix b a).bind λc=>cB (a.toNat<cU)<|(f107 c d).bind λe=>bif e then(some (.inr (.inr a)))else(some (.inl (wr (a+1)))))else(some (.inr (.inl ())))) cQ 0).bind (Sum.elim (λ(_:Unit)=>some (-1)) some)
def f76(l:List (List cj))(h:Int):Option (List bE):=(cA (τ:=(List bE)) (λ((i,d):(List bE×Int))=>bif decide (d<(l.length:Int)) then((ix l d).bind λg=>(cA (τ:=(List bE)) (λ((b,e):(List bE×Int))=>bif decide (e<(g.length:Int)) then((((ix g e).bind λc=>bif decide (c.cy≠h) then(some b)else((f106 b c).bind λj=>((bif decide (j<0) then(cB (b.length<cU)<|some ((b++[(⟨([]:List cK),c.cw,h,0,(⟨0,0⟩:be),0⟩:bE)]),(b.length:Int)))else(some (b,j))):Option (List bE×Int)).bind λ((k,f):(List bE×Int))=>(ix k f).bind λa=>cB (f.toNat<cU)<|cB (a.cg.length+1<=bQ)<|some (k.set f.toNat (⟨(a.cg++([(⟨d,e⟩:cK)]:List cK)),a.cw,a.cy,(kX a.dK c.dK),a.cp,a.cP⟩:bE)))):Option (List bE)).bind λ(n:(List bE))=>some (.inl (n,wr (e+1))))else(some (.inr b))) cQ (i,0)).bind λ(m:(List bE))=>some (.inl (m,wr (d+1))))else(some (.inr i))) cQ (([]:List bE),0)).bind λ(o:(List bE))=>some o
def f84(b:Int)(a:Int):Option Int:=(f129 b).bind λd=>(f129 a).bind λc=>bif d then(bif c then(some 0)else(some (-1)))else(bif c then(some 1)else(bif decide (b<a) then(some (-1))else(bif decide (a<b) then(some 1)else(some 0))))
def f109(d:List cK)(f:Int)(m:Int)(o:Int)(p:Int)(g:Int)(n:Int)(b:List cK)(k:Int)(h:Int)(j:Int)(q:Int)(i:Int)(l:Int):Option Int:=(ix d 0).bind λc=>(ix b 0).bind λa=>(f84 c.part a.part).bind λe=>some e
def f193(n:List bE)(f:Int)(i:Int):Option (List bE):=(cA (τ:=(List bE)) (λ((h,e):(List bE×Int))=>bif decide (e<i) then((cA (τ:=(List bE)) (λ((b,a):(List bE×Int))=>((bif decide (f<a) then((ix b a).bind λd=>(ix b (wr (a-1))).bind λc=>(f109 d.cg d.cw d.cy d.dK d.cp.aY d.cp.cO d.cP c.cg c.cw c.cy c.dK c.cp.aY c.cp.cO c.cP).bind λm=>some (decide (m<0)))else(some false)):Option Bool).bind λ(l:Bool)=>bif l then((ix b (wr (a-1))).bind λg=>(ix b a).bind λj=>(ix (b.set a.toNat g) (wr (a-1))).bind λp=>some (.inl (((b.set a.toNat g).set (wr (a-1)).toNat j),wr (a-1))))else(some (.inr b))) cQ (h,e)).bind λ(k:(List bE))=>some (.inl (k,wr (e+1))))else(some (.inr h))) cQ (n,wr (f+1))).bind λ(o:(List bE))=>some o
def f255(g:List bE)(d:Int)(c:Int)(h:Int):Option (List bE):=(cA (τ:=(List bE)) (λ((b,a):(List bE×Int))=>bif decide (a<h) then((ix b (wr (c+a))).bind λe=>(ix b (wr (d+a))).bind λi=>(ix (b.set (wr (d+a)).toNat e) (wr (c+a))).bind λj=>some (.inl (((b.set (wr (d+a)).toNat e).set (wr (c+a)).toNat i),wr (a+1))))else(some (.inr b))) cQ (g,0)).bind λ(f:(List bE))=>some f
def f229(k:List bE)(h:Int)(b:Int)(l:Int):Option (List bE):=(cA (τ:=(List bE×Int)) (λ((d,a,c):(List bE×Int×Int))=>bif decide (a≠c) then(bif decide (c<a) then((f255 d (wr (b-a)) b c).bind λe=>cB (e.length=d.length)<|some (.inl (e,wr (a-c),c)))else((f255 d (wr (b-a)) (wr ((wr (b+c))-a)) a).bind λf=>cB (f.length=d.length)<|some (.inl (f,a,wr (c-a)))))else(some (.inr (d,a)))) cQ (k,wr (b-h),wr (l-b))).bind λ((j,g):(List bE×Int))=>(f255 j (wr (b-g)) b g).bind λi=>some i
def f194r:Nat->(List bE)->Int->Int->Int->Option (List bE)
 |0,_,_,_,_=>none
 |y+1,d,a,c,b=>bif (decide ((wr (c-a))=1))then((cA (τ:=Int) (λ((p,t):(Int×Int))=>bif decide (p<t) then((ix d (wr ((eK (IntKind.wrap .u64 ((wr (p+t)))) 1)))).bind λl=>(ix d a).bind λh=>(f109 l.cg l.cw l.cy l.dK l.cp.aY l.cp.cO l.cP h.cg h.cw h.cy h.dK h.cp.aY h.cp.cO h.cP).bind λM=>bif decide (M<0) then(some (.inl ((wr ((wr ((eK (IntKind.wrap .u64 ((wr (p+t)))) 1)))+1)),t)))else(some (.inl (p,(wr ((eK (IntKind.wrap .u64 ((wr (p+t)))) 1)))))))else(some (.inr p))) cQ (c,b)).bind λ(J:Int)=>(cA (τ:=(List bE)) (λ((u,f):(List bE×Int))=>bif (decide (f<(wr (J-1))))then((ix u (wr (f+1))).bind λz=>(ix u f).bind λC=>(ix (u.set f.toNat z) (wr (f+1))).bind λR=>some (.inl (((u.set f.toNat z).set (wr (f+1)).toNat C),wr (f+1))))else(some (.inr u))) cQ (d,a)).bind λ(N:(List bE))=>some N)else(bif (decide ((wr (b-c))=1))then((cA (τ:=Int) (λ((q,s):(Int×Int))=>bif decide (q<s) then((ix d c).bind λm=>(ix d (wr ((eK (IntKind.wrap .u64 ((wr (q+s)))) 1)))).bind λk=>(f109 m.cg m.cw m.cy m.dK m.cp.aY m.cp.cO m.cP k.cg k.cw k.cy k.dK k.cp.aY k.cp.cO k.cP).bind λK=>bif (!(decide (K<0)))then(some (.inl ((wr ((wr ((eK (IntKind.wrap .u64 ((wr (q+s)))) 1)))+1)),s)))else(some (.inl (q,(wr ((eK (IntKind.wrap .u64 ((wr (q+s)))) 1)))))))else(some (.inr q))) cQ (a,c)).bind λ(L:Int)=>(cA (τ:=(List bE)) (λ((r,g):(List bE×Int))=>bif decide (L<g) then((ix r (wr (g-1))).bind λA=>(ix r g).bind λO=>(ix (r.set g.toNat A) (wr (g-1))).bind λS=>some (.inl (((r.set g.toNat A).set (wr (g-1)).toNat O),wr (g-1))))else(some (.inr r))) cQ (d,c)).bind λ(G:(List bE))=>some G)else(((bif (decide ((wr ((eK (IntKind.wrap .u64 ((wr (a+b)))) 1)))<c))then(some ((wr ((wr ((wr ((eK (IntKind.wrap .u64 ((wr (a+b)))) 1)))+c))-b)),(wr ((eK (IntKind.wrap .u64 ((wr (a+b)))) 1)))))else(some (a,c))):Option (Int×Int)).bind λ((P,I):(Int×Int))=>(cA (τ:=Int) (λ((n,o):(Int×Int))=>bif decide (n<o) then((ix d (wr ((wr ((wr ((wr ((eK (IntKind.wrap .u64 ((wr (a+b)))) 1)))+c))-1))-(wr ((eK (IntKind.wrap .u64 ((wr (n+o)))) 1)))))).bind λj=>(ix d (wr ((eK (IntKind.wrap .u64 ((wr (n+o)))) 1)))).bind λi=>(f109 j.cg j.cw j.cy j.dK j.cp.aY j.cp.cO j.cP i.cg i.cw i.cy i.dK i.cp.aY i.cp.cO i.cP).bind λH=>bif (!(decide (H<0)))then(some (.inl ((wr ((wr ((eK (IntKind.wrap .u64 ((wr (n+o)))) 1)))+1)),o)))else(some (.inl (n,(wr ((eK (IntKind.wrap .u64 ((wr (n+o)))) 1)))))))else(some (.inr n))) cQ (P,I)).bind λ(e:Int)=>((((bif decide (e<c) then(some (decide (c<(wr ((wr ((wr ((eK (IntKind.wrap .u64 ((wr (a+b)))) 1)))+c))-e)))))else(some false)):Option Bool).bind λ(Q:Bool)=>bif Q then((f229 d e c (wr ((wr ((wr ((eK (IntKind.wrap .u64 ((wr (a+b)))) 1)))+c))-e))).bind λB=>cB (B.length=d.length)<|some B)else(some d)):Option (List bE)).bind λ(v:(List bE))=>((((bif decide (a<e) then(some (decide (e<(wr ((eK (IntKind.wrap .u64 ((wr (a+b)))) 1))))))else(some false)):Option Bool).bind λ(D:Bool)=>bif D then((f194r y v a e (wr ((eK (IntKind.wrap .u64 ((wr (a+b)))) 1)))).bind λw=>cB (w.length=v.length)<|some w)else(some v)):Option (List bE)).bind λ(x:(List bE))=>((bif (decide ((wr ((eK (IntKind.wrap .u64 ((wr (a+b)))) 1)))<(wr ((wr ((wr ((eK (IntKind.wrap .u64 ((wr (a+b)))) 1)))+c))-e))))then(some (decide ((wr ((wr ((wr ((eK (IntKind.wrap .u64 ((wr (a+b)))) 1)))+c))-e))<b)))else(some false)):Option Bool).bind λ(F:Bool)=>bif F then((f194r y x (wr ((eK (IntKind.wrap .u64 ((wr (a+b)))) 1))) (wr ((wr ((wr ((eK (IntKind.wrap .u64 ((wr (a+b)))) 1)))+c))-e)) b).bind λE=>some E)else(some x)))
def f194(b:List bE)(a:Int)(d:Int)(c:Int):Option (List bE):=f194r cQ b a d c
def f152(q:List bE)(b:Int):Option (List bE):=(cA (τ:=(List bE×Int)) (λ((g,l,d):(List bE×Int×Int))=>bif decide (d<=b) then((f193 g l d).bind λp=>cB (p.length=g.length)<|some (.inl (p,d,wr (d+20))))else(some (.inr (g,l)))) cQ (q,0,20)).bind λ((o,r):(List bE×Int))=>(f193 o r b).bind λm=>cB (m.length=o.length)<|(cA (τ:=(List bE)) (λ((k,a):(List bE×Int))=>bif decide (a<b) then((cA (τ:=(List bE×Int)) (λ((e,h,c):(List bE×Int×Int))=>bif decide (c<=b) then((f194 e h (wr (h+a)) c).bind λj=>cB (j.length=e.length)<|some (.inl (j,c,(wr (c+(wr (2*a)))))))else(some (.inr (e,h)))) cQ (k,0,wr (2*a))).bind λ((f,i):(List bE×Int))=>((bif (decide ((wr (i+a))<b))then((f194 f i (wr (i+a)) b).bind λn=>cB (n.length=f.length)<|some n)else(some f)):Option (List bE)).bind λ(s:(List bE))=>some (.inl (s,wr (a*2))))else(some (.inr k))) cQ (m,20)).bind λ(t:(List bE))=>some t
def f108(a:List bE):Option (List bE):=(f152 a (a.length:Int)).bind λb=>some b
def f77(f:dl)(g:Int):Option (List bE):=(cA (τ:=(List bE)) (λ((a,b):(List bE×Int))=>bif decide (b<(f.dx.length:Int)) then((((ix f.dx b).bind λc=>bif decide (g<c.dK) then(cB (a.length+1<=bQ)<|some (a++([c]:List bE)))else(some a)):Option (List bE)).bind λ(h:(List bE))=>some (.inl (h,wr (b+1))))else(some (.inr a))) cQ (([]:List bE),0)).bind λ(d:(List bE))=>(f108 d).bind λe=>cB (e.length=d.length)<|some e
def f110(b:dl)(a:List bE)(c:List bE):Option Unit:=some ()
def f154(a:Int):Option Unit:=some ()
def f197(b:List Bool)(d:Bool):Option Int:=(cA (τ:=(Unit⊕Int)) (λ(a:Int)=>bif decide (a<(b.length:Int)) then((ix b a).bind λc=>bif (d==c)then(some (.inr (.inr a)))else(some (.inl (wr (a+1)))))else(some (.inr (.inl ())))) cQ 0).bind (Sum.elim (λ(_:Unit)=>some (-1)) some)
def f155(b:List Bool)(a:Bool):Option Bool:=(f197 b a).bind λc=>some (decide (0<=c))
def f199(a:List be):Option (List be):=((bif a.isEmpty then(some ([]:List be))else(cB (a.length<=bQ)<|some a)):Option (List be)).bind λ(b:(List be))=>some b
def f89(d:bY)(a:cT)(b:Int):Option Int:=bif decide (b=0) then(some a.cw)else((ix d.cu (wr (b-1))).bind λc=>some (wr (a.cw+c)))
def f200(d:bY)(e:Int):Option (((List be))×Int):=(f31 d).bind λf=>bif decide (f≠0) then(some (([]:List be),f))else(((bif decide (e<0) then(some true)else(some (decide (127<e)))):Option Bool).bind λ(l:Bool)=>bif l then(some (([]:List be),10))else((cA (τ:=(List be)) (λ((g,a):(List be×Int))=>bif decide (a<(d.cS.length:Int)) then((ix d.cS a).bind λh=>(cA (τ:=(List be)) (λ((c,b):(List be×Int))=>bif decide (b<=h.eZ) then((((f89 d h b).bind λk=>bif decide (k=e) then(cB (c.length+1<=bQ)<|some (c++([(⟨(wr (a+1)),b⟩:be)]:List be)))else(some c)):Option (List be)).bind λ(i:(List be))=>some (.inl (i,wr (b+1))))else(some (.inr c))) cQ (g,0)).bind λ(m:(List be))=>some (.inl (m,wr (a+1))))else(some (.inr g))) cQ (([]:List be),0)).bind λ(j:(List be))=>some (j,0)))
def f207(a:be)(b:Int):Option Bool:=some (decide (a.aY=b))
def f231(b:List be)(d:Int):Option Int:=(cA (τ:=(Unit⊕Int)) (λ(a:Int)=>bif decide (a<(b.length:Int)) then((ix b a).bind λc=>(f207 c d).bind λe=>bif e then(some (.inr (.inr a)))else(some (.inl (wr (a+1)))))else(some (.inr (.inl ())))) cQ 0).bind (Sum.elim (λ(_:Unit)=>some (-1)) some)
def f206(a:List be)(b:Int):Option Bool:=(f231 a b).bind λc=>some (decide (0<=c))
def f159(b:List be)(a:Int):Option Bool:=(f206 b a).bind λc=>some c
def f198r:Nat->Int->(List bE)->(List (List be))->(List be)->(List Bool)->bY->Int->Option (List (List be)×List be)
 |0,_,_,_,_,_,_,_=>none
 |m+1,a,e,d,c,f,j,h=>bif decide (a=(e.length:Int)) then((f199 c).bind λw=>cB (d.length+1<=bQ)<|some ((d++([w]:List (List be))),c))else((ix c a).bind λx=>(ix f a).bind λq=>bif q then((f198r m (wr (a+1)) e d (c.set a.toNat (⟨0,0⟩:be)) f j h).bind λl=>some (l.1,l.2))else((ix e a).bind λs=>cB (a.toNat<cU)<|(f200 j (wr (s.cw+h))).bind λi=>bif decide (i.2≠0) then(some (d,(c.set a.toNat (⟨0,0⟩:be))))else((cA (τ:=(List (List be)×List be)) (λ((b,k,g):(List be×List (List be)×Int))=>bif decide (g<(i.1.length:Int)) then((((ix i.1 g).bind λo=>cB (0<=a)<|cB (a.toNat<=b.length)<|cB (0+a.toNat<=b.length)<|(f159 (b.take a.toNat) o.aY).bind λu=>bif (!u)then((ix b a).bind λy=>(f198r m (wr (a+1)) e k (b.set a.toNat o) f j h).bind λn=>some (n.2,n.1))else(some (b,k))):Option (List be×List (List be))).bind λ((t,p):(List be×List (List be)))=>some (.inl (t,p,wr (g+1))))else(some (.inr (k,b)))) cQ ((c.set a.toNat (⟨0,0⟩:be)),d,0)).bind λ((v,r):(List (List be)×List be))=>some (v,r))))
def f198(f:Int)(c:List bE)(b:List (List be))(g:List be)(e:List Bool)(d:bY)(a:Int):Option (List (List be)×List be):=f198r cQ f c b g e d a
def f203(c:List be):Option Int:=(cA (τ:=Int) (λ((b,a):(Int×Int))=>bif decide (a<(c.length:Int)) then((ix c a).bind λd=>some (.inl ((wr (b+d.cO)),wr (a+1))))else(some (.inr b))) cQ (0,0)).bind λ(e:Int)=>some e
def f205(b:be)(a:be):Option Int:=(f84 b.aY a.aY).bind λc=>some c
def f204(c:List be)(b:List be):Option Int:=(cA (τ:=(Unit⊕Int)) (λ(a:Int)=>bif decide (a<(c.length:Int)) then((ix c a).bind λf=>bif decide ((b.length:Int)<=a) then(some (.inr (.inr 1)))else((ix b a).bind λe=>(f205 f e).bind λd=>bif decide (d≠0) then(some (.inr (.inr d)))else(some (.inl (wr (a+1))))))else(some (.inr (.inl ())))) cQ 0).bind (Sum.elim (λ(_:Unit)=>bif decide ((c.length:Int)<(b.length:Int)) then(some (-1))else(some 0)) some)
def f83(b:List Int):Option Int:=(cA (τ:=(Unit⊕Int)) (λ(a:Int)=>bif decide (a<(b.length:Int)) then((ix b a).bind λc=>bif decide (c≠0) then(some (.inr (.inr c)))else(some (.inl (wr (a+1)))))else(some (.inr (.inl ())))) cQ 0).bind (Sum.elim (λ(_:Unit)=>some 0) some)
def f202(b:List be)(a:List be):Option Int:=(f203 b).bind λf=>(f203 a).bind λd=>(f84 f d).bind λe=>(f204 b a).bind λc=>(f83 ([e,c]:List Int)).bind λg=>some g
def f256(m:List (List be))(d:Int)(h:Int):Option (List (List be)):=(cA (τ:=(List (List be))) (λ((f,c):(List (List be)×Int))=>bif decide (c<h) then((cA (τ:=(List (List be))) (λ((b,a):(List (List be)×Int))=>((bif decide (d<a) then((ix b a).bind λo=>(ix b (wr (a-1))).bind λg=>(f202 o g).bind λl=>some (decide (l<0)))else(some false)):Option Bool).bind λ(k:Bool)=>bif k then((ix b (wr (a-1))).bind λe=>(ix b a).bind λi=>(ix (b.set a.toNat e) (wr (a-1))).bind λp=>some (.inl (((b.set a.toNat e).set (wr (a-1)).toNat i),wr (a-1))))else(some (.inr b))) cQ (f,c)).bind λ(j:(List (List be)))=>some (.inl (j,wr (c+1))))else(some (.inr f))) cQ (m,wr (d+1))).bind λ(n:(List (List be)))=>some n
def f271(g:List (List be))(d:Int)(c:Int)(h:Int):Option (List (List be)):=(cA (τ:=(List (List be))) (λ((b,a):(List (List be)×Int))=>bif decide (a<h) then((ix b (wr (c+a))).bind λe=>(ix b (wr (d+a))).bind λi=>(ix (b.set (wr (d+a)).toNat e) (wr (c+a))).bind λj=>some (.inl (((b.set (wr (d+a)).toNat e).set (wr (c+a)).toNat i),wr (a+1))))else(some (.inr b))) cQ (g,0)).bind λ(f:(List (List be)))=>some f
def f268(k:List (List be))(h:Int)(b:Int)(l:Int):Option (List (List be)):=(cA (τ:=(List (List be)×Int)) (λ((d,a,c):(List (List be)×Int×Int))=>bif decide (a≠c) then(bif decide (c<a) then((f271 d (wr (b-a)) b c).bind λe=>cB (e.length=d.length)<|some (.inl (e,wr (a-c),c)))else((f271 d (wr (b-a)) (wr ((wr (b+c))-a)) a).bind λf=>cB (f.length=d.length)<|some (.inl (f,a,wr (c-a)))))else(some (.inr (d,a)))) cQ (k,wr (b-h),wr (l-b))).bind λ((j,g):(List (List be)×Int))=>(f271 j (wr (b-g)) b g).bind λi=>some i
def f257r:Nat->(List (List be))->Int->Int->Int->Option (List (List be))
 |0,_,_,_,_=>none
 |s+1,d,a,c,b=>bif (decide ((wr (c-a))=1))then((cA (τ:=Int) (λ((j,n):(Int×Int))=>bif decide (j<n) then((ix d (wr ((eK (IntKind.wrap .u64 ((wr (j+n)))) 1)))).bind λN=>(ix d a).bind λw=>(f202 N w).bind λI=>bif decide (I<0) then(some (.inl ((wr ((wr ((eK (IntKind.wrap .u64 ((wr (j+n)))) 1)))+1)),n)))else(some (.inl (j,(wr ((eK (IntKind.wrap .u64 ((wr (j+n)))) 1)))))))else(some (.inr j))) cQ (c,b)).bind λ(E:Int)=>(cA (τ:=(List (List be))) (λ((o,f):(List (List be)×Int))=>bif (decide (f<(wr (E-1))))then((ix o (wr (f+1))).bind λt=>(ix o f).bind λx=>(ix (o.set f.toNat t) (wr (f+1))).bind λR=>some (.inl (((o.set f.toNat t).set (wr (f+1)).toNat x),wr (f+1))))else(some (.inr o))) cQ (d,a)).bind λ(L:(List (List be)))=>some L)else(bif (decide ((wr (b-c))=1))then((cA (τ:=Int) (λ((k,m):(Int×Int))=>bif decide (k<m) then((ix d c).bind λO=>(ix d (wr ((eK (IntKind.wrap .u64 ((wr (k+m)))) 1)))).bind λK=>(f202 O K).bind λF=>bif (!(decide (F<0)))then(some (.inl ((wr ((wr ((eK (IntKind.wrap .u64 ((wr (k+m)))) 1)))+1)),m)))else(some (.inl (k,(wr ((eK (IntKind.wrap .u64 ((wr (k+m)))) 1)))))))else(some (.inr k))) cQ (a,c)).bind λ(G:Int)=>(cA (τ:=(List (List be))) (λ((l,g):(List (List be)×Int))=>bif decide (G<g) then((ix l (wr (g-1))).bind λu=>(ix l g).bind λM=>(ix (l.set g.toNat u) (wr (g-1))).bind λS=>some (.inl (((l.set g.toNat u).set (wr (g-1)).toNat M),wr (g-1))))else(some (.inr l))) cQ (d,c)).bind λ(B:(List (List be)))=>some B)else(((bif (decide ((wr ((eK (IntKind.wrap .u64 ((wr (a+b)))) 1)))<c))then(some ((wr ((wr ((wr ((eK (IntKind.wrap .u64 ((wr (a+b)))) 1)))+c))-b)),(wr ((eK (IntKind.wrap .u64 ((wr (a+b)))) 1)))))else(some (a,c))):Option (Int×Int)).bind λ((P,D):(Int×Int))=>(cA (τ:=Int) (λ((h,i):(Int×Int))=>bif decide (h<i) then((ix d (wr ((wr ((wr ((wr ((eK (IntKind.wrap .u64 ((wr (a+b)))) 1)))+c))-1))-(wr ((eK (IntKind.wrap .u64 ((wr (h+i)))) 1)))))).bind λJ=>(ix d (wr ((eK (IntKind.wrap .u64 ((wr (h+i)))) 1)))).bind λH=>(f202 J H).bind λC=>bif (!(decide (C<0)))then(some (.inl ((wr ((wr ((eK (IntKind.wrap .u64 ((wr (h+i)))) 1)))+1)),i)))else(some (.inl (h,(wr ((eK (IntKind.wrap .u64 ((wr (h+i)))) 1)))))))else(some (.inr h))) cQ (P,D)).bind λ(e:Int)=>((((bif decide (e<c) then(some (decide (c<(wr ((wr ((wr ((eK (IntKind.wrap .u64 ((wr (a+b)))) 1)))+c))-e)))))else(some false)):Option Bool).bind λ(Q:Bool)=>bif Q then((f268 d e c (wr ((wr ((wr ((eK (IntKind.wrap .u64 ((wr (a+b)))) 1)))+c))-e))).bind λv=>cB (v.length=d.length)<|some v)else(some d)):Option (List (List be))).bind λ(p:(List (List be)))=>((((bif decide (a<e) then(some (decide (e<(wr ((eK (IntKind.wrap .u64 ((wr (a+b)))) 1))))))else(some false)):Option Bool).bind λ(y:Bool)=>bif y then((f257r s p a e (wr ((eK (IntKind.wrap .u64 ((wr (a+b)))) 1)))).bind λq=>cB (q.length=p.length)<|some q)else(some p)):Option (List (List be))).bind λ(r:(List (List be)))=>((bif (decide ((wr ((eK (IntKind.wrap .u64 ((wr (a+b)))) 1)))<(wr ((wr ((wr ((eK (IntKind.wrap .u64 ((wr (a+b)))) 1)))+c))-e))))then(some (decide ((wr ((wr ((wr ((eK (IntKind.wrap .u64 ((wr (a+b)))) 1)))+c))-e))<b)))else(some false)):Option Bool).bind λ(A:Bool)=>bif A then((f257r s r (wr ((eK (IntKind.wrap .u64 ((wr (a+b)))) 1))) (wr ((wr ((wr ((eK (IntKind.wrap .u64 ((wr (a+b)))) 1)))+c))-e)) b).bind λz=>some z)else(some r)))
def f257(b:List (List be))(a:Int)(d:Int)(c:Int):Option (List (List be)):=f257r cQ b a d c
def f230(q:List (List be))(b:Int):Option (List (List be)):=(cA (τ:=(List (List be)×Int)) (λ((g,l,d):(List (List be)×Int×Int))=>bif decide (d<=b) then((f256 g l d).bind λp=>cB (p.length=g.length)<|some (.inl (p,d,wr (d+20))))else(some (.inr (g,l)))) cQ (q,0,20)).bind λ((o,r):(List (List be)×Int))=>(f256 o r b).bind λm=>cB (m.length=o.length)<|(cA (τ:=(List (List be))) (λ((k,a):(List (List be)×Int))=>bif decide (a<b) then((cA (τ:=(List (List be)×Int)) (λ((e,h,c):(List (List be)×Int×Int))=>bif decide (c<=b) then((f257 e h (wr (h+a)) c).bind λj=>cB (j.length=e.length)<|some (.inl (j,c,(wr (c+(wr (2*a)))))))else(some (.inr (e,h)))) cQ (k,0,wr (2*a))).bind λ((f,i):(List (List be)×Int))=>((bif (decide ((wr (i+a))<b))then((f257 f i (wr (i+a)) b).bind λn=>cB (n.length=f.length)<|some n)else(some f)):Option (List (List be))).bind λ(s:(List (List be)))=>some (.inl (s,wr (a*2))))else(some (.inr k))) cQ (m,20)).bind λ(t:(List (List be)))=>some t
def f201(a:List (List be)):Option (List (List be)):=(f230 a (a.length:Int)).bind λb=>some b
def f156(e:bY)(a:List bE)(d:List Bool)(f:Int):Option (List (List be)):=cB (0<=(a.length:Int))<|cB ((a.length:Int)<=(bQ:Int))<|(f198 0 a ([]:List (List be)) (List.replicate (a.length:Int).toNat (⟨0,0⟩:be)) d e f).bind λc=>(f201 c.1).bind λb=>cB (b.length=c.1.length)<|some b
def f157(a:List Bool):Option (List Bool):=((bif a.isEmpty then(some ([]:List Bool))else(cB (a.length<=bQ)<|some a)):Option (List Bool)).bind λ(b:(List Bool))=>some b
def f158(l:dl)(c:ct)(d:List bE):Option Bool:=(cA (τ:=(Unit⊕Bool)) (λ(a:Int)=>bif decide (a<(d.length:Int)) then((ix d a).bind λb=>(f159 c.places b.cp.aY).bind λe=>(((ix c.cut a).bind λf=>bif f then(bif decide (b.cp.cO=0) then(some (!e))else(some false))else(some false)):Option Bool).bind λ(j:Bool)=>bif j then(some (.inr (.inr false)))else((((ix c.cut a).bind λk=>bif (!k)then(some e)else(some false)):Option Bool).bind λ(i:Bool)=>bif i then(some (.inr (.inr false)))else((((ix c.cut a).bind λg=>bif (!g)then(bif decide (0<b.cp.cO) then(some (decide (15<(wr ((l.ck.bP.length:Int)-b.cP)))))else(some false))else(some false)):Option Bool).bind λ(h:Bool)=>bif h then(some (.inr (.inr false)))else(some (.inl (wr (a+1)))))))else(some (.inr (.inl ())))) cQ 0).bind (Sum.elim (λ(_:Unit)=>some true) some)
def f161(b:be)(a:be):Option Int:=(f84 b.aY a.aY).bind λc=>some c
def f160(a:List be):Option (List be):=sR f161 a
def f111(l:dl)(e:ct)(r:List bE):Option cq:=(cA (τ:=(List be×List Int)) (λ((h,d,f):(List be×List Int×Int))=>bif decide (f<(r.length:Int)) then((((ix r f).bind λk=>(((ix e.cut f).bind λz=>bif (!z)then(some (decide (0<k.cp.cO)))else(some false)):Option Bool).bind λ(C:Bool)=>bif C then(cB (h.length+1<=bQ)<|cB (d.length+1<=bQ)<|some ((h++([k.cp]:List be)),(d++([k.cp.aY]:List Int))))else(some (h,d))):Option (List be×List Int)).bind λ((y,A):(List be×List Int))=>some (.inl (y,A,wr (f+1))))else(some (.inr (h,d)))) cQ (([]:List be),([]:List Int),0)).bind λ((D,p):(List be×List Int))=>(cA (τ:=(List be×List Int)) (λ((a,b,j):(List be×List Int×Int))=>bif decide (j<(e.places.length:Int)) then((((ix e.places j).bind λc=>bif decide (0<c.cO) then(cB (a.length+1<=bQ)<|some ((a++([c]:List be)),b))else(bif decide (0<c.aY) then(cB (b.length+1<=bQ)<|some (a,(b++([c.aY]:List Int))))else(some (a,b)))):Option (List be×List Int)).bind λ((u,x):(List be×List Int))=>some (.inl (u,x,wr (j+1))))else(some (.inr (a,b)))) cQ (D,([]:List Int),0)).bind λ((n,w):(List be×List Int))=>(cA (τ:=(List Int)) (λ((g,i):(List Int×Int))=>bif decide (i<(l.dM.dz.length:Int)) then((((ix l.dM.dz i).bind λt=>(f159 e.places t).bind λv=>bif (!v)then(cB (g.length+1<=bQ)<|some (g++([t]:List Int)))else(some g)):Option (List Int)).bind λ(B:(List Int))=>some (.inl (B,wr (i+1))))else(some (.inr g))) cQ (w,0)).bind λ(q:(List Int))=>(f160 n).bind λs=>cB (s.length=n.length)<|(f71 p).bind λo=>cB (o.length=p.length)<|(f71 q).bind λm=>cB (m.length=q.length)<|some (⟨s,o,m⟩:cq)
def f240(b:List Int):Option Bool:=(cA (τ:=(Unit⊕Bool)) (λ(a:Int)=>bif decide (a<(b.length:Int)) then((ix b a).bind λc=>(ix b (wr (a-1))).bind λd=>bif decide (c<=d) then(some (.inr (.inr false)))else(some (.inl (wr (a+1)))))else(some (.inr (.inl ())))) cQ 1).bind (Sum.elim (λ(_:Unit)=>some true) some)
def f261(a:be)(b:Int):Option Bool:=some (decide (a.aY=b))
def f231_1(b:List be)(d:Int):Option Int:=(cA (τ:=(Unit⊕Int)) (λ(a:Int)=>bif decide (a<(b.length:Int)) then((ix b a).bind λc=>(f261 c d).bind λe=>bif e then(some (.inr (.inr a)))else(some (.inl (wr (a+1)))))else(some (.inr (.inl ())))) cQ 0).bind (Sum.elim (λ(_:Unit)=>some (-1)) some)
def f241(b:cq)(a:Int):Option Int:=(f231_1 b.cV a).bind λc=>some c
def f209(a:cq):Option Bool:=(cA (τ:=(Unit⊕Bool)) (λ((n,d):(Int×Int))=>bif decide (d<(a.cV.length:Int)) then((ix a.cV d).bind λb=>((bif decide (b.aY<=n) then(some true)else(bif decide (14<b.aY) then(some true)else((f66 b.cO 1 18).bind λp=>some (!p)))):Option Bool).bind λ(m:Bool)=>bif m then(some (.inr (.inr false)))else(some (.inl (b.aY,wr (d+1)))))else(some (.inr (.inl ())))) cQ (0,0)).bind (Sum.elim (λ(_:Unit)=>(((f240 a.held).bind λi=>bif (!i)then(some true)else((f240 a.dz).bind λj=>some (!j))):Option Bool).bind λ(k:Bool)=>bif k then(some false)else((cA (τ:=(Unit⊕Bool)) (λ(c:Int)=>bif decide (c<(a.held.length:Int)) then((ix a.held c).bind λh=>(f241 a h).bind λo=>bif decide (o<0) then(some (.inr (.inr false)))else(some (.inl (wr (c+1)))))else(some (.inr (.inl ())))) cQ 0).bind (Sum.elim (λ(_:Unit)=>(cA (τ:=(Unit⊕Bool)) (λ(e:Int)=>bif decide (e<(a.dz.length:Int)) then((ix a.dz e).bind λf=>(((f66 f 1 14).bind λg=>bif (!g)then(some true)else((f241 a f).bind λl=>some (decide (0<=l)))):Option Bool).bind λ(q:Bool)=>bif q then(some (.inr (.inr false)))else(some (.inl (wr (e+1)))))else(some (.inr (.inl ())))) cQ 0).bind (Sum.elim (λ(_:Unit)=>some true) some)) some))) some)
def f262(b:List Int)(d:Int):Option Int:=(cA (τ:=(Unit⊕Int)) (λ(a:Int)=>bif decide (a<(b.length:Int)) then((ix b a).bind λc=>bif decide (d=c) then(some (.inr (.inr a)))else(some (.inl (wr (a+1)))))else(some (.inr (.inl ())))) cQ 0).bind (Sum.elim (λ(_:Unit)=>some (-1)) some)
def f264(a:Int)(b:Int)(d:Int):Option Bool:=((bif decide (b<a) then(some (decide (a<d)))else(some false)):Option Bool).bind λ(c:Bool)=>some c
def f270(b:List Int)(d:Int)(e:Int):Option Int:=(cA (τ:=(Unit⊕Int)) (λ(a:Int)=>bif decide (a<(b.length:Int)) then((ix b a).bind λc=>(f264 c d e).bind λf=>bif f then(some (.inr (.inr a)))else(some (.inl (wr (a+1)))))else(some (.inr (.inl ())))) cQ 0).bind (Sum.elim (λ(_:Unit)=>some (-1)) some)
def f263(b:List Int)(c:Int)(a:Int):Option Bool:=(f270 b c a).bind λd=>some (decide (0<=d))
def f265(a:be)(b:Int):Option Bool:=some (decide (a.cO<b))
def f231_2(b:List be)(d:Int):Option Int:=(cA (τ:=(Unit⊕Int)) (λ(a:Int)=>bif decide (a<(b.length:Int)) then((ix b a).bind λc=>(f265 c d).bind λe=>bif e then(some (.inr (.inr a)))else(some (.inl (wr (a+1)))))else(some (.inr (.inl ())))) cQ 0).bind (Sum.elim (λ(_:Unit)=>some (-1)) some)
def f206_1(a:List be)(b:Int):Option Bool:=(f231_2 a b).bind λc=>some (decide (0<=c))
def f243(i:eM)(b:cq)(f:List Int):Option Bool:=(cA (τ:=(Unit⊕Bool)) (λ(d:Int)=>bif decide (d<=(i.low.length:Int)) then((((f262 f d).bind λa=>bif decide (a<0) then(some (.inl ()))else((cA (τ:=Int) (λ((g,e):(Int×Int))=>bif decide (e<(f.length:Int)) then((((ix f e).bind λn=>bif decide (n=d) then(some e)else(some g)):Option Int).bind λ(j:Int)=>some (.inl (j,wr (e+1))))else(some (.inr g))) cQ (a,0)).bind λ(c:Int)=>bif decide (a=c) then(some (.inl ()))else((((ix i.gA (wr (d-1))).bind λp=>bif (!p)then(some true)else((ix b.cV a).bind λo=>(ix b.cV c).bind λl=>some (decide (o.cO≠l.cO)))):Option Bool).bind λ(m:Bool)=>bif m then(some (.inr (.inr (.inr false))))else((ix b.cV a).bind λh=>(ix b.cV c).bind λq=>(f263 b.dz h.aY q.aY).bind λr=>bif r then(some (.inr (.inr (.inr false))))else(cB (0<=a)<|cB (0<=c)<|cB (a.toNat<=c.toNat)<|cB (c.toNat<=b.cV.length)<|(f206_1 ((b.cV.take c.toNat).drop a.toNat) h.cO).bind λk=>bif k then(some (.inr (.inr (.inr false))))else(some (.inl ()))))))):Option (Unit⊕(Int⊕(Unit⊕Bool)))).bind (Sum.elim (λ(_:Unit)=>some (.inl (wr (d+1)))) some))else(some (.inr (.inl ())))) cQ 1).bind (Sum.elim (λ(_:Unit)=>some true) some)
def f22_1(a:List Int):Option (List Int):=((bif a.isEmpty then(some ([]:List Int))else(cB (a.length<=bQ)<|some a)):Option (List Int)).bind λ(b:(List Int))=>some b
def f244(c:eM)(b:Int)(a:Int)(g:Int):Option Bool:=(ix c.low (wr (a-1))).bind λe=>(ix c.high (wr (a-1))).bind λd=>(f66 g (wr (b+e)) (wr (b+d))).bind λf=>some f
def f245(d:be)(c:be)(b:Int)(a:Int):Option Bool:=bif decide (d.cO<c.cO) then(some (decide (b<a)))else(bif decide (c.cO<d.cO) then(some (decide (a<b)))else(bif decide (d.aY<c.aY) then(some (decide (a<=b)))else(some (decide (b<=a)))))
def f242r:Nat->Int->(List Int)->cq->eM->(List cG)->Option (List Int×List cG)
 |0,_,_,_,_,_=>none
 |o+1,j,a,e,g,f=>bif decide ((a.length:Int)=(e.cV.length:Int)) then((((f243 g e a).bind λv=>bif v then((f22_1 a).bind λq=>cB (f.length+1<=bQ)<|some (f++([(⟨j,q⟩:cG)]:List cG)))else(some f)):Option (List cG)).bind λ(m:(List cG))=>some (a,m))else((cA (τ:=(List Int×List cG)) (λ((b,c,d):(List Int×List cG×Int))=>((bif decide (d<=(g.low.length:Int)) then(some (decide ((c.length:Int)<=200)))else(some false)):Option Bool).bind λ(x:Bool)=>bif x then((((ix e.cV (a.length:Int)).bind λk=>(f244 g j d k.cO).bind λl=>bif (!l)then(some (b,c))else((cA (τ:=(Unit⊕_)) (λ(i:Int)=>bif decide (i<(b.length:Int)) then((ix b i).bind λn=>(ix e.cV i).bind λu=>(f245 u k n d).bind λr=>bif (!r)then(some (.inr (.inr (b,c))))else(some (.inl (wr (i+1)))))else(some (.inr (.inl ())))) cQ 0).bind (Sum.elim (λ(_:Unit)=>cB (b.length+1<=bQ)<|(f242r o j (b++([d]:List Int)) e g c).bind λh=>cB (0<=(a.length:Int))<|cB ((a.length:Int).toNat<=h.1.length)<|cB ((a.length:Int).toNat<=h.1.length)<|some ((h.1.take (a.length:Int).toNat),h.2)) some))):Option (List Int×List cG)).bind λ((t,p):(List Int×List cG))=>some (.inl (t,p,wr (d+1))))else(some (.inr (b,c)))) cQ (a,f,1)).bind λ((s,w):(List Int×List cG))=>some (s,w))
def f242(d:Int)(b:List Int)(a:cq)(e:eM)(c:List cG):Option (List Int×List cG):=f242r cQ d b a e c
def f210(d:eM)(e:cq):Option ((List cG)):=(cA (τ:=(List cG)) (λ((b,g,a):(List cG×List Int×Int))=>bif decide (a<=d.top) then((f242 a g e d b).bind λc=>some (.inl (c.2,c.1,wr (a+1))))else(some (.inr b))) cQ (([]:List cG),([]:List Int),1)).bind λ(f:(List cG))=>some f
def f162(d:eM)(a:cq):Option (((List cG))×Int):=(f33 d).bind λb=>bif decide (b≠0) then(some (([]:List cG),b))else((f209 a).bind λe=>bif (!e)then(some (([]:List cG),1))else((f210 d a).bind λc=>bif decide (200<(c.length:Int)) then(some (([]:List cG),2))else(some (c,0))))
def f246(e:cq)(a:cq):Option Bool:=(cA (τ:=(Unit⊕Bool)) (λ(b:Int)=>bif decide (b<(a.held.length:Int)) then((ix a.held b).bind λc=>(f241 e c).bind λd=>((bif decide (d<0) then(some true)else((ix e.cV d).bind λh=>(f241 a c).bind λf=>(ix a.cV f).bind λi=>some (!(jX h i)))):Option Bool).bind λ(g:Bool)=>bif g then(some (.inr (.inr false)))else(some (.inl (wr (b+1)))))else(some (.inr (.inl ())))) cQ 0).bind (Sum.elim (λ(_:Unit)=>some true) some)
def f212(b:List cq):Option Int:=bif decide (400<(b.length:Int)) then(some 2)else((cA (τ:=(Unit⊕Int)) (λ(a:Int)=>bif decide (a<(b.length:Int)) then((ix b a).bind λc=>(((f209 c).bind λd=>bif (!d)then(some true)else(bif decide (0<a) then((ix b (wr (a-1))).bind λf=>(f246 f c).bind λg=>some (!g))else(some false))):Option Bool).bind λ(e:Bool)=>bif e then(some (.inr (.inr 1)))else(some (.inl (wr (a+1)))))else(some (.inr (.inl ())))) cQ 0).bind (Sum.elim (λ(_:Unit)=>some 0) some))
def f262_1(b:List Int)(d:Int):Option Int:=(cA (τ:=(Unit⊕Int)) (λ(a:Int)=>bif decide (a<(b.length:Int)) then((ix b a).bind λc=>bif decide (d=c) then(some (.inr (.inr a)))else(some (.inl (wr (a+1)))))else(some (.inr (.inl ())))) cQ 0).bind (Sum.elim (λ(_:Unit)=>some (-1)) some)
def f243_1(i:eM)(b:cq)(f:List Int):Option Bool:=(cA (τ:=(Unit⊕Bool)) (λ(d:Int)=>bif decide (d<=(i.low.length:Int)) then((((f262_1 f d).bind λa=>bif decide (a<0) then(some (.inl ()))else((cA (τ:=Int) (λ((g,e):(Int×Int))=>bif decide (e<(f.length:Int)) then((((ix f e).bind λn=>bif decide (n=d) then(some e)else(some g)):Option Int).bind λ(j:Int)=>some (.inl (j,wr (e+1))))else(some (.inr g))) cQ (a,0)).bind λ(c:Int)=>bif decide (a=c) then(some (.inl ()))else((((ix i.gA (wr (d-1))).bind λp=>bif (!p)then(some true)else((ix b.cV a).bind λo=>(ix b.cV c).bind λl=>some (decide (o.cO≠l.cO)))):Option Bool).bind λ(m:Bool)=>bif m then(some (.inr (.inr (.inr false))))else((ix b.cV a).bind λh=>(ix b.cV c).bind λq=>(f263 b.dz h.aY q.aY).bind λr=>bif r then(some (.inr (.inr (.inr false))))else(cB (0<=a)<|cB (0<=c)<|cB (a.toNat<=c.toNat)<|cB (c.toNat<=b.cV.length)<|(f206_1 ((b.cV.take c.toNat).drop a.toNat) h.cO).bind λk=>bif k then(some (.inr (.inr (.inr false))))else(some (.inl ()))))))):Option (Unit⊕(Int⊕(Unit⊕Bool)))).bind (Sum.elim (λ(_:Unit)=>some (.inl (wr (d+1)))) some))else(some (.inr (.inl ())))) cQ 1).bind (Sum.elim (λ(_:Unit)=>some true) some)
def f213(e:eM)(c:cq)(a:cG):Option Bool:=(((f66 a.pos 1 e.top).bind λn=>bif (!n)then(some true)else(some (decide ((a.dC.length:Int)≠(c.cV.length:Int))))):Option Bool).bind λ(q:Bool)=>bif q then(some false)else((cA (τ:=(Unit⊕Bool)) (λ(b:Int)=>bif decide (b<(a.dC.length:Int)) then((ix a.dC b).bind λf=>(((f66 f 1 (e.low.length:Int)).bind λi=>bif (!i)then(some true)else((ix c.cV b).bind λm=>(f244 e a.pos f m.cO).bind λj=>some (!j))):Option Bool).bind λ(l:Bool)=>bif l then(some (.inr (.inr false)))else((cA (τ:=(Unit⊕(Int⊕(Unit⊕Bool)))) (λ(d:Int)=>bif decide (d<b) then((ix c.cV d).bind λh=>(ix c.cV b).bind λk=>(ix a.dC d).bind λo=>(f245 h k o f).bind λp=>bif (!p)then(some (.inr (.inr (.inr (.inr false)))))else(some (.inl (wr (d+1)))))else(some (.inr (.inl ())))) cQ 0).bind (Sum.elim (λ(_:Unit)=>some (.inl (wr (b+1)))) some)))else(some (.inr (.inl ())))) cQ 0).bind (Sum.elim (λ(_:Unit)=>(f243_1 e c a.dC).bind λg=>some g) some))
def f247(a:Int)(b:Int):Option Int:=some (kX (wr (a-b)) (wr (b-a)))
def f248(i:cq)(c:cG)(g:Int):Option ((List be)):=(cA (τ:=(List be)) (λ((a,b):(List be×Int))=>bif decide (b<(c.dC.length:Int)) then((((ix c.dC b).bind λf=>bif decide (f=g) then((ix i.cV b).bind λd=>cB (a.length+1<=bQ)<|some (a++([d]:List be)))else(some a)):Option (List be)).bind λ(e:(List be))=>some (.inl (e,wr (b+1))))else(some (.inr a))) cQ (([]:List be),0)).bind λ(h:(List be))=>some h
def f266(b:List be)(d:be):Option Int:=(cA (τ:=(Unit⊕Int)) (λ(a:Int)=>bif decide (a<(b.length:Int)) then((ix b a).bind λc=>bif (jX d c)then(some (.inr (.inr a)))else(some (.inl (wr (a+1)))))else(some (.inr (.inl ())))) cQ 0).bind (Sum.elim (λ(_:Unit)=>some (-1)) some)
def f250(b:List be)(a:be):Option Bool:=(f266 b a).bind λc=>some (decide (0<=c))
def f249(b:be)(a:List be):Option Bool:=(f250 a b).bind λc=>some c
def f231_3(b:List be)(d:List be):Option Int:=(cA (τ:=(Unit⊕Int)) (λ(a:Int)=>bif decide (a<(b.length:Int)) then((ix b a).bind λc=>(f249 c d).bind λe=>bif e then(some (.inr (.inr a)))else(some (.inl (wr (a+1)))))else(some (.inr (.inl ())))) cQ 0).bind (Sum.elim (λ(_:Unit)=>some (-1)) some)
def f206_2(a:List be)(b:List be):Option Bool:=(f231_3 a b).bind λc=>some (decide (0<=c))
def f214(a:eM)(i:cq)(j:cG)(b:cq)(g:cG):Option (Int×Bool):=(cA (τ:=(Unit⊕(Int×Bool))) (λ(h:Int)=>bif decide (h<(b.held.length:Int)) then((ix b.held h).bind λm=>(f241 i m).bind λu=>(ix j.dC u).bind λo=>(f241 b m).bind λr=>(ix g.dC r).bind λv=>bif decide (o≠v) then(some (.inr (.inr (0,false))))else(some (.inl (wr (h+1)))))else(some (.inr (.inl ())))) cQ 0).bind (Sum.elim (λ(_:Unit)=>(f247 j.pos g.pos).bind λc=>((bif decide (0<(i.cV.length:Int)) then(some (decide (0<(b.cV.length:Int))))else(some false)):Option Bool).bind λ(e:Bool)=>((bif e then(some (decide (a.jump<c)))else(some false)):Option Bool).bind λ(x:Bool)=>bif x then(some (0,false))else(((((bif e then(some (decide (0<c)))else(some false)):Option Bool).bind λ(n:Bool)=>bif n then(some (wr ((wr (a.shift*c))+a.lift)))else(some (wr (a.shift*c)))):Option Int).bind λ(p:Int)=>(cA (τ:=Int) (λ((f,d):(Int×Int))=>((bif decide (d<=(a.low.length:Int)) then(some e)else(some false)):Option Bool).bind λ(s:Bool)=>bif s then((((f248 i j d).bind λk=>(f248 b g d).bind λl=>((bif decide (0<(k.length:Int)) then(bif decide (0<(l.length:Int)) then((f206_2 k l).bind λq=>some (!q))else(some false))else(some false)):Option Bool).bind λ(y:Bool)=>bif y then(some (wr (f+a.ie)))else(some f)):Option Int).bind λ(w:Int)=>some (.inl (w,wr (d+1))))else(some (.inr f))) cQ (p,1)).bind λ(t:Int)=>some (t,true))) some)
def f165(a:eM)(b:cq)(d:cG)(c:cq)(g:cG):Option (Int×Int):=(f33 a).bind λh=>bif decide (h≠0) then(some (0,h))else((f212 ([b,c]:List cq)).bind λf=>bif decide (f≠0) then(some (0,f))else((((f213 a b d).bind λj=>bif (!j)then(some true)else((f213 a c g).bind λi=>some (!i))):Option Bool).bind λ(k:Bool)=>bif k then(some (0,61))else((f214 a b d c g).bind λe=>bif (!e.2)then(some (0,61))else(some (e.1,0)))))
def f164(d:cG)(a:dl)(b:cq)(e:cG):Option Bool:=(f165 a.h a.dM d b e).bind λc=>some (decide (c.2=0))
def f211(b:List cG)(e:dl)(f:cq)(c:cG):Option Int:=(cA (τ:=(Unit⊕Int)) (λ(a:Int)=>bif decide (a<(b.length:Int)) then((ix b a).bind λd=>(f164 d e f c).bind λg=>bif g then(some (.inr (.inr a)))else(some (.inl (wr (a+1)))))else(some (.inr (.inl ())))) cQ 0).bind (Sum.elim (λ(_:Unit)=>some (-1)) some)
def f163(e:List cG)(b:dl)(c:cq)(a:cG):Option Bool:=(f211 e b c a).bind λd=>some (decide (0<=d))
def f112(c:dl)(e:cq):Option (List cG):=(f162 c.h e).bind λa=>bif decide (a.2≠0) then(some ([]:List cG))else(bif decide ((c.ck.bP.length:Int)=0) then(some a.1)else((cA (τ:=(List cG)) (λ((b,d):(List cG×Int))=>bif decide (d<(a.1.length:Int)) then((((ix a.1 d).bind λf=>(f163 c.fI c e f).bind λg=>bif g then(cB (b.length+1<=bQ)<|some (b++([f]:List cG)))else(some b)):Option (List cG)).bind λ(j:(List cG))=>some (.inl (j,wr (d+1))))else(some (.inr b))) cQ (([]:List cG),0)).bind λ(i:(List cG))=>some i))
def f296(c:dl)(e:List bE)(h:ct)(f:cq)(k:List cG)(j:Bool)(g:List bE)(i:List bE)(d:ct):Option ((List cG×cq)⊕Unit):=(f111 c d e).bind λa=>(f112 c (⟨a.cV,a.held,a.dz⟩:cq)).bind λb=>bif decide (0<(b.length:Int)) then(some (.inl (b,(⟨a.cV,a.held,a.dz⟩:cq))))else(some (.inr ()))
def f295(i:List bE)(e:dl)(g:List bE)(h:List bE)(o:ct)(l:cq)(m:List cG)(n:Bool)(f:List (List be))(q:Int)(p:Int)(j:List Bool):Option ((List cG×cq×ct)⊕Unit):=(cA (τ:=(Unit⊕((List cG×cq×ct)⊕Unit))) (λ(a:Int)=>bif decide (a<(f.length:Int)) then((ix f a).bind λc=>(f157 j).bind λd=>(f158 e (⟨c,d⟩:ct) g).bind λk=>bif k then((f296 e h o l m n i g (⟨c,d⟩:ct)).bind (Sum.elim (λb=>some (.inr (.inr (.inl (b.1,(⟨b.2.cV,b.2.held,b.2.dz⟩:cq),(⟨c,d⟩:ct)))))) λr=>some (.inl (wr (a+1)))))else(some (.inl (wr (a+1)))))else(some (.inr (.inl ())))) cQ 0).bind (Sum.elim (λ(_:Unit)=>some (.inr ())) some)
def f196_1r:Nat->Int->Int->Int->(List bE)->dl->(List bE)->(List bE)->ct->cq->(List cG)->Bool->(List (List be))->Int->(List Bool)->Option ((List Bool)⊕(ct×cq×List cG×List Bool))
 |0,_,_,_,_,_,_,_,_,_,_,_,_,_,_=>none
 |x+1,c,g,f,k,r,m,j,n,q,t,o,p,s,d=>bif decide (c=f) then(bif decide (0<g) then(some (.inl d))else((f295 k r m j n q t o p s f d).bind (Sum.elim (λb=>some (.inr ((⟨b.2.2.places,b.2.2.cut⟩:ct),(⟨b.2.1.cV,b.2.1.held,b.2.1.dz⟩:cq),b.1,d))) λA=>some (.inl d))))else((cA (τ:=((List Bool)⊕((List Bool)⊕(ct×cq×List cG×List Bool)))) (λ((e,h):(List Bool×Int))=>bif decide (h<2) then((((ix ([false,true]:List Bool) h).bind λl=>((bif l then(some (wr (g-1)))else(some g)):Option Int).bind λ(i:Int)=>((bif decide (i<0) then(some true)else(some (decide ((wr ((wr (f-c))-1))<i)))):Option Bool).bind λ(w:Bool)=>bif w then(some (.inl e))else((ix e c).bind λz=>(f196_1r x (wr (c+1)) i f k r m j n q t o p s (e.set c.toNat l)).bind (Sum.elim (λy=>some (.inl y)) λa=>some (.inr (.inr (.inr (.inr ((⟨a.1.places,a.1.cut⟩:ct),(⟨a.2.1.cV,a.2.1.held,a.2.1.dz⟩:cq),a.2.2.1,a.2.2.2)))))))):Option ((List Bool)⊕((List Bool×Int)⊕((List Bool)⊕((List Bool)⊕(ct×cq×List cG×List Bool)))))).bind (Sum.elim (λ(v:(List Bool))=>some (.inl (v,wr (h+1)))) some))else(some (.inr (.inl e)))) cQ (d,0)).bind (Sum.elim (λ(u:(List Bool))=>some (.inl u)) some))
def f196_1(k:Int)(d:Int)(b:Int)(g:List bE)(h:dl)(c:List bE)(a:List bE)(f:ct)(e:cq)(i:List cG)(m:Bool)(n:List (List be))(l:Int)(j:List Bool):Option ((List Bool)⊕(ct×cq×List cG×List Bool)):=f196_1r cQ k d b g h c a f e i m n l j
def f195_1(g:List bE)(e:dl)(n:List bE)(f:List bE)(m:ct)(h:cq)(i:List cG)(j:Bool)(l:List (List be))(k:Int)(b:Int):Option ((List cG×cq×ct)⊕Unit):=cB (0<=b)<|cB (b<=(bQ:Int))<|(cA (τ:=(Unit⊕((List cG×cq×ct)⊕Unit))) (λ((o,c):(List Bool×Int))=>bif decide (c<=b) then((f196_1 0 c b g e n f m h i j l k o).bind (Sum.elim (λd=>some (.inl (d,wr (c+1)))) λa=>some (.inr (.inr (.inl (a.2.2.1,(⟨a.2.1.cV,a.2.1.held,a.2.1.dz⟩:cq),(⟨a.1.places,a.1.cut⟩:ct)))))))else(some (.inr (.inl ())))) cQ ((List.replicate b.toNat (false:Bool)),0)).bind (Sum.elim (λ(_:Unit)=>some (.inr ())) some)
def f294(d:List bE)(b:dl)(c:List bE)(f:List bE)(m:ct)(g:cq)(h:List cG)(i:Bool)(j:Int)(e:List Bool):Option (Unit⊕((List cG×cq×ct)⊕Unit)):=(f155 e false).bind λl=>bif (!l)then(some (.inl ()))else((f156 b.kQ d e b.shift).bind λk=>(f154 (c.length:Int)).bind λo=>(f195_1 d b c f m g h i k j (c.length:Int)).bind (Sum.elim (λa=>some (.inr (.inl (a.1,(⟨a.2.1.cV,a.2.1.held,a.2.1.dz⟩:cq),(⟨a.2.2.places,a.2.2.cut⟩:ct))))) λn=>some (.inr (.inr ()))))
def f196r:Nat->Int->Int->Int->(List bE)->dl->(List bE)->(List bE)->ct->cq->(List cG)->Bool->(List Bool)->Option ((List Bool)⊕((List Bool)⊕(ct×cq×List cG×List Bool)))
 |0,_,_,_,_,_,_,_,_,_,_,_,_=>none
 |u+1,d,h,f,k,q,m,j,n,p,r,o,b=>bif decide (d=f) then(bif decide (0<h) then(some (.inl b))else((f294 k q m j n p r o f b).bind (Sum.elim (λz=>some (.inr (.inl b))) (Sum.elim (λc=>some (.inr (.inr ((⟨c.2.2.places,c.2.2.cut⟩:ct),(⟨c.2.1.cV,c.2.1.held,c.2.1.dz⟩:cq),c.1,b)))) λA=>some (.inl b)))))else((cA (τ:=((List Bool)⊕((List Bool)⊕((List Bool)⊕(ct×cq×List cG×List Bool))))) (λ((e,g):(List Bool×Int))=>bif decide (g<2) then((((ix ([false,true]:List Bool) g).bind λl=>((bif l then(some (wr (h-1)))else(some h)):Option Int).bind λ(i:Int)=>((bif decide (i<0) then(some true)else(some (decide ((wr ((wr (f-d))-1))<i)))):Option Bool).bind λ(t:Bool)=>bif t then(some (.inl e))else((ix e d).bind λy=>(f196r u (wr (d+1)) i f k q m j n p r o (e.set d.toNat l)).bind (Sum.elim (λw=>some (.inl w)) (Sum.elim (λv=>some (.inr (.inr (.inr (.inr (.inl v)))))) λa=>some (.inr (.inr (.inr (.inr (.inr ((⟨a.1.places,a.1.cut⟩:ct),(⟨a.2.1.cV,a.2.1.held,a.2.1.dz⟩:cq),a.2.2.1,a.2.2.2)))))))))):Option ((List Bool)⊕((List Bool×Int)⊕((List Bool)⊕((List Bool)⊕((List Bool)⊕(ct×cq×List cG×List Bool))))))).bind (Sum.elim (λ(s:(List Bool))=>some (.inl (s,wr (g+1)))) some))else(some (.inr (.inl e)))) cQ (b,0)).bind (Sum.elim (λ(x:(List Bool))=>some (.inl x)) some))
def f196(k:Int)(d:Int)(b:Int)(g:List bE)(h:dl)(c:List bE)(a:List bE)(f:ct)(e:cq)(i:List cG)(l:Bool)(j:List Bool):Option ((List Bool)⊕((List Bool)⊕(ct×cq×List cG×List Bool))):=f196r cQ k d b g h c a f e i l j
def f195(g:List bE)(e:dl)(m:List bE)(f:List bE)(l:ct)(h:cq)(i:List cG)(j:Bool)(b:Int):Option (Unit⊕((List cG×cq×ct)⊕Unit)):=cB (0<=b)<|cB (b<=(bQ:Int))<|(cA (τ:=(Unit⊕(Unit⊕((List cG×cq×ct)⊕Unit)))) (λ((k,c):(List Bool×Int))=>bif decide (c<=b) then((f196 0 c b g e m f l h i j k).bind (Sum.elim (λd=>some (.inl (d,wr (c+1)))) (Sum.elim (λn=>some (.inr (.inr (.inl ())))) λa=>some (.inr (.inr (.inr (.inl (a.2.2.1,(⟨a.2.1.cV,a.2.1.held,a.2.1.dz⟩:cq),(⟨a.1.places,a.1.cut⟩:ct)))))))))else(some (.inr (.inl ())))) cQ ((List.replicate b.toNat (false:Bool)),0)).bind (Sum.elim (λ(_:Unit)=>some (.inr (.inr ()))) some)
def f153(g:dl)(d:List bE)(e:ct)(c:cq)(i:List cG)(h:Bool)(b:List bE)(f:List bE):Option (Unit⊕(List cG×cq×ct)):=(f154 (b.length:Int)).bind λk=>(f195 b g f d e c i h (b.length:Int)).bind (Sum.elim (λl=>some (.inl ())) (Sum.elim (λa=>some (.inr (a.1,(⟨a.2.1.cV,a.2.1.held,a.2.1.dz⟩:cq),(⟨a.2.2.places,a.2.2.cut⟩:ct)))) λj=>some (.inl ())))
def f78(d:dl)(c:List bE)(b:List bE):Option (ct×cq×List cG×Bool):=(cA (τ:=(ct×cq×List cG×Bool)) (λ(_:Unit)=>(f110 d c b).bind λi=>(f153 d b (⟨([]:List be),([]:List Bool)⟩:ct) (⟨([]:List be),([]:List Int),([]:List Int)⟩:cq) ([]:List cG) false c b).bind (Sum.elim (λj=>some (.inr ((⟨([]:List be),([]:List Bool)⟩:ct),(⟨([]:List be),([]:List Int),([]:List Int)⟩:cq),([]:List cG),false))) λa=>some (.inr ((⟨a.2.2.places,a.2.2.cut⟩:ct),(⟨a.2.1.cV,a.2.1.held,a.2.1.dz⟩:cq),a.1,true)))) cQ ()).bind λ((g,f,h,e):(ct×cq×List cG×Bool))=>some (g,f,h,e)
def f114(a:be):Option Int:=some a.aY
def f113(a:List be):Option ((List Int)):=cB ((0:Int)<=(a.length:Int))<|cB ((a.length:Int)<=(bQ:Int))<|(cA (τ:=(List Int)) (λ((c,b):(List Int×Int))=>bif decide (b<(a.length:Int)) then((ix a b).bind λd=>(f114 d).bind λf=>cB (c.length+1<=bQ)<|some (.inl ((c++([f]:List Int)),wr (b+1))))else(some (.inr c))) cQ (([]:List Int),0)).bind λ(e:(List Int))=>some e
def f79(a:dl)(d:df)(c:Bool):Option (List be×List Int×List Int×List cz×List cG):=((bif c then((f113 a.dM.cV).bind λe=>some (⟨a.dM.cV,e,a.dM.dz⟩:cq))else(some (⟨([]:List be),([]:List Int),([]:List Int)⟩:cq))):Option cq).bind λ(b:cq)=>(f112 a b).bind λf=>cB (a.ck.bP.length<cU)<|some (b.cV,b.held,b.dz,(a.ck.bP++[(⟨false,d,c,([]:List dw)⟩:cz)]),f)
def f116(b:dw)(g:List cK)(c:Int)(h:Int)(f:Int)(a:Int)(d:Int)(e:Int):Option Bool:=some (decide (b.aY=a))
def f115(b:List dw)(i:List cK)(g:Int)(k:Int)(c:Int)(f:Int)(e:Int)(j:Int):Option Int:=(cA (τ:=(Unit⊕Int)) (λ(a:Int)=>bif decide (a<(b.length:Int)) then((ix b a).bind λd=>(f116 d i g k c f e j).bind λh=>bif h then(some (.inr (.inr a)))else(some (.inl (wr (a+1)))))else(some (.inr (.inl ())))) cQ 0).bind (Sum.elim (λ(_:Unit)=>some (-1)) some)
def f118(b:dw)(a:dw):Option Int:=(f84 b.aY a.aY).bind λc=>some c
def f117(a:List dw):Option (List dw):=sR f118 a
def f80(j:dl)(u:ct)(p:List bE)(r:List bE)(I:df):Option (List dw×List bE×List bE×List cz×List bE):=(cA (τ:=(List cz×List bE×List bE)) (λ((h,f,g,l):(List cz×List bE×List bE×Int))=>bif decide (l<(r.length:Int)) then((((ix r l).bind λa=>(ix u.cut l).bind λH=>bif H then(cB (g.length+1<=bQ)<|some (h,f,(g++([a]:List bE))))else(cB (f.length+1<=bQ)<|bif decide (0<a.cp.cO) then((ix h a.cP).bind λd=>cB (a.cP.toNat<cU)<|(f115 d.dy a.cg a.cw a.cy a.dK a.cp.aY a.cp.cO a.cP).bind λs=>(ix d.dy s).bind λm=>some ((h.set a.cP.toNat (⟨d.lR,d.sign,d.tie,(d.dy.set s.toNat (⟨m.aY,m.cO,m.right,m.ka,(wr ((j.ck.bP.length:Int)-a.cP))⟩:dw))⟩:cz)),(f++([a]:List bE)),g))else(some (h,(f++([a]:List bE)),g)))):Option (List cz×List bE×List bE)).bind λ((G,A,v):(List cz×List bE×List bE))=>some (.inl (G,A,v,wr (l+1))))else(some (.inr (h,f,g)))) cQ (j.ck.bP,([]:List bE),([]:List bE),0)).bind λ((B,z,C):(List cz×List bE×List bE))=>(cA (τ:=(List dw×List bE×List bE×List bE)) (λ((k,n,i,o,c):(List bE×List dw×List bE×List bE×Int))=>bif decide (c<(p.length:Int)) then((((ix o 0).bind λb=>cB (i.length<cU)<|cB (0<=c/\c<(p.length:Int))<|cB (c.toNat=i.length/\c.toNat<=cU)<|(ix u.places c).bind λe=>bif decide (0<e.aY) then(cB (k.length+1<=bQ)<|cB (n.length+1<=bQ)<|some ((k++([(⟨b.cg,b.cw,b.cy,b.dK,e,(j.ck.bP.length:Int)⟩:bE)]:List bE)),(n++([(⟨e.aY,e.cO,0,0,0⟩:dw)]:List dw)),(i++[(⟨b.cg,b.cw,b.cy,b.dK,e,(j.ck.bP.length:Int)⟩:bE)])))else(some (k,n,(i++[(⟨b.cg,b.cw,b.cy,b.dK,e,b.cP⟩:bE)])))):Option (List bE×List dw×List bE)).bind λ((w,F,y):(List bE×List dw×List bE))=>some (.inl (w,F,y,(o.drop 1),wr (c+1))))else(some (.inr (n,i,o,k)))) cQ (z,([]:List dw),([]:List bE),p,0)).bind λ((t,x,E,D):(List dw×List bE×List bE×List bE))=>(f117 t).bind λq=>cB (q.length=t.length)<|cB (E=[])<|some (q,C,x,B,D)
def f41(a:dl)(G:List (List cj))(t:Int)(b:List df):Option (List bE×List bE×List be×List Int×List Int×List cz×List bE×List cG):=(f76 G t).bind λg=>(f77 a t).bind λi=>(f78 a g i).bind λd=>bif (!d.2.2.2)then((cA (τ:=(List be×List Int×List Int×List cz×List cG)) (λ((s,o,v,u,q,k):(List be×List Int×List Int×List cz×List cG×Int))=>bif decide (k<(b.length:Int)) then((ix b k).bind λE=>(f79 (⟨(⟨s,o,v⟩:cq),a.kQ,a.h,a.shift,(⟨a.ck.instrument,u⟩:dW),a.dx,q⟩:dl) E (decide (0<(i.length:Int)))).bind λe=>some (.inl (e.1,e.2.1,e.2.2.1,e.2.2.2.1,e.2.2.2.2,wr (k+1))))else(some (.inr (s,o,v,u,q)))) cQ (a.dM.cV,a.dM.held,a.dM.dz,a.ck.bP,a.fI,0)).bind λ((D,x,C,F,I):(List be×List Int×List Int×List cz×List cG))=>cB (g.length<=cU)<|some (g,([]:List bE),D,x,C,F,i,I))else((ix b 0).bind λl=>(f80 a (⟨d.1.places,d.1.cut⟩:ct) g i l).bind λc=>cB (c.2.2.1.length=g.length)<|cB (c.2.2.2.1.length<cU)<|cB (1<=b.length)<|(cA (τ:=(List be×List Int×List Int×List cz×List cG)) (λ((p,n,m,r,w,j):(List be×List Int×List Int×List cz×List cG×Int))=>bif (decide (j<(((b.take b.length).drop 1).length:Int)))then((ix ((b.take b.length).drop 1) j).bind λJ=>(f79 (⟨(⟨p,n,m⟩:cq),a.kQ,a.h,a.shift,(⟨a.ck.instrument,r⟩:dW),c.2.2.2.2,w⟩:dl) J true).bind λf=>some (.inl (f.1,f.2.1,f.2.2.1,f.2.2.2.1,f.2.2.2.2,wr (j+1))))else(some (.inr (p,n,m,r,w)))) cQ (d.2.1.cV,d.2.1.held,d.2.1.dz,(c.2.2.2.1++[(⟨false,l,false,c.1⟩:cz)]),d.2.2.1,0)).bind λ((H,z,B,A,y):(List be×List Int×List Int×List cz×List cG))=>some (c.2.2.1,c.2.1,H,z,B,A,c.2.2.2.2,y))
def f42(n:dX)(C:List (List cj))(r:List bE)(p:List bE)(g:Int):Option (List (List be)×List dG):=(cA (τ:=(List (List be)×List dG)) (λ((q,o,l):(List (List be)×List dG×Int))=>bif decide (l<(r.length:Int)) then((ix r l).bind λc=>(cA (τ:=(List (List be)×List dG)) (λ((d,b,e):(List (List be)×List dG×Int))=>bif decide (e<(c.cg.length:Int)) then((((ix c.cg e).bind λa=>(ix d a.part).bind λf=>cB (a.part.toNat<cU)<|(ix f a.gD).bind λF=>bif decide (c.cp.aY=0) then(cB (b.length+1<=bQ)<|some ((d.set a.part.toNat (f.set a.gD.toNat c.cp)),(b++([(⟨a.part,a.gD,1,g⟩:dG)]:List dG))))else(bif decide (0<e) then(cB (b.length+1<=bQ)<|some ((d.set a.part.toNat (f.set a.gD.toNat c.cp)),(b++([(⟨a.part,a.gD,2,g⟩:dG)]:List dG))))else(some ((d.set a.part.toNat (f.set a.gD.toNat c.cp)),b)))):Option (List (List be)×List dG)).bind λ((z,v):(List (List be)×List dG))=>some (.inl (z,v,wr (e+1))))else(some (.inr (d,b)))) cQ (q,o,0)).bind λ((E,w):(List (List be)×List dG))=>some (.inl (E,w,wr (l+1))))else(some (.inr (q,o)))) cQ (n.gO,n.eA,0)).bind λ((x,u):(List (List be)×List dG))=>(cA (τ:=(List dG)) (λ((m,k):(List dG×Int))=>bif decide (k<(p.length:Int)) then((ix p k).bind λs=>(cA (τ:=(List dG)) (λ((h,j):(List dG×Int))=>bif decide (j<(s.cg.length:Int)) then((((ix s.cg j).bind λi=>(ix C i.part).bind λy=>(ix y i.gD).bind λt=>bif decide (g<t.dK) then(cB (h.length+1<=bQ)<|some (h++([(⟨i.part,i.gD,3,g⟩:dG)]:List dG)))else(some h)):Option (List dG)).bind λ(D:(List dG))=>some (.inl (D,wr (j+1))))else(some (.inr h))) cQ (m,0)).bind λ(A:(List dG))=>some (.inl (A,wr (k+1))))else(some (.inr m))) cQ (u,0)).bind λ(B:(List dG))=>some (x,B)
def f44(b:dG)(a:dG):Option Int:=(f84 b.part a.part).bind λf=>(f84 b.gD a.gD).bind λd=>(f84 b.kind a.kind).bind λe=>(f83 ([f,d,e]:List Int)).bind λc=>some c
def f43(a:List dG):Option (List dG):=sR f44 a
def f12(b:List (List cj))(m:bY)(E:eM)(e:Int):Option (dX×Int):=(f32 b m).bind λy=>bif decide (y≠0) then(some ((⟨(⟨(⟨([]:List cT),([]:List Int)⟩:bY),([]:List cz)⟩:dW),0,([]:List (List be)),([]:List dG)⟩:dX),y))else((f33 E).bind λB=>bif decide (B≠0) then(some ((⟨(⟨(⟨([]:List cT),([]:List Int)⟩:bY),([]:List cz)⟩:dW),0,([]:List (List be)),([]:List dG)⟩:dX),B))else((f34 e (-24) 24).bind λI=>bif (!I)then(some ((⟨(⟨(⟨([]:List cT),([]:List Int)⟩:bY),([]:List cz)⟩:dW),0,([]:List (List be)),([]:List dG)⟩:dX),1))else((f35 b).bind λc=>(cA (τ:=((List (List df))⊕(dX×Int))) (λ((i,f):(List (List df)×Int))=>bif (decide (f<(wr ((c.length:Int)-1))))then((ix c (wr (f+1))).bind λG=>(ix c f).bind λH=>(f36 (wr (G-H))).bind λA=>bif decide (A.2≠0) then(some (.inr (.inr ((⟨(⟨(⟨([]:List cT),([]:List Int)⟩:bY),([]:List cz)⟩:dW),0,([]:List (List be)),([]:List dG)⟩:dX),25))))else(cB (i.length+1<=bQ)<|some (.inl ((i++([A.1]:List (List df))),wr (f+1)))))else(some (.inr (.inl i)))) cQ (([]:List (List df)),0)).bind (Sum.elim (λ(j:(List (List df)))=>(f37 j).bind λK=>bif decide (400<(K.length:Int)) then(some ((⟨(⟨(⟨([]:List cT),([]:List Int)⟩:bY),([]:List cz)⟩:dW),0,([]:List (List be)),([]:List dG)⟩:dX),2))else((f38 m.cS).bind λg=>(f22 m.cu).bind λh=>(f39 b).bind λJ=>(cA (τ:=(List be×List Int×List Int×List cz×List bE×List cG×List cT×List Int×List cz×List (List be)×List dG)) (λ((C,D,t,w,s,o,l,k,n,x,p,d):(List be×List Int×List Int×List cz×List bE×List cG×List cT×List Int×List cz×List (List be)×List dG×Int))=>bif decide (d<(j.length:Int)) then((ix j d).bind λL=>(ix c d).bind λr=>(f41 (⟨(⟨C,D,t⟩:cq),(⟨g,h⟩:bY),E,e,(⟨(⟨g,h⟩:bY),w⟩:dW),s,o⟩:dl) b r L).bind λa=>(f42 (⟨(⟨(⟨l,k⟩:bY),n⟩:dW),e,x,p⟩:dX) b a.1 a.2.1 r).bind λu=>some (.inl (a.2.2.1,a.2.2.2.1,a.2.2.2.2.1,a.2.2.2.2.2.1,a.2.2.2.2.2.2.1,a.2.2.2.2.2.2.2,l,k,n,u.1,u.2,wr (d+1))))else(some (.inr (C,D,t,w,s,o,l,k,n,x,p)))) cQ (([]:List be),([]:List Int),([]:List Int),([]:List cz),([]:List bE),([]:List cG),([]:List cT),([]:List Int),([]:List cz),J,([]:List dG),0)).bind λ((N,T,R,v,O,M,Q,P,S,q,z):(List be×List Int×List Int×List cz×List bE×List cG×List cT×List Int×List cz×List (List be)×List dG))=>(f43 z).bind λF=>cB (v.length<=cU)<|cB (q.length<=cU)<|cB (F.length=z.length)<|some ((⟨(⟨(⟨g,h⟩:bY),v⟩:dW),e,q,F⟩:dX),0))) some))))
def f4(a:jW):Option (dX×Bool):=((bif decide (400<(a.text.size:Int)) then(some true)else((f10 a.cR).bind λf=>some (!f))):Option Bool).bind λ(g:Bool)=>bif g then(some ((⟨(⟨(⟨([]:List cT),([]:List Int)⟩:bY),([]:List cz)⟩:dW),0,([]:List (List be)),([]:List dG)⟩:dX),false))else((f11 a.text).bind λb=>((bif decide (b.2≠0) then(some true)else(some (decide (8<(b.1.cS.length:Int))))):Option Bool).bind λ(e:Bool)=>bif e then(some ((⟨(⟨(⟨([]:List cT),([]:List Int)⟩:bY),([]:List cz)⟩:dW),0,([]:List (List be)),([]:List dG)⟩:dX),false))else((f13 a.cR).bind λd=>(f12 d b.1 a.hand a.shift).bind λc=>some (c.1,(decide (c.2=0)))))
def f45:Option ((List ByteArray)):=some ([(ByteArray.mk #[108,117,116,101,54]),(ByteArray.mk #[108,117,116,101,55]),(ByteArray.mk #[108,117,116,101,49,48]),(ByteArray.mk #[98,97,114,111,113,117,101,49,51]),(ByteArray.mk #[116,104,101,111,114,98,111,49,52]),(ByteArray.mk #[118,105,104,117,101,108,97,54]),(ByteArray.mk #[103,117,105,116,97,114,52]),(ByteArray.mk #[103,117,105,116,97,114,53]),(ByteArray.mk #[99,105,116,116,101,114,110,52])]:List ByteArray)
def f47:Option ((List ByteArray)):=some ([(ByteArray.mk #[71,52,47,56,32,68,52,47,56,32,65,51,47,56,32,70,51,47,56,43,32,67,51,47,56,43,32,71,50,47,56,43,32,58,32,49,32,50,32,51,32,52,32,53,32,54,32,55,32,56]),(ByteArray.mk #[71,52,47,56,32,68,52,47,56,32,65,51,47,56,32,70,51,47,56,43,32,67,51,47,56,43,32,71,50,47,56,43,32,68,50,47,56,43,32,58,32,49,32,50,32,51,32,52,32,53,32,54,32,55,32,56]),(ByteArray.mk #[71,52,47,56,32,68,52,47,56,32,65,51,47,56,32,70,51,47,56,32,67,51,47,56,43,32,71,50,47,56,43,32,70,50,47,56,43,32,69,98,50,47,56,43,32,68,50,47,56,43,32,67,50,47,56,43,32,58,32,49,32,50,32,51,32,52,32,53,32,54,32,55,32,56]),(ByteArray.mk #[70,52,47,57,32,68,52,47,57,32,65,51,47,57,32,70,51,47,57,32,68,51,47,57,32,65,50,47,57,43,32,71,50,47,57,43,32,70,50,47,57,43,32,69,50,47,48,43,32,68,50,47,48,43,32,67,50,47,48,43,32,66,49,47,48,43,32,65,49,47,48,43,32,58,32,49,32,50,32,51,32,52,32,53,32,54,32,55,32,56,32,57]),(ByteArray.mk #[65,51,47,56,32,69,51,47,56,32,66,51,47,56,32,71,51,47,56,32,68,51,47,56,32,65,50,47,56,32,71,50,47,48,32,70,50,47,48,32,69,50,47,48,32,68,50,47,48,32,67,50,47,48,32,66,49,47,48,32,65,49,47,48,32,71,49,47,48,32,58,32,49,32,50,32,51,32,52,32,53,32,54,32,55,32,56]),(ByteArray.mk #[71,52,47,49,48,32,68,52,47,49,48,32,65,51,47,49,48,32,70,51,47,49,48,32,67,51,47,49,48,32,71,50,47,49,48,32,58,32,49,32,50,32,51,32,52,32,53,32,54,32,55,32,56,32,57,32,49,48]),(ByteArray.mk #[65,52,47,56,32,69,52,47,56,32,67,52,47,56,32,71,51,47,56,43,32,58,32,49,32,50,32,51,32,52,32,53,32,54,32,55,32,56]),(ByteArray.mk #[69,52,47,56,32,66,51,47,56,32,71,51,47,56,32,68,52,47,56,32,65,51,47,56,32,58,32,49,32,50,32,51,32,52,32,53,32,54,32,55,32,56]),(ByteArray.mk #[69,52,47,57,32,68,52,47,57,32,71,51,47,57,32,66,51,47,57,32,58,32,50,32,51,32,52,32,53,32,55,32,57,32,49,48,32,49,49,32,49,50])]:List ByteArray)
def f85(b:ByteArray):Option ((List ByteArray)):=(cA (τ:=(List ByteArray)) (λ((c,d,a):(List ByteArray×Int×Int))=>bif decide (a<=(b.size:Int)) then(((((bif decide (a=(b.size:Int)) then(some true)else(cB ((0:Int)<=a/\a<(b.size:Int))<|some (decide ((tU b a)=32)))):Option Bool).bind λ(e:Bool)=>bif e then(cB (0<=d)<|cB (0<=a)<|cB (d.toNat<=a.toNat/\a.toNat<=b.size)<|cB (c.length+1<=bQ)<|some ((c++([(b.extract d.toNat a.toNat)]:List ByteArray)),wr (a+1)))else(some (c,d))):Option (List ByteArray×Int)).bind λ((g,f):(List ByteArray×Int))=>some (.inl (g,f,wr (a+1))))else(some (.inr c))) cQ (([]:List ByteArray),0,0)).bind λ(h:(List ByteArray))=>some h
def f172(b:Int):Option Int:=(cA (τ:=(Unit⊕Int)) (λ(a:Int)=>bif decide (a<7) then(cB ((0:Int)<=a/\a<((ByteArray.mk #[67,68,69,70,71,65,66]).size:Int))<|bif (decide ((tU (ByteArray.mk #[67,68,69,70,71,65,66]) a)=b))then(some (.inr (.inr a)))else(some (.inl (wr (a+1)))))else(some (.inr (.inl ())))) cQ 0).bind (Sum.elim (λ(_:Unit)=>some (-1)) some)
def f174(a:Int):Option Int:=bif decide (a<3) then(some (wr (2*a)))else(some (wr ((wr (2*a))-1)))
def f173(a:eg):Option Bool:=((bif decide (a.letter<0) then(some true)else(bif decide (6<a.letter) then(some true)else(bif decide (a.alter< -1) then(some true)else(bif decide (1<a.alter) then(some true)else(bif decide (a.iX< -1) then(some true)else(some (decide (9<a.iX)))))))):Option Bool).bind λ(c:Bool)=>bif c then(some false)else((f174 a.letter).bind λb=>((bif (decide (0<=(wr ((wr ((wr (12*(wr (a.iX+1))))+b))+a.alter))))then(some (decide ((wr ((wr ((wr (12*(wr (a.iX+1))))+b))+a.alter))<=127)))else(some false)):Option Bool).bind λ(d:Bool)=>some d)
def f130(a:ByteArray):Option (eg×Int):=((bif decide ((a.size:Int)<2) then(some true)else(cB ((0:Int)<=0/\0<(a.size:Int))<|(f172 (tU a 0)).bind λi=>some (decide (i<0)))):Option Bool).bind λ(f:Bool)=>bif f then(some ((⟨0,0,0⟩:eg),4))else(cB ((0:Int)<=0/\0<(a.size:Int))<|(f172 (tU a 0)).bind λd=>cB (1<=a.size/\a.size<=a.size)<|((cB ((0:Int)<=0/\0<((a.extract 1 a.size).size:Int))<|bif (decide ((tU (a.extract 1 a.size) 0)=35))then(cB (1<=(a.extract 1 a.size).size/\(a.extract 1 a.size).size<=(a.extract 1 a.size).size)<|some (1,((a.extract 1 a.size).extract 1 (a.extract 1 a.size).size)))else(bif (decide ((tU (a.extract 1 a.size) 0)=98))then(cB (1<=(a.extract 1 a.size).size/\(a.extract 1 a.size).size<=(a.extract 1 a.size).size)<|some (-1,((a.extract 1 a.size).extract 1 (a.extract 1 a.size).size)))else(some (0,(a.extract 1 a.size))))):Option (Int×ByteArray)).bind λ((e,b):(Int×ByteArray))=>((bif (b.toList==(ByteArray.mk #[45,49]).toList)then(some (.inl (-1)))else(((bif decide ((b.size:Int)=1) then(cB ((0:Int)<=0/\0<(b.size:Int))<|bif decide (48<=(tU b 0)) then(some (decide ((tU b 0)<=57)))else(some false))else(some false)):Option Bool).bind λ(h:Bool)=>bif h then(cB ((0:Int)<=0/\0<(b.size:Int))<|some (.inl (wr ((IntKind.wrap .u8 ((tU b 0)-48))))))else(some (.inr ((⟨0,0,0⟩:eg),4))))):Option (Int⊕(eg×Int))).bind (Sum.elim (λ(c:Int)=>(f173 (⟨d,e,c⟩:eg)).bind λg=>bif (!g)then(some ((⟨0,0,0⟩:eg),10))else(some ((⟨d,e,c⟩:eg),0))) some))
def f87(a:ByteArray):Option (Int×Bool):=((bif decide ((a.size:Int)<1) then(some true)else(bif decide (3<(a.size:Int)) then(some true)else(cB ((0:Int)<=0/\0<(a.size:Int))<|bif decide ((tU a 0)=48) then(some (decide (1<(a.size:Int))))else(some false)))):Option Bool).bind λ(d:Bool)=>bif d then(some (0,false))else((cA (τ:=(Int⊕(Int×Bool))) (λ((c,b):(Int×Int))=>bif decide (b<(a.size:Int)) then(((cB ((0:Int)<=b/\b<(a.size:Int))<|bif decide ((tU a b)<48) then(some true)else(some (decide (57<(tU a b))))):Option Bool).bind λ(f:Bool)=>bif f then(some (.inr (.inr (0,false))))else(cB ((0:Int)<=b/\b<(a.size:Int))<|some (.inl ((wr ((wr (10*c))+(wr ((IntKind.wrap .u8 ((tU a b)-48)))))),wr (b+1)))))else(some (.inr (.inl c)))) cQ (0,0)).bind (Sum.elim (λ(e:Int)=>some (e,true)) some))
def f131(a:eg):Option (Int×Int):=(f173 a).bind λc=>bif (!c)then(some (0,10))else((f174 a.letter).bind λb=>some ((wr ((wr ((wr (12*(wr (a.iX+1))))+b))+a.alter)),0))
def f86(a:ByteArray):Option (cT×Int):=((((bif decide (0<(a.size:Int)) then(cB ((0:Int)<=(wr ((a.size:Int)-1))/\(wr ((a.size:Int)-1))<(a.size:Int))<|some (decide ((tU a (wr ((a.size:Int)-1)))=43)))else(some false)):Option Bool).bind λ(i:Bool)=>bif i then(cB (0<=(wr ((a.size:Int)-1)))<|cB (0<=(wr ((a.size:Int)-1)).toNat/\(wr ((a.size:Int)-1)).toNat<=a.size)<|some ((a.extract 0 (wr ((a.size:Int)-1)).toNat),true))else(some (a,false))):Option (ByteArray×Bool)).bind λ((b,j):(ByteArray×Bool))=>(cA (τ:=Int) (λ(d:Int)=>((bif decide (d<(b.size:Int)) then(cB ((0:Int)<=d/\d<(b.size:Int))<|some (decide ((tU b d)≠47)))else(some false)):Option Bool).bind λ(k:Bool)=>bif k then(some (.inl (wr (d+1))))else(some (.inr d))) cQ 0).bind λ(c:Int)=>bif decide (c=(b.size:Int)) then(some ((⟨0,0,false⟩:cT),4))else(cB (0<=c)<|cB (0<=c.toNat/\c.toNat<=b.size)<|(f130 (b.extract 0 c.toNat)).bind λe=>cB (0<=(wr (c+1)))<|cB ((wr (c+1)).toNat<=b.size/\b.size<=b.size)<|(f87 (b.extract (wr (c+1)).toNat b.size)).bind λf=>((bif decide (e.2=4) then(some true)else(some (!f.2))):Option Bool).bind λ(g:Bool)=>bif g then(some ((⟨0,0,false⟩:cT),4))else(bif decide (e.2≠0) then(some ((⟨0,0,false⟩:cT),e.2))else((f131 e.1).bind λh=>some ((⟨h.1,f.1,j⟩:cT),0))))
def f132(a:bY):Option Int:=((bif decide (14<(a.cS.length:Int)) then(some true)else(some (decide (18<(a.cu.length:Int))))):Option Bool).bind λ(j:Bool)=>bif j then(some 2)else(bif decide ((a.cS.length:Int)=0) then(some 11)else((cA (τ:=(Unit⊕Int)) (λ((m,c):(Int×Int))=>bif decide (c<(a.cu.length:Int)) then((((ix a.cu c).bind λe=>bif decide (e<=m) then(some true)else(some (decide (127<e)))):Option Bool).bind λ(l:Bool)=>bif l then(some (.inr (.inr 11)))else((ix a.cu c).bind λn=>some (.inl (n,wr (c+1)))))else(some (.inr (.inl ())))) cQ (0,0)).bind (Sum.elim (λ(_:Unit)=>(cA (τ:=(Unit⊕Int)) (λ(d:Int)=>bif decide (d<(a.cS.length:Int)) then((ix a.cS d).bind λb=>((bif decide (b.eZ<0) then(some true)else(some (decide ((a.cu.length:Int)<b.eZ)))):Option Bool).bind λ(g:Bool)=>bif g then(some (.inr (.inr 13)))else(((bif decide (b.cw<0) then(some true)else(some (decide (127<b.cw)))):Option Bool).bind λ(k:Bool)=>bif k then(some (.inr (.inr 10)))else(((bif decide (0<b.eZ) then((ix a.cu (wr (b.eZ-1))).bind λh=>some (wr (b.cw+h)))else(some b.cw)):Option Int).bind λ(f:Int)=>((bif b.iX then(some (wr (f+12)))else(some f)):Option Int).bind λ(i:Int)=>bif decide (127<i) then(some (.inr (.inr 10)))else(some (.inl (wr (d+1)))))))else(some (.inr (.inl ())))) cQ 0).bind (Sum.elim (λ(_:Unit)=>some 0) some)) some)))
def f88(a:bY):Option (bY×Int):=(f132 a).bind λb=>bif decide (b≠0) then(some ((⟨([]:List cT),([]:List Int)⟩:bY),b))else(some (a,0))
def f46(p:ByteArray):Option (bY×Int):=(f85 p).bind λa=>(cA (τ:=Int) (λ(b:Int)=>((bif decide (b<(a.length:Int)) then((ix a b).bind λq=>some (!(q.toList==(ByteArray.mk #[58]).toList)))else(some false)):Option Bool).bind λ(n:Bool)=>bif n then(some (.inl (wr (b+1))))else(some (.inr b))) cQ 0).bind λ(e:Int)=>bif decide (e=(a.length:Int)) then(some ((⟨([]:List cT),([]:List Int)⟩:bY),4))else((cA (τ:=((List cT)⊕(bY×Int))) (λ((c,h):(List cT×Int))=>bif decide (h<e) then((ix a h).bind λm=>(f86 m).bind λg=>bif decide (g.2≠0) then(some (.inr (.inr ((⟨([]:List cT),([]:List Int)⟩:bY),g.2))))else(cB (c.length+1<=bQ)<|some (.inl ((c++([g.1]:List cT)),wr (h+1)))))else(some (.inr (.inl c)))) cQ (([]:List cT),0)).bind (Sum.elim (λ(o:(List cT))=>(cA (τ:=((List Int)⊕(bY×Int))) (λ((d,f):(List Int×Int))=>bif decide (f<(a.length:Int)) then((ix a f).bind λk=>(f87 k).bind λj=>bif (!j.2)then(some (.inr (.inr ((⟨([]:List cT),([]:List Int)⟩:bY),4))))else(cB (d.length+1<=bQ)<|some (.inl ((d++([j.1]:List Int)),wr (f+1)))))else(some (.inr (.inl d)))) cQ (([]:List Int),wr (e+1))).bind (Sum.elim (λ(l:(List Int))=>(f88 (⟨o,l⟩:bY)).bind λi=>some (i.1,i.2)) some)) some))
def f14(f:ByteArray):Option (bY×Int):=(f45).bind λc=>(cA (τ:=(Unit⊕(bY×Int))) (λ(a:Int)=>bif decide (a<(c.length:Int)) then((ix c a).bind λg=>bif (g.toList==f.toList)then((f47).bind λe=>(ix e a).bind λd=>(f46 d).bind λb=>some (.inr (.inr (b.1,b.2))))else(some (.inl (wr (a+1)))))else(some (.inr (.inl ())))) cQ 0).bind (Sum.elim (λ(_:Unit)=>some ((⟨([]:List cT),([]:List Int)⟩:bY),3)) some)
def f15:Option eM:=some (⟨([0,1,2,3]:List Int),([0,2,3,4]:List Int),([true,false,false,false]:List Bool),12,7,2,3,4,2,1⟩:eM)
def f5:Option Bool:=(f14 (ByteArray.mk #[108,117,116,101,54])).bind λd=>(f15).bind λc=>(f12 ([([(⟨67,0,96⟩:cj)]:List cj)]:List (List cj)) d.1 c 0).bind λa=>((bif decide (a.2=0) then(bif decide ((a.1.ck.bP.length:Int)=1) then((ix a.1.ck.bP 0).bind λb=>bif decide ((b.dy.length:Int)=1) then(some (decide ((a.1.eA.length:Int)=0)))else(some false))else(some false))else(some false)):Option Bool).bind λ(e:Bool)=>some e
def f55(a:df):Option Bool:=((bif (oZ a (⟨0,false,false⟩:df))then(some true)else((f58 a).bind λc=>some (decide (0<c)))):Option Bool).bind λ(b:Bool)=>some b
def f133(a:cz):Option Bool:=((bif decide ((a.dy.length:Int)=0) then(some (!a.tie))else(some false)):Option Bool).bind λ(b:Bool)=>some b
def f176(a:dw)(b:Int):Option Bool:=some (decide (a.aY=b))
def f115_1(b:List dw)(d:Int):Option Int:=(cA (τ:=(Unit⊕Int)) (λ(a:Int)=>bif decide (a<(b.length:Int)) then((ix b a).bind λc=>(f176 c d).bind λe=>bif e then(some (.inr (.inr a)))else(some (.inl (wr (a+1)))))else(some (.inr (.inl ())))) cQ 0).bind (Sum.elim (λ(_:Unit)=>some (-1)) some)
def f175(a:List dw)(b:Int):Option Bool:=(f115_1 a b).bind λc=>some (decide (0<=c))
def f134(b:cz)(a:Int):Option Bool:=(f175 b.dy a).bind λc=>some c
def f90(b:dW)(a:Int)(f:Int):Option Int:=((bif decide (a<0) then(some true)else(some (decide ((b.bP.length:Int)<=a)))):Option Bool).bind λ(j:Bool)=>bif j then(some 0)else(cB (0<=(wr (a+1)))<|cB ((wr (a+1)).toNat<=b.bP.length)<|(cA (τ:=Int) (λ((c,d):(Int×Int))=>bif (decide (d<(((b.bP.take b.bP.length).drop (wr (a+1)).toNat).length:Int)))then((ix ((b.bP.take b.bP.length).drop (wr (a+1)).toNat) d).bind λe=>((bif decide (c=15) then(some true)else((f133 e).bind λi=>bif i then(some true)else((f134 e f).bind λg=>some g))):Option Bool).bind λ(k:Bool)=>bif k then(some (.inr c))else(some (.inl ((wr (c+1)),wr (d+1)))))else(some (.inr c))) cQ (0,0)).bind λ(h:Int)=>some h)
def f56(b:dW)(e:Int)(a:dw)(j:Int):Option Int:=((bif decide (a.aY<1) then(some true)else(some (decide ((b.instrument.cS.length:Int)<a.aY)))):Option Bool).bind λ(d:Bool)=>bif d then(some 12)else(((bif decide (a.cO<0) then(some true)else((ix b.instrument.cS (wr (a.aY-1))).bind λc=>some (decide (c.eZ<a.cO)))):Option Bool).bind λ(f:Bool)=>bif f then(some 13)else(bif decide (a.aY<=j) then(some 22)else(((bif decide (a.right<0) then(some true)else(bif decide (3<a.right) then(some true)else(bif decide (a.ka<0) then(some true)else(some (decide (4<a.ka)))))):Option Bool).bind λ(g:Bool)=>bif g then(some 23)else(((bif decide (a.hold<0) then(some true)else((f90 b e a.aY).bind λh=>bif decide (h<a.hold) then(some true)else(bif decide (0<a.hold) then(some (decide (a.cO=0)))else(some false)))):Option Bool).bind λ(i:Bool)=>bif i then(some 24)else(some 0)))))
def f25(c:dW):Option Int:=(f31 c.instrument).bind λg=>bif decide (g≠0) then(some g)else(bif decide (400<(c.bP.length:Int)) then(some 2)else((cA (τ:=(Unit⊕Int)) (λ(b:Int)=>bif decide (b<(c.bP.length:Int)) then((ix c.bP b).bind λa=>(((f55 a.sign).bind λi=>bif (!i)then(some true)else(bif decide (b=0) then(some (oZ a.sign (⟨0,false,false⟩:df)))else(some false))):Option Bool).bind λ(j:Bool)=>bif j then(some (.inr (.inr 20)))else(((bif a.tie then(bif decide (b=0) then(some true)else(some (decide (0<(a.dy.length:Int)))))else(some false)):Option Bool).bind λ(k:Bool)=>bif k then(some (.inr (.inr 21)))else((cA (τ:=(Unit⊕(Int⊕(Unit⊕Int)))) (λ((h,d):(Int×Int))=>bif decide (d<(a.dy.length:Int)) then((ix a.dy d).bind λe=>(f56 c b e h).bind λf=>bif decide (f≠0) then(some (.inr (.inr (.inr (.inr f)))))else(some (.inl (e.aY,wr (d+1)))))else(some (.inr (.inl ())))) cQ (0,0)).bind (Sum.elim (λ(_:Unit)=>some (.inl (wr (b+1)))) some))))else(some (.inr (.inl ())))) cQ 0).bind (Sum.elim (λ(_:Unit)=>some 0) some)))
def f26(a:dW):Option Unit:=some ()
def f297(a:List Int)(e:dW)(b:Int)(c:Int):Option (List Int):=(ix a b).bind λd=>cB (a.length+1<=bQ)<|some (a++([(wr (d+c))]:List Int))
def f57(h:List Int)(b:dW):Option (List Int):=(cA (τ:=((List Int)⊕(List Int))) (λ((c,i,a):(List Int×Int×Int))=>bif decide (a<(b.bP.length:Int)) then((ix b.bP a).bind λf=>(((f58 f.sign).bind λe=>bif decide (0<e) then(some e)else(some i)):Option Int).bind λ(d:Int)=>(f297 c b a d).bind λj=>some (.inl (j,d,wr (a+1))))else(some (.inr (.inl c)))) cQ (h,0,0)).bind (Sum.elim (λ(g:(List Int))=>some g) some)
def f9(a:dW):Option (((List Int))×Int):=(f25 a).bind λb=>bif decide (b≠0) then(some (([]:List Int),b))else((f26 a).bind λd=>(f57 ([0]:List Int) a).bind λc=>some (c,0))
def f16(a:dW):Option (gn×Int):=(f9 a).bind λb=>some ((⟨a,b.1⟩:gn),b.2)
def f48(d:Int)(f:Int)(c:List Int)(e:List de):Option (List de×List Int):=cB (d<15)<|(ix c d).bind λb=>bif decide (0<b) then((ix e (wr (b-1))).bind λa=>some ((e.set (wr (b-1)).toNat (⟨a.cP,a.aY,a.cw,a.cy,f⟩:de)),(c.set d.toNat 0)))else(some (e,c))
def f49(b:bY)(a:be):Option (Int×Int):=(f31 b).bind λd=>bif decide (d≠0) then(some (0,d))else(((bif decide (a.aY<1) then(some true)else(some (decide ((b.cS.length:Int)<a.aY)))):Option Bool).bind λ(f:Bool)=>bif f then(some (0,12))else((ix b.cS (wr (a.aY-1))).bind λc=>((bif decide (a.cO<0) then(some true)else(some (decide (c.eZ<a.cO)))):Option Bool).bind λ(e:Bool)=>bif e then(some (0,13))else((f89 b c a.cO).bind λg=>some (g,0))))
def f50(a:gn):Option Int:=(ix a.v8 (wr ((a.v8.length:Int)-1))).bind λb=>some b
def f51(b:gn)(d:Int)(c:Int):Option Int:=(cA (τ:=Int) (λ(a:Int)=>((bif (decide ((wr (a+1))<(b.p.bP.length:Int)))then((ix b.p.bP (wr (a+1))).bind λe=>some e.tie)else(some false)):Option Bool).bind λ(f:Bool)=>bif f then(some (.inl (wr (a+1))))else(some (.inr a))) cQ (wr (d+c))).bind λ(g:Int)=>some g
def f17(b:gn):Option (((List de))×((List iC))):=(cA (τ:=(List de×List iC)) (λ((j,o,n,c):(List de×List iC×List Int×Int))=>bif decide (c<(b.p.bP.length:Int)) then((ix b.p.bP c).bind λf=>(ix b.v8 c).bind λe=>((((bif decide ((f.dy.length:Int)=0) then(some (!f.tie))else(some false)):Option Bool).bind λ(x:Bool)=>bif x then((cA (τ:=(List de×List Int)) (λ((k,s,i):(List de×List Int×Int))=>bif decide (i<15) then((f48 i e s k).bind λm=>some (.inl (m.1,m.2,wr (i+1))))else(some (.inr (k,s)))) cQ (j,n,0)).bind λ((y,E):(List de×List Int))=>some (y,E))else(some (j,n))):Option (List de×List Int)).bind λ((z,H):(List de×List Int))=>(cA (τ:=(List de×List iC×List Int)) (λ((q,h,l,g):(List de×List iC×List Int×Int))=>bif decide (g<(f.dy.length:Int)) then((ix f.dy g).bind λa=>(f48 a.aY e l q).bind λd=>(f49 b.p.instrument (⟨a.aY,a.cO⟩:be)).bind λA=>(f50 b).bind λC=>((bif decide (0<a.cO) then((f51 b c a.hold).bind λD=>(ix b.v8 (wr (D+1))).bind λG=>some (d.2,G))else(cB (a.aY<15)<|(ix d.2 a.aY).bind λI=>some ((d.2.set a.aY.toNat (wr ((d.1.length:Int)+1))),C))):Option (List Int×Int)).bind λ((u,r):(List Int×Int))=>cB (d.1.length+1<=bQ)<|cB (h.length+1<=bQ)<|some (.inl ((d.1++([(⟨c,a.aY,A.1,e,r⟩:de)]:List de)),(h++([(⟨c,a.aY,a.cO,e,r⟩:iC)]:List iC)),u,wr (g+1))))else(some (.inr (q,h,l)))) cQ (z,o,H,0)).bind λ((B,w,v):(List de×List iC×List Int))=>some (.inl (B,w,v,wr (c+1))))else(some (.inr (j,o)))) cQ (([]:List de),([]:List iC),([0,0,0,0,0,0,0,0,0,0,0,0,0,0,0]:List Int),0)).bind λ((F,t):(List de×List iC))=>some (F,t)
def f6(b:dW):Option (((List de))×Int):=(f16 b).bind λa=>bif decide (a.2≠0) then(some (([]:List de),a.2))else((f17 a.1).bind λc=>some (c.1,0))
def f52(a:gj):Option Int:=(((f24 (a.low.length:Int) 1 5).bind λj=>bif (!j)then(some true)else(bif decide ((a.high.length:Int)≠(a.low.length:Int)) then(some true)else((f24 a.N0 0 127).bind λg=>bif (!g)then(some true)else((f24 a.Xw 0 262144).bind λf=>bif (!f)then(some true)else((f24 a.FD 0 10).bind λh=>some (!h)))))):Option Bool).bind λ(i:Bool)=>bif i then(some 70)else((cA (τ:=(Unit⊕Int)) (λ(b:Int)=>bif decide (b<(a.low.length:Int)) then((((ix a.low b).bind λc=>bif decide (c<0) then(some true)else((ix a.high b).bind λd=>bif decide (d<c) then(some true)else(some (decide (127<d))))):Option Bool).bind λ(e:Bool)=>bif e then(some (.inr (.inr 70)))else(some (.inl (wr (b+1)))))else(some (.inr (.inl ())))) cQ 0).bind (Sum.elim (λ(_:Unit)=>some 0) some))
def f23(d:List de):Option Int:=bif decide (5600<(d.length:Int)) then(some 2)else((cA (τ:=(Unit⊕Int)) (λ(c:Int)=>bif decide (c<(d.length:Int)) then((((ix d c).bind λa=>(((f24 a.cP 0 399).bind λe=>bif (!e)then(some true)else((f24 a.aY 1 14).bind λf=>bif (!f)then(some true)else((f24 a.cw 0 127).bind λh=>bif (!h)then(some true)else(bif decide (a.cy<0) then(some true)else(bif decide (a.dK<=a.cy) then(some true)else(some (decide (262144<a.dK)))))))):Option Bool).bind λ(g:Bool)=>bif g then(some (.inr (.inr (.inr 1))))else(bif decide (c=0) then(some (.inl ()))else((ix d (wr (c-1))).bind λb=>bif decide (a.cP<b.cP) then(some (.inr (.inr (.inr 1))))else(((bif decide (a.cP=b.cP) then(bif decide (a.aY<=b.aY) then(some true)else(some (decide (a.cy≠b.cy))))else(some false)):Option Bool).bind λ(j:Bool)=>bif j then(some (.inr (.inr (.inr 1))))else(((bif decide (b.cP<a.cP) then(some (decide (a.cy<=b.cy)))else(some false)):Option Bool).bind λ(i:Bool)=>bif i then(some (.inr (.inr (.inr 1))))else(some (.inl ()))))))):Option (Unit⊕(Int⊕(Unit⊕Int)))).bind (Sum.elim (λ(_:Unit)=>some (.inl (wr (c+1)))) some))else(some (.inr (.inl ())))) cQ 0).bind (Sum.elim (λ(_:Unit)=>some 0) some))
def f18(c:gj)(b:List de):Option Int:=(f52 c).bind λa=>bif decide (a≠0) then(some a)else((f23 b).bind λd=>some d)
def f54(a:de)(c:List de):Option Bool:=(ix c 0).bind λb=>some (decide (a.cP≠b.cP))
def f53(b:List de)(d:List de):Option Int:=(cA (τ:=(Unit⊕Int)) (λ(a:Int)=>bif decide (a<(b.length:Int)) then((ix b a).bind λc=>(f54 c d).bind λe=>bif e then(some (.inr (.inr a)))else(some (.inl (wr (a+1)))))else(some (.inr (.inl ())))) cQ 0).bind (Sum.elim (λ(_:Unit)=>some (-1)) some)
def f19(f:List de):Option ((List (List de))):=(cA (τ:=(List (List de))) (λ((a,c):(List de×List (List de)))=>bif decide (0<(a.length:Int)) then((f53 a a).bind λd=>((bif decide (d<0) then(some (a.length:Int))else(some d)):Option Int).bind λ(b:Int)=>cB (0<=b)<|cB (b.toNat<=a.length)<|cB (c.length+1<=bQ)<|some (.inl (((a.take a.length).drop b.toNat),(c++([((a.take b.toNat).drop 0)]:List (List de))))))else(some (.inr c))) cQ (f,([]:List (List de)))).bind λ(e:(List (List de)))=>some e
def f20(e:List de)(d:gj)(a:de)(c:Int):Option (Int×Bool×List de):=(((f24 c 1 (d.low.length:Int)).bind λj=>bif (!j)then(some true)else((ix d.low (wr (c-1))).bind λm=>(ix d.high (wr (c-1))).bind λg=>(f24 a.cw m g).bind λk=>some (!k))):Option Bool).bind λ(i:Bool)=>bif i then(some (0,false,e))else(cB ((wr (c-1))<5)<|(ix e (wr (c-1))).bind λb=>((((bif decide (0<b.dK) then(some (decide (b.cP=a.cP)))else(some false)):Option Bool).bind λ(l:Bool)=>bif l then(some (.inr (0,false,e)))else(((bif decide (0<b.dK) then(some (decide (a.cy<=(wr (b.dK+d.Xw)))))else(some false)):Option Bool).bind λ(f:Bool)=>bif f then(bif (decide (d.N0<(kX (wr (a.cw-b.cw)) (wr (b.cw-a.cw)))))then(some (.inr (0,false,e)))else(some (.inl (kX (wr (a.cw-b.cw)) (wr (b.cw-a.cw))))))else(some (.inl 0)))):Option (Int⊕(Int×Bool×List de))).bind (Sum.elim (λ(h:Int)=>some (h,true,(e.set (wr (c-1)).toNat a))) some))
def f21(h:List de)(e:Int):Option Int:=(cA (τ:=Int) (λ((g,a):(Int×Int))=>bif decide (a<5) then((cA (τ:=Int) (λ((c,b):(Int×Int))=>bif decide (b<a) then(((((cB (b<5)<|(ix h b).bind λd=>bif decide (e<d.dK) then(cB (a<5)<|(ix h a).bind λf=>bif decide (e<f.dK) then(some (decide (d.cw<f.cw)))else(some false))else(some false)):Option Bool).bind λ(j:Bool)=>bif j then(some (wr (c+1)))else(some c)):Option Int).bind λ(i:Int)=>some (.inl (i,wr (b+1))))else(some (.inr c))) cQ (g,0)).bind λ(l:Int)=>some (.inl (l,wr (a+1))))else(some (.inr g))) cQ (0,0)).bind λ(k:Int)=>some k
def f7(d:gj)(h:List de)(i:List Int):Option (eO×Int×Int):=(f18 d h).bind λq=>bif decide (q≠0) then(some ((⟨([]:List Int),0,0⟩:eO),0,q))else(bif decide ((i.length:Int)≠(h.length:Int)) then(some ((⟨([]:List Int),0,0⟩:eO),0,1))else((f19 h).bind λk=>(cA (τ:=(eO⊕(eO×Int×Int))) (λ((b,u,w,c):(eO×List de×Int×Int))=>bif decide (c<(k.length:Int)) then((ix k c).bind λg=>(cA (τ:=((Int×List de×Int)⊕((eO×List de×Int×Int)⊕(eO⊕(eO×Int×Int))))) (λ((l,n,a,e):(Int×List de×Int×Int))=>bif decide (e<(g.length:Int)) then((ix g e).bind λv=>(ix i a).bind λr=>(f20 n d v r).bind λf=>bif (!f.2.1)then(some (.inr (.inr (.inr (.inr ((⟨([]:List Int),0,0⟩:eO),a,71))))))else(some (.inl ((wr (l+f.1)),f.2.2,wr (a+1),wr (e+1)))))else(some (.inr (.inl (l,n,a))))) cQ (b.Dr,u,w,0)).bind (Sum.elim (λ((x,j,p):(Int×List de×Int))=>(ix g 0).bind λt=>(f21 j t.cy).bind λm=>bif decide (d.FD<m) then(some (.inr (.inr ((⟨([]:List Int),0,0⟩:eO),wr (p-1),71))))else(some (.inl ((⟨b.zY,wr (b.mY+m),x⟩:eO),j,p,wr (c+1))))) some))else(some (.inr (.inl b)))) cQ ((⟨([]:List Int),0,0⟩:eO),([(⟨0,0,0,0,0⟩:de),(⟨0,0,0,0,0⟩:de),(⟨0,0,0,0,0⟩:de),(⟨0,0,0,0,0⟩:de),(⟨0,0,0,0,0⟩:de)]:List de),0,0)).bind (Sum.elim (λ(o:eO)=>(f22 i).bind λs=>some ((⟨s,o.mY,o.Dr⟩:eO),0,0)) some)))
def f8(e:List de)(k:List Int)(b:Int):Option (((List (List cj)))×Int):=(f23 e).bind λn=>bif decide (n≠0) then(some (([]:List (List cj)),n))else(((bif decide ((k.length:Int)≠(e.length:Int)) then(some true)else((f24 b 1 5).bind λq=>some (!q))):Option Bool).bind λ(p:Bool)=>bif p then(some (([]:List (List cj)),1))else(cB (0<=b)<|cB (b<=(bQ:Int))<|cB (b.toNat<=cU)<|(cA (τ:=((List (List cj))⊕(((List (List cj)))×Int))) (λ((f,i,g):(List (List cj)×List Int×Int))=>bif decide (g<(e.length:Int)) then((ix e g).bind λc=>(ix k g).bind λa=>(f24 a 1 b).bind λr=>bif (!r)then(some (.inr (.inr (([]:List (List cj)),71))))else((ix f (wr (a-1))).bind λd=>cB ((wr (a-1)).toNat<cU)<|((bif decide (0<(d.length:Int)) then((ix i (wr (a-1))).bind λo=>bif decide (o=c.cP) then(some (.inr (.inr (.inr (([]:List (List cj)),71)))))else((ix d (wr ((d.length:Int)-1))).bind λh=>some (.inl (f.set (wr (a-1)).toNat (d.set (wr ((d.length:Int)-1)).toNat (⟨h.cw,h.cy,(yR h.dK c.cy)⟩:cj))))))else(some (.inl f))):Option ((List (List cj))⊕((List (List cj)×List Int×Int)⊕((List (List cj))⊕(((List (List cj)))×Int))))).bind (Sum.elim (λ(j:(List (List cj)))=>(ix j (wr (a-1))).bind λl=>cB (l.length+1<=bQ)<|(ix i (wr (a-1))).bind λs=>some (.inl ((j.set (wr (a-1)).toNat (l++([(⟨c.cw,c.cy,c.dK⟩:cj)]:List cj))),(i.set (wr (a-1)).toNat c.cP),wr (g+1)))) some)))else(some (.inr (.inl f)))) cQ ((List.replicate b.toNat ([]:(List cj))),(List.replicate b.toNat (0:Int)),0)).bind (Sum.elim (λ(m:(List (List cj)))=>cB (m.length<=cU)<|some (m,0)) some)))
def f3(a:jW):Option Bool:=(f4 a).bind λe=>((bif (!e.2)then(some true)else(bif decide (0<(e.1.eA.length:Int)) then(some true)else(some (decide ((a.cR.length:Int)=0))))):Option Bool).bind λ(A:Bool)=>bif A then((f5).bind λI=>some I)else((f6 e.1.ck).bind λb=>bif decide (b.2≠0) then(some false)else((cA (τ:=(List Int×List Int)) (λ((o,l,x):(List Int×List Int×Int))=>bif decide (x<(a.cR.length:Int)) then(cB (o.length+1<=bQ)<|cB (l.length+1<=bQ)<|some (.inl ((o++([0]:List Int)),(l++([127]:List Int)),wr (x+1))))else(some (.inr (o,l)))) cQ (([]:List Int),([]:List Int),0)).bind λ((g,k):(List Int×List Int))=>(cA (τ:=(List Int)) (λ((m,r):(List Int×Int))=>bif decide (r<(b.1.length:Int)) then((cA (τ:=Int) (λ((u,d):(Int×Int))=>bif decide (d<(a.cR.length:Int)) then((cA (τ:=Int) (λ((t,f):(Int×Int))=>(((ix a.cR d).bind λR=>bif decide (f<(R.length:Int)) then((ix e.1.gO d).bind λS=>some (decide (f<(S.length:Int))))else(some false)):Option Bool).bind λ(H:Bool)=>bif H then((((((ix a.cR d).bind λE=>(ix E f).bind λK=>(ix b.1 r).bind λw=>bif decide (K.cy=w.cy) then((ix e.1.gO d).bind λG=>(ix G f).bind λQ=>some (decide (Q.aY=w.aY)))else(some false)):Option Bool).bind λ(y:Bool)=>bif y then(some (wr (d+1)))else(some t)):Option Int).bind λ(M:Int)=>some (.inl (M,wr (f+1))))else(some (.inr t))) cQ (u,0)).bind λ(C:Int)=>some (.inl (C,wr (d+1))))else(some (.inr u))) cQ (0,0)).bind λ(z:Int)=>cB (m.length+1<=bQ)<|some (.inl ((m++([z]:List Int)),wr (r+1))))else(some (.inr m))) cQ (([]:List Int),0)).bind λ(c:(List Int))=>((bif b.1.isEmpty then(bif c.isEmpty then((f7 (⟨g,k,127,262144,10⟩:gj) ([]:List de) ([]:List Int)).bind λB=>some B.2.2)else(cB (c.length<=bQ)<|(f7 (⟨g,k,127,262144,10⟩:gj) ([]:List de) c).bind λD=>some D.2.2))else(cB (b.1.length<=bQ)<|bif c.isEmpty then((f7 (⟨g,k,127,262144,10⟩:gj) b.1 ([]:List Int)).bind λF=>some F.2.2)else(cB (c.length<=bQ)<|(f7 (⟨g,k,127,262144,10⟩:gj) b.1 c).bind λT=>some T.2.2))):Option Int).bind λ(P:Int)=>(f8 b.1 c (a.cR.length:Int)).bind λi=>((bif decide (P≠0) then(some true)else(bif decide (i.2≠0) then(some true)else(some (decide ((i.1.length:Int)≠(a.cR.length:Int)))))):Option Bool).bind λ(O:Bool)=>bif O then(some false)else((cA (τ:=(Unit⊕Bool)) (λ(h:Int)=>bif decide (h<(i.1.length:Int)) then((ix i.1 h).bind λn=>(ix a.cR h).bind λs=>bif decide ((n.length:Int)≠(s.length:Int)) then(some (.inr (.inr false)))else((cA (τ:=(Unit⊕(Int⊕(Unit⊕Bool)))) (λ(j:Int)=>bif decide (j<(n.length:Int)) then((ix n j).bind λp=>(ix s j).bind λq=>((bif (decide (p.cw≠(wr (q.cw+a.shift))))then(some true)else(bif decide (p.cy≠q.cy) then(some true)else(some (decide (p.dK<q.dK))))):Option Bool).bind λ(L:Bool)=>bif L then(some (.inr (.inr (.inr (.inr false)))))else(some (.inl (wr (j+1)))))else(some (.inr (.inl ())))) cQ 0).bind (Sum.elim (λ(_:Unit)=>some (.inl (wr (h+1)))) some)))else(some (.inr (.inl ())))) cQ 0).bind (Sum.elim (λ(_:Unit)=>(f9 e.1.ck).bind λv=>((bif decide (v.2=0) then(bif decide (0<(v.1.length:Int)) then((f5).bind λN=>some N)else(some false))else(some false)):Option Bool).bind λ(J:Bool)=>some J) some))))
end
end Go.Proofs.YtfdnjgoegamonaaGreatDoor
