/- Functions of the program as Lean functions, and the walks. -/
import Derived.Test.YtpbahncblggodaaGreatAmH
import Derived.Test.YtpbahncblggodaaGreatChecked
import Derived.Test.YtpbahncblggodaaGreatSg
import Derived.Test.YtpbahncblggodaaGreatSo
import Derived.Test.YtpbahncblggodaaGreatLsf
import Derived.Test.YtpbahncblggodaaGreatTm
namespace Go.Proofs.YtpbahncblggodaaGreat
open Go Go.Am
set_option maxRecDepth 100000
set_option linter.all false
structure bP where
 bY:Int
 bW:Int
 dx:Int
 deriving DecidableEq
def mr(x:bP):AV:=.agg [.i x.bY,.i x.bW,.i x.dx]
theorem uR(x:bP):(mr x).dy=true:=(gm rfl (gm rfl (gm rfl z7)))
structure cO where
 bY:Int
 dG:Int
 js:Bool
 deriving DecidableEq
def jl(x:cO):AV:=.agg [.i x.bY,.i x.dG,.bool x.js]
theorem kc(x:cO):(jl x).dy=true:=(gm rfl (gm rfl (gm rfl z7)))
structure bK where
 ck:(List cO)
 bN:(List Int)
 deriving DecidableEq
def nM(x:bK):AV:=.agg [.sl false (x.ck.map jl),.sl false (x.bN.map AV.i)]
theorem zQ(x:bK):(nM x).dy=true:=(gm (dw _ _ kc) (gm (dw _ _ sQ) z7))
structure eA where
 low:(List Int)
 high:(List Int)
 gh:(List Bool)
 top:Int
 jump:Int
 shift:Int
 lift:Int
 lC:Int
 eH:Int
 gK:Int
 deriving DecidableEq
def De(x:eA):AV:=.agg [.sl false (x.low.map AV.i),.sl false (x.high.map AV.i),.sl false (x.gh.map AV.bool),.i x.top,.i x.jump,.i x.shift,.i x.lift,.i x.lC,.i x.eH,.i x.gK]
theorem Oa(x:eA):(De x).dy=true:=(gm (dw _ _ sQ) (gm (dw _ _ sQ) (gm (dw _ _ tX) (gm rfl (gm rfl (gm rfl (gm rfl (gm rfl (gm rfl (gm rfl z7))))))))))
structure gk where
 cA:(List (List bP))
 instrument:bK
 hand:eA
 shift:Int
 deriving DecidableEq
def nh(x:gk):AV:=.agg [.sl false (x.cA.map (SL mr)),.sl false (x.instrument.ck.map jl),.sl false (x.instrument.bN.map AV.i),.sl false (x.hand.low.map AV.i),.sl false (x.hand.high.map AV.i),.sl false (x.hand.gh.map AV.bool),.i x.hand.top,.i x.hand.jump,.i x.hand.shift,.i x.hand.lift,.i x.hand.lC,.i x.hand.eH,.i x.hand.gK,.i x.shift]
theorem Dh(x:gk):(nh x).dy=true:=(gm (dw _ _ (yq uR)) (gm (dw _ _ kc) (gm (dw _ _ sQ) (gm (dw _ _ sQ) (gm (dw _ _ sQ) (gm (dw _ _ tX) (gm rfl (gm rfl (gm rfl (gm rfl (gm rfl (gm rfl (gm rfl (gm rfl z7))))))))))))))
structure aW where
 bt:Int
 cy:Int
 deriving DecidableEq
def ij(x:aW):AV:=.agg [.i x.bt,.i x.cy]
theorem mz(x:aW):(ij x).dy=true:=(gm rfl (gm rfl z7))
def gY(x y:aW):Bool:=((decide (x.bt=y.bt))&&((decide (x.cy=y.cy))&&true))
structure dO where
 qP:Int
 alter:Int
 js:Int
 deriving DecidableEq
def pS(x:dO):AV:=.agg [.i x.qP,.i x.alter,.i x.js]
theorem vR(x:dO):(pS x).dy=true:=(gm rfl (gm rfl (gm rfl z7)))
structure cN where
 value:Int
 dot:Bool
 three:Bool
 deriving DecidableEq
def rK(x:cN):AV:=.agg [.i x.value,.bool x.dot,.bool x.three]
theorem Fe(x:cN):(rK x).dy=true:=(gm rfl (gm rfl (gm rfl z7)))
def oD(x y:cN):Bool:=((decide (x.value=y.value))&&((x.dot==y.dot)&&((x.three==y.three)&&true)))
structure cW where
 bt:Int
 cy:Int
 right:Int
 jP:Int
 hold:Int
 deriving DecidableEq
def nn(x:cW):AV:=.agg [.i x.bt,.i x.cy,.i x.right,.i x.jP,.i x.hold]
theorem Ff(x:cW):(nn x).dy=true:=(gm rfl (gm rfl (gm rfl (gm rfl (gm rfl z7)))))
structure cn where
 lC:Bool
 sign:cN
 tie:Bool
 df:(List cW)
 deriving DecidableEq
def kI(x:cn):AV:=.agg [.bool x.lC,.i x.sign.value,.bool x.sign.dot,.bool x.sign.three,.bool x.tie,.sl false (x.df.map nn)]
theorem oF(x:cn):(kI x).dy=true:=(gm rfl (gm rfl (gm rfl (gm rfl (gm rfl (gm (dw _ _ Ff) z7))))))
structure dS where
 instrument:bK
 bG:(List cn)
 deriving DecidableEq
def Fg(x:dS):AV:=.agg [.sl false (x.instrument.ck.map jl),.sl false (x.instrument.bN.map AV.i),.sl false (x.bG.map kI)]
theorem Kt(x:dS):(Fg x).dy=true:=(gm (dw _ _ kc) (gm (dw _ _ sQ) (gm (dw _ _ oF) z7)))
structure cU where
 part:Int
 eI:Int
 kind:Int
 time:Int
 deriving DecidableEq
def rL(x:cU):AV:=.agg [.i x.part,.i x.eI,.i x.kind,.i x.time]
theorem zR(x:cU):(rL x).dy=true:=(gm rfl (gm rfl (gm rfl (gm rfl z7))))
def Ob(x y:cU):Bool:=((decide (x.part=y.part))&&((decide (x.eI=y.eI))&&((decide (x.kind=y.kind))&&((decide (x.time=y.time))&&true))))
structure dC where
 bM:dS
 shift:Int
 dz:(List (List aW))
 cI:(List cU)
 deriving DecidableEq
def zS(x:dC):AV:=.agg [.sl false (x.bM.instrument.ck.map jl),.sl false (x.bM.instrument.bN.map AV.i),.sl false (x.bM.bG.map kI),.i x.shift,.sl false (x.dz.map (SL ij)),.sl false (x.cI.map rL)]
theorem Fh(x:dC):(zS x).dy=true:=(gm (dw _ _ kc) (gm (dw _ _ sQ) (gm (dw _ _ oF) (gm rfl (gm (dw _ _ (yq mz)) (gm (dw _ _ zR) z7))))))
structure bS where
 cG:(List aW)
 held:(List Int)
 di:(List Int)
 deriving DecidableEq
def Fi(x:bS):AV:=.agg [.sl false (x.cG.map ij),.sl false (x.held.map AV.i),.sl false (x.di.map AV.i)]
theorem Ku(x:bS):(Fi x).dy=true:=(gm (dw _ _ mz) (gm (dw _ _ sQ) (gm (dw _ _ sQ) z7)))
structure bX where
 part:Int
 eI:Int
 deriving DecidableEq
def im(x:bX):AV:=.agg [.i x.part,.i x.eI]
theorem wH(x:bX):(im x).dy=true:=(gm rfl (gm rfl z7))
structure bx where
 bO:(List bX)
 bY:Int
 bW:Int
 dx:Int
 bQ:aW
 de:Int
 deriving DecidableEq
def Fj(x:bx):AV:=.agg [.sl false (x.bO.map im),.i x.bY,.i x.bW,.i x.dx,.i x.bQ.bt,.i x.bQ.cy,.i x.de]
theorem Kv(x:bx):(Fj x).dy=true:=(gm (dw _ _ wH) (gm rfl (gm rfl (gm rfl (gm rfl (gm rfl (gm rfl z7)))))))
structure cr where
 pos:Int
 dm:(List Int)
 deriving DecidableEq
def I9(x:cr):AV:=.agg [.i x.pos,.sl false (x.dm.map AV.i)]
theorem Od(x:cr):(I9 x).dy=true:=(gm rfl (gm (dw _ _ sQ) z7))
structure cP where
 dB:bS
 kx:bK
 h:eA
 shift:Int
 bM:dS
 db:(List bx)
 fp:(List cr)
 deriving DecidableEq
structure bV where
 places:(List aW)
 cut:(List Bool)
 deriving DecidableEq
def zT(x:bV):AV:=.agg [.sl false (x.places.map ij),.sl false (x.cut.map AV.bool)]
theorem Fk(x:bV):(zT x).dy=true:=(gm (dw _ _ mz) (gm (dw _ _ tX) z7))
structure fU where
 p:dS
 vS:(List Int)
 deriving DecidableEq
def uS(x:fU):AV:=.agg [.sl false (x.p.instrument.ck.map jl),.sl false (x.p.instrument.bN.map AV.i),.sl false (x.p.bG.map kI),.sl false (x.vS.map AV.i)]
theorem AH(x:fU):(uS x).dy=true:=(gm (dw _ _ kc) (gm (dw _ _ sQ) (gm (dw _ _ oF) (gm (dw _ _ sQ) z7))))
structure ez where
 de:Int
 bt:Int
 bY:Int
 bW:Int
 dx:Int
 deriving DecidableEq
def Di(x:ez):AV:=.agg [.i x.de,.i x.bt,.i x.bY,.i x.bW,.i x.dx]
theorem Fl(x:ez):(Di x).dy=true:=(gm rfl (gm rfl (gm rfl (gm rfl (gm rfl z7)))))
structure ig where
 de:Int
 bt:Int
 cy:Int
 bW:Int
 dx:Int
 deriving DecidableEq
def BR(x:ig):AV:=.agg [.i x.de,.i x.bt,.i x.cy,.i x.bW,.i x.dx]
theorem Hq(x:ig):(BR x).dy=true:=(gm rfl (gm rfl (gm rfl (gm rfl (gm rfl z7)))))
structure dT where
 cA:(List (List bP))
 s:dC
 notes:(List ez)
 jI:(List Bool)
 deriving DecidableEq
def BS(x:dT):AV:=.agg [.sl false (x.cA.map (SL mr)),.sl false (x.s.bM.instrument.ck.map jl),.sl false (x.s.bM.instrument.bN.map AV.i),.sl false (x.s.bM.bG.map kI),.i x.s.shift,.sl false (x.s.dz.map (SL ij)),.sl false (x.s.cI.map rL),.sl false (x.notes.map Di),.sl false (x.jI.map AV.bool)]
theorem Hr(x:dT):(BS x).dy=true:=(gm (dw _ _ (yq uR)) (gm (dw _ _ kc) (gm (dw _ _ sQ) (gm (dw _ _ oF) (gm rfl (gm (dw _ _ (yq mz)) (gm (dw _ _ zR) (gm (dw _ _ Fl) (gm (dw _ _ tX) z7)))))))))
def TS:Nat->Type
 |0=>bP
 |1=>cO
 |2=>Int
 |3=>bK
 |4=>Bool
 |5=>eA
 |6=>(List bP)
 |7=>gk
 |8=>aW
 |9=>ByteArray
 |10=>dO
 |11=>cN
 |12=>(List cN)
 |13=>(List aW)
 |14=>cU
 |15=>cW
 |16=>cn
 |17=>bX
 |18=>bx
 |19=>cr
 |20=>bV
 |21=>bS
 |22=>dC
 |23=>dS
 |24=>fU
 |25=>ez
 |26=>ig
 |27=>dT
 |_+28=>Unit
def TE:(c:Nat)->TS c->AV
 |0,x=>mr x
 |1,x=>jl x
 |2,x=>AV.i x
 |3,x=>nM x
 |4,x=>AV.bool x
 |5,x=>De x
 |6,x=>(SL mr) x
 |7,x=>nh x
 |8,x=>ij x
 |9,x=>AV.str x
 |10,x=>pS x
 |11,x=>rK x
 |12,x=>(SL rK) x
 |13,x=>(SL ij) x
 |14,x=>rL x
 |15,x=>nn x
 |16,x=>kI x
 |17,x=>im x
 |18,x=>(λ(x:bx)=>AV.ip [.sl false (x.bO.map im),.i x.bY,.i x.bW,.i x.dx,.i x.bQ.bt,.i x.bQ.cy,.i x.de]) x
 |19,x=>I9 x
 |20,x=>zT x
 |21,x=>Fi x
 |22,x=>zS x
 |23,x=>Fg x
 |24,x=>uS x
 |25,x=>Di x
 |26,x=>BR x
 |27,x=>BS x
 |_+28,_=>.iE
def TX:(c:Nat)->TS c->TV TS
 |0,(x:bP)=>.agg [.n x.bY,.n x.bW,.n x.dx]
 |1,(x:cO)=>.agg [.n x.bY,.n x.dG,.b x.js]
 |2,(x:Int)=>.n x
 |3,(x:bK)=>.agg [.l false 1 x.ck,.l false 2 x.bN]
 |4,(x:Bool)=>.b x
 |5,(x:eA)=>.agg [.l false 2 x.low,.l false 2 x.high,.l false 4 x.gh,.n x.top,.n x.jump,.n x.shift,.n x.lift,.n x.lC,.n x.eH,.n x.gK]
 |6,(x:(List bP))=>.l false 0 x
 |7,(x:gk)=>.agg [.l false 6 x.cA,.l false 1 x.instrument.ck,.l false 2 x.instrument.bN,.l false 2 x.hand.low,.l false 2 x.hand.high,.l false 4 x.hand.gh,.n x.hand.top,.n x.hand.jump,.n x.hand.shift,.n x.hand.lift,.n x.hand.lC,.n x.hand.eH,.n x.hand.gK,.n x.shift]
 |8,(x:aW)=>.agg [.n x.bt,.n x.cy]
 |9,(x:ByteArray)=>.z x
 |10,(x:dO)=>.agg [.n x.qP,.n x.alter,.n x.js]
 |11,(x:cN)=>.agg [.n x.value,.b x.dot,.b x.three]
 |12,(x:(List cN))=>.l false 11 x
 |13,(x:(List aW))=>.l false 8 x
 |14,(x:cU)=>.agg [.n x.part,.n x.eI,.n x.kind,.n x.time]
 |15,(x:cW)=>.agg [.n x.bt,.n x.cy,.n x.right,.n x.jP,.n x.hold]
 |16,(x:cn)=>.agg [.b x.lC,.n x.sign.value,.b x.sign.dot,.b x.sign.three,.b x.tie,.l false 15 x.df]
 |17,(x:bX)=>.agg [.n x.part,.n x.eI]
 |18,(x:bx)=>.ip [.l false 17 x.bO,.n x.bY,.n x.bW,.n x.dx,.n x.bQ.bt,.n x.bQ.cy,.n x.de]
 |19,(x:cr)=>.agg [.n x.pos,.l false 2 x.dm]
 |20,(x:bV)=>.agg [.l false 8 x.places,.l false 4 x.cut]
 |21,(x:bS)=>.agg [.l false 8 x.cG,.l false 2 x.held,.l false 2 x.di]
 |22,(x:dC)=>.agg [.l false 1 x.bM.instrument.ck,.l false 2 x.bM.instrument.bN,.l false 16 x.bM.bG,.n x.shift,.l false 13 x.dz,.l false 14 x.cI]
 |23,(x:dS)=>.agg [.l false 1 x.instrument.ck,.l false 2 x.instrument.bN,.l false 16 x.bG]
 |24,(x:fU)=>.agg [.l false 1 x.p.instrument.ck,.l false 2 x.p.instrument.bN,.l false 16 x.p.bG,.l false 2 x.vS]
 |25,(x:ez)=>.agg [.n x.de,.n x.bt,.n x.bY,.n x.bW,.n x.dx]
 |26,(x:ig)=>.agg [.n x.de,.n x.bt,.n x.cy,.n x.bW,.n x.dx]
 |27,(x:dT)=>.agg [.l false 6 x.cA,.l false 1 x.s.bM.instrument.ck,.l false 2 x.s.bM.instrument.bN,.l false 16 x.s.bM.bG,.n x.s.shift,.l false 13 x.s.dz,.l false 14 x.s.cI,.l false 25 x.notes,.l false 4 x.jI]
 |_+28,_=>.a .iE
def gI:TV TS->Option Int
 |.i _ n=>some n
 |.a (.int _ n)=>some n
 |.v d x=>match TX d x with
  |.i _ n=>some n
  |_=>none
 |_=>none
def gB:TV TS->Option Bool
 |.b t=>some t
 |.a (.bool t)=>some t
 |.v d x=>match TX d x with
  |.b t=>some t
  |_=>none
 |_=>none
def gZ:TV TS->Option ByteArray
 |.z t=>some t
 |.a (.str t)=>some t
 |_=>none
def gV(d c:Nat)(x:TS d):Option (TS c):=if h:d=c then some (h ▸ x)else none
def gLx(d c:Nat)(x:List (TS d)):Option (List (TS c)):=if h:d=c then some (h ▸ x)else none
def gL(c:Nat):TV TS->Option (List (TS c))
 |.l _ d x=>gLx d c x
 |.a (.sl _ [])=>some []
 |.v d x=>match TX d x with
  |.l _ d x=>gLx d c x
  |_=>none
 |_=>none
def TD:(c:Nat)->TV TS->Option (TS c)
 |0,.a (.agg [x0,x1,x2])=>(gI (.a x0)).bind λx0=>(gI (.a x1)).bind λx1=>(gI (.a x2)).bind λx2=>some ⟨x0,x1,x2⟩
 |0,.v d x=>gV d 0 x
 |0,.agg [x0,x1,x2]=>(gI x0).bind λx0=>(gI x1).bind λx1=>(gI x2).bind λx2=>some ⟨x0,x1,x2⟩
 |1,.a (.agg [x0,x1,x2])=>(gI (.a x0)).bind λx0=>(gI (.a x1)).bind λx1=>(gB (.a x2)).bind λx2=>some ⟨x0,x1,x2⟩
 |1,.v d x=>gV d 1 x
 |1,.agg [x0,x1,x2]=>(gI x0).bind λx0=>(gI x1).bind λx1=>(gB x2).bind λx2=>some ⟨x0,x1,x2⟩
 |2,x=>gI x
 |3,.a (.agg [x0,x1])=>(gL 1 (.a x0)).bind λx0=>(gL 2 (.a x1)).bind λx1=>some ⟨x0,x1⟩
 |3,.v d x=>gV d 3 x
 |3,.agg [x0,x1]=>(gL 1 x0).bind λx0=>(gL 2 x1).bind λx1=>some ⟨x0,x1⟩
 |4,x=>gB x
 |5,.a (.agg [x0,x1,x2,x3,x4,x5,x6,x7,x8,x9])=>(gL 2 (.a x0)).bind λx0=>(gL 2 (.a x1)).bind λx1=>(gL 4 (.a x2)).bind λx2=>(gI (.a x3)).bind λx3=>(gI (.a x4)).bind λx4=>(gI (.a x5)).bind λx5=>(gI (.a x6)).bind λx6=>(gI (.a x7)).bind λx7=>(gI (.a x8)).bind λx8=>(gI (.a x9)).bind λx9=>some ⟨x0,x1,x2,x3,x4,x5,x6,x7,x8,x9⟩
 |5,.v d x=>gV d 5 x
 |5,.agg [x0,x1,x2,x3,x4,x5,x6,x7,x8,x9]=>(gL 2 x0).bind λx0=>(gL 2 x1).bind λx1=>(gL 4 x2).bind λx2=>(gI x3).bind λx3=>(gI x4).bind λx4=>(gI x5).bind λx5=>(gI x6).bind λx6=>(gI x7).bind λx7=>(gI x8).bind λx8=>(gI x9).bind λx9=>some ⟨x0,x1,x2,x3,x4,x5,x6,x7,x8,x9⟩
 |6,x=>gL 0 x
 |7,.a (.agg [x0,x1,x2,x3,x4,x5,x6,x7,x8,x9,T7,T8,T9,Ua])=>(gL 6 (.a x0)).bind λx0=>(gL 1 (.a x1)).bind λx1=>(gL 2 (.a x2)).bind λx2=>(gL 2 (.a x3)).bind λx3=>(gL 2 (.a x4)).bind λx4=>(gL 4 (.a x5)).bind λx5=>(gI (.a x6)).bind λx6=>(gI (.a x7)).bind λx7=>(gI (.a x8)).bind λx8=>(gI (.a x9)).bind λx9=>(gI (.a T7)).bind λT7=>(gI (.a T8)).bind λT8=>(gI (.a T9)).bind λT9=>(gI (.a Ua)).bind λUa=>some ⟨x0,⟨x1,x2⟩,⟨x3,x4,x5,x6,x7,x8,x9,T7,T8,T9⟩,Ua⟩
 |7,.v d x=>gV d 7 x
 |7,.agg [x0,x1,x2,x3,x4,x5,x6,x7,x8,x9,T7,T8,T9,Ua]=>(gL 6 x0).bind λx0=>(gL 1 x1).bind λx1=>(gL 2 x2).bind λx2=>(gL 2 x3).bind λx3=>(gL 2 x4).bind λx4=>(gL 4 x5).bind λx5=>(gI x6).bind λx6=>(gI x7).bind λx7=>(gI x8).bind λx8=>(gI x9).bind λx9=>(gI T7).bind λT7=>(gI T8).bind λT8=>(gI T9).bind λT9=>(gI Ua).bind λUa=>some ⟨x0,⟨x1,x2⟩,⟨x3,x4,x5,x6,x7,x8,x9,T7,T8,T9⟩,Ua⟩
 |8,.a (.agg [x0,x1])=>(gI (.a x0)).bind λx0=>(gI (.a x1)).bind λx1=>some ⟨x0,x1⟩
 |8,.v d x=>gV d 8 x
 |8,.agg [x0,x1]=>(gI x0).bind λx0=>(gI x1).bind λx1=>some ⟨x0,x1⟩
 |9,x=>gZ x
 |10,.a (.agg [x0,x1,x2])=>(gI (.a x0)).bind λx0=>(gI (.a x1)).bind λx1=>(gI (.a x2)).bind λx2=>some ⟨x0,x1,x2⟩
 |10,.v d x=>gV d 10 x
 |10,.agg [x0,x1,x2]=>(gI x0).bind λx0=>(gI x1).bind λx1=>(gI x2).bind λx2=>some ⟨x0,x1,x2⟩
 |11,.a (.agg [x0,x1,x2])=>(gI (.a x0)).bind λx0=>(gB (.a x1)).bind λx1=>(gB (.a x2)).bind λx2=>some ⟨x0,x1,x2⟩
 |11,.v d x=>gV d 11 x
 |11,.agg [x0,x1,x2]=>(gI x0).bind λx0=>(gB x1).bind λx1=>(gB x2).bind λx2=>some ⟨x0,x1,x2⟩
 |12,x=>gL 11 x
 |13,x=>gL 8 x
 |14,.a (.agg [x0,x1,x2,x3])=>(gI (.a x0)).bind λx0=>(gI (.a x1)).bind λx1=>(gI (.a x2)).bind λx2=>(gI (.a x3)).bind λx3=>some ⟨x0,x1,x2,x3⟩
 |14,.v d x=>gV d 14 x
 |14,.agg [x0,x1,x2,x3]=>(gI x0).bind λx0=>(gI x1).bind λx1=>(gI x2).bind λx2=>(gI x3).bind λx3=>some ⟨x0,x1,x2,x3⟩
 |15,.a (.agg [x0,x1,x2,x3,x4])=>(gI (.a x0)).bind λx0=>(gI (.a x1)).bind λx1=>(gI (.a x2)).bind λx2=>(gI (.a x3)).bind λx3=>(gI (.a x4)).bind λx4=>some ⟨x0,x1,x2,x3,x4⟩
 |15,.v d x=>gV d 15 x
 |15,.agg [x0,x1,x2,x3,x4]=>(gI x0).bind λx0=>(gI x1).bind λx1=>(gI x2).bind λx2=>(gI x3).bind λx3=>(gI x4).bind λx4=>some ⟨x0,x1,x2,x3,x4⟩
 |16,.a (.agg [x0,x1,x2,x3,x4,x5])=>(gB (.a x0)).bind λx0=>(gI (.a x1)).bind λx1=>(gB (.a x2)).bind λx2=>(gB (.a x3)).bind λx3=>(gB (.a x4)).bind λx4=>(gL 15 (.a x5)).bind λx5=>some ⟨x0,⟨x1,x2,x3⟩,x4,x5⟩
 |16,.v d x=>gV d 16 x
 |16,.agg [x0,x1,x2,x3,x4,x5]=>(gB x0).bind λx0=>(gI x1).bind λx1=>(gB x2).bind λx2=>(gB x3).bind λx3=>(gB x4).bind λx4=>(gL 15 x5).bind λx5=>some ⟨x0,⟨x1,x2,x3⟩,x4,x5⟩
 |17,.a (.agg [x0,x1])=>(gI (.a x0)).bind λx0=>(gI (.a x1)).bind λx1=>some ⟨x0,x1⟩
 |17,.v d x=>gV d 17 x
 |17,.agg [x0,x1]=>(gI x0).bind λx0=>(gI x1).bind λx1=>some ⟨x0,x1⟩
 |18,.v d x=>gV d 18 x
 |18,.ip [x0,x1,x2,x3,x4,x5,x6]=>(gL 17 x0).bind λx0=>(gI x1).bind λx1=>(gI x2).bind λx2=>(gI x3).bind λx3=>(gI x4).bind λx4=>(gI x5).bind λx5=>(gI x6).bind λx6=>some ⟨x0,x1,x2,x3,⟨x4,x5⟩,x6⟩
 |19,.a (.agg [x0,x1])=>(gI (.a x0)).bind λx0=>(gL 2 (.a x1)).bind λx1=>some ⟨x0,x1⟩
 |19,.v d x=>gV d 19 x
 |19,.agg [x0,x1]=>(gI x0).bind λx0=>(gL 2 x1).bind λx1=>some ⟨x0,x1⟩
 |20,.a (.agg [x0,x1])=>(gL 8 (.a x0)).bind λx0=>(gL 4 (.a x1)).bind λx1=>some ⟨x0,x1⟩
 |20,.v d x=>gV d 20 x
 |20,.agg [x0,x1]=>(gL 8 x0).bind λx0=>(gL 4 x1).bind λx1=>some ⟨x0,x1⟩
 |21,.a (.agg [x0,x1,x2])=>(gL 8 (.a x0)).bind λx0=>(gL 2 (.a x1)).bind λx1=>(gL 2 (.a x2)).bind λx2=>some ⟨x0,x1,x2⟩
 |21,.v d x=>gV d 21 x
 |21,.agg [x0,x1,x2]=>(gL 8 x0).bind λx0=>(gL 2 x1).bind λx1=>(gL 2 x2).bind λx2=>some ⟨x0,x1,x2⟩
 |22,.a (.agg [x0,x1,x2,x3,x4,x5])=>(gL 1 (.a x0)).bind λx0=>(gL 2 (.a x1)).bind λx1=>(gL 16 (.a x2)).bind λx2=>(gI (.a x3)).bind λx3=>(gL 13 (.a x4)).bind λx4=>(gL 14 (.a x5)).bind λx5=>some ⟨⟨⟨x0,x1⟩,x2⟩,x3,x4,x5⟩
 |22,.v d x=>gV d 22 x
 |22,.agg [x0,x1,x2,x3,x4,x5]=>(gL 1 x0).bind λx0=>(gL 2 x1).bind λx1=>(gL 16 x2).bind λx2=>(gI x3).bind λx3=>(gL 13 x4).bind λx4=>(gL 14 x5).bind λx5=>some ⟨⟨⟨x0,x1⟩,x2⟩,x3,x4,x5⟩
 |23,.a (.agg [x0,x1,x2])=>(gL 1 (.a x0)).bind λx0=>(gL 2 (.a x1)).bind λx1=>(gL 16 (.a x2)).bind λx2=>some ⟨⟨x0,x1⟩,x2⟩
 |23,.v d x=>gV d 23 x
 |23,.agg [x0,x1,x2]=>(gL 1 x0).bind λx0=>(gL 2 x1).bind λx1=>(gL 16 x2).bind λx2=>some ⟨⟨x0,x1⟩,x2⟩
 |24,.a (.agg [x0,x1,x2,x3])=>(gL 1 (.a x0)).bind λx0=>(gL 2 (.a x1)).bind λx1=>(gL 16 (.a x2)).bind λx2=>(gL 2 (.a x3)).bind λx3=>some ⟨⟨⟨x0,x1⟩,x2⟩,x3⟩
 |24,.v d x=>gV d 24 x
 |24,.agg [x0,x1,x2,x3]=>(gL 1 x0).bind λx0=>(gL 2 x1).bind λx1=>(gL 16 x2).bind λx2=>(gL 2 x3).bind λx3=>some ⟨⟨⟨x0,x1⟩,x2⟩,x3⟩
 |25,.a (.agg [x0,x1,x2,x3,x4])=>(gI (.a x0)).bind λx0=>(gI (.a x1)).bind λx1=>(gI (.a x2)).bind λx2=>(gI (.a x3)).bind λx3=>(gI (.a x4)).bind λx4=>some ⟨x0,x1,x2,x3,x4⟩
 |25,.v d x=>gV d 25 x
 |25,.agg [x0,x1,x2,x3,x4]=>(gI x0).bind λx0=>(gI x1).bind λx1=>(gI x2).bind λx2=>(gI x3).bind λx3=>(gI x4).bind λx4=>some ⟨x0,x1,x2,x3,x4⟩
 |26,.a (.agg [x0,x1,x2,x3,x4])=>(gI (.a x0)).bind λx0=>(gI (.a x1)).bind λx1=>(gI (.a x2)).bind λx2=>(gI (.a x3)).bind λx3=>(gI (.a x4)).bind λx4=>some ⟨x0,x1,x2,x3,x4⟩
 |26,.v d x=>gV d 26 x
 |26,.agg [x0,x1,x2,x3,x4]=>(gI x0).bind λx0=>(gI x1).bind λx1=>(gI x2).bind λx2=>(gI x3).bind λx3=>(gI x4).bind λx4=>some ⟨x0,x1,x2,x3,x4⟩
 |27,.a (.agg [x0,x1,x2,x3,x4,x5,x6,x7,x8])=>(gL 6 (.a x0)).bind λx0=>(gL 1 (.a x1)).bind λx1=>(gL 2 (.a x2)).bind λx2=>(gL 16 (.a x3)).bind λx3=>(gI (.a x4)).bind λx4=>(gL 13 (.a x5)).bind λx5=>(gL 14 (.a x6)).bind λx6=>(gL 25 (.a x7)).bind λx7=>(gL 4 (.a x8)).bind λx8=>some ⟨x0,⟨⟨⟨x1,x2⟩,x3⟩,x4,x5,x6⟩,x7,x8⟩
 |27,.v d x=>gV d 27 x
 |27,.agg [x0,x1,x2,x3,x4,x5,x6,x7,x8]=>(gL 6 x0).bind λx0=>(gL 1 x1).bind λx1=>(gL 2 x2).bind λx2=>(gL 16 x3).bind λx3=>(gI x4).bind λx4=>(gL 13 x5).bind λx5=>(gL 14 x6).bind λx6=>(gL 25 x7).bind λx7=>(gL 4 x8).bind λx8=>some ⟨x0,⟨⟨⟨x1,x2⟩,x3⟩,x4,x5,x6⟩,x7,x8⟩
 |_,_=>none
def TTc:TypeId->Option Nat
 |2=>some 2
 |3=>some 2
 |4=>some 4
 |9=>some 9
 |10=>some 9
 |11=>some 9
 |26=>some 3
 |29=>some 5
 |31=>some 7
 |36=>some 23
 |40=>some 22
 |41=>some 2
 |45=>some 6
 |49=>some 1
 |54=>some 8
 |55=>some 13
 |57=>some 21
 |59=>some 14
 |72=>some 0
 |77=>some 25
 |79=>some 11
 |82=>some 16
 |103=>some 15
 |108=>some 12
 |139=>some 24
 |148=>some 27
 |151=>some 17
 |184=>some 20
 |217=>some 19
 |225=>some 26
 |265=>some 2
 |356=>some 10
 |_=>none
def TWd:Nat->Nat
 |0=>3
 |1=>3
 |2=>1
 |3=>2
 |4=>1
 |5=>10
 |6=>1
 |7=>14
 |8=>2
 |9=>1
 |10=>3
 |11=>3
 |12=>1
 |13=>1
 |14=>4
 |15=>5
 |16=>6
 |17=>2
 |18=>1
 |19=>2
 |20=>2
 |21=>3
 |22=>6
 |23=>3
 |24=>4
 |25=>5
 |26=>5
 |27=>9
 |_+28=>1
theorem lQ: ∀(c:Nat)(x:TS c),(TX c x).er TE=TE c x:=λc x=>match c,x with|0,_=>rfl|1,_=>rfl|2,_=>rfl|3,_=>rfl|4,_=>rfl|5,_=>rfl|6,_=>rfl|7,_=>rfl|8,_=>rfl|9,_=>rfl|10,_=>rfl|11,_=>rfl|12,_=>rfl|13,_=>rfl|14,_=>rfl|15,_=>rfl|16,_=>rfl|17,_=>rfl|18,_=>rfl|19,_=>rfl|20,_=>rfl|21,_=>rfl|22,_=>rfl|23,_=>rfl|24,_=>rfl|25,_=>rfl|26,_=>rfl|27,_=>rfl|_+28,_=>rfl
theorem aaF: ∀(c:Nat)(x:TS c),(TX c x).Pt=false:=λc x=>match c,x with|0,_=>rfl|1,_=>rfl|2,_=>rfl|3,_=>rfl|4,_=>rfl|5,_=>rfl|6,_=>rfl|7,_=>rfl|8,_=>rfl|9,_=>rfl|10,_=>rfl|11,_=>rfl|12,_=>rfl|13,_=>rfl|14,_=>rfl|15,_=>rfl|16,_=>rfl|17,_=>rfl|18,_=>rfl|19,_=>rfl|20,_=>rfl|21,_=>rfl|22,_=>rfl|23,_=>rfl|24,_=>rfl|25,_=>rfl|26,_=>rfl|27,_=>rfl|_+28,_=>rfl
theorem kJ: ∀(c:Nat)(x:TS c),(TE c x).dy=true:=λc x=>match c,x with|0,x=>uR x|1,x=>kc x|2,x=>sQ x|3,x=>zQ x|4,x=>tX x|5,x=>Oa x|6,x=>(yq uR) x|7,x=>Dh x|8,x=>mz x|9,x=>Sw x|10,x=>vR x|11,x=>Fe x|12,x=>(yq Fe) x|13,x=>(yq mz) x|14,x=>zR x|15,x=>Ff x|16,x=>oF x|17,x=>wH x|18,x=>(λ(x:bx)=>(Kv x:(AV.ip [.sl false (x.bO.map im),.i x.bY,.i x.bW,.i x.dx,.i x.bQ.bt,.i x.bQ.cy,.i x.de]).dy=true)) x|19,x=>Od x|20,x=>Fk x|21,x=>Ku x|22,x=>Fh x|23,x=>Kt x|24,x=>AH x|25,x=>Fl x|26,x=>Hq x|27,x=>Hr x|_+28,_=>rfl
theorem lR: ∀(c:Nat)(x:TS c),(TE c x).cells.length=TWd c:=λc x=>match c,x with|0,_=>rfl|1,_=>rfl|2,_=>rfl|3,_=>rfl|4,_=>rfl|5,_=>rfl|6,_=>rfl|7,_=>rfl|8,_=>rfl|9,_=>rfl|10,_=>rfl|11,_=>rfl|12,_=>rfl|13,_=>rfl|14,_=>rfl|15,_=>rfl|16,_=>rfl|17,_=>rfl|18,_=>rfl|19,_=>rfl|20,_=>rfl|21,_=>rfl|22,_=>rfl|23,_=>rfl|24,_=>rfl|25,_=>rfl|26,_=>rfl|27,_=>rfl|_+28,_=>rfl
noncomputable def TLp:Nat->yM
 |0=>Ps zP 98 13
 |1=>Ps zP 218 19
 |2=>Ps zP 218 5
 |3=>Ps zP 29 18
 |_=>⟨0,[],.skip,.skip⟩
def TKn:Nat->Nat
 |13=>1
 |16=>1
 |18=>2
 |_=>0
theorem Fm(x y:aW)(h:ij x=ij y):x=y:=by
 obtain⟨a1,a2⟩:=x;obtain⟨b1,b2⟩:=y
 simp only[ij,AV.ip.injEq,AV.agg.injEq,List.cons.injEq,AV.int.injEq,AV.bool.injEq,AV.str.injEq,AV.sl.injEq,OL,Qx]at h
 obtain⟨rfl,rfl⟩:=h
 rfl
theorem Ub(x y:(List aW))(h:(SL ij) x=(SL ij) y):x=y:=HX Fm x y (by simpa[SL]using h)
theorem Hs(x y:cW)(h:nn x=nn y):x=y:=by
 obtain⟨a1,a2,a3,a4,a5⟩:=x;obtain⟨b1,b2,b3,b4,b5⟩:=y
 simp only[nn,AV.ip.injEq,AV.agg.injEq,List.cons.injEq,AV.int.injEq,AV.bool.injEq,AV.str.injEq,AV.sl.injEq,OL,Qx]at h
 obtain⟨rfl,rfl,rfl,rfl,rfl⟩:=h
 rfl
theorem Fo(x y:cn)(h:kI x=kI y):x=y:=by
 obtain⟨a1,⟨a2,a3,a4⟩,a5,a6⟩:=x;obtain⟨b1,⟨b2,b3,b4⟩,b5,b6⟩:=y
 simp only[kI,AV.ip.injEq,AV.agg.injEq,List.cons.injEq,AV.int.injEq,AV.bool.injEq,AV.str.injEq,AV.sl.injEq,OL,Qx]at h
 obtain⟨rfl,rfl,rfl,rfl,rfl,h5⟩:=h
 cases HX Hs _ _ h5
 rfl
theorem AJ(x y:bX)(h:im x=im y):x=y:=by
 obtain⟨a1,a2⟩:=x;obtain⟨b1,b2⟩:=y
 simp only[im,AV.ip.injEq,AV.agg.injEq,List.cons.injEq,AV.int.injEq,AV.bool.injEq,AV.str.injEq,AV.sl.injEq,OL,Qx]at h
 obtain⟨rfl,rfl⟩:=h
 rfl
theorem Uc(x y:bx)(h:(λ(x:bx)=>AV.ip [.sl false (x.bO.map im),.i x.bY,.i x.bW,.i x.dx,.i x.bQ.bt,.i x.bQ.cy,.i x.de]) x=(λ(x:bx)=>AV.ip [.sl false (x.bO.map im),.i x.bY,.i x.bW,.i x.dx,.i x.bQ.bt,.i x.bQ.cy,.i x.de]) y):x=y:=by
 obtain⟨a1,a2,a3,a4,⟨a5,a6⟩,a7⟩:=x;obtain⟨b1,b2,b3,b4,⟨b5,b6⟩,b7⟩:=y
 simp only[Fj,AV.ip.injEq,AV.agg.injEq,List.cons.injEq,AV.int.injEq,AV.bool.injEq,AV.str.injEq,AV.sl.injEq,OL,Qx]at h
 obtain⟨h0,rfl,rfl,rfl,rfl,rfl,rfl⟩:=h
 cases HX AJ _ _ h0
 rfl
def TYf:(c:Nat)->Nat->TS c->TV TS
 |0,_,x=>TX 0 x
 |1,_,x=>TX 1 x
 |2,_,x=>TX 2 x
 |3,_,x=>TX 3 x
 |4,_,x=>TX 4 x
 |5,_,x=>TX 5 x
 |6,_,x=>TX 6 x
 |7,_,x=>TX 7 x
 |8,_,x=>TX 8 x
 |9,_,x=>TX 9 x
 |10,_,x=>TX 10 x
 |11,_,x=>TX 11 x
 |12,_,x=>TX 12 x
 |13,r,(x:(List aW))=>.a (.ms r 0 x.length)
 |14,_,x=>TX 14 x
 |15,_,x=>TX 15 x
 |16,r,(x:cn)=>.agg [.b x.lC,.n x.sign.value,.b x.sign.dot,.b x.sign.three,.b x.tie,.a (.ms r 0 x.df.length)]
 |17,_,x=>TX 17 x
 |18,r,(x:bx)=>.a (.mp r 0 0)
 |19,_,x=>TX 19 x
 |20,_,x=>TX 20 x
 |21,_,x=>TX 21 x
 |22,_,x=>TX 22 x
 |23,_,x=>TX 23 x
 |24,_,x=>TX 24 x
 |25,_,x=>TX 25 x
 |26,_,x=>TX 26 x
 |27,_,x=>TX 27 x
 |_+28,_,_=>.a .iE
def TZf:(c:Nat)->Nat->TS c->List (ZB TS)
 |0,_,_=>[]
 |1,_,_=>[]
 |2,_,_=>[]
 |3,_,_=>[]
 |4,_,_=>[]
 |5,_,_=>[]
 |6,_,_=>[]
 |7,_,_=>[]
 |8,_,_=>[]
 |9,_,_=>[]
 |10,_,_=>[]
 |11,_,_=>[]
 |12,_,_=>[]
 |13,_,(x:(List aW))=>[.l 2 8 x]
 |14,_,_=>[]
 |15,_,_=>[]
 |16,_,(x:cn)=>[.l 5 15 x.df]
 |17,_,_=>[]
 |18,r,(x:bx)=>[.o 7 [.agg [.a (.ms (r+1) 0 x.bO.length),.n x.bY,.n x.bW,.n x.dx,.n x.bQ.bt,.n x.bQ.cy,.n x.de]],.l 2 17 x.bO]
 |19,_,_=>[]
 |20,_,_=>[]
 |21,_,_=>[]
 |22,_,_=>[]
 |23,_,_=>[]
 |24,_,_=>[]
 |25,_,_=>[]
 |26,_,_=>[]
 |27,_,_=>[]
 |_+28,_,_=>[]
theorem aaG: ∀c,Bn TE TWd TKn TYf TZf c:=λc=>match c with
 |0=>fj rfl (λ_ _=>rfl) (λ_ y=>lQ 0 y) (lR 0) (kJ 0)
 |1=>fj rfl (λ_ _=>rfl) (λ_ y=>lQ 1 y) (lR 1) (kJ 1)
 |2=>fj rfl (λ_ _=>rfl) (λ_ y=>lQ 2 y) (lR 2) (kJ 2)
 |3=>fj rfl (λ_ _=>rfl) (λ_ y=>lQ 3 y) (lR 3) (kJ 3)
 |4=>fj rfl (λ_ _=>rfl) (λ_ y=>lQ 4 y) (lR 4) (kJ 4)
 |5=>fj rfl (λ_ _=>rfl) (λ_ y=>lQ 5 y) (lR 5) (kJ 5)
 |6=>fj rfl (λ_ _=>rfl) (λ_ y=>lQ 6 y) (lR 6) (kJ 6)
 |7=>fj rfl (λ_ _=>rfl) (λ_ y=>lQ 7 y) (lR 7) (kJ 7)
 |8=>fj rfl (λ_ _=>rfl) (λ_ y=>lQ 8 y) (lR 8) (kJ 8)
 |9=>fj rfl (λ_ _=>rfl) (λ_ y=>lQ 9 y) (lR 9) (kJ 9)
 |10=>fj rfl (λ_ _=>rfl) (λ_ y=>lQ 10 y) (lR 10) (kJ 10)
 |11=>fj rfl (λ_ _=>rfl) (λ_ y=>lQ 11 y) (lR 11) (kJ 11)
 |12=>fj rfl (λ_ _=>rfl) (λ_ y=>lQ 12 y) (lR 12) (kJ 12)
 |13=>Sy (d:=8) (n:=2) (λx=>x) rfl rfl (λ_ _=>rfl) (λ_ _=>rfl) (λ_=>rfl) (kJ 8) Ub
 |14=>fj rfl (λ_ _=>rfl) (λ_ y=>lQ 14 y) (lR 14) (kJ 14)
 |15=>fj rfl (λ_ _=>rfl) (λ_ y=>lQ 15 y) (lR 15) (kJ 15)
 |16=>Sz (d:=15) (n:=5) (p:=5) (λ(x:cn)=>x.df) (λ(x:cn)=>[.bool x.lC,.i x.sign.value,.bool x.sign.dot,.bool x.sign.three,.bool x.tie]) (λ(x:cn)=>[]) (λ_=>rfl) rfl (λ_=>rfl) (λ_ _=>rfl) (λ_ _=>rfl) (λ_=>rfl) (kJ 15) (λ_=>⟨rfl,rfl⟩) (λy x h=>by simp at h;rcases h with rfl|rfl|rfl|rfl|rfl<;>rfl) Fo
 |17=>fj rfl (λ_ _=>rfl) (λ_ y=>lQ 17 y) (lR 17) (kJ 17)
 |18=>SA (d:=17) (n:=7) (n2:=2) (λ(x:bx)=>x.bO) (λr(x:bx)=>.agg [.a (.ms (r+1) 0 x.bO.length),.n x.bY,.n x.bW,.n x.dx,.n x.bQ.bt,.n x.bQ.cy,.n x.de]) (λ(x:bx)=>[]) (λ(x:bx)=>[.i x.bY,.i x.bW,.i x.dx,.i x.bQ.bt,.i x.bQ.cy,.i x.de]) rfl rfl (λ_ _=>rfl) (λ_ _=>rfl) (λ_ _=>rfl) (λ_=>rfl) (kJ 17) (λ_=>⟨rfl,rfl⟩) Uc
 |19=>fj rfl (λ_ _=>rfl) (λ_ y=>lQ 19 y) (lR 19) (kJ 19)
 |20=>fj rfl (λ_ _=>rfl) (λ_ y=>lQ 20 y) (lR 20) (kJ 20)
 |21=>fj rfl (λ_ _=>rfl) (λ_ y=>lQ 21 y) (lR 21) (kJ 21)
 |22=>fj rfl (λ_ _=>rfl) (λ_ y=>lQ 22 y) (lR 22) (kJ 22)
 |23=>fj rfl (λ_ _=>rfl) (λ_ y=>lQ 23 y) (lR 23) (kJ 23)
 |24=>fj rfl (λ_ _=>rfl) (λ_ y=>lQ 24 y) (lR 24) (kJ 24)
 |25=>fj rfl (λ_ _=>rfl) (λ_ y=>lQ 25 y) (lR 25) (kJ 25)
 |26=>fj rfl (λ_ _=>rfl) (λ_ y=>lQ 26 y) (lR 26) (kJ 26)
 |27=>fj rfl (λ_ _=>rfl) (λ_ y=>lQ 27 y) (lR 27) (kJ 27)
 |_+28=>fj rfl (λ_ _=>rfl) (λ_ _=>rfl) (λ_=>rfl) (λ_=>rfl)
noncomputable def TT:jc:=⟨TS,TE,TX,TD,TTc,lQ,aaF,kJ,TWd,lR,TLp,TKn,TYf,TZf,aaG⟩
noncomputable section
def f15(a:bK):Option Int:=((bif decide (14<(a.ck.length:Int)) then(some true)else(some (decide (18<(a.bN.length:Int))))):Option Bool).bind λ(k:Bool)=>bif k then(some 2)else(bif decide ((a.ck.length:Int)=0) then(some 11)else((bZ (τ:=(Unit⊕Int)) (λ((i,c):(Int×Int))=>bif decide (c<(a.bN.length:Int)) then((((ix a.bN c).bind λf=>bif decide (f<=i) then(some true)else(some (decide (127<f)))):Option Bool).bind λ(j:Bool)=>bif j then(some (.inr (.inr 11)))else((ix a.bN c).bind λn=>some (.inl (n,wr (c+1)))))else(some (.inr (.inl ())))) cz (0,0)).bind (Sum.elim (λ(_:Unit)=>(bZ (τ:=(Unit⊕Int)) (λ(d:Int)=>bif decide (d<(a.ck.length:Int)) then((ix a.ck d).bind λb=>((bif decide (b.dG<0) then(some true)else(some (decide ((a.bN.length:Int)<b.dG)))):Option Bool).bind λ(l:Bool)=>bif l then(some (.inr (.inr 13)))else(((bif decide (b.bY<0) then(some true)else(some (decide (127<b.bY)))):Option Bool).bind λ(h:Bool)=>bif h then(some (.inr (.inr 10)))else(((bif decide (0<b.dG) then((ix a.bN (wr (b.dG-1))).bind λm=>some (wr (b.bY+m)))else(some b.bY)):Option Int).bind λ(e:Int)=>((bif b.js then(some (wr (e+12)))else(some e)):Option Int).bind λ(g:Int)=>bif decide (127<g) then(some (.inr (.inr 10)))else(some (.inl (wr (d+1)))))))else(some (.inr (.inl ())))) cz 0).bind (Sum.elim (λ(_:Unit)=>some 0) some)) some)))
def f82(c:List bP):Option Bool:=(bZ (τ:=(Unit⊕Bool)) (λ(b:Int)=>bif decide (b<(c.length:Int)) then((ix c b).bind λa=>((bif decide (a.bY<0) then(some true)else(bif decide (127<a.bY) then(some true)else(bif decide (a.bW<0) then(some true)else(bif decide (a.dx<=a.bW) then(some true)else(bif decide (262144<a.dx) then(some true)else(bif decide (0<b) then((ix c (wr (b-1))).bind λe=>some (decide (a.bW<e.dx)))else(some false))))))):Option Bool).bind λ(d:Bool)=>bif d then(some (.inr (.inr false)))else(some (.inl (wr (b+1)))))else(some (.inr (.inl ())))) cz 0).bind (Sum.elim (λ(_:Unit)=>some true) some)
def f33(a:List (List bP)):Option Int:=(bZ (τ:=Bool) (λ((d,c):(Bool×Int))=>bif decide (c<(a.length:Int)) then(((bif d then(some true)else((ix a c).bind λg=>some (decide (400<(g.length:Int))))):Option Bool).bind λ(h:Bool)=>some (.inl (h,wr (c+1))))else(some (.inr d))) cz ((decide (6<(a.length:Int))),0)).bind λ(f:Bool)=>bif f then(some 2)else((bZ (τ:=(Unit⊕Int)) (λ(b:Int)=>bif decide (b<(a.length:Int)) then((ix a b).bind λe=>(f82 e).bind λi=>bif (!i)then(some (.inr (.inr 80)))else(some (.inl (wr (b+1)))))else(some (.inr (.inl ())))) cz 0).bind (Sum.elim (λ(_:Unit)=>some 0) some))
def f105(a:List Int)(d:Int):Option (List Int):=(bZ (τ:=Int) (λ(c:Int)=>((bif decide (0<c) then((ix a (wr (c-1))).bind λg=>some (decide (d<=g)))else(some false)):Option Bool).bind λ(h:Bool)=>bif h then(some (.inl (wr (c-1))))else(some (.inr c))) cz (a.length:Int)).bind λ(b:Int)=>((bif decide (b<(a.length:Int)) then((ix a b).bind λe=>some (decide (e=d)))else(some false)):Option Bool).bind λ(f:Bool)=>bif f then(some a)else(cu (a.length+1<=bJ)<|cu (0<=(wr (b+1)))<|cu ((wr (b+1)).toNat<=(a++([0]:List Int)).length)<|cu (0<=b)<|cu (b.toNat<=(a++([0]:List Int)).length)<|cu (b.toNat+((a++([0]:List Int)).length-b.toNat)<=(a++([0]:List Int)).length)<|cu ((wr (b+1)).toNat+((a++([0]:List Int)).length-(wr (b+1)).toNat)<=(a++([0]:List Int)).length)<|cu ((Oy (a++([0]:List Int)) (wr (b+1)).toNat ((a++([0]:List Int)).length-(wr (b+1)).toNat) (((a++([0]:List Int)).drop b.toNat).take ((a++([0]:List Int)).length-b.toNat))).length=(a++([0]:List Int)).length)<|(ix (Oy (a++([0]:List Int)) (wr (b+1)).toNat ((a++([0]:List Int)).length-(wr (b+1)).toNat) (((a++([0]:List Int)).drop b.toNat).take ((a++([0]:List Int)).length-b.toNat))) b).bind λi=>some ((Oy (a++([0]:List Int)) (wr (b+1)).toNat ((a++([0]:List Int)).length-(wr (b+1)).toNat) (((a++([0]:List Int)).drop b.toNat).take ((a++([0]:List Int)).length-b.toNat))).set b.toNat d))
def f106(f:List (List bP))(d:Int):Option Bool:=(bZ (τ:=(Unit⊕Bool)) (λ(b:Int)=>bif decide (b<(f.length:Int)) then((bZ (τ:=(Unit⊕(Int⊕(Unit⊕Bool)))) (λ(a:Int)=>(ix f b).bind λe=>bif decide (a<(e.length:Int)) then((((ix e a).bind λc=>bif decide (c.bW<=d) then(some (decide (d<c.dx)))else(some false)):Option Bool).bind λ(g:Bool)=>bif g then(some (.inr (.inr (.inr (.inr false)))))else(some (.inl (wr (a+1)))))else(some (.inr (.inl ())))) cz 0).bind (Sum.elim (λ(_:Unit)=>some (.inl (wr (b+1)))) some))else(some (.inr (.inl ())))) cz 0).bind (Sum.elim (λ(_:Unit)=>some true) some)
def f53(d:List (List bP)):Option ((List Int)):=(bZ (τ:=(List Int)) (λ((h,c):(List Int×Int))=>bif decide (c<(d.length:Int)) then((bZ (τ:=(List Int)) (λ((f,a):(List Int×Int))=>(ix d c).bind λg=>bif decide (a<(g.length:Int)) then((((ix g a).bind λb=>(f105 f b.bW).bind λe=>(f106 d b.dx).bind λk=>bif k then((f105 e b.dx).bind λi=>some i)else(some e)):Option (List Int)).bind λ(l:(List Int))=>some (.inl (l,wr (a+1))))else(some (.inr f))) cz (h,0)).bind λ(m:(List Int))=>some (.inl (m,wr (c+1))))else(some (.inr h))) cz (([0]:List Int),0)).bind λ(j:(List Int))=>some j
def f34(b:List (List bP)):Option (((List Int))×Int):=(f33 b).bind λa=>bif decide (a≠0) then(some (([]:List Int),a))else((f53 b).bind λc=>some (c,0))
def f83(c:bK)(a:aW):Option Int:=(ix c.ck (wr (a.bt-1))).bind λb=>((bif decide (0<a.cy) then((ix c.bN (wr (a.cy-1))).bind λd=>some (wr (b.bY+d)))else(some b.bY)):Option Int).bind λ(e:Int)=>some e
def f35(c:bK)(e:Int):Option (((List aW))×Int):=(f15 c).bind λf=>bif decide (f≠0) then(some (([]:List aW),f))else(((bif decide (e<0) then(some true)else(some (decide (127<e)))):Option Bool).bind λ(m:Bool)=>bif m then(some (([]:List aW),10))else((bZ (τ:=(List aW)) (λ((g,a):(List aW×Int))=>bif decide (a<=(c.ck.length:Int)) then((bZ (τ:=(List aW)) (λ((d,b):(List aW×Int))=>(ix c.ck (wr (a-1))).bind λh=>bif decide (b<=h.dG) then((((f83 c (⟨a,b⟩:aW)).bind λj=>bif decide (j=e) then(cu (d.length+1<=bJ)<|some (d++([(⟨a,b⟩:aW)]:List aW)))else(some d)):Option (List aW)).bind λ(i:(List aW))=>some (.inl (i,wr (b+1))))else(some (.inr d))) cz (g,0)).bind λ(k:(List aW))=>some (.inl (k,wr (a+1))))else(some (.inr g))) cz (([]:List aW),1)).bind λ(l:(List aW))=>some (l,0)))
def f9(a:gk):Option Bool:=(((f33 a.cA).bind λn=>bif decide (n≠0) then(some true)else((f15 a.instrument).bind λl=>some (decide (l≠0)))):Option Bool).bind λ(p:Bool)=>bif p then(some false)else(bif decide (4<(a.cA.length:Int)) then(some true)else((bZ (τ:=Int) (λ((g,c):(Int×Int))=>bif decide (c<(a.cA.length:Int)) then((ix a.cA c).bind λr=>some (.inl ((wr (g+(r.length:Int))),wr (c+1))))else(some (.inr g))) cz (0,0)).bind λ(t:Int)=>bif decide (24<t) then(some true)else((f34 a.cA).bind λk=>(bZ (τ:=(Unit⊕Bool)) (λ(f:Int)=>bif decide (f<(k.1.length:Int)) then((bZ (τ:=Int) (λ((j,d):(Int×Int))=>bif decide (d<(a.cA.length:Int)) then((bZ (τ:=Int) (λ((e,b):(Int×Int))=>(ix a.cA d).bind λh=>bif decide (b<(h.length:Int)) then((((ix h b).bind λi=>(((ix k.1 f).bind λs=>bif decide (i.bW=s) then(bif decide (-1000<a.shift) then(some (decide (a.shift<1000)))else(some false))else(some false)):Option Bool).bind λ(m:Bool)=>bif m then((f35 a.instrument (wr (i.bY+a.shift))).bind λq=>some (wr (e*(kM 1 (q.1.length:Int)))))else(some e)):Option Int).bind λ(o:Int)=>some (.inl (o,wr (b+1))))else(some (.inr e))) cz (j,0)).bind λ(u:Int)=>some (.inl (u,wr (d+1))))else(some (.inr j))) cz (1,0)).bind λ(v:Int)=>bif decide (300<v) then(some (.inr (.inr true)))else(some (.inl (wr (f+1)))))else(some (.inr (.inl ())))) cz 0).bind (Sum.elim (λ(_:Unit)=>some false) some))))
def f146:Option ((List ByteArray)):=some ([(ByteArray.mk #[108,117,116,101,54]),(ByteArray.mk #[108,117,116,101,55]),(ByteArray.mk #[108,117,116,101,49,48]),(ByteArray.mk #[98,97,114,111,113,117,101,49,51]),(ByteArray.mk #[116,104,101,111,114,98,111,49,52]),(ByteArray.mk #[118,105,104,117,101,108,97,54]),(ByteArray.mk #[103,117,105,116,97,114,52]),(ByteArray.mk #[103,117,105,116,97,114,53]),(ByteArray.mk #[99,105,116,116,101,114,110,52])]:List ByteArray)
def f148:Option ((List ByteArray)):=some ([(ByteArray.mk #[71,52,47,56,32,68,52,47,56,32,65,51,47,56,32,70,51,47,56,43,32,67,51,47,56,43,32,71,50,47,56,43,32,58,32,49,32,50,32,51,32,52,32,53,32,54,32,55,32,56]),(ByteArray.mk #[71,52,47,56,32,68,52,47,56,32,65,51,47,56,32,70,51,47,56,43,32,67,51,47,56,43,32,71,50,47,56,43,32,68,50,47,56,43,32,58,32,49,32,50,32,51,32,52,32,53,32,54,32,55,32,56]),(ByteArray.mk #[71,52,47,56,32,68,52,47,56,32,65,51,47,56,32,70,51,47,56,32,67,51,47,56,43,32,71,50,47,56,43,32,70,50,47,56,43,32,69,98,50,47,56,43,32,68,50,47,56,43,32,67,50,47,56,43,32,58,32,49,32,50,32,51,32,52,32,53,32,54,32,55,32,56]),(ByteArray.mk #[70,52,47,57,32,68,52,47,57,32,65,51,47,57,32,70,51,47,57,32,68,51,47,57,32,65,50,47,57,43,32,71,50,47,57,43,32,70,50,47,57,43,32,69,50,47,48,43,32,68,50,47,48,43,32,67,50,47,48,43,32,66,49,47,48,43,32,65,49,47,48,43,32,58,32,49,32,50,32,51,32,52,32,53,32,54,32,55,32,56,32,57]),(ByteArray.mk #[65,51,47,56,32,69,51,47,56,32,66,51,47,56,32,71,51,47,56,32,68,51,47,56,32,65,50,47,56,32,71,50,47,48,32,70,50,47,48,32,69,50,47,48,32,68,50,47,48,32,67,50,47,48,32,66,49,47,48,32,65,49,47,48,32,71,49,47,48,32,58,32,49,32,50,32,51,32,52,32,53,32,54,32,55,32,56]),(ByteArray.mk #[71,52,47,49,48,32,68,52,47,49,48,32,65,51,47,49,48,32,70,51,47,49,48,32,67,51,47,49,48,32,71,50,47,49,48,32,58,32,49,32,50,32,51,32,52,32,53,32,54,32,55,32,56,32,57,32,49,48]),(ByteArray.mk #[65,52,47,56,32,69,52,47,56,32,67,52,47,56,32,71,51,47,56,43,32,58,32,49,32,50,32,51,32,52,32,53,32,54,32,55,32,56]),(ByteArray.mk #[69,52,47,56,32,66,51,47,56,32,71,51,47,56,32,68,52,47,56,32,65,51,47,56,32,58,32,49,32,50,32,51,32,52,32,53,32,54,32,55,32,56]),(ByteArray.mk #[69,52,47,57,32,68,52,47,57,32,71,51,47,57,32,66,51,47,57,32,58,32,50,32,51,32,52,32,53,32,55,32,57,32,49,48,32,49,49,32,49,50])]:List ByteArray)
def f204(b:ByteArray):Option ((List ByteArray)):=(bZ (τ:=(List ByteArray)) (λ((c,d,a):(List ByteArray×Int×Int))=>bif decide (a<=(b.size:Int)) then(((((bif decide (a=(b.size:Int)) then(some true)else(cu ((0:Int)<=a/\a<(b.size:Int))<|some (decide ((Av b a)=32)))):Option Bool).bind λ(g:Bool)=>bif g then(cu (0<=d)<|cu (0<=a)<|cu (d.toNat<=a.toNat/\a.toNat<=b.size)<|cu (c.length+1<=bJ)<|some ((c++([(b.extract d.toNat a.toNat)]:List ByteArray)),wr (a+1)))else(some (c,d))):Option (List ByteArray×Int)).bind λ((h,e):(List ByteArray×Int))=>some (.inl (h,e,wr (a+1))))else(some (.inr c))) cz (([]:List ByteArray),0,0)).bind λ(f:(List ByteArray))=>some f
def f298(b:Int):Option Int:=(bZ (τ:=(Unit⊕Int)) (λ(a:Int)=>bif decide (a<7) then(cu ((0:Int)<=a/\a<((ByteArray.mk #[67,68,69,70,71,65,66]).size:Int))<|bif (decide ((Av (ByteArray.mk #[67,68,69,70,71,65,66]) a)=b))then(some (.inr (.inr a)))else(some (.inl (wr (a+1)))))else(some (.inr (.inl ())))) cz 0).bind (Sum.elim (λ(_:Unit)=>some (-1)) some)
def f300(a:Int):Option Int:=bif decide (a<3) then(some (wr (2*a)))else(some (wr ((wr (2*a))-1)))
def f299(a:dO):Option Bool:=((bif decide (a.qP<0) then(some true)else(bif decide (6<a.qP) then(some true)else(bif decide (a.alter< -1) then(some true)else(bif decide (1<a.alter) then(some true)else(bif decide (a.js< -1) then(some true)else(some (decide (9<a.js)))))))):Option Bool).bind λ(c:Bool)=>bif c then(some false)else((f300 a.qP).bind λb=>((bif (decide (0<=(wr ((wr ((wr (12*(wr (a.js+1))))+b))+a.alter))))then(some (decide ((wr ((wr ((wr (12*(wr (a.js+1))))+b))+a.alter))<=127)))else(some false)):Option Bool).bind λ(d:Bool)=>some d)
def f250(a:ByteArray):Option (dO×Int):=((bif decide ((a.size:Int)<2) then(some true)else(cu ((0:Int)<=0/\0<(a.size:Int))<|(f298 (Av a 0)).bind λg=>some (decide (g<0)))):Option Bool).bind λ(i:Bool)=>bif i then(some ((⟨0,0,0⟩:dO),4))else(cu ((0:Int)<=0/\0<(a.size:Int))<|(f298 (Av a 0)).bind λe=>cu (1<=a.size/\a.size<=a.size)<|((cu ((0:Int)<=0/\0<((a.extract 1 a.size).size:Int))<|bif (decide ((Av (a.extract 1 a.size) 0)=35))then(cu (1<=(a.extract 1 a.size).size/\(a.extract 1 a.size).size<=(a.extract 1 a.size).size)<|some (1,((a.extract 1 a.size).extract 1 (a.extract 1 a.size).size)))else(bif (decide ((Av (a.extract 1 a.size) 0)=98))then(cu (1<=(a.extract 1 a.size).size/\(a.extract 1 a.size).size<=(a.extract 1 a.size).size)<|some (-1,((a.extract 1 a.size).extract 1 (a.extract 1 a.size).size)))else(some (0,(a.extract 1 a.size))))):Option (Int×ByteArray)).bind λ((d,b):(Int×ByteArray))=>((bif (b.toList==(ByteArray.mk #[45,49]).toList)then(some (.inl (-1)))else(((bif decide ((b.size:Int)=1) then(cu ((0:Int)<=0/\0<(b.size:Int))<|bif decide (48<=(Av b 0)) then(some (decide ((Av b 0)<=57)))else(some false))else(some false)):Option Bool).bind λ(f:Bool)=>bif f then(cu ((0:Int)<=0/\0<(b.size:Int))<|some (.inl (wr ((IntKind.wrap .u8 ((Av b 0)-48))))))else(some (.inr ((⟨0,0,0⟩:dO),4))))):Option (Int⊕(dO×Int))).bind (Sum.elim (λ(c:Int)=>(f299 (⟨e,d,c⟩:dO)).bind λh=>bif (!h)then(some ((⟨0,0,0⟩:dO),10))else(some ((⟨e,d,c⟩:dO),0))) some))
def f206(a:ByteArray):Option (Int×Bool):=((bif decide ((a.size:Int)<1) then(some true)else(bif decide (3<(a.size:Int)) then(some true)else(cu ((0:Int)<=0/\0<(a.size:Int))<|bif decide ((Av a 0)=48) then(some (decide (1<(a.size:Int))))else(some false)))):Option Bool).bind λ(e:Bool)=>bif e then(some (0,false))else((bZ (τ:=(Int⊕(Int×Bool))) (λ((c,b):(Int×Int))=>bif decide (b<(a.size:Int)) then(((cu ((0:Int)<=b/\b<(a.size:Int))<|bif decide ((Av a b)<48) then(some true)else(some (decide (57<(Av a b))))):Option Bool).bind λ(f:Bool)=>bif f then(some (.inr (.inr (0,false))))else(cu ((0:Int)<=b/\b<(a.size:Int))<|some (.inl ((wr ((wr (10*c))+(wr ((IntKind.wrap .u8 ((Av a b)-48)))))),wr (b+1)))))else(some (.inr (.inl c)))) cz (0,0)).bind (Sum.elim (λ(d:Int)=>some (d,true)) some))
def f251(a:dO):Option (Int×Int):=(f299 a).bind λb=>bif (!b)then(some (0,10))else((f300 a.qP).bind λc=>some ((wr ((wr ((wr (12*(wr (a.js+1))))+c))+a.alter)),0))
def f205(a:ByteArray):Option (cO×Int):=((((bif decide (0<(a.size:Int)) then(cu ((0:Int)<=(wr ((a.size:Int)-1))/\(wr ((a.size:Int)-1))<(a.size:Int))<|some (decide ((Av a (wr ((a.size:Int)-1)))=43)))else(some false)):Option Bool).bind λ(j:Bool)=>bif j then(cu (0<=(wr ((a.size:Int)-1)))<|cu (0<=(wr ((a.size:Int)-1)).toNat/\(wr ((a.size:Int)-1)).toNat<=a.size)<|some ((a.extract 0 (wr ((a.size:Int)-1)).toNat),true))else(some (a,false))):Option (ByteArray×Bool)).bind λ((b,k):(ByteArray×Bool))=>(bZ (τ:=Int) (λ(d:Int)=>((bif decide (d<(b.size:Int)) then(cu ((0:Int)<=d/\d<(b.size:Int))<|some (decide ((Av b d)≠47)))else(some false)):Option Bool).bind λ(g:Bool)=>bif g then(some (.inl (wr (d+1))))else(some (.inr d))) cz 0).bind λ(c:Int)=>bif decide (c=(b.size:Int)) then(some ((⟨0,0,false⟩:cO),4))else(cu (0<=c)<|cu (0<=c.toNat/\c.toNat<=b.size)<|(f250 (b.extract 0 c.toNat)).bind λe=>cu (0<=(wr (c+1)))<|cu ((wr (c+1)).toNat<=b.size/\b.size<=b.size)<|(f206 (b.extract (wr (c+1)).toNat b.size)).bind λf=>((bif decide (e.2=4) then(some true)else(some (!f.2))):Option Bool).bind λ(i:Bool)=>bif i then(some ((⟨0,0,false⟩:cO),4))else(bif decide (e.2≠0) then(some ((⟨0,0,false⟩:cO),e.2))else((f251 e.1).bind λh=>some ((⟨h.1,f.1,k⟩:cO),0))))
def f207(b:bK):Option (bK×Int):=(f15 b).bind λa=>bif decide (a≠0) then(some ((⟨([]:List cO),([]:List Int)⟩:bK),a))else(some (b,0))
def f147(q:ByteArray):Option (bK×Int):=(f204 q).bind λa=>(bZ (τ:=Int) (λ(b:Int)=>((bif decide (b<(a.length:Int)) then((ix a b).bind λn=>some (!(n.toList==(ByteArray.mk #[58]).toList)))else(some false)):Option Bool).bind λ(k:Bool)=>bif k then(some (.inl (wr (b+1))))else(some (.inr b))) cz 0).bind λ(g:Int)=>bif decide (g=(a.length:Int)) then(some ((⟨([]:List cO),([]:List Int)⟩:bK),4))else((bZ (τ:=((List cO)⊕(bK×Int))) (λ((f,h):(List cO×Int))=>bif decide (h<g) then((ix a h).bind λo=>(f205 o).bind λd=>bif decide (d.2≠0) then(some (.inr (.inr ((⟨([]:List cO),([]:List Int)⟩:bK),d.2))))else(cu (f.length+1<=bJ)<|some (.inl ((f++([d.1]:List cO)),wr (h+1)))))else(some (.inr (.inl f)))) cz (([]:List cO),0)).bind (Sum.elim (λ(l:(List cO))=>(bZ (τ:=((List Int)⊕(bK×Int))) (λ((c,e):(List Int×Int))=>bif decide (e<(a.length:Int)) then((ix a e).bind λp=>(f206 p).bind λi=>bif (!i.2)then(some (.inr (.inr ((⟨([]:List cO),([]:List Int)⟩:bK),4))))else(cu (c.length+1<=bJ)<|some (.inl ((c++([i.1]:List Int)),wr (e+1)))))else(some (.inr (.inl c)))) cz (([]:List Int),wr (g+1))).bind (Sum.elim (λ(m:(List Int))=>(f207 (⟨l,m⟩:bK)).bind λj=>some (j.1,j.2)) some)) some))
def f84(g:ByteArray):Option (bK×Int):=(f146).bind λb=>(bZ (τ:=(Unit⊕(bK×Int))) (λ(a:Int)=>bif decide (a<(b.length:Int)) then((ix b a).bind λf=>bif (f.toList==g.toList)then((f148).bind λe=>(ix e a).bind λd=>(f147 d).bind λc=>some (.inr (.inr (c.1,c.2))))else(some (.inl (wr (a+1)))))else(some (.inr (.inl ())))) cz 0).bind (Sum.elim (λ(_:Unit)=>some ((⟨([]:List cO),([]:List Int)⟩:bK),3)) some)
def f36:Option bK:=(f84 (ByteArray.mk #[108,117,116,101,54])).bind λa=>some a.1
def f37:Option eA:=some (⟨([0,1,2,3]:List Int),([0,2,3,4]:List Int),([true,false,false,false]:List Bool),12,7,2,3,4,2,1⟩:eA)
def f74(a:List bP):Option Bool:=some (decide (400<(a.length:Int)))
def f138(b:List (List bP)):Option Int:=(bZ (τ:=(Unit⊕Int)) (λ(a:Int)=>bif decide (a<(b.length:Int)) then((ix b a).bind λc=>(f74 c).bind λd=>bif d then(some (.inr (.inr a)))else(some (.inl (wr (a+1)))))else(some (.inr (.inl ())))) cz 0).bind (Sum.elim (λ(_:Unit)=>some (-1)) some)
def f73(b:List (List bP)):Option Bool:=(f138 b).bind λa=>some (decide (0<=a))
def f75(a:Int)(c:Int)(d:Int):Option Bool:=((bif decide (c<=a) then(some (decide (a<=d)))else(some false)):Option Bool).bind λ(b:Bool)=>some b
def f28(b:List (List bP)):Option Int:=((bif decide (6<(b.length:Int)) then(some true)else((f73 b).bind λj=>some j)):Option Bool).bind λ(i:Bool)=>bif i then(some 2)else((bZ (τ:=(Unit⊕Int)) (λ(c:Int)=>bif decide (c<(b.length:Int)) then((ix b c).bind λe=>(bZ (τ:=(Unit⊕(Int⊕(Unit⊕Int)))) (λ((h,d):(Int×Int))=>bif decide (d<(e.length:Int)) then((ix e d).bind λa=>(((f75 a.bY 0 127).bind λf=>bif (!f)then(some true)else(bif decide (a.bW<h) then(some true)else(bif decide (a.dx<=a.bW) then(some true)else(some (decide (262144<a.dx)))))):Option Bool).bind λ(g:Bool)=>bif g then(some (.inr (.inr (.inr (.inr 80)))))else(some (.inl (a.dx,wr (d+1)))))else(some (.inr (.inl ())))) cz (0,0)).bind (Sum.elim (λ(_:Unit)=>some (.inl (wr (c+1)))) some))else(some (.inr (.inl ())))) cz 0).bind (Sum.elim (λ(_:Unit)=>some 0) some))
def f135(e:bK)(a:cO):Option Int:=((bif decide (0<a.dG) then((ix e.bN (wr (a.dG-1))).bind λc=>some (wr (a.bY+c)))else(some a.bY)):Option Int).bind λ(b:Int)=>((bif a.js then(some (wr (b+12)))else(some b)):Option Int).bind λ(d:Int)=>some d
def f70(a:bK):Option Int:=((bif decide (14<(a.ck.length:Int)) then(some true)else(some (decide (18<(a.bN.length:Int))))):Option Bool).bind λ(j:Bool)=>bif j then(some 2)else(bif decide ((a.ck.length:Int)=0) then(some 11)else((bZ (τ:=(Unit⊕Int)) (λ((i,e):(Int×Int))=>bif decide (e<(a.bN.length:Int)) then((ix a.bN e).bind λc=>((bif decide (c<=i) then(some true)else(some (decide (127<c)))):Option Bool).bind λ(g:Bool)=>bif g then(some (.inr (.inr 11)))else(some (.inl (c,wr (e+1)))))else(some (.inr (.inl ())))) cz (0,0)).bind (Sum.elim (λ(_:Unit)=>(bZ (τ:=(Unit⊕Int)) (λ(d:Int)=>bif decide (d<(a.ck.length:Int)) then((ix a.ck d).bind λb=>((bif decide (b.dG<0) then(some true)else(some (decide ((a.bN.length:Int)<b.dG)))):Option Bool).bind λ(k:Bool)=>bif k then(some (.inr (.inr 13)))else(((bif decide (b.bY<0) then(some true)else(bif decide (127<b.bY) then(some true)else((f135 a b).bind λh=>some (decide (127<h))))):Option Bool).bind λ(f:Bool)=>bif f then(some (.inr (.inr 10)))else(some (.inl (wr (d+1))))))else(some (.inr (.inl ())))) cz 0).bind (Sum.elim (λ(_:Unit)=>some 0) some)) some)))
def f38(b:List (List bP))(c:bK):Option Int:=(f28 b).bind λa=>bif decide (a≠0) then(some a)else((f70 c).bind λd=>some d)
def f85(a:Int)(c:Int)(d:Int):Option Bool:=((bif decide (c<=a) then(some (decide (a<=d)))else(some false)):Option Bool).bind λ(b:Bool)=>some b
def f177(a:Int):Option Bool:=some (decide (a≠a))
def f149(b:Int)(a:Int):Option Bool:=(((f177 b).bind λc=>bif c then((f177 a).bind λd=>bif (!d)then(some true)else(some (decide (b<a))))else(some (decide (b<a)))):Option Bool).bind λ(e:Bool)=>some e
def f86(b:List Int):Option Bool:=(bZ (τ:=(Unit⊕Bool)) (λ(a:Int)=>bif decide (0<a) then((ix b a).bind λe=>(ix b (wr (a-1))).bind λd=>(f149 e d).bind λc=>bif c then(some (.inr (.inr false)))else(some (.inl (wr (a-1)))))else(some (.inr (.inl ())))) cz (wr ((b.length:Int)-1))).bind (Sum.elim (λ(_:Unit)=>some true) some)
def f39(a:eA):Option Int:=(((f85 (a.low.length:Int) 1 4).bind λh=>bif (!h)then(some true)else(bif decide ((a.high.length:Int)≠(a.low.length:Int)) then(some true)else(some (decide ((a.gh.length:Int)≠(a.low.length:Int)))))):Option Bool).bind λ(i:Bool)=>bif i then(some 60)else((bZ (τ:=(Unit⊕Int)) (λ(b:Int)=>bif decide (b<(a.low.length:Int)) then((((ix a.low b).bind λd=>bif decide (d<0) then(some true)else((ix a.high b).bind λe=>bif decide (e<d) then(some true)else(some (decide (8<e))))):Option Bool).bind λ(l:Bool)=>bif l then(some (.inr (.inr 60)))else(some (.inl (wr (b+1)))))else(some (.inr (.inl ())))) cz 0).bind (Sum.elim (λ(_:Unit)=>(((f86 a.low).bind λm=>bif (!m)then(some true)else((f86 a.high).bind λk=>bif (!k)then(some true)else((f85 a.top 1 18).bind λn=>bif (!n)then(some true)else((f85 a.jump 0 18).bind λg=>some (!g))))):Option Bool).bind λ(f:Bool)=>bif f then(some 60)else((bZ (τ:=(Unit⊕Int)) (λ(c:Int)=>bif decide (c<5) then((ix ([a.shift,a.lift,a.lC,a.eH,a.gK]:List Int) c).bind λj=>(f85 j 0 1000).bind λo=>bif (!o)then(some (.inr (.inr 60)))else(some (.inl (wr (c+1)))))else(some (.inr (.inl ())))) cz 0).bind (Sum.elim (λ(_:Unit)=>some 0) some))) some))
def f40(a:Int)(c:Int)(d:Int):Option Bool:=((bif decide (c<=a) then(some (decide (a<=d)))else(some false)):Option Bool).bind λ(b:Bool)=>some b
def f150(a:Int):Option (List bP):=if 0<=a/\a<=4194304 then some []else none
def f87(b:List (List bP)):Option ((List bP)):=(bZ (τ:=Int) (λ((e,f):(Int×Int))=>bif decide (f<(b.length:Int)) then((((ix b f).bind λg=>bif (decide ((wr (e+(g.length:Int)))<0))then(none)else(some (wr (e+(g.length:Int))))):Option Int).bind λ(l:Int)=>some (.inl (l,wr (f+1))))else(some (.inr e))) cz (0,0)).bind λ(h:Int)=>(f150 h).bind λi=>(bZ (τ:=(List bP)) (λ((a,d):(List bP×Int))=>bif decide (d<(b.length:Int)) then((ix b d).bind λc=>((bif c.isEmpty then(some a)else(cu (a.length+c.length<=bJ)<|some (a++c))):Option (List bP)).bind λ(j:(List bP))=>some (.inl (j,wr (d+1))))else(some (.inr a))) cz (i,0)).bind λ(k:(List bP))=>some k
def f89(a:bP)(b:bP):Option Bool:=((bif decide (a.bW<=b.dx) then(some (decide (b.dx<a.dx)))else(some false)):Option Bool).bind λ(c:Bool)=>some c
def f151(b:List bP)(e:bP):Option Int:=(bZ (τ:=(Unit⊕Int)) (λ(a:Int)=>bif decide (a<(b.length:Int)) then((ix b a).bind λd=>(f89 d e).bind λc=>bif c then(some (.inr (.inr a)))else(some (.inl (wr (a+1)))))else(some (.inr (.inl ())))) cz 0).bind (Sum.elim (λ(_:Unit)=>some (-1)) some)
def f88(b:List bP)(c:bP):Option Bool:=(f151 b c).bind λa=>some (decide (0<=a))
def f90(a:List Int):Option (List Int):=if a.length<=4194304 then some (kr a)else none
def f91(a:List Int):Option (List Int):=if 0<a.length/\a.length<=4194304 then some (Go.Lib.compact a)else none
def f41(j:List (List bP)):Option ((List Int)):=(f87 j).bind λc=>(bZ (τ:=(List Int)) (λ((b,d):(List Int×Int))=>bif decide (d<(c.length:Int)) then((((ix c d).bind λa=>cu (b.length+1<=bJ)<|(f88 c a).bind λh=>bif (!h)then(cu ((b++([a.bW]:List Int)).length+1<=bJ)<|some ((b++([a.bW]:List Int))++([a.dx]:List Int)))else(some (b++([a.bW]:List Int)))):Option (List Int)).bind λ(g:(List Int))=>some (.inl (g,wr (d+1))))else(some (.inr b))) cz (([0]:List Int),0)).bind λ(f:(List Int))=>(f90 f).bind λe=>cu (e.length=f.length)<|(f91 e).bind λi=>some i
def f93(a:cN):Option Int:=((bif decide (a.value<1) then(some true)else(bif decide (7<a.value) then(some true)else(bif a.dot then(some a.three)else(some false)))):Option Bool).bind λ(b:Bool)=>bif b then(some 0)else(cu (0<=(wr (a.value-1)))<|bif a.dot then(some (wr ((wr (Int.tdiv (eu 384 (wr (a.value-1))) 2))*3)))else(bif a.three then(some (wr ((wr (Int.tdiv (eu 384 (wr (a.value-1))) 3))*2)))else(some (eu 384 (wr (a.value-1))))))
def f154(b:cN)(c:cN):Option Int:=(f93 c).bind λa=>(f93 b).bind λd=>some (wr (a-d))
def f153(a:List cN):Option (List cN):=sA f154 a
def f92:Option ((List cN)):=(bZ (τ:=(List cN)) (λ((b,a):(List cN×Int))=>bif decide (a<=7) then(cu (b.length+3<=bJ)<|some (.inl ((b++([(⟨a,false,false⟩:cN),(⟨a,true,false⟩:cN),(⟨a,false,true⟩:cN)]:List cN)),wr (a+1))))else(some (.inr b))) cz (([]:List cN),1)).bind λ(d:(List cN))=>(f153 d).bind λc=>cu (c.length=d.length)<|some c
def f94r:Nat->Int->Int->(List cN)->(List Int)->(List cN)->Option (Bool×List cN)
 |0,_,_,_,_,_=>none
 |o+1,c,l,g,e,i=>bif decide (c=0) then(some (true,i))else((bZ (τ:=((List cN)⊕(Bool×List cN))) (λ((d,f):(List cN×Int))=>bif decide (f<(g.length:Int)) then((((ix g f).bind λh=>(f93 h).bind λb=>((bif decide (l<b) then(some true)else(bif decide (c<b) then(some true)else((ix e (wr (c-b))).bind λk=>(ix e c).bind λp=>some (decide (k≠(wr (p-1))))))):Option Bool).bind λ(m:Bool)=>bif m then(some (.inl d))else(cu (d.length+1<=bJ)<|(f94r o (wr (c-b)) b g e (d++([h]:List cN))).bind λa=>bif a.1 then(some (.inr (.inr (.inr (true,a.2)))))else(cu (0<=(wr ((a.2.length:Int)-1)))<|cu ((wr ((a.2.length:Int)-1)).toNat<=a.2.length)<|cu ((wr ((a.2.length:Int)-1)).toNat<=a.2.length)<|some (.inl (a.2.take (wr ((a.2.length:Int)-1)).toNat))))):Option ((List cN)⊕((List cN×Int)⊕((List cN)⊕(Bool×List cN))))).bind (Sum.elim (λ(n:(List cN))=>some (.inl (n,wr (f+1)))) some))else(some (.inr (.inl d)))) cz (i,0)).bind (Sum.elim (λ(j:(List cN))=>some (false,j)) some))
def f94(e:Int)(c:Int)(d:List cN)(a:List Int)(b:List cN):Option (Bool×List cN):=f94r cz e c d a b
def f42(b:Int):Option (((List cN))×Int):=((bif decide (b<0) then(some true)else(some (decide (4608<b)))):Option Bool).bind λ(r:Bool)=>bif r then(some (([]:List cN),1))else((f92).bind λd=>cu (0<=(wr (b+1)))<|cu ((wr (b+1))<=(bJ:Int))<|(bZ (τ:=(List Int)) (λ((f,a):(List Int×Int))=>bif decide (a<=b) then((ix f a).bind λs=>(bZ (τ:=(List Int)) (λ((c,e):(List Int×Int))=>bif decide (e<(d.length:Int)) then((((ix d e).bind λp=>(f93 p).bind λg=>((bif (decide (0<=(wr (a-g))))then((ix c (wr (a-g))).bind λh=>bif decide (0<=h) then((ix c a).bind λi=>bif decide (i<0) then(some true)else(some (decide ((wr (h+1))<i))))else(some false))else(some false)):Option Bool).bind λ(k:Bool)=>bif k then((ix c (wr (a-g))).bind λq=>(ix c a).bind λt=>some (c.set a.toNat (wr (q+1))))else(some c)):Option (List Int)).bind λ(n:(List Int))=>some (.inl (n,wr (e+1))))else(some (.inr c))) cz ((f.set a.toNat (-1)),0)).bind λ(o:(List Int))=>some (.inl (o,wr (a+1))))else(some (.inr f))) cz ((List.replicate (wr (b+1)).toNat (0:Int)),1)).bind λ(j:(List Int))=>(ix j b).bind λl=>bif decide (l<0) then(some (([]:List cN),25))else((f94 b 768 d j ([]:List cN)).bind λm=>some (m.2,0)))
def f95(a:Int):Option (List cN):=if 0<=a/\a<=4194304 then some []else none
def f43(b:List (List cN)):Option ((List cN)):=(bZ (τ:=Int) (λ((e,f):(Int×Int))=>bif decide (f<(b.length:Int)) then((((ix b f).bind λg=>bif (decide ((wr (e+(g.length:Int)))<0))then(none)else(some (wr (e+(g.length:Int))))):Option Int).bind λ(l:Int)=>some (.inl (l,wr (f+1))))else(some (.inr e))) cz (0,0)).bind λ(h:Int)=>(f95 h).bind λi=>(bZ (τ:=(List cN)) (λ((a,d):(List cN×Int))=>bif decide (d<(b.length:Int)) then((ix b d).bind λc=>((bif c.isEmpty then(some a)else(cu (a.length+c.length<=bJ)<|some (a++c))):Option (List cN)).bind λ(j:(List cN))=>some (.inl (j,wr (d+1))))else(some (.inr a))) cz (i,0)).bind λ(k:(List cN))=>some k
def f44(a:List cO):Option ((List cO)):=((bif a.isEmpty then(some ([]:List cO))else(cu (a.length<=bJ)<|some a)):Option (List cO)).bind λ(b:(List cO))=>some b
def f45(a:List Int):Option ((List Int)):=((bif a.isEmpty then(some ([]:List Int))else(cu (a.length<=bJ)<|some a)):Option (List Int)).bind λ(b:(List Int))=>some b
def f47(a:List bP):Option (List aW):=cu (0<=(a.length:Int))<|cu ((a.length:Int)<=(bJ:Int))<|some (List.replicate (a.length:Int).toNat (⟨0,0⟩:aW))
def f46(a:List (List bP)):Option (List (List aW)):=cu ((0:Int)<=(a.length:Int))<|cu ((a.length:Int)<=(bJ:Int))<|(bZ (τ:=(List (List aW))) (λ((b,c):(List (List aW)×Int))=>bif decide (c<(a.length:Int)) then((ix a c).bind λd=>(f47 d).bind λe=>cu (b.length<cT)<|some (.inl ((b++[e]),wr (c+1))))else(some (.inr b))) cz (([]:List (List aW)),0)).bind λ(f:(List (List aW)))=>some f
def f156(a:bx)(b:bP):Option Bool:=some (decide (a.bY=b.bY))
def f155(b:List bx)(e:bP):Option Int:=(bZ (τ:=(Unit⊕Int)) (λ(a:Int)=>bif decide (a<(b.length:Int)) then((ix b a).bind λd=>cu (a.toNat<cT)<|(f156 d e).bind λc=>bif c then(some (.inr (.inr a)))else(some (.inl (wr (a+1)))))else(some (.inr (.inl ())))) cz 0).bind (Sum.elim (λ(_:Unit)=>some (-1)) some)
def f96(l:List (List bP))(h:Int):Option (List bx):=(bZ (τ:=(List bx)) (λ((g,e):(List bx×Int))=>bif decide (e<(l.length:Int)) then((ix l e).bind λj=>(bZ (τ:=(List bx)) (λ((a,d):(List bx×Int))=>bif decide (d<(j.length:Int)) then((((ix j d).bind λc=>bif decide (c.bW≠h) then(some a)else((f155 a c).bind λk=>((bif decide (k<0) then(cu (a.length<cT)<|some ((a++[(⟨([]:List bX),c.bY,h,0,(⟨0,0⟩:aW),0⟩:bx)]),(a.length:Int)))else(some (a,k))):Option (List bx×Int)).bind λ((i,f):(List bx×Int))=>(ix i f).bind λb=>cu (f.toNat<cT)<|cu (b.bO.length+1<=bJ)<|some (i.set f.toNat (⟨(b.bO++([(⟨e,d⟩:bX)]:List bX)),b.bY,b.bW,(kM b.dx c.dx),b.bQ,b.de⟩:bx)))):Option (List bx)).bind λ(n:(List bx))=>some (.inl (n,wr (d+1))))else(some (.inr a))) cz (g,0)).bind λ(o:(List bx))=>some (.inl (o,wr (e+1))))else(some (.inr g))) cz (([]:List bx),0)).bind λ(m:(List bx))=>some m
def f104(a:Int)(b:Int):Option Int:=(f177 a).bind λd=>(f177 b).bind λc=>bif d then(bif c then(some 0)else(some (-1)))else(bif c then(some 1)else(bif decide (a<b) then(some (-1))else(bif decide (b<a) then(some 1)else(some 0))))
def f158(a:List bX)(i:Int)(q:Int)(j:Int)(l:Int)(f:Int)(g:Int)(d:List bX)(m:Int)(p:Int)(n:Int)(o:Int)(h:Int)(k:Int):Option Int:=(ix a 0).bind λe=>(ix d 0).bind λc=>(f104 e.part c.part).bind λb=>some b
def f263(o:List bx)(g:Int)(n:Int):Option (List bx):=(bZ (τ:=(List bx)) (λ((h,e):(List bx×Int))=>bif decide (e<n) then((bZ (τ:=(List bx)) (λ((d,a):(List bx×Int))=>((bif decide (g<a) then((ix d a).bind λc=>(ix d (wr (a-1))).bind λb=>(f158 c.bO c.bY c.bW c.dx c.bQ.bt c.bQ.cy c.de b.bO b.bY b.bW b.dx b.bQ.bt b.bQ.cy b.de).bind λj=>some (decide (j<0)))else(some false)):Option Bool).bind λ(i:Bool)=>bif i then((ix d (wr (a-1))).bind λf=>(ix d a).bind λm=>(ix (d.set a.toNat f) (wr (a-1))).bind λp=>some (.inl (((d.set a.toNat f).set (wr (a-1)).toNat m),wr (a-1))))else(some (.inr d))) cz (h,e)).bind λ(k:(List bx))=>some (.inl (k,wr (e+1))))else(some (.inr h))) cz (o,wr (g+1))).bind λ(l:(List bx))=>some l
def f321(i:List bx)(c:Int)(d:Int)(f:Int):Option (List bx):=(bZ (τ:=(List bx)) (λ((b,a):(List bx×Int))=>bif decide (a<f) then((ix b (wr (d+a))).bind λe=>(ix b (wr (c+a))).bind λg=>(ix (b.set (wr (c+a)).toNat e) (wr (d+a))).bind λj=>some (.inl (((b.set (wr (c+a)).toNat e).set (wr (d+a)).toNat g),wr (a+1))))else(some (.inr b))) cz (i,0)).bind λ(h:(List bx))=>some h
def f305(k:List bx)(i:Int)(b:Int)(h:Int):Option (List bx):=(bZ (τ:=(List bx×Int)) (λ((d,a,c):(List bx×Int×Int))=>bif decide (a≠c) then(bif decide (c<a) then((f321 d (wr (b-a)) b c).bind λf=>cu (f.length=d.length)<|some (.inl (f,wr (a-c),c)))else((f321 d (wr (b-a)) (wr ((wr (b+c))-a)) a).bind λe=>cu (e.length=d.length)<|some (.inl (e,a,wr (c-a)))))else(some (.inr (d,a)))) cz (k,wr (b-i),wr (h-b))).bind λ((l,g):(List bx×Int))=>(f321 l (wr (b-g)) b g).bind λj=>some j
def f264r:Nat->(List bx)->Int->Int->Int->Option (List bx)
 |0,_,_,_,_=>none
 |y+1,d,a,c,b=>bif (decide ((wr (c-a))=1))then((bZ (τ:=Int) (λ((o,u):(Int×Int))=>bif decide (o<u) then((ix d (wr ((eu (IntKind.wrap .u64 ((wr (o+u)))) 1)))).bind λl=>(ix d a).bind λj=>(f158 l.bO l.bY l.bW l.dx l.bQ.bt l.bQ.cy l.de j.bO j.bY j.bW j.dx j.bQ.bt j.bQ.cy j.de).bind λP=>bif decide (P<0) then(some (.inl ((wr ((wr ((eu (IntKind.wrap .u64 ((wr (o+u)))) 1)))+1)),u)))else(some (.inl (o,(wr ((eu (IntKind.wrap .u64 ((wr (o+u)))) 1)))))))else(some (.inr o))) cz (c,b)).bind λ(I:Int)=>(bZ (τ:=(List bx)) (λ((t,g):(List bx×Int))=>bif (decide (g<(wr (I-1))))then((ix t (wr (g+1))).bind λB=>(ix t g).bind λM=>(ix (t.set g.toNat B) (wr (g+1))).bind λS=>some (.inl (((t.set g.toNat B).set (wr (g+1)).toNat M),wr (g+1))))else(some (.inr t))) cz (d,a)).bind λ(Q:(List bx))=>some Q)else(bif (decide ((wr (b-c))=1))then((bZ (τ:=Int) (λ((q,s):(Int×Int))=>bif decide (q<s) then((ix d c).bind λm=>(ix d (wr ((eu (IntKind.wrap .u64 ((wr (q+s)))) 1)))).bind λk=>(f158 m.bO m.bY m.bW m.dx m.bQ.bt m.bQ.cy m.de k.bO k.bY k.bW k.dx k.bQ.bt k.bQ.cy k.de).bind λF=>bif (!(decide (F<0)))then(some (.inl ((wr ((wr ((eu (IntKind.wrap .u64 ((wr (q+s)))) 1)))+1)),s)))else(some (.inl (q,(wr ((eu (IntKind.wrap .u64 ((wr (q+s)))) 1)))))))else(some (.inr q))) cz (a,c)).bind λ(H:Int)=>(bZ (τ:=(List bx)) (λ((r,f):(List bx×Int))=>bif decide (H<f) then((ix r (wr (f-1))).bind λA=>(ix r f).bind λE=>(ix (r.set f.toNat A) (wr (f-1))).bind λR=>some (.inl (((r.set f.toNat A).set (wr (f-1)).toNat E),wr (f-1))))else(some (.inr r))) cz (d,c)).bind λ(N:(List bx))=>some N)else(((bif (decide ((wr ((eu (IntKind.wrap .u64 ((wr (a+b)))) 1)))<c))then(some ((wr ((wr ((wr ((eu (IntKind.wrap .u64 ((wr (a+b)))) 1)))+c))-b)),(wr ((eu (IntKind.wrap .u64 ((wr (a+b)))) 1)))))else(some (a,c))):Option (Int×Int)).bind λ((O,J):(Int×Int))=>(bZ (τ:=Int) (λ((i,p):(Int×Int))=>bif decide (i<p) then((ix d (wr ((wr ((wr ((wr ((eu (IntKind.wrap .u64 ((wr (a+b)))) 1)))+c))-1))-(wr ((eu (IntKind.wrap .u64 ((wr (i+p)))) 1)))))).bind λh=>(ix d (wr ((eu (IntKind.wrap .u64 ((wr (i+p)))) 1)))).bind λn=>(f158 h.bO h.bY h.bW h.dx h.bQ.bt h.bQ.cy h.de n.bO n.bY n.bW n.dx n.bQ.bt n.bQ.cy n.de).bind λC=>bif (!(decide (C<0)))then(some (.inl ((wr ((wr ((eu (IntKind.wrap .u64 ((wr (i+p)))) 1)))+1)),p)))else(some (.inl (i,(wr ((eu (IntKind.wrap .u64 ((wr (i+p)))) 1)))))))else(some (.inr i))) cz (O,J)).bind λ(e:Int)=>((((bif decide (e<c) then(some (decide (c<(wr ((wr ((wr ((eu (IntKind.wrap .u64 ((wr (a+b)))) 1)))+c))-e)))))else(some false)):Option Bool).bind λ(D:Bool)=>bif D then((f305 d e c (wr ((wr ((wr ((eu (IntKind.wrap .u64 ((wr (a+b)))) 1)))+c))-e))).bind λw=>cu (w.length=d.length)<|some w)else(some d)):Option (List bx)).bind λ(v:(List bx))=>((((bif decide (a<e) then(some (decide (e<(wr ((eu (IntKind.wrap .u64 ((wr (a+b)))) 1))))))else(some false)):Option Bool).bind λ(K:Bool)=>bif K then((f264r y v a e (wr ((eu (IntKind.wrap .u64 ((wr (a+b)))) 1)))).bind λz=>cu (z.length=v.length)<|some z)else(some v)):Option (List bx)).bind λ(x:(List bx))=>((bif (decide ((wr ((eu (IntKind.wrap .u64 ((wr (a+b)))) 1)))<(wr ((wr ((wr ((eu (IntKind.wrap .u64 ((wr (a+b)))) 1)))+c))-e))))then(some (decide ((wr ((wr ((wr ((eu (IntKind.wrap .u64 ((wr (a+b)))) 1)))+c))-e))<b)))else(some false)):Option Bool).bind λ(G:Bool)=>bif G then((f264r y x (wr ((eu (IntKind.wrap .u64 ((wr (a+b)))) 1))) (wr ((wr ((wr ((eu (IntKind.wrap .u64 ((wr (a+b)))) 1)))+c))-e)) b).bind λL=>some L)else(some x)))
def f264(c:List bx)(d:Int)(b:Int)(a:Int):Option (List bx):=f264r cz c d b a
def f217(r:List bx)(b:Int):Option (List bx):=(bZ (τ:=(List bx×Int)) (λ((h,j,d):(List bx×Int×Int))=>bif decide (d<=b) then((f263 h j d).bind λm=>cu (m.length=h.length)<|some (.inl (m,d,wr (d+20))))else(some (.inr (h,j)))) cz (r,0,20)).bind λ((p,q):(List bx×Int))=>(f263 p q b).bind λk=>cu (k.length=p.length)<|(bZ (τ:=(List bx)) (λ((n,a):(List bx×Int))=>bif decide (a<b) then((bZ (τ:=(List bx×Int)) (λ((f,i,c):(List bx×Int×Int))=>bif decide (c<=b) then((f264 f i (wr (i+a)) c).bind λo=>cu (o.length=f.length)<|some (.inl (o,c,(wr (c+(wr (2*a)))))))else(some (.inr (f,i)))) cz (n,0,wr (2*a))).bind λ((g,e):(List bx×Int))=>((bif (decide ((wr (e+a))<b))then((f264 g e (wr (e+a)) b).bind λl=>cu (l.length=g.length)<|some l)else(some g)):Option (List bx)).bind λ(s:(List bx))=>some (.inl (s,wr (a*2))))else(some (.inr n))) cz (k,20)).bind λ(t:(List bx))=>some t
def f157(a:List bx):Option (List bx):=(f217 a (a.length:Int)).bind λb=>some b
def f97(f:cP)(h:Int):Option (List bx):=(bZ (τ:=(List bx)) (λ((a,b):(List bx×Int))=>bif decide (b<(f.db.length:Int)) then((((ix f.db b).bind λe=>bif decide (h<e.dx) then(cu (a.length+1<=bJ)<|some (a++([e]:List bx)))else(some a)):Option (List bx)).bind λ(g:(List bx))=>some (.inl (g,wr (b+1))))else(some (.inr a))) cz (([]:List bx),0)).bind λ(c:(List bx))=>(f157 c).bind λd=>cu (d.length=c.length)<|some d
def f159(b:cP)(c:List bx)(a:List bx):Option Unit:=some ()
def f219(a:Int):Option Unit:=some ()
def f134(b:List Bool)(d:Bool):Option Int:=(bZ (τ:=(Unit⊕Int)) (λ(a:Int)=>bif decide (a<(b.length:Int)) then((ix b a).bind λc=>bif (d==c)then(some (.inr (.inr a)))else(some (.inl (wr (a+1)))))else(some (.inr (.inl ())))) cz 0).bind (Sum.elim (λ(_:Unit)=>some (-1)) some)
def f69(b:List Bool)(c:Bool):Option Bool:=(f134 b c).bind λa=>some (decide (0<=a))
def f268(a:List aW):Option (List aW):=((bif a.isEmpty then(some ([]:List aW))else(cu (a.length<=bJ)<|some a)):Option (List aW)).bind λ(b:(List aW))=>some b
def f71(d:bK)(a:cO)(b:Int):Option Int:=bif decide (b=0) then(some a.bY)else((ix d.bN (wr (b-1))).bind λc=>some (wr (a.bY+c)))
def f124(a:bK)(e:Int):Option (((List aW))×Int):=(f70 a).bind λg=>bif decide (g≠0) then(some (([]:List aW),g))else(((bif decide (e<0) then(some true)else(some (decide (127<e)))):Option Bool).bind λ(m:Bool)=>bif m then(some (([]:List aW),10))else((bZ (τ:=(List aW)) (λ((h,d):(List aW×Int))=>bif decide (d<(a.ck.length:Int)) then((ix a.ck d).bind λf=>(bZ (τ:=(List aW)) (λ((b,c):(List aW×Int))=>bif decide (c<=f.dG) then((((f71 a f c).bind λj=>bif decide (j=e) then(cu (b.length+1<=bJ)<|some (b++([(⟨(wr (d+1)),c⟩:aW)]:List aW)))else(some b)):Option (List aW)).bind λ(i:(List aW))=>some (.inl (i,wr (c+1))))else(some (.inr b))) cz (h,0)).bind λ(k:(List aW))=>some (.inl (k,wr (d+1))))else(some (.inr h))) cz (([]:List aW),0)).bind λ(l:(List aW))=>some (l,0)))
def f274(a:aW)(b:Int):Option Bool:=some (decide (a.bt=b))
def f185(b:List aW)(e:Int):Option Int:=(bZ (τ:=(Unit⊕Int)) (λ(a:Int)=>bif decide (a<(b.length:Int)) then((ix b a).bind λd=>(f274 d e).bind λc=>bif c then(some (.inr (.inr a)))else(some (.inl (wr (a+1)))))else(some (.inr (.inl ())))) cz 0).bind (Sum.elim (λ(_:Unit)=>some (-1)) some)
def f190(b:List aW)(c:Int):Option Bool:=(f185 b c).bind λa=>some (decide (0<=a))
def f223(b:List aW)(c:Int):Option Bool:=(f190 b c).bind λa=>some a
def f267r:Nat->Int->(List bx)->(List (List aW))->(List aW)->(List Bool)->bK->Int->Option (List (List aW)×List aW)
 |0,_,_,_,_,_,_,_=>none
 |l+1,a,e,d,c,g,f,k=>bif decide (a=(e.length:Int)) then((f268 c).bind λv=>cu (d.length+1<=bJ)<|some ((d++([v]:List (List aW))),c))else((ix c a).bind λy=>(ix g a).bind λs=>bif s then((f267r l (wr (a+1)) e d (c.set a.toNat (⟨0,0⟩:aW)) g f k).bind λm=>some (m.1,m.2))else((ix e a).bind λp=>cu (a.toNat<cT)<|(f124 f (wr (p.bY+k))).bind λi=>bif decide (i.2≠0) then(some (d,(c.set a.toNat (⟨0,0⟩:aW))))else((bZ (τ:=(List (List aW)×List aW)) (λ((b,j,h):(List aW×List (List aW)×Int))=>bif decide (h<(i.1.length:Int)) then((((ix i.1 h).bind λn=>cu (0<=a)<|cu (a.toNat<=b.length)<|cu (0+a.toNat<=b.length)<|(f223 (b.take a.toNat) n.bt).bind λq=>bif (!q)then((ix b a).bind λx=>(f267r l (wr (a+1)) e j (b.set a.toNat n) g f k).bind λo=>some (o.2,o.1))else(some (b,j))):Option (List aW×List (List aW))).bind λ((u,t):(List aW×List (List aW)))=>some (.inl (u,t,wr (h+1))))else(some (.inr (j,b)))) cz ((c.set a.toNat (⟨0,0⟩:aW)),d,0)).bind λ((r,w):(List (List aW)×List aW))=>some (r,w))))
def f267(g:Int)(e:List bx)(d:List (List aW))(a:List aW)(c:List Bool)(b:bK)(f:Int):Option (List (List aW)×List aW):=f267r cz g e d a c b f
def f271(c:List aW):Option Int:=(bZ (τ:=Int) (λ((b,a):(Int×Int))=>bif decide (a<(c.length:Int)) then((ix c a).bind λe=>some (.inl ((wr (b+e.cy)),wr (a+1))))else(some (.inr b))) cz (0,0)).bind λ(d:Int)=>some d
def f273(b:aW)(c:aW):Option Int:=(f104 b.bt c.bt).bind λa=>some a
def f272(c:List aW)(b:List aW):Option Int:=(bZ (τ:=(Unit⊕Int)) (λ(a:Int)=>bif decide (a<(c.length:Int)) then((ix c a).bind λf=>bif decide ((b.length:Int)<=a) then(some (.inr (.inr 1)))else((ix b a).bind λe=>(f273 f e).bind λd=>bif decide (d≠0) then(some (.inr (.inr d)))else(some (.inl (wr (a+1))))))else(some (.inr (.inl ())))) cz 0).bind (Sum.elim (λ(_:Unit)=>bif decide ((c.length:Int)<(b.length:Int)) then(some (-1))else(some 0)) some)
def f103(c:List Int):Option Int:=(bZ (τ:=(Unit⊕Int)) (λ(a:Int)=>bif decide (a<(c.length:Int)) then((ix c a).bind λb=>bif decide (b≠0) then(some (.inr (.inr b)))else(some (.inl (wr (a+1)))))else(some (.inr (.inl ())))) cz 0).bind (Sum.elim (λ(_:Unit)=>some 0) some)
def f270(b:List aW)(a:List aW):Option Int:=(f271 b).bind λc=>(f271 a).bind λg=>(f104 c g).bind λf=>(f272 b a).bind λe=>(f103 ([f,e]:List Int)).bind λd=>some d
def f322(o:List (List aW))(e:Int)(n:Int):Option (List (List aW)):=(bZ (τ:=(List (List aW))) (λ((f,c):(List (List aW)×Int))=>bif decide (c<n) then((bZ (τ:=(List (List aW))) (λ((b,a):(List (List aW)×Int))=>((bif decide (e<a) then((ix b a).bind λk=>(ix b (wr (a-1))).bind λg=>(f270 k g).bind λi=>some (decide (i<0)))else(some false)):Option Bool).bind λ(h:Bool)=>bif h then((ix b (wr (a-1))).bind λd=>(ix b a).bind λm=>(ix (b.set a.toNat d) (wr (a-1))).bind λp=>some (.inl (((b.set a.toNat d).set (wr (a-1)).toNat m),wr (a-1))))else(some (.inr b))) cz (f,c)).bind λ(j:(List (List aW)))=>some (.inl (j,wr (c+1))))else(some (.inr f))) cz (o,wr (e+1))).bind λ(l:(List (List aW)))=>some l
def f331(i:List (List aW))(c:Int)(d:Int)(f:Int):Option (List (List aW)):=(bZ (τ:=(List (List aW))) (λ((b,a):(List (List aW)×Int))=>bif decide (a<f) then((ix b (wr (d+a))).bind λe=>(ix b (wr (c+a))).bind λg=>(ix (b.set (wr (c+a)).toNat e) (wr (d+a))).bind λj=>some (.inl (((b.set (wr (c+a)).toNat e).set (wr (d+a)).toNat g),wr (a+1))))else(some (.inr b))) cz (i,0)).bind λ(h:(List (List aW)))=>some h
def f329(k:List (List aW))(i:Int)(b:Int)(h:Int):Option (List (List aW)):=(bZ (τ:=(List (List aW)×Int)) (λ((d,a,c):(List (List aW)×Int×Int))=>bif decide (a≠c) then(bif decide (c<a) then((f331 d (wr (b-a)) b c).bind λf=>cu (f.length=d.length)<|some (.inl (f,wr (a-c),c)))else((f331 d (wr (b-a)) (wr ((wr (b+c))-a)) a).bind λe=>cu (e.length=d.length)<|some (.inl (e,a,wr (c-a)))))else(some (.inr (d,a)))) cz (k,wr (b-i),wr (h-b))).bind λ((l,g):(List (List aW)×Int))=>(f331 l (wr (b-g)) b g).bind λj=>some j
def f323r:Nat->(List (List aW))->Int->Int->Int->Option (List (List aW))
 |0,_,_,_,_=>none
 |s+1,d,a,c,b=>bif (decide ((wr (c-a))=1))then((bZ (τ:=Int) (λ((i,o):(Int×Int))=>bif decide (i<o) then((ix d (wr ((eu (IntKind.wrap .u64 ((wr (i+o)))) 1)))).bind λE=>(ix d a).bind λB=>(f270 E B).bind λO=>bif decide (O<0) then(some (.inl ((wr ((wr ((eu (IntKind.wrap .u64 ((wr (i+o)))) 1)))+1)),o)))else(some (.inl (i,(wr ((eu (IntKind.wrap .u64 ((wr (i+o)))) 1)))))))else(some (.inr i))) cz (c,b)).bind λ(G:Int)=>(bZ (τ:=(List (List aW))) (λ((n,g):(List (List aW)×Int))=>bif (decide (g<(wr (G-1))))then((ix n (wr (g+1))).bind λv=>(ix n g).bind λL=>(ix (n.set g.toNat v) (wr (g+1))).bind λS=>some (.inl (((n.set g.toNat v).set (wr (g+1)).toNat L),wr (g+1))))else(some (.inr n))) cz (d,a)).bind λ(Q:(List (List aW)))=>some Q)else(bif (decide ((wr (b-c))=1))then((bZ (τ:=Int) (λ((k,m):(Int×Int))=>bif decide (k<m) then((ix d c).bind λK=>(ix d (wr ((eu (IntKind.wrap .u64 ((wr (k+m)))) 1)))).bind λD=>(f270 K D).bind λA=>bif (!(decide (A<0)))then(some (.inl ((wr ((wr ((eu (IntKind.wrap .u64 ((wr (k+m)))) 1)))+1)),m)))else(some (.inl (k,(wr ((eu (IntKind.wrap .u64 ((wr (k+m)))) 1)))))))else(some (.inr k))) cz (a,c)).bind λ(F:Int)=>(bZ (τ:=(List (List aW))) (λ((l,f):(List (List aW)×Int))=>bif decide (F<f) then((ix l (wr (f-1))).bind λu=>(ix l f).bind λz=>(ix (l.set f.toNat u) (wr (f-1))).bind λR=>some (.inl (((l.set f.toNat u).set (wr (f-1)).toNat z),wr (f-1))))else(some (.inr l))) cz (d,c)).bind λ(M:(List (List aW)))=>some M)else(((bif (decide ((wr ((eu (IntKind.wrap .u64 ((wr (a+b)))) 1)))<c))then(some ((wr ((wr ((wr ((eu (IntKind.wrap .u64 ((wr (a+b)))) 1)))+c))-b)),(wr ((eu (IntKind.wrap .u64 ((wr (a+b)))) 1)))))else(some (a,c))):Option (Int×Int)).bind λ((N,H):(Int×Int))=>(bZ (τ:=Int) (λ((h,j):(Int×Int))=>bif decide (h<j) then((ix d (wr ((wr ((wr ((wr ((eu (IntKind.wrap .u64 ((wr (a+b)))) 1)))+c))-1))-(wr ((eu (IntKind.wrap .u64 ((wr (h+j)))) 1)))))).bind λw=>(ix d (wr ((eu (IntKind.wrap .u64 ((wr (h+j)))) 1)))).bind λP=>(f270 w P).bind λx=>bif (!(decide (x<0)))then(some (.inl ((wr ((wr ((eu (IntKind.wrap .u64 ((wr (h+j)))) 1)))+1)),j)))else(some (.inl (h,(wr ((eu (IntKind.wrap .u64 ((wr (h+j)))) 1)))))))else(some (.inr h))) cz (N,H)).bind λ(e:Int)=>((((bif decide (e<c) then(some (decide (c<(wr ((wr ((wr ((eu (IntKind.wrap .u64 ((wr (a+b)))) 1)))+c))-e)))))else(some false)):Option Bool).bind λ(y:Bool)=>bif y then((f329 d e c (wr ((wr ((wr ((eu (IntKind.wrap .u64 ((wr (a+b)))) 1)))+c))-e))).bind λq=>cu (q.length=d.length)<|some q)else(some d)):Option (List (List aW))).bind λ(p:(List (List aW)))=>((((bif decide (a<e) then(some (decide (e<(wr ((eu (IntKind.wrap .u64 ((wr (a+b)))) 1))))))else(some false)):Option Bool).bind λ(I:Bool)=>bif I then((f323r s p a e (wr ((eu (IntKind.wrap .u64 ((wr (a+b)))) 1)))).bind λt=>cu (t.length=p.length)<|some t)else(some p)):Option (List (List aW))).bind λ(r:(List (List aW)))=>((bif (decide ((wr ((eu (IntKind.wrap .u64 ((wr (a+b)))) 1)))<(wr ((wr ((wr ((eu (IntKind.wrap .u64 ((wr (a+b)))) 1)))+c))-e))))then(some (decide ((wr ((wr ((wr ((eu (IntKind.wrap .u64 ((wr (a+b)))) 1)))+c))-e))<b)))else(some false)):Option Bool).bind λ(C:Bool)=>bif C then((f323r s r (wr ((eu (IntKind.wrap .u64 ((wr (a+b)))) 1))) (wr ((wr ((wr ((eu (IntKind.wrap .u64 ((wr (a+b)))) 1)))+c))-e)) b).bind λJ=>some J)else(some r)))
def f323(c:List (List aW))(d:Int)(b:Int)(a:Int):Option (List (List aW)):=f323r cz c d b a
def f306(r:List (List aW))(b:Int):Option (List (List aW)):=(bZ (τ:=(List (List aW)×Int)) (λ((h,j,d):(List (List aW)×Int×Int))=>bif decide (d<=b) then((f322 h j d).bind λm=>cu (m.length=h.length)<|some (.inl (m,d,wr (d+20))))else(some (.inr (h,j)))) cz (r,0,20)).bind λ((p,q):(List (List aW)×Int))=>(f322 p q b).bind λk=>cu (k.length=p.length)<|(bZ (τ:=(List (List aW))) (λ((n,a):(List (List aW)×Int))=>bif decide (a<b) then((bZ (τ:=(List (List aW)×Int)) (λ((f,i,c):(List (List aW)×Int×Int))=>bif decide (c<=b) then((f323 f i (wr (i+a)) c).bind λo=>cu (o.length=f.length)<|some (.inl (o,c,(wr (c+(wr (2*a)))))))else(some (.inr (f,i)))) cz (n,0,wr (2*a))).bind λ((g,e):(List (List aW)×Int))=>((bif (decide ((wr (e+a))<b))then((f323 g e (wr (e+a)) b).bind λl=>cu (l.length=g.length)<|some l)else(some g)):Option (List (List aW))).bind λ(s:(List (List aW)))=>some (.inl (s,wr (a*2))))else(some (.inr n))) cz (k,20)).bind λ(t:(List (List aW)))=>some t
def f269(a:List (List aW)):Option (List (List aW)):=(f306 a (a.length:Int)).bind λb=>some b
def f220(f:bK)(a:List bx)(e:List Bool)(d:Int):Option (List (List aW)):=cu (0<=(a.length:Int))<|cu ((a.length:Int)<=(bJ:Int))<|(f267 0 a ([]:List (List aW)) (List.replicate (a.length:Int).toNat (⟨0,0⟩:aW)) e f d).bind λc=>(f269 c.1).bind λb=>cu (b.length=c.1.length)<|some b
def f221(a:List Bool):Option (List Bool):=((bif a.isEmpty then(some ([]:List Bool))else(cu (a.length<=bJ)<|some a)):Option (List Bool)).bind λ(b:(List Bool))=>some b
def f222(l:cP)(b:bV)(e:List bx):Option Bool:=(bZ (τ:=(Unit⊕Bool)) (λ(a:Int)=>bif decide (a<(e.length:Int)) then((ix e a).bind λc=>(f223 b.places c.bQ.bt).bind λd=>(((ix b.cut a).bind λg=>bif g then(bif decide (c.bQ.cy=0) then(some (!d))else(some false))else(some false)):Option Bool).bind λ(f:Bool)=>bif f then(some (.inr (.inr false)))else((((ix b.cut a).bind λi=>bif (!i)then(some d)else(some false)):Option Bool).bind λ(j:Bool)=>bif j then(some (.inr (.inr false)))else((((ix b.cut a).bind λh=>bif (!h)then(bif decide (0<c.bQ.cy) then(some (decide (15<(wr ((l.bM.bG.length:Int)-c.de)))))else(some false))else(some false)):Option Bool).bind λ(k:Bool)=>bif k then(some (.inr (.inr false)))else(some (.inl (wr (a+1)))))))else(some (.inr (.inl ())))) cz 0).bind (Sum.elim (λ(_:Unit)=>some true) some)
def f225(b:aW)(c:aW):Option Int:=(f104 b.bt c.bt).bind λa=>some a
def f224(a:List aW):Option (List aW):=sA f225 a
def f160(n:cP)(f:bV)(r:List bx):Option bS:=(bZ (τ:=(List aW×List Int)) (λ((d,h,c):(List aW×List Int×Int))=>bif decide (c<(r.length:Int)) then((((ix r c).bind λk=>(((ix f.cut c).bind λy=>bif (!y)then(some (decide (0<k.bQ.cy)))else(some false)):Option Bool).bind λ(B:Bool)=>bif B then(cu (d.length+1<=bJ)<|cu (h.length+1<=bJ)<|some ((d++([k.bQ]:List aW)),(h++([k.bQ.bt]:List Int))))else(some (d,h))):Option (List aW×List Int)).bind λ((u,x):(List aW×List Int))=>some (.inl (u,x,wr (c+1))))else(some (.inr (d,h)))) cz (([]:List aW),([]:List Int),0)).bind λ((v,m):(List aW×List Int))=>(bZ (τ:=(List aW×List Int)) (λ((a,b,j):(List aW×List Int×Int))=>bif decide (j<(f.places.length:Int)) then((((ix f.places j).bind λg=>bif decide (0<g.cy) then(cu (a.length+1<=bJ)<|some ((a++([g]:List aW)),b))else(bif decide (0<g.bt) then(cu (b.length+1<=bJ)<|some (a,(b++([g.bt]:List Int))))else(some (a,b)))):Option (List aW×List Int)).bind λ((D,z):(List aW×List Int))=>some (.inl (D,z,wr (j+1))))else(some (.inr (a,b)))) cz (v,([]:List Int),0)).bind λ((t,A):(List aW×List Int))=>(bZ (τ:=(List Int)) (λ((e,i):(List Int×Int))=>bif decide (i<(n.dB.di.length:Int)) then((((ix n.dB.di i).bind λq=>(f223 f.places q).bind λw=>bif (!w)then(cu (e.length+1<=bJ)<|some (e++([q]:List Int)))else(some e)):Option (List Int)).bind λ(C:(List Int))=>some (.inl (C,wr (i+1))))else(some (.inr e))) cz (A,0)).bind λ(s:(List Int))=>(f224 t).bind λp=>cu (p.length=t.length)<|(f90 m).bind λo=>cu (o.length=m.length)<|(f90 s).bind λl=>cu (l.length=s.length)<|some (⟨p,o,l⟩:bS)
def f118(b:List Int):Option Bool:=(bZ (τ:=(Unit⊕Bool)) (λ(a:Int)=>bif decide (a<(b.length:Int)) then((ix b a).bind λc=>(ix b (wr (a-1))).bind λd=>bif decide (c<=d) then(some (.inr (.inr false)))else(some (.inl (wr (a+1)))))else(some (.inr (.inl ())))) cz 1).bind (Sum.elim (λ(_:Unit)=>some true) some)
def f186(a:aW)(b:Int):Option Bool:=some (decide (a.bt=b))
def f185_1(b:List aW)(e:Int):Option Int:=(bZ (τ:=(Unit⊕Int)) (λ(a:Int)=>bif decide (a<(b.length:Int)) then((ix b a).bind λd=>(f186 d e).bind λc=>bif c then(some (.inr (.inr a)))else(some (.inl (wr (a+1)))))else(some (.inr (.inl ())))) cz 0).bind (Sum.elim (λ(_:Unit)=>some (-1)) some)
def f119(b:bS)(c:Int):Option Int:=(f185_1 b.cG c).bind λa=>some a
def f59(a:bS):Option Bool:=(bZ (τ:=(Unit⊕Bool)) (λ((o,d):(Int×Int))=>bif decide (d<(a.cG.length:Int)) then((ix a.cG d).bind λb=>((bif decide (b.bt<=o) then(some true)else(bif decide (14<b.bt) then(some true)else((f85 b.cy 1 18).bind λj=>some (!j)))):Option Bool).bind λ(l:Bool)=>bif l then(some (.inr (.inr false)))else(some (.inl (b.bt,wr (d+1)))))else(some (.inr (.inl ())))) cz (0,0)).bind (Sum.elim (λ(_:Unit)=>(((f118 a.held).bind λp=>bif (!p)then(some true)else((f118 a.di).bind λi=>some (!i))):Option Bool).bind λ(h:Bool)=>bif h then(some false)else((bZ (τ:=(Unit⊕Bool)) (λ(c:Int)=>bif decide (c<(a.held.length:Int)) then((ix a.held c).bind λm=>(f119 a m).bind λn=>bif decide (n<0) then(some (.inr (.inr false)))else(some (.inl (wr (c+1)))))else(some (.inr (.inl ())))) cz 0).bind (Sum.elim (λ(_:Unit)=>(bZ (τ:=(Unit⊕Bool)) (λ(e:Int)=>bif decide (e<(a.di.length:Int)) then((ix a.di e).bind λf=>(((f85 f 1 14).bind λg=>bif (!g)then(some true)else((f119 a f).bind λk=>some (decide (0<=k)))):Option Bool).bind λ(q:Bool)=>bif q then(some (.inr (.inr false)))else(some (.inl (wr (e+1)))))else(some (.inr (.inl ())))) cz 0).bind (Sum.elim (λ(_:Unit)=>some true) some)) some))) some)
def f187(b:List Int)(d:Int):Option Int:=(bZ (τ:=(Unit⊕Int)) (λ(a:Int)=>bif decide (a<(b.length:Int)) then((ix b a).bind λc=>bif decide (d=c) then(some (.inr (.inr a)))else(some (.inl (wr (a+1)))))else(some (.inr (.inl ())))) cz 0).bind (Sum.elim (λ(_:Unit)=>some (-1)) some)
def f189(a:Int)(c:Int)(b:Int):Option Bool:=((bif decide (c<a) then(some (decide (a<b)))else(some false)):Option Bool).bind λ(d:Bool)=>some d
def f243(b:List Int)(f:Int)(e:Int):Option Int:=(bZ (τ:=(Unit⊕Int)) (λ(a:Int)=>bif decide (a<(b.length:Int)) then((ix b a).bind λd=>(f189 d f e).bind λc=>bif c then(some (.inr (.inr a)))else(some (.inl (wr (a+1)))))else(some (.inr (.inl ())))) cz 0).bind (Sum.elim (λ(_:Unit)=>some (-1)) some)
def f188(b:List Int)(d:Int)(c:Int):Option Bool:=(f243 b d c).bind λa=>some (decide (0<=a))
def f191(a:aW)(b:Int):Option Bool:=some (decide (a.cy<b))
def f185_2(b:List aW)(e:Int):Option Int:=(bZ (τ:=(Unit⊕Int)) (λ(a:Int)=>bif decide (a<(b.length:Int)) then((ix b a).bind λd=>(f191 d e).bind λc=>bif c then(some (.inr (.inr a)))else(some (.inl (wr (a+1)))))else(some (.inr (.inl ())))) cz 0).bind (Sum.elim (λ(_:Unit)=>some (-1)) some)
def f190_1(b:List aW)(c:Int):Option Bool:=(f185_2 b c).bind λa=>some (decide (0<=a))
def f121(h:eA)(b:bS)(f:List Int):Option Bool:=(bZ (τ:=(Unit⊕Bool)) (λ(d:Int)=>bif decide (d<=(h.low.length:Int)) then((((f187 f d).bind λa=>bif decide (a<0) then(some (.inl ()))else((bZ (τ:=Int) (λ((g,e):(Int×Int))=>bif decide (e<(f.length:Int)) then((((ix f e).bind λj=>bif decide (j=d) then(some e)else(some g)):Option Int).bind λ(r:Int)=>some (.inl (r,wr (e+1))))else(some (.inr g))) cz (a,0)).bind λ(c:Int)=>bif decide (a=c) then(some (.inl ()))else((((ix h.gh (wr (d-1))).bind λo=>bif (!o)then(some true)else((ix b.cG a).bind λn=>(ix b.cG c).bind λl=>some (decide (n.cy≠l.cy)))):Option Bool).bind λ(k:Bool)=>bif k then(some (.inr (.inr (.inr false))))else((ix b.cG a).bind λi=>(ix b.cG c).bind λm=>(f188 b.di i.bt m.bt).bind λq=>bif q then(some (.inr (.inr (.inr false))))else(cu (0<=a)<|cu (0<=c)<|cu (a.toNat<=c.toNat)<|cu (c.toNat<=b.cG.length)<|(f190_1 ((b.cG.take c.toNat).drop a.toNat) i.cy).bind λp=>bif p then(some (.inr (.inr (.inr false))))else(some (.inl ()))))))):Option (Unit⊕(Int⊕(Unit⊕Bool)))).bind (Sum.elim (λ(_:Unit)=>some (.inl (wr (d+1)))) some))else(some (.inr (.inl ())))) cz 1).bind (Sum.elim (λ(_:Unit)=>some true) some)
def f45_1(a:List Int):Option (List Int):=((bif a.isEmpty then(some ([]:List Int))else(cu (a.length<=bJ)<|some a)):Option (List Int)).bind λ(b:(List Int))=>some b
def f122(c:eA)(a:Int)(b:Int)(d:Int):Option Bool:=(ix c.low (wr (b-1))).bind λg=>(ix c.high (wr (b-1))).bind λf=>(f85 d (wr (a+g)) (wr (a+f))).bind λe=>some e
def f123(c:aW)(d:aW)(b:Int)(a:Int):Option Bool:=bif decide (c.cy<d.cy) then(some (decide (b<a)))else(bif decide (d.cy<c.cy) then(some (decide (a<b)))else(bif decide (c.bt<d.bt) then(some (decide (a<=b)))else(some (decide (b<=a)))))
def f120r:Nat->Int->(List Int)->bS->eA->(List cr)->Option (List Int×List cr)
 |0,_,_,_,_,_=>none
 |p+1,j,a,d,f,i=>bif decide ((a.length:Int)=(d.cG.length:Int)) then((((f121 f d a).bind λv=>bif v then((f45_1 a).bind λm=>cu (i.length+1<=bJ)<|some (i++([(⟨j,m⟩:cr)]:List cr)))else(some i)):Option (List cr)).bind λ(l:(List cr))=>some (a,l))else((bZ (τ:=(List Int×List cr)) (λ((b,c,e):(List Int×List cr×Int))=>((bif decide (e<=(f.low.length:Int)) then(some (decide ((c.length:Int)<=200)))else(some false)):Option Bool).bind λ(t:Bool)=>bif t then((((ix d.cG (a.length:Int)).bind λk=>(f122 f j e k.cy).bind λq=>bif (!q)then(some (b,c))else((bZ (τ:=(Unit⊕_)) (λ(g:Int)=>bif decide (g<(b.length:Int)) then((ix b g).bind λn=>(ix d.cG g).bind λu=>(f123 u k n e).bind λx=>bif (!x)then(some (.inr (.inr (b,c))))else(some (.inl (wr (g+1)))))else(some (.inr (.inl ())))) cz 0).bind (Sum.elim (λ(_:Unit)=>cu (b.length+1<=bJ)<|(f120r p j (b++([e]:List Int)) d f c).bind λh=>cu (0<=(a.length:Int))<|cu ((a.length:Int).toNat<=h.1.length)<|cu ((a.length:Int).toNat<=h.1.length)<|some ((h.1.take (a.length:Int).toNat),h.2)) some))):Option (List Int×List cr)).bind λ((r,s):(List Int×List cr))=>some (.inl (r,s,wr (e+1))))else(some (.inr (b,c)))) cz (a,i,1)).bind λ((w,o):(List Int×List cr))=>some (w,o))
def f120(e:Int)(c:List Int)(d:bS)(a:eA)(b:List cr):Option (List Int×List cr):=f120r cz e c d a b
def f60(c:eA)(g:bS):Option ((List cr)):=(bZ (τ:=(List cr)) (λ((b,f,a):(List cr×List Int×Int))=>bif decide (a<=c.top) then((f120 a f g c b).bind λd=>some (.inl (d.2,d.1,wr (a+1))))else(some (.inr b))) cz (([]:List cr),([]:List Int),1)).bind λ(e:(List cr))=>some e
def f16(d:eA)(c:bS):Option (((List cr))×Int):=(f39 d).bind λa=>bif decide (a≠0) then(some (([]:List cr),a))else((f59 c).bind λe=>bif (!e)then(some (([]:List cr),1))else((f60 d c).bind λb=>bif decide (200<(b.length:Int)) then(some (([]:List cr),2))else(some (b,0))))
def f246(e:bS)(a:bS):Option Bool:=(bZ (τ:=(Unit⊕Bool)) (λ(b:Int)=>bif decide (b<(a.held.length:Int)) then((ix a.held b).bind λd=>(f119 e d).bind λc=>((bif decide (c<0) then(some true)else((ix e.cG c).bind λf=>(f119 a d).bind λi=>(ix a.cG i).bind λh=>some (!(gY f h)))):Option Bool).bind λ(g:Bool)=>bif g then(some (.inr (.inr false)))else(some (.inl (wr (b+1)))))else(some (.inr (.inl ())))) cz 0).bind (Sum.elim (λ(_:Unit)=>some true) some)
def f196(b:List bS):Option Int:=bif decide (400<(b.length:Int)) then(some 2)else((bZ (τ:=(Unit⊕Int)) (λ(a:Int)=>bif decide (a<(b.length:Int)) then((ix b a).bind λc=>(((f59 c).bind λe=>bif (!e)then(some true)else(bif decide (0<a) then((ix b (wr (a-1))).bind λf=>(f246 f c).bind λd=>some (!d))else(some false))):Option Bool).bind λ(g:Bool)=>bif g then(some (.inr (.inr 1)))else(some (.inl (wr (a+1)))))else(some (.inr (.inl ())))) cz 0).bind (Sum.elim (λ(_:Unit)=>some 0) some))
def f187_1(b:List Int)(d:Int):Option Int:=(bZ (τ:=(Unit⊕Int)) (λ(a:Int)=>bif decide (a<(b.length:Int)) then((ix b a).bind λc=>bif decide (d=c) then(some (.inr (.inr a)))else(some (.inl (wr (a+1)))))else(some (.inr (.inl ())))) cz 0).bind (Sum.elim (λ(_:Unit)=>some (-1)) some)
def f121_1(h:eA)(b:bS)(f:List Int):Option Bool:=(bZ (τ:=(Unit⊕Bool)) (λ(d:Int)=>bif decide (d<=(h.low.length:Int)) then((((f187_1 f d).bind λa=>bif decide (a<0) then(some (.inl ()))else((bZ (τ:=Int) (λ((g,e):(Int×Int))=>bif decide (e<(f.length:Int)) then((((ix f e).bind λj=>bif decide (j=d) then(some e)else(some g)):Option Int).bind λ(r:Int)=>some (.inl (r,wr (e+1))))else(some (.inr g))) cz (a,0)).bind λ(c:Int)=>bif decide (a=c) then(some (.inl ()))else((((ix h.gh (wr (d-1))).bind λo=>bif (!o)then(some true)else((ix b.cG a).bind λn=>(ix b.cG c).bind λl=>some (decide (n.cy≠l.cy)))):Option Bool).bind λ(k:Bool)=>bif k then(some (.inr (.inr (.inr false))))else((ix b.cG a).bind λi=>(ix b.cG c).bind λm=>(f188 b.di i.bt m.bt).bind λq=>bif q then(some (.inr (.inr (.inr false))))else(cu (0<=a)<|cu (0<=c)<|cu (a.toNat<=c.toNat)<|cu (c.toNat<=b.cG.length)<|(f190_1 ((b.cG.take c.toNat).drop a.toNat) i.cy).bind λp=>bif p then(some (.inr (.inr (.inr false))))else(some (.inl ()))))))):Option (Unit⊕(Int⊕(Unit⊕Bool)))).bind (Sum.elim (λ(_:Unit)=>some (.inl (wr (d+1)))) some))else(some (.inr (.inl ())))) cz 1).bind (Sum.elim (λ(_:Unit)=>some true) some)
def f277(e:eA)(c:bS)(a:cr):Option Bool:=(((f85 a.pos 1 e.top).bind λg=>bif (!g)then(some true)else(some (decide ((a.dm.length:Int)≠(c.cG.length:Int))))):Option Bool).bind λ(p:Bool)=>bif p then(some false)else((bZ (τ:=(Unit⊕Bool)) (λ(b:Int)=>bif decide (b<(a.dm.length:Int)) then((ix a.dm b).bind λf=>(((f85 f 1 (e.low.length:Int)).bind λn=>bif (!n)then(some true)else((ix c.cG b).bind λl=>(f122 e a.pos f l.cy).bind λi=>some (!i))):Option Bool).bind λ(k:Bool)=>bif k then(some (.inr (.inr false)))else((bZ (τ:=(Unit⊕(Int⊕(Unit⊕Bool)))) (λ(d:Int)=>bif decide (d<b) then((ix c.cG d).bind λm=>(ix c.cG b).bind λq=>(ix a.dm d).bind λj=>(f123 m q j f).bind λo=>bif (!o)then(some (.inr (.inr (.inr (.inr false)))))else(some (.inl (wr (d+1)))))else(some (.inr (.inl ())))) cz 0).bind (Sum.elim (λ(_:Unit)=>some (.inl (wr (b+1)))) some)))else(some (.inr (.inl ())))) cz 0).bind (Sum.elim (λ(_:Unit)=>(f121_1 e c a.dm).bind λh=>some h) some))
def f198(a:Int)(b:Int):Option Int:=some (kM (wr (a-b)) (wr (b-a)))
def f197(i:bS)(c:cr)(h:Int):Option ((List aW)):=(bZ (τ:=(List aW)) (λ((a,b):(List aW×Int))=>bif decide (b<(c.dm.length:Int)) then((((ix c.dm b).bind λf=>bif decide (f=h) then((ix i.cG b).bind λd=>cu (a.length+1<=bJ)<|some (a++([d]:List aW)))else(some a)):Option (List aW)).bind λ(g:(List aW))=>some (.inl (g,wr (b+1))))else(some (.inr a))) cz (([]:List aW),0)).bind λ(e:(List aW))=>some e
def f327(b:List aW)(d:aW):Option Int:=(bZ (τ:=(Unit⊕Int)) (λ(a:Int)=>bif decide (a<(b.length:Int)) then((ix b a).bind λc=>bif (gY d c)then(some (.inr (.inr a)))else(some (.inl (wr (a+1)))))else(some (.inr (.inl ())))) cz 0).bind (Sum.elim (λ(_:Unit)=>some (-1)) some)
def f316(b:List aW)(c:aW):Option Bool:=(f327 b c).bind λa=>some (decide (0<=a))
def f315(b:aW)(c:List aW):Option Bool:=(f316 c b).bind λa=>some a
def f185_3(b:List aW)(e:List aW):Option Int:=(bZ (τ:=(Unit⊕Int)) (λ(a:Int)=>bif decide (a<(b.length:Int)) then((ix b a).bind λd=>(f315 d e).bind λc=>bif c then(some (.inr (.inr a)))else(some (.inl (wr (a+1)))))else(some (.inr (.inl ())))) cz 0).bind (Sum.elim (λ(_:Unit)=>some (-1)) some)
def f190_2(b:List aW)(c:List aW):Option Bool:=(f185_3 b c).bind λa=>some (decide (0<=a))
def f278(a:eA)(h:bS)(i:cr)(b:bS)(g:cr):Option (Int×Bool):=(bZ (τ:=(Unit⊕(Int×Bool))) (λ(e:Int)=>bif decide (e<(b.held.length:Int)) then((ix b.held e).bind λm=>(f119 h m).bind λo=>(ix i.dm o).bind λq=>(f119 b m).bind λw=>(ix g.dm w).bind λn=>bif decide (q≠n) then(some (.inr (.inr (0,false))))else(some (.inl (wr (e+1)))))else(some (.inr (.inl ())))) cz 0).bind (Sum.elim (λ(_:Unit)=>(f198 i.pos g.pos).bind λd=>((bif decide (0<(h.cG.length:Int)) then(some (decide (0<(b.cG.length:Int))))else(some false)):Option Bool).bind λ(f:Bool)=>((bif f then(some (decide (a.jump<d)))else(some false)):Option Bool).bind λ(u:Bool)=>bif u then(some (0,false))else(((((bif f then(some (decide (0<d)))else(some false)):Option Bool).bind λ(r:Bool)=>bif r then(some (wr ((wr (a.shift*d))+a.lift)))else(some (wr (a.shift*d)))):Option Int).bind λ(v:Int)=>(bZ (τ:=Int) (λ((j,c):(Int×Int))=>((bif decide (c<=(a.low.length:Int)) then(some f)else(some false)):Option Bool).bind λ(y:Bool)=>bif y then((((f197 h i c).bind λk=>(f197 b g c).bind λl=>((bif decide (0<(k.length:Int)) then(bif decide (0<(l.length:Int)) then((f190_2 k l).bind λx=>some (!x))else(some false))else(some false)):Option Bool).bind λ(p:Bool)=>bif p then(some (wr (j+a.gK)))else(some j)):Option Int).bind λ(s:Int)=>some (.inl (s,wr (c+1))))else(some (.inr j))) cz (v,1)).bind λ(t:Int)=>some (t,true))) some)
def f228(a:eA)(c:bS)(g:cr)(b:bS)(f:cr):Option (Int×Int):=(f39 a).bind λh=>bif decide (h≠0) then(some (0,h))else((f196 ([c,b]:List bS)).bind λe=>bif decide (e≠0) then(some (0,e))else((((f277 a c g).bind λi=>bif (!i)then(some true)else((f277 a b f).bind λk=>some (!k))):Option Bool).bind λ(j:Bool)=>bif j then(some (0,61))else((f278 a c g b f).bind λd=>bif (!d.2)then(some (0,61))else(some (d.1,0)))))
def f227(c:cr)(a:cP)(d:bS)(b:cr):Option Bool:=(f228 a.h a.dB c d b).bind λe=>some (decide (e.2=0))
def f276(b:List cr)(f:cP)(e:bS)(g:cr):Option Int:=(bZ (τ:=(Unit⊕Int)) (λ(a:Int)=>bif decide (a<(b.length:Int)) then((ix b a).bind λd=>(f227 d f e g).bind λc=>bif c then(some (.inr (.inr a)))else(some (.inl (wr (a+1)))))else(some (.inr (.inl ())))) cz 0).bind (Sum.elim (λ(_:Unit)=>some (-1)) some)
def f226(e:List cr)(c:cP)(b:bS)(d:cr):Option Bool:=(f276 e c b d).bind λa=>some (decide (0<=a))
def f161(c:cP)(f:bS):Option (List cr):=(f16 c.h f).bind λa=>bif decide (a.2≠0) then(some ([]:List cr))else(bif decide ((c.bM.bG.length:Int)=0) then(some a.1)else((bZ (τ:=(List cr)) (λ((b,d):(List cr×Int))=>bif decide (d<(a.1.length:Int)) then((((ix a.1 d).bind λe=>(f226 c.fp c f e).bind λj=>bif j then(cu (b.length+1<=bJ)<|some (b++([e]:List cr)))else(some b)):Option (List cr)).bind λ(g:(List cr))=>some (.inl (g,wr (d+1))))else(some (.inr b))) cz (([]:List cr),0)).bind λ(i:(List cr))=>some i))
def f350(c:cP)(d:List bx)(k:bV)(g:bS)(i:List cr)(f:Bool)(j:List bx)(h:List bx)(e:bV):Option ((List cr×bS)⊕Unit):=(f160 c e d).bind λa=>(f161 c (⟨a.cG,a.held,a.di⟩:bS)).bind λb=>bif decide (0<(b.length:Int)) then(some (.inl (b,(⟨a.cG,a.held,a.di⟩:bS))))else(some (.inr ()))
def f349(l:List bx)(e:cP)(f:List bx)(n:List bx)(i:bV)(o:bS)(j:List cr)(h:Bool)(g:List (List aW))(p:Int)(r:Int)(m:List Bool):Option ((List cr×bS×bV)⊕Unit):=(bZ (τ:=(Unit⊕((List cr×bS×bV)⊕Unit))) (λ(b:Int)=>bif decide (b<(g.length:Int)) then((ix g b).bind λd=>(f221 m).bind λc=>(f222 e (⟨d,c⟩:bV) f).bind λk=>bif k then((f350 e n i o j h l f (⟨d,c⟩:bV)).bind (Sum.elim (λa=>some (.inr (.inr (.inl (a.1,(⟨a.2.cG,a.2.held,a.2.di⟩:bS),(⟨d,c⟩:bV)))))) λq=>some (.inl (wr (b+1)))))else(some (.inl (wr (b+1)))))else(some (.inr (.inl ())))) cz 0).bind (Sum.elim (λ(_:Unit)=>some (.inr ())) some)
def f266_1r:Nat->Int->Int->Int->(List bx)->cP->(List bx)->(List bx)->bV->bS->(List cr)->Bool->(List (List aW))->Int->(List Bool)->Option ((List Bool)⊕(bV×bS×List cr×List Bool))
 |0,_,_,_,_,_,_,_,_,_,_,_,_,_,_=>none
 |w+1,d,i,f,t,l,q,j,r,k,s,m,o,n,c=>bif decide (d=f) then(bif decide (0<i) then(some (.inl c))else((f349 t l q j r k s m o n f c).bind (Sum.elim (λb=>some (.inr ((⟨b.2.2.places,b.2.2.cut⟩:bV),(⟨b.2.1.cG,b.2.1.held,b.2.1.di⟩:bS),b.1,c))) λA=>some (.inl c))))else((bZ (τ:=((List Bool)⊕((List Bool)⊕(bV×bS×List cr×List Bool)))) (λ((e,g):(List Bool×Int))=>bif decide (g<2) then((((ix ([false,true]:List Bool) g).bind λp=>((bif p then(some (wr (i-1)))else(some i)):Option Int).bind λ(h:Int)=>((bif decide (h<0) then(some true)else(some (decide ((wr ((wr (f-d))-1))<h)))):Option Bool).bind λ(x:Bool)=>bif x then(some (.inl e))else((ix e d).bind λz=>(f266_1r w (wr (d+1)) h f t l q j r k s m o n (e.set d.toNat p)).bind (Sum.elim (λv=>some (.inl v)) λa=>some (.inr (.inr (.inr (.inr ((⟨a.1.places,a.1.cut⟩:bV),(⟨a.2.1.cG,a.2.1.held,a.2.1.di⟩:bS),a.2.2.1,a.2.2.2)))))))):Option ((List Bool)⊕((List Bool×Int)⊕((List Bool)⊕((List Bool)⊕(bV×bS×List cr×List Bool)))))).bind (Sum.elim (λ(y:(List Bool))=>some (.inl (y,wr (g+1)))) some))else(some (.inr (.inl e)))) cz (c,0)).bind (Sum.elim (λ(u:(List Bool))=>some (.inl u)) some))
def f266_1(i:Int)(d:Int)(l:Int)(h:List bx)(g:cP)(f:List bx)(a:List bx)(j:bV)(c:bS)(m:List cr)(b:Bool)(k:List (List aW))(n:Int)(e:List Bool):Option ((List Bool)⊕(bV×bS×List cr×List Bool)):=f266_1r cz i d l h g f a j c m b k n e
def f265_1(k:List bx)(j:cP)(n:List bx)(m:List bx)(g:bV)(l:bS)(i:List cr)(f:Bool)(o:List (List aW))(e:Int)(b:Int):Option ((List cr×bS×bV)⊕Unit):=cu (0<=b)<|cu (b<=(bJ:Int))<|(bZ (τ:=(Unit⊕((List cr×bS×bV)⊕Unit))) (λ((h,c):(List Bool×Int))=>bif decide (c<=b) then((f266_1 0 c b k j n m g l i f o e h).bind (Sum.elim (λd=>some (.inl (d,wr (c+1)))) λa=>some (.inr (.inr (.inl (a.2.2.1,(⟨a.2.1.cG,a.2.1.held,a.2.1.di⟩:bS),(⟨a.1.places,a.1.cut⟩:bV)))))))else(some (.inr (.inl ())))) cz ((List.replicate b.toNat (false:Bool)),0)).bind (Sum.elim (λ(_:Unit)=>some (.inr ())) some)
def f348(d:List bx)(b:cP)(c:List bx)(l:List bx)(h:bV)(k:bS)(i:List cr)(g:Bool)(f:Int)(e:List Bool):Option (Unit⊕((List cr×bS×bV)⊕Unit)):=(f69 e false).bind λm=>bif (!m)then(some (.inl ()))else((f220 b.kx d e b.shift).bind λj=>(f219 (c.length:Int)).bind λn=>(f265_1 d b c l h k i g j f (c.length:Int)).bind (Sum.elim (λa=>some (.inr (.inl (a.1,(⟨a.2.1.cG,a.2.1.held,a.2.1.di⟩:bS),(⟨a.2.2.places,a.2.2.cut⟩:bV))))) λo=>some (.inr (.inr ()))))
def f266r:Nat->Int->Int->Int->(List bx)->cP->(List bx)->(List bx)->bV->bS->(List cr)->Bool->(List Bool)->Option ((List Bool)⊕((List Bool)⊕(bV×bS×List cr×List Bool)))
 |0,_,_,_,_,_,_,_,_,_,_,_,_=>none
 |v+1,d,i,e,r,l,o,j,p,k,q,m,b=>bif decide (d=e) then(bif decide (0<i) then(some (.inl b))else((f348 r l o j p k q m e b).bind (Sum.elim (λy=>some (.inr (.inl b))) (Sum.elim (λc=>some (.inr (.inr ((⟨c.2.2.places,c.2.2.cut⟩:bV),(⟨c.2.1.cG,c.2.1.held,c.2.1.di⟩:bS),c.1,b)))) λz=>some (.inl b)))))else((bZ (τ:=((List Bool)⊕((List Bool)⊕((List Bool)⊕(bV×bS×List cr×List Bool))))) (λ((f,g):(List Bool×Int))=>bif decide (g<2) then((((ix ([false,true]:List Bool) g).bind λn=>((bif n then(some (wr (i-1)))else(some i)):Option Int).bind λ(h:Int)=>((bif decide (h<0) then(some true)else(some (decide ((wr ((wr (e-d))-1))<h)))):Option Bool).bind λ(x:Bool)=>bif x then(some (.inl f))else((ix f d).bind λA=>(f266r v (wr (d+1)) h e r l o j p k q m (f.set d.toNat n)).bind (Sum.elim (λs=>some (.inl s)) (Sum.elim (λu=>some (.inr (.inr (.inr (.inr (.inl u)))))) λa=>some (.inr (.inr (.inr (.inr (.inr ((⟨a.1.places,a.1.cut⟩:bV),(⟨a.2.1.cG,a.2.1.held,a.2.1.di⟩:bS),a.2.2.1,a.2.2.2)))))))))):Option ((List Bool)⊕((List Bool×Int)⊕((List Bool)⊕((List Bool)⊕((List Bool)⊕(bV×bS×List cr×List Bool))))))).bind (Sum.elim (λ(w:(List Bool))=>some (.inl (w,wr (g+1)))) some))else(some (.inr (.inl f)))) cz (b,0)).bind (Sum.elim (λ(t:(List Bool))=>some (.inl t)) some))
def f266(i:Int)(d:Int)(k:Int)(h:List bx)(g:cP)(f:List bx)(a:List bx)(j:bV)(c:bS)(l:List cr)(b:Bool)(e:List Bool):Option ((List Bool)⊕((List Bool)⊕(bV×bS×List cr×List Bool))):=f266r cz i d k h g f a j c l b e
def f265(h:List bx)(i:cP)(l:List bx)(k:List bx)(f:bV)(j:bS)(g:List cr)(e:Bool)(b:Int):Option (Unit⊕((List cr×bS×bV)⊕Unit)):=cu (0<=b)<|cu (b<=(bJ:Int))<|(bZ (τ:=(Unit⊕(Unit⊕((List cr×bS×bV)⊕Unit)))) (λ((m,c):(List Bool×Int))=>bif decide (c<=b) then((f266 0 c b h i l k f j g e m).bind (Sum.elim (λd=>some (.inl (d,wr (c+1)))) (Sum.elim (λn=>some (.inr (.inr (.inl ())))) λa=>some (.inr (.inr (.inr (.inl (a.2.2.1,(⟨a.2.1.cG,a.2.1.held,a.2.1.di⟩:bS),(⟨a.1.places,a.1.cut⟩:bV)))))))))else(some (.inr (.inl ())))) cz ((List.replicate b.toNat (false:Bool)),0)).bind (Sum.elim (λ(_:Unit)=>some (.inr (.inr ()))) some)
def f218(h:cP)(d:List bx)(i:bV)(e:bS)(g:List cr)(c:Bool)(b:List bx)(f:List bx):Option (Unit⊕(List cr×bS×bV)):=(f219 (b.length:Int)).bind λl=>(f265 b h f d i e g c (b.length:Int)).bind (Sum.elim (λk=>some (.inl ())) (Sum.elim (λa=>some (.inr (a.1,(⟨a.2.1.cG,a.2.1.held,a.2.1.di⟩:bS),(⟨a.2.2.places,a.2.2.cut⟩:bV)))) λj=>some (.inl ())))
def f98(d:cP)(c:List bx)(b:List bx):Option (bV×bS×List cr×Bool):=(bZ (τ:=(bV×bS×List cr×Bool)) (λ(_:Unit)=>(f159 d c b).bind λi=>(f218 d b (⟨([]:List aW),([]:List Bool)⟩:bV) (⟨([]:List aW),([]:List Int),([]:List Int)⟩:bS) ([]:List cr) false c b).bind (Sum.elim (λj=>some (.inr ((⟨([]:List aW),([]:List Bool)⟩:bV),(⟨([]:List aW),([]:List Int),([]:List Int)⟩:bS),([]:List cr),false))) λa=>some (.inr ((⟨a.2.2.places,a.2.2.cut⟩:bV),(⟨a.2.1.cG,a.2.1.held,a.2.1.di⟩:bS),a.1,true)))) cz ()).bind λ((e,h,g,f):(bV×bS×List cr×Bool))=>some (e,h,g,f)
def f163(a:aW):Option Int:=some a.bt
def f162(a:List aW):Option ((List Int)):=cu ((0:Int)<=(a.length:Int))<|cu ((a.length:Int)<=(bJ:Int))<|(bZ (τ:=(List Int)) (λ((c,b):(List Int×Int))=>bif decide (b<(a.length:Int)) then((ix a b).bind λd=>(f163 d).bind λe=>cu (c.length+1<=bJ)<|some (.inl ((c++([e]:List Int)),wr (b+1))))else(some (.inr c))) cz (([]:List Int),0)).bind λ(f:(List Int))=>some f
def f99(a:cP)(d:cN)(c:Bool):Option (List aW×List Int×List Int×List cn×List cr):=((bif c then((f162 a.dB.cG).bind λf=>some (⟨a.dB.cG,f,a.dB.di⟩:bS))else(some (⟨([]:List aW),([]:List Int),([]:List Int)⟩:bS))):Option bS).bind λ(b:bS)=>(f161 a b).bind λe=>cu (a.bM.bG.length<cT)<|some (b.cG,b.held,b.di,(a.bM.bG++[(⟨false,d,c,([]:List cW)⟩:cn)]),e)
def f164(b:cW)(d:List bX)(g:Int)(e:Int)(c:Int)(a:Int)(f:Int)(h:Int):Option Bool:=some (decide (b.bt=a))
def f140(b:List cW)(d:List bX)(e:Int)(j:Int)(i:Int)(g:Int)(k:Int)(h:Int):Option Int:=(bZ (τ:=(Unit⊕Int)) (λ(a:Int)=>bif decide (a<(b.length:Int)) then((ix b a).bind λf=>(f164 f d e j i g k h).bind λc=>bif c then(some (.inr (.inr a)))else(some (.inl (wr (a+1)))))else(some (.inr (.inl ())))) cz 0).bind (Sum.elim (λ(_:Unit)=>some (-1)) some)
def f166(b:cW)(c:cW):Option Int:=(f104 b.bt c.bt).bind λa=>some a
def f165(a:List cW):Option (List cW):=sA f166 a
def f100(m:cP)(t:bV)(p:List bx)(q:List bx)(I:cN):Option (List cW×List bx×List bx×List cn×List bx):=(bZ (τ:=(List cn×List bx×List bx)) (λ((g,f,i,k):(List cn×List bx×List bx×Int))=>bif decide (k<(q.length:Int)) then((((ix q k).bind λa=>(ix t.cut k).bind λz=>bif z then(cu (i.length+1<=bJ)<|some (g,f,(i++([a]:List bx))))else(cu (f.length+1<=bJ)<|bif decide (0<a.bQ.cy) then((ix g a.de).bind λe=>cu (a.de.toNat<cT)<|(f140 e.df a.bO a.bY a.bW a.dx a.bQ.bt a.bQ.cy a.de).bind λs=>(ix e.df s).bind λn=>some ((g.set a.de.toNat (⟨e.lC,e.sign,e.tie,(e.df.set s.toNat (⟨n.bt,n.cy,n.right,n.jP,(wr ((m.bM.bG.length:Int)-a.de))⟩:cW))⟩:cn)),(f++([a]:List bx)),i))else(some (g,(f++([a]:List bx)),i)))):Option (List cn×List bx×List bx)).bind λ((w,D,y):(List cn×List bx×List bx))=>some (.inl (w,D,y,wr (k+1))))else(some (.inr (g,f,i)))) cz (m.bM.bG,([]:List bx),([]:List bx),0)).bind λ((F,x,A):(List cn×List bx×List bx))=>(bZ (τ:=(List cW×List bx×List bx×List bx)) (λ((j,l,h,o,c):(List bx×List cW×List bx×List bx×Int))=>bif decide (c<(p.length:Int)) then((((ix o 0).bind λb=>cu (h.length<cT)<|cu (0<=c/\c<(p.length:Int))<|cu (c.toNat=h.length/\c.toNat<=cT)<|(ix t.places c).bind λd=>bif decide (0<d.bt) then(cu (j.length+1<=bJ)<|cu (l.length+1<=bJ)<|some ((j++([(⟨b.bO,b.bY,b.bW,b.dx,d,(m.bM.bG.length:Int)⟩:bx)]:List bx)),(l++([(⟨d.bt,d.cy,0,0,0⟩:cW)]:List cW)),(h++[(⟨b.bO,b.bY,b.bW,b.dx,d,(m.bM.bG.length:Int)⟩:bx)])))else(some (j,l,(h++[(⟨b.bO,b.bY,b.bW,b.dx,d,b.de⟩:bx)])))):Option (List bx×List cW×List bx)).bind λ((B,H,C):(List bx×List cW×List bx))=>some (.inl (B,H,C,(o.drop 1),wr (c+1))))else(some (.inr (l,h,o,j)))) cz (x,([]:List cW),([]:List bx),p,0)).bind λ((u,G,v,E):(List cW×List bx×List bx×List bx))=>(f165 u).bind λr=>cu (r.length=u.length)<|cu (v=[])<|some (r,A,G,F,E)
def f48(a:cP)(D:List (List bP))(u:Int)(b:List cN):Option (List bx×List bx×List aW×List Int×List Int×List cn×List bx×List cr):=(f96 D u).bind λf=>(f97 a u).bind λi=>(f98 a f i).bind λd=>bif (!d.2.2.2)then((bZ (τ:=(List aW×List Int×List Int×List cn×List cr)) (λ((l,q,t,n,p,j):(List aW×List Int×List Int×List cn×List cr×Int))=>bif decide (j<(b.length:Int)) then((ix b j).bind λx=>(f99 (⟨(⟨l,q,t⟩:bS),a.kx,a.h,a.shift,(⟨a.bM.instrument,n⟩:dS),a.db,p⟩:cP) x (decide (0<(i.length:Int)))).bind λg=>some (.inl (g.1,g.2.1,g.2.2.1,g.2.2.2.1,g.2.2.2.2,wr (j+1))))else(some (.inr (l,q,t,n,p)))) cz (a.dB.cG,a.dB.held,a.dB.di,a.bM.bG,a.fp,0)).bind λ((A,z,y,G,H):(List aW×List Int×List Int×List cn×List cr))=>cu (f.length<=cT)<|some (f,([]:List bx),A,z,y,G,i,H))else((ix b 0).bind λv=>(f100 a (⟨d.1.places,d.1.cut⟩:bV) f i v).bind λc=>cu (c.2.2.1.length=f.length)<|cu (c.2.2.2.1.length<cT)<|cu (1<=b.length)<|(bZ (τ:=(List aW×List Int×List Int×List cn×List cr)) (λ((s,m,w,o,r,k):(List aW×List Int×List Int×List cn×List cr×Int))=>bif (decide (k<(((b.take b.length).drop 1).length:Int)))then((ix ((b.take b.length).drop 1) k).bind λF=>(f99 (⟨(⟨s,m,w⟩:bS),a.kx,a.h,a.shift,(⟨a.bM.instrument,o⟩:dS),c.2.2.2.2,r⟩:cP) F true).bind λe=>some (.inl (e.1,e.2.1,e.2.2.1,e.2.2.2.1,e.2.2.2.2,wr (k+1))))else(some (.inr (s,m,w,o,r)))) cz (d.2.1.cG,d.2.1.held,d.2.1.di,(c.2.2.2.1++[(⟨false,v,false,c.1⟩:cn)]),d.2.2.1,0)).bind λ((B,C,E,J,I):(List aW×List Int×List Int×List cn×List cr))=>some (c.2.2.1,c.2.1,B,C,E,J,c.2.2.2.2,I))
def f49(o:dC)(y:List (List bP))(p:List bx)(m:List bx)(e:Int):Option (List (List aW)×List cU):=(bZ (τ:=(List (List aW)×List cU)) (λ((n,s,j):(List (List aW)×List cU×Int))=>bif decide (j<(p.length:Int)) then((ix p j).bind λb=>(bZ (τ:=(List (List aW)×List cU)) (λ((d,c,g):(List (List aW)×List cU×Int))=>bif decide (g<(b.bO.length:Int)) then((((ix b.bO g).bind λa=>(ix d a.part).bind λh=>cu (a.part.toNat<cT)<|(ix h a.eI).bind λF=>bif decide (b.bQ.bt=0) then(cu (c.length+1<=bJ)<|some ((d.set a.part.toNat (h.set a.eI.toNat b.bQ)),(c++([(⟨a.part,a.eI,1,e⟩:cU)]:List cU))))else(bif decide (0<g) then(cu (c.length+1<=bJ)<|some ((d.set a.part.toNat (h.set a.eI.toNat b.bQ)),(c++([(⟨a.part,a.eI,2,e⟩:cU)]:List cU))))else(some ((d.set a.part.toNat (h.set a.eI.toNat b.bQ)),c)))):Option (List (List aW)×List cU)).bind λ((w,D):(List (List aW)×List cU))=>some (.inl (w,D,wr (g+1))))else(some (.inr (d,c)))) cz (n,s,0)).bind λ((E,u):(List (List aW)×List cU))=>some (.inl (E,u,wr (j+1))))else(some (.inr (n,s)))) cz (o.dz,o.cI,0)).bind λ((z,x):(List (List aW)×List cU))=>(bZ (τ:=(List cU)) (λ((r,k):(List cU×Int))=>bif decide (k<(m.length:Int)) then((ix m k).bind λq=>(bZ (τ:=(List cU)) (λ((f,l):(List cU×Int))=>bif decide (l<(q.bO.length:Int)) then((((ix q.bO l).bind λi=>(ix y i.part).bind λv=>(ix v i.eI).bind λB=>bif decide (e<B.dx) then(cu (f.length+1<=bJ)<|some (f++([(⟨i.part,i.eI,3,e⟩:cU)]:List cU)))else(some f)):Option (List cU)).bind λ(A:(List cU))=>some (.inl (A,wr (l+1))))else(some (.inr f))) cz (r,0)).bind λ(C:(List cU))=>some (.inl (C,wr (k+1))))else(some (.inr r))) cz (x,0)).bind λ(t:(List cU))=>some (z,t)
def f51(b:cU)(a:cU):Option Int:=(f104 b.part a.part).bind λe=>(f104 b.eI a.eI).bind λf=>(f104 b.kind a.kind).bind λd=>(f103 ([e,f,d]:List Int)).bind λc=>some c
def f50(a:List cU):Option (List cU):=sA f51 a
def f11(b:List (List bP))(m:bK)(y:eA)(c:Int):Option (dC×Int):=(f38 b m).bind λt=>bif decide (t≠0) then(some ((⟨(⟨(⟨([]:List cO),([]:List Int)⟩:bK),([]:List cn)⟩:dS),0,([]:List (List aW)),([]:List cU)⟩:dC),t))else((f39 y).bind λp=>bif decide (p≠0) then(some ((⟨(⟨(⟨([]:List cO),([]:List Int)⟩:bK),([]:List cn)⟩:dS),0,([]:List (List aW)),([]:List cU)⟩:dC),p))else((f40 c (-24) 24).bind λJ=>bif (!J)then(some ((⟨(⟨(⟨([]:List cO),([]:List Int)⟩:bK),([]:List cn)⟩:dS),0,([]:List (List aW)),([]:List cU)⟩:dC),1))else((f41 b).bind λd=>(bZ (τ:=((List (List cN))⊕(dC×Int))) (λ((h,f):(List (List cN)×Int))=>bif (decide (f<(wr ((d.length:Int)-1))))then((ix d (wr (f+1))).bind λH=>(ix d f).bind λK=>(f42 (wr (H-K))).bind λu=>bif decide (u.2≠0) then(some (.inr (.inr ((⟨(⟨(⟨([]:List cO),([]:List Int)⟩:bK),([]:List cn)⟩:dS),0,([]:List (List aW)),([]:List cU)⟩:dC),25))))else(cu (h.length+1<=bJ)<|some (.inl ((h++([u.1]:List (List cN))),wr (f+1)))))else(some (.inr (.inl h)))) cz (([]:List (List cN)),0)).bind (Sum.elim (λ(n:(List (List cN)))=>(f43 n).bind λI=>bif decide (400<(I.length:Int)) then(some ((⟨(⟨(⟨([]:List cO),([]:List Int)⟩:bK),([]:List cn)⟩:dS),0,([]:List (List aW)),([]:List cU)⟩:dC),2))else((f44 m.ck).bind λi=>(f45 m.bN).bind λk=>(f46 b).bind λL=>(bZ (τ:=(List aW×List Int×List Int×List cn×List bx×List cr×List cO×List Int×List cn×List (List aW)×List cU)) (λ((D,C,r,w,B,s,g,l,j,x,z,e):(List aW×List Int×List Int×List cn×List bx×List cr×List cO×List Int×List cn×List (List aW)×List cU×Int))=>bif decide (e<(n.length:Int)) then((ix n e).bind λG=>(ix d e).bind λE=>(f48 (⟨(⟨D,C,r⟩:bS),(⟨i,k⟩:bK),y,c,(⟨(⟨i,k⟩:bK),w⟩:dS),B,s⟩:cP) b E G).bind λa=>(f49 (⟨(⟨(⟨g,l⟩:bK),j⟩:dS),c,x,z⟩:dC) b a.1 a.2.1 E).bind λq=>some (.inl (a.2.2.1,a.2.2.2.1,a.2.2.2.2.1,a.2.2.2.2.2.1,a.2.2.2.2.2.2.1,a.2.2.2.2.2.2.2,g,l,j,q.1,q.2,wr (e+1))))else(some (.inr (D,C,r,w,B,s,g,l,j,x,z)))) cz (([]:List aW),([]:List Int),([]:List Int),([]:List cn),([]:List bx),([]:List cr),([]:List cO),([]:List Int),([]:List cn),L,([]:List cU),0)).bind λ((N,P,Q,v,S,O,M,R,T,F,A):(List aW×List Int×List Int×List cn×List bx×List cr×List cO×List Int×List cn×List (List aW)×List cU))=>(f50 A).bind λo=>cu (v.length<=cT)<|cu (F.length<=cT)<|cu (o.length=A.length)<|some ((⟨(⟨(⟨i,k⟩:bK),v⟩:dS),c,F,o⟩:dC),0))) some))))
def f10:Option Bool:=(f36).bind λf=>(f37).bind λg=>(f11 ([([(⟨67,0,192⟩:bP)]:List bP),([(⟨67,0,96⟩:bP),(⟨60,96,192⟩:bP)]:List bP)]:List (List bP)) f g 0).bind λa=>((bif decide (a.2≠0) then(some true)else(bif decide ((a.1.cI.length:Int)≠1) then(some true)else((ix a.1.cI 0).bind λd=>bif (!(Ob d (⟨1,0,2,0⟩:cU)))then(some true)else(some (decide ((a.1.bM.bG.length:Int)≠2)))))):Option Bool).bind λ(e:Bool)=>bif e then(some false)else((ix a.1.bM.bG 1).bind λc=>((bif decide ((c.df.length:Int)=1) then((ix c.df 0).bind λb=>bif decide (b.bt=3) then(some (decide (b.cy=3)))else(some false))else(some false)):Option Bool).bind λ(h:Bool)=>some h)
def f129(a:cN):Option Bool:=((bif (oD a (⟨0,false,false⟩:cN))then(some true)else((f93 a).bind λb=>some (decide (0<b)))):Option Bool).bind λ(c:Bool)=>some c
def f244(a:cn):Option Bool:=((bif decide ((a.df.length:Int)=0) then(some (!a.tie))else(some false)):Option Bool).bind λ(b:Bool)=>some b
def f296(a:cW)(b:Int):Option Bool:=some (decide (a.bt=b))
def f140_1(b:List cW)(e:Int):Option Int:=(bZ (τ:=(Unit⊕Int)) (λ(a:Int)=>bif decide (a<(b.length:Int)) then((ix b a).bind λd=>(f296 d e).bind λc=>bif c then(some (.inr (.inr a)))else(some (.inl (wr (a+1)))))else(some (.inr (.inl ())))) cz 0).bind (Sum.elim (λ(_:Unit)=>some (-1)) some)
def f78(b:List cW)(c:Int):Option Bool:=(f140_1 b c).bind λa=>some (decide (0<=a))
def f245(b:cn)(c:Int):Option Bool:=(f78 b.df c).bind λa=>some a
def f192(b:dS)(a:Int)(j:Int):Option Int:=((bif decide (a<0) then(some true)else(some (decide ((b.bG.length:Int)<=a)))):Option Bool).bind λ(g:Bool)=>bif g then(some 0)else(cu (0<=(wr (a+1)))<|cu ((wr (a+1)).toNat<=b.bG.length)<|(bZ (τ:=Int) (λ((c,d):(Int×Int))=>bif (decide (d<(((b.bG.take b.bG.length).drop (wr (a+1)).toNat).length:Int)))then((ix ((b.bG.take b.bG.length).drop (wr (a+1)).toNat) d).bind λe=>((bif decide (c=15) then(some true)else((f244 e).bind λf=>bif f then(some true)else((f245 e j).bind λh=>some h))):Option Bool).bind λ(i:Bool)=>bif i then(some (.inr c))else(some (.inl ((wr (c+1)),wr (d+1)))))else(some (.inr c))) cz (0,0)).bind λ(k:Int)=>some k)
def f130(b:dS)(h:Int)(a:cW)(c:Int):Option Int:=((bif decide (a.bt<1) then(some true)else(some (decide ((b.instrument.ck.length:Int)<a.bt)))):Option Bool).bind λ(f:Bool)=>bif f then(some 12)else(((bif decide (a.cy<0) then(some true)else((ix b.instrument.ck (wr (a.bt-1))).bind λd=>some (decide (d.dG<a.cy)))):Option Bool).bind λ(i:Bool)=>bif i then(some 13)else(bif decide (a.bt<=c) then(some 22)else(((bif decide (a.right<0) then(some true)else(bif decide (3<a.right) then(some true)else(bif decide (a.jP<0) then(some true)else(some (decide (4<a.jP)))))):Option Bool).bind λ(j:Bool)=>bif j then(some 23)else(((bif decide (a.hold<0) then(some true)else((f192 b h a.bt).bind λe=>bif decide (e<a.hold) then(some true)else(bif decide (0<a.hold) then(some (decide (a.cy=0)))else(some false)))):Option Bool).bind λ(g:Bool)=>bif g then(some 24)else(some 0)))))
def f66(c:dS):Option Int:=(f70 c.instrument).bind λg=>bif decide (g≠0) then(some g)else(bif decide (400<(c.bG.length:Int)) then(some 2)else((bZ (τ:=(Unit⊕Int)) (λ(b:Int)=>bif decide (b<(c.bG.length:Int)) then((ix c.bG b).bind λa=>(((f129 a.sign).bind λk=>bif (!k)then(some true)else(bif decide (b=0) then(some (oD a.sign (⟨0,false,false⟩:cN)))else(some false))):Option Bool).bind λ(i:Bool)=>bif i then(some (.inr (.inr 20)))else(((bif a.tie then(bif decide (b=0) then(some true)else(some (decide (0<(a.df.length:Int)))))else(some false)):Option Bool).bind λ(h:Bool)=>bif h then(some (.inr (.inr 21)))else((bZ (τ:=(Unit⊕(Int⊕(Unit⊕Int)))) (λ((j,d):(Int×Int))=>bif decide (d<(a.df.length:Int)) then((ix a.df d).bind λe=>(f130 c b e j).bind λf=>bif decide (f≠0) then(some (.inr (.inr (.inr (.inr f)))))else(some (.inl (e.bt,wr (d+1)))))else(some (.inr (.inl ())))) cz (0,0)).bind (Sum.elim (λ(_:Unit)=>some (.inl (wr (b+1)))) some))))else(some (.inr (.inl ())))) cz 0).bind (Sum.elim (λ(_:Unit)=>some 0) some)))
def f76(a:dS):Option Unit:=some ()
def f351(a:List Int)(e:dS)(b:Int)(d:Int):Option (List Int):=(ix a b).bind λc=>cu (a.length+1<=bJ)<|some (a++([(wr (c+d))]:List Int))
def f139(g:List Int)(b:dS):Option (List Int):=(bZ (τ:=((List Int)⊕(List Int))) (λ((d,j,a):(List Int×Int×Int))=>bif decide (a<(b.bG.length:Int)) then((ix b.bG a).bind λi=>(((f93 i.sign).bind λc=>bif decide (0<c) then(some c)else(some j)):Option Int).bind λ(e:Int)=>(f351 d b a e).bind λh=>some (.inl (h,e,wr (a+1))))else(some (.inr (.inl d)))) cz (g,0,0)).bind (Sum.elim (λ(f:(List Int))=>some f) some)
def f29(a:dS):Option (((List Int))×Int):=(f66 a).bind λb=>bif decide (b≠0) then(some (([]:List Int),b))else((f76 a).bind λd=>(f139 ([0]:List Int) a).bind λc=>some (c,0))
def f64(b:dS):Option (fU×Int):=(f29 b).bind λa=>some ((⟨b,a.1⟩:fU),a.2)
def f126(e:Int)(f:Int)(d:List Int)(b:List ez):Option (List ez×List Int):=cu (e<15)<|(ix d e).bind λc=>bif decide (0<c) then((ix b (wr (c-1))).bind λa=>some ((b.set (wr (c-1)).toNat (⟨a.de,a.bt,a.bY,a.bW,f⟩:ez)),(d.set e.toNat 0)))else(some (b,d))
def f25(b:bK)(a:aW):Option (Int×Int):=(f70 b).bind λc=>bif decide (c≠0) then(some (0,c))else(((bif decide (a.bt<1) then(some true)else(some (decide ((b.ck.length:Int)<a.bt)))):Option Bool).bind λ(f:Bool)=>bif f then(some (0,12))else((ix b.ck (wr (a.bt-1))).bind λd=>((bif decide (a.cy<0) then(some true)else(some (decide (d.dG<a.cy)))):Option Bool).bind λ(g:Bool)=>bif g then(some (0,13))else((f71 b d a.cy).bind λe=>some (e,0))))
def f127(a:fU):Option Int:=(ix a.vS (wr ((a.vS.length:Int)-1))).bind λb=>some b
def f128(b:fU)(d:Int)(g:Int):Option Int:=(bZ (τ:=Int) (λ(a:Int)=>((bif (decide ((wr (a+1))<(b.p.bG.length:Int)))then((ix b.p.bG (wr (a+1))).bind λe=>some e.tie)else(some false)):Option Bool).bind λ(f:Bool)=>bif f then(some (.inl (wr (a+1))))else(some (.inr a))) cz (wr (d+g))).bind λ(c:Int)=>some c
def f65(b:fU):Option (((List ez))×((List ig))):=(bZ (τ:=(List ez×List ig)) (λ((h,s,l,c):(List ez×List ig×List Int×Int))=>bif decide (c<(b.p.bG.length:Int)) then((ix b.p.bG c).bind λf=>(ix b.vS c).bind λe=>((((bif decide ((f.df.length:Int)=0) then(some (!f.tie))else(some false)):Option Bool).bind λ(z:Bool)=>bif z then((bZ (τ:=(List ez×List Int)) (λ((q,k,i):(List ez×List Int×Int))=>bif decide (i<15) then((f126 i e k q).bind λn=>some (.inl (n.1,n.2,wr (i+1))))else(some (.inr (q,k)))) cz (h,l,0)).bind λ((A,x):(List ez×List Int))=>some (A,x))else(some (h,l))):Option (List ez×List Int)).bind λ((B,D):(List ez×List Int))=>(bZ (τ:=(List ez×List ig×List Int)) (λ((o,j,m,g):(List ez×List ig×List Int×Int))=>bif decide (g<(f.df.length:Int)) then((ix f.df g).bind λa=>(f126 a.bt e m o).bind λd=>(f25 b.p.instrument (⟨a.bt,a.cy⟩:aW)).bind λC=>(f127 b).bind λw=>((bif decide (0<a.cy) then((f128 b c a.hold).bind λH=>(ix b.vS (wr (H+1))).bind λE=>some (d.2,E))else(cu (a.bt<15)<|(ix d.2 a.bt).bind λI=>some ((d.2.set a.bt.toNat (wr ((d.1.length:Int)+1))),w))):Option (List Int×Int)).bind λ((t,r):(List Int×Int))=>cu (d.1.length+1<=bJ)<|cu (j.length+1<=bJ)<|some (.inl ((d.1++([(⟨c,a.bt,C.1,e,r⟩:ez)]:List ez)),(j++([(⟨c,a.bt,a.cy,e,r⟩:ig)]:List ig)),t,wr (g+1))))else(some (.inr (o,j,m)))) cz (B,s,D,0)).bind λ((v,F,G):(List ez×List ig×List Int))=>some (.inl (v,F,G,wr (c+1))))else(some (.inr (h,s)))) cz (([]:List ez),([]:List ig),([0,0,0,0,0,0,0,0,0,0,0,0,0,0,0]:List Int),0)).bind λ((y,u):(List ez×List ig))=>some (y,u)
def f22(b:dS):Option (((List ez))×Int):=(f64 b).bind λa=>bif decide (a.2≠0) then(some (([]:List ez),a.2))else((f65 a.1).bind λc=>some (c.1,0))
def f67(b:dT):Option Bool:=(bZ (τ:=(Unit⊕Bool)) (λ(c:Int)=>bif decide (c<(b.s.cI.length:Int)) then((ix b.s.cI c).bind λa=>(((f40 a.part 0 (wr ((b.cA.length:Int)-1))).bind λh=>bif (!h)then(some true)else((ix b.cA a.part).bind λd=>(f40 a.eI 0 (wr ((d.length:Int)-1))).bind λj=>bif (!j)then(some true)else((f40 a.kind 1 3).bind λe=>some (!e)))):Option Bool).bind λ(f:Bool)=>bif f then(some (.inr (.inr false)))else(((bif decide (0<c) then((ix b.s.cI (wr (c-1))).bind λg=>(f51 g a).bind λk=>some (decide (0<=k)))else(some false)):Option Bool).bind λ(i:Bool)=>bif i then(some (.inr (.inr false)))else(some (.inl (wr (c+1))))))else(some (.inr (.inl ())))) cz 0).bind (Sum.elim (λ(_:Unit)=>some true) some)
def f137(a:cU)(b:bX)(c:Int):Option Bool:=((bif decide (a.part=b.part) then(bif decide (a.eI=b.eI) then(some (decide (a.kind=c)))else(some false))else(some false)):Option Bool).bind λ(d:Bool)=>some d
def f136(b:List cU)(f:bX)(e:Int):Option Int:=(bZ (τ:=(Unit⊕Int)) (λ(a:Int)=>bif decide (a<(b.length:Int)) then((ix b a).bind λd=>(f137 d f e).bind λc=>bif c then(some (.inr (.inr a)))else(some (.inl (wr (a+1)))))else(some (.inr (.inl ())))) cz 0).bind (Sum.elim (λ(_:Unit)=>some (-1)) some)
def f72(b:dT)(c:bX)(e:Int):Option (cU×Bool):=(f136 b.s.cI c e).bind λa=>bif decide (a<0) then(some ((⟨0,0,0,0⟩:cU),false))else((ix b.s.cI a).bind λd=>some (d,true))
def f131(b:dT)(a:bX)(h:cU):Option Bool:=(f72 b a 2).bind λd=>(f72 b a 3).bind λj=>((bif (!d.2)then(bif (!j.2)then((ix b.cA a.part).bind λf=>(ix f a.eI).bind λc=>bif decide (h.time=c.bW) then((ix b.s.dz a.part).bind λg=>(ix g a.eI).bind λi=>some (gY i (⟨0,0⟩:aW)))else(some false))else(some false))else(some false)):Option Bool).bind λ(e:Bool)=>some e
def f132(d:dT)(b:bX):Option Bool:=(ix d.cA b.part).bind λm=>(ix m b.eI).bind λk=>(ix d.s.dz b.part).bind λj=>(ix j b.eI).bind λf=>(bZ (τ:=(Unit⊕Bool)) (λ(c:Int)=>bif decide (c<b.part) then((ix d.cA c).bind λe=>(bZ (τ:=(Unit⊕(Int⊕(Unit⊕Bool)))) (λ(a:Int)=>bif decide (a<(e.length:Int)) then((((ix e a).bind λn=>((bif decide (n.bW≠k.bW) then(some true)else((ix d.s.dz c).bind λi=>(ix i a).bind λg=>some (!(gY g f)))):Option Bool).bind λ(h:Bool)=>bif h then(some (.inl ()))else((f72 d (⟨c,a⟩:bX) 1).bind λl=>bif (!l.2)then(some (.inr (.inr (.inr (.inr (.inr true))))))else(some (.inl ())))):Option (Unit⊕(Int⊕(Unit⊕(Int⊕(Unit⊕Bool)))))).bind (Sum.elim (λ(_:Unit)=>some (.inl (wr (a+1)))) some))else(some (.inr (.inl ())))) cz 0).bind (Sum.elim (λ(_:Unit)=>some (.inl (wr (c+1)))) some))else(some (.inr (.inl ())))) cz 0).bind (Sum.elim (λ(_:Unit)=>some false) some)
def f193(e:bK)(c:aW)(d:Int):Option Bool:=(f25 e c).bind λa=>((bif decide (a.2=0) then(some (decide (a.1=d)))else(some false)):Option Bool).bind λ(b:Bool)=>some b
def f195(a:ez)(b:bP)(e:aW)(c:dT):Option Bool:=((bif decide (a.bW=b.bW) then(bif decide (a.bt=e.bt) then(some (decide (a.bY=(wr (b.bY+c.s.shift)))))else(some false))else(some false)):Option Bool).bind λ(d:Bool)=>some d
def f194(b:List ez)(f:bP)(e:aW)(g:dT):Option Int:=(bZ (τ:=(Unit⊕Int)) (λ(a:Int)=>bif decide (a<(b.length:Int)) then((ix b a).bind λd=>(f195 d f e g).bind λc=>bif c then(some (.inr (.inr a)))else(some (.inl (wr (a+1)))))else(some (.inr (.inl ())))) cz 0).bind (Sum.elim (λ(_:Unit)=>some (-1)) some)
def f133(a:dT)(c:bX):Option (Bool×List Bool):=(ix a.cA c.part).bind λj=>(ix j c.eI).bind λd=>(ix a.s.dz c.part).bind λh=>(ix h c.eI).bind λf=>(f193 a.s.bM.instrument f (wr (d.bY+a.s.shift))).bind λi=>bif (!i)then(some (false,a.jI))else((f194 a.notes d f a).bind λb=>bif decide (b<0) then(some (false,a.jI))else((ix a.jI b).bind λm=>(f72 (⟨a.cA,a.s,a.notes,(a.jI.set b.toNat true)⟩:dT) c 3).bind λe=>bif e.2 then(((bif decide (e.1.time<d.dx) then((ix a.notes b).bind λk=>some (decide (k.dx=e.1.time)))else(some false)):Option Bool).bind λ(l:Bool)=>some (l,(a.jI.set b.toNat true)))else((ix a.notes b).bind λg=>some ((decide (d.dx<=g.dx)),(a.jI.set b.toNat true)))))
def f68(a:dT)(b:bX):Option (Bool×List Bool):=(f72 a b 1).bind λc=>bif c.2 then((f131 a b (⟨c.1.part,c.1.eI,c.1.kind,c.1.time⟩:cU)).bind λh=>some (h,a.jI))else((f72 a b 2).bind λd=>(((f132 a b).bind λf=>bif (!(d.2==f))then(some true)else(bif d.2 then((ix a.cA b.part).bind λi=>(ix i b.eI).bind λj=>some (decide (d.1.time≠j.bW)))else(some false))):Option Bool).bind λ(g:Bool)=>bif g then(some (false,a.jI))else((f133 a b).bind λe=>some (e.1,e.2)))
def f23(b:List (List bP))(c:dC):Option Int:=(f28 b).bind λh=>bif decide (h≠0) then(some h)else((f66 c.bM).bind λg=>bif decide (g≠0) then(some g)else((((f40 c.shift (-24) 24).bind λs=>bif (!s)then(some true)else(some (decide ((c.dz.length:Int)≠(b.length:Int))))):Option Bool).bind λ(p:Bool)=>bif p then(some 1)else((bZ (τ:=(Unit⊕Int)) (λ(e:Int)=>bif decide (e<(b.length:Int)) then((ix b e).bind λr=>(ix c.dz e).bind λt=>bif decide ((t.length:Int)≠(r.length:Int)) then(some (.inr (.inr 1)))else(some (.inl (wr (e+1)))))else(some (.inr (.inl ())))) cz 0).bind (Sum.elim (λ(_:Unit)=>(f22 c.bM).bind λa=>bif decide (a.2≠0) then(some a.2)else(cu (0<=(a.1.length:Int))<|cu ((a.1.length:Int)<=(bJ:Int))<|(f67 (⟨b,c,a.1,(List.replicate (a.1.length:Int).toNat (false:Bool))⟩:dT)).bind λn=>bif (!n)then(some 82)else((bZ (τ:=((List Bool)⊕Int)) (λ((j,d):(List Bool×Int))=>bif decide (d<(b.length:Int)) then((ix b d).bind λm=>(bZ (τ:=((List Bool)⊕((List Bool×Int)⊕((List Bool)⊕Int)))) (λ((k,f):(List Bool×Int))=>bif decide (f<(m.length:Int)) then((f68 (⟨b,c,a.1,k⟩:dT) (⟨d,f⟩:bX)).bind λi=>bif (!i.1)then(some (.inr (.inr (.inr (.inr 82)))))else(some (.inl (i.2,wr (f+1)))))else(some (.inr (.inl k)))) cz (j,0)).bind (Sum.elim (λ(o:(List Bool))=>some (.inl (o,wr (d+1)))) some))else(some (.inr (.inl j)))) cz ((List.replicate (a.1.length:Int).toNat (false:Bool)),0)).bind (Sum.elim (λ(q:(List Bool))=>(f69 q false).bind λl=>bif l then(some 82)else(some 0)) some)))) some))))
def f24(c:List cU)(e:Int)(g:Int)(d:Int):Option (cU×Bool):=(bZ (τ:=(Unit⊕(cU×Bool))) (λ(b:Int)=>bif decide (b<(c.length:Int)) then((ix c b).bind λa=>((bif decide (a.part=e) then(bif decide (a.eI=g) then(some (decide (a.kind=d)))else(some false))else(some false)):Option Bool).bind λ(f:Bool)=>bif f then(some (.inr (.inr (a,true))))else(some (.inl (wr (b+1)))))else(some (.inr (.inl ())))) cz 0).bind (Sum.elim (λ(_:Unit)=>some ((⟨0,0,0,0⟩:cU),false)) some)
def f26(f:dC):Option (Int×Int×Int):=(bZ (τ:=(Int×Int×Int)) (λ((a,b,c,d):(Int×Int×Int×Int))=>bif decide (d<(f.cI.length:Int)) then((((ix f.cI d).bind λe=>bif decide (e.kind=1) then(some ((wr (a+1)),b,c))else(bif decide (e.kind=2) then(some (a,wr (b+1),c))else(bif decide (e.kind=3) then(some (a,b,wr (c+1)))else(some (a,b,c))))):Option (Int×Int×Int)).bind λ((j,l,h):(Int×Int×Int))=>some (.inl (j,l,h,wr (d+1))))else(some (.inr (a,b,c)))) cz (0,0,0,0)).bind λ((k,g,i):(Int×Int×Int))=>some (k,g,i)
def f72_1(b:dT)(c:bX)(e:Int):Option (cU×Bool):=(f136 b.s.cI c e).bind λa=>bif decide (a<0) then(some ((⟨0,0,0,0⟩:cU),false))else((ix b.s.cI a).bind λd=>some (d,true))
def f27(a:List (List bP))(g:dC):Option (((List (List bP)))×Int):=(f23 a g).bind λl=>bif decide (l≠0) then(some (([]:List (List bP)),l))else(cu (0<=(a.length:Int))<|cu ((a.length:Int)<=(bJ:Int))<|(bZ (τ:=(List (List bP)×Nat)) (λ((h,f,e,b):(dT×List (List bP)×Nat×Int))=>bif decide (b<(a.length:Int)) then((ix a b).bind λj=>cu (0<e)<|(bZ (τ:=(List bP)) (λ((d,c):(List bP×Int))=>bif decide (c<(j.length:Int)) then((((ix j c).bind λi=>(f72_1 h (⟨b,c⟩:bX) 1).bind λo=>bif o.2 then(some d)else((((f72_1 h (⟨b,c⟩:bX) 3).bind λk=>bif k.2 then(some k.1.time)else(some i.dx)):Option Int).bind λ(q:Int)=>cu (0<=b/\b<((a.length:Int).toNat:Int))<|cu (b.toNat=f.length)<|cu (d.length+1<=bJ)<|some (d++([(⟨(wr (i.bY+g.shift)),i.bW,q⟩:bP)]:List bP)))):Option (List bP)).bind λ(p:(List bP))=>some (.inl (p,wr (c+1))))else(some (.inr d))) cz (([]:List bP),0)).bind λ(r:(List bP))=>some (.inl (h,(f++[r]),(e-1),wr (b+1))))else(some (.inr (f,e)))) cz ((⟨a,g,([]:List ez),([]:List Bool)⟩:dT),([]:List (List bP)),(a.length:Int).toNat,0)).bind λ((m,n):(List (List bP)×Nat))=>cu (n=0/\(a.length:Int).toNat=m.length)<|some (m,0))
def f30(b:List (List bP)):Option (((List Int))×Int):=(f28 b).bind λa=>bif decide (a≠0) then(some (([]:List Int),a))else((f41 b).bind λc=>some (c,0))
def f7(a:gk):Option Bool:=(f9 a).bind λv=>bif v then((f10).bind λr=>some r)else((f11 a.cA a.instrument a.hand a.shift).bind λc=>bif decide (c.2≠0) then((f10).bind λt=>some t)else((bZ (τ:=Int) (λ((q,g):(Int×Int))=>bif decide (g<(c.1.bM.bG.length:Int)) then((ix c.1.bM.bG g).bind λJ=>some (.inl ((wr (q+(J.df.length:Int))),wr (g+1))))else(some (.inr q))) cz (0,0)).bind λ(s:Int)=>(bZ (τ:=Int) (λ((o,j):(Int×Int))=>bif decide (j<(a.cA.length:Int)) then((ix a.cA j).bind λI=>some (.inl ((wr (o+(I.length:Int))),wr (j+1))))else(some (.inr o))) cz (0,0)).bind λ(m:Int)=>(f26 c.1).bind λh=>(f27 a.cA c.1).bind λe=>((bif decide (e.2≠0) then(some true)else((f28 e.1).bind λL=>bif decide (L≠0) then(some true)else(some (decide ((e.1.length:Int)≠(a.cA.length:Int)))))):Option Bool).bind λ(w:Bool)=>bif w then(some false)else((bZ (τ:=Int) (λ((p,l):(Int×Int))=>bif decide (l<(e.1.length:Int)) then((ix e.1 l).bind λF=>some (.inl ((wr (p+(F.length:Int))),wr (l+1))))else(some (.inr p))) cz (0,0)).bind λ(H:Int)=>((bif (decide (s≠(wr ((wr (m-h.1))-h.2.1))))then(some true)else(some (decide (H≠(wr (m-h.1)))))):Option Bool).bind λ(G:Bool)=>bif G then(some false)else((f29 c.1.bM).bind λb=>(f30 a.cA).bind λd=>((bif decide (b.2≠0) then(some true)else(bif decide (d.2≠0) then(some true)else(bif decide ((d.1.length:Int)=0) then(some true)else(some (decide ((b.1.length:Int)=0)))))):Option Bool).bind λ(z:Bool)=>bif z then(some false)else((bZ (τ:=(Unit⊕Bool)) (λ((K,k):(Int×Int))=>bif decide (k<(d.1.length:Int)) then((ix d.1 k).bind λn=>(bZ (τ:=Int) (λ(f:Int)=>((bif decide (f<(b.1.length:Int)) then((ix b.1 f).bind λC=>some (decide (C<n)))else(some false)):Option Bool).bind λ(y:Bool)=>bif y then(some (.inl (wr (f+1))))else(some (.inr f))) cz K).bind λ(i:Int)=>((bif decide (i=(b.1.length:Int)) then(some true)else((ix b.1 i).bind λD=>some (decide (D≠n)))):Option Bool).bind λ(B:Bool)=>bif B then(some (.inr (.inr false)))else(some (.inl (i,wr (k+1)))))else(some (.inr (.inl ())))) cz (0,0)).bind (Sum.elim (λ(_:Unit)=>(((ix b.1 (wr ((b.1.length:Int)-1))).bind λA=>(ix d.1 (wr ((d.1.length:Int)-1))).bind λE=>bif decide (A=E) then((f10).bind λu=>some u)else(some false)):Option Bool).bind λ(x:Bool)=>some x) some))))))
end
end Go.Proofs.YtpbahncblggodaaGreat
