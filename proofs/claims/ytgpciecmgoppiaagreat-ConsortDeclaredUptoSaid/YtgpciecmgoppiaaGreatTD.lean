/- Functions of the program as Lean functions, and the walks. -/
import Derived.Test.YtgpciecmgoppiaaGreatAmI
import Derived.Test.YtgpciecmgoppiaaGreatChecked
import Derived.Test.YtgpciecmgoppiaaGreatSg
import Derived.Test.YtgpciecmgoppiaaGreatSo
import Derived.Test.YtgpciecmgoppiaaGreatLsf
import Derived.Test.YtgpciecmgoppiaaGreatTm
namespace Go.Proofs.YtgpciecmgoppiaaGreat
open Go Go.Am
set_option maxRecDepth 100000
set_option linter.all false
structure bH where
 bU:Int
 bP:Int
 dr:Int
 deriving DecidableEq
def lU(x:bH):AV:=.agg [.i x.bU,.i x.bP,.i x.dr]
theorem uF(x:bH):(lU x).dn=true:=(fF rfl (fF rfl (fF rfl vD)))
structure cE where
 bU:Int
 dJ:Int
 jb:Bool
 deriving DecidableEq
def il(x:cE):AV:=.agg [.i x.bU,.i x.dJ,.bool x.jb]
theorem ki(x:cE):(il x).dn=true:=(fF rfl (fF rfl (fF rfl vD)))
def sY(x y:cE):Bool:=((decide (x.bU=y.bU))&&((decide (x.dJ=y.dJ))&&((x.jb==y.jb)&&true)))
structure bp where
 bQ:(List cE)
 br:(List Int)
 deriving DecidableEq
def nZ(x:bp):AV:=.agg [.sl false (x.bQ.map il),.sl false (x.br.map AV.i)]
theorem zF(x:bp):(nZ x).dn=true:=(fF (dj _ _ ki) (fF (dj _ _ pY) vD))
structure eE where
 low:(List Int)
 high:(List Int)
 gb:(List Bool)
 top:Int
 jump:Int
 shift:Int
 lift:Int
 kJ:Int
 eu:Int
 gD:Int
 deriving DecidableEq
def Db(x:eE):AV:=.agg [.sl false (x.low.map AV.i),.sl false (x.high.map AV.i),.sl false (x.gb.map AV.bool),.i x.top,.i x.jump,.i x.shift,.i x.lift,.i x.kJ,.i x.eu,.i x.gD]
theorem Ot(x:eE):(Db x).dn=true:=(fF (dj _ _ pY) (fF (dj _ _ pY) (fF (dj _ _ uc) (fF rfl (fF rfl (fF rfl (fF rfl (fF rfl (fF rfl (fF rfl vD))))))))))
structure kF where
 instrument:bp
 hand:eE
 bW:(List Int)
 shift:Int
 deriving DecidableEq
def uG(x:kF):AV:=.agg [.sl false (x.instrument.bQ.map il),.sl false (x.instrument.br.map AV.i),.sl false (x.hand.low.map AV.i),.sl false (x.hand.high.map AV.i),.sl false (x.hand.gb.map AV.bool),.i x.hand.top,.i x.hand.jump,.i x.hand.shift,.i x.hand.lift,.i x.hand.kJ,.i x.hand.eu,.i x.hand.gD,.sl false (x.bW.map AV.i),.i x.shift]
theorem Ou(x:kF):(uG x).dn=true:=(fF (dj _ _ ki) (fF (dj _ _ pY) (fF (dj _ _ pY) (fF (dj _ _ pY) (fF (dj _ _ uc) (fF rfl (fF rfl (fF rfl (fF rfl (fF rfl (fF rfl (fF rfl (fF (dj _ _ pY) (fF rfl vD))))))))))))))
structure jn where
 bW:(List (List bH))
 instrument:bp
 hand:eE
 shift:Int
 deriving DecidableEq
def wL(x:jn):AV:=.agg [.sl false (x.bW.map (SL lU)),.sl false (x.instrument.bQ.map il),.sl false (x.instrument.br.map AV.i),.sl false (x.hand.low.map AV.i),.sl false (x.hand.high.map AV.i),.sl false (x.hand.gb.map AV.bool),.i x.hand.top,.i x.hand.jump,.i x.hand.shift,.i x.hand.lift,.i x.hand.kJ,.i x.hand.eu,.i x.hand.gD,.i x.shift]
theorem Dc(x:jn):(wL x).dn=true:=(fF (dj _ _ (yI uF)) (fF (dj _ _ ki) (fF (dj _ _ pY) (fF (dj _ _ pY) (fF (dj _ _ pY) (fF (dj _ _ uc) (fF rfl (fF rfl (fF rfl (fF rfl (fF rfl (fF rfl (fF rfl (fF rfl vD))))))))))))))
structure aQ where
 aW:Int
 ct:Int
 deriving DecidableEq
def iP(x:aQ):AV:=.agg [.i x.aW,.i x.ct]
theorem oM(x:aQ):(iP x).dn=true:=(fF rfl (fF rfl vD))
def jo(x y:aQ):Bool:=((decide (x.aW=y.aW))&&((decide (x.ct=y.ct))&&true))
structure dO where
 qN:Int
 alter:Int
 jb:Int
 deriving DecidableEq
def pQ(x:dO):AV:=.agg [.i x.qN,.i x.alter,.i x.jb]
theorem vS(x:dO):(pQ x).dn=true:=(fF rfl (fF rfl (fF rfl vD)))
structure cB where
 value:Int
 dot:Bool
 three:Bool
 deriving DecidableEq
def rM(x:cB):AV:=.agg [.i x.value,.bool x.dot,.bool x.three]
theorem Fa(x:cB):(rM x).dn=true:=(fF rfl (fF rfl (fF rfl vD)))
def kX(x y:cB):Bool:=((decide (x.value=y.value))&&((x.dot==y.dot)&&((x.three==y.three)&&true)))
structure cC where
 aW:Int
 ct:Int
 right:Int
 jv:Int
 hold:Int
 deriving DecidableEq
def mO(x:cC):AV:=.agg [.i x.aW,.i x.ct,.i x.right,.i x.jv,.i x.hold]
theorem Fb(x:cC):(mO x).dn=true:=(fF rfl (fF rfl (fF rfl (fF rfl (fF rfl vD)))))
def zG(x y:cC):Bool:=((decide (x.aW=y.aW))&&((decide (x.ct=y.ct))&&((decide (x.right=y.right))&&((decide (x.jv=y.jv))&&((decide (x.hold=y.hold))&&true)))))
structure bJ where
 kJ:Bool
 sign:cB
 tie:Bool
 cR:(List cC)
 deriving DecidableEq
def mg(x:bJ):AV:=.agg [.bool x.kJ,.i x.sign.value,.bool x.sign.dot,.bool x.sign.three,.bool x.tie,.sl false (x.cR.map mO)]
theorem rN(x:bJ):(mg x).dn=true:=(fF rfl (fF rfl (fF rfl (fF rfl (fF rfl (fF (dj _ _ Fb) vD))))))
structure cD where
 instrument:bp
 aY:(List bJ)
 deriving DecidableEq
def zH(x:cD):AV:=.agg [.sl false (x.instrument.bQ.map il),.sl false (x.instrument.br.map AV.i),.sl false (x.aY.map mg)]
theorem BI(x:cD):(zH x).dn=true:=(fF (dj _ _ ki) (fF (dj _ _ pY) (fF (dj _ _ rN) vD)))
structure dP where
 pieces:(List cD)
 deriving DecidableEq
def zJ(x:dP):AV:=.agg [.sl false (x.pieces.map zH)]
theorem Fc(x:dP):(zJ x).dn=true:=(fF (dj _ _ BI) vD)
structure gj where
 p:cD
 vT:(List Int)
 deriving DecidableEq
def uH(x:gj):AV:=.agg [.sl false (x.p.instrument.bQ.map il),.sl false (x.p.instrument.br.map AV.i),.sl false (x.p.aY.map mg),.sl false (x.vT.map AV.i)]
theorem AP(x:gj):(uH x).dn=true:=(fF (dj _ _ ki) (fF (dj _ _ pY) (fF (dj _ _ rN) (fF (dj _ _ pY) vD))))
structure dX where
 cS:Int
 aW:Int
 bU:Int
 bP:Int
 dr:Int
 deriving DecidableEq
def Dd(x:dX):AV:=.agg [.i x.cS,.i x.aW,.i x.bU,.i x.bP,.i x.dr]
theorem Fe(x:dX):(Dd x).dn=true:=(fF rfl (fF rfl (fF rfl (fF rfl (fF rfl vD)))))
structure iA where
 cS:Int
 aW:Int
 ct:Int
 bP:Int
 dr:Int
 deriving DecidableEq
def BJ(x:iA):AV:=.agg [.i x.cS,.i x.aW,.i x.ct,.i x.bP,.i x.dr]
theorem HH(x:iA):(BJ x).dn=true:=(fF rfl (fF rfl (fF rfl (fF rfl (fF rfl vD)))))
structure gx where
 notes:(List dX)
 zK:Bool
 since:Int
 deriving DecidableEq
def Ff(x:gx):AV:=.agg [.sl false (x.notes.map Dd),.bool x.zK,.i x.since]
theorem Lg(x:gx):(Ff x).dn=true:=(fF (dj _ _ Fe) (fF rfl (fF rfl vD)))
structure gg where
 qO:Int
 aW:Int
 bU:Int
 bP:Int
 dr:Int
 deriving DecidableEq
def Jq(x:gg):AV:=.agg [.i x.qO,.i x.aW,.i x.bU,.i x.bP,.i x.dr]
theorem Ov(x:gg):(Jq x).dn=true:=(fF rfl (fF rfl (fF rfl (fF rfl (fF rfl vD)))))
structure cx where
 note:dX
 qO:Int
 Jr:Int
 deriving DecidableEq
def cT(x:cx):AV:=.agg [.i x.note.cS,.i x.note.aW,.i x.note.bU,.i x.note.bP,.i x.note.dr,.i x.qO,.i x.Jr]
theorem mW(x:cx):(cT x).dn=true:=(fF rfl (fF rfl (fF rfl (fF rfl (fF rfl (fF rfl (fF rfl vD)))))))
theorem Lh(x:cx):(cT x).cells.length=7:=rfl
structure jc where
 iW:Int
 deriving DecidableEq
structure ff where
 l:(List cx)
 deriving DecidableEq
structure cU where
 clock:jc
 now:Int
 end_:Int
 waiting:Bool
 fI:(List gx)
 bP:Int
 dr:Int
 times:Int
 eh:ff
 takes:(List gg)
 deriving DecidableEq
structure dG where
 qO:Int
 aW:Int
 bU:Int
 deriving DecidableEq
def Fg(x:dG):AV:=.agg [.i x.qO,.i x.aW,.i x.bU]
theorem Li(x:dG):(Fg x).dn=true:=(fF rfl (fF rfl (fF rfl vD)))
def Lj(x y:dG):Bool:=((decide (x.qO=y.qO))&&((decide (x.aW=y.aW))&&((decide (x.bU=y.bU))&&true)))
structure zL where
 time:Int
 begin:(List dG)
 end_:(List dG)
 deriving DecidableEq
structure cV where
 part:Int
 fj:Int
 kind:Int
 time:Int
 deriving DecidableEq
def uI(x:cV):AV:=.agg [.i x.part,.i x.fj,.i x.kind,.i x.time]
theorem Fh(x:cV):(uI x).dn=true:=(fF rfl (fF rfl (fF rfl (fF rfl vD))))
structure cW where
 bE:cD
 shift:Int
 dL:(List (List aQ))
 dm:(List cV)
 deriving DecidableEq
def zM(x:cW):AV:=.agg [.sl false (x.bE.instrument.bQ.map il),.sl false (x.bE.instrument.br.map AV.i),.sl false (x.bE.aY.map mg),.i x.shift,.sl false (x.dL.map (SL iP)),.sl false (x.dm.map uI)]
theorem Fi(x:cW):(zM x).dn=true:=(fF (dj _ _ ki) (fF (dj _ _ pY) (fF (dj _ _ rN) (fF rfl (fF (dj _ _ (yI oM)) (fF (dj _ _ Fh) vD))))))
structure bK where
 cA:(List aQ)
 held:(List Int)
 cY:(List Int)
 deriving DecidableEq
def Fj(x:bK):AV:=.agg [.sl false (x.cA.map iP),.sl false (x.held.map AV.i),.sl false (x.cY.map AV.i)]
theorem Lk(x:bK):(Fj x).dn=true:=(fF (dj _ _ oM) (fF (dj _ _ pY) (fF (dj _ _ pY) vD)))
structure bX where
 part:Int
 fj:Int
 deriving DecidableEq
def iE(x:bX):AV:=.agg [.i x.part,.i x.fj]
theorem wM(x:bX):(iE x).dn=true:=(fF rfl (fF rfl vD))
structure aX where
 bI:(List bX)
 bU:Int
 bP:Int
 dr:Int
 bL:aQ
 cS:Int
 deriving DecidableEq
def Fk(x:aX):AV:=.agg [.sl false (x.bI.map iE),.i x.bU,.i x.bP,.i x.dr,.i x.bL.aW,.i x.bL.ct,.i x.cS]
theorem Ll(x:aX):(Fk x).dn=true:=(fF (dj _ _ wM) (fF rfl (fF rfl (fF rfl (fF rfl (fF rfl (fF rfl vD)))))))
structure b9 where
 pos:Int
 di:(List Int)
 deriving DecidableEq
def Js(x:b9):AV:=.agg [.i x.pos,.sl false (x.di.map AV.i)]
theorem Ow(x:b9):(Js x).dn=true:=(fF rfl (fF (dj _ _ pY) vD))
structure cM where
 dz:bK
 k8:bp
 h:eE
 shift:Int
 bE:cD
 cZ:(List aX)
 fx:(List b9)
 deriving DecidableEq
structure bR where
 places:(List aQ)
 cut:(List Bool)
 deriving DecidableEq
def zN(x:bR):AV:=.agg [.sl false (x.places.map iP),.sl false (x.cut.map AV.bool)]
theorem Fl(x:bR):(zN x).dn=true:=(fF (dj _ _ oM) (fF (dj _ _ uc) vD))
structure eL where
 bW:(List (List bH))
 s:cW
 notes:(List dX)
 kl:(List Bool)
 deriving DecidableEq
def TS:Nat->Type
 |0=>bH
 |1=>(List bH)
 |2=>cE
 |3=>Int
 |4=>Bool
 |5=>kF
 |6=>jn
 |7=>bp
 |8=>aQ
 |9=>ByteArray
 |10=>dO
 |11=>cC
 |12=>bJ
 |13=>cD
 |14=>dP
 |15=>cB
 |16=>gj
 |17=>dX
 |18=>iA
 |19=>gx
 |20=>cx
 |21=>gg
 |22=>dG
 |23=>(List (List bH))
 |24=>eE
 |25=>(List cB)
 |26=>(List aQ)
 |27=>cV
 |28=>bX
 |29=>aX
 |30=>b9
 |31=>bR
 |32=>bK
 |33=>cW
 |_+34=>Unit
def TE:(c:Nat)->TS c->AV
 |0,x=>lU x
 |1,x=>(SL lU) x
 |2,x=>il x
 |3,x=>AV.i x
 |4,x=>AV.bool x
 |5,x=>uG x
 |6,x=>wL x
 |7,x=>nZ x
 |8,x=>iP x
 |9,x=>AV.str x
 |10,x=>pQ x
 |11,x=>mO x
 |12,x=>mg x
 |13,x=>zH x
 |14,x=>zJ x
 |15,x=>rM x
 |16,x=>uH x
 |17,x=>Dd x
 |18,x=>BJ x
 |19,x=>Ff x
 |20,x=>cT x
 |21,x=>Jq x
 |22,x=>Fg x
 |23,x=>(SL (SL lU)) x
 |24,x=>Db x
 |25,x=>(SL rM) x
 |26,x=>(SL iP) x
 |27,x=>uI x
 |28,x=>iE x
 |29,x=>(λ(x:aX)=>AV.ip [.sl false (x.bI.map iE),.i x.bU,.i x.bP,.i x.dr,.i x.bL.aW,.i x.bL.ct,.i x.cS]) x
 |30,x=>Js x
 |31,x=>zN x
 |32,x=>Fj x
 |33,x=>zM x
 |_+34,_=>.jN
def TX:(c:Nat)->TS c->TV TS
 |0,(x:bH)=>.agg [.n x.bU,.n x.bP,.n x.dr]
 |1,(x:(List bH))=>.l false 0 x
 |2,(x:cE)=>.agg [.n x.bU,.n x.dJ,.b x.jb]
 |3,(x:Int)=>.n x
 |4,(x:Bool)=>.b x
 |5,(x:kF)=>.agg [.l false 2 x.instrument.bQ,.l false 3 x.instrument.br,.l false 3 x.hand.low,.l false 3 x.hand.high,.l false 4 x.hand.gb,.n x.hand.top,.n x.hand.jump,.n x.hand.shift,.n x.hand.lift,.n x.hand.kJ,.n x.hand.eu,.n x.hand.gD,.l false 3 x.bW,.n x.shift]
 |6,(x:jn)=>.agg [.l false 1 x.bW,.l false 2 x.instrument.bQ,.l false 3 x.instrument.br,.l false 3 x.hand.low,.l false 3 x.hand.high,.l false 4 x.hand.gb,.n x.hand.top,.n x.hand.jump,.n x.hand.shift,.n x.hand.lift,.n x.hand.kJ,.n x.hand.eu,.n x.hand.gD,.n x.shift]
 |7,(x:bp)=>.agg [.l false 2 x.bQ,.l false 3 x.br]
 |8,(x:aQ)=>.agg [.n x.aW,.n x.ct]
 |9,(x:ByteArray)=>.z x
 |10,(x:dO)=>.agg [.n x.qN,.n x.alter,.n x.jb]
 |11,(x:cC)=>.agg [.n x.aW,.n x.ct,.n x.right,.n x.jv,.n x.hold]
 |12,(x:bJ)=>.agg [.b x.kJ,.n x.sign.value,.b x.sign.dot,.b x.sign.three,.b x.tie,.l false 11 x.cR]
 |13,(x:cD)=>.agg [.l false 2 x.instrument.bQ,.l false 3 x.instrument.br,.l false 12 x.aY]
 |14,(x:dP)=>.agg [.l false 13 x.pieces]
 |15,(x:cB)=>.agg [.n x.value,.b x.dot,.b x.three]
 |16,(x:gj)=>.agg [.l false 2 x.p.instrument.bQ,.l false 3 x.p.instrument.br,.l false 12 x.p.aY,.l false 3 x.vT]
 |17,(x:dX)=>.agg [.n x.cS,.n x.aW,.n x.bU,.n x.bP,.n x.dr]
 |18,(x:iA)=>.agg [.n x.cS,.n x.aW,.n x.ct,.n x.bP,.n x.dr]
 |19,(x:gx)=>.agg [.l false 17 x.notes,.b x.zK,.n x.since]
 |20,(x:cx)=>.agg [.n x.note.cS,.n x.note.aW,.n x.note.bU,.n x.note.bP,.n x.note.dr,.n x.qO,.n x.Jr]
 |21,(x:gg)=>.agg [.n x.qO,.n x.aW,.n x.bU,.n x.bP,.n x.dr]
 |22,(x:dG)=>.agg [.n x.qO,.n x.aW,.n x.bU]
 |23,(x:(List (List bH)))=>.l false 1 x
 |24,(x:eE)=>.agg [.l false 3 x.low,.l false 3 x.high,.l false 4 x.gb,.n x.top,.n x.jump,.n x.shift,.n x.lift,.n x.kJ,.n x.eu,.n x.gD]
 |25,(x:(List cB))=>.l false 15 x
 |26,(x:(List aQ))=>.l false 8 x
 |27,(x:cV)=>.agg [.n x.part,.n x.fj,.n x.kind,.n x.time]
 |28,(x:bX)=>.agg [.n x.part,.n x.fj]
 |29,(x:aX)=>.ip [.l false 28 x.bI,.n x.bU,.n x.bP,.n x.dr,.n x.bL.aW,.n x.bL.ct,.n x.cS]
 |30,(x:b9)=>.agg [.n x.pos,.l false 3 x.di]
 |31,(x:bR)=>.agg [.l false 8 x.places,.l false 4 x.cut]
 |32,(x:bK)=>.agg [.l false 8 x.cA,.l false 3 x.held,.l false 3 x.cY]
 |33,(x:cW)=>.agg [.l false 2 x.bE.instrument.bQ,.l false 3 x.bE.instrument.br,.l false 12 x.bE.aY,.n x.shift,.l false 26 x.dL,.l false 27 x.dm]
 |_+34,_=>.a .jN
def gI:TV TS->Option Int
 |.i _ n=>some n
 |.a (.int _ n)=>some n
 |.v d x=>match TX d x with
  |.i _ n=>some n
  |_=>none
 |_=>none
def gB:TV TS->Option Bool
 |.b t=>some t
 |.a (.bool t)=>some t
 |.v d x=>match TX d x with
  |.b t=>some t
  |_=>none
 |_=>none
def gZ:TV TS->Option ByteArray
 |.z t=>some t
 |.a (.str t)=>some t
 |_=>none
def gV(d c:Nat)(x:TS d):Option (TS c):=if h:d=c then some (h ▸ x)else none
def gLx(d c:Nat)(x:List (TS d)):Option (List (TS c)):=if h:d=c then some (h ▸ x)else none
def gL(c:Nat):TV TS->Option (List (TS c))
 |.l _ d x=>gLx d c x
 |.a (.sl _ [])=>some []
 |.v d x=>match TX d x with
  |.l _ d x=>gLx d c x
  |_=>none
 |_=>none
def TD:(c:Nat)->TV TS->Option (TS c)
 |0,.a (.agg [x0,x1,x2])=>(gI (.a x0)).bind λx0=>(gI (.a x1)).bind λx1=>(gI (.a x2)).bind λx2=>some ⟨x0,x1,x2⟩
 |0,.v d x=>gV d 0 x
 |0,.agg [x0,x1,x2]=>(gI x0).bind λx0=>(gI x1).bind λx1=>(gI x2).bind λx2=>some ⟨x0,x1,x2⟩
 |1,x=>gL 0 x
 |2,.a (.agg [x0,x1,x2])=>(gI (.a x0)).bind λx0=>(gI (.a x1)).bind λx1=>(gB (.a x2)).bind λx2=>some ⟨x0,x1,x2⟩
 |2,.v d x=>gV d 2 x
 |2,.agg [x0,x1,x2]=>(gI x0).bind λx0=>(gI x1).bind λx1=>(gB x2).bind λx2=>some ⟨x0,x1,x2⟩
 |3,x=>gI x
 |4,x=>gB x
 |5,.a (.agg [x0,x1,x2,x3,x4,x5,x6,x7,x8,x9,HI,HJ,HK,HL])=>(gL 2 (.a x0)).bind λx0=>(gL 3 (.a x1)).bind λx1=>(gL 3 (.a x2)).bind λx2=>(gL 3 (.a x3)).bind λx3=>(gL 4 (.a x4)).bind λx4=>(gI (.a x5)).bind λx5=>(gI (.a x6)).bind λx6=>(gI (.a x7)).bind λx7=>(gI (.a x8)).bind λx8=>(gI (.a x9)).bind λx9=>(gI (.a HI)).bind λHI=>(gI (.a HJ)).bind λHJ=>(gL 3 (.a HK)).bind λHK=>(gI (.a HL)).bind λHL=>some ⟨⟨x0,x1⟩,⟨x2,x3,x4,x5,x6,x7,x8,x9,HI,HJ⟩,HK,HL⟩
 |5,.v d x=>gV d 5 x
 |5,.agg [x0,x1,x2,x3,x4,x5,x6,x7,x8,x9,HI,HJ,HK,HL]=>(gL 2 x0).bind λx0=>(gL 3 x1).bind λx1=>(gL 3 x2).bind λx2=>(gL 3 x3).bind λx3=>(gL 4 x4).bind λx4=>(gI x5).bind λx5=>(gI x6).bind λx6=>(gI x7).bind λx7=>(gI x8).bind λx8=>(gI x9).bind λx9=>(gI HI).bind λHI=>(gI HJ).bind λHJ=>(gL 3 HK).bind λHK=>(gI HL).bind λHL=>some ⟨⟨x0,x1⟩,⟨x2,x3,x4,x5,x6,x7,x8,x9,HI,HJ⟩,HK,HL⟩
 |6,.a (.agg [x0,x1,x2,x3,x4,x5,x6,x7,x8,x9,HI,HJ,HK,HL])=>(gL 1 (.a x0)).bind λx0=>(gL 2 (.a x1)).bind λx1=>(gL 3 (.a x2)).bind λx2=>(gL 3 (.a x3)).bind λx3=>(gL 3 (.a x4)).bind λx4=>(gL 4 (.a x5)).bind λx5=>(gI (.a x6)).bind λx6=>(gI (.a x7)).bind λx7=>(gI (.a x8)).bind λx8=>(gI (.a x9)).bind λx9=>(gI (.a HI)).bind λHI=>(gI (.a HJ)).bind λHJ=>(gI (.a HK)).bind λHK=>(gI (.a HL)).bind λHL=>some ⟨x0,⟨x1,x2⟩,⟨x3,x4,x5,x6,x7,x8,x9,HI,HJ,HK⟩,HL⟩
 |6,.v d x=>gV d 6 x
 |6,.agg [x0,x1,x2,x3,x4,x5,x6,x7,x8,x9,HI,HJ,HK,HL]=>(gL 1 x0).bind λx0=>(gL 2 x1).bind λx1=>(gL 3 x2).bind λx2=>(gL 3 x3).bind λx3=>(gL 3 x4).bind λx4=>(gL 4 x5).bind λx5=>(gI x6).bind λx6=>(gI x7).bind λx7=>(gI x8).bind λx8=>(gI x9).bind λx9=>(gI HI).bind λHI=>(gI HJ).bind λHJ=>(gI HK).bind λHK=>(gI HL).bind λHL=>some ⟨x0,⟨x1,x2⟩,⟨x3,x4,x5,x6,x7,x8,x9,HI,HJ,HK⟩,HL⟩
 |7,.a (.agg [x0,x1])=>(gL 2 (.a x0)).bind λx0=>(gL 3 (.a x1)).bind λx1=>some ⟨x0,x1⟩
 |7,.v d x=>gV d 7 x
 |7,.agg [x0,x1]=>(gL 2 x0).bind λx0=>(gL 3 x1).bind λx1=>some ⟨x0,x1⟩
 |8,.a (.agg [x0,x1])=>(gI (.a x0)).bind λx0=>(gI (.a x1)).bind λx1=>some ⟨x0,x1⟩
 |8,.v d x=>gV d 8 x
 |8,.agg [x0,x1]=>(gI x0).bind λx0=>(gI x1).bind λx1=>some ⟨x0,x1⟩
 |9,x=>gZ x
 |10,.a (.agg [x0,x1,x2])=>(gI (.a x0)).bind λx0=>(gI (.a x1)).bind λx1=>(gI (.a x2)).bind λx2=>some ⟨x0,x1,x2⟩
 |10,.v d x=>gV d 10 x
 |10,.agg [x0,x1,x2]=>(gI x0).bind λx0=>(gI x1).bind λx1=>(gI x2).bind λx2=>some ⟨x0,x1,x2⟩
 |11,.a (.agg [x0,x1,x2,x3,x4])=>(gI (.a x0)).bind λx0=>(gI (.a x1)).bind λx1=>(gI (.a x2)).bind λx2=>(gI (.a x3)).bind λx3=>(gI (.a x4)).bind λx4=>some ⟨x0,x1,x2,x3,x4⟩
 |11,.v d x=>gV d 11 x
 |11,.agg [x0,x1,x2,x3,x4]=>(gI x0).bind λx0=>(gI x1).bind λx1=>(gI x2).bind λx2=>(gI x3).bind λx3=>(gI x4).bind λx4=>some ⟨x0,x1,x2,x3,x4⟩
 |12,.a (.agg [x0,x1,x2,x3,x4,x5])=>(gB (.a x0)).bind λx0=>(gI (.a x1)).bind λx1=>(gB (.a x2)).bind λx2=>(gB (.a x3)).bind λx3=>(gB (.a x4)).bind λx4=>(gL 11 (.a x5)).bind λx5=>some ⟨x0,⟨x1,x2,x3⟩,x4,x5⟩
 |12,.v d x=>gV d 12 x
 |12,.agg [x0,x1,x2,x3,x4,x5]=>(gB x0).bind λx0=>(gI x1).bind λx1=>(gB x2).bind λx2=>(gB x3).bind λx3=>(gB x4).bind λx4=>(gL 11 x5).bind λx5=>some ⟨x0,⟨x1,x2,x3⟩,x4,x5⟩
 |13,.a (.agg [x0,x1,x2])=>(gL 2 (.a x0)).bind λx0=>(gL 3 (.a x1)).bind λx1=>(gL 12 (.a x2)).bind λx2=>some ⟨⟨x0,x1⟩,x2⟩
 |13,.v d x=>gV d 13 x
 |13,.agg [x0,x1,x2]=>(gL 2 x0).bind λx0=>(gL 3 x1).bind λx1=>(gL 12 x2).bind λx2=>some ⟨⟨x0,x1⟩,x2⟩
 |14,.a (.agg [x0])=>(gL 13 (.a x0)).bind λx0=>some ⟨x0⟩
 |14,.v d x=>gV d 14 x
 |14,.agg [x0]=>(gL 13 x0).bind λx0=>some ⟨x0⟩
 |15,.a (.agg [x0,x1,x2])=>(gI (.a x0)).bind λx0=>(gB (.a x1)).bind λx1=>(gB (.a x2)).bind λx2=>some ⟨x0,x1,x2⟩
 |15,.v d x=>gV d 15 x
 |15,.agg [x0,x1,x2]=>(gI x0).bind λx0=>(gB x1).bind λx1=>(gB x2).bind λx2=>some ⟨x0,x1,x2⟩
 |16,.a (.agg [x0,x1,x2,x3])=>(gL 2 (.a x0)).bind λx0=>(gL 3 (.a x1)).bind λx1=>(gL 12 (.a x2)).bind λx2=>(gL 3 (.a x3)).bind λx3=>some ⟨⟨⟨x0,x1⟩,x2⟩,x3⟩
 |16,.v d x=>gV d 16 x
 |16,.agg [x0,x1,x2,x3]=>(gL 2 x0).bind λx0=>(gL 3 x1).bind λx1=>(gL 12 x2).bind λx2=>(gL 3 x3).bind λx3=>some ⟨⟨⟨x0,x1⟩,x2⟩,x3⟩
 |17,.a (.agg [x0,x1,x2,x3,x4])=>(gI (.a x0)).bind λx0=>(gI (.a x1)).bind λx1=>(gI (.a x2)).bind λx2=>(gI (.a x3)).bind λx3=>(gI (.a x4)).bind λx4=>some ⟨x0,x1,x2,x3,x4⟩
 |17,.v d x=>gV d 17 x
 |17,.agg [x0,x1,x2,x3,x4]=>(gI x0).bind λx0=>(gI x1).bind λx1=>(gI x2).bind λx2=>(gI x3).bind λx3=>(gI x4).bind λx4=>some ⟨x0,x1,x2,x3,x4⟩
 |18,.a (.agg [x0,x1,x2,x3,x4])=>(gI (.a x0)).bind λx0=>(gI (.a x1)).bind λx1=>(gI (.a x2)).bind λx2=>(gI (.a x3)).bind λx3=>(gI (.a x4)).bind λx4=>some ⟨x0,x1,x2,x3,x4⟩
 |18,.v d x=>gV d 18 x
 |18,.agg [x0,x1,x2,x3,x4]=>(gI x0).bind λx0=>(gI x1).bind λx1=>(gI x2).bind λx2=>(gI x3).bind λx3=>(gI x4).bind λx4=>some ⟨x0,x1,x2,x3,x4⟩
 |19,.a (.agg [x0,x1,x2])=>(gL 17 (.a x0)).bind λx0=>(gB (.a x1)).bind λx1=>(gI (.a x2)).bind λx2=>some ⟨x0,x1,x2⟩
 |19,.v d x=>gV d 19 x
 |19,.agg [x0,x1,x2]=>(gL 17 x0).bind λx0=>(gB x1).bind λx1=>(gI x2).bind λx2=>some ⟨x0,x1,x2⟩
 |20,.a (.agg [x0,x1,x2,x3,x4,x5,x6])=>(gI (.a x0)).bind λx0=>(gI (.a x1)).bind λx1=>(gI (.a x2)).bind λx2=>(gI (.a x3)).bind λx3=>(gI (.a x4)).bind λx4=>(gI (.a x5)).bind λx5=>(gI (.a x6)).bind λx6=>some ⟨⟨x0,x1,x2,x3,x4⟩,x5,x6⟩
 |20,.v d x=>gV d 20 x
 |20,.agg [x0,x1,x2,x3,x4,x5,x6]=>(gI x0).bind λx0=>(gI x1).bind λx1=>(gI x2).bind λx2=>(gI x3).bind λx3=>(gI x4).bind λx4=>(gI x5).bind λx5=>(gI x6).bind λx6=>some ⟨⟨x0,x1,x2,x3,x4⟩,x5,x6⟩
 |21,.a (.agg [x0,x1,x2,x3,x4])=>(gI (.a x0)).bind λx0=>(gI (.a x1)).bind λx1=>(gI (.a x2)).bind λx2=>(gI (.a x3)).bind λx3=>(gI (.a x4)).bind λx4=>some ⟨x0,x1,x2,x3,x4⟩
 |21,.v d x=>gV d 21 x
 |21,.agg [x0,x1,x2,x3,x4]=>(gI x0).bind λx0=>(gI x1).bind λx1=>(gI x2).bind λx2=>(gI x3).bind λx3=>(gI x4).bind λx4=>some ⟨x0,x1,x2,x3,x4⟩
 |22,.a (.agg [x0,x1,x2])=>(gI (.a x0)).bind λx0=>(gI (.a x1)).bind λx1=>(gI (.a x2)).bind λx2=>some ⟨x0,x1,x2⟩
 |22,.v d x=>gV d 22 x
 |22,.agg [x0,x1,x2]=>(gI x0).bind λx0=>(gI x1).bind λx1=>(gI x2).bind λx2=>some ⟨x0,x1,x2⟩
 |23,x=>gL 1 x
 |24,.a (.agg [x0,x1,x2,x3,x4,x5,x6,x7,x8,x9])=>(gL 3 (.a x0)).bind λx0=>(gL 3 (.a x1)).bind λx1=>(gL 4 (.a x2)).bind λx2=>(gI (.a x3)).bind λx3=>(gI (.a x4)).bind λx4=>(gI (.a x5)).bind λx5=>(gI (.a x6)).bind λx6=>(gI (.a x7)).bind λx7=>(gI (.a x8)).bind λx8=>(gI (.a x9)).bind λx9=>some ⟨x0,x1,x2,x3,x4,x5,x6,x7,x8,x9⟩
 |24,.v d x=>gV d 24 x
 |24,.agg [x0,x1,x2,x3,x4,x5,x6,x7,x8,x9]=>(gL 3 x0).bind λx0=>(gL 3 x1).bind λx1=>(gL 4 x2).bind λx2=>(gI x3).bind λx3=>(gI x4).bind λx4=>(gI x5).bind λx5=>(gI x6).bind λx6=>(gI x7).bind λx7=>(gI x8).bind λx8=>(gI x9).bind λx9=>some ⟨x0,x1,x2,x3,x4,x5,x6,x7,x8,x9⟩
 |25,x=>gL 15 x
 |26,x=>gL 8 x
 |27,.a (.agg [x0,x1,x2,x3])=>(gI (.a x0)).bind λx0=>(gI (.a x1)).bind λx1=>(gI (.a x2)).bind λx2=>(gI (.a x3)).bind λx3=>some ⟨x0,x1,x2,x3⟩
 |27,.v d x=>gV d 27 x
 |27,.agg [x0,x1,x2,x3]=>(gI x0).bind λx0=>(gI x1).bind λx1=>(gI x2).bind λx2=>(gI x3).bind λx3=>some ⟨x0,x1,x2,x3⟩
 |28,.a (.agg [x0,x1])=>(gI (.a x0)).bind λx0=>(gI (.a x1)).bind λx1=>some ⟨x0,x1⟩
 |28,.v d x=>gV d 28 x
 |28,.agg [x0,x1]=>(gI x0).bind λx0=>(gI x1).bind λx1=>some ⟨x0,x1⟩
 |29,.v d x=>gV d 29 x
 |29,.ip [x0,x1,x2,x3,x4,x5,x6]=>(gL 28 x0).bind λx0=>(gI x1).bind λx1=>(gI x2).bind λx2=>(gI x3).bind λx3=>(gI x4).bind λx4=>(gI x5).bind λx5=>(gI x6).bind λx6=>some ⟨x0,x1,x2,x3,⟨x4,x5⟩,x6⟩
 |30,.a (.agg [x0,x1])=>(gI (.a x0)).bind λx0=>(gL 3 (.a x1)).bind λx1=>some ⟨x0,x1⟩
 |30,.v d x=>gV d 30 x
 |30,.agg [x0,x1]=>(gI x0).bind λx0=>(gL 3 x1).bind λx1=>some ⟨x0,x1⟩
 |31,.a (.agg [x0,x1])=>(gL 8 (.a x0)).bind λx0=>(gL 4 (.a x1)).bind λx1=>some ⟨x0,x1⟩
 |31,.v d x=>gV d 31 x
 |31,.agg [x0,x1]=>(gL 8 x0).bind λx0=>(gL 4 x1).bind λx1=>some ⟨x0,x1⟩
 |32,.a (.agg [x0,x1,x2])=>(gL 8 (.a x0)).bind λx0=>(gL 3 (.a x1)).bind λx1=>(gL 3 (.a x2)).bind λx2=>some ⟨x0,x1,x2⟩
 |32,.v d x=>gV d 32 x
 |32,.agg [x0,x1,x2]=>(gL 8 x0).bind λx0=>(gL 3 x1).bind λx1=>(gL 3 x2).bind λx2=>some ⟨x0,x1,x2⟩
 |33,.a (.agg [x0,x1,x2,x3,x4,x5])=>(gL 2 (.a x0)).bind λx0=>(gL 3 (.a x1)).bind λx1=>(gL 12 (.a x2)).bind λx2=>(gI (.a x3)).bind λx3=>(gL 26 (.a x4)).bind λx4=>(gL 27 (.a x5)).bind λx5=>some ⟨⟨⟨x0,x1⟩,x2⟩,x3,x4,x5⟩
 |33,.v d x=>gV d 33 x
 |33,.agg [x0,x1,x2,x3,x4,x5]=>(gL 2 x0).bind λx0=>(gL 3 x1).bind λx1=>(gL 12 x2).bind λx2=>(gI x3).bind λx3=>(gL 26 x4).bind λx4=>(gL 27 x5).bind λx5=>some ⟨⟨⟨x0,x1⟩,x2⟩,x3,x4,x5⟩
 |_,_=>none
def TTc:TypeId->Option Nat
 |2=>some 3
 |3=>some 3
 |4=>some 4
 |9=>some 9
 |10=>some 9
 |11=>some 9
 |22=>some 23
 |28=>some 14
 |30=>some 3
 |38=>some 7
 |41=>some 13
 |45=>some 33
 |49=>some 24
 |51=>some 5
 |52=>some 1
 |56=>some 15
 |59=>some 12
 |63=>some 6
 |75=>some 22
 |86=>some 26
 |88=>some 8
 |90=>some 27
 |103=>some 28
 |109=>some 11
 |116=>some 0
 |122=>some 17
 |124=>some 20
 |134=>some 19
 |145=>some 21
 |151=>some 25
 |157=>some 2
 |161=>some 32
 |187=>some 16
 |221=>some 31
 |255=>some 18
 |291=>some 3
 |315=>some 30
 |321=>some 10
 |_=>none
def TWd:Nat->Nat
 |0=>3
 |1=>1
 |2=>3
 |3=>1
 |4=>1
 |5=>14
 |6=>14
 |7=>2
 |8=>2
 |9=>1
 |10=>3
 |11=>5
 |12=>6
 |13=>3
 |14=>1
 |15=>3
 |16=>4
 |17=>5
 |18=>5
 |19=>3
 |20=>7
 |21=>5
 |22=>3
 |23=>1
 |24=>10
 |25=>1
 |26=>1
 |27=>4
 |28=>2
 |29=>1
 |30=>2
 |31=>2
 |32=>3
 |33=>6
 |_+34=>1
theorem j7: ∀(c:Nat)(x:TS c),(TX c x).er TE=TE c x:=λc x=>match c,x with|0,_=>rfl|1,_=>rfl|2,_=>rfl|3,_=>rfl|4,_=>rfl|5,_=>rfl|6,_=>rfl|7,_=>rfl|8,_=>rfl|9,_=>rfl|10,_=>rfl|11,_=>rfl|12,_=>rfl|13,_=>rfl|14,_=>rfl|15,_=>rfl|16,_=>rfl|17,_=>rfl|18,_=>rfl|19,_=>rfl|20,_=>rfl|21,_=>rfl|22,_=>rfl|23,_=>rfl|24,_=>rfl|25,_=>rfl|26,_=>rfl|27,_=>rfl|28,_=>rfl|29,_=>rfl|30,_=>rfl|31,_=>rfl|32,_=>rfl|33,_=>rfl|_+34,_=>rfl
theorem aaY: ∀(c:Nat)(x:TS c),(TX c x).QD=false:=λc x=>match c,x with|0,_=>rfl|1,_=>rfl|2,_=>rfl|3,_=>rfl|4,_=>rfl|5,_=>rfl|6,_=>rfl|7,_=>rfl|8,_=>rfl|9,_=>rfl|10,_=>rfl|11,_=>rfl|12,_=>rfl|13,_=>rfl|14,_=>rfl|15,_=>rfl|16,_=>rfl|17,_=>rfl|18,_=>rfl|19,_=>rfl|20,_=>rfl|21,_=>rfl|22,_=>rfl|23,_=>rfl|24,_=>rfl|25,_=>rfl|26,_=>rfl|27,_=>rfl|28,_=>rfl|29,_=>rfl|30,_=>rfl|31,_=>rfl|32,_=>rfl|33,_=>rfl|_+34,_=>rfl
theorem jK: ∀(c:Nat)(x:TS c),(TE c x).dn=true:=λc x=>match c,x with|0,x=>uF x|1,x=>(yI uF) x|2,x=>ki x|3,x=>pY x|4,x=>uc x|5,x=>Ou x|6,x=>Dc x|7,x=>zF x|8,x=>oM x|9,x=>Uc x|10,x=>vS x|11,x=>Fb x|12,x=>rN x|13,x=>BI x|14,x=>Fc x|15,x=>Fa x|16,x=>AP x|17,x=>Fe x|18,x=>HH x|19,x=>Lg x|20,x=>mW x|21,x=>Ov x|22,x=>Li x|23,x=>(yI (yI uF)) x|24,x=>Ot x|25,x=>(yI Fa) x|26,x=>(yI oM) x|27,x=>Fh x|28,x=>wM x|29,x=>(λ(x:aX)=>(Ll x:(AV.ip [.sl false (x.bI.map iE),.i x.bU,.i x.bP,.i x.dr,.i x.bL.aW,.i x.bL.ct,.i x.cS]).dn=true)) x|30,x=>Ow x|31,x=>Fl x|32,x=>Lk x|33,x=>Fi x|_+34,_=>rfl
theorem ka: ∀(c:Nat)(x:TS c),(TE c x).cells.length=TWd c:=λc x=>match c,x with|0,_=>rfl|1,_=>rfl|2,_=>rfl|3,_=>rfl|4,_=>rfl|5,_=>rfl|6,_=>rfl|7,_=>rfl|8,_=>rfl|9,_=>rfl|10,_=>rfl|11,_=>rfl|12,_=>rfl|13,_=>rfl|14,_=>rfl|15,_=>rfl|16,_=>rfl|17,_=>rfl|18,_=>rfl|19,_=>rfl|20,_=>rfl|21,_=>rfl|22,_=>rfl|23,_=>rfl|24,_=>rfl|25,_=>rfl|26,_=>rfl|27,_=>rfl|28,_=>rfl|29,_=>rfl|30,_=>rfl|31,_=>rfl|32,_=>rfl|33,_=>rfl|_+34,_=>rfl
noncomputable def TLp:Nat->yL
 |0=>Rj zP 126 18
 |1=>Rj zP 121 13
 |2=>Rj zP 216 19
 |3=>Rj zP 216 5
 |_=>⟨0,[],.skip,.skip⟩
def TKn:Nat->Nat
 |12=>1
 |26=>1
 |29=>2
 |_=>0
theorem HM(x y:cC)(h:mO x=mO y):x=y:=by
 obtain⟨a1,a2,a3,a4,a5⟩:=x;obtain⟨b1,b2,b3,b4,b5⟩:=y;simp only[mO,AV.ip.injEq,AV.agg.injEq,List.cons.injEq,AV.int.injEq,AV.bool.injEq,AV.str.injEq,AV.sl.injEq,PZ,RZ]at h;obtain⟨rfl,rfl,rfl,rfl,rfl⟩:=h;rfl
theorem Fm(x y:bJ)(h:mg x=mg y):x=y:=by
 obtain⟨a1,⟨a2,a3,a4⟩,a5,a6⟩:=x;obtain⟨b1,⟨b2,b3,b4⟩,b5,b6⟩:=y;simp only[mg,AV.ip.injEq,AV.agg.injEq,List.cons.injEq,AV.int.injEq,AV.bool.injEq,AV.str.injEq,AV.sl.injEq,PZ,RZ]at h;obtain⟨rfl,rfl,rfl,rfl,rfl,h5⟩:=h;cases Jf HM _ _ h5;rfl
theorem Fo(x y:aQ)(h:iP x=iP y):x=y:=by
 obtain⟨a1,a2⟩:=x;obtain⟨b1,b2⟩:=y;simp only[iP,AV.ip.injEq,AV.agg.injEq,List.cons.injEq,AV.int.injEq,AV.bool.injEq,AV.str.injEq,AV.sl.injEq,PZ,RZ]at h;obtain⟨rfl,rfl⟩:=h;rfl
theorem U0(x y:(List aQ))(h:(SL iP) x=(SL iP) y):x=y:=Jf Fo x y (by simpa[SL]using h)
theorem AQ(x y:bX)(h:iE x=iE y):x=y:=by
 obtain⟨a1,a2⟩:=x;obtain⟨b1,b2⟩:=y;simp only[iE,AV.ip.injEq,AV.agg.injEq,List.cons.injEq,AV.int.injEq,AV.bool.injEq,AV.str.injEq,AV.sl.injEq,PZ,RZ]at h;obtain⟨rfl,rfl⟩:=h;rfl
theorem U1(x y:aX)(h:(λ(x:aX)=>AV.ip [.sl false (x.bI.map iE),.i x.bU,.i x.bP,.i x.dr,.i x.bL.aW,.i x.bL.ct,.i x.cS]) x=(λ(x:aX)=>AV.ip [.sl false (x.bI.map iE),.i x.bU,.i x.bP,.i x.dr,.i x.bL.aW,.i x.bL.ct,.i x.cS]) y):x=y:=by
 obtain⟨a1,a2,a3,a4,⟨a5,a6⟩,a7⟩:=x;obtain⟨b1,b2,b3,b4,⟨b5,b6⟩,b7⟩:=y;simp only[Fk,AV.ip.injEq,AV.agg.injEq,List.cons.injEq,AV.int.injEq,AV.bool.injEq,AV.str.injEq,AV.sl.injEq,PZ,RZ]at h;obtain⟨h0,rfl,rfl,rfl,rfl,rfl,rfl⟩:=h;cases Jf AQ _ _ h0;rfl
def TYf:(c:Nat)->Nat->TS c->TV TS
 |0,_,x=>TX 0 x
 |1,_,x=>TX 1 x
 |2,_,x=>TX 2 x
 |3,_,x=>TX 3 x
 |4,_,x=>TX 4 x
 |5,_,x=>TX 5 x
 |6,_,x=>TX 6 x
 |7,_,x=>TX 7 x
 |8,_,x=>TX 8 x
 |9,_,x=>TX 9 x
 |10,_,x=>TX 10 x
 |11,_,x=>TX 11 x
 |12,r,(x:bJ)=>.agg [.b x.kJ,.n x.sign.value,.b x.sign.dot,.b x.sign.three,.b x.tie,.a (.ms r 0 x.cR.length)]
 |13,_,x=>TX 13 x
 |14,_,x=>TX 14 x
 |15,_,x=>TX 15 x
 |16,_,x=>TX 16 x
 |17,_,x=>TX 17 x
 |18,_,x=>TX 18 x
 |19,_,x=>TX 19 x
 |20,_,x=>TX 20 x
 |21,_,x=>TX 21 x
 |22,_,x=>TX 22 x
 |23,_,x=>TX 23 x
 |24,_,x=>TX 24 x
 |25,_,x=>TX 25 x
 |26,r,(x:(List aQ))=>.a (.ms r 0 x.length)
 |27,_,x=>TX 27 x
 |28,_,x=>TX 28 x
 |29,r,(x:aX)=>.a (.mp r 0 0)
 |30,_,x=>TX 30 x
 |31,_,x=>TX 31 x
 |32,_,x=>TX 32 x
 |33,_,x=>TX 33 x
 |_+34,_,_=>.a .jN
def TZf:(c:Nat)->Nat->TS c->List (ZB TS)
 |0,_,_=>[]
 |1,_,_=>[]
 |2,_,_=>[]
 |3,_,_=>[]
 |4,_,_=>[]
 |5,_,_=>[]
 |6,_,_=>[]
 |7,_,_=>[]
 |8,_,_=>[]
 |9,_,_=>[]
 |10,_,_=>[]
 |11,_,_=>[]
 |12,_,(x:bJ)=>[.l 5 11 x.cR]
 |13,_,_=>[]
 |14,_,_=>[]
 |15,_,_=>[]
 |16,_,_=>[]
 |17,_,_=>[]
 |18,_,_=>[]
 |19,_,_=>[]
 |20,_,_=>[]
 |21,_,_=>[]
 |22,_,_=>[]
 |23,_,_=>[]
 |24,_,_=>[]
 |25,_,_=>[]
 |26,_,(x:(List aQ))=>[.l 2 8 x]
 |27,_,_=>[]
 |28,_,_=>[]
 |29,r,(x:aX)=>[.o 7 [.agg [.a (.ms (r+1) 0 x.bI.length),.n x.bU,.n x.bP,.n x.dr,.n x.bL.aW,.n x.bL.ct,.n x.cS]],.l 2 28 x.bI]
 |30,_,_=>[]
 |31,_,_=>[]
 |32,_,_=>[]
 |33,_,_=>[]
 |_+34,_,_=>[]
theorem aaZ: ∀c,Bl TE TWd TKn TYf TZf c:=λc=>match c with
 |0=>ep rfl (λ_ _=>rfl) (λ_ y=>j7 0 y) (ka 0) (jK 0)
 |1=>ep rfl (λ_ _=>rfl) (λ_ y=>j7 1 y) (ka 1) (jK 1)
 |2=>ep rfl (λ_ _=>rfl) (λ_ y=>j7 2 y) (ka 2) (jK 2)
 |3=>ep rfl (λ_ _=>rfl) (λ_ y=>j7 3 y) (ka 3) (jK 3)
 |4=>ep rfl (λ_ _=>rfl) (λ_ y=>j7 4 y) (ka 4) (jK 4)
 |5=>ep rfl (λ_ _=>rfl) (λ_ y=>j7 5 y) (ka 5) (jK 5)
 |6=>ep rfl (λ_ _=>rfl) (λ_ y=>j7 6 y) (ka 6) (jK 6)
 |7=>ep rfl (λ_ _=>rfl) (λ_ y=>j7 7 y) (ka 7) (jK 7)
 |8=>ep rfl (λ_ _=>rfl) (λ_ y=>j7 8 y) (ka 8) (jK 8)
 |9=>ep rfl (λ_ _=>rfl) (λ_ y=>j7 9 y) (ka 9) (jK 9)
 |10=>ep rfl (λ_ _=>rfl) (λ_ y=>j7 10 y) (ka 10) (jK 10)
 |11=>ep rfl (λ_ _=>rfl) (λ_ y=>j7 11 y) (ka 11) (jK 11)
 |12=>US (d:=11) (n:=5) (p:=5) (λ(x:bJ)=>x.cR) (λ(x:bJ)=>[.bool x.kJ,.i x.sign.value,.bool x.sign.dot,.bool x.sign.three,.bool x.tie]) (λ(x:bJ)=>[]) (λ_=>rfl) rfl (λ_=>rfl) (λ_ _=>rfl) (λ_ _=>rfl) (λ_=>rfl) (jK 11) (λ_=>⟨rfl,rfl⟩) (λy x h=>by simp at h;rcases h with rfl|rfl|rfl|rfl|rfl<;>rfl) Fm
 |13=>ep rfl (λ_ _=>rfl) (λ_ y=>j7 13 y) (ka 13) (jK 13)
 |14=>ep rfl (λ_ _=>rfl) (λ_ y=>j7 14 y) (ka 14) (jK 14)
 |15=>ep rfl (λ_ _=>rfl) (λ_ y=>j7 15 y) (ka 15) (jK 15)
 |16=>ep rfl (λ_ _=>rfl) (λ_ y=>j7 16 y) (ka 16) (jK 16)
 |17=>ep rfl (λ_ _=>rfl) (λ_ y=>j7 17 y) (ka 17) (jK 17)
 |18=>ep rfl (λ_ _=>rfl) (λ_ y=>j7 18 y) (ka 18) (jK 18)
 |19=>ep rfl (λ_ _=>rfl) (λ_ y=>j7 19 y) (ka 19) (jK 19)
 |20=>ep rfl (λ_ _=>rfl) (λ_ y=>j7 20 y) (ka 20) (jK 20)
 |21=>ep rfl (λ_ _=>rfl) (λ_ y=>j7 21 y) (ka 21) (jK 21)
 |22=>ep rfl (λ_ _=>rfl) (λ_ y=>j7 22 y) (ka 22) (jK 22)
 |23=>ep rfl (λ_ _=>rfl) (λ_ y=>j7 23 y) (ka 23) (jK 23)
 |24=>ep rfl (λ_ _=>rfl) (λ_ y=>j7 24 y) (ka 24) (jK 24)
 |25=>ep rfl (λ_ _=>rfl) (λ_ y=>j7 25 y) (ka 25) (jK 25)
 |26=>UR (d:=8) (n:=2) (λx=>x) rfl rfl (λ_ _=>rfl) (λ_ _=>rfl) (λ_=>rfl) (jK 8) U0
 |27=>ep rfl (λ_ _=>rfl) (λ_ y=>j7 27 y) (ka 27) (jK 27)
 |28=>ep rfl (λ_ _=>rfl) (λ_ y=>j7 28 y) (ka 28) (jK 28)
 |29=>UT (d:=28) (n:=7) (n2:=2) (λ(x:aX)=>x.bI) (λr(x:aX)=>.agg [.a (.ms (r+1) 0 x.bI.length),.n x.bU,.n x.bP,.n x.dr,.n x.bL.aW,.n x.bL.ct,.n x.cS]) (λ(x:aX)=>[]) (λ(x:aX)=>[.i x.bU,.i x.bP,.i x.dr,.i x.bL.aW,.i x.bL.ct,.i x.cS]) rfl rfl (λ_ _=>rfl) (λ_ _=>rfl) (λ_ _=>rfl) (λ_=>rfl) (jK 28) (λ_=>⟨rfl,rfl⟩) U1
 |30=>ep rfl (λ_ _=>rfl) (λ_ y=>j7 30 y) (ka 30) (jK 30)
 |31=>ep rfl (λ_ _=>rfl) (λ_ y=>j7 31 y) (ka 31) (jK 31)
 |32=>ep rfl (λ_ _=>rfl) (λ_ y=>j7 32 y) (ka 32) (jK 32)
 |33=>ep rfl (λ_ _=>rfl) (λ_ y=>j7 33 y) (ka 33) (jK 33)
 |_+34=>ep rfl (λ_ _=>rfl) (λ_ _=>rfl) (λ_=>rfl) (λ_=>rfl)
noncomputable def TT:iU:=⟨TS,TE,TX,TD,TTc,j7,aaY,jK,TWd,ka,TLp,TKn,TYf,TZf,aaZ⟩
noncomputable section
noncomputable def jk(k:Nat):Code:=T9 (yH (Tryz.f159.body.getD .skip)) k
def f40(c:List bH):Option Bool:=(bO (τ:=(Unit⊕Bool)) (λ(b:Int)=>bif decide (b<(c.length:Int)) then((ix c b).bind λa=>((bif decide (a.bU<0) then(some true)else(bif decide (127<a.bU) then(some true)else(bif decide (a.bP<0) then(some true)else(bif decide (a.dr<=a.bP) then(some true)else(bif decide (262144<a.dr) then(some true)else(bif decide (0<b) then((ix c (wr (b-1))).bind λd=>some (decide (a.bP<d.dr)))else(some false))))))):Option Bool).bind λ(e:Bool)=>bif e then(some (.inr (.inr false)))else(some (.inl (wr (b+1)))))else(some (.inr (.inl ())))) cr 0).bind (Sum.elim (λ(_:Unit)=>some true) some)
def f14(a:List (List bH)):Option Int:=(bO (τ:=Bool) (λ((d,b):(Bool×Int))=>bif decide (b<(a.length:Int)) then(((bif d then(some true)else((ix a b).bind λe=>some (decide (400<(e.length:Int))))):Option Bool).bind λ(g:Bool)=>some (.inl (g,wr (b+1))))else(some (.inr d))) cr ((decide (6<(a.length:Int))),0)).bind λ(f:Bool)=>bif f then(some 2)else((bO (τ:=(Unit⊕Int)) (λ(c:Int)=>bif decide (c<(a.length:Int)) then((ix a c).bind λh=>(f40 h).bind λi=>bif (!i)then(some (.inr (.inr 80)))else(some (.inl (wr (c+1)))))else(some (.inr (.inl ())))) cr 0).bind (Sum.elim (λ(_:Unit)=>some 0) some))
def f41(a:bp):Option Int:=((bif decide (14<(a.bQ.length:Int)) then(some true)else(some (decide (18<(a.br.length:Int))))):Option Bool).bind λ(m:Bool)=>bif m then(some 2)else(bif decide ((a.bQ.length:Int)=0) then(some 11)else((bO (τ:=(Unit⊕Int)) (λ((k,c):(Int×Int))=>bif decide (c<(a.br.length:Int)) then((((ix a.br c).bind λe=>bif decide (e<=k) then(some true)else(some (decide (127<e)))):Option Bool).bind λ(h:Bool)=>bif h then(some (.inr (.inr 11)))else((ix a.br c).bind λi=>some (.inl (i,wr (c+1)))))else(some (.inr (.inl ())))) cr (0,0)).bind (Sum.elim (λ(_:Unit)=>(bO (τ:=(Unit⊕Int)) (λ(d:Int)=>bif decide (d<(a.bQ.length:Int)) then((ix a.bQ d).bind λb=>((bif decide (b.dJ<0) then(some true)else(some (decide ((a.br.length:Int)<b.dJ)))):Option Bool).bind λ(g:Bool)=>bif g then(some (.inr (.inr 13)))else(((bif decide (b.bU<0) then(some true)else(some (decide (127<b.bU)))):Option Bool).bind λ(l:Bool)=>bif l then(some (.inr (.inr 10)))else(((bif decide (0<b.dJ) then((ix a.br (wr (b.dJ-1))).bind λj=>some (wr (b.bU+j)))else(some b.bU)):Option Int).bind λ(f:Int)=>((bif b.jb then(some (wr (f+12)))else(some f)):Option Int).bind λ(n:Int)=>bif decide (127<n) then(some (.inr (.inr 10)))else(some (.inl (wr (d+1)))))))else(some (.inr (.inl ())))) cr 0).bind (Sum.elim (λ(_:Unit)=>some 0) some)) some)))
def f129(a:List Int)(d:Int):Option (List Int):=(bO (τ:=Int) (λ(c:Int)=>((bif decide (0<c) then((ix a (wr (c-1))).bind λf=>some (decide (d<=f)))else(some false)):Option Bool).bind λ(h:Bool)=>bif h then(some (.inl (wr (c-1))))else(some (.inr c))) cr (a.length:Int)).bind λ(b:Int)=>((bif decide (b<(a.length:Int)) then((ix a b).bind λe=>some (decide (e=d)))else(some false)):Option Bool).bind λ(g:Bool)=>bif g then(some a)else(bZ (a.length+1<=bc)<|bZ (0<=(wr (b+1)))<|bZ ((wr (b+1)).toNat<=(a++([0]:List Int)).length)<|bZ (0<=b)<|bZ (b.toNat<=(a++([0]:List Int)).length)<|bZ (b.toNat+((a++([0]:List Int)).length-b.toNat)<=(a++([0]:List Int)).length)<|bZ ((wr (b+1)).toNat+((a++([0]:List Int)).length-(wr (b+1)).toNat)<=(a++([0]:List Int)).length)<|bZ ((QG (a++([0]:List Int)) (wr (b+1)).toNat ((a++([0]:List Int)).length-(wr (b+1)).toNat) (((a++([0]:List Int)).drop b.toNat).take ((a++([0]:List Int)).length-b.toNat))).length=(a++([0]:List Int)).length)<|(ix (QG (a++([0]:List Int)) (wr (b+1)).toNat ((a++([0]:List Int)).length-(wr (b+1)).toNat) (((a++([0]:List Int)).drop b.toNat).take ((a++([0]:List Int)).length-b.toNat))) b).bind λi=>some ((QG (a++([0]:List Int)) (wr (b+1)).toNat ((a++([0]:List Int)).length-(wr (b+1)).toNat) (((a++([0]:List Int)).drop b.toNat).take ((a++([0]:List Int)).length-b.toNat))).set b.toNat d))
def f130(d:List (List bH))(f:Int):Option Bool:=(bO (τ:=(Unit⊕Bool)) (λ(b:Int)=>bif decide (b<(d.length:Int)) then((bO (τ:=(Unit⊕(Int⊕(Unit⊕Bool)))) (λ(a:Int)=>(ix d b).bind λe=>bif decide (a<(e.length:Int)) then((((ix e a).bind λc=>bif decide (c.bP<=f) then(some (decide (f<c.dr)))else(some false)):Option Bool).bind λ(g:Bool)=>bif g then(some (.inr (.inr (.inr (.inr false)))))else(some (.inl (wr (a+1)))))else(some (.inr (.inl ())))) cr 0).bind (Sum.elim (λ(_:Unit)=>some (.inl (wr (b+1)))) some))else(some (.inr (.inl ())))) cr 0).bind (Sum.elim (λ(_:Unit)=>some true) some)
def f76(d:List (List bH)):Option ((List Int)):=(bO (τ:=(List Int)) (λ((e,c):(List Int×Int))=>bif decide (c<(d.length:Int)) then((bO (τ:=(List Int)) (λ((g,a):(List Int×Int))=>(ix d c).bind λf=>bif decide (a<(f.length:Int)) then((((ix f a).bind λb=>(f129 g b.bP).bind λh=>(f130 d b.dr).bind λl=>bif l then((f129 h b.dr).bind λj=>some j)else(some h)):Option (List Int)).bind λ(k:(List Int))=>some (.inl (k,wr (a+1))))else(some (.inr g))) cr (e,0)).bind λ(m:(List Int))=>some (.inl (m,wr (c+1))))else(some (.inr e))) cr (([0]:List Int),0)).bind λ(i:(List Int))=>some i
def f42(a:List (List bH)):Option (((List Int))×Int):=(f14 a).bind λb=>bif decide (b≠0) then(some (([]:List Int),b))else((f76 a).bind λc=>some (c,0))
def f95(b:bp)(a:aQ):Option Int:=(ix b.bQ (wr (a.aW-1))).bind λc=>((bif decide (0<a.ct) then((ix b.br (wr (a.ct-1))).bind λd=>some (wr (c.bU+d)))else(some c.bU)):Option Int).bind λ(e:Int)=>some e
def f43(b:bp)(e:Int):Option (((List aQ))×Int):=(f41 b).bind λf=>bif decide (f≠0) then(some (([]:List aQ),f))else(((bif decide (e<0) then(some true)else(some (decide (127<e)))):Option Bool).bind λ(i:Bool)=>bif i then(some (([]:List aQ),10))else((bO (τ:=(List aQ)) (λ((g,a):(List aQ×Int))=>bif decide (a<=(b.bQ.length:Int)) then((bO (τ:=(List aQ)) (λ((d,c):(List aQ×Int))=>(ix b.bQ (wr (a-1))).bind λh=>bif decide (c<=h.dJ) then((((f95 b (⟨a,c⟩:aQ)).bind λk=>bif decide (k=e) then(bZ (d.length+1<=bc)<|some (d++([(⟨a,c⟩:aQ)]:List aQ)))else(some d)):Option (List aQ)).bind λ(j:(List aQ))=>some (.inl (j,wr (c+1))))else(some (.inr d))) cr (g,0)).bind λ(m:(List aQ))=>some (.inl (m,wr (a+1))))else(some (.inr g))) cr (([]:List aQ),1)).bind λ(l:(List aQ))=>some (l,0)))
def f15(a:jn):Option Bool:=(((f14 a.bW).bind λu=>bif decide (u≠0) then(some true)else((f41 a.instrument).bind λq=>some (decide (q≠0)))):Option Bool).bind λ(m:Bool)=>bif m then(some false)else(bif decide (4<(a.bW.length:Int)) then(some true)else((bO (τ:=Int) (λ((k,d):(Int×Int))=>bif decide (d<(a.bW.length:Int)) then((ix a.bW d).bind λs=>some (.inl ((wr (k+(s.length:Int))),wr (d+1))))else(some (.inr k))) cr (0,0)).bind λ(v:Int)=>bif decide (24<v) then(some true)else((f42 a.bW).bind λg=>(bO (τ:=(Unit⊕Bool)) (λ(f:Int)=>bif decide (f<(g.1.length:Int)) then((bO (τ:=Int) (λ((j,c):(Int×Int))=>bif decide (c<(a.bW.length:Int)) then((bO (τ:=Int) (λ((e,b):(Int×Int))=>(ix a.bW c).bind λi=>bif decide (b<(i.length:Int)) then((((ix i b).bind λh=>(((ix g.1 f).bind λn=>bif decide (h.bP=n) then(bif decide (-1000<a.shift) then(some (decide (a.shift<1000)))else(some false))else(some false)):Option Bool).bind λ(p:Bool)=>bif p then((f43 a.instrument (wr (h.bU+a.shift))).bind λt=>some (wr (e*(jZ 1 (t.1.length:Int)))))else(some e)):Option Int).bind λ(r:Int)=>some (.inl (r,wr (b+1))))else(some (.inr e))) cr (j,0)).bind λ(l:Int)=>some (.inl (l,wr (c+1))))else(some (.inr j))) cr (1,0)).bind λ(o:Int)=>bif decide (300<o) then(some (.inr (.inr true)))else(some (.inl (wr (f+1)))))else(some (.inr (.inl ())))) cr 0).bind (Sum.elim (λ(_:Unit)=>some false) some))))
def f5(g:List (List bH))(c:List kF):Option Bool:=(f14 g).bind λo=>bif decide (o≠0) then(some false)else((bO (τ:=(Unit⊕Bool)) (λ(d:Int)=>((bif decide (d<(c.length:Int)) then(some (decide ((c.length:Int)<=6)))else(some false)):Option Bool).bind λ(l:Bool)=>bif l then((bO (τ:=((List (List bH))⊕(Int⊕(Unit⊕Bool)))) (λ((f,a):(List (List bH)×Int))=>(ix c d).bind λe=>bif decide (a<(e.bW.length:Int)) then((ix e.bW a).bind λb=>((bif decide (b<0) then(some true)else(bif decide ((g.length:Int)<=b) then(some true)else(bif decide (0<a) then((ix e.bW (wr (a-1))).bind λj=>some (decide (b<=j)))else(some false)))):Option Bool).bind λ(i:Bool)=>bif i then(some (.inr (.inr (.inr (.inr false)))))else((ix g b).bind λm=>bZ (f.length+1<=bc)<|some (.inl ((f++([m]:List (List bH))),wr (a+1)))))else(some (.inr (.inl f)))) cr (([]:List (List bH)),0)).bind (Sum.elim (λ(n:(List (List bH)))=>(ix c d).bind λh=>(f15 (⟨n,h.instrument,h.hand,h.shift⟩:jn)).bind λk=>bif k then(some (.inr (.inr true)))else(some (.inl (wr (d+1))))) some))else(some (.inr (.inl ())))) cr 0).bind (Sum.elim (λ(_:Unit)=>some false) some))
def f98:Option ((List ByteArray)):=some ([(ByteArray.mk #[108,117,116,101,54]),(ByteArray.mk #[108,117,116,101,55]),(ByteArray.mk #[108,117,116,101,49,48]),(ByteArray.mk #[98,97,114,111,113,117,101,49,51]),(ByteArray.mk #[116,104,101,111,114,98,111,49,52]),(ByteArray.mk #[118,105,104,117,101,108,97,54]),(ByteArray.mk #[103,117,105,116,97,114,52]),(ByteArray.mk #[103,117,105,116,97,114,53]),(ByteArray.mk #[99,105,116,116,101,114,110,52])]:List ByteArray)
def f100:Option ((List ByteArray)):=some ([(ByteArray.mk #[71,52,47,56,32,68,52,47,56,32,65,51,47,56,32,70,51,47,56,43,32,67,51,47,56,43,32,71,50,47,56,43,32,58,32,49,32,50,32,51,32,52,32,53,32,54,32,55,32,56]),(ByteArray.mk #[71,52,47,56,32,68,52,47,56,32,65,51,47,56,32,70,51,47,56,43,32,67,51,47,56,43,32,71,50,47,56,43,32,68,50,47,56,43,32,58,32,49,32,50,32,51,32,52,32,53,32,54,32,55,32,56]),(ByteArray.mk #[71,52,47,56,32,68,52,47,56,32,65,51,47,56,32,70,51,47,56,32,67,51,47,56,43,32,71,50,47,56,43,32,70,50,47,56,43,32,69,98,50,47,56,43,32,68,50,47,56,43,32,67,50,47,56,43,32,58,32,49,32,50,32,51,32,52,32,53,32,54,32,55,32,56]),(ByteArray.mk #[70,52,47,57,32,68,52,47,57,32,65,51,47,57,32,70,51,47,57,32,68,51,47,57,32,65,50,47,57,43,32,71,50,47,57,43,32,70,50,47,57,43,32,69,50,47,48,43,32,68,50,47,48,43,32,67,50,47,48,43,32,66,49,47,48,43,32,65,49,47,48,43,32,58,32,49,32,50,32,51,32,52,32,53,32,54,32,55,32,56,32,57]),(ByteArray.mk #[65,51,47,56,32,69,51,47,56,32,66,51,47,56,32,71,51,47,56,32,68,51,47,56,32,65,50,47,56,32,71,50,47,48,32,70,50,47,48,32,69,50,47,48,32,68,50,47,48,32,67,50,47,48,32,66,49,47,48,32,65,49,47,48,32,71,49,47,48,32,58,32,49,32,50,32,51,32,52,32,53,32,54,32,55,32,56]),(ByteArray.mk #[71,52,47,49,48,32,68,52,47,49,48,32,65,51,47,49,48,32,70,51,47,49,48,32,67,51,47,49,48,32,71,50,47,49,48,32,58,32,49,32,50,32,51,32,52,32,53,32,54,32,55,32,56,32,57,32,49,48]),(ByteArray.mk #[65,52,47,56,32,69,52,47,56,32,67,52,47,56,32,71,51,47,56,43,32,58,32,49,32,50,32,51,32,52,32,53,32,54,32,55,32,56]),(ByteArray.mk #[69,52,47,56,32,66,51,47,56,32,71,51,47,56,32,68,52,47,56,32,65,51,47,56,32,58,32,49,32,50,32,51,32,52,32,53,32,54,32,55,32,56]),(ByteArray.mk #[69,52,47,57,32,68,52,47,57,32,71,51,47,57,32,66,51,47,57,32,58,32,50,32,51,32,52,32,53,32,55,32,57,32,49,48,32,49,49,32,49,50])]:List ByteArray)
def f153(b:ByteArray):Option ((List ByteArray)):=(bO (τ:=(List ByteArray)) (λ((d,c,a):(List ByteArray×Int×Int))=>bif decide (a<=(b.size:Int)) then(((((bif decide (a=(b.size:Int)) then(some true)else(bZ ((0:Int)<=a/\a<(b.size:Int))<|some (decide ((AG b a)=32)))):Option Bool).bind λ(h:Bool)=>bif h then(bZ (0<=c)<|bZ (0<=a)<|bZ (c.toNat<=a.toNat/\a.toNat<=b.size)<|bZ (d.length+1<=bc)<|some ((d++([(b.extract c.toNat a.toNat)]:List ByteArray)),wr (a+1)))else(some (d,c))):Option (List ByteArray×Int)).bind λ((g,f):(List ByteArray×Int))=>some (.inl (g,f,wr (a+1))))else(some (.inr d))) cr (([]:List ByteArray),0,0)).bind λ(e:(List ByteArray))=>some e
def f248(b:Int):Option Int:=(bO (τ:=(Unit⊕Int)) (λ(a:Int)=>bif decide (a<7) then(bZ ((0:Int)<=a/\a<((ByteArray.mk #[67,68,69,70,71,65,66]).size:Int))<|bif (decide ((AG (ByteArray.mk #[67,68,69,70,71,65,66]) a)=b))then(some (.inr (.inr a)))else(some (.inl (wr (a+1)))))else(some (.inr (.inl ())))) cr 0).bind (Sum.elim (λ(_:Unit)=>some (-1)) some)
def f250(a:Int):Option Int:=bif decide (a<3) then(some (wr (2*a)))else(some (wr ((wr (2*a))-1)))
def f249(a:dO):Option Bool:=((bif decide (a.qN<0) then(some true)else(bif decide (6<a.qN) then(some true)else(bif decide (a.alter< -1) then(some true)else(bif decide (1<a.alter) then(some true)else(bif decide (a.jb< -1) then(some true)else(some (decide (9<a.jb)))))))):Option Bool).bind λ(c:Bool)=>bif c then(some false)else((f250 a.qN).bind λb=>((bif (decide (0<=(wr ((wr ((wr (12*(wr (a.jb+1))))+b))+a.alter))))then(some (decide ((wr ((wr ((wr (12*(wr (a.jb+1))))+b))+a.alter))<=127)))else(some false)):Option Bool).bind λ(d:Bool)=>some d)
def f202(a:ByteArray):Option (dO×Int):=((bif decide ((a.size:Int)<2) then(some true)else(bZ ((0:Int)<=0/\0<(a.size:Int))<|(f248 (AG a 0)).bind λi=>some (decide (i<0)))):Option Bool).bind λ(h:Bool)=>bif h then(some ((⟨0,0,0⟩:dO),4))else(bZ ((0:Int)<=0/\0<(a.size:Int))<|(f248 (AG a 0)).bind λe=>bZ (1<=a.size/\a.size<=a.size)<|((bZ ((0:Int)<=0/\0<((a.extract 1 a.size).size:Int))<|bif (decide ((AG (a.extract 1 a.size) 0)=35))then(bZ (1<=(a.extract 1 a.size).size/\(a.extract 1 a.size).size<=(a.extract 1 a.size).size)<|some (1,((a.extract 1 a.size).extract 1 (a.extract 1 a.size).size)))else(bif (decide ((AG (a.extract 1 a.size) 0)=98))then(bZ (1<=(a.extract 1 a.size).size/\(a.extract 1 a.size).size<=(a.extract 1 a.size).size)<|some (-1,((a.extract 1 a.size).extract 1 (a.extract 1 a.size).size)))else(some (0,(a.extract 1 a.size))))):Option (Int×ByteArray)).bind λ((d,b):(Int×ByteArray))=>((bif (b.toList==(ByteArray.mk #[45,49]).toList)then(some (.inl (-1)))else(((bif decide ((b.size:Int)=1) then(bZ ((0:Int)<=0/\0<(b.size:Int))<|bif decide (48<=(AG b 0)) then(some (decide ((AG b 0)<=57)))else(some false))else(some false)):Option Bool).bind λ(f:Bool)=>bif f then(bZ ((0:Int)<=0/\0<(b.size:Int))<|some (.inl (wr ((IntKind.wrap .u8 ((AG b 0)-48))))))else(some (.inr ((⟨0,0,0⟩:dO),4))))):Option (Int⊕(dO×Int))).bind (Sum.elim (λ(c:Int)=>(f249 (⟨e,d,c⟩:dO)).bind λg=>bif (!g)then(some ((⟨0,0,0⟩:dO),10))else(some ((⟨e,d,c⟩:dO),0))) some))
def f155(a:ByteArray):Option (Int×Bool):=((bif decide ((a.size:Int)<1) then(some true)else(bif decide (3<(a.size:Int)) then(some true)else(bZ ((0:Int)<=0/\0<(a.size:Int))<|bif decide ((AG a 0)=48) then(some (decide (1<(a.size:Int))))else(some false)))):Option Bool).bind λ(d:Bool)=>bif d then(some (0,false))else((bO (τ:=(Int⊕(Int×Bool))) (λ((c,b):(Int×Int))=>bif decide (b<(a.size:Int)) then(((bZ ((0:Int)<=b/\b<(a.size:Int))<|bif decide ((AG a b)<48) then(some true)else(some (decide (57<(AG a b))))):Option Bool).bind λ(e:Bool)=>bif e then(some (.inr (.inr (0,false))))else(bZ ((0:Int)<=b/\b<(a.size:Int))<|some (.inl ((wr ((wr (10*c))+(wr ((IntKind.wrap .u8 ((AG a b)-48)))))),wr (b+1)))))else(some (.inr (.inl c)))) cr (0,0)).bind (Sum.elim (λ(f:Int)=>some (f,true)) some))
def f203(a:dO):Option (Int×Int):=(f249 a).bind λb=>bif (!b)then(some (0,10))else((f250 a.qN).bind λc=>some ((wr ((wr ((wr (12*(wr (a.jb+1))))+c))+a.alter)),0))
def f154(a:ByteArray):Option (cE×Int):=((((bif decide (0<(a.size:Int)) then(bZ ((0:Int)<=(wr ((a.size:Int)-1))/\(wr ((a.size:Int)-1))<(a.size:Int))<|some (decide ((AG a (wr ((a.size:Int)-1)))=43)))else(some false)):Option Bool).bind λ(h:Bool)=>bif h then(bZ (0<=(wr ((a.size:Int)-1)))<|bZ (0<=(wr ((a.size:Int)-1)).toNat/\(wr ((a.size:Int)-1)).toNat<=a.size)<|some ((a.extract 0 (wr ((a.size:Int)-1)).toNat),true))else(some (a,false))):Option (ByteArray×Bool)).bind λ((b,i):(ByteArray×Bool))=>(bO (τ:=Int) (λ(d:Int)=>((bif decide (d<(b.size:Int)) then(bZ ((0:Int)<=d/\d<(b.size:Int))<|some (decide ((AG b d)≠47)))else(some false)):Option Bool).bind λ(j:Bool)=>bif j then(some (.inl (wr (d+1))))else(some (.inr d))) cr 0).bind λ(c:Int)=>bif decide (c=(b.size:Int)) then(some ((⟨0,0,false⟩:cE),4))else(bZ (0<=c)<|bZ (0<=c.toNat/\c.toNat<=b.size)<|(f202 (b.extract 0 c.toNat)).bind λe=>bZ (0<=(wr (c+1)))<|bZ ((wr (c+1)).toNat<=b.size/\b.size<=b.size)<|(f155 (b.extract (wr (c+1)).toNat b.size)).bind λf=>((bif decide (e.2=4) then(some true)else(some (!f.2))):Option Bool).bind λ(g:Bool)=>bif g then(some ((⟨0,0,false⟩:cE),4))else(bif decide (e.2≠0) then(some ((⟨0,0,false⟩:cE),e.2))else((f203 e.1).bind λk=>some ((⟨k.1,f.1,i⟩:cE),0))))
def f156(a:bp):Option (bp×Int):=(f41 a).bind λb=>bif decide (b≠0) then(some ((⟨([]:List cE),([]:List Int)⟩:bp),b))else(some (a,0))
def f99(m:ByteArray):Option (bp×Int):=(f153 m).bind λa=>(bO (τ:=Int) (λ(b:Int)=>((bif decide (b<(a.length:Int)) then((ix a b).bind λk=>some (!(k.toList==(ByteArray.mk #[58]).toList)))else(some false)):Option Bool).bind λ(n:Bool)=>bif n then(some (.inl (wr (b+1))))else(some (.inr b))) cr 0).bind λ(g:Int)=>bif decide (g=(a.length:Int)) then(some ((⟨([]:List cE),([]:List Int)⟩:bp),4))else((bO (τ:=((List cE)⊕(bp×Int))) (λ((e,h):(List cE×Int))=>bif decide (h<g) then((ix a h).bind λl=>(f154 l).bind λf=>bif decide (f.2≠0) then(some (.inr (.inr ((⟨([]:List cE),([]:List Int)⟩:bp),f.2))))else(bZ (e.length+1<=bc)<|some (.inl ((e++([f.1]:List cE)),wr (h+1)))))else(some (.inr (.inl e)))) cr (([]:List cE),0)).bind (Sum.elim (λ(p:(List cE))=>(bO (τ:=((List Int)⊕(bp×Int))) (λ((d,c):(List Int×Int))=>bif decide (c<(a.length:Int)) then((ix a c).bind λq=>(f155 q).bind λj=>bif (!j.2)then(some (.inr (.inr ((⟨([]:List cE),([]:List Int)⟩:bp),4))))else(bZ (d.length+1<=bc)<|some (.inl ((d++([j.1]:List Int)),wr (c+1)))))else(some (.inr (.inl d)))) cr (([]:List Int),wr (g+1))).bind (Sum.elim (λ(o:(List Int))=>(f156 (⟨p,o⟩:bp)).bind λi=>some (i.1,i.2)) some)) some))
def f45(e:ByteArray):Option (bp×Int):=(f98).bind λb=>(bO (τ:=(Unit⊕(bp×Int))) (λ(a:Int)=>bif decide (a<(b.length:Int)) then((ix b a).bind λd=>bif (d.toList==e.toList)then((f100).bind λg=>(ix g a).bind λf=>(f99 f).bind λc=>some (.inr (.inr (c.1,c.2))))else(some (.inl (wr (a+1)))))else(some (.inr (.inl ())))) cr 0).bind (Sum.elim (λ(_:Unit)=>some ((⟨([]:List cE),([]:List Int)⟩:bp),3)) some)
def f46(a:bp):Option bp:=((bif a.bQ.isEmpty then(bif a.br.isEmpty then(some (⟨([]:List cE),([]:List Int)⟩:bp))else(bZ (a.br.length<=bc)<|some (⟨([]:List cE),a.br⟩:bp)))else(bZ (a.bQ.length<=bc)<|bif a.br.isEmpty then(some (⟨a.bQ,([]:List Int)⟩:bp))else(bZ (a.br.length<=bc)<|some a))):Option bp).bind λ(b:bp)=>some b
def f17:Option dP:=(f45 (ByteArray.mk #[108,117,116,101,54])).bind λa=>(f46 a.1).bind λb=>some (⟨([(⟨a.1,([(⟨false,(⟨3,false,false⟩:cB),false,([(⟨1,0,0,0,0⟩:cC)]:List cC)⟩:bJ),(⟨false,(⟨3,false,false⟩:cB),false,([(⟨1,2,0,0,0⟩:cC)]:List cC)⟩:bJ)]:List bJ)⟩:cD),(⟨b,([(⟨false,(⟨2,false,false⟩:cB),false,([(⟨6,0,0,0,0⟩:cC)]:List cC)⟩:bJ)]:List bJ)⟩:cD)]:List cD)⟩:dP)
def f141(d:bp)(a:cE):Option Int:=((bif decide (0<a.dJ) then((ix d.br (wr (a.dJ-1))).bind λe=>some (wr (a.bU+e)))else(some a.bU)):Option Int).bind λ(b:Int)=>((bif a.jb then(some (wr (b+12)))else(some b)):Option Int).bind λ(c:Int)=>some c
def f85(a:bp):Option Int:=((bif decide (14<(a.bQ.length:Int)) then(some true)else(some (decide (18<(a.br.length:Int))))):Option Bool).bind λ(k:Bool)=>bif k then(some 2)else(bif decide ((a.bQ.length:Int)=0) then(some 11)else((bO (τ:=(Unit⊕Int)) (λ((i,e):(Int×Int))=>bif decide (e<(a.br.length:Int)) then((ix a.br e).bind λc=>((bif decide (c<=i) then(some true)else(some (decide (127<c)))):Option Bool).bind λ(g:Bool)=>bif g then(some (.inr (.inr 11)))else(some (.inl (c,wr (e+1)))))else(some (.inr (.inl ())))) cr (0,0)).bind (Sum.elim (λ(_:Unit)=>(bO (τ:=(Unit⊕Int)) (λ(d:Int)=>bif decide (d<(a.bQ.length:Int)) then((ix a.bQ d).bind λb=>((bif decide (b.dJ<0) then(some true)else(some (decide ((a.br.length:Int)<b.dJ)))):Option Bool).bind λ(f:Bool)=>bif f then(some (.inr (.inr 13)))else(((bif decide (b.bU<0) then(some true)else(bif decide (127<b.bU) then(some true)else((f141 a b).bind λh=>some (decide (127<h))))):Option Bool).bind λ(j:Bool)=>bif j then(some (.inr (.inr 10)))else(some (.inl (wr (d+1))))))else(some (.inr (.inl ())))) cr 0).bind (Sum.elim (λ(_:Unit)=>some 0) some)) some)))
def f116(a:cB):Option Int:=((bif decide (a.value<1) then(some true)else(bif decide (7<a.value) then(some true)else(bif a.dot then(some a.three)else(some false)))):Option Bool).bind λ(b:Bool)=>bif b then(some 0)else(bZ (0<=(wr (a.value-1)))<|bif a.dot then(some (wr ((wr (Int.tdiv (dV 384 (wr (a.value-1))) 2))*3)))else(bif a.three then(some (wr ((wr (Int.tdiv (dV 384 (wr (a.value-1))) 3))*2)))else(some (dV 384 (wr (a.value-1))))))
def f86(a:cB):Option Bool:=((bif (kX a (⟨0,false,false⟩:cB))then(some true)else((f116 a).bind λb=>some (decide (0<b)))):Option Bool).bind λ(c:Bool)=>some c
def f199(a:bJ):Option Bool:=((bif decide ((a.cR.length:Int)=0) then(some (!a.tie))else(some false)):Option Bool).bind λ(b:Bool)=>some b
def f247(a:cC)(b:Int):Option Bool:=some (decide (a.aW=b))
def f175(b:List cC)(c:Int):Option Int:=(bO (τ:=(Unit⊕Int)) (λ(a:Int)=>bif decide (a<(b.length:Int)) then((ix b a).bind λd=>(f247 d c).bind λe=>bif e then(some (.inr (.inr a)))else(some (.inl (wr (a+1)))))else(some (.inr (.inl ())))) cr 0).bind (Sum.elim (λ(_:Unit)=>some (-1)) some)
def f246(b:List cC)(a:Int):Option Bool:=(f175 b a).bind λc=>some (decide (0<=c))
def f200(a:bJ)(c:Int):Option Bool:=(f246 a.cR c).bind λb=>some b
def f142(a:cD)(b:Int)(g:Int):Option Int:=((bif decide (b<0) then(some true)else(some (decide ((a.aY.length:Int)<=b)))):Option Bool).bind λ(h:Bool)=>bif h then(some 0)else(bZ (0<=(wr (b+1)))<|bZ ((wr (b+1)).toNat<=a.aY.length)<|(bO (τ:=Int) (λ((c,d):(Int×Int))=>bif (decide (d<(((a.aY.take a.aY.length).drop (wr (b+1)).toNat).length:Int)))then((ix ((a.aY.take a.aY.length).drop (wr (b+1)).toNat) d).bind λe=>((bif decide (c=15) then(some true)else((f199 e).bind λj=>bif j then(some true)else((f200 e g).bind λf=>some f))):Option Bool).bind λ(i:Bool)=>bif i then(some (.inr c))else(some (.inl ((wr (c+1)),wr (d+1)))))else(some (.inr c))) cr (0,0)).bind λ(k:Int)=>some k)
def f87(b:cD)(f:Int)(a:cC)(j:Int):Option Int:=((bif decide (a.aW<1) then(some true)else(some (decide ((b.instrument.bQ.length:Int)<a.aW)))):Option Bool).bind λ(h:Bool)=>bif h then(some 12)else(((bif decide (a.ct<0) then(some true)else((ix b.instrument.bQ (wr (a.aW-1))).bind λc=>some (decide (c.dJ<a.ct)))):Option Bool).bind λ(e:Bool)=>bif e then(some 13)else(bif decide (a.aW<=j) then(some 22)else(((bif decide (a.right<0) then(some true)else(bif decide (3<a.right) then(some true)else(bif decide (a.jv<0) then(some true)else(some (decide (4<a.jv)))))):Option Bool).bind λ(g:Bool)=>bif g then(some 23)else(((bif decide (a.hold<0) then(some true)else((f142 b f a.aW).bind λi=>bif decide (i<a.hold) then(some true)else(bif decide (0<a.hold) then(some (decide (a.ct=0)))else(some false)))):Option Bool).bind λ(d:Bool)=>bif d then(some 24)else(some 0)))))
def f30(c:cD):Option Int:=(f85 c.instrument).bind λf=>bif decide (f≠0) then(some f)else(bif decide (400<(c.aY.length:Int)) then(some 2)else((bO (τ:=(Unit⊕Int)) (λ(b:Int)=>bif decide (b<(c.aY.length:Int)) then((ix c.aY b).bind λa=>(((f86 a.sign).bind λj=>bif (!j)then(some true)else(bif decide (b=0) then(some (kX a.sign (⟨0,false,false⟩:cB)))else(some false))):Option Bool).bind λ(h:Bool)=>bif h then(some (.inr (.inr 20)))else(((bif a.tie then(bif decide (b=0) then(some true)else(some (decide (0<(a.cR.length:Int)))))else(some false)):Option Bool).bind λ(i:Bool)=>bif i then(some (.inr (.inr 21)))else((bO (τ:=(Unit⊕(Int⊕(Unit⊕Int)))) (λ((k,d):(Int×Int))=>bif decide (d<(a.cR.length:Int)) then((ix a.cR d).bind λg=>(f87 c b g k).bind λe=>bif decide (e≠0) then(some (.inr (.inr (.inr (.inr e)))))else(some (.inl (g.aW,wr (d+1)))))else(some (.inr (.inl ())))) cr (0,0)).bind (Sum.elim (λ(_:Unit)=>some (.inl (wr (b+1)))) some))))else(some (.inr (.inl ())))) cr 0).bind (Sum.elim (λ(_:Unit)=>some 0) some)))
def f189(a:cD):Option Unit:=some ()
def f370(a:List Int)(e:cD)(d:Int)(c:Int):Option (List Int):=(ix a d).bind λb=>bZ (a.length+1<=bc)<|some (a++([(wr (b+c))]:List Int))
def f234(h:List Int)(b:cD):Option (List Int):=(bO (τ:=((List Int)⊕(List Int))) (λ((c,f,a):(List Int×Int×Int))=>bif decide (a<(b.aY.length:Int)) then((ix b.aY a).bind λi=>(((f116 i.sign).bind λe=>bif decide (0<e) then(some e)else(some f)):Option Int).bind λ(d:Int)=>(f370 c b a d).bind λj=>some (.inl (j,d,wr (a+1))))else(some (.inr (.inl c)))) cr (h,0,0)).bind (Sum.elim (λ(g:(List Int))=>some g) some)
def f126(a:cD):Option (((List Int))×Int):=(f30 a).bind λb=>bif decide (b≠0) then(some (([]:List Int),b))else((f189 a).bind λd=>(f234 ([0]:List Int) a).bind λc=>some (c,0))
def f71(a:List cD):Option (((List Int))×Int):=bif decide ((a.length:Int)=0) then(some (([]:List Int),90))else(bif decide (6<(a.length:Int)) then(some (([]:List Int),2))else((bO (τ:=((List Int)⊕(((List Int))×Int))) (λ((d,c):(List Int×Int))=>bif decide (c<(a.length:Int)) then((ix a c).bind λe=>(f126 e).bind λb=>bif decide (b.2≠0) then(some (.inr (.inr (([]:List Int),b.2))))else((ix b.1 (wr ((b.1.length:Int)-1))).bind λf=>bZ (d.length+1<=bc)<|some (.inl ((d++([f]:List Int)),wr (c+1)))))else(some (.inr (.inl d)))) cr (([]:List Int),0)).bind (Sum.elim (λ(g:(List Int))=>some (g,0)) some)))
def f84(a:List Int):Option Int:=((bif decide ((a.length:Int)<1) then(none)else(some ())):Option Unit).bind λ(_:Unit)=>(ix a 0).bind λe=>(bO (τ:=Int) (λ((c,b):(Int×Int))=>bif decide (b<(a.length:Int)) then((ix a b).bind λd=>some (.inl ((Ej c d),wr (b+1))))else(some (.inr c))) cr (e,1)).bind λ(f:Int)=>some f
def f72(a:List Int):Option Int:=((bif decide ((a.length:Int)<1) then(none)else(some ())):Option Unit).bind λ(_:Unit)=>(ix a 0).bind λe=>(bO (τ:=Int) (λ((c,b):(Int×Int))=>bif decide (b<(a.length:Int)) then((ix a b).bind λd=>some (.inl ((jZ c d),wr (b+1))))else(some (.inr c))) cr (e,1)).bind λ(f:Int)=>some f
def f29(b:dP):Option (Int×Int):=(f71 b.pieces).bind λa=>bif decide (a.2≠0) then(some (0,a.2))else((f84 a.1).bind λe=>(f72 a.1).bind λc=>bif decide (e≠c) then(some (0,91))else((ix a.1 0).bind λd=>some (d,0)))
def f88(a:cD):Option (gj×Int):=(f126 a).bind λb=>some ((⟨a,b.1⟩:gj),b.2)
def f143(b:Int)(f:Int)(d:List Int)(e:List dX):Option (List dX×List Int):=bZ (b<15)<|(ix d b).bind λc=>bif decide (0<c) then((ix e (wr (c-1))).bind λa=>some ((e.set (wr (c-1)).toNat (⟨a.cS,a.aW,a.bU,a.bP,f⟩:dX)),(d.set b.toNat 0)))else(some (e,d))
def f201(c:bp)(b:cE)(a:Int):Option Int:=bif decide (a=0) then(some b.bU)else((ix c.br (wr (a-1))).bind λd=>some (wr (b.bU+d)))
def f144(b:bp)(a:aQ):Option (Int×Int):=(f85 b).bind λd=>bif decide (d≠0) then(some (0,d))else(((bif decide (a.aW<1) then(some true)else(some (decide ((b.bQ.length:Int)<a.aW)))):Option Bool).bind λ(e:Bool)=>bif e then(some (0,12))else((ix b.bQ (wr (a.aW-1))).bind λc=>((bif decide (a.ct<0) then(some true)else(some (decide (c.dJ<a.ct)))):Option Bool).bind λ(f:Bool)=>bif f then(some (0,13))else((f201 b c a.ct).bind λg=>some (g,0))))
def f145(a:gj):Option Int:=(ix a.vT (wr ((a.vT.length:Int)-1))).bind λb=>some b
def f146(b:gj)(f:Int)(d:Int):Option Int:=(bO (τ:=Int) (λ(a:Int)=>((bif (decide ((wr (a+1))<(b.p.aY.length:Int)))then((ix b.p.aY (wr (a+1))).bind λe=>some e.tie)else(some false)):Option Bool).bind λ(c:Bool)=>bif c then(some (.inl (wr (a+1))))else(some (.inr a))) cr (wr (f+d))).bind λ(g:Int)=>some g
def f89(b:gj):Option (((List dX))×((List iA))):=(bO (τ:=(List dX×List iA)) (λ((j,r,q,c):(List dX×List iA×List Int×Int))=>bif decide (c<(b.p.aY.length:Int)) then((ix b.p.aY c).bind λf=>(ix b.vT c).bind λe=>((((bif decide ((f.cR.length:Int)=0) then(some (!f.tie))else(some false)):Option Bool).bind λ(u:Bool)=>bif u then((bO (τ:=(List dX×List Int)) (λ((m,n,h):(List dX×List Int×Int))=>bif decide (h<15) then((f143 h e n m).bind λo=>some (.inl (o.1,o.2,wr (h+1))))else(some (.inr (m,n)))) cr (j,q,0)).bind λ((x,E):(List dX×List Int))=>some (x,E))else(some (j,q))):Option (List dX×List Int)).bind λ((B,y):(List dX×List Int))=>(bO (τ:=(List dX×List iA×List Int)) (λ((k,i,s,g):(List dX×List iA×List Int×Int))=>bif decide (g<(f.cR.length:Int)) then((ix f.cR g).bind λa=>(f143 a.aW e s k).bind λd=>(f144 b.p.instrument (⟨a.aW,a.ct⟩:aQ)).bind λH=>(f145 b).bind λv=>((bif decide (0<a.ct) then((f146 b c a.hold).bind λt=>(ix b.vT (wr (t+1))).bind λw=>some (d.2,w))else(bZ (a.aW<15)<|(ix d.2 a.aW).bind λI=>some ((d.2.set a.aW.toNat (wr ((d.1.length:Int)+1))),v))):Option (List Int×Int)).bind λ((z,l):(List Int×Int))=>bZ (d.1.length+1<=bc)<|bZ (i.length+1<=bc)<|some (.inl ((d.1++([(⟨c,a.aW,H.1,e,l⟩:dX)]:List dX)),(i++([(⟨c,a.aW,a.ct,e,l⟩:iA)]:List iA)),z,wr (g+1))))else(some (.inr (k,i,s)))) cr (B,r,y,0)).bind λ((F,G,D):(List dX×List iA×List Int))=>some (.inl (F,G,D,wr (c+1))))else(some (.inr (j,r)))) cr (([]:List dX),([]:List iA),([0,0,0,0,0,0,0,0,0,0,0,0,0,0,0]:List Int),0)).bind λ((A,C):(List dX×List iA))=>some (A,C)
def f32(b:cD):Option (((List dX))×Int):=(f88 b).bind λa=>bif decide (a.2≠0) then(some (([]:List dX),a.2))else((f89 a.1).bind λc=>some (c.1,0))
def f16(a:dP):Option (Int⊕(Int×List gx)):=(f29 a).bind λb=>bif decide (b.2≠0) then(some (.inl b.2))else((bO (τ:=((List gx)⊕(Int⊕(Int×List gx)))) (λ((c,e):(List gx×Int))=>bif decide (e<(a.pieces.length:Int)) then((ix a.pieces e).bind λf=>(f32 f).bind λd=>bif decide (d.2≠0) then(some (.inr (.inr (.inl d.2))))else(bZ (c.length+1<=bc)<|some (.inl ((c++([(⟨d.1,false,0⟩:gx)]:List gx)),wr (e+1)))))else(some (.inr (.inl c)))) cr (([]:List gx),0)).bind (Sum.elim (λ(g:(List gx))=>some (.inr (b.1,g))) some))
def f101(a:cU):Option Bool:=((bif (!a.waiting)then(some (decide (a.now=a.end_)))else(some false)):Option Bool).bind λ(b:Bool)=>some b
def f157(a:Int)(c:cU)(b:Int):Option Int:=bif decide (c.now<a) then(some (Ej b a))else(some b)
def f102(a:cU):Option Int:=bif a.waiting then(some a.now)else(((bif decide (0<a.times) then((f157 a.dr a a.end_).bind λp=>some p)else(some a.end_)):Option Int).bind λ(q:Int)=>(bO (τ:=Int) (λ((h,c):(Int×Int))=>bif decide (c<(a.eh.l.length:Int)) then((ix a.eh.l c).bind λj=>(f157 j.note.dr a h).bind λt=>some (.inl (t,wr (c+1))))else(some (.inr h))) cr (q,0)).bind λ(o:Int)=>(bO (τ:=Int) (λ((i,f):(Int×Int))=>bif decide (f<(a.fI.length:Int)) then((ix a.fI f).bind λb=>(bO (τ:=Int) (λ((d,e):(Int×Int))=>bif decide (e<(b.notes.length:Int)) then((((ix b.notes e).bind λg=>((bif (!b.zK)then(some (decide (b.since<=g.bP)))else(some false)):Option Bool).bind λ(k:Bool)=>bif k then((f157 g.bP a d).bind λn=>some n)else(some d)):Option Int).bind λ(s:Int)=>some (.inl (s,wr (e+1))))else(some (.inr d))) cr (i,0)).bind λ(m:Int)=>some (.inl (m,wr (f+1))))else(some (.inr i))) cr (o,0)).bind λ(r:Int)=>some r)
def f47(a:cU):Option (Int×Int):=(f101 a).bind λb=>bif b then(some (0,92))else((f102 a).bind λc=>some (c,0))
def f152(a:Int):Option Bool:=some (decide (a≠a))
def f97(a:Int)(b:Int):Option Int:=(f152 a).bind λd=>(f152 b).bind λc=>bif d then(bif c then(some 0)else(some (-1)))else(bif c then(some 1)else(bif decide (a<b) then(some (-1))else(bif decide (b<a) then(some 1)else(some 0))))
def f96(b:List Int):Option Int:=(bO (τ:=(Unit⊕Int)) (λ(a:Int)=>bif decide (a<(b.length:Int)) then((ix b a).bind λc=>bif decide (c≠0) then(some (.inr (.inr c)))else(some (.inl (wr (a+1)))))else(some (.inr (.inl ())))) cr 0).bind (Sum.elim (λ(_:Unit)=>some 0) some)
def f44(a:cx)(b:cx):Option Int:=(f97 a.qO b.qO).bind λd=>(f97 a.note.aW b.note.aW).bind λc=>(f96 ([d,c]:List Int)).bind λe=>some e
def f158(c:List cx)(e:cx):Option (Int×Bool):=(bO (τ:=Int) (λ((a,b):(Int×Int))=>bif decide (a<b) then((ix c (wr ((dV (IntKind.wrap .u64 ((wr (a+b)))) 1)))).bind λh=>(f44 h e).bind λi=>bif decide (i<0) then(some (.inl ((wr ((wr ((dV (IntKind.wrap .u64 ((wr (a+b)))) 1)))+1)),b)))else(some (.inl (a,(wr ((dV (IntKind.wrap .u64 ((wr (a+b)))) 1)))))))else(some (.inr a))) cr (0,(c.length:Int))).bind λ(d:Int)=>((bif decide (d<(c.length:Int)) then((ix c d).bind λg=>(f44 g e).bind λj=>some (decide (j=0)))else(some false)):Option Bool).bind λ(f:Bool)=>some (d,f)
def f159(l:List cx)(i:Int)(v:List cx):Option (List cx):=Xn l i v
def f103(a:cU)(b:cx):Option (List cx):=(f158 a.eh.l b).bind λc=>(f159 a.eh.l c.1 ([b]:List cx)).bind λd=>some d
def f104(a:cx):Option dG:=some (⟨a.qO,a.note.aW,a.note.bU⟩:dG)
def f48(a:cU):Option (List dG×List cx):=(bO (τ:=(List dG×List cx)) (λ((h,i,b):(List cx×List dG×Int))=>bif decide (b<(a.fI.length:Int)) then((ix a.fI b).bind λd=>(bO (τ:=(List cx×List dG)) (λ((f,e,g):(List cx×List dG×Int))=>bif decide (g<(d.notes.length:Int)) then((((ix d.notes g).bind λc=>((bif decide (c.bP=a.now) then(bif (!d.zK)then(some (decide (d.since<=c.bP)))else(some false))else(some false)):Option Bool).bind λ(r:Bool)=>bif r then((f103 (⟨a.clock,a.now,a.end_,a.waiting,a.fI,a.bP,a.dr,a.times,(⟨f⟩:ff),a.takes⟩:cU) (⟨c,b,a.clock.iW⟩:cx)).bind λq=>(f104 (⟨c,b,a.clock.iW⟩:cx)).bind λn=>bZ (e.length+1<=bc)<|some (q,(e++([n]:List dG))))else(some (f,e))):Option (List cx×List dG)).bind λ((m,o):(List cx×List dG))=>some (.inl (m,o,wr (g+1))))else(some (.inr (f,e)))) cr (h,i,0)).bind λ((p,k):(List cx×List dG))=>some (.inl (p,k,wr (b+1))))else(some (.inr (i,h)))) cr (a.eh.l,([]:List dG),0)).bind λ((s,j):(List dG×List cx))=>some (s,j)
def f49(a:cU)(b:Int):Option Int:=some (wr (a.clock.iW+b))
def f51(a:cx):Option Bool:=some true
def f105(e:cU):Option (List cx×List cx):=(bO (τ:=(List cx×List cx)) (λ((a,b,d):(List cx×List cx×Int))=>bif decide (d<(e.eh.l.length:Int)) then((((ix e.eh.l d).bind λc=>(f51 c).bind λj=>bif j then(bZ (a.length+1<=bc)<|some ((a++([c]:List cx)),b))else(bZ (b.length+1<=bc)<|some (a,(b++([c]:List cx))))):Option (List cx×List cx)).bind λ((h,g):(List cx×List cx))=>some (.inl (h,g,wr (d+1))))else(some (.inr (a,b)))) cr (([]:List cx),([]:List cx),0)).bind λ((f,i):(List cx×List cx))=>some (f,i)
def f106(c:List cx):Option ((List dG)):=(bO (τ:=(List dG)) (λ((b,a):(List dG×Int))=>bif decide (a<(c.length:Int)) then((ix c a).bind λd=>(f104 d).bind λe=>bZ (b.length+1<=bc)<|some (.inl ((b++([e]:List dG)),wr (a+1))))else(some (.inr b))) cr (([]:List dG),0)).bind λ(f:(List dG))=>some f
def f50(c:cU):Option (List dG×List cx×List gg):=(f105 c).bind λb=>(bO (τ:=(List gg)) (λ((d,e):(List gg×Int))=>bif decide (e<(b.1.length:Int)) then((ix b.1 e).bind λa=>bZ (d.length+1<=bc)<|some (.inl ((d++([(⟨a.qO,a.note.aW,a.note.bU,a.Jr,c.clock.iW⟩:gg)]:List gg)),wr (e+1))))else(some (.inr d))) cr (c.takes,0)).bind λ(f:(List gg))=>(f106 b.1).bind λg=>some (g,b.2,f)
def f52(c:cU)(e:Int):Option (List gx):=(bO (τ:=(List gx)) (λ((b,a):(List gx×Int))=>bif decide (a<(c.fI.length:Int)) then((ix b a).bind λd=>some (.inl ((b.set a.toNat (⟨d.notes,d.zK,e⟩:gx)),wr (a+1))))else(some (.inr b))) cr (c.fI,0)).bind λ(f:(List gx))=>some f
def f53(a:cx)(b:Int):Option Bool:=some (decide (a.note.dr=b))
def f105_1(e:cU)(f:Int):Option (List cx×List cx):=(bO (τ:=(List cx×List cx)) (λ((a,b,d):(List cx×List cx×Int))=>bif decide (d<(e.eh.l.length:Int)) then((((ix e.eh.l d).bind λc=>(f53 c f).bind λk=>bif k then(bZ (a.length+1<=bc)<|some ((a++([c]:List cx)),b))else(bZ (b.length+1<=bc)<|some (a,(b++([c]:List cx))))):Option (List cx×List cx)).bind λ((i,h):(List cx×List cx))=>some (.inl (i,h,wr (d+1))))else(some (.inr (a,b)))) cr (([]:List cx),([]:List cx),0)).bind λ((g,j):(List cx×List cx))=>some (g,j)
def f50_1(c:cU)(f:Int):Option (List dG×List cx×List gg):=(f105_1 c f).bind λb=>(bO (τ:=(List gg)) (λ((d,e):(List gg×Int))=>bif decide (e<(b.1.length:Int)) then((ix b.1 e).bind λa=>bZ (d.length+1<=bc)<|some (.inl ((d++([(⟨a.qO,a.note.aW,a.note.bU,a.Jr,c.clock.iW⟩:gg)]:List gg)),wr (e+1))))else(some (.inr d))) cr (c.takes,0)).bind λ(g:(List gg))=>(f106 b.1).bind λh=>some (h,b.2,g)
def f18(a:cU):Option (zL×Int×Int×Int×Bool×List gx×Int×List cx×List gg):=(f47 a).bind λb=>bif decide (b.2≠0) then(some ((⟨0,([]:List dG),([]:List dG)⟩:zL),b.2,a.clock.iW,a.now,a.waiting,a.fI,a.times,a.eh.l,a.takes))else(bif a.waiting then((f48 (⟨a.clock,a.now,a.end_,false,a.fI,a.bP,a.dr,a.times,a.eh,a.takes⟩:cU)).bind λj=>some ((⟨a.now,j.1,([]:List dG)⟩:zL),0,a.clock.iW,a.now,false,a.fI,a.times,j.2,a.takes))else((f49 a (wr (b.1-a.now))).bind λc=>((((bif decide (0<a.times) then(some (decide (b.1=a.dr)))else(some false)):Option Bool).bind λ(o:Bool)=>bif o then((f50 (⟨(⟨c⟩:jc),a.now,a.end_,a.waiting,a.fI,a.bP,a.dr,a.times,a.eh,a.takes⟩:cU)).bind λd=>(f52 (⟨(⟨c⟩:jc),a.now,a.end_,a.waiting,a.fI,a.bP,a.dr,wr (a.times-1),(⟨d.2.1⟩:ff),d.2.2⟩:cU) a.bP).bind λm=>some (a.bP,m,wr (a.times-1),d.2.1,d.2.2,d.1))else((f50_1 (⟨(⟨c⟩:jc),b.1,a.end_,a.waiting,a.fI,a.bP,a.dr,a.times,a.eh,a.takes⟩:cU) b.1).bind λe=>some (b.1,a.fI,a.times,e.2.1,e.2.2,e.1))):Option (Int×List gx×Int×List cx×List gg×List dG)).bind λ((f,h,i,p,g,n):(Int×List gx×Int×List cx×List gg×List dG))=>(f48 (⟨(⟨c⟩:jc),f,a.end_,a.waiting,h,a.bP,a.dr,i,(⟨p⟩:ff),g⟩:cU)).bind λk=>some ((⟨f,k.1,n⟩:zL),0,c,f,a.waiting,h,i,k.2,g)))
def f19(b:List dG)(c:List dG):Option Bool:=bif decide ((b.length:Int)≠(c.length:Int)) then(some false)else((bO (τ:=(Unit⊕Bool)) (λ(a:Int)=>bif decide (a<(b.length:Int)) then((ix b a).bind λd=>(ix c a).bind λe=>bif (!(Lj d e))then(some (.inr (.inr false)))else(some (.inl (wr (a+1)))))else(some (.inr (.inl ())))) cr 0).bind (Sum.elim (λ(_:Unit)=>some true) some))
def f54(a:List gg):Option (List gg):=((bif a.isEmpty then(some ([]:List gg))else(bZ (a.length<=bc)<|some a)):Option (List gg)).bind λ(b:(List gg))=>some b
def f20(a:cU):Option (List gg):=(f54 a.takes).bind λb=>some b
def f6:Option Bool:=(f17).bind λh=>(f16 h).bind (Sum.elim (λe=>((bif decide (e≠0) then(some ())else(some ())):Option Unit).bind λ(_:Unit)=>some false) λc=>(f18 (⟨(⟨0⟩:jc),0,c.1,true,c.2,0,0,0,(⟨([]:List cx)⟩:ff),([]:List gg)⟩:cU)).bind λb=>(f18 (⟨(⟨b.2.2.1⟩:jc),b.2.2.2.1,c.1,b.2.2.2.2.1,b.2.2.2.2.2.1,0,0,b.2.2.2.2.2.2.1,(⟨b.2.2.2.2.2.2.2.1⟩:ff),b.2.2.2.2.2.2.2.2⟩:cU)).bind λa=>((bif decide (a.2.1=0) then(bif decide (a.1.time=96) then((f19 a.1.begin ([(⟨0,1,69⟩:dG)]:List dG)).bind λg=>bif g then((f19 a.1.end_ ([(⟨0,1,67⟩:dG)]:List dG)).bind λd=>bif d then((f20 (⟨(⟨a.2.2.1⟩:jc),a.2.2.2.1,c.1,a.2.2.2.2.1,a.2.2.2.2.2.1,0,0,a.2.2.2.2.2.2.1,(⟨a.2.2.2.2.2.2.2.1⟩:ff),a.2.2.2.2.2.2.2.2⟩:cU)).bind λi=>some (decide ((i.length:Int)=1)))else(some false))else(some false))else(some false))else(some false)):Option Bool).bind λ(f:Bool)=>some f)
def f56(a:List bH):Option Bool:=some (decide (400<(a.length:Int)))
def f107(b:List (List bH)):Option Int:=(bO (τ:=(Unit⊕Int)) (λ(a:Int)=>bif decide (a<(b.length:Int)) then((ix b a).bind λd=>(f56 d).bind λc=>bif c then(some (.inr (.inr a)))else(some (.inl (wr (a+1)))))else(some (.inr (.inl ())))) cr 0).bind (Sum.elim (λ(_:Unit)=>some (-1)) some)
def f55(a:List (List bH)):Option Bool:=(f107 a).bind λb=>some (decide (0<=b))
def f57(a:Int)(d:Int)(c:Int):Option Bool:=((bif decide (d<=a) then(some (decide (a<=c)))else(some false)):Option Bool).bind λ(b:Bool)=>some b
def f21(b:List (List bH)):Option Int:=((bif decide (6<(b.length:Int)) then(some true)else((f55 b).bind λh=>some h)):Option Bool).bind λ(j:Bool)=>bif j then(some 2)else((bO (τ:=(Unit⊕Int)) (λ(c:Int)=>bif decide (c<(b.length:Int)) then((ix b c).bind λe=>(bO (τ:=(Unit⊕(Int⊕(Unit⊕Int)))) (λ((f,d):(Int×Int))=>bif decide (d<(e.length:Int)) then((ix e d).bind λa=>(((f57 a.bU 0 127).bind λi=>bif (!i)then(some true)else(bif decide (a.bP<f) then(some true)else(bif decide (a.dr<=a.bP) then(some true)else(some (decide (262144<a.dr)))))):Option Bool).bind λ(g:Bool)=>bif g then(some (.inr (.inr (.inr (.inr 80)))))else(some (.inl (a.dr,wr (d+1)))))else(some (.inr (.inl ())))) cr (0,0)).bind (Sum.elim (λ(_:Unit)=>some (.inl (wr (c+1)))) some))else(some (.inr (.inl ())))) cr 0).bind (Sum.elim (λ(_:Unit)=>some 0) some))
def f22(d:List (List bH))(e:List Int):Option (((List (List bH)))×Bool):=(bO (τ:=((List (List bH))⊕(((List (List bH)))×Bool))) (λ((b,i,c):(List (List bH)×Int×Int))=>bif decide (c<(e.length:Int)) then((ix e c).bind λa=>((bif decide (a<=i) then(some true)else(some (decide ((d.length:Int)<=a)))):Option Bool).bind λ(h:Bool)=>bif h then(some (.inr (.inr (([]:List (List bH)),false))))else((ix d a).bind λf=>bZ (b.length+1<=bc)<|some (.inl ((b++([f]:List (List bH))),a,wr (c+1)))))else(some (.inr (.inl b)))) cr (([]:List (List bH)),-1,0)).bind (Sum.elim (λ(g:(List (List bH)))=>some (g,true)) some)
def f58(b:List (List bH))(d:bp):Option Int:=(f21 b).bind λa=>bif decide (a≠0) then(some a)else((f85 d).bind λc=>some c)
def f108(a:Int)(d:Int)(c:Int):Option Bool:=((bif decide (d<=a) then(some (decide (a<=c)))else(some false)):Option Bool).bind λ(b:Bool)=>some b
def f160(a:Int)(b:Int):Option Bool:=(((f152 a).bind λd=>bif d then((f152 b).bind λe=>bif (!e)then(some true)else(some (decide (a<b))))else(some (decide (a<b)))):Option Bool).bind λ(c:Bool)=>some c
def f109(b:List Int):Option Bool:=(bO (τ:=(Unit⊕Bool)) (λ(a:Int)=>bif decide (0<a) then((ix b a).bind λe=>(ix b (wr (a-1))).bind λc=>(f160 e c).bind λd=>bif d then(some (.inr (.inr false)))else(some (.inl (wr (a-1)))))else(some (.inr (.inl ())))) cr (wr ((b.length:Int)-1))).bind (Sum.elim (λ(_:Unit)=>some true) some)
def f59(a:eE):Option Int:=(((f108 (a.low.length:Int) 1 4).bind λn=>bif (!n)then(some true)else(bif decide ((a.high.length:Int)≠(a.low.length:Int)) then(some true)else(some (decide ((a.gb.length:Int)≠(a.low.length:Int)))))):Option Bool).bind λ(i:Bool)=>bif i then(some 60)else((bO (τ:=(Unit⊕Int)) (λ(b:Int)=>bif decide (b<(a.low.length:Int)) then((((ix a.low b).bind λe=>bif decide (e<0) then(some true)else((ix a.high b).bind λd=>bif decide (d<e) then(some true)else(some (decide (8<d))))):Option Bool).bind λ(h:Bool)=>bif h then(some (.inr (.inr 60)))else(some (.inl (wr (b+1)))))else(some (.inr (.inl ())))) cr 0).bind (Sum.elim (λ(_:Unit)=>(((f109 a.low).bind λo=>bif (!o)then(some true)else((f109 a.high).bind λj=>bif (!j)then(some true)else((f108 a.top 1 18).bind λf=>bif (!f)then(some true)else((f108 a.jump 0 18).bind λk=>some (!k))))):Option Bool).bind λ(g:Bool)=>bif g then(some 60)else((bO (τ:=(Unit⊕Int)) (λ(c:Int)=>bif decide (c<5) then((ix ([a.shift,a.lift,a.kJ,a.eu,a.gD]:List Int) c).bind λm=>(f108 m 0 1000).bind λl=>bif (!l)then(some (.inr (.inr 60)))else(some (.inl (wr (c+1)))))else(some (.inr (.inl ())))) cr 0).bind (Sum.elim (λ(_:Unit)=>some 0) some))) some))
def f31(a:Int)(d:Int)(c:Int):Option Bool:=((bif decide (d<=a) then(some (decide (a<=c)))else(some false)):Option Bool).bind λ(b:Bool)=>some b
def f161(a:Int):Option (List bH):=if 0<=a/\a<=4194304 then some []else none
def f110(a:List (List bH)):Option ((List bH)):=(bO (τ:=Int) (λ((c,d):(Int×Int))=>bif decide (d<(a.length:Int)) then((((ix a d).bind λg=>bif (decide ((wr (c+(g.length:Int)))<0))then(none)else(some (wr (c+(g.length:Int))))):Option Int).bind λ(k:Int)=>some (.inl (k,wr (d+1))))else(some (.inr c))) cr (0,0)).bind λ(h:Int)=>(f161 h).bind λi=>(bO (τ:=(List bH)) (λ((b,e):(List bH×Int))=>bif decide (e<(a.length:Int)) then((ix a e).bind λf=>((bif f.isEmpty then(some b)else(bZ (b.length+f.length<=bc)<|some (b++f))):Option (List bH)).bind λ(j:(List bH))=>some (.inl (j,wr (e+1))))else(some (.inr b))) cr (i,0)).bind λ(l:(List bH))=>some l
def f112(a:bH)(b:bH):Option Bool:=((bif decide (a.bP<=b.dr) then(some (decide (b.dr<a.dr)))else(some false)):Option Bool).bind λ(c:Bool)=>some c
def f162(b:List bH)(c:bH):Option Int:=(bO (τ:=(Unit⊕Int)) (λ(a:Int)=>bif decide (a<(b.length:Int)) then((ix b a).bind λd=>(f112 d c).bind λe=>bif e then(some (.inr (.inr a)))else(some (.inl (wr (a+1)))))else(some (.inr (.inl ())))) cr 0).bind (Sum.elim (λ(_:Unit)=>some (-1)) some)
def f111(b:List bH)(a:bH):Option Bool:=(f162 b a).bind λc=>some (decide (0<=c))
def f113(a:List Int):Option (List Int):=if a.length<=4194304 then some (kE a)else none
def f114(a:List Int):Option (List Int):=if 0<a.length/\a.length<=4194304 then some (Go.Lib.compact a)else none
def f60(h:List (List bH)):Option ((List Int)):=(f110 h).bind λd=>(bO (τ:=(List Int)) (λ((b,c):(List Int×Int))=>bif decide (c<(d.length:Int)) then((((ix d c).bind λa=>bZ (b.length+1<=bc)<|(f111 d a).bind λj=>bif (!j)then(bZ ((b++([a.bP]:List Int)).length+1<=bc)<|some ((b++([a.bP]:List Int))++([a.dr]:List Int)))else(some (b++([a.bP]:List Int)))):Option (List Int)).bind λ(i:(List Int))=>some (.inl (i,wr (c+1))))else(some (.inr b))) cr (([0]:List Int),0)).bind λ(e:(List Int))=>(f113 e).bind λf=>bZ (f.length=e.length)<|(f114 f).bind λg=>some g
def f165(a:cB)(d:cB):Option Int:=(f116 d).bind λb=>(f116 a).bind λc=>some (wr (b-c))
def f164(a:List cB):Option (List cB):=sA f165 a
def f115:Option ((List cB)):=(bO (τ:=(List cB)) (λ((b,a):(List cB×Int))=>bif decide (a<=7) then(bZ (b.length+3<=bc)<|some (.inl ((b++([(⟨a,false,false⟩:cB),(⟨a,true,false⟩:cB),(⟨a,false,true⟩:cB)]:List cB)),wr (a+1))))else(some (.inr b))) cr (([]:List cB),1)).bind λ(d:(List cB))=>(f164 d).bind λc=>bZ (c.length=d.length)<|some c
def f117r:Nat->Int->Int->(List cB)->(List Int)->(List cB)->Option (Bool×List cB)
 |0,_,_,_,_,_=>none
 |o+1,b,n,e,g,i=>bif decide (b=0) then(some (true,i))else((bO (τ:=((List cB)⊕(Bool×List cB))) (λ((d,f):(List cB×Int))=>bif decide (f<(e.length:Int)) then((((ix e f).bind λh=>(f116 h).bind λc=>((bif decide (n<c) then(some true)else(bif decide (b<c) then(some true)else((ix g (wr (b-c))).bind λk=>(ix g b).bind λm=>some (decide (k≠(wr (m-1))))))):Option Bool).bind λ(j:Bool)=>bif j then(some (.inl d))else(bZ (d.length+1<=bc)<|(f117r o (wr (b-c)) c e g (d++([h]:List cB))).bind λa=>bif a.1 then(some (.inr (.inr (.inr (true,a.2)))))else(bZ (0<=(wr ((a.2.length:Int)-1)))<|bZ ((wr ((a.2.length:Int)-1)).toNat<=a.2.length)<|bZ ((wr ((a.2.length:Int)-1)).toNat<=a.2.length)<|some (.inl (a.2.take (wr ((a.2.length:Int)-1)).toNat))))):Option ((List cB)⊕((List cB×Int)⊕((List cB)⊕(Bool×List cB))))).bind (Sum.elim (λ(p:(List cB))=>some (.inl (p,wr (f+1)))) some))else(some (.inr (.inl d)))) cr (i,0)).bind (Sum.elim (λ(l:(List cB))=>some (false,l)) some))
def f117(a:Int)(d:Int)(b:List cB)(e:List Int)(c:List cB):Option (Bool×List cB):=f117r cr a d b e c
def f61(b:Int):Option (((List cB))×Int):=((bif decide (b<0) then(some true)else(some (decide (4608<b)))):Option Bool).bind λ(q:Bool)=>bif q then(some (([]:List cB),1))else((f115).bind λf=>bZ (0<=(wr (b+1)))<|bZ ((wr (b+1))<=(bc:Int))<|(bO (τ:=(List Int)) (λ((d,a):(List Int×Int))=>bif decide (a<=b) then((ix d a).bind λs=>(bO (τ:=(List Int)) (λ((c,e):(List Int×Int))=>bif decide (e<(f.length:Int)) then((((ix f e).bind λm=>(f116 m).bind λg=>((bif (decide (0<=(wr (a-g))))then((ix c (wr (a-g))).bind λj=>bif decide (0<=j) then((ix c a).bind λh=>bif decide (h<0) then(some true)else(some (decide ((wr (j+1))<h))))else(some false))else(some false)):Option Bool).bind λ(l:Bool)=>bif l then((ix c (wr (a-g))).bind λo=>(ix c a).bind λt=>some (c.set a.toNat (wr (o+1))))else(some c)):Option (List Int)).bind λ(r:(List Int))=>some (.inl (r,wr (e+1))))else(some (.inr c))) cr ((d.set a.toNat (-1)),0)).bind λ(n:(List Int))=>some (.inl (n,wr (a+1))))else(some (.inr d))) cr ((List.replicate (wr (b+1)).toNat (0:Int)),1)).bind λ(i:(List Int))=>(ix i b).bind λp=>bif decide (p<0) then(some (([]:List cB),25))else((f117 b 768 f i ([]:List cB)).bind λk=>some (k.2,0)))
def f118(a:Int):Option (List cB):=if 0<=a/\a<=4194304 then some []else none
def f62(a:List (List cB)):Option ((List cB)):=(bO (τ:=Int) (λ((c,d):(Int×Int))=>bif decide (d<(a.length:Int)) then((((ix a d).bind λg=>bif (decide ((wr (c+(g.length:Int)))<0))then(none)else(some (wr (c+(g.length:Int))))):Option Int).bind λ(k:Int)=>some (.inl (k,wr (d+1))))else(some (.inr c))) cr (0,0)).bind λ(h:Int)=>(f118 h).bind λi=>(bO (τ:=(List cB)) (λ((b,e):(List cB×Int))=>bif decide (e<(a.length:Int)) then((ix a e).bind λf=>((bif f.isEmpty then(some b)else(bZ (b.length+f.length<=bc)<|some (b++f))):Option (List cB)).bind λ(j:(List cB))=>some (.inl (j,wr (e+1))))else(some (.inr b))) cr (i,0)).bind λ(l:(List cB))=>some l
def f63(a:List cE):Option ((List cE)):=((bif a.isEmpty then(some ([]:List cE))else(bZ (a.length<=bc)<|some a)):Option (List cE)).bind λ(b:(List cE))=>some b
def f64(a:List Int):Option ((List Int)):=((bif a.isEmpty then(some ([]:List Int))else(bZ (a.length<=bc)<|some a)):Option (List Int)).bind λ(b:(List Int))=>some b
def f66(a:List bH):Option (List aQ):=bZ (0<=(a.length:Int))<|bZ ((a.length:Int)<=(bc:Int))<|some (List.replicate (a.length:Int).toNat (⟨0,0⟩:aQ))
def f65(a:List (List bH)):Option (List (List aQ)):=bZ ((0:Int)<=(a.length:Int))<|bZ ((a.length:Int)<=(bc:Int))<|(bO (τ:=(List (List aQ))) (λ((b,c):(List (List aQ)×Int))=>bif decide (c<(a.length:Int)) then((ix a c).bind λd=>(f66 d).bind λf=>bZ (b.length<cO)<|some (.inl ((b++[f]),wr (c+1))))else(some (.inr b))) cr (([]:List (List aQ)),0)).bind λ(e:(List (List aQ)))=>some e
def f167(a:aX)(b:bH):Option Bool:=some (decide (a.bU=b.bU))
def f166(b:List aX)(c:bH):Option Int:=(bO (τ:=(Unit⊕Int)) (λ(a:Int)=>bif decide (a<(b.length:Int)) then((ix b a).bind λe=>bZ (a.toNat<cO)<|(f167 e c).bind λd=>bif d then(some (.inr (.inr a)))else(some (.inl (wr (a+1)))))else(some (.inr (.inl ())))) cr 0).bind (Sum.elim (λ(_:Unit)=>some (-1)) some)
def f119(h:List (List bH))(k:Int):Option (List aX):=(bO (τ:=(List aX)) (λ((i,e):(List aX×Int))=>bif decide (e<(h.length:Int)) then((ix h e).bind λj=>(bO (τ:=(List aX)) (λ((b,d):(List aX×Int))=>bif decide (d<(j.length:Int)) then((((ix j d).bind λc=>bif decide (c.bP≠k) then(some b)else((f166 b c).bind λl=>((bif decide (l<0) then(bZ (b.length<cO)<|some ((b++[(⟨([]:List bX),c.bU,k,0,(⟨0,0⟩:aQ),0⟩:aX)]),(b.length:Int)))else(some (b,l))):Option (List aX×Int)).bind λ((g,f):(List aX×Int))=>(ix g f).bind λa=>bZ (f.toNat<cO)<|bZ (a.bI.length+1<=bc)<|some (g.set f.toNat (⟨(a.bI++([(⟨e,d⟩:bX)]:List bX)),a.bU,a.bP,(jZ a.dr c.dr),a.bL,a.cS⟩:aX)))):Option (List aX)).bind λ(o:(List aX))=>some (.inl (o,wr (d+1))))else(some (.inr b))) cr (i,0)).bind λ(n:(List aX))=>some (.inl (n,wr (e+1))))else(some (.inr i))) cr (([]:List aX),0)).bind λ(m:(List aX))=>some m
def f169(d:List bX)(g:Int)(f:Int)(k:Int)(m:Int)(q:Int)(i:Int)(a:List bX)(l:Int)(o:Int)(h:Int)(p:Int)(j:Int)(n:Int):Option Int:=(ix d 0).bind λb=>(ix a 0).bind λc=>(f97 b.part c.part).bind λe=>some e
def f263(i:List aX)(h:Int)(l:Int):Option (List aX):=(bO (τ:=(List aX)) (λ((f,e):(List aX×Int))=>bif decide (e<l) then((bO (τ:=(List aX)) (λ((d,a):(List aX×Int))=>((bif decide (h<a) then((ix d a).bind λb=>(ix d (wr (a-1))).bind λc=>(f169 b.bI b.bU b.bP b.dr b.bL.aW b.bL.ct b.cS c.bI c.bU c.bP c.dr c.bL.aW c.bL.ct c.cS).bind λo=>some (decide (o<0)))else(some false)):Option Bool).bind λ(n:Bool)=>bif n then((ix d (wr (a-1))).bind λg=>(ix d a).bind λk=>(ix (d.set a.toNat g) (wr (a-1))).bind λp=>some (.inl (((d.set a.toNat g).set (wr (a-1)).toNat k),wr (a-1))))else(some (.inr d))) cr (f,e)).bind λ(m:(List aX))=>some (.inl (m,wr (e+1))))else(some (.inr f))) cr (i,wr (h+1))).bind λ(j:(List aX))=>some j
def f335(g:List aX)(c:Int)(d:Int)(i:Int):Option (List aX):=(bO (τ:=(List aX)) (λ((b,a):(List aX×Int))=>bif decide (a<i) then((ix b (wr (d+a))).bind λe=>(ix b (wr (c+a))).bind λf=>(ix (b.set (wr (c+a)).toNat e) (wr (d+a))).bind λj=>some (.inl (((b.set (wr (c+a)).toNat e).set (wr (d+a)).toNat f),wr (a+1))))else(some (.inr b))) cr (g,0)).bind λ(h:(List aX))=>some h
def f307(h:List aX)(i:Int)(b:Int)(l:Int):Option (List aX):=(bO (τ:=(List aX×Int)) (λ((d,a,c):(List aX×Int×Int))=>bif decide (a≠c) then(bif decide (c<a) then((f335 d (wr (b-a)) b c).bind λg=>bZ (g.length=d.length)<|some (.inl (g,wr (a-c),c)))else((f335 d (wr (b-a)) (wr ((wr (b+c))-a)) a).bind λf=>bZ (f.length=d.length)<|some (.inl (f,a,wr (c-a)))))else(some (.inr (d,a)))) cr (h,wr (b-i),wr (l-b))).bind λ((k,e):(List aX×Int))=>(f335 k (wr (b-e)) b e).bind λj=>some j
def f264r:Nat->(List aX)->Int->Int->Int->Option (List aX)
 |0,_,_,_,_=>none
 |B+1,d,a,c,b=>bif (decide ((wr (c-a))=1))then((bO (τ:=Int) (λ((o,t):(Int×Int))=>bif decide (o<t) then((ix d (wr ((dV (IntKind.wrap .u64 ((wr (o+t)))) 1)))).bind λj=>(ix d a).bind λl=>(f169 j.bI j.bU j.bP j.dr j.bL.aW j.bL.ct j.cS l.bI l.bU l.bP l.dr l.bL.aW l.bL.ct l.cS).bind λD=>bif decide (D<0) then(some (.inl ((wr ((wr ((dV (IntKind.wrap .u64 ((wr (o+t)))) 1)))+1)),t)))else(some (.inl (o,(wr ((dV (IntKind.wrap .u64 ((wr (o+t)))) 1)))))))else(some (.inr o))) cr (c,b)).bind λ(L:Int)=>(bO (τ:=(List aX)) (λ((r,f):(List aX×Int))=>bif (decide (f<(wr (L-1))))then((ix r (wr (f+1))).bind λx=>(ix r f).bind λF=>(ix (r.set f.toNat x) (wr (f+1))).bind λR=>some (.inl (((r.set f.toNat x).set (wr (f+1)).toNat F),wr (f+1))))else(some (.inr r))) cr (d,a)).bind λ(H:(List aX))=>some H)else(bif (decide ((wr (b-c))=1))then((bO (τ:=Int) (λ((p,u):(Int×Int))=>bif decide (p<u) then((ix d c).bind λm=>(ix d (wr ((dV (IntKind.wrap .u64 ((wr (p+u)))) 1)))).bind λk=>(f169 m.bI m.bU m.bP m.dr m.bL.aW m.bL.ct m.cS k.bI k.bU k.bP k.dr k.bL.aW k.bL.ct k.cS).bind λJ=>bif (!(decide (J<0)))then(some (.inl ((wr ((wr ((dV (IntKind.wrap .u64 ((wr (p+u)))) 1)))+1)),u)))else(some (.inl (p,(wr ((dV (IntKind.wrap .u64 ((wr (p+u)))) 1)))))))else(some (.inr p))) cr (a,c)).bind λ(I:Int)=>(bO (τ:=(List aX)) (λ((s,g):(List aX×Int))=>bif decide (I<g) then((ix s (wr (g-1))).bind λA=>(ix s g).bind λN=>(ix (s.set g.toNat A) (wr (g-1))).bind λS=>some (.inl (((s.set g.toNat A).set (wr (g-1)).toNat N),wr (g-1))))else(some (.inr s))) cr (d,c)).bind λ(P:(List aX))=>some P)else(((bif (decide ((wr ((dV (IntKind.wrap .u64 ((wr (a+b)))) 1)))<c))then(some ((wr ((wr ((wr ((dV (IntKind.wrap .u64 ((wr (a+b)))) 1)))+c))-b)),(wr ((dV (IntKind.wrap .u64 ((wr (a+b)))) 1)))))else(some (a,c))):Option (Int×Int)).bind λ((Q,G):(Int×Int))=>(bO (τ:=Int) (λ((n,q):(Int×Int))=>bif decide (n<q) then((ix d (wr ((wr ((wr ((wr ((dV (IntKind.wrap .u64 ((wr (a+b)))) 1)))+c))-1))-(wr ((dV (IntKind.wrap .u64 ((wr (n+q)))) 1)))))).bind λi=>(ix d (wr ((dV (IntKind.wrap .u64 ((wr (n+q)))) 1)))).bind λh=>(f169 i.bI i.bU i.bP i.dr i.bL.aW i.bL.ct i.cS h.bI h.bU h.bP h.dr h.bL.aW h.bL.ct h.cS).bind λM=>bif (!(decide (M<0)))then(some (.inl ((wr ((wr ((dV (IntKind.wrap .u64 ((wr (n+q)))) 1)))+1)),q)))else(some (.inl (n,(wr ((dV (IntKind.wrap .u64 ((wr (n+q)))) 1)))))))else(some (.inr n))) cr (Q,G)).bind λ(e:Int)=>((((bif decide (e<c) then(some (decide (c<(wr ((wr ((wr ((dV (IntKind.wrap .u64 ((wr (a+b)))) 1)))+c))-e)))))else(some false)):Option Bool).bind λ(K:Bool)=>bif K then((f307 d e c (wr ((wr ((wr ((dV (IntKind.wrap .u64 ((wr (a+b)))) 1)))+c))-e))).bind λz=>bZ (z.length=d.length)<|some z)else(some d)):Option (List aX)).bind λ(v:(List aX))=>((((bif decide (a<e) then(some (decide (e<(wr ((dV (IntKind.wrap .u64 ((wr (a+b)))) 1))))))else(some false)):Option Bool).bind λ(O:Bool)=>bif O then((f264r B v a e (wr ((dV (IntKind.wrap .u64 ((wr (a+b)))) 1)))).bind λw=>bZ (w.length=v.length)<|some w)else(some v)):Option (List aX)).bind λ(y:(List aX))=>((bif (decide ((wr ((dV (IntKind.wrap .u64 ((wr (a+b)))) 1)))<(wr ((wr ((wr ((dV (IntKind.wrap .u64 ((wr (a+b)))) 1)))+c))-e))))then(some (decide ((wr ((wr ((wr ((dV (IntKind.wrap .u64 ((wr (a+b)))) 1)))+c))-e))<b)))else(some false)):Option Bool).bind λ(E:Bool)=>bif E then((f264r B y (wr ((dV (IntKind.wrap .u64 ((wr (a+b)))) 1))) (wr ((wr ((wr ((dV (IntKind.wrap .u64 ((wr (a+b)))) 1)))+c))-e)) b).bind λC=>some C)else(some y)))
def f264(b:List aX)(a:Int)(c:Int)(d:Int):Option (List aX):=f264r cr b a c d
def f215(s:List aX)(b:Int):Option (List aX):=(bO (τ:=(List aX×Int)) (λ((i,o,d):(List aX×Int×Int))=>bif decide (d<=b) then((f263 i o d).bind λm=>bZ (m.length=i.length)<|some (.inl (m,d,wr (d+20))))else(some (.inr (i,o)))) cr (s,0,20)).bind λ((n,t):(List aX×Int))=>(f263 n t b).bind λk=>bZ (k.length=n.length)<|(bO (τ:=(List aX)) (λ((j,a):(List aX×Int))=>bif decide (a<b) then((bO (τ:=(List aX×Int)) (λ((f,h,c):(List aX×Int×Int))=>bif decide (c<=b) then((f264 f h (wr (h+a)) c).bind λl=>bZ (l.length=f.length)<|some (.inl (l,c,(wr (c+(wr (2*a)))))))else(some (.inr (f,h)))) cr (j,0,wr (2*a))).bind λ((e,g):(List aX×Int))=>((bif (decide ((wr (g+a))<b))then((f264 e g (wr (g+a)) b).bind λp=>bZ (p.length=e.length)<|some p)else(some e)):Option (List aX)).bind λ(q:(List aX))=>some (.inl (q,wr (a*2))))else(some (.inr j))) cr (k,20)).bind λ(r:(List aX))=>some r
def f168(a:List aX):Option (List aX):=(f215 a (a.length:Int)).bind λb=>some b
def f120(d:cM)(h:Int):Option (List aX):=(bO (τ:=(List aX)) (λ((a,b):(List aX×Int))=>bif decide (b<(d.cZ.length:Int)) then((((ix d.cZ b).bind λe=>bif decide (h<e.dr) then(bZ (a.length+1<=bc)<|some (a++([e]:List aX)))else(some a)):Option (List aX)).bind λ(g:(List aX))=>some (.inl (g,wr (b+1))))else(some (.inr a))) cr (([]:List aX),0)).bind λ(c:(List aX))=>(f168 c).bind λf=>bZ (f.length=c.length)<|some f
def f170(a:cM)(c:List aX)(b:List aX):Option Unit:=some ()
def f217(a:Int):Option Unit:=some ()
def f94(b:List Bool)(d:Bool):Option Int:=(bO (τ:=(Unit⊕Int)) (λ(a:Int)=>bif decide (a<(b.length:Int)) then((ix b a).bind λc=>bif (d==c)then(some (.inr (.inr a)))else(some (.inl (wr (a+1)))))else(some (.inr (.inl ())))) cr 0).bind (Sum.elim (λ(_:Unit)=>some (-1)) some)
def f35(a:List Bool)(c:Bool):Option Bool:=(f94 a c).bind λb=>some (decide (0<=b))
def f268(a:List aQ):Option (List aQ):=((bif a.isEmpty then(some ([]:List aQ))else(bZ (a.length<=bc)<|some a)):Option (List aQ)).bind λ(b:(List aQ))=>some b
def f269(a:bp)(e:Int):Option (((List aQ))×Int):=(f85 a).bind λg=>bif decide (g≠0) then(some (([]:List aQ),g))else(((bif decide (e<0) then(some true)else(some (decide (127<e)))):Option Bool).bind λ(i:Bool)=>bif i then(some (([]:List aQ),10))else((bO (τ:=(List aQ)) (λ((h,c):(List aQ×Int))=>bif decide (c<(a.bQ.length:Int)) then((ix a.bQ c).bind λf=>(bO (τ:=(List aQ)) (λ((d,b):(List aQ×Int))=>bif decide (b<=f.dJ) then((((f201 a f b).bind λk=>bif decide (k=e) then(bZ (d.length+1<=bc)<|some (d++([(⟨(wr (c+1)),b⟩:aQ)]:List aQ)))else(some d)):Option (List aQ)).bind λ(j:(List aQ))=>some (.inl (j,wr (b+1))))else(some (.inr d))) cr (h,0)).bind λ(m:(List aQ))=>some (.inl (m,wr (c+1))))else(some (.inr h))) cr (([]:List aQ),0)).bind λ(l:(List aQ))=>some (l,0)))
def f276(a:aQ)(b:Int):Option Bool:=some (decide (a.aW=b))
def f309(b:List aQ)(c:Int):Option Int:=(bO (τ:=(Unit⊕Int)) (λ(a:Int)=>bif decide (a<(b.length:Int)) then((ix b a).bind λd=>(f276 d c).bind λe=>bif e then(some (.inr (.inr a)))else(some (.inl (wr (a+1)))))else(some (.inr (.inl ())))) cr 0).bind (Sum.elim (λ(_:Unit)=>some (-1)) some)
def f275(b:List aQ)(a:Int):Option Bool:=(f309 b a).bind λc=>some (decide (0<=c))
def f221(a:List aQ)(c:Int):Option Bool:=(f275 a c).bind λb=>some b
def f267r:Nat->Int->(List aX)->(List (List aQ))->(List aQ)->(List Bool)->bp->Int->Option (List (List aQ)×List aQ)
 |0,_,_,_,_,_,_,_=>none
 |o+1,a,e,d,c,i,h,f=>bif decide (a=(e.length:Int)) then((f268 c).bind λs=>bZ (d.length+1<=bc)<|some ((d++([s]:List (List aQ))),c))else((ix c a).bind λx=>(ix i a).bind λp=>bif p then((f267r o (wr (a+1)) e d (c.set a.toNat (⟨0,0⟩:aQ)) i h f).bind λm=>some (m.1,m.2))else((ix e a).bind λu=>bZ (a.toNat<cO)<|(f269 h (wr (u.bU+f))).bind λg=>bif decide (g.2≠0) then(some (d,(c.set a.toNat (⟨0,0⟩:aQ))))else((bO (τ:=(List (List aQ)×List aQ)) (λ((b,k,j):(List aQ×List (List aQ)×Int))=>bif decide (j<(g.1.length:Int)) then((((ix g.1 j).bind λn=>bZ (0<=a)<|bZ (a.toNat<=b.length)<|bZ (0+a.toNat<=b.length)<|(f221 (b.take a.toNat) n.aW).bind λt=>bif (!t)then((ix b a).bind λy=>(f267r o (wr (a+1)) e k (b.set a.toNat n) i h f).bind λl=>some (l.2,l.1))else(some (b,k))):Option (List aQ×List (List aQ))).bind λ((v,r):(List aQ×List (List aQ)))=>some (.inl (v,r,wr (j+1))))else(some (.inr (k,b)))) cr ((c.set a.toNat (⟨0,0⟩:aQ)),d,0)).bind λ((w,q):(List (List aQ)×List aQ))=>some (w,q))))
def f267(c:Int)(f:List aX)(d:List (List aQ))(g:List aQ)(e:List Bool)(a:bp)(b:Int):Option (List (List aQ)×List aQ):=f267r cr c f d g e a b
def f272(b:List aQ):Option Int:=(bO (τ:=Int) (λ((c,a):(Int×Int))=>bif decide (a<(b.length:Int)) then((ix b a).bind λd=>some (.inl ((wr (c+d.ct)),wr (a+1))))else(some (.inr c))) cr (0,0)).bind λ(e:Int)=>some e
def f274(a:aQ)(c:aQ):Option Int:=(f97 a.aW c.aW).bind λb=>some b
def f273(b:List aQ)(c:List aQ):Option Int:=(bO (τ:=(Unit⊕Int)) (λ(a:Int)=>bif decide (a<(b.length:Int)) then((ix b a).bind λf=>bif decide ((c.length:Int)<=a) then(some (.inr (.inr 1)))else((ix c a).bind λe=>(f274 f e).bind λd=>bif decide (d≠0) then(some (.inr (.inr d)))else(some (.inl (wr (a+1))))))else(some (.inr (.inl ())))) cr 0).bind (Sum.elim (λ(_:Unit)=>bif decide ((b.length:Int)<(c.length:Int)) then(some (-1))else(some 0)) some)
def f271(a:List aQ)(b:List aQ):Option Int:=(f272 a).bind λf=>(f272 b).bind λd=>(f97 f d).bind λg=>(f273 a b).bind λc=>(f96 ([g,c]:List Int)).bind λe=>some e
def f336(i:List (List aQ))(f:Int)(l:Int):Option (List (List aQ)):=(bO (τ:=(List (List aQ))) (λ((d,c):(List (List aQ)×Int))=>bif decide (c<l) then((bO (τ:=(List (List aQ))) (λ((b,a):(List (List aQ)×Int))=>((bif decide (f<a) then((ix b a).bind λg=>(ix b (wr (a-1))).bind λh=>(f271 g h).bind λo=>some (decide (o<0)))else(some false)):Option Bool).bind λ(n:Bool)=>bif n then((ix b (wr (a-1))).bind λe=>(ix b a).bind λk=>(ix (b.set a.toNat e) (wr (a-1))).bind λp=>some (.inl (((b.set a.toNat e).set (wr (a-1)).toNat k),wr (a-1))))else(some (.inr b))) cr (d,c)).bind λ(m:(List (List aQ)))=>some (.inl (m,wr (c+1))))else(some (.inr d))) cr (i,wr (f+1))).bind λ(j:(List (List aQ)))=>some j
def f351(g:List (List aQ))(c:Int)(d:Int)(i:Int):Option (List (List aQ)):=(bO (τ:=(List (List aQ))) (λ((b,a):(List (List aQ)×Int))=>bif decide (a<i) then((ix b (wr (d+a))).bind λe=>(ix b (wr (c+a))).bind λf=>(ix (b.set (wr (c+a)).toNat e) (wr (d+a))).bind λj=>some (.inl (((b.set (wr (c+a)).toNat e).set (wr (d+a)).toNat f),wr (a+1))))else(some (.inr b))) cr (g,0)).bind λ(h:(List (List aQ)))=>some h
def f348(h:List (List aQ))(i:Int)(b:Int)(l:Int):Option (List (List aQ)):=(bO (τ:=(List (List aQ)×Int)) (λ((d,a,c):(List (List aQ)×Int×Int))=>bif decide (a≠c) then(bif decide (c<a) then((f351 d (wr (b-a)) b c).bind λg=>bZ (g.length=d.length)<|some (.inl (g,wr (a-c),c)))else((f351 d (wr (b-a)) (wr ((wr (b+c))-a)) a).bind λf=>bZ (f.length=d.length)<|some (.inl (f,a,wr (c-a)))))else(some (.inr (d,a)))) cr (h,wr (b-i),wr (l-b))).bind λ((k,e):(List (List aQ)×Int))=>(f351 k (wr (b-e)) b e).bind λj=>some j
def f337r:Nat->(List (List aQ))->Int->Int->Int->Option (List (List aQ))
 |0,_,_,_,_=>none
 |v+1,d,a,c,b=>bif (decide ((wr (c-a))=1))then((bO (τ:=Int) (λ((i,n):(Int×Int))=>bif decide (i<n) then((ix d (wr ((dV (IntKind.wrap .u64 ((wr (i+n)))) 1)))).bind λB=>(ix d a).bind λD=>(f271 B D).bind λy=>bif decide (y<0) then(some (.inl ((wr ((wr ((dV (IntKind.wrap .u64 ((wr (i+n)))) 1)))+1)),n)))else(some (.inl (i,(wr ((dV (IntKind.wrap .u64 ((wr (i+n)))) 1)))))))else(some (.inr i))) cr (c,b)).bind λ(K:Int)=>(bO (τ:=(List (List aQ))) (λ((l,f):(List (List aQ)×Int))=>bif (decide (f<(wr (K-1))))then((ix l (wr (f+1))).bind λr=>(ix l f).bind λE=>(ix (l.set f.toNat r) (wr (f+1))).bind λR=>some (.inl (((l.set f.toNat r).set (wr (f+1)).toNat E),wr (f+1))))else(some (.inr l))) cr (d,a)).bind λ(G:(List (List aQ)))=>some G)else(bif (decide ((wr (b-c))=1))then((bO (τ:=Int) (λ((j,o):(Int×Int))=>bif decide (j<o) then((ix d c).bind λM=>(ix d (wr ((dV (IntKind.wrap .u64 ((wr (j+o)))) 1)))).bind λC=>(f271 M C).bind λI=>bif (!(decide (I<0)))then(some (.inl ((wr ((wr ((dV (IntKind.wrap .u64 ((wr (j+o)))) 1)))+1)),o)))else(some (.inl (j,(wr ((dV (IntKind.wrap .u64 ((wr (j+o)))) 1)))))))else(some (.inr j))) cr (a,c)).bind λ(H:Int)=>(bO (τ:=(List (List aQ))) (λ((m,g):(List (List aQ)×Int))=>bif decide (H<g) then((ix m (wr (g-1))).bind λu=>(ix m g).bind λN=>(ix (m.set g.toNat u) (wr (g-1))).bind λS=>some (.inl (((m.set g.toNat u).set (wr (g-1)).toNat N),wr (g-1))))else(some (.inr m))) cr (d,c)).bind λ(P:(List (List aQ)))=>some P)else(((bif (decide ((wr ((dV (IntKind.wrap .u64 ((wr (a+b)))) 1)))<c))then(some ((wr ((wr ((wr ((dV (IntKind.wrap .u64 ((wr (a+b)))) 1)))+c))-b)),(wr ((dV (IntKind.wrap .u64 ((wr (a+b)))) 1)))))else(some (a,c))):Option (Int×Int)).bind λ((Q,F):(Int×Int))=>(bO (τ:=Int) (λ((h,k):(Int×Int))=>bif decide (h<k) then((ix d (wr ((wr ((wr ((wr ((dV (IntKind.wrap .u64 ((wr (a+b)))) 1)))+c))-1))-(wr ((dV (IntKind.wrap .u64 ((wr (h+k)))) 1)))))).bind λA=>(ix d (wr ((dV (IntKind.wrap .u64 ((wr (h+k)))) 1)))).bind λx=>(f271 A x).bind λL=>bif (!(decide (L<0)))then(some (.inl ((wr ((wr ((dV (IntKind.wrap .u64 ((wr (h+k)))) 1)))+1)),k)))else(some (.inl (h,(wr ((dV (IntKind.wrap .u64 ((wr (h+k)))) 1)))))))else(some (.inr h))) cr (Q,F)).bind λ(e:Int)=>((((bif decide (e<c) then(some (decide (c<(wr ((wr ((wr ((dV (IntKind.wrap .u64 ((wr (a+b)))) 1)))+c))-e)))))else(some false)):Option Bool).bind λ(J:Bool)=>bif J then((f348 d e c (wr ((wr ((wr ((dV (IntKind.wrap .u64 ((wr (a+b)))) 1)))+c))-e))).bind λt=>bZ (t.length=d.length)<|some t)else(some d)):Option (List (List aQ))).bind λ(p:(List (List aQ)))=>((((bif decide (a<e) then(some (decide (e<(wr ((dV (IntKind.wrap .u64 ((wr (a+b)))) 1))))))else(some false)):Option Bool).bind λ(O:Bool)=>bif O then((f337r v p a e (wr ((dV (IntKind.wrap .u64 ((wr (a+b)))) 1)))).bind λq=>bZ (q.length=p.length)<|some q)else(some p)):Option (List (List aQ))).bind λ(s:(List (List aQ)))=>((bif (decide ((wr ((dV (IntKind.wrap .u64 ((wr (a+b)))) 1)))<(wr ((wr ((wr ((dV (IntKind.wrap .u64 ((wr (a+b)))) 1)))+c))-e))))then(some (decide ((wr ((wr ((wr ((dV (IntKind.wrap .u64 ((wr (a+b)))) 1)))+c))-e))<b)))else(some false)):Option Bool).bind λ(z:Bool)=>bif z then((f337r v s (wr ((dV (IntKind.wrap .u64 ((wr (a+b)))) 1))) (wr ((wr ((wr ((dV (IntKind.wrap .u64 ((wr (a+b)))) 1)))+c))-e)) b).bind λw=>some w)else(some s)))
def f337(b:List (List aQ))(a:Int)(c:Int)(d:Int):Option (List (List aQ)):=f337r cr b a c d
def f308(s:List (List aQ))(b:Int):Option (List (List aQ)):=(bO (τ:=(List (List aQ)×Int)) (λ((i,o,d):(List (List aQ)×Int×Int))=>bif decide (d<=b) then((f336 i o d).bind λm=>bZ (m.length=i.length)<|some (.inl (m,d,wr (d+20))))else(some (.inr (i,o)))) cr (s,0,20)).bind λ((n,t):(List (List aQ)×Int))=>(f336 n t b).bind λk=>bZ (k.length=n.length)<|(bO (τ:=(List (List aQ))) (λ((j,a):(List (List aQ)×Int))=>bif decide (a<b) then((bO (τ:=(List (List aQ)×Int)) (λ((f,h,c):(List (List aQ)×Int×Int))=>bif decide (c<=b) then((f337 f h (wr (h+a)) c).bind λl=>bZ (l.length=f.length)<|some (.inl (l,c,(wr (c+(wr (2*a)))))))else(some (.inr (f,h)))) cr (j,0,wr (2*a))).bind λ((e,g):(List (List aQ)×Int))=>((bif (decide ((wr (g+a))<b))then((f337 e g (wr (g+a)) b).bind λp=>bZ (p.length=e.length)<|some p)else(some e)):Option (List (List aQ))).bind λ(q:(List (List aQ)))=>some (.inl (q,wr (a*2))))else(some (.inr j))) cr (k,20)).bind λ(r:(List (List aQ)))=>some r
def f270(a:List (List aQ)):Option (List (List aQ)):=(f308 a (a.length:Int)).bind λb=>some b
def f218(d:bp)(a:List aX)(e:List Bool)(f:Int):Option (List (List aQ)):=bZ (0<=(a.length:Int))<|bZ ((a.length:Int)<=(bc:Int))<|(f267 0 a ([]:List (List aQ)) (List.replicate (a.length:Int).toNat (⟨0,0⟩:aQ)) e d f).bind λc=>(f270 c.1).bind λb=>bZ (b.length=c.1.length)<|some b
def f219(a:List Bool):Option (List Bool):=((bif a.isEmpty then(some ([]:List Bool))else(bZ (a.length<=bc)<|some a)):Option (List Bool)).bind λ(b:(List Bool))=>some b
def f220(i:cM)(c:bR)(d:List aX):Option Bool:=(bO (τ:=(Unit⊕Bool)) (λ(a:Int)=>bif decide (a<(d.length:Int)) then((ix d a).bind λb=>(f221 c.places b.bL.aW).bind λe=>(((ix c.cut a).bind λf=>bif f then(bif decide (b.bL.ct=0) then(some (!e))else(some false))else(some false)):Option Bool).bind λ(k:Bool)=>bif k then(some (.inr (.inr false)))else((((ix c.cut a).bind λj=>bif (!j)then(some e)else(some false)):Option Bool).bind λ(g:Bool)=>bif g then(some (.inr (.inr false)))else((((ix c.cut a).bind λh=>bif (!h)then(bif decide (0<b.bL.ct) then(some (decide (15<(wr ((i.bE.aY.length:Int)-b.cS)))))else(some false))else(some false)):Option Bool).bind λ(l:Bool)=>bif l then(some (.inr (.inr false)))else(some (.inl (wr (a+1)))))))else(some (.inr (.inl ())))) cr 0).bind (Sum.elim (λ(_:Unit)=>some true) some)
def f223(a:aQ)(c:aQ):Option Int:=(f97 a.aW c.aW).bind λb=>some b
def f222(a:List aQ):Option (List aQ):=sA f223 a
def f171(p:cM)(f:bR)(s:List aX):Option bK:=(bO (τ:=(List aQ×List Int)) (λ((c,g,h):(List aQ×List Int×Int))=>bif decide (h<(s.length:Int)) then((((ix s h).bind λi=>(((ix f.cut h).bind λx=>bif (!x)then(some (decide (0<i.bL.ct)))else(some false)):Option Bool).bind λ(D:Bool)=>bif D then(bZ (c.length+1<=bc)<|bZ (g.length+1<=bc)<|some ((c++([i.bL]:List aQ)),(g++([i.bL.aW]:List Int))))else(some (c,g))):Option (List aQ×List Int)).bind λ((A,y):(List aQ×List Int))=>some (.inl (A,y,wr (h+1))))else(some (.inr (c,g)))) cr (([]:List aQ),([]:List Int),0)).bind λ((u,n):(List aQ×List Int))=>(bO (τ:=(List aQ×List Int)) (λ((b,a,k):(List aQ×List Int×Int))=>bif decide (k<(f.places.length:Int)) then((((ix f.places k).bind λe=>bif decide (0<e.ct) then(bZ (b.length+1<=bc)<|some ((b++([e]:List aQ)),a))else(bif decide (0<e.aW) then(bZ (a.length+1<=bc)<|some (b,(a++([e.aW]:List Int))))else(some (b,a)))):Option (List aQ×List Int)).bind λ((z,w):(List aQ×List Int))=>some (.inl (z,w,wr (k+1))))else(some (.inr (b,a)))) cr (u,([]:List Int),0)).bind λ((q,v):(List aQ×List Int))=>(bO (τ:=(List Int)) (λ((d,j):(List Int×Int))=>bif decide (j<(p.dz.cY.length:Int)) then((((ix p.dz.cY j).bind λo=>(f221 f.places o).bind λC=>bif (!C)then(bZ (d.length+1<=bc)<|some (d++([o]:List Int)))else(some d)):Option (List Int)).bind λ(B:(List Int))=>some (.inl (B,wr (j+1))))else(some (.inr d))) cr (v,0)).bind λ(l:(List Int))=>(f222 q).bind λr=>bZ (r.length=q.length)<|(f113 n).bind λm=>bZ (m.length=n.length)<|(f113 l).bind λt=>bZ (t.length=l.length)<|some (⟨r,m,t⟩:bK)
def f318(b:List Int):Option Bool:=(bO (τ:=(Unit⊕Bool)) (λ(a:Int)=>bif decide (a<(b.length:Int)) then((ix b a).bind λd=>(ix b (wr (a-1))).bind λc=>bif decide (d<=c) then(some (.inr (.inr false)))else(some (.inl (wr (a+1)))))else(some (.inr (.inl ())))) cr 1).bind (Sum.elim (λ(_:Unit)=>some true) some)
def f341(a:aQ)(b:Int):Option Bool:=some (decide (a.aW=b))
def f309_1(b:List aQ)(c:Int):Option Int:=(bO (τ:=(Unit⊕Int)) (λ(a:Int)=>bif decide (a<(b.length:Int)) then((ix b a).bind λd=>(f341 d c).bind λe=>bif e then(some (.inr (.inr a)))else(some (.inl (wr (a+1)))))else(some (.inr (.inl ())))) cr 0).bind (Sum.elim (λ(_:Unit)=>some (-1)) some)
def f319(a:bK)(c:Int):Option Int:=(f309_1 a.cA c).bind λb=>some b
def f278(a:bK):Option Bool:=(bO (τ:=(Unit⊕Bool)) (λ((g,e):(Int×Int))=>bif decide (e<(a.cA.length:Int)) then((ix a.cA e).bind λb=>((bif decide (b.aW<=g) then(some true)else(bif decide (14<b.aW) then(some true)else((f108 b.ct 1 18).bind λp=>some (!p)))):Option Bool).bind λ(i:Bool)=>bif i then(some (.inr (.inr false)))else(some (.inl (b.aW,wr (e+1)))))else(some (.inr (.inl ())))) cr (0,0)).bind (Sum.elim (λ(_:Unit)=>(((f318 a.held).bind λq=>bif (!q)then(some true)else((f318 a.cY).bind λh=>some (!h))):Option Bool).bind λ(j:Bool)=>bif j then(some false)else((bO (τ:=(Unit⊕Bool)) (λ(c:Int)=>bif decide (c<(a.held.length:Int)) then((ix a.held c).bind λn=>(f319 a n).bind λk=>bif decide (k<0) then(some (.inr (.inr false)))else(some (.inl (wr (c+1)))))else(some (.inr (.inl ())))) cr 0).bind (Sum.elim (λ(_:Unit)=>(bO (τ:=(Unit⊕Bool)) (λ(d:Int)=>bif decide (d<(a.cY.length:Int)) then((ix a.cY d).bind λf=>(((f108 f 1 14).bind λl=>bif (!l)then(some true)else((f319 a f).bind λo=>some (decide (0<=o)))):Option Bool).bind λ(m:Bool)=>bif m then(some (.inr (.inr false)))else(some (.inl (wr (d+1)))))else(some (.inr (.inl ())))) cr 0).bind (Sum.elim (λ(_:Unit)=>some true) some)) some))) some)
def f342(b:List Int)(d:Int):Option Int:=(bO (τ:=(Unit⊕Int)) (λ(a:Int)=>bif decide (a<(b.length:Int)) then((ix b a).bind λc=>bif decide (d=c) then(some (.inr (.inr a)))else(some (.inl (wr (a+1)))))else(some (.inr (.inl ())))) cr 0).bind (Sum.elim (λ(_:Unit)=>some (-1)) some)
def f344(a:Int)(d:Int)(c:Int):Option Bool:=((bif decide (d<a) then(some (decide (a<c)))else(some false)):Option Bool).bind λ(b:Bool)=>some b
def f350(b:List Int)(c:Int)(e:Int):Option Int:=(bO (τ:=(Unit⊕Int)) (λ(a:Int)=>bif decide (a<(b.length:Int)) then((ix b a).bind λd=>(f344 d c e).bind λf=>bif f then(some (.inr (.inr a)))else(some (.inl (wr (a+1)))))else(some (.inr (.inl ())))) cr 0).bind (Sum.elim (λ(_:Unit)=>some (-1)) some)
def f343(b:List Int)(a:Int)(d:Int):Option Bool:=(f350 b a d).bind λc=>some (decide (0<=c))
def f345(a:aQ)(b:Int):Option Bool:=some (decide (a.ct<b))
def f309_2(b:List aQ)(c:Int):Option Int:=(bO (τ:=(Unit⊕Int)) (λ(a:Int)=>bif decide (a<(b.length:Int)) then((ix b a).bind λd=>(f345 d c).bind λe=>bif e then(some (.inr (.inr a)))else(some (.inl (wr (a+1)))))else(some (.inr (.inl ())))) cr 0).bind (Sum.elim (λ(_:Unit)=>some (-1)) some)
def f275_1(b:List aQ)(a:Int):Option Bool:=(f309_2 b a).bind λc=>some (decide (0<=c))
def f321(g:eE)(c:bK)(f:List Int):Option Bool:=(bO (τ:=(Unit⊕Bool)) (λ(d:Int)=>bif decide (d<=(g.low.length:Int)) then((((f342 f d).bind λa=>bif decide (a<0) then(some (.inl ()))else((bO (τ:=Int) (λ((i,e):(Int×Int))=>bif decide (e<(f.length:Int)) then((((ix f e).bind λj=>bif decide (j=d) then(some e)else(some i)):Option Int).bind λ(n:Int)=>some (.inl (n,wr (e+1))))else(some (.inr i))) cr (a,0)).bind λ(b:Int)=>bif decide (a=b) then(some (.inl ()))else((((ix g.gb (wr (d-1))).bind λo=>bif (!o)then(some true)else((ix c.cA a).bind λq=>(ix c.cA b).bind λl=>some (decide (q.ct≠l.ct)))):Option Bool).bind λ(p:Bool)=>bif p then(some (.inr (.inr (.inr false))))else((ix c.cA a).bind λh=>(ix c.cA b).bind λr=>(f343 c.cY h.aW r.aW).bind λk=>bif k then(some (.inr (.inr (.inr false))))else(bZ (0<=a)<|bZ (0<=b)<|bZ (a.toNat<=b.toNat)<|bZ (b.toNat<=c.cA.length)<|(f275_1 ((c.cA.take b.toNat).drop a.toNat) h.ct).bind λm=>bif m then(some (.inr (.inr (.inr false))))else(some (.inl ()))))))):Option (Unit⊕(Int⊕(Unit⊕Bool)))).bind (Sum.elim (λ(_:Unit)=>some (.inl (wr (d+1)))) some))else(some (.inr (.inl ())))) cr 1).bind (Sum.elim (λ(_:Unit)=>some true) some)
def f64_1(a:List Int):Option (List Int):=((bif a.isEmpty then(some ([]:List Int))else(bZ (a.length<=bc)<|some a)):Option (List Int)).bind λ(b:(List Int))=>some b
def f322(a:eE)(c:Int)(b:Int)(g:Int):Option Bool:=(ix a.low (wr (b-1))).bind λd=>(ix a.high (wr (b-1))).bind λe=>(f108 g (wr (c+d)) (wr (c+e))).bind λf=>some f
def f323(d:aQ)(c:aQ)(a:Int)(b:Int):Option Bool:=bif decide (d.ct<c.ct) then(some (decide (a<b)))else(bif decide (c.ct<d.ct) then(some (decide (b<a)))else(bif decide (d.aW<c.aW) then(some (decide (b<=a)))else(some (decide (a<=b)))))
def f320r:Nat->Int->(List Int)->bK->eE->(List b9)->Option (List Int×List b9)
 |0,_,_,_,_,_=>none
 |x+1,j,a,e,f,i=>bif decide ((a.length:Int)=(e.cA.length:Int)) then((((f321 f e a).bind λr=>bif r then((f64_1 a).bind λn=>bZ (i.length+1<=bc)<|some (i++([(⟨j,n⟩:b9)]:List b9)))else(some i)):Option (List b9)).bind λ(l:(List b9))=>some (a,l))else((bO (τ:=(List Int×List b9)) (λ((b,c,d):(List Int×List b9×Int))=>((bif decide (d<=(f.low.length:Int)) then(some (decide ((c.length:Int)<=200)))else(some false)):Option Bool).bind λ(q:Bool)=>bif q then((((ix e.cA (a.length:Int)).bind λk=>(f322 f j d k.ct).bind λm=>bif (!m)then(some (b,c))else((bO (τ:=(Unit⊕_)) (λ(h:Int)=>bif decide (h<(b.length:Int)) then((ix b h).bind λs=>(ix e.cA h).bind λw=>(f323 w k s d).bind λo=>bif (!o)then(some (.inr (.inr (b,c))))else(some (.inl (wr (h+1)))))else(some (.inr (.inl ())))) cr 0).bind (Sum.elim (λ(_:Unit)=>bZ (b.length+1<=bc)<|(f320r x j (b++([d]:List Int)) e f c).bind λg=>bZ (0<=(a.length:Int))<|bZ ((a.length:Int).toNat<=g.1.length)<|bZ ((a.length:Int).toNat<=g.1.length)<|some ((g.1.take (a.length:Int).toNat),g.2)) some))):Option (List Int×List b9)).bind λ((u,t):(List Int×List b9))=>some (.inl (u,t,wr (d+1))))else(some (.inr (b,c)))) cr (a,i,1)).bind λ((p,v):(List Int×List b9))=>some (p,v))
def f320(a:Int)(d:List Int)(b:bK)(e:eE)(c:List b9):Option (List Int×List b9):=f320r cr a d b e c
def f279(c:eE)(g:bK):Option ((List b9)):=(bO (τ:=(List b9)) (λ((b,e,a):(List b9×List Int×Int))=>bif decide (a<=c.top) then((f320 a e g c b).bind λd=>some (.inl (d.2,d.1,wr (a+1))))else(some (.inr b))) cr (([]:List b9),([]:List Int),1)).bind λ(f:(List b9))=>some f
def f224(a:eE)(c:bK):Option (((List b9))×Int):=(f59 a).bind λb=>bif decide (b≠0) then(some (([]:List b9),b))else((f278 c).bind λe=>bif (!e)then(some (([]:List b9),1))else((f279 a c).bind λd=>bif decide (200<(d.length:Int)) then(some (([]:List b9),2))else(some (d,0))))
def f324(c:bK)(a:bK):Option Bool:=(bO (τ:=(Unit⊕Bool)) (λ(b:Int)=>bif decide (b<(a.held.length:Int)) then((ix a.held b).bind λd=>(f319 c d).bind λe=>((bif decide (e<0) then(some true)else((ix c.cA e).bind λf=>(f319 a d).bind λh=>(ix a.cA h).bind λg=>some (!(jo f g)))):Option Bool).bind λ(i:Bool)=>bif i then(some (.inr (.inr false)))else(some (.inl (wr (b+1)))))else(some (.inr (.inl ())))) cr 0).bind (Sum.elim (λ(_:Unit)=>some true) some)
def f281(b:List bK):Option Int:=bif decide (400<(b.length:Int)) then(some 2)else((bO (τ:=(Unit⊕Int)) (λ(a:Int)=>bif decide (a<(b.length:Int)) then((ix b a).bind λc=>(((f278 c).bind λf=>bif (!f)then(some true)else(bif decide (0<a) then((ix b (wr (a-1))).bind λd=>(f324 d c).bind λg=>some (!g))else(some false))):Option Bool).bind λ(e:Bool)=>bif e then(some (.inr (.inr 1)))else(some (.inl (wr (a+1)))))else(some (.inr (.inl ())))) cr 0).bind (Sum.elim (λ(_:Unit)=>some 0) some))
def f342_1(b:List Int)(d:Int):Option Int:=(bO (τ:=(Unit⊕Int)) (λ(a:Int)=>bif decide (a<(b.length:Int)) then((ix b a).bind λc=>bif decide (d=c) then(some (.inr (.inr a)))else(some (.inl (wr (a+1)))))else(some (.inr (.inl ())))) cr 0).bind (Sum.elim (λ(_:Unit)=>some (-1)) some)
def f321_1(g:eE)(c:bK)(f:List Int):Option Bool:=(bO (τ:=(Unit⊕Bool)) (λ(d:Int)=>bif decide (d<=(g.low.length:Int)) then((((f342_1 f d).bind λa=>bif decide (a<0) then(some (.inl ()))else((bO (τ:=Int) (λ((i,e):(Int×Int))=>bif decide (e<(f.length:Int)) then((((ix f e).bind λj=>bif decide (j=d) then(some e)else(some i)):Option Int).bind λ(n:Int)=>some (.inl (n,wr (e+1))))else(some (.inr i))) cr (a,0)).bind λ(b:Int)=>bif decide (a=b) then(some (.inl ()))else((((ix g.gb (wr (d-1))).bind λo=>bif (!o)then(some true)else((ix c.cA a).bind λq=>(ix c.cA b).bind λl=>some (decide (q.ct≠l.ct)))):Option Bool).bind λ(p:Bool)=>bif p then(some (.inr (.inr (.inr false))))else((ix c.cA a).bind λh=>(ix c.cA b).bind λr=>(f343 c.cY h.aW r.aW).bind λk=>bif k then(some (.inr (.inr (.inr false))))else(bZ (0<=a)<|bZ (0<=b)<|bZ (a.toNat<=b.toNat)<|bZ (b.toNat<=c.cA.length)<|(f275_1 ((c.cA.take b.toNat).drop a.toNat) h.ct).bind λm=>bif m then(some (.inr (.inr (.inr false))))else(some (.inl ()))))))):Option (Unit⊕(Int⊕(Unit⊕Bool)))).bind (Sum.elim (λ(_:Unit)=>some (.inl (wr (d+1)))) some))else(some (.inr (.inl ())))) cr 1).bind (Sum.elim (λ(_:Unit)=>some true) some)
def f282(d:eE)(c:bK)(a:b9):Option Bool:=(((f108 a.pos 1 d.top).bind λp=>bif (!p)then(some true)else(some (decide ((a.di.length:Int)≠(c.cA.length:Int))))):Option Bool).bind λ(n:Bool)=>bif n then(some false)else((bO (τ:=(Unit⊕Bool)) (λ(b:Int)=>bif decide (b<(a.di.length:Int)) then((ix a.di b).bind λf=>(((f108 f 1 (d.low.length:Int)).bind λo=>bif (!o)then(some true)else((ix c.cA b).bind λj=>(f322 d a.pos f j.ct).bind λh=>some (!h))):Option Bool).bind λ(m:Bool)=>bif m then(some (.inr (.inr false)))else((bO (τ:=(Unit⊕(Int⊕(Unit⊕Bool)))) (λ(e:Int)=>bif decide (e<b) then((ix c.cA e).bind λl=>(ix c.cA b).bind λk=>(ix a.di e).bind λq=>(f323 l k q f).bind λg=>bif (!g)then(some (.inr (.inr (.inr (.inr false)))))else(some (.inl (wr (e+1)))))else(some (.inr (.inl ())))) cr 0).bind (Sum.elim (λ(_:Unit)=>some (.inl (wr (b+1)))) some)))else(some (.inr (.inl ())))) cr 0).bind (Sum.elim (λ(_:Unit)=>(f321_1 d c a.di).bind λi=>some i) some))
def f325(a:Int)(b:Int):Option Int:=some (jZ (wr (a-b)) (wr (b-a)))
def f326(f:bK)(c:b9)(h:Int):Option ((List aQ)):=(bO (τ:=(List aQ)) (λ((b,a):(List aQ×Int))=>bif decide (a<(c.di.length:Int)) then((((ix c.di a).bind λg=>bif decide (g=h) then((ix f.cA a).bind λd=>bZ (b.length+1<=bc)<|some (b++([d]:List aQ)))else(some b)):Option (List aQ)).bind λ(e:(List aQ))=>some (.inl (e,wr (a+1))))else(some (.inr b))) cr (([]:List aQ),0)).bind λ(i:(List aQ))=>some i
def f346(b:List aQ)(d:aQ):Option Int:=(bO (τ:=(Unit⊕Int)) (λ(a:Int)=>bif decide (a<(b.length:Int)) then((ix b a).bind λc=>bif (jo d c)then(some (.inr (.inr a)))else(some (.inl (wr (a+1)))))else(some (.inr (.inl ())))) cr 0).bind (Sum.elim (λ(_:Unit)=>some (-1)) some)
def f328(a:List aQ)(c:aQ):Option Bool:=(f346 a c).bind λb=>some (decide (0<=b))
def f327(a:aQ)(c:List aQ):Option Bool:=(f328 c a).bind λb=>some b
def f309_3(b:List aQ)(c:List aQ):Option Int:=(bO (τ:=(Unit⊕Int)) (λ(a:Int)=>bif decide (a<(b.length:Int)) then((ix b a).bind λd=>(f327 d c).bind λe=>bif e then(some (.inr (.inr a)))else(some (.inl (wr (a+1)))))else(some (.inr (.inl ())))) cr 0).bind (Sum.elim (λ(_:Unit)=>some (-1)) some)
def f275_2(b:List aQ)(a:List aQ):Option Bool:=(f309_3 b a).bind λc=>some (decide (0<=c))
def f283(a:eE)(f:bK)(i:b9)(b:bK)(j:b9):Option (Int×Bool):=(bO (τ:=(Unit⊕(Int×Bool))) (λ(g:Int)=>bif decide (g<(b.held.length:Int)) then((ix b.held g).bind λk=>(f319 f k).bind λu=>(ix i.di u).bind λs=>(f319 b k).bind λp=>(ix j.di p).bind λo=>bif decide (s≠o) then(some (.inr (.inr (0,false))))else(some (.inl (wr (g+1)))))else(some (.inr (.inl ())))) cr 0).bind (Sum.elim (λ(_:Unit)=>(f325 i.pos j.pos).bind λc=>((bif decide (0<(f.cA.length:Int)) then(some (decide (0<(b.cA.length:Int))))else(some false)):Option Bool).bind λ(e:Bool)=>((bif e then(some (decide (a.jump<c)))else(some false)):Option Bool).bind λ(v:Bool)=>bif v then(some (0,false))else(((((bif e then(some (decide (0<c)))else(some false)):Option Bool).bind λ(x:Bool)=>bif x then(some (wr ((wr (a.shift*c))+a.lift)))else(some (wr (a.shift*c)))):Option Int).bind λ(q:Int)=>(bO (τ:=Int) (λ((h,d):(Int×Int))=>((bif decide (d<=(a.low.length:Int)) then(some e)else(some false)):Option Bool).bind λ(y:Bool)=>bif y then((((f326 f i d).bind λm=>(f326 b j d).bind λl=>((bif decide (0<(m.length:Int)) then(bif decide (0<(l.length:Int)) then((f275_2 m l).bind λn=>some (!n))else(some false))else(some false)):Option Bool).bind λ(r:Bool)=>bif r then(some (wr (h+a.gD)))else(some h)):Option Int).bind λ(t:Int)=>some (.inl (t,wr (d+1))))else(some (.inr h))) cr (q,1)).bind λ(w:Int)=>some (w,true))) some)
def f227(a:eE)(b:bK)(e:b9)(c:bK)(f:b9):Option (Int×Int):=(f59 a).bind λg=>bif decide (g≠0) then(some (0,g))else((f281 ([b,c]:List bK)).bind λh=>bif decide (h≠0) then(some (0,h))else((((f282 a b e).bind λj=>bif (!j)then(some true)else((f282 a c f).bind λi=>some (!i))):Option Bool).bind λ(k:Bool)=>bif k then(some (0,61))else((f283 a b e c f).bind λd=>bif (!d.2)then(some (0,61))else(some (d.1,0)))))
def f226(b:b9)(a:cM)(c:bK)(e:b9):Option Bool:=(f227 a.h a.dz b c e).bind λd=>some (decide (d.2=0))
def f280(b:List b9)(c:cM)(e:bK)(f:b9):Option Int:=(bO (τ:=(Unit⊕Int)) (λ(a:Int)=>bif decide (a<(b.length:Int)) then((ix b a).bind λd=>(f226 d c e f).bind λg=>bif g then(some (.inr (.inr a)))else(some (.inl (wr (a+1)))))else(some (.inr (.inl ())))) cr 0).bind (Sum.elim (λ(_:Unit)=>some (-1)) some)
def f225(b:List b9)(a:cM)(c:bK)(d:b9):Option Bool:=(f280 b a c d).bind λe=>some (decide (0<=e))
def f172(b:cM)(f:bK):Option (List b9):=(f224 b.h f).bind λc=>bif decide (c.2≠0) then(some ([]:List b9))else(bif decide ((b.bE.aY.length:Int)=0) then(some c.1)else((bO (τ:=(List b9)) (λ((a,d):(List b9×Int))=>bif decide (d<(c.1.length:Int)) then((((ix c.1 d).bind λe=>(f225 b.fx b f e).bind λj=>bif j then(bZ (a.length+1<=bc)<|some (a++([e]:List b9)))else(some a)):Option (List b9)).bind λ(i:(List b9))=>some (.inl (i,wr (d+1))))else(some (.inr a))) cr (([]:List b9),0)).bind λ(g:(List b9))=>some g))
def f373(b:cM)(d:List aX)(f:bR)(k:bK)(i:List b9)(h:Bool)(j:List aX)(g:List aX)(e:bR):Option ((List b9×bK)⊕Unit):=(f171 b e d).bind λa=>(f172 b (⟨a.cA,a.held,a.cY⟩:bK)).bind λc=>bif decide (0<(c.length:Int)) then(some (.inl (c,(⟨a.cA,a.held,a.cY⟩:bK))))else(some (.inr ()))
def f372(n:List aX)(g:cM)(f:List aX)(o:List aX)(i:bR)(l:bK)(h:List b9)(j:Bool)(e:List (List aQ))(p:Int)(r:Int)(m:List Bool):Option ((List b9×bK×bR)⊕Unit):=(bO (τ:=(Unit⊕((List b9×bK×bR)⊕Unit))) (λ(a:Int)=>bif decide (a<(e.length:Int)) then((ix e a).bind λc=>(f219 m).bind λd=>(f220 g (⟨c,d⟩:bR) f).bind λk=>bif k then((f373 g o i l h j n f (⟨c,d⟩:bR)).bind (Sum.elim (λb=>some (.inr (.inr (.inl (b.1,(⟨b.2.cA,b.2.held,b.2.cY⟩:bK),(⟨c,d⟩:bR)))))) λq=>some (.inl (wr (a+1)))))else(some (.inl (wr (a+1)))))else(some (.inr (.inl ())))) cr 0).bind (Sum.elim (λ(_:Unit)=>some (.inr ())) some)
def f266_1r:Nat->Int->Int->Int->(List aX)->cM->(List aX)->(List aX)->bR->bK->(List b9)->Bool->(List (List aQ))->Int->(List Bool)->Option ((List Bool)⊕(bR×bK×List b9×List Bool))
 |0,_,_,_,_,_,_,_,_,_,_,_,_,_,_=>none
 |y+1,c,g,f,q,s,n,o,t,p,l,m,j,r,d=>bif decide (c=f) then(bif decide (0<g) then(some (.inl d))else((f372 q s n o t p l m j r f d).bind (Sum.elim (λb=>some (.inr ((⟨b.2.2.places,b.2.2.cut⟩:bR),(⟨b.2.1.cA,b.2.1.held,b.2.1.cY⟩:bK),b.1,d))) λz=>some (.inl d))))else((bO (τ:=((List Bool)⊕((List Bool)⊕(bR×bK×List b9×List Bool)))) (λ((e,i):(List Bool×Int))=>bif decide (i<2) then((((ix ([false,true]:List Bool) i).bind λk=>((bif k then(some (wr (g-1)))else(some g)):Option Int).bind λ(h:Int)=>((bif decide (h<0) then(some true)else(some (decide ((wr ((wr (f-c))-1))<h)))):Option Bool).bind λ(x:Bool)=>bif x then(some (.inl e))else((ix e c).bind λA=>(f266_1r y (wr (c+1)) h f q s n o t p l m j r (e.set c.toNat k)).bind (Sum.elim (λv=>some (.inl v)) λa=>some (.inr (.inr (.inr (.inr ((⟨a.1.places,a.1.cut⟩:bR),(⟨a.2.1.cA,a.2.1.held,a.2.1.cY⟩:bK),a.2.2.1,a.2.2.2)))))))):Option ((List Bool)⊕((List Bool×Int)⊕((List Bool)⊕((List Bool)⊕(bR×bK×List b9×List Bool)))))).bind (Sum.elim (λ(w:(List Bool))=>some (.inl (w,wr (i+1)))) some))else(some (.inr (.inl e)))) cr (d,0)).bind (Sum.elim (λ(u:(List Bool))=>some (.inl u)) some))
def f266_1(e:Int)(i:Int)(h:Int)(n:List aX)(g:cM)(f:List aX)(k:List aX)(l:bR)(m:bK)(c:List b9)(d:Bool)(a:List (List aQ))(b:Int)(j:List Bool):Option ((List Bool)⊕(bR×bK×List b9×List Bool)):=f266_1r cr e i h n g f k l m c d a b j
def f265_1(m:List aX)(d:cM)(h:List aX)(n:List aX)(i:bR)(l:bK)(g:List b9)(k:Bool)(e:List (List aQ))(j:Int)(b:Int):Option ((List b9×bK×bR)⊕Unit):=bZ (0<=b)<|bZ (b<=(bc:Int))<|(bO (τ:=(Unit⊕((List b9×bK×bR)⊕Unit))) (λ((f,c):(List Bool×Int))=>bif decide (c<=b) then((f266_1 0 c b m d h n i l g k e j f).bind (Sum.elim (λo=>some (.inl (o,wr (c+1)))) λa=>some (.inr (.inr (.inl (a.2.2.1,(⟨a.2.1.cA,a.2.1.held,a.2.1.cY⟩:bK),(⟨a.1.places,a.1.cut⟩:bR)))))))else(some (.inr (.inl ())))) cr ((List.replicate b.toNat (false:Bool)),0)).bind (Sum.elim (λ(_:Unit)=>some (.inr ())) some)
def f371(e:List aX)(c:cM)(b:List aX)(l:List aX)(g:bR)(h:bK)(f:List b9)(i:Bool)(j:Int)(d:List Bool):Option (Unit⊕((List b9×bK×bR)⊕Unit)):=(f35 d false).bind λk=>bif (!k)then(some (.inl ()))else((f218 c.k8 e d c.shift).bind λm=>(f217 (b.length:Int)).bind λo=>(f265_1 e c b l g h f i m j (b.length:Int)).bind (Sum.elim (λa=>some (.inr (.inl (a.1,(⟨a.2.1.cA,a.2.1.held,a.2.1.cY⟩:bK),(⟨a.2.2.places,a.2.2.cut⟩:bR))))) λn=>some (.inr (.inr ()))))
def f266r:Nat->Int->Int->Int->(List aX)->cM->(List aX)->(List aX)->bR->bK->(List b9)->Bool->(List Bool)->Option ((List Bool)⊕((List Bool)⊕(bR×bK×List b9×List Bool)))
 |0,_,_,_,_,_,_,_,_,_,_,_,_=>none
 |w+1,d,g,f,p,q,m,n,r,o,k,l,c=>bif decide (d=f) then(bif decide (0<g) then(some (.inl c))else((f371 p q m n r o k l f c).bind (Sum.elim (λz=>some (.inr (.inl c))) (Sum.elim (λb=>some (.inr (.inr ((⟨b.2.2.places,b.2.2.cut⟩:bR),(⟨b.2.1.cA,b.2.1.held,b.2.1.cY⟩:bK),b.1,c)))) λA=>some (.inl c)))))else((bO (τ:=((List Bool)⊕((List Bool)⊕((List Bool)⊕(bR×bK×List b9×List Bool))))) (λ((e,i):(List Bool×Int))=>bif decide (i<2) then((((ix ([false,true]:List Bool) i).bind λj=>((bif j then(some (wr (g-1)))else(some g)):Option Int).bind λ(h:Int)=>((bif decide (h<0) then(some true)else(some (decide ((wr ((wr (f-d))-1))<h)))):Option Bool).bind λ(u:Bool)=>bif u then(some (.inl e))else((ix e d).bind λy=>(f266r w (wr (d+1)) h f p q m n r o k l (e.set d.toNat j)).bind (Sum.elim (λt=>some (.inl t)) (Sum.elim (λx=>some (.inr (.inr (.inr (.inr (.inl x)))))) λa=>some (.inr (.inr (.inr (.inr (.inr ((⟨a.1.places,a.1.cut⟩:bR),(⟨a.2.1.cA,a.2.1.held,a.2.1.cY⟩:bK),a.2.2.1,a.2.2.2)))))))))):Option ((List Bool)⊕((List Bool×Int)⊕((List Bool)⊕((List Bool)⊕((List Bool)⊕(bR×bK×List b9×List Bool))))))).bind (Sum.elim (λ(s:(List Bool))=>some (.inl (s,wr (i+1)))) some))else(some (.inr (.inl e)))) cr (c,0)).bind (Sum.elim (λ(v:(List Bool))=>some (.inl v)) some))
def f266(c:Int)(g:Int)(f:Int)(l:List aX)(e:cM)(d:List aX)(i:List aX)(j:bR)(k:bK)(a:List b9)(b:Bool)(h:List Bool):Option ((List Bool)⊕((List Bool)⊕(bR×bK×List b9×List Bool))):=f266r cr c g f l e d i j k a b h
def f265(k:List aX)(m:cM)(g:List aX)(l:List aX)(f:bR)(i:bK)(e:List b9)(h:Bool)(b:Int):Option (Unit⊕((List b9×bK×bR)⊕Unit)):=bZ (0<=b)<|bZ (b<=(bc:Int))<|(bO (τ:=(Unit⊕(Unit⊕((List b9×bK×bR)⊕Unit)))) (λ((d,c):(List Bool×Int))=>bif decide (c<=b) then((f266 0 c b k m g l f i e h d).bind (Sum.elim (λj=>some (.inl (j,wr (c+1)))) (Sum.elim (λn=>some (.inr (.inr (.inl ())))) λa=>some (.inr (.inr (.inr (.inl (a.2.2.1,(⟨a.2.1.cA,a.2.1.held,a.2.1.cY⟩:bK),(⟨a.1.places,a.1.cut⟩:bR)))))))))else(some (.inr (.inl ())))) cr ((List.replicate b.toNat (false:Bool)),0)).bind (Sum.elim (λ(_:Unit)=>some (.inr (.inr ()))) some)
def f216(d:cM)(e:List aX)(c:bR)(i:bK)(h:List b9)(g:Bool)(b:List aX)(f:List aX):Option (Unit⊕(List b9×bK×bR)):=(f217 (b.length:Int)).bind λl=>(f265 b d f e c i h g (b.length:Int)).bind (Sum.elim (λj=>some (.inl ())) (Sum.elim (λa=>some (.inr (a.1,(⟨a.2.1.cA,a.2.1.held,a.2.1.cY⟩:bK),(⟨a.2.2.places,a.2.2.cut⟩:bR)))) λk=>some (.inl ())))
def f121(c:cM)(d:List aX)(b:List aX):Option (bR×bK×List b9×Bool):=(bO (τ:=(bR×bK×List b9×Bool)) (λ(_:Unit)=>(f170 c d b).bind λj=>(f216 c b (⟨([]:List aQ),([]:List Bool)⟩:bR) (⟨([]:List aQ),([]:List Int),([]:List Int)⟩:bK) ([]:List b9) false d b).bind (Sum.elim (λi=>some (.inr ((⟨([]:List aQ),([]:List Bool)⟩:bR),(⟨([]:List aQ),([]:List Int),([]:List Int)⟩:bK),([]:List b9),false))) λa=>some (.inr ((⟨a.2.2.places,a.2.2.cut⟩:bR),(⟨a.2.1.cA,a.2.1.held,a.2.1.cY⟩:bK),a.1,true)))) cr ()).bind λ((g,f,h,e):(bR×bK×List b9×Bool))=>some (g,f,h,e)
def f174(a:aQ):Option Int:=some a.aW
def f173(a:List aQ):Option ((List Int)):=bZ ((0:Int)<=(a.length:Int))<|bZ ((a.length:Int)<=(bc:Int))<|(bO (τ:=(List Int)) (λ((b,c):(List Int×Int))=>bif decide (c<(a.length:Int)) then((ix a c).bind λd=>(f174 d).bind λe=>bZ (b.length+1<=bc)<|some (.inl ((b++([e]:List Int)),wr (c+1))))else(some (.inr b))) cr (([]:List Int),0)).bind λ(f:(List Int))=>some f
def f122(a:cM)(d:cB)(c:Bool):Option (List aQ×List Int×List Int×List bJ×List b9):=((bif c then((f173 a.dz.cA).bind λe=>some (⟨a.dz.cA,e,a.dz.cY⟩:bK))else(some (⟨([]:List aQ),([]:List Int),([]:List Int)⟩:bK))):Option bK).bind λ(b:bK)=>(f172 a b).bind λf=>bZ (a.bE.aY.length<cO)<|some (b.cA,b.held,b.cY,(a.bE.aY++[(⟨false,d,c,([]:List cC)⟩:bJ)]),f)
def f176(b:cC)(e:List bX)(c:Int)(f:Int)(h:Int)(a:Int)(g:Int)(d:Int):Option Bool:=some (decide (b.aW=a))
def f175_1(b:List cC)(j:List bX)(e:Int)(c:Int)(g:Int)(h:Int)(i:Int)(d:Int):Option Int:=(bO (τ:=(Unit⊕Int)) (λ(a:Int)=>bif decide (a<(b.length:Int)) then((ix b a).bind λf=>(f176 f j e c g h i d).bind λk=>bif k then(some (.inr (.inr a)))else(some (.inl (wr (a+1)))))else(some (.inr (.inl ())))) cr 0).bind (Sum.elim (λ(_:Unit)=>some (-1)) some)
def f178(a:cC)(c:cC):Option Int:=(f97 a.aW c.aW).bind λb=>some b
def f177(a:List cC):Option (List cC):=sA f178 a
def f123(l:cM)(s:bR)(p:List aX)(q:List aX)(I:cB):Option (List cC×List aX×List aX×List bJ×List aX):=(bO (τ:=(List bJ×List aX×List aX)) (λ((g,h,i,n):(List bJ×List aX×List aX×Int))=>bif decide (n<(q.length:Int)) then((((ix q n).bind λa=>(ix s.cut n).bind λz=>bif z then(bZ (i.length+1<=bc)<|some (g,h,(i++([a]:List aX))))else(bZ (h.length+1<=bc)<|bif decide (0<a.bL.ct) then((ix g a.cS).bind λd=>bZ (a.cS.toNat<cO)<|(f175_1 d.cR a.bI a.bU a.bP a.dr a.bL.aW a.bL.ct a.cS).bind λr=>(ix d.cR r).bind λj=>some ((g.set a.cS.toNat (⟨d.kJ,d.sign,d.tie,(d.cR.set r.toNat (⟨j.aW,j.ct,j.right,j.jv,(wr ((l.bE.aY.length:Int)-a.cS))⟩:cC))⟩:bJ)),(h++([a]:List aX)),i))else(some (g,(h++([a]:List aX)),i)))):Option (List bJ×List aX×List aX)).bind λ((A,x,E):(List bJ×List aX×List aX))=>some (.inl (A,x,E,wr (n+1))))else(some (.inr (g,h,i)))) cr (l.bE.aY,([]:List aX),([]:List aX),0)).bind λ((H,y,D):(List bJ×List aX×List aX))=>(bO (τ:=(List cC×List aX×List aX×List aX)) (λ((k,m,f,o,c):(List aX×List cC×List aX×List aX×Int))=>bif decide (c<(p.length:Int)) then((((ix o 0).bind λb=>bZ (f.length<cO)<|bZ (0<=c/\c<(p.length:Int))<|bZ (c.toNat=f.length/\c.toNat<=cO)<|(ix s.places c).bind λe=>bif decide (0<e.aW) then(bZ (k.length+1<=bc)<|bZ (m.length+1<=bc)<|some ((k++([(⟨b.bI,b.bU,b.bP,b.dr,e,(l.bE.aY.length:Int)⟩:aX)]:List aX)),(m++([(⟨e.aW,e.ct,0,0,0⟩:cC)]:List cC)),(f++[(⟨b.bI,b.bU,b.bP,b.dr,e,(l.bE.aY.length:Int)⟩:aX)])))else(some (k,m,(f++[(⟨b.bI,b.bU,b.bP,b.dr,e,b.cS⟩:aX)])))):Option (List aX×List cC×List aX)).bind λ((v,C,F):(List aX×List cC×List aX))=>some (.inl (v,C,F,(o.drop 1),wr (c+1))))else(some (.inr (m,f,o,k)))) cr (y,([]:List cC),([]:List aX),p,0)).bind λ((t,G,w,B):(List cC×List aX×List aX×List aX))=>(f177 t).bind λu=>bZ (u.length=t.length)<|bZ (w=[])<|some (u,D,G,H,B)
def f67(a:cM)(G:List (List bH))(t:Int)(b:List cB):Option (List aX×List aX×List aQ×List Int×List Int×List bJ×List aX×List b9):=(f119 G t).bind λf=>(f120 a t).bind λi=>(f121 a f i).bind λd=>bif (!d.2.2.2)then((bO (τ:=(List aQ×List Int×List Int×List bJ×List b9)) (λ((p,q,s,r,n,k):(List aQ×List Int×List Int×List bJ×List b9×Int))=>bif decide (k<(b.length:Int)) then((ix b k).bind λy=>(f122 (⟨(⟨p,q,s⟩:bK),a.k8,a.h,a.shift,(⟨a.bE.instrument,r⟩:cD),a.cZ,n⟩:cM) y (decide (0<(i.length:Int)))).bind λe=>some (.inl (e.1,e.2.1,e.2.2.1,e.2.2.2.1,e.2.2.2.2,wr (k+1))))else(some (.inr (p,q,s,r,n)))) cr (a.dz.cA,a.dz.held,a.dz.cY,a.bE.aY,a.fx,0)).bind λ((F,H,D,x,J):(List aQ×List Int×List Int×List bJ×List b9))=>bZ (f.length<=cO)<|some (f,([]:List aX),F,H,D,x,i,J))else((ix b 0).bind λo=>(f123 a (⟨d.1.places,d.1.cut⟩:bR) f i o).bind λc=>bZ (c.2.2.1.length=f.length)<|bZ (c.2.2.2.1.length<cO)<|bZ (1<=b.length)<|(bO (τ:=(List aQ×List Int×List Int×List bJ×List b9)) (λ((m,v,u,w,l,j):(List aQ×List Int×List Int×List bJ×List b9×Int))=>bif (decide (j<(((b.take b.length).drop 1).length:Int)))then((ix ((b.take b.length).drop 1) j).bind λB=>(f122 (⟨(⟨m,v,u⟩:bK),a.k8,a.h,a.shift,(⟨a.bE.instrument,w⟩:cD),c.2.2.2.2,l⟩:cM) B true).bind λg=>some (.inl (g.1,g.2.1,g.2.2.1,g.2.2.2.1,g.2.2.2.2,wr (j+1))))else(some (.inr (m,v,u,w,l)))) cr (d.2.1.cA,d.2.1.held,d.2.1.cY,(c.2.2.2.1++[(⟨false,o,false,c.1⟩:bJ)]),d.2.2.1,0)).bind λ((A,I,C,E,z):(List aQ×List Int×List Int×List bJ×List b9))=>some (c.2.2.1,c.2.1,A,I,C,E,c.2.2.2.2,z))
def f68(p:cW)(z:List (List bH))(s:List aX)(n:List aX)(h:Int):Option (List (List aQ)×List cV):=(bO (τ:=(List (List aQ)×List cV)) (λ((m,o,l):(List (List aQ)×List cV×Int))=>bif decide (l<(s.length:Int)) then((ix s l).bind λb=>(bO (τ:=(List (List aQ)×List cV)) (λ((d,c,g):(List (List aQ)×List cV×Int))=>bif decide (g<(b.bI.length:Int)) then((((ix b.bI g).bind λa=>(ix d a.part).bind λe=>bZ (a.part.toNat<cO)<|(ix e a.fj).bind λF=>bif decide (b.bL.aW=0) then(bZ (c.length+1<=bc)<|some ((d.set a.part.toNat (e.set a.fj.toNat b.bL)),(c++([(⟨a.part,a.fj,1,h⟩:cV)]:List cV))))else(bif decide (0<g) then(bZ (c.length+1<=bc)<|some ((d.set a.part.toNat (e.set a.fj.toNat b.bL)),(c++([(⟨a.part,a.fj,2,h⟩:cV)]:List cV))))else(some ((d.set a.part.toNat (e.set a.fj.toNat b.bL)),c)))):Option (List (List aQ)×List cV)).bind λ((B,y):(List (List aQ)×List cV))=>some (.inl (B,y,wr (g+1))))else(some (.inr (d,c)))) cr (m,o,0)).bind λ((A,t):(List (List aQ)×List cV))=>some (.inl (A,t,wr (l+1))))else(some (.inr (m,o)))) cr (p.dL,p.dm,0)).bind λ((D,C):(List (List aQ)×List cV))=>(bO (τ:=(List cV)) (λ((q,j):(List cV×Int))=>bif decide (j<(n.length:Int)) then((ix n j).bind λr=>(bO (τ:=(List cV)) (λ((i,k):(List cV×Int))=>bif decide (k<(r.bI.length:Int)) then((((ix r.bI k).bind λf=>(ix z f.part).bind λw=>(ix w f.fj).bind λx=>bif decide (h<x.dr) then(bZ (i.length+1<=bc)<|some (i++([(⟨f.part,f.fj,3,h⟩:cV)]:List cV)))else(some i)):Option (List cV)).bind λ(E:(List cV))=>some (.inl (E,wr (k+1))))else(some (.inr i))) cr (q,0)).bind λ(u:(List cV))=>some (.inl (u,wr (j+1))))else(some (.inr q))) cr (C,0)).bind λ(v:(List cV))=>some (D,v)
def f70(a:cV)(b:cV):Option Int:=(f97 a.part b.part).bind λe=>(f97 a.fj b.fj).bind λd=>(f97 a.kind b.kind).bind λf=>(f96 ([e,d,f]:List Int)).bind λc=>some c
def f69(a:List cV):Option (List cV):=sA f70 a
def f23(b:List (List bH))(j:bp)(D:eE)(d:Int):Option (cW×Int):=(f58 b j).bind λA=>bif decide (A≠0) then(some ((⟨(⟨(⟨([]:List cE),([]:List Int)⟩:bp),([]:List bJ)⟩:cD),0,([]:List (List aQ)),([]:List cV)⟩:cW),A))else((f59 D).bind λt=>bif decide (t≠0) then(some ((⟨(⟨(⟨([]:List cE),([]:List Int)⟩:bp),([]:List bJ)⟩:cD),0,([]:List (List aQ)),([]:List cV)⟩:cW),t))else((f31 d (-24) 24).bind λH=>bif (!H)then(some ((⟨(⟨(⟨([]:List cE),([]:List Int)⟩:bp),([]:List bJ)⟩:cD),0,([]:List (List aQ)),([]:List cV)⟩:cW),1))else((f60 b).bind λf=>(bO (τ:=((List (List cB))⊕(cW×Int))) (λ((l,e):(List (List cB)×Int))=>bif (decide (e<(wr ((f.length:Int)-1))))then((ix f (wr (e+1))).bind λJ=>(ix f e).bind λI=>(f61 (wr (J-I))).bind λF=>bif decide (F.2≠0) then(some (.inr (.inr ((⟨(⟨(⟨([]:List cE),([]:List Int)⟩:bp),([]:List bJ)⟩:cD),0,([]:List (List aQ)),([]:List cV)⟩:cW),25))))else(bZ (l.length+1<=bc)<|some (.inl ((l++([F.1]:List (List cB))),wr (e+1)))))else(some (.inr (.inl l)))) cr (([]:List (List cB)),0)).bind (Sum.elim (λ(g:(List (List cB)))=>(f62 g).bind λG=>bif decide (400<(G.length:Int)) then(some ((⟨(⟨(⟨([]:List cE),([]:List Int)⟩:bp),([]:List bJ)⟩:cD),0,([]:List (List aQ)),([]:List cV)⟩:cW),2))else((f63 j.bQ).bind λm=>(f64 j.br).bind λi=>(f65 b).bind λL=>(bO (τ:=(List aQ×List Int×List Int×List bJ×List aX×List b9×List cE×List Int×List bJ×List (List aQ)×List cV)) (λ((u,w,v,q,y,s,k,n,h,o,x,c):(List aQ×List Int×List Int×List bJ×List aX×List b9×List cE×List Int×List bJ×List (List aQ)×List cV×Int))=>bif decide (c<(g.length:Int)) then((ix g c).bind λK=>(ix f c).bind λz=>(f67 (⟨(⟨u,w,v⟩:bK),(⟨m,i⟩:bp),D,d,(⟨(⟨m,i⟩:bp),q⟩:cD),y,s⟩:cM) b z K).bind λa=>(f68 (⟨(⟨(⟨k,n⟩:bp),h⟩:cD),d,o,x⟩:cW) b a.1 a.2.1 z).bind λE=>some (.inl (a.2.2.1,a.2.2.2.1,a.2.2.2.2.1,a.2.2.2.2.2.1,a.2.2.2.2.2.2.1,a.2.2.2.2.2.2.2,k,n,h,E.1,E.2,wr (c+1))))else(some (.inr (u,w,v,q,y,s,k,n,h,o,x)))) cr (([]:List aQ),([]:List Int),([]:List Int),([]:List bJ),([]:List aX),([]:List b9),([]:List cE),([]:List Int),([]:List bJ),L,([]:List cV),0)).bind λ((M,S,R,B,N,P,T,Q,O,r,C):(List aQ×List Int×List Int×List bJ×List aX×List b9×List cE×List Int×List bJ×List (List aQ)×List cV))=>(f69 C).bind λp=>bZ (B.length<=cO)<|bZ (r.length<=cO)<|bZ (p.length=C.length)<|some ((⟨(⟨(⟨m,i⟩:bp),B⟩:cD),d,r,p⟩:cW),0))) some))))
def f127(a:List bJ):Option (List bJ):=((bif a.isEmpty then(some ([]:List bJ))else(bZ (a.length<=bc)<|some a)):Option (List bJ)).bind λ(b:(List bJ))=>some b
def f128(a:List cC):Option ((List cC)):=((bif a.isEmpty then(some ([]:List cC))else(bZ (a.length<=bc)<|some a)):Option (List cC)).bind λ(b:(List cC))=>some b
def f73(d:cD):Option (List cE×List Int×List bJ):=(f63 d.instrument.bQ).bind λh=>(f64 d.instrument.br).bind λg=>(f127 d.aY).bind λe=>(bO (τ:=(List bJ)) (λ((c,b):(List bJ×Int))=>bif decide (b<(e.length:Int)) then((ix c b).bind λa=>(f128 a.cR).bind λi=>some (.inl ((c.set b.toNat (⟨a.kJ,a.sign,a.tie,i⟩:bJ)),wr (b+1))))else(some (.inr c))) cr (e,0)).bind λ(f:(List bJ))=>some (h,g,f)
def f24(f:List cD):Option (dP×Int):=(f71 f).bind λb=>bif decide (b.2≠0) then(some ((⟨([]:List cD)⟩:dP),b.2))else((f72 b.1).bind λn=>(bO (τ:=((List cD)⊕(dP×Int))) (λ((h,a):(List cD×Int))=>bif decide (a<(f.length:Int)) then((ix f a).bind λi=>(ix b.1 a).bind λl=>(f61 (wr (n-l))).bind λc=>bif decide (c.2≠0) then(some (.inr (.inr ((⟨([]:List cD)⟩:dP),25))))else(bif (decide (400<(wr ((i.aY.length:Int)+(c.1.length:Int)))))then(some (.inr (.inr ((⟨([]:List cD)⟩:dP),2))))else((f73 i).bind λd=>(bO (τ:=(List bJ)) (λ((e,g):(List bJ×Int))=>bif decide (g<(c.1.length:Int)) then((ix c.1 g).bind λk=>bZ (e.length+1<=bc)<|some (.inl ((e++([(⟨false,k,false,([]:List cC)⟩:bJ)]:List bJ)),wr (g+1))))else(some (.inr e))) cr (d.2.2,0)).bind λ(m:(List bJ))=>bZ (h.length+1<=bc)<|some (.inl ((h++([(⟨(⟨d.1,d.2.1⟩:bp),m⟩:cD)]:List cD)),wr (a+1))))))else(some (.inr (.inl h)))) cr (([]:List cD),0)).bind (Sum.elim (λ(j:(List cD))=>some ((⟨j⟩:dP),0)) some))
def f7(j:List (List bH))(a:List kF):Option (dP×((List cW))×Int):=(f21 j).bind λk=>bif decide (k≠0) then(some ((⟨([]:List cD)⟩:dP),([]:List cW),k))else(bif decide ((a.length:Int)=0) then(some ((⟨([]:List cD)⟩:dP),([]:List cW),90))else(bif decide (6<(a.length:Int)) then(some ((⟨([]:List cD)⟩:dP),([]:List cW),2))else((bO (τ:=((List (List (List bH)))⊕(dP×((List cW))×Int))) (λ((i,e):(List (List (List bH))×Int))=>bif decide (e<(a.length:Int)) then((ix a e).bind λo=>(f22 j o.bW).bind λl=>bif (!l.2)then(some (.inr (.inr ((⟨([]:List cD)⟩:dP),([]:List cW),90))))else(bZ (i.length+1<=bc)<|some (.inl ((i++([l.1]:List (List (List bH)))),wr (e+1)))))else(some (.inr (.inl i)))) cr (([]:List (List (List bH))),0)).bind (Sum.elim (λ(m:(List (List (List bH))))=>(bO (τ:=((List cW×List cD)⊕(dP×((List cW))×Int))) (λ((d,h,c):(List cW×List cD×Int))=>bif decide (c<(a.length:Int)) then((ix a c).bind λf=>(ix m c).bind λn=>(f23 n f.instrument f.hand f.shift).bind λb=>bif decide (b.2≠0) then(some (.inr (.inr ((⟨([]:List cD)⟩:dP),([]:List cW),b.2))))else(bZ (d.length+1<=bc)<|bZ (h.length+1<=bc)<|some (.inl ((d++([b.1]:List cW)),(h++([b.1.bE]:List cD)),wr (c+1)))))else(some (.inr (.inl (d,h))))) cr (([]:List cW),([]:List cD),0)).bind (Sum.elim (λ((q,p):(List cW×List cD))=>(f24 p).bind λg=>bif decide (g.2≠0) then(some ((⟨([]:List cD)⟩:dP),([]:List cW),g.2))else(some (g.1,q,0))) some)) some))))
def f11(a:dP):Option Int:=(f29 a).bind λb=>some b.2
def f33(a:eL):Option Bool:=(bO (τ:=(Unit⊕Bool)) (λ(c:Int)=>bif decide (c<(a.s.dm.length:Int)) then((ix a.s.dm c).bind λb=>(((f31 b.part 0 (wr ((a.bW.length:Int)-1))).bind λj=>bif (!j)then(some true)else((ix a.bW b.part).bind λd=>(f31 b.fj 0 (wr ((d.length:Int)-1))).bind λf=>bif (!f)then(some true)else((f31 b.kind 1 3).bind λi=>some (!i)))):Option Bool).bind λ(e:Bool)=>bif e then(some (.inr (.inr false)))else(((bif decide (0<c) then((ix a.s.dm (wr (c-1))).bind λg=>(f70 g b).bind λk=>some (decide (0<=k)))else(some false)):Option Bool).bind λ(h:Bool)=>bif h then(some (.inr (.inr false)))else(some (.inl (wr (c+1))))))else(some (.inr (.inl ())))) cr 0).bind (Sum.elim (λ(_:Unit)=>some true) some)
def f148(a:cV)(b:bX)(d:Int):Option Bool:=((bif decide (a.part=b.part) then(bif decide (a.fj=b.fj) then(some (decide (a.kind=d)))else(some false))else(some false)):Option Bool).bind λ(c:Bool)=>some c
def f147(b:List cV)(c:bX)(e:Int):Option Int:=(bO (τ:=(Unit⊕Int)) (λ(a:Int)=>bif decide (a<(b.length:Int)) then((ix b a).bind λd=>(f148 d c e).bind λf=>bif f then(some (.inr (.inr a)))else(some (.inl (wr (a+1)))))else(some (.inr (.inl ())))) cr 0).bind (Sum.elim (λ(_:Unit)=>some (-1)) some)
def f90(a:eL)(e:bX)(d:Int):Option (cV×Bool):=(f147 a.s.dm e d).bind λb=>bif decide (b<0) then(some ((⟨0,0,0,0⟩:cV),false))else((ix a.s.dm b).bind λc=>some (c,true))
def f91(b:eL)(a:bX)(g:cV):Option Bool:=(f90 b a 2).bind λj=>(f90 b a 3).bind λh=>((bif (!j.2)then(bif (!h.2)then((ix b.bW a.part).bind λc=>(ix c a.fj).bind λi=>bif decide (g.time=i.bP) then((ix b.s.dL a.part).bind λf=>(ix f a.fj).bind λd=>some (jo d (⟨0,0⟩:aQ)))else(some false))else(some false))else(some false)):Option Bool).bind λ(e:Bool)=>some e
def f92(a:eL)(b:bX):Option Bool:=(ix a.bW b.part).bind λi=>(ix i b.fj).bind λl=>(ix a.s.dL b.part).bind λf=>(ix f b.fj).bind λg=>(bO (τ:=(Unit⊕Bool)) (λ(d:Int)=>bif decide (d<b.part) then((ix a.bW d).bind λe=>(bO (τ:=(Unit⊕(Int⊕(Unit⊕Bool)))) (λ(c:Int)=>bif decide (c<(e.length:Int)) then((((ix e c).bind λk=>((bif decide (k.bP≠l.bP) then(some true)else((ix a.s.dL d).bind λn=>(ix n c).bind λh=>some (!(jo h g)))):Option Bool).bind λ(m:Bool)=>bif m then(some (.inl ()))else((f90 a (⟨d,c⟩:bX) 1).bind λj=>bif (!j.2)then(some (.inr (.inr (.inr (.inr (.inr true))))))else(some (.inl ())))):Option (Unit⊕(Int⊕(Unit⊕(Int⊕(Unit⊕Bool)))))).bind (Sum.elim (λ(_:Unit)=>some (.inl (wr (c+1)))) some))else(some (.inr (.inl ())))) cr 0).bind (Sum.elim (λ(_:Unit)=>some (.inl (wr (d+1)))) some))else(some (.inr (.inl ())))) cr 0).bind (Sum.elim (λ(_:Unit)=>some false) some)
def f149(c:bp)(e:aQ)(d:Int):Option Bool:=(f144 c e).bind λa=>((bif decide (a.2=0) then(some (decide (a.1=d)))else(some false)):Option Bool).bind λ(b:Bool)=>some b
def f151(a:dX)(b:bH)(d:aQ)(e:eL):Option Bool:=((bif decide (a.bP=b.bP) then(bif decide (a.aW=d.aW) then(some (decide (a.bU=(wr (b.bU+e.s.shift)))))else(some false))else(some false)):Option Bool).bind λ(c:Bool)=>some c
def f150(b:List dX)(c:bH)(e:aQ)(f:eL):Option Int:=(bO (τ:=(Unit⊕Int)) (λ(a:Int)=>bif decide (a<(b.length:Int)) then((ix b a).bind λd=>(f151 d c e f).bind λg=>bif g then(some (.inr (.inr a)))else(some (.inl (wr (a+1)))))else(some (.inr (.inl ())))) cr 0).bind (Sum.elim (λ(_:Unit)=>some (-1)) some)
def f93(a:eL)(c:bX):Option (Bool×List Bool):=(ix a.bW c.part).bind λh=>(ix h c.fj).bind λd=>(ix a.s.dL c.part).bind λg=>(ix g c.fj).bind λf=>(f149 a.s.bE.instrument f (wr (d.bU+a.s.shift))).bind λk=>bif (!k)then(some (false,a.kl))else((f150 a.notes d f a).bind λb=>bif decide (b<0) then(some (false,a.kl))else((ix a.kl b).bind λm=>(f90 (⟨a.bW,a.s,a.notes,(a.kl.set b.toNat true)⟩:eL) c 3).bind λe=>bif e.2 then(((bif decide (e.1.time<d.dr) then((ix a.notes b).bind λi=>some (decide (i.dr=e.1.time)))else(some false)):Option Bool).bind λ(j:Bool)=>some (j,(a.kl.set b.toNat true)))else((ix a.notes b).bind λl=>some ((decide (d.dr<=l.dr)),(a.kl.set b.toNat true)))))
def f34(a:eL)(b:bX):Option (Bool×List Bool):=(f90 a b 1).bind λc=>bif c.2 then((f91 a b (⟨c.1.part,c.1.fj,c.1.kind,c.1.time⟩:cV)).bind λi=>some (i,a.kl))else((f90 a b 2).bind λd=>(((f92 a b).bind λh=>bif (!(d.2==h))then(some true)else(bif d.2 then((ix a.bW b.part).bind λg=>(ix g b.fj).bind λf=>some (decide (d.1.time≠f.bP)))else(some false))):Option Bool).bind λ(j:Bool)=>bif j then(some (false,a.kl))else((f93 a b).bind λe=>some (e.1,e.2)))
def f12(b:List (List bH))(c:cW):Option Int:=(f21 b).bind λk=>bif decide (k≠0) then(some k)else((f30 c.bE).bind λj=>bif decide (j≠0) then(some j)else((((f31 c.shift (-24) 24).bind λl=>bif (!l)then(some true)else(some (decide ((c.dL.length:Int)≠(b.length:Int))))):Option Bool).bind λ(p:Bool)=>bif p then(some 1)else((bO (τ:=(Unit⊕Int)) (λ(d:Int)=>bif decide (d<(b.length:Int)) then((ix b d).bind λn=>(ix c.dL d).bind λm=>bif decide ((m.length:Int)≠(n.length:Int)) then(some (.inr (.inr 1)))else(some (.inl (wr (d+1)))))else(some (.inr (.inl ())))) cr 0).bind (Sum.elim (λ(_:Unit)=>(f32 c.bE).bind λa=>bif decide (a.2≠0) then(some a.2)else(bZ (0<=(a.1.length:Int))<|bZ ((a.1.length:Int)<=(bc:Int))<|(f33 (⟨b,c,a.1,(List.replicate (a.1.length:Int).toNat (false:Bool))⟩:eL)).bind λr=>bif (!r)then(some 82)else((bO (τ:=((List Bool)⊕Int)) (λ((i,e):(List Bool×Int))=>bif decide (e<(b.length:Int)) then((ix b e).bind λq=>(bO (τ:=((List Bool)⊕((List Bool×Int)⊕((List Bool)⊕Int)))) (λ((h,f):(List Bool×Int))=>bif decide (f<(q.length:Int)) then((f34 (⟨b,c,a.1,h⟩:eL) (⟨e,f⟩:bX)).bind λg=>bif (!g.1)then(some (.inr (.inr (.inr (.inr 82)))))else(some (.inl (g.2,wr (f+1)))))else(some (.inr (.inl h)))) cr (i,0)).bind (Sum.elim (λ(o:(List Bool))=>some (.inl (o,wr (e+1)))) some))else(some (.inr (.inl i)))) cr ((List.replicate (a.1.length:Int).toNat (false:Bool)),0)).bind (Sum.elim (λ(s:(List Bool))=>(f35 s false).bind λt=>bif t then(some 82)else(some 0)) some)))) some))))
def f36(a:bp)(b:bp):Option Bool:=((bif decide ((a.bQ.length:Int)≠(b.bQ.length:Int)) then(some true)else(some (decide ((a.br.length:Int)≠(b.br.length:Int))))):Option Bool).bind λ(h:Bool)=>bif h then(some false)else((bO (τ:=(Unit⊕Bool)) (λ(c:Int)=>bif decide (c<(a.bQ.length:Int)) then((ix a.bQ c).bind λf=>(ix b.bQ c).bind λe=>bif (!(sY f e))then(some (.inr (.inr false)))else(some (.inl (wr (c+1)))))else(some (.inr (.inl ())))) cr 0).bind (Sum.elim (λ(_:Unit)=>(bO (τ:=(Unit⊕Bool)) (λ(d:Int)=>bif decide (d<(a.br.length:Int)) then((ix a.br d).bind λi=>(ix b.br d).bind λg=>bif decide (i≠g) then(some (.inr (.inr false)))else(some (.inl (wr (d+1)))))else(some (.inr (.inl ())))) cr 0).bind (Sum.elim (λ(_:Unit)=>some true) some)) some))
def f39(b:List cC)(c:List cC):Option Bool:=bif decide ((b.length:Int)≠(c.length:Int)) then(some false)else((bO (τ:=(Unit⊕Bool)) (λ(a:Int)=>bif decide (a<(b.length:Int)) then((ix b a).bind λd=>(ix c a).bind λe=>bif (!(zG d e))then(some (.inr (.inr false)))else(some (.inl (wr (a+1)))))else(some (.inr (.inl ())))) cr 0).bind (Sum.elim (λ(_:Unit)=>some true) some))
def f38(a:bJ)(b:bJ):Option Bool:=((bif (a.kJ==b.kJ)then(bif (kX a.sign b.sign)then(bif (a.tie==b.tie)then((f39 a.cR b.cR).bind λd=>some d)else(some false))else(some false))else(some false)):Option Bool).bind λ(c:Bool)=>some c
def f37(b:List bJ)(c:List bJ):Option Bool:=bif decide ((b.length:Int)≠(c.length:Int)) then(some false)else((bO (τ:=(Unit⊕Bool)) (λ(a:Int)=>bif decide (a<(b.length:Int)) then((ix b a).bind λd=>(ix c a).bind λe=>(f38 d e).bind λf=>bif (!f)then(some (.inr (.inr false)))else(some (.inl (wr (a+1)))))else(some (.inr (.inl ())))) cr 0).bind (Sum.elim (λ(_:Unit)=>some true) some))
def f13(a:cD)(b:cD):Option Bool:=(((f36 a.instrument b.instrument).bind λd=>bif d then((f37 a.aY b.aY).bind λe=>some e)else(some false)):Option Bool).bind λ(c:Bool)=>some c
def f4(f:List (List bH))(e:List kF):Option Bool:=(f5 f e).bind λs=>bif s then((f6).bind λp=>some p)else((f7 f e).bind λb=>bif decide (b.2.2≠0) then((f6).bind λz=>some z)else((((f11 b.1).bind λq=>bif decide (q≠0) then(some true)else(bif decide ((b.2.1.length:Int)≠(e.length:Int)) then(some true)else(some (decide ((b.1.pieces.length:Int)≠(e.length:Int)))))):Option Bool).bind λ(t:Bool)=>bif t then(some false)else((bO (τ:=(Unit⊕Bool)) (λ(d:Int)=>bif decide (d<(e.length:Int)) then((ix e d).bind λl=>(bO (τ:=((List (List bH))⊕(Int⊕(Unit⊕Bool)))) (λ((j,i):(List (List bH)×Int))=>bif decide (i<(l.bW.length:Int)) then((ix l.bW i).bind λh=>((bif decide (h<0) then(some true)else(some (decide ((f.length:Int)<=h)))):Option Bool).bind λ(v:Bool)=>bif v then(some (.inr (.inr (.inr (.inr false)))))else((ix f h).bind λr=>bZ (j.length+1<=bc)<|some (.inl ((j++([r]:List (List bH))),wr (i+1)))))else(some (.inr (.inl j)))) cr (([]:List (List bH)),0)).bind (Sum.elim (λ(w:(List (List bH)))=>(ix b.2.1 d).bind λa=>(((f12 w a).bind λm=>bif decide (m≠0) then(some true)else((ix b.1.pieces d).bind λx=>some (decide ((x.aY.length:Int)<(a.bE.aY.length:Int))))):Option Bool).bind λ(o:Bool)=>bif o then(some (.inr (.inr false)))else((ix b.1.pieces d).bind λc=>bZ (0<=(a.bE.aY.length:Int))<|bZ ((a.bE.aY.length:Int).toNat<=c.aY.length)<|(f13 (⟨c.instrument,((c.aY.take (a.bE.aY.length:Int).toNat).drop 0)⟩:cD) a.bE).bind λy=>bif (!y)then(some (.inr (.inr false)))else((bO (τ:=(Unit⊕(Int⊕(Unit⊕Bool)))) (λ(g:Int)=>bif (decide (g<(((c.aY.take c.aY.length).drop (a.bE.aY.length:Int).toNat).length:Int)))then((ix ((c.aY.take c.aY.length).drop (a.bE.aY.length:Int).toNat) g).bind λk=>((bif k.tie then(some true)else(bif k.kJ then(some true)else(some (decide (0<(k.cR.length:Int)))))):Option Bool).bind λ(n:Bool)=>bif n then(some (.inr (.inr (.inr (.inr false)))))else(some (.inl (wr (g+1)))))else(some (.inr (.inl ())))) cr 0).bind (Sum.elim (λ(_:Unit)=>some (.inl (wr (d+1)))) some)))) some))else(some (.inr (.inl ())))) cr 0).bind (Sum.elim (λ(_:Unit)=>(f6).bind λu=>some u) some))))
end
end Go.Proofs.YtgpciecmgoppiaaGreat
