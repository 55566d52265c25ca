/-
 Functions of the program as Lean functions,and the walks. Written by a program of ours.
-/
import Derived.Test.YtodkhgjhodmeoaaGreatV4a
namespace Go.Proofs.YtodkhgjhodmeoaaGreat
open Go Go.Am
set_option maxRecDepth 100000
set_option linter.all false
noncomputable def c119 (k:Nat):Code:=nthC (subs (Tryz.f119.body.getD .skip)) k
noncomputable def c175 (k:Nat):Code:=nthC (subs (Tryz.f175.body.getD .skip)) k
noncomputable def c176 (k:Nat):Code:=nthC (subs (Tryz.f176.body.getD .skip)) k
noncomputable def c120 (k:Nat):Code:=nthC (subs (Tryz.f120.body.getD .skip)) k
noncomputable def c54 (k:Nat):Code:=nthC (subs (Tryz.f54.body.getD .skip)) k
def f119 (a0:GInstrument) (a1:GPlace):Option Int:=(ix a0.courses (wr (a1.course - 1))).bind fun y1=>((bif (decide (0 < a1.fret)) then ((ix a0.steps (wr (a1.fret - 1))).bind fun y3=>some (wr (y1.pitch + y3))) else (some y1.pitch)):Option Int).bind fun (j1_5:Int)=>some j1_5
theorem f119_ok (a0:GInstrument) (a1:GPlace) (r:Int) (h:f119 a0 a1 = some r):APure Tryz.prog 119 [E_GInstrument a0,E_GPlace a1] (.i r):=by
 refine apure (clK (cl_GInstrument a0) (clK (cl_GPlace a1) clZ)) rfl ?_
 refine wf 27 [.tmp 4] (c119 0) ?_
 unfold f119 at h
 obtain ⟨y1,hy1,h⟩:=bindE h
 obtain ⟨j1_5,hj1,h⟩:=bindE h
 refine W 2 [.n,.r [{},{},{},{},{},{ k:=1,x:=E_GCourse y1 }]] (cjC ((ixE hy1).1) (cj1 (mapGet E_GCourse (ixE hy1).2))) ?_
 refine wG (fun (j1_5:Int)=>(zipE [5] [.i j1_5])) (fun (j1_5:Int)=>⟨[],2⟩) (fun j=>j1_5 = j) (fun kj1=>?_) ?_
 ·rcases iteE hj1 with ⟨hc2,hj1⟩ | ⟨hc2,hj1⟩
  ·obtain ⟨y3,hy3,hj1⟩:=bindE hj1
   replace hj1:=Option.some.inj hj1; subst hj1
   exact wX 5 [.t,.r [{},{},{},{},{},{},{ k:=1,x:=AV.i y3 }]] (cjC hc2 (cjC ((ixE hy3).1) (cj1 (mapGet AV.i (ixE hy3).2)))) (kj1 (wr (y1.pitch + y3)) rfl)
  ·replace hj1:=Option.some.inj hj1; subst hj1
   exact wX 5 [.f] (cj1 hc2) (kj1 y1.pitch rfl)
 ·rintro _ rfl
  replace h:=Option.some.inj h; subst h
  exact wR 2 [] cj0
def f175 (a0:GPiece) (a1:Int) (a2:Int):Option Int:=(loopN (σ:=Int) (τ:=Int) (fun (l1_7:Int)=>((bif (decide (l1_7 < (a0.events.length:Int))) then ((ix a0.events l1_7).bind fun y2=>bif (decide ((y2.stops.length:Int) = 0)) then (some y2.tie) else (some false)) else (some false)):Option Bool).bind fun (j2_34:Bool)=>bif j2_34 then (some (.inl (wr (l1_7 + 1)))) else (some (.inr l1_7))) FUEL (wr ((wr (a1 + a2)) + 1))).bind fun (l1x_7:Int)=>some l1x_7
theorem f175_ok (a0:GPiece) (a1:Int) (a2:Int) (r:Int) (h:f175 a0 a1 a2 = some r):APure Tryz.prog 175 [E_GPiece a0,.i a1,.i a2] (.i r):=by
 refine apure (clK (cl_GPiece a0) (clK rfl (clK rfl clZ))) rfl ?_
 refine wf 38 [.tmp 6] (c175 0) ?_
 unfold f175 at h
 obtain ⟨l1x_7,hll1x,h⟩:=bindE h
 refine W 2 [] cj0 ?_
 refine wG (fun (l1x_7:Int)=>(zipE [7] [.i l1x_7])) (fun (l1x_7:Int)=>⟨[],1⟩) (fun j=>l1x_7 = j) (fun kl1=>?_) ?_
 ·let s_0:St:=⟨[(0,.cells 3 [E_GPiece a0])],1⟩
  refine wL 2 [] cj0 hll1x 1 (fun (l1_7:Int)=>(zipE [3,7] [.mp 0 0 0,.i l1_7])) (fun (l1_7:Int)=>s_0) ?_
  rintro l1_7 out hl1 rl1 Kl1
  obtain ⟨j2_34,hj2,hl1⟩:=bindE hl1
  refine W 1 [] cj0 ?_
  refine wG (fun (j2_34:Bool)=>(zipE [3,7,34] [.mp 0 0 0,.i l1_7,.bool j2_34])) (fun (j2_34:Bool)=>s_0) (fun j=>j2_34 = j) (fun kj2=>?_) ?_
  ·rcases iteE hj2 with ⟨hc1,hj2⟩ | ⟨hc1,hj2⟩
   ·obtain ⟨y2,hy2,hj2⟩:=bindE hj2
    rcases iteE hj2 with ⟨hc3,hj2⟩ | ⟨hc3,hj2⟩
    ·replace hj2:=Option.some.inj hj2; subst hj2
     exact wX 1 [.r [{},{},{},{ k:=1,n:=a0.events.length },{},{},{},{},{},{ k:=1,x:=E_GEvent y2 },{},{},{ k:=1,n:=y2.stops.length },{},{ k:=1,b:=true },{},{},{},{},{ k:=1,x:=E_GEvent y2 },{},{},{ k:=1,b:=true }]] (cjC (mapLen a0.events E_GEvent) (cjC hc1 (cjC hc1 (cjC hc1 (cjC hc1 (cjC ((ixE hy2).1) (cjC (mapGet E_GEvent (ixE hy2).2) (cjC hc1 (cjC hc1 (cjC hc1 (cjC (mapLen y2.stops E_GStop) (cjC hc1 (cjC hc1 (cjC hc3 (cjC hc3 (cjC hc3 (cjC hc3 (cjC ((ixE hy2).1) (cjC (mapGet E_GEvent (ixE hy2).2) (cjC hc3 (cjC hc3 (cj1 hc3)))))))))))))))))))))) (kj2 y2.tie rfl)
    ·replace hj2:=Option.some.inj hj2; subst hj2
     exact wX 1 [.r [{},{},{},{ k:=1,n:=a0.events.length },{},{},{},{},{},{ k:=1,x:=E_GEvent y2 },{},{},{ k:=1,n:=y2.stops.length },{},{ k:=1,b:=true },{},{ g:=false },{ g:=false },{ g:=false },{ g:=false },{ g:=false },{ g:=false },{ k:=1,b:=false }]] (cjC (mapLen a0.events E_GEvent) (cjC hc1 (cjC hc1 (cjC hc1 (cjC hc1 (cjC ((ixE hy2).1) (cjC (mapGet E_GEvent (ixE hy2).2) (cjC hc1 (cjC hc1 (cjC hc1 (cjC (mapLen y2.stops E_GStop) (cjC hc1 (cjC hc1 (cjC hc3 (cjC hc3 (cjC hc3 (cjC hc3 (cjC hc3 (cjC hc3 (cj1 hc3)))))))))))))))))))) (kj2 false rfl)
   ·replace hj2:=Option.some.inj hj2; subst hj2
    exact wX 1 [.r [{},{},{},{ k:=1,n:=a0.events.length },{},{},{ g:=false },{ g:=false },{ g:=false },{ g:=false },{ g:=false },{ g:=false },{ g:=false },{ g:=false },{ k:=1,b:=false },{},{ g:=false },{ g:=false },{ g:=false },{ g:=false },{ g:=false },{ g:=false }]] (cjC (mapLen a0.events E_GEvent) (cjC hc1 (cjC hc1 (cjC hc1 (cjC hc1 (cjC hc1 (cjC hc1 (cjC hc1 (cjC hc1 (cjC hc1 (cjC (Eq.refl false) (cjC (Eq.refl false) (cjC (Eq.refl false) (cjC (Eq.refl false) (cjC (Eq.refl false) (cj1 (Eq.refl false))))))))))))))))) (kj2 false rfl)
  ·rintro _ rfl
   rcases iteE hl1 with ⟨hc4,hl1⟩ | ⟨hc4,hl1⟩
   ·replace hl1:=Option.some.inj hl1; subst hl1
    exact wX 6 [.t] (cj1 hc4) (Kl1.n _ rfl)
   ·replace hl1:=Option.some.inj hl1; subst hl1
    have hr:=rl1 _ rfl
    subst hr
    exact wX 6 [.f] (cjC hc4 (cj1 (Kl1.o _ rfl))) (kl1 l1_7 rfl)
 ·rintro _ rfl
  replace h:=Option.some.inj h; subst h
  exact wR 2 [] cj0
def f176 (a0:GPiece) (a1:Int) (a2:Int):Option Int:=(loopN (σ:=Int) (τ:=(Unit ⊕ Int)) (fun (l1_7:Int)=>bif (decide (l1_7 < (a0.events.length:Int))) then ((((ix a0.events l1_7).bind fun y2=>(f206 y2).bind fun r3=>bif r3 then (some true) else ((f207 y2 a2).bind fun r5=>some r5)):Option Bool).bind fun (j2_31:Bool)=>bif j2_31 then (some (.inr (.inr l1_7))) else (some (.inl (wr (l1_7 + 1))))) else (some (.inr (.inl ())))) FUEL (wr (a1 + 1))).bind (Sum.elim (fun (_:Unit)=>some (a0.events.length:Int)) some)
theorem f176_ok (a0:GPiece) (a1:Int) (a2:Int) (r:Int) (h:f176 a0 a1 a2 = some r):APure Tryz.prog 176 [E_GPiece a0,.i a1,.i a2] (.i r):=by
 refine apure (clK (cl_GPiece a0) (clK rfl (clK rfl clZ))) rfl ?_
 refine wf 36 [.tmp 6] (c176 0) ?_
 unfold f176 at h
 obtain ⟨ol1x,hll1x,h⟩:=bindE h
 refine W 3 [] cj0 ?_
 let b_0:Blk:=.cells 3 [E_GPiece a0]
 refine wJ (fun (_:Unit)=>(zipE [3] [.mp 0 0 0])) (fun (_:Unit)=>⟨[(0,b_0)],1⟩) (fun j=>ol1x = .inl j) (fun kl1=>?_) ?_
 ·refine wL 1 [] cj0 hll1x 1 (fun (l1_7:Int)=>(zipE [2,3,7] [.i a2,.mp 0 0 0,.i l1_7])) (fun (l1_7:Int)=>⟨[(0,b_0)],1⟩) ?_
  rintro l1_7 out hl1 rl1 Kl1
  refine W 2 [.r [{},{},{},{ k:=1,n:=a0.events.length }]] (cj1 (mapLen a0.events E_GEvent)) ?_
  rcases iteE hl1 with ⟨hc1,hl1⟩ | ⟨hc1,hl1⟩
  ·obtain ⟨j2_31,hj2,hl1⟩:=bindE hl1
   refine W 5 [.t] (cj1 hc1) ?_
   refine wG (fun (j2_31:Bool)=>(zipE [2,3,7,31] [.i a2,.mp 0 0 0,.i l1_7,.bool j2_31])) (fun (j2_31:Bool)=>⟨[(0,b_0)],1⟩) (fun j=>j2_31 = j) (fun kj2=>?_) ?_
   ·obtain ⟨y2,hy2,hj2⟩:=bindE hj2
    obtain ⟨r3,hr3,hj2⟩:=bindE hj2
    rcases iteE hj2 with ⟨hc4,hj2⟩ | ⟨hc4,hj2⟩
    ·replace hj2:=Option.some.inj hj2; subst hj2
     exact wX 1 [.r [{},{},{},{ k:=1,x:=E_GEvent y2 },{},{ k:=7,x:=.bool r3 },{},{ g:=false },{ g:=false },{ g:=false },{ g:=false },{ g:=false },{ g:=false },{ g:=false },{ k:=1,b:=true }]] (cjC ((ixE hy2).1) (cjC (mapGet E_GEvent (ixE hy2).2) (cjC (f206_ok y2 _ hr3) (cjC hc4 (cjC hc4 (cjC hc4 (cjC hc4 (cjC hc4 (cjC hc4 (cjC hc4 (cj1 hc4))))))))))) (kj2 true rfl)
    ·obtain ⟨r5,hr5,hj2⟩:=bindE hj2
     replace hj2:=Option.some.inj hj2; subst hj2
     exact wX 1 [.r [{},{},{},{ k:=1,x:=E_GEvent y2 },{},{ k:=7,x:=.bool r3 },{},{},{},{},{ k:=1,x:=E_GEvent y2 },{},{},{ k:=7,x:=.bool r5 },{ k:=1,b:=false }]] (cjC ((ixE hy2).1) (cjC (mapGet E_GEvent (ixE hy2).2) (cjC (f206_ok y2 _ hr3) (cjC hc4 (cjC hc4 (cjC hc4 (cjC hc4 (cjC ((ixE hy2).1) (cjC (mapGet E_GEvent (ixE hy2).2) (cjC hc4 (cjC hc4 (cjC hc4 (cjC (f207_ok y2 a2 _ hr5) (cj1 hc4)))))))))))))) (kj2 r5 rfl)
   ·rintro _ rfl
    rcases iteE hl1 with ⟨hc6,hl1⟩ | ⟨hc6,hl1⟩
    ·replace hl1:=Option.some.inj hl1; subst hl1
     have hr:=rl1 _ rfl
     subst hr
     replace h:=elimR h
     replace h:=Option.some.inj h; subst h
     exact wR 8 [.t] (cjC hc6 (cj1 (Kl1.o _ rfl)))
    ·replace hl1:=Option.some.inj hl1; subst hl1
     exact wX 5 [.f] (cj1 hc6) (Kl1.n _ rfl)
  ·replace hl1:=Option.some.inj hl1; subst hl1
   have hr:=rl1 _ rfl
   subst hr
   exact wX 5 [.f] (cjC hc1 (cj1 (Kl1.o _ rfl))) (kl1 () rfl)
 ·rintro ⟨⟩ rfl
  replace h:=elimL h
  replace h:=Option.some.inj h; subst h
  exact wR 3 [.r [{},{},{ k:=1,n:=a0.events.length }]] (cj1 (mapLen a0.events E_GEvent))
def f120 (a0:GPiece) (a1:Int) (a2:GStop):Option Int:=bif (decide (0 < a2.fret)) then ((f175 a0 a1 a2.hold).bind fun r2=>some r2) else ((f176 a0 a1 a2.course).bind fun r3=>some r3)
theorem f120_ok (a0:GPiece) (a1:Int) (a2:GStop) (r:Int) (h:f120 a0 a1 a2 = some r):APure Tryz.prog 120 [E_GPiece a0,.i a1,E_GStop a2] (.i r):=by
 refine apure (clK (cl_GPiece a0) (clK rfl (clK (cl_GStop a2) clZ))) rfl ?_
 refine wf 20 [.tmp 6] (c120 0) ?_
 unfold f120 at h
 rcases iteE h with ⟨hc1,h⟩ | ⟨hc1,h⟩
 ·obtain ⟨r2,hr2,h⟩:=bindE h
  replace h:=Option.some.inj h; subst h
  exact wR 7 [.t,.r [{},{},{},{},{ k:=7,x:=.i r2 }]] (cjC hc1 (cj1 (f175_ok a0 a1 a2.hold _ hr2)))
 ·obtain ⟨r3,hr3,h⟩:=bindE h
  replace h:=Option.some.inj h; subst h
  exact wR 8 [.f,.r [{},{},{},{},{ k:=7,x:=.i r3 }]] (cjC hc1 (cj1 (f176_ok a0 a1 a2.course _ hr3)))
def f54 (a0:GPiece):Option (((List GNote)) × Int):=(f118 a0).bind fun r1=>bif (decide (r1.2 ≠ 0)) then (some (([]:List GNote),r1.2)) else ((loopN (σ:=(List GNote × Int)) (τ:=(List GNote)) (fun ((l1_6,l1_7):(List GNote × Int))=>bif (decide (l1_7 < (a0.events.length:Int))) then ((loopN (σ:=(List GNote × Int)) (τ:=(List GNote)) (fun ((l2_6,l2_8):(List GNote × Int))=>(ix a0.events l1_7).bind fun y4=>bif (decide (l2_8 < (y4.stops.length:Int))) then ((ix y4.stops l2_8).bind fun y6=>(f119 a0.instrument (⟨y6.course,y6.fret⟩:GPlace)).bind fun r7=>(ix r1.1 l1_7).bind fun y8=>(f120 a0 l1_7 y6).bind fun r9=>(ix r1.1 r9).bind fun y10=>need (l2_6.length + 1 ≤ maxElems) <| some (.inl ((l2_6 ++ [(⟨l1_7,y6.course,r7,y8,y10⟩:GNote)]),(wr (l2_8 + 1))))) else (some (.inr l2_6))) FUEL (l1_6,0)).bind fun (l2x_6:(List GNote))=>some (.inl (l2x_6,(wr (l1_7 + 1))))) else (some (.inr l1_6))) FUEL (([]:List GNote),0)).bind fun (l1x_6:(List GNote))=>some (l1x_6,0))
theorem f54_ok (a0:GPiece) (r:(((List GNote)) × Int)) (h:f54 a0 = some r):APure Tryz.prog 54 [E_GPiece a0] (.tup [.sl false (r.1.map E_GNote),.i r.2]):=by
 refine apure (clK (cl_GPiece a0) clZ) (clK (cleanMap r.1 _ cl_GNote) (clK rfl clZ)) ?_
 refine wf 74 [.tmp 2,.tmp 3] (c54 0) ?_
 unfold f54 at h
 obtain ⟨r1,hr1,h⟩:=bindE h
 let v_0:AV:=.sl false (r1.1.map AV.i)
 refine W 4 [.n,.r [{},{ k:=7,x:=.tup [v_0,.i r1.2] }]] (cj1 (f118_ok a0 _ hr1)) ?_
 rcases iteE h with ⟨hc2,h⟩ | ⟨hc2,h⟩
 ·refine wT 2 [.t] (cj1 hc2) [2,3] [.sl true [],.i r1.2] ⟨[],1⟩ (wI 1 [] [2,3] [.sl true [],.i r1.2] (xs:=[.sl false (([]:List GNote).map E_GNote),.i r1.2]) (S2:=⟨[],1⟩) ?_ r0 (.k (.s (cleanMap (([]:List GNote)) _ cl_GNote)) (.k (.c rfl) .z)) .z)
  replace h:=Option.some.inj h; subst h
  exact wR 2 [] cj0
 ·obtain ⟨l1x_6,hll1x,h⟩:=bindE h
  refine W 6 [.f] (cj1 hc2) ?_
  refine wJ (fun (l1x_6:(List GNote))=>(zipE [6] [.ms 1 0 l1x_6.length])) (fun (l1x_6:(List GNote))=>⟨[(1,.cells 5 (l1x_6.map E_GNote))],2⟩) (fun j=>l1x_6 = j) (fun kl1=>?_) ?_
  ·let b_0:Blk:=.cells 3 [E_GPiece a0]
   refine wLi 1 [] cj0 hll1x 1 (fun ((l1_6,l1_7):(List GNote × Int))=>(zipE [1,4,6,7] [.mp 0 0 0,v_0,.ms 1 0 l1_6.length,.i l1_7])) (fun ((l1_6,l1_7):(List GNote × Int))=>⟨[(1,.cells 5 (l1_6.map E_GNote)),(0,b_0)],2⟩) [1,4,6,7] [.mp 0 0 0,v_0,.sl true [],.i 0] ⟨[(0,b_0)],1⟩ (see_into r0 (mkInto (L:=[(1,1000000)]) (base:=1) (ks:=[1,4,6,7]) (ys:=[.mp 0 0 0,v_0,.sl true [],.i 0]) (by kernel_rfl) (by kernel_rfl) (.k (.mp rfl rfl) (.k (.c (cleanMap _ _ cl_i)) (.k (.n) (.k (.c rfl) .z)))) (.n rfl rfl rfl (.k rfl (.cells (.k (.c (cl_GPiece a0)) .z)) .z)))) ?_
   rintro ⟨l1_6,l1_7⟩ out hl1 rl1 Kl1
   refine W 2 [.r [{},{},{},{ k:=1,n:=a0.events.length }]] (cj1 (mapLen a0.events E_GEvent)) ?_
   rcases iteE hl1 with ⟨hc3,hl1⟩ | ⟨hc3,hl1⟩
   ·obtain ⟨l2x_6,hll2x,hl1⟩:=bindE hl1
    refine W 6 [.t] (cj1 hc3) ?_
    refine wJ (fun (l2x_6:(List GNote))=>(zipE [1,4,6,7] [.mp 0 0 0,v_0,.ms 2 0 l2x_6.length,.i l1_7])) (fun (l2x_6:(List GNote))=>⟨[(2,.cells 5 (l2x_6.map E_GNote)),(0,b_0)],3⟩) (fun j=>l2x_6 = j) (fun kl2=>?_) ?_
    ·refine wLi 1 [] cj0 hll2x 2 (fun ((l2_6,l2_8):(List GNote × Int))=>(zipE [1,4,6,7,8] [.mp 0 0 0,v_0,.ms 2 0 l2_6.length,.i l1_7,.i l2_8])) (fun ((l2_6,l2_8):(List GNote × Int))=>⟨[(2,.cells 5 (l2_6.map E_GNote)),(0,b_0)],3⟩) [1,4,6,7,8] [.mp 0 0 0,v_0,.ms 1 0 l1_6.length,.i l1_7,.i 0] ⟨[(1,.cells 5 (l1_6.map E_GNote)),(0,b_0)],2⟩ (see_into r0 (mkInto (L:=[(2,1)]) (base:=2) (ks:=[1,4,6,7,8]) (ys:=[.mp 0 0 0,v_0,.ms 1 0 l1_6.length,.i l1_7,.i 0]) (by kernel_rfl) (by kernel_rfl) (.k (.mp rfl rfl) (.k (.c (cleanMap _ _ cl_i)) (.k (.ms rfl rfl) (.k (.c rfl) (.k (.c rfl) .z))))) (.k rfl (.cells (.r (cleanMap _ _ cl_GNote))) (.k rfl (.cells (.k (.c (cl_GPiece a0)) .z)) .z)))) ?_
     rintro ⟨l2_6,l2_8⟩ out hl2 rl2 Kl2
     obtain ⟨y4,hy4,hl2⟩:=bindE hl2
     refine W 2 [.r [{},{},{},{},{ k:=1,x:=E_GEvent y4 },{},{},{ k:=1,n:=y4.stops.length }]] (cjC ((ixE hy4).1) (cjC (mapGet E_GEvent (ixE hy4).2) (cj1 (mapLen y4.stops E_GStop)))) ?_
     rcases iteE hl2 with ⟨hc5,hl2⟩ | ⟨hc5,hl2⟩
     ·obtain ⟨y6,hy6,hl2⟩:=bindE hl2
      obtain ⟨r7,hr7,hl2⟩:=bindE hl2
      obtain ⟨y8,hy8,hl2⟩:=bindE hl2
      obtain ⟨r9,hr9,hl2⟩:=bindE hl2
      obtain ⟨y10,hy10,hl2⟩:=bindE hl2
      obtain ⟨hn11,hl2⟩:=needE hl2
      replace hl2:=Option.some.inj hl2; subst hl2
      let w_0:AV:=.agg [.i l1_7,.i y6.course,.i r7,.i y8,.i y10]
      exact wN 11 [.t,.r [{},{},{},{ k:=1,x:=E_GEvent y4 },{},{},{},{ k:=1,x:=E_GStop y6 }],.r [{},{},{},{},{},{},{},{ k:=7,x:=.i r7 }],.r [{},{},{},{},{},{},{},{ k:=1,x:=AV.i y8 },{},{},{},{},{},{ k:=7,x:=.i r9 },{ k:=1,x:=AV.i y10 },{},{},{},{ k:=1,n:=(l2_6 ++ [(⟨l1_7,y6.course,r7,y8,y10⟩:GNote)]).length,l:=(l2_6 ++ [(⟨l1_7,y6.course,r7,y8,y10⟩:GNote)]).map E_GNote }]] (cjC hc5 (cjC ((ixE hy4).1) (cjC (mapGet E_GEvent (ixE hy4).2) (cjC ((ixE hy6).1) (cjC (mapGet E_GStop (ixE hy6).2) (cjC (f119_ok a0.instrument (⟨y6.course,y6.fret⟩:GPlace) _ hr7) (cjC ((ixE hy8).1) (cjC (mapGet AV.i (ixE hy8).2) (cjC (f120_ok a0 l1_7 y6 _ hr9) (cjC (@Eq.refl AV (.i y6.course)) (cjC (@Eq.refl AV (.ip [.i y8])) (cjC ((ixE hy8).1) (cjC (mapGet AV.i (ixE hy8).2) (cjC (@Eq.refl AV (.i y8)) (cjC ((ixE hy10).1) (cjC (mapGet AV.i (ixE hy10).2) (cjC (@List.cons_ne_nil AV (w_0) []) (cjC (mLe l2_6 E_GNote) (cjC hn11 (cjC (lenA l2_6 ([(⟨l1_7,y6.course,r7,y8,y10⟩:GNote)]:List GNote)) (cjC (appA l2_6 ([(⟨l1_7,y6.course,r7,y8,y10⟩:GNote)]:List GNote) E_GNote) (cj1 (fitsOne (P:=Tryz.prog) (t:=96) (x:=w_0) (r:=[]) (by kernel_rfl)))))))))))))))))))))))) [1,4,6,7,8] [.mp 0 0 0,v_0,.ms 4 0 (l2_6 ++ [(⟨l1_7,y6.course,r7,y8,y10⟩:GNote)]).length,.i l1_7,.i (wr (l2_8 + 1))] ⟨[(4,.cells 5 ((l2_6 ++ [(⟨l1_7,y6.course,r7,y8,y10⟩:GNote)]).map E_GNote)),(0,b_0)],5⟩ Kl2 rfl (see_into r0 (mkInto (L:=[(2,4)]) (ks:=[1,4,6,7,8]) (ys:=[.mp 0 0 0,v_0,.ms 4 0 (l2_6 ++ [(⟨l1_7,y6.course,r7,y8,y10⟩:GNote)]).length,.i l1_7,.i (wr (l2_8 + 1))]) (by kernel_rfl) (by kernel_rfl) (.k (.mp rfl rfl) (.k (.c (cleanMap _ _ cl_i)) (.k (.ms rfl rfl) (.k (.c rfl) (.k (.c rfl) .z))))) (.k rfl (.cells (.r (cleanMap _ _ cl_GNote))) (.k rfl (.cells (.k (.c (cl_GPiece a0)) .z)) .z))))
     ·replace hl2:=Option.some.inj hl2; subst hl2
      have hr:=rl2 _ rfl
      subst hr
      exact wX 5 [.f] (cjC hc5 (cj1 (Kl2.o _ rfl))) (kl2 l2_6 rfl)
    ·rintro _ rfl
     replace hl1:=Option.some.inj hl1; subst hl1
     exact wN 3 [] cj0 [1,4,6,7] [.mp 0 0 0,v_0,.ms 2 0 l2x_6.length,.i (wr (l1_7 + 1))] ⟨[(2,.cells 5 (l2x_6.map E_GNote)),(0,b_0)],3⟩ Kl1 rfl (see_into r0 (mkInto (L:=[(1,2)]) (ks:=[1,4,6,7]) (ys:=[.mp 0 0 0,v_0,.ms 2 0 l2x_6.length,.i (wr (l1_7 + 1))]) (by kernel_rfl) (by kernel_rfl) (.k (.mp rfl rfl) (.k (.c (cleanMap _ _ cl_i)) (.k (.ms rfl rfl) (.k (.c rfl) .z)))) (.k rfl (.cells (.r (cleanMap _ _ cl_GNote))) (.k rfl (.cells (.k (.c (cl_GPiece a0)) .z)) .z))))
   ·replace hl1:=Option.some.inj hl1; subst hl1
    have hr:=rl1 _ rfl
    subst hr
    exact wX 5 [.f] (cjC hc3 (cj1 (Kl1.o _ rfl))) (kl1 l1_6 rfl)
  ·rintro _ rfl
   refine wT 2 [] cj0 [2,3] [.ms 1 0 l1x_6.length,.i 0] ⟨[(1,.cells 5 (l1x_6.map E_GNote))],2⟩ (wZ 1 5 (l1x_6.map E_GNote) [2,3] [.ms 1 0 l1x_6.length,.i 0] (xs:=[.sl false (l1x_6.map E_GNote),.i 0]) (S2:=⟨[],2⟩) ?_ (.k (.m (mLe l1x_6 E_GNote) (mapAll l1x_6 E_GNote)) (.k (.r _) .z)) .z)
   replace h:=Option.some.inj h; subst h
   exact wR 1 [] cj0
end Go.Proofs.YtodkhgjhodmeoaaGreat
