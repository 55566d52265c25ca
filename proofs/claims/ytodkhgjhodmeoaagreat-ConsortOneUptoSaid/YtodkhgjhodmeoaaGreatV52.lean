/-
 Functions of the program as Lean functions,and the walks. Written by a program of ours.
-/
import Derived.Test.YtodkhgjhodmeoaaGreatV4a
namespace Go.Proofs.YtodkhgjhodmeoaaGreat
open Go Go.Am
set_option maxRecDepth 100000
set_option linter.all false
noncomputable def c114 (k:Nat):Code:=nthC (subs (Tryz.f114.body.getD .skip)) k
noncomputable def c170 (k:Nat):Code:=nthC (subs (Tryz.f170.body.getD .skip)) k
noncomputable def c204 (k:Nat):Code:=nthC (subs (Tryz.f204.body.getD .skip)) k
noncomputable def c171 (k:Nat):Code:=nthC (subs (Tryz.f171.body.getD .skip)) k
noncomputable def c148 (k:Nat):Code:=nthC (subs (Tryz.f148.body.getD .skip)) k
noncomputable def c172 (k:Nat):Code:=nthC (subs (Tryz.f172.body.getD .skip)) k
noncomputable def c115 (k:Nat):Code:=nthC (subs (Tryz.f115.body.getD .skip)) k
noncomputable def c52 (k:Nat):Code:=nthC (subs (Tryz.f52.body.getD .skip)) k
def f114 (a0:GPiece):Option (GSSounding × Int):=(f41 a0).bind fun r1=>some ((⟨a0,r1.1⟩:GSSounding),r1.2)
theorem f114_ok (a0:GPiece) (r:(GSSounding × Int)) (h:f114 a0 = some r):APure Tryz.prog 114 [E_GPiece a0] (.tup [E_GSSounding r.1,.i r.2]):=by
 refine apure (clK (cl_GPiece a0) clZ) (clK (cl_GSSounding r.1) (clK rfl clZ)) ?_
 refine wf 15 [.cell 2 177,.tmp 3] (c114 0) ?_
 unfold f114 at h
 obtain ⟨r1,hr1,h⟩:=bindE h
 replace h:=Option.some.inj h; subst h
 exact wR 4 [.n,.r [{},{ k:=7,x:=.tup [.sl false (r1.1.map AV.i),.i r1.2] }]] (cj1 (f41_ok a0 _ hr1))
def f170 (a0:Int) (a1:Int) (a2:List Int) (a3:List GNote):Option (List GNote × List Int):=need (a0 < 15) <| (ix a2 a0).bind fun y2=>bif (decide (0 < y2)) then ((ix a3 (wr (y2 - 1))).bind fun y4=>some ((a3.set (wr (y2 - 1)).toNat (⟨y4.event,y4.course,y4.pitch,y4.from_,a1⟩:GNote)),(a2.set a0.toNat 0))) else (some (a3,a2))
theorem f170_ok (a0:Int) (a1:Int) (a2:List Int) (a3:List GNote) (r:(List GNote × List Int)) (h:f170 a0 a1 a2 a3 = some r):ACalls Tryz.prog 170 [.i a0,.i a1,.mp 0 0 0,.mp 1 0 0] ⟨[(2,.cells 5 (a3.map E_GNote)),(1,.cells 1 [.ms 2 0 a3.length]),(0,.cells 15 [.agg (a2.map AV.i)])],3⟩ (fun y t=>y = .tup [] ∧ t = ⟨[(2,.cells 5 (r.1.map E_GNote)),(1,.cells 1 [.ms 2 0 r.1.length]),(0,.cells 15 [.agg (r.2.map AV.i)])],3⟩):=by
 refine wf 20 [] (c170 0) ?_
 unfold f170 at h
 obtain ⟨hn1,h⟩:=needE h
 obtain ⟨y2,hy2,h⟩:=bindE h
 refine W 2 [.r [{},{ k:=1,n:=a0.toNat },{ k:=2,x:=.i y2 }]] (cjC ((ixE hy2).1) (cjC hn1 (cjC (vecOff a0.toNat) (cj1 (mapGet AV.i (ixE hy2).2))))) ?_
 rcases iteE h with ⟨hc3,h⟩ | ⟨hc3,h⟩
 ·obtain ⟨y4,hy4,h⟩:=bindE h
  let b_0:Blk:=.cells 5 ((a3.set (wr (y2 - 1)).toNat (⟨y4.event,y4.course,y4.pitch,y4.from_,a1⟩:GNote)).map E_GNote)
  let b_1:Blk:=.cells 15 [.agg (a2.map AV.i)]
  refine wT 2 [.t,.r [{},{},{},{},{ k:=1,n:=(wr (y2 - 1)).toNat },{},{ k:=1,x:=E_GNote y4,l:=(a3.set (wr (y2 - 1)).toNat (⟨y4.event,y4.course,y4.pitch,y4.from_,a1⟩:GNote)).map E_GNote }]] (cjC hc3 (cjC ((ixE hy4).1) (cjC (ixLt hy4) (cjC (Nat.zero_add (wr (y2 - 1)).toNat) (cjC (mapGet E_GNote (ixE hy4).2) (cjC ((by decide:(5:Nat) ≤ 5)) (cj1 (mapSet a3 E_GNote (wr (y2 - 1)).toNat (⟨y4.event,y4.course,y4.pitch,y4.from_,a1⟩:GNote))))))))) [0,2] [.i a0,.mp 0 0 0] ⟨[(2,b_0),(1,.cells 1 [.ms 2 0 a3.length]),(0,b_1)],3⟩ (wI 3 [] [0,2] [.i a0,.mp 0 0 0] (xs:=[.i a0,.mp 0 0 0]) (S2:=⟨[(2,b_0),(1,.cells 1 [.ms 2 0 (a3.set (wr (y2 - 1)).toNat (⟨y4.event,y4.course,y4.pitch,y4.from_,a1⟩:GNote)).length]),(0,b_1)],3⟩) ?_ r0 (.k (.c rfl) (.k (.mp rfl rfl) .z)) (.k (x':=b_0) (by kernel_rfl) (.cells (.r (cleanMap _ _ cl_GNote))) (.k rfl (.cells (.k (.e rfl rfl (by simp)) .z)) (.k (x':=b_1) (by kernel_rfl) (.cells (.k (.a (.r (cleanMap _ _ cl_i))) .z)) .z))))
  replace h:=Option.some.inj h; subst h
  exact wP 1 [.r [{},{ k:=1,n:=a0.toNat },{ k:=1,x:=.agg (a2.map AV.i),l:=[.agg ((a2.set a0.toNat 0).map AV.i)] }]] (cjC ((ixE hy2).1) (cjC hn1 (cjC (vecOff a0.toNat) (cjC (@Eq.refl (Option AV) (some (.agg (a2.map AV.i)))) (cjC (vecLe AV.i hy2) (cj1 (vecSet AV.i hy2 0))))))) ⟨rfl,rfl⟩
 ·replace h:=Option.some.inj h; subst h
  exact wP 2 [.f] (cj1 hc3) ⟨rfl,rfl⟩
def f204 (a0:GInstrument) (a1:GCourse) (a2:Int):Option Int:=bif (decide (a2 = 0)) then (some a1.pitch) else ((ix a0.steps (wr (a2 - 1))).bind fun y2=>some (wr (a1.pitch + y2)))
theorem f204_ok (a0:GInstrument) (a1:GCourse) (a2:Int) (r:Int) (h:f204 a0 a1 a2 = some r):APure Tryz.prog 204 [E_GInstrument a0,E_GCourse a1,.i a2] (.i r):=by
 refine apure (clK (cl_GInstrument a0) (clK (cl_GCourse a1) (clK rfl clZ))) rfl ?_
 refine wf 20 [.tmp 6] (c204 0) ?_
 unfold f204 at h
 rcases iteE h with ⟨hc1,h⟩ | ⟨hc1,h⟩
 ·replace h:=Option.some.inj h; subst h
  exact wR 7 [.t] (cj1 hc1)
 ·obtain ⟨y2,hy2,h⟩:=bindE h
  replace h:=Option.some.inj h; subst h
  exact wR 8 [.f,.r [{},{},{},{},{},{},{ k:=1,x:=AV.i y2 }]] (cjC hc1 (cjC ((ixE hy2).1) (cj1 (mapGet AV.i (ixE hy2).2))))
def f171 (a0:GInstrument) (a1:GPlace):Option (Int × Int):=(f104 a0).bind fun r1=>bif (decide (r1 ≠ 0)) then (some (0,r1)) else (((bif (decide (a1.course < 1)) then (some true) else (some (decide ((a0.courses.length:Int) < a1.course)))):Option Bool).bind fun (j1_23:Bool)=>bif j1_23 then (some (0,12)) else ((ix a0.courses (wr (a1.course - 1))).bind fun y5=>((bif (decide (a1.fret < 0)) then (some true) else (some (decide (y5.frets < a1.fret)))):Option Bool).bind fun (j2_40:Bool)=>bif j2_40 then (some (0,13)) else ((f204 a0 y5 a1.fret).bind fun r8=>some (r8,0))))
theorem f171_ok (a0:GInstrument) (a1:GPlace) (r:(Int × Int)) (h:f171 a0 a1 = some r):APure Tryz.prog 171 [E_GInstrument a0,E_GPlace a1] (.tup [.i r.1,.i r.2]):=by
 refine apure (clK (cl_GInstrument a0) (clK (cl_GPlace a1) clZ)) (clK rfl (clK rfl clZ)) ?_
 refine wf 46 [.tmp 4,.tmp 5] (c171 0) ?_
 unfold f171 at h
 obtain ⟨r1,hr1,h⟩:=bindE h
 refine W 4 [.n,.r [{},{ k:=7,x:=.i r1 }]] (cj1 (f104_ok a0 _ hr1)) ?_
 rcases iteE h with ⟨hc2,h⟩ | ⟨hc2,h⟩
 ·replace h:=Option.some.inj h; subst h
  exact wR 4 [.t] (cj1 hc2)
 ·obtain ⟨j1_23,hj1,h⟩:=bindE h
  refine W 4 [.f] (cj1 hc2) ?_
  refine wG (fun (j1_23:Bool)=>(zipE [2,3,23] [.mp 0 0 0,.mp 1 0 0,.bool j1_23])) (fun (j1_23:Bool)=>⟨[(1,.cells 2 [E_GPlace a1]),(0,.cells 2 [E_GInstrument a0])],2⟩) (fun j=>j1_23 = j) (fun kj1=>?_) ?_
  ·rcases iteE hj1 with ⟨hc3,hj1⟩ | ⟨hc3,hj1⟩
   ·replace hj1:=Option.some.inj hj1; subst hj1
    exact wX 1 [.r [{},{},{},{},{ g:=false },{ g:=false },{ g:=false },{ g:=false },{ g:=false },{ g:=false },{ k:=1,b:=true }]] (cjC hc3 (cjC hc3 (cjC hc3 (cjC hc3 (cjC hc3 (cjC hc3 (cj1 hc3))))))) (kj1 true rfl)
   ·replace hj1:=Option.some.inj hj1; subst hj1
    exact wX 1 [.r [{},{},{},{},{},{},{},{},{ k:=1,n:=a0.courses.length },{},{ k:=1,b:=false }]] (cjC hc3 (cjC hc3 (cjC hc3 (cjC hc3 (cjC hc3 (cjC (mapLen a0.courses E_GCourse) (cjC hc3 (cj1 hc3)))))))) (kj1 (decide ((a0.courses.length:Int) < a1.course)) rfl)
  ·rintro _ rfl
   rcases iteE h with ⟨hc4,h⟩ | ⟨hc4,h⟩
   ·replace h:=Option.some.inj h; subst h
    exact wR 4 [.t] (cj1 hc4)
   ·obtain ⟨y5,hy5,h⟩:=bindE h
    obtain ⟨j2_40,hj2,h⟩:=bindE h
    refine W 5 [.f,.r [{},{},{},{},{},{ k:=1,x:=E_GCourse y5 }]] (cjC hc4 (cjC ((ixE hy5).1) (cj1 (mapGet E_GCourse (ixE hy5).2)))) ?_
    refine wG (fun (j2_40:Bool)=>(zipE [2,3,7,40] [.mp 0 0 0,.mp 1 0 0,.mp 2 0 0,.bool j2_40])) (fun (j2_40:Bool)=>⟨[(2,.cells 3 [E_GCourse y5]),(1,.cells 2 [E_GPlace a1]),(0,.cells 2 [E_GInstrument a0])],3⟩) (fun j=>j2_40 = j) (fun kj2=>?_) ?_
    ·rcases iteE hj2 with ⟨hc6,hj2⟩ | ⟨hc6,hj2⟩
     ·replace hj2:=Option.some.inj hj2; subst hj2
      exact wX 1 [.r [{},{},{},{},{ g:=false },{ g:=false },{ g:=false },{ g:=false },{ g:=false },{ k:=1,b:=true }]] (cjC hc6 (cjC hc6 (cjC hc6 (cjC hc6 (cjC hc6 (cj1 hc6)))))) (kj2 true rfl)
     ·replace hj2:=Option.some.inj hj2; subst hj2
      exact wX 1 [.r [{},{},{},{},{},{},{},{},{},{ k:=1,b:=false }]] (cjC hc6 (cjC hc6 (cjC hc6 (cjC hc6 (cjC hc6 (cj1 hc6)))))) (kj2 (decide (y5.frets < a1.fret)) rfl)
    ·rintro _ rfl
     rcases iteE h with ⟨hc7,h⟩ | ⟨hc7,h⟩
     ·replace h:=Option.some.inj h; subst h
      exact wR 4 [.t] (cj1 hc7)
     ·obtain ⟨r8,hr8,h⟩:=bindE h
      replace h:=Option.some.inj h; subst h
      exact wR 5 [.f,.r [{},{},{},{},{ k:=7,x:=.i r8 }]] (cjC hc7 (cj1 (f204_ok a0 y5 a1.fret _ hr8)))
def f148 (a0:GSSounding):Option Int:=(ix a0.onsets (wr ((a0.onsets.length:Int) - 1))).bind fun y1=>some y1
theorem f148_ok (a0:GSSounding) (r:Int) (h:f148 a0 = some r):APure Tryz.prog 148 [E_GSSounding a0] (.i r):=by
 refine apure (clK (cl_GSSounding a0) clZ) rfl ?_
 refine wf 11 [.tmp 2] (c148 0) ?_
 unfold f148 at h
 obtain ⟨y1,hy1,h⟩:=bindE h
 replace h:=Option.some.inj h; subst h
 exact wR 3 [.n,.r [{},{},{},{},{ k:=1,n:=a0.onsets.length },{},{ k:=1,x:=AV.i y1 }]] (cjC (mapLen a0.onsets AV.i) (cjC ((ixE hy1).1) (cj1 (mapGet AV.i (ixE hy1).2))))
def f172 (a0:GSSounding) (a1:Int) (a2:Int):Option Int:=(loopN (σ:=Int) (τ:=Int) (fun (l1_7:Int)=>((bif (decide ((wr (l1_7 + 1)) < (a0.p.events.length:Int))) then ((ix a0.p.events (wr (l1_7 + 1))).bind fun y2=>some y2.tie) else (some false)):Option Bool).bind fun (j2_27:Bool)=>bif j2_27 then (some (.inl (wr (l1_7 + 1)))) else (some (.inr l1_7))) FUEL (wr (a1 + a2))).bind fun (l1x_7:Int)=>some l1x_7
theorem f172_ok (a0:GSSounding) (a1:Int) (a2:Int) (r:Int) (h:f172 a0 a1 a2 = some r):APure Tryz.prog 172 [E_GSSounding a0,.i a1,.i a2] (.i r):=by
 refine apure (clK (cl_GSSounding a0) (clK rfl (clK rfl clZ))) rfl ?_
 refine wf 31 [.tmp 6] (c172 0) ?_
 unfold f172 at h
 obtain ⟨l1x_7,hll1x,h⟩:=bindE h
 refine W 2 [] cj0 ?_
 refine wG (fun (l1x_7:Int)=>(zipE [7] [.i l1x_7])) (fun (l1x_7:Int)=>⟨[],1⟩) (fun j=>l1x_7 = j) (fun kl1=>?_) ?_
 ·let s_0:St:=⟨[(0,.cells 4 [E_GSSounding a0])],1⟩
  refine wL 2 [] cj0 hll1x 1 (fun (l1_7:Int)=>(zipE [3,7] [.mp 0 0 0,.i l1_7])) (fun (l1_7:Int)=>s_0) ?_
  rintro l1_7 out hl1 rl1 Kl1
  obtain ⟨j2_27,hj2,hl1⟩:=bindE hl1
  refine W 1 [] cj0 ?_
  refine wG (fun (j2_27:Bool)=>(zipE [3,7,27] [.mp 0 0 0,.i l1_7,.bool j2_27])) (fun (j2_27:Bool)=>s_0) (fun j=>j2_27 = j) (fun kj2=>?_) ?_
  ·rcases iteE hj2 with ⟨hc1,hj2⟩ | ⟨hc1,hj2⟩
   ·obtain ⟨y2,hy2,hj2⟩:=bindE hj2
    replace hj2:=Option.some.inj hj2; subst hj2
    exact wX 1 [.r [{},{},{},{},{},{ k:=1,n:=a0.p.events.length },{},{},{},{},{},{},{},{ k:=1,x:=E_GEvent y2 },{},{},{ k:=1,b:=true }]] (cjC (mapLen a0.p.events E_GEvent) (cjC hc1 (cjC hc1 (cjC hc1 (cjC hc1 (cjC hc1 (cjC hc1 (cjC ((ixE hy2).1) (cjC (mapGet E_GEvent (ixE hy2).2) (cjC hc1 (cjC hc1 (cj1 hc1)))))))))))) (kj2 y2.tie rfl)
   ·replace hj2:=Option.some.inj hj2; subst hj2
    exact wX 1 [.r [{},{},{},{},{},{ k:=1,n:=a0.p.events.length },{},{},{ g:=false },{ g:=false },{ g:=false },{ g:=false },{ g:=false },{ g:=false },{ g:=false },{ g:=false },{ k:=1,b:=false }]] (cjC (mapLen a0.p.events E_GEvent) (cjC hc1 (cjC hc1 (cjC hc1 (cjC hc1 (cjC hc1 (cjC hc1 (cjC hc1 (cjC hc1 (cj1 hc1)))))))))) (kj2 false rfl)
  ·rintro _ rfl
   rcases iteE hl1 with ⟨hc3,hl1⟩ | ⟨hc3,hl1⟩
   ·replace hl1:=Option.some.inj hl1; subst hl1
    exact wX 6 [.t] (cj1 hc3) (Kl1.n _ rfl)
   ·replace hl1:=Option.some.inj hl1; subst hl1
    have hr:=rl1 _ rfl
    subst hr
    exact wX 6 [.f] (cjC hc3 (cj1 (Kl1.o _ rfl))) (kl1 l1_7 rfl)
 ·rintro _ rfl
  replace h:=Option.some.inj h; subst h
  exact wR 2 [] cj0
def f115 (a0:GSSounding):Option (((List GNote)) × ((List GSPress))):=(loopN (σ:=(List GNote × List GSPress × List Int × Int)) (τ:=(List GNote × List GSPress)) (fun ((l1_h1,l1_5,l1_h2,l1_22):(List GNote × List GSPress × List Int × Int))=>bif (decide (l1_22 < (a0.p.events.length:Int))) then ((ix a0.p.events l1_22).bind fun y2=>(ix a0.onsets l1_22).bind fun y3=>((((bif (decide ((y2.stops.length:Int) = 0)) then (some (!y2.tie)) else (some false)):Option Bool).bind fun (j3_40:Bool)=>bif j3_40 then ((loopN (σ:=(List GNote × List Int × Int)) (τ:=(List GNote × List Int)) (fun ((l4_h1,l4_h2,l4_41):(List GNote × List Int × Int))=>bif (decide (l4_41 < 15)) then ((f170 l4_41 y3 l4_h2 l4_h1).bind fun r7=>some (.inl (r7.1,r7.2,(wr (l4_41 + 1))))) else (some (.inr (l4_h1,l4_h2)))) FUEL (l1_h1,l1_h2,0)).bind fun ((l4x_h1,l4x_h2):(List GNote × List Int))=>some (l4x_h1,l4x_h2)) else (some (l1_h1,l1_h2))):Option (List GNote × List Int)).bind fun ((j2_h1,j2_h2):(List GNote × List Int))=>(loopN (σ:=(List GNote × List GSPress × List Int × Int)) (τ:=(List GNote × List GSPress × List Int)) (fun ((l5_h1,l5_5,l5_h2,l5_52):(List GNote × List GSPress × List Int × Int))=>bif (decide (l5_52 < (y2.stops.length:Int))) then ((ix y2.stops l5_52).bind fun y9=>(f170 y9.course y3 l5_h2 l5_h1).bind fun r10=>(f171 a0.p.instrument (⟨y9.course,y9.fret⟩:GPlace)).bind fun r11=>(f148 a0).bind fun r12=>((bif (decide (0 < y9.fret)) then ((f172 a0 l1_22 y9.hold).bind fun r14=>(ix a0.onsets (wr (r14 + 1))).bind fun y15=>some (r10.2,y15)) else (need (y9.course < 15) <| (ix r10.2 y9.course).bind fun y17=>some ((r10.2.set y9.course.toNat (wr ((r10.1.length:Int) + 1))),r12))):Option (List Int × Int)).bind fun ((j6_h2,j6_h9_4):(List Int × Int))=>need (r10.1.length + 1 ≤ maxElems) <| need (l5_5.length + 1 ≤ maxElems) <| some (.inl ((r10.1 ++ [(⟨l1_22,y9.course,r11.1,y3,j6_h9_4⟩:GNote)]),(l5_5 ++ [(⟨l1_22,y9.course,y9.fret,y3,j6_h9_4⟩:GSPress)]),j6_h2,(wr (l5_52 + 1))))) else (some (.inr (l5_h1,l5_5,l5_h2)))) FUEL (j2_h1,l1_5,j2_h2,0)).bind fun ((l5x_h1,l5x_5,l5x_h2):(List GNote × List GSPress × List Int))=>some (.inl (l5x_h1,l5x_5,l5x_h2,(wr (l1_22 + 1))))) else (some (.inr (l1_h1,l1_5)))) FUEL (([]:List GNote),([]:List GSPress),(List.replicate 15 (0:Int)),0)).bind fun ((l1x_h1,l1x_5):(List GNote × List GSPress))=>some (l1x_h1,l1x_5)
theorem f115_ok (a0:GSSounding) (r:(((List GNote)) × ((List GSPress)))) (h:f115 a0 = some r):APure Tryz.prog 115 [E_GSSounding a0] (.tup [.sl false (r.1.map E_GNote),.sl false (r.2.map E_GSPress)]):=by
 refine apure (clK (cl_GSSounding a0) clZ) (clK (cleanMap r.1 _ cl_GNote) (clK (cleanMap r.2 _ cl_GSPress) clZ)) ?_
 refine wf 122 [.tmp 2,.tmp 3] (c115 0) ?_
 unfold f115 at h
 obtain ⟨ol1x,hll1x,h⟩:=bindE h
 refine W 7 [.n,.n,.n,.n,.n,.r [{},{},{},{ k:=1,n:=a0.p.events.length }]] (cj1 (mapLen a0.p.events E_GEvent)) ?_
 refine wJ (fun ((l1x_h1,l1x_5):(List GNote × List GSPress))=>(zipE [4,5] [.mp 1 0 0,.ms 4 0 l1x_5.length])) (fun ((l1x_h1,l1x_5):(List GNote × List GSPress))=>⟨[(4,.cells 5 (l1x_5.map E_GSPress)),(3,.cells 5 (l1x_h1.map E_GNote)),(1,.cells 1 [.ms 3 0 l1x_h1.length])],5⟩) (fun j=>ol1x = j) (fun kl1=>?_) ?_
 ·let v_0:AV:=.sl false (a0.p.events.map E_GEvent)
  let v_1:AV:=.i (a0.p.events.length:Int)
  let w_0:AV:=.fn 170 [.mp 2 0 0,.mp 1 0 0]
  let b_0:Blk:=.cells 15 [.agg ((List.replicate 15 (0:Int)).map AV.i)]
  let b_1:Blk:=.cells 4 [E_GSSounding a0]
  refine wLi 1 [] cj0 hll1x 3 (fun ((l1_h1,l1_5,l1_h2,l1_22):(List GNote × List GSPress × List Int × Int))=>(zipE [1,4,5,6,7,20,21,22] [.mp 0 0 0,.mp 1 0 0,.ms 4 0 l1_5.length,.mp 2 0 0,w_0,v_0,v_1,.i l1_22])) (fun ((l1_h1,l1_5,l1_h2,l1_22):(List GNote × List GSPress × List Int × Int))=>⟨[(4,.cells 5 (l1_5.map E_GSPress)),(3,.cells 5 (l1_h1.map E_GNote)),(2,.cells 15 [.agg (l1_h2.map AV.i)]),(1,.cells 1 [.ms 3 0 l1_h1.length]),(0,b_1)],5⟩) [1,4,5,6,7,20,21,22] [.mp 0 0 0,.mp 1 0 0,.sl true [],.mp 2 0 0,w_0,v_0,v_1,.i 0] ⟨[(2,b_0),(1,.cells 1 [.sl true []]),(0,b_1)],3⟩ (see_into r0 (mkInto (L:=[(3,1000000),(4,1000001)]) (base:=3) (ks:=[1,4,5,6,7,20,21,22]) (ys:=[.mp 0 0 0,.mp 1 0 0,.sl true [],.mp 2 0 0,w_0,v_0,v_1,.i 0]) (by kernel_rfl) (by kernel_rfl) (.k (.mp rfl rfl) (.k (.mp rfl rfl) (.k (.n) (.k (.mp rfl rfl) (.k (.f (.k (.mp rfl rfl) (.k (.mp rfl rfl) .z))) (.k (.c (cleanMap _ _ cl_GEvent)) (.k (.c rfl) (.k (.c rfl) .z)))))))) (.n rfl rfl rfl (.n rfl rfl rfl (.k (x':=b_0) (by kernel_rfl) (.cells (.k (.a (.r (cleanMap _ _ cl_i))) .z)) (.k rfl (.cells (.k (.n) .z)) (.k rfl (.cells (.k (.c (cl_GSSounding a0)) .z)) .z))))))) ?_
  rintro ⟨l1_h1,l1_5,l1_h2,l1_22⟩ out hl1 rl1 Kl1
  rcases iteE hl1 with ⟨hc1,hl1⟩ | ⟨hc1,hl1⟩
  ·obtain ⟨y2,hy2,hl1⟩:=bindE hl1
   obtain ⟨y3,hy3,hl1⟩:=bindE hl1
   obtain ⟨oj2,hj2,hl1⟩:=bindE hl1
   refine W 9 [.t,.r [{},{ k:=1,x:=E_GEvent y2 }],.r [{},{},{},{ k:=1,x:=AV.i y3 }]] (cjC hc1 (cjC ((ixE hy2).1) (cjC (mapGet E_GEvent (ixE hy2).2) (cjC ((ixE hy3).1) (cj1 (mapGet AV.i (ixE hy3).2)))))) ?_
   let v_2:AV:=.ms 4 0 l1_5.length
   let b_2:Blk:=.cells 5 (l1_5.map E_GSPress)
   let b_3:Blk:=.cells 6 [E_GEvent y2]
   refine wG (fun ((j2_h1,j2_h2):(List GNote × List Int))=>(zipE [1,4,5,6,7,8,9,10,20,21,22] [.mp 0 0 0,.mp 1 0 0,v_2,.mp 2 0 0,w_0,.i l1_22,.mp 5 0 0,.i y3,v_0,v_1,.i l1_22])) (fun ((j2_h1,j2_h2):(List GNote × List Int))=>⟨[(5,b_3),(4,b_2),(3,.cells 5 (j2_h1.map E_GNote)),(2,.cells 15 [.agg (j2_h2.map AV.i)]),(1,.cells 1 [.ms 3 0 j2_h1.length]),(0,b_1)],6⟩) (fun j=>oj2 = j) (fun kj2=>?_) ?_
   ·obtain ⟨j3_40,hj3,hj2⟩:=bindE hj2
    refine W 1 [] cj0 ?_
    refine wG (fun (j3_40:Bool)=>(zipE [1,4,5,6,7,8,9,10,20,21,22,40] [.mp 0 0 0,.mp 1 0 0,v_2,.mp 2 0 0,w_0,.i l1_22,.mp 5 0 0,.i y3,v_0,v_1,.i l1_22,.bool j3_40])) (fun (j3_40:Bool)=>⟨[(5,b_3),(4,b_2),(3,.cells 5 (l1_h1.map E_GNote)),(2,.cells 15 [.agg (l1_h2.map AV.i)]),(1,.cells 1 [.ms 3 0 l1_h1.length]),(0,b_1)],6⟩) (fun j=>j3_40 = j) (fun kj3=>?_) ?_
    ·rcases iteE hj3 with ⟨hc4,hj3⟩ | ⟨hc4,hj3⟩
     ·replace hj3:=Option.some.inj hj3; subst hj3
      exact wX 1 [.r [{},{},{ k:=1,n:=y2.stops.length },{},{},{},{},{},{ k:=1,b:=true }]] (cjC (mapLen y2.stops E_GStop) (cjC hc4 (cjC hc4 (cjC hc4 (cj1 hc4))))) (kj3 (!y2.tie) rfl)
     ·replace hj3:=Option.some.inj hj3; subst hj3
      exact wX 1 [.r [{},{},{ k:=1,n:=y2.stops.length },{},{},{ g:=false },{ g:=false },{ g:=false },{ k:=1,b:=false }]] (cjC (mapLen y2.stops E_GStop) (cjC hc4 (cjC hc4 (cjC hc4 (cj1 hc4))))) (kj3 false rfl)
    ·rintro _ rfl
     rcases iteE hj2 with ⟨hc5,hj2⟩ | ⟨hc5,hj2⟩
     ·obtain ⟨ol4x,hll4x,hj2⟩:=bindE hj2
      refine W 2 [.t] (cj1 hc5) ?_
      refine wJ (fun ((l4x_h1,l4x_h2):(List GNote × List Int))=>(zipE [1,4,5,6,7,8,9,10,20,21,22] [.mp 0 0 0,.mp 1 0 0,v_2,.mp 2 0 0,w_0,.i l1_22,.mp 5 0 0,.i y3,v_0,v_1,.i l1_22])) (fun ((l4x_h1,l4x_h2):(List GNote × List Int))=>⟨[(5,b_3),(4,b_2),(3,.cells 5 (l4x_h1.map E_GNote)),(2,.cells 15 [.agg (l4x_h2.map AV.i)]),(1,.cells 1 [.ms 3 0 l4x_h1.length]),(0,b_1)],6⟩) (fun j=>ol4x = j) (fun kl4=>?_) ?_
      ·refine wL 1 [] cj0 hll4x 6 (fun ((l4_h1,l4_h2,l4_41):(List GNote × List Int × Int))=>(zipE [1,4,5,6,7,8,9,10,20,21,22,41] [.mp 0 0 0,.mp 1 0 0,v_2,.mp 2 0 0,w_0,.i l1_22,.mp 5 0 0,.i y3,v_0,v_1,.i l1_22,.i l4_41])) (fun ((l4_h1,l4_h2,l4_41):(List GNote × List Int × Int))=>⟨[(5,b_3),(4,b_2),(3,.cells 5 (l4_h1.map E_GNote)),(2,.cells 15 [.agg (l4_h2.map AV.i)]),(1,.cells 1 [.ms 3 0 l4_h1.length]),(0,b_1)],6⟩) ?_
       rintro ⟨l4_h1,l4_h2,l4_41⟩ out hl4 rl4 Kl4
       rcases iteE hl4 with ⟨hc6,hl4⟩ | ⟨hc6,hl4⟩
       ·obtain ⟨r7,hr7,hl4⟩:=bindE hl4
        replace hl4:=Option.some.inj hl4; subst hl4
        let b_4:Blk:=.cells 15 [.agg (r7.2.map AV.i)]
        let b_5:Blk:=.cells 5 (r7.1.map E_GNote)
        let s_0:St:=⟨[(5,b_3),(4,b_2),(3,b_5),(2,b_4),(1,.cells 1 [.ms 3 0 r7.1.length]),(0,b_1)],6⟩
        exact wX 12 [.t,.n,.r [{},{},{},{ c:=some (.tup [],s_0) }]] (cjC hc6 (cj1 (callF (f170_ok l4_41 y3 l4_h2 l4_h1 _ hr7) [(0,2),(1,1),(2,3)] [(3,2),(1,1),(2,0)] [5,4,0] [.i l4_41,.i y3,.mp 2 0 0,.mp 1 0 0] ⟨[(5,b_3),(4,b_2),(3,.cells 5 (l4_h1.map E_GNote)),(2,.cells 15 [.agg (l4_h2.map AV.i)]),(1,.cells 1 [.ms 3 0 l4_h1.length]),(0,b_1)],6⟩ (.tup []) s_0 (by kernel_rfl) (.k (.c rfl) (.k (.c rfl) (.k (.mp rfl rfl) (.k (.mp rfl rfl) .z)))) (.t .z) (.k rfl (.cells (.r (cleanMap _ _ cl_GNote))) (.k rfl (.cells (.k (.ms rfl rfl) .z)) (.k (x':=.cells 15 [.agg (l4_h2.map AV.i)]) (by kernel_rfl) (.cells (.k (.a (.r (cleanMap _ _ cl_i))) .z)) .z))) (.f rfl (by kernel_rfl) (.f rfl (by kernel_rfl) (.d (x':=b_5) rfl (by kernel_rfl) (.cells (.r (cleanMap _ _ cl_GNote))) (.d (x':=b_4) rfl (by kernel_rfl) (.cells (.k (.a (.r (cleanMap _ _ cl_i))) .z)) (.d (x':=.cells 1 [.ms 2 0 r7.1.length]) rfl (by kernel_rfl) (.cells (.k (.ms rfl rfl) .z)) (.f rfl (by kernel_rfl) .z))))))))) (Kl4.n _ rfl)
       ·replace hl4:=Option.some.inj hl4; subst hl4
        have hr:=rl4 _ rfl
        subst hr
        exact wX 7 [.f] (cjC hc6 (cj1 (Kl4.o _ rfl))) (kl4 (l4_h1,l4_h2) rfl)
      ·rintro ⟨l4x_h1,l4x_h2⟩ rfl
       replace hj2:=Option.some.inj hj2; subst hj2
       exact wX 1 [] cj0 (kj2 (l4x_h1,l4x_h2) rfl)
     ·replace hj2:=Option.some.inj hj2; subst hj2
      exact wX 3 [.f] (cj1 hc5) (kj2 (l1_h1,l1_h2) rfl)
   ·rintro ⟨j2_h1,j2_h2⟩ rfl
    obtain ⟨ol5x,hll5x,hl1⟩:=bindE hl1
    refine W 1 [.r [{},{},{ k:=1,n:=y2.stops.length }]] (cj1 (mapLen y2.stops E_GStop)) ?_
    refine wJ (fun ((l5x_h1,l5x_5,l5x_h2):(List GNote × List GSPress × List Int))=>(zipE [1,4,5,6,7,20,21,22] [.mp 0 0 0,.mp 1 0 0,.ms 7 0 l5x_5.length,.mp 2 0 0,w_0,v_0,v_1,.i l1_22])) (fun ((l5x_h1,l5x_5,l5x_h2):(List GNote × List GSPress × List Int))=>⟨[(7,.cells 5 (l5x_5.map E_GSPress)),(6,.cells 5 (l5x_h1.map E_GNote)),(2,.cells 15 [.agg (l5x_h2.map AV.i)]),(1,.cells 1 [.ms 6 0 l5x_h1.length]),(0,b_1)],8⟩) (fun j=>ol5x = j) (fun kl5=>?_) ?_
    ·let v_3:AV:=.sl false (y2.stops.map E_GStop)
     let v_4:AV:=.i (y2.stops.length:Int)
     refine wLi 1 [] cj0 hll5x 6 (fun ((l5_h1,l5_5,l5_h2,l5_52):(List GNote × List GSPress × List Int × Int))=>(zipE [1,4,5,6,7,8,10,20,21,22,50,51,52] [.mp 0 0 0,.mp 1 0 0,.ms 7 0 l5_5.length,.mp 2 0 0,w_0,.i l1_22,.i y3,v_0,v_1,.i l1_22,v_3,v_4,.i l5_52])) (fun ((l5_h1,l5_5,l5_h2,l5_52):(List GNote × List GSPress × List Int × Int))=>⟨[(7,.cells 5 (l5_5.map E_GSPress)),(6,.cells 5 (l5_h1.map E_GNote)),(2,.cells 15 [.agg (l5_h2.map AV.i)]),(1,.cells 1 [.ms 6 0 l5_h1.length]),(0,b_1)],8⟩) [1,4,5,6,7,8,10,20,21,22,50,51,52] [.mp 0 0 0,.mp 1 0 0,v_2,.mp 2 0 0,w_0,.i l1_22,.i y3,v_0,v_1,.i l1_22,v_3,v_4,.i 0] ⟨[(4,b_2),(3,.cells 5 (j2_h1.map E_GNote)),(2,.cells 15 [.agg (j2_h2.map AV.i)]),(1,.cells 1 [.ms 3 0 j2_h1.length]),(0,b_1)],6⟩ (see_into r0 (mkInto (L:=[(6,3),(7,4)]) (base:=6) (ks:=[1,4,5,6,7,8,10,20,21,22,50,51,52]) (ys:=[.mp 0 0 0,.mp 1 0 0,v_2,.mp 2 0 0,w_0,.i l1_22,.i y3,v_0,v_1,.i l1_22,v_3,v_4,.i 0]) (by kernel_rfl) (by kernel_rfl) (.k (.mp rfl rfl) (.k (.mp rfl rfl) (.k (.ms rfl rfl) (.k (.mp rfl rfl) (.k (.f (.k (.mp rfl rfl) (.k (.mp rfl rfl) .z))) (.k (.c rfl) (.k (.c rfl) (.k (.c (cleanMap _ _ cl_GEvent)) (.k (.c rfl) (.k (.c rfl) (.k (.c (cleanMap _ _ cl_GStop)) (.k (.c rfl) (.k (.c rfl) .z))))))))))))) (.k rfl (.cells (.r (cleanMap _ _ cl_GSPress))) (.k rfl (.cells (.r (cleanMap _ _ cl_GNote))) (.k (x':=.cells 15 [.agg (j2_h2.map AV.i)]) (by kernel_rfl) (.cells (.k (.a (.r (cleanMap _ _ cl_i))) .z)) (.k rfl (.cells (.k (.ms rfl rfl) .z)) (.k rfl (.cells (.k (.c (cl_GSSounding a0)) .z)) .z))))))) ?_
     rintro ⟨l5_h1,l5_5,l5_h2,l5_52⟩ out hl5 rl5 Kl5
     rcases iteE hl5 with ⟨hc8,hl5⟩ | ⟨hc8,hl5⟩
     ·obtain ⟨y9,hy9,hl5⟩:=bindE hl5
      obtain ⟨r10,hr10,hl5⟩:=bindE hl5
      obtain ⟨r11,hr11,hl5⟩:=bindE hl5
      obtain ⟨r12,hr12,hl5⟩:=bindE hl5
      obtain ⟨oj6,hj6,hl5⟩:=bindE hl5
      let v_5:AV:=.ms 6 0 r10.1.length
      let b_6:Blk:=.cells 15 [.agg (r10.2.map AV.i)]
      let b_7:Blk:=.cells 5 (l5_5.map E_GSPress)
      let b_8:Blk:=.cells 5 (r10.1.map E_GNote)
      let b_9:Blk:=.cells 5 [E_GStop y9]
      let s_1:St:=⟨[(8,b_9),(7,b_7),(6,b_8),(2,b_6),(1,.cells 1 [v_5]),(0,b_1)],9⟩
      refine W 11 [.t,.r [{ k:=1,x:=E_GStop y9 }],.r [{},{},{},{},{ c:=some (.tup [],s_1) }],.r [{},{},{},{},{},{},{},{},{ k:=7,x:=.tup [.i r11.1,.i r11.2] }],.r [{},{},{},{},{},{},{ k:=7,x:=.i r12 }]] (cjC hc8 (cjC ((ixE hy9).1) (cjC (mapGet E_GStop (ixE hy9).2) (cjC (callF (f170_ok y9.course y3 l5_h2 l5_h1 _ hr10) [(0,2),(1,1),(2,6)] [(6,2),(1,1),(2,0)] [8,7,0] [.i y9.course,.i y3,.mp 2 0 0,.mp 1 0 0] ⟨[(8,b_9),(7,b_7),(6,.cells 5 (l5_h1.map E_GNote)),(2,.cells 15 [.agg (l5_h2.map AV.i)]),(1,.cells 1 [.ms 6 0 l5_h1.length]),(0,b_1)],9⟩ (.tup []) s_1 (by kernel_rfl) (.k (.c rfl) (.k (.c rfl) (.k (.mp rfl rfl) (.k (.mp rfl rfl) .z)))) (.t .z) (.k rfl (.cells (.r (cleanMap _ _ cl_GNote))) (.k rfl (.cells (.k (.ms rfl rfl) .z)) (.k (x':=.cells 15 [.agg (l5_h2.map AV.i)]) (by kernel_rfl) (.cells (.k (.a (.r (cleanMap _ _ cl_i))) .z)) .z))) (.f rfl (by kernel_rfl) (.f rfl (by kernel_rfl) (.d (x':=b_8) rfl (by kernel_rfl) (.cells (.r (cleanMap _ _ cl_GNote))) (.d (x':=b_6) rfl (by kernel_rfl) (.cells (.k (.a (.r (cleanMap _ _ cl_i))) .z)) (.d (x':=.cells 1 [.ms 2 0 r10.1.length]) rfl (by kernel_rfl) (.cells (.k (.ms rfl rfl) .z)) (.f rfl (by kernel_rfl) .z))))))) (cjC (f171_ok a0.p.instrument (⟨y9.course,y9.fret⟩:GPlace) _ hr11) (cjC (f148_ok a0 _ hr12) (cj1 (@Eq.refl AV (.i y9.course))))))))) ?_
      refine wG (fun ((j6_h2,j6_h9_4):(List Int × Int))=>(zipE [1,4,5,6,7,8,10,13,16,20,21,22,50,51,52] [.mp 0 0 0,.mp 1 0 0,.ms 7 0 l5_5.length,.mp 2 0 0,w_0,.i l1_22,.i y3,.mp 8 0 0,.mp 9 0 0,v_0,v_1,.i l1_22,v_3,v_4,.i l5_52])) (fun ((j6_h2,j6_h9_4):(List Int × Int))=>⟨[(9,.cells 5 [.agg [.i l1_22,.i y9.course,.i r11.1,.i y3,.i j6_h9_4]]),(8,b_9),(7,b_7),(6,b_8),(2,.cells 15 [.agg (j6_h2.map AV.i)]),(1,.cells 1 [v_5]),(0,b_1)],10⟩) (fun j=>oj6 = j) (fun kj6=>?_) ?_
      ·rcases iteE hj6 with ⟨hc13,hj6⟩ | ⟨hc13,hj6⟩
       ·obtain ⟨r14,hr14,hj6⟩:=bindE hj6
        obtain ⟨y15,hy15,hj6⟩:=bindE hj6
        replace hj6:=Option.some.inj hj6; subst hj6
        exact wX 5 [.t,.r [{},{},{},{},{},{},{ k:=7,x:=.i r14 },{},{ k:=1,x:=AV.i y15 }]] (cjC hc13 (cjC (f172_ok a0 l1_22 y9.hold _ hr14) (cjC (@Eq.refl AV (.sl false (a0.onsets.map AV.i))) (cjC ((ixE hy15).1) (cj1 (mapGet AV.i (ixE hy15).2)))))) (kj6 (r10.2,y15) rfl)
       ·obtain ⟨hn16,hj6⟩:=needE hj6
        obtain ⟨y17,hy17,hj6⟩:=bindE hj6
        replace hj6:=Option.some.inj hj6; subst hj6
        exact wX 5 [.f,.r [{},{},{},{},{},{ k:=1,n:=y9.course.toNat },{ k:=1,x:=.agg (r10.2.map AV.i),l:=[.agg ((r10.2.set y9.course.toNat (wr ((r10.1.length:Int) + 1))).map AV.i)] }]] (cjC hc13 (cjC ((ixE hy17).1) (cjC hn16 (cjC (vecOff y9.course.toNat) (cjC (@Eq.refl (Option AV) (some (.agg (r10.2.map AV.i)))) (cjC (vecLe AV.i hy17) (cj1 (vecSet AV.i hy17 (wr ((r10.1.length:Int) + 1)))))))))) (kj6 ((r10.2.set y9.course.toNat (wr ((r10.1.length:Int) + 1))),r12) rfl)
      ·rintro ⟨j6_h2,j6_h9_4⟩ rfl
       obtain ⟨hn18,hl5⟩:=needE hl5
       obtain ⟨hn19,hl5⟩:=needE hl5
       replace hl5:=Option.some.inj hl5; subst hl5
       let w_1:AV:=.agg [.i l1_22,.i y9.course,.i y9.fret,.i y3,.i j6_h9_4]
       let w_2:AV:=.agg [.i l1_22,.i y9.course,.i r11.1,.i y3,.i j6_h9_4]
       exact wN 5 [.r [{},{},{},{ k:=1,n:=(r10.1 ++ [(⟨l1_22,y9.course,r11.1,y3,j6_h9_4⟩:GNote)]).length,l:=(r10.1 ++ [(⟨l1_22,y9.course,r11.1,y3,j6_h9_4⟩:GNote)]).map E_GNote }],.r [{},{},{},{},{},{},{},{},{},{},{},{},{ k:=1,n:=(l5_5 ++ [(⟨l1_22,y9.course,y9.fret,y3,j6_h9_4⟩:GSPress)]).length,l:=(l5_5 ++ [(⟨l1_22,y9.course,y9.fret,y3,j6_h9_4⟩:GSPress)]).map E_GSPress }]] (cjC (@List.cons_ne_nil AV (w_2) []) (cjC (mLe r10.1 E_GNote) (cjC hn18 (cjC (lenA r10.1 ([(⟨l1_22,y9.course,r11.1,y3,j6_h9_4⟩:GNote)]:List GNote)) (cjC (appA r10.1 ([(⟨l1_22,y9.course,r11.1,y3,j6_h9_4⟩:GNote)]:List GNote) E_GNote) (cjC (fitsOne (P:=Tryz.prog) (t:=96) (x:=w_2) (r:=[]) (by kernel_rfl)) (cjC (@List.cons_ne_nil AV (w_1) []) (cjC (mLe l5_5 E_GSPress) (cjC hn19 (cjC (lenA l5_5 ([(⟨l1_22,y9.course,y9.fret,y3,j6_h9_4⟩:GSPress)]:List GSPress)) (cjC (appA l5_5 ([(⟨l1_22,y9.course,y9.fret,y3,j6_h9_4⟩:GSPress)]:List GSPress) E_GSPress) (cj1 (fitsOne (P:=Tryz.prog) (t:=230) (x:=w_1) (r:=[]) (by kernel_rfl)))))))))))))) [1,4,5,6,7,8,10,20,21,22,50,51,52] [.mp 0 0 0,.mp 1 0 0,.ms 11 0 (l5_5 ++ [(⟨l1_22,y9.course,y9.fret,y3,j6_h9_4⟩:GSPress)]).length,.mp 2 0 0,w_0,.i l1_22,.i y3,v_0,v_1,.i l1_22,v_3,v_4,.i (wr (l5_52 + 1))] ⟨[(11,.cells 5 ((l5_5 ++ [(⟨l1_22,y9.course,y9.fret,y3,j6_h9_4⟩:GSPress)]).map E_GSPress)),(10,.cells 5 ((r10.1 ++ [(⟨l1_22,y9.course,r11.1,y3,j6_h9_4⟩:GNote)]).map E_GNote)),(2,.cells 15 [.agg (j6_h2.map AV.i)]),(1,.cells 1 [.ms 10 0 (r10.1 ++ [(⟨l1_22,y9.course,r11.1,y3,j6_h9_4⟩:GNote)]).length]),(0,b_1)],12⟩ Kl5 rfl (see_into r0 (mkInto (L:=[(6,10),(7,11)]) (ks:=[1,4,5,6,7,8,10,20,21,22,50,51,52]) (ys:=[.mp 0 0 0,.mp 1 0 0,.ms 11 0 (l5_5 ++ [(⟨l1_22,y9.course,y9.fret,y3,j6_h9_4⟩:GSPress)]).length,.mp 2 0 0,w_0,.i l1_22,.i y3,v_0,v_1,.i l1_22,v_3,v_4,.i (wr (l5_52 + 1))]) (by kernel_rfl) (by kernel_rfl) (.k (.mp rfl rfl) (.k (.mp rfl rfl) (.k (.ms rfl rfl) (.k (.mp rfl rfl) (.k (.f (.k (.mp rfl rfl) (.k (.mp rfl rfl) .z))) (.k (.c rfl) (.k (.c rfl) (.k (.c (cleanMap _ _ cl_GEvent)) (.k (.c rfl) (.k (.c rfl) (.k (.c (cleanMap _ _ cl_GStop)) (.k (.c rfl) (.k (.c rfl) .z))))))))))))) (.k rfl (.cells (.r (cleanMap _ _ cl_GSPress))) (.k rfl (.cells (.r (cleanMap _ _ cl_GNote))) (.k (x':=.cells 15 [.agg (j6_h2.map AV.i)]) (by kernel_rfl) (.cells (.k (.a (.r (cleanMap _ _ cl_i))) .z)) (.k rfl (.cells (.k (.ms rfl rfl) .z)) (.k rfl (.cells (.k (.c (cl_GSSounding a0)) .z)) .z)))))))
     ·replace hl5:=Option.some.inj hl5; subst hl5
      have hr:=rl5 _ rfl
      subst hr
      exact wX 7 [.f] (cjC hc8 (cj1 (Kl5.o _ rfl))) (kl5 (l5_h1,l5_5,l5_h2) rfl)
    ·rintro ⟨l5x_h1,l5x_5,l5x_h2⟩ rfl
     replace hl1:=Option.some.inj hl1; subst hl1
     exact wN 3 [] cj0 [1,4,5,6,7,20,21,22] [.mp 0 0 0,.mp 1 0 0,.ms 7 0 l5x_5.length,.mp 2 0 0,w_0,v_0,v_1,.i (wr (l1_22 + 1))] ⟨[(7,.cells 5 (l5x_5.map E_GSPress)),(6,.cells 5 (l5x_h1.map E_GNote)),(2,.cells 15 [.agg (l5x_h2.map AV.i)]),(1,.cells 1 [.ms 6 0 l5x_h1.length]),(0,b_1)],8⟩ Kl1 rfl (see_into r0 (mkInto (L:=[(3,6),(4,7)]) (ks:=[1,4,5,6,7,20,21,22]) (ys:=[.mp 0 0 0,.mp 1 0 0,.ms 7 0 l5x_5.length,.mp 2 0 0,w_0,v_0,v_1,.i (wr (l1_22 + 1))]) (by kernel_rfl) (by kernel_rfl) (.k (.mp rfl rfl) (.k (.mp rfl rfl) (.k (.ms rfl rfl) (.k (.mp rfl rfl) (.k (.f (.k (.mp rfl rfl) (.k (.mp rfl rfl) .z))) (.k (.c (cleanMap _ _ cl_GEvent)) (.k (.c rfl) (.k (.c rfl) .z)))))))) (.k rfl (.cells (.r (cleanMap _ _ cl_GSPress))) (.k rfl (.cells (.r (cleanMap _ _ cl_GNote))) (.k (x':=.cells 15 [.agg (l5x_h2.map AV.i)]) (by kernel_rfl) (.cells (.k (.a (.r (cleanMap _ _ cl_i))) .z)) (.k rfl (.cells (.k (.ms rfl rfl) .z)) (.k rfl (.cells (.k (.c (cl_GSSounding a0)) .z)) .z)))))))
  ·replace hl1:=Option.some.inj hl1; subst hl1
   have hr:=rl1 _ rfl
   subst hr
   exact wX 7 [.f] (cjC hc1 (cj1 (Kl1.o _ rfl))) (kl1 (l1_h1,l1_5) rfl)
 ·rintro ⟨l1x_h1,l1x_5⟩ rfl
  let v_6:AV:=.sl false (l1x_5.map E_GSPress)
  let v_7:AV:=.ms 3 0 l1x_h1.length
  let b_10:Blk:=.cells 5 (l1x_h1.map E_GNote)
  refine wT 2 [] cj0 [2,3] [v_7,.ms 4 0 l1x_5.length] ⟨[(4,.cells 5 (l1x_5.map E_GSPress)),(3,b_10)],5⟩ (wZ 4 5 (l1x_5.map E_GSPress) [2,3] [v_7,.ms 4 0 l1x_5.length] (xs:=[v_7,v_6]) (S2:=⟨[(3,b_10)],5⟩) ?_ (.k (.r _) (.k (.m (mLe l1x_5 E_GSPress) (mapAll l1x_5 E_GSPress)) .z)) (.k (x':=b_10) rfl (by kernel_rfl) (.r _) .z))
  refine wT 0 [] cj0 [2,3] [v_7,v_6] ⟨[(3,b_10)],5⟩ (wZ 3 5 (l1x_h1.map E_GNote) [2,3] [v_7,v_6] (xs:=[.sl false (l1x_h1.map E_GNote),v_6]) (S2:=⟨[],5⟩) ?_ (.k (.m (mLe l1x_h1 E_GNote) (mapAll l1x_h1 E_GNote)) (.k (.r _) .z)) .z)
  replace h:=Option.some.inj h; subst h
  exact wR 1 [] cj0
def f52 (a0:GPiece):Option (((List GNote)) × Int):=(f114 a0).bind fun r1=>bif (decide (r1.2 ≠ 0)) then (some (([]:List GNote),r1.2)) else ((f115 r1.1).bind fun r3=>some (r3.1,0))
theorem f52_ok (a0:GPiece) (r:(((List GNote)) × Int)) (h:f52 a0 = some r):APure Tryz.prog 52 [E_GPiece a0] (.tup [.sl false (r.1.map E_GNote),.i r.2]):=by
 refine apure (clK (cl_GPiece a0) clZ) (clK (cleanMap r.1 _ cl_GNote) (clK rfl clZ)) ?_
 refine wf 22 [.tmp 2,.tmp 3] (c52 0) ?_
 unfold f52 at h
 obtain ⟨r1,hr1,h⟩:=bindE h
 refine W 4 [.n,.r [{},{ k:=7,x:=.tup [E_GSSounding r1.1,.i r1.2] }]] (cj1 (f114_ok a0 _ hr1)) ?_
 rcases iteE h with ⟨hc2,h⟩ | ⟨hc2,h⟩
 ·refine wT 2 [.t] (cj1 hc2) [2,3] [.sl true [],.i r1.2] ⟨[],2⟩ (wI 2 [] [2,3] [.sl true [],.i r1.2] (xs:=[.sl false (([]:List GNote).map E_GNote),.i r1.2]) (S2:=⟨[],2⟩) ?_ r0 (.k (.s (cleanMap (([]:List GNote)) _ cl_GNote)) (.k (.c rfl) .z)) .z)
  replace h:=Option.some.inj h; subst h
  exact wR 2 [] cj0
 ·obtain ⟨r3,hr3,h⟩:=bindE h
  replace h:=Option.some.inj h; subst h
  exact wR 6 [.f,.r [{},{ k:=7,x:=.tup [.sl false (r3.1.map E_GNote),.sl false (r3.2.map E_GSPress)] }]] (cjC hc2 (cj1 (f115_ok r1.1 _ hr3)))
end Go.Proofs.YtodkhgjhodmeoaaGreat
