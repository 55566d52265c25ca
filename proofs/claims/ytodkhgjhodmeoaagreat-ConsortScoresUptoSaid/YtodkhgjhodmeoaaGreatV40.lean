/-
 Functions of the program as Lean functions,and the walks. Written by a program of ours.
-/
import Derived.Test.YtodkhgjhodmeoaaGreatLsf
import Derived.Test.YtodkhgjhodmeoaaGreatV4a
import Derived.Test.YtodkhgjhodmeoaaGreatV87
import Derived.Test.YtodkhgjhodmeoaaGreatV52
import Derived.Test.YtodkhgjhodmeoaaGreatV54
namespace Go.Proofs.YtodkhgjhodmeoaaGreat
open Go Go.Am
set_option maxRecDepth 100000
set_option linter.all false
noncomputable section
noncomputable def c92 (k:Nat):Code:=nthC (subs (Tryz.f92.body.getD .skip)) k
noncomputable def c95 (k:Nat):Code:=nthC (subs (Tryz.f95.body.getD .skip)) k
noncomputable def c40 (k:Nat):Code:=nthC (subs (Tryz.f40.body.getD .skip)) k
noncomputable def c144 (k:Nat):Code:=nthC (subs (Tryz.f144.body.getD .skip)) k
noncomputable def c93 (k:Nat):Code:=nthC (subs (Tryz.f93.body.getD .skip)) k
def f92 (a0:List Int):Option Int:=(loopN (σ:=Int) (τ:=(Unit ⊕ Int)) (fun (l1_8:Int)=>bif (decide (l1_8 < (a0.length:Int))) then ((ix a0 l1_8).bind fun y2=>bif (decide (y2 ≠ 0)) then (some (.inr (.inr y2))) else (some (.inl (wr (l1_8 + 1))))) else (some (.inr (.inl ())))) FUEL 0).bind (Sum.elim (fun (_:Unit)=>some 0) some)
theorem f92_ok (a0:List Int) (r:Int) (h:f92 a0 = some r):APure Tryz.prog 92 [.sl false (a0.map AV.i)] (.i r):=by
 refine apure (clK (cleanMap a0 _ cl_i) clZ) rfl ?_
 refine wf 18 [.tmp 2] (c92 0) ?_
 unfold f92 at h
 obtain ⟨ol1x,hll1x,h⟩:=bindE h
 refine W 4 [.n,.n,.r [{},{ k:=1,n:=a0.length }]] (cj1 (mapLen a0 AV.i)) ?_
 refine wJ (fun (_:Unit)=>(zipE [3] [.i 0])) (fun (_:Unit)=>⟨[],0⟩) (fun j=>ol1x = .inl j) (fun kl1=>?_) ?_
 ·refine wL 1 [] cj0 hll1x 0 (fun (l1_8:Int)=>(zipE [3,6,7,8] [.i 0,.sl false (a0.map AV.i),.i (a0.length:Int),.i l1_8])) (fun (l1_8:Int)=>⟨[],0⟩) ?_
  rintro l1_8 out hl1 rl1 Kl1
  rcases iteE hl1 with ⟨hc1,hl1⟩ | ⟨hc1,hl1⟩
  ·obtain ⟨y2,hy2,hl1⟩:=bindE hl1
   refine W 9 [.t,.r [{ k:=1,x:=AV.i y2 }]] (cjC hc1 (cjC ((ixE hy2).1) (cj1 (mapGet AV.i (ixE hy2).2)))) ?_
   rcases iteE hl1 with ⟨hc3,hl1⟩ | ⟨hc3,hl1⟩
   ·replace hl1:=Option.some.inj hl1; subst hl1
    have hr:=rl1 _ rfl
    subst hr
    replace h:=elimR h
    replace h:=Option.some.inj h; subst h
    exact wR 8 [.t] (cjC hc3 (cj1 (Kl1.o _ rfl)))
   ·replace hl1:=Option.some.inj hl1; subst hl1
    exact wX 5 [.f] (cj1 hc3) (Kl1.n _ rfl)
  ·replace hl1:=Option.some.inj hl1; subst hl1
   have hr:=rl1 _ rfl
   subst hr
   exact wX 7 [.f] (cjC hc1 (cj1 (Kl1.o _ rfl))) (kl1 () rfl)
 ·rintro ⟨⟩ rfl
  replace h:=elimL h
  replace h:=Option.some.inj h; subst h
  exact wR 3 [] cj0
def f95 (a0:GTone) (a1:GTone):Option Int:=(f89 a0.from_ a1.from_).bind fun r1=>(f89 a0.pitch a1.pitch).bind fun r2=>(f89 a0.to_ a1.to_).bind fun r3=>(f92 ([r1,r2,r3]:List Int)).bind fun r4=>some r4
theorem f95_ok (a0:GTone) (a1:GTone) (r:Int) (h:f95 a0 a1 = some r):APure Tryz.prog 95 [E_GTone a0,E_GTone a1] (.i r):=by
 refine apure (clK (cl_GTone a0) (clK (cl_GTone a1) clZ)) rfl ?_
 refine wf 22 [.tmp 4] (c95 0) ?_
 unfold f95 at h
 obtain ⟨r1,hr1,h⟩:=bindE h
 obtain ⟨r2,hr2,h⟩:=bindE h
 obtain ⟨r3,hr3,h⟩:=bindE h
 obtain ⟨r4,hr4,h⟩:=bindE h
 replace h:=Option.some.inj h; subst h
 exact wR 3 [.n,.r [{},{},{},{},{},{},{},{},{},{},{},{},{ k:=7,x:=.i r1 },{ k:=7,x:=.i r2 },{ k:=7,x:=.i r3 },{},{ k:=7,x:=.i r4 }]] (cjC (f89_ok a0.from_ a1.from_ _ hr1) (cjC (@Eq.refl AV (.i a0.pitch)) (cjC (@Eq.refl AV (.i a1.pitch)) (cjC (@Eq.refl AV (.i a0.to_)) (cjC (@Eq.refl AV (.i a1.to_)) (cjC (f89_ok a0.pitch a1.pitch _ hr2) (cjC (@Eq.refl AV (.i a0.to_)) (cjC (@Eq.refl AV (.i a1.to_)) (cjC (f89_ok a0.to_ a1.to_ _ hr3) (cj1 (APure.co (ok:=fun _=>false) (π:=id) (args:=[.sl true [.i r1,.i r2,.i r3]]) (f92_ok ([r1,r2,r3]:List Int) _ hr4) (.k (.s (cleanMap (([r1,r2,r3]:List Int)) _ cl_i)) .z))))))))))))
def f90 (a0:List GTone):Option (List GTone):=sortF f95 a0
theorem f90_ok (a0:List GTone) (r:List GTone) (h:f90 a0 = some r):ACalls Tryz.prog 90 [.ms 0 0 a0.length,.fn 95 []] ⟨[(0,.cells 3 (a0.map E_GTone))],1⟩ (fun y t=>y = .tup [] ∧ t = ⟨[(0,.cells 3 (r.map E_GTone))],1⟩) :=
 sortf_calls lay_sortf90 (by decide) Tryz.isAgg152 Tryz.sizeOf152 (fun (x:GTone)=>[x.pitch,x.from_,x.to_]) (fun _=>rfl) (fun _=>rfl) Tryz.func95 (by kernel_rfl) rfl (fun x y r h=>f95_ok x y r h) a0 r h
def f40 (a0:GPiece):Option (((List GTone)) × Int):=(f52 a0).bind fun r1=>bif (decide (r1.2 ≠ 0)) then (some (([]:List GTone),r1.2)) else ((loopN (σ:=(List GTone × Int)) (τ:=(List GTone)) (fun ((l1_6,l1_19):(List GTone × Int))=>bif (decide (l1_19 < (r1.1.length:Int))) then ((ix r1.1 l1_19).bind fun y4=>need (l1_6.length + 1 ≤ maxElems) <| some (.inl ((l1_6 ++ [(⟨y4.pitch,y4.from_,y4.to_⟩:GTone)]),(wr (l1_19 + 1))))) else (some (.inr l1_6))) FUEL (([]:List GTone),0)).bind fun (l1x_6:(List GTone))=>(f90 l1x_6).bind fun r6=>need (r6.length = l1x_6.length) <| some (r6,0))
theorem f40_ok (a0:GPiece) (r:(((List GTone)) × Int)) (h:f40 a0 = some r):APure Tryz.prog 40 [E_GPiece a0] (.tup [.sl false (r.1.map E_GTone),.i r.2]):=by
 refine apure (clK (cl_GPiece a0) clZ) (clK (cleanMap r.1 _ cl_GTone) (clK rfl clZ)) ?_
 refine wf 37 [.tmp 2,.tmp 3] (c40 0) ?_
 unfold f40 at h
 obtain ⟨r1,hr1,h⟩:=bindE h
 let v_0:AV:=.sl false (r1.1.map E_GNote)
 refine W 4 [.n,.r [{},{ k:=7,x:=.tup [v_0,.i r1.2] }]] (cj1 (f52_ok a0 _ hr1)) ?_
 rcases iteE h with ⟨hc2,h⟩ | ⟨hc2,h⟩
 ·refine wT 2 [.t] (cj1 hc2) [2,3] [.sl true [],.i r1.2] ⟨[],1⟩ (wI 1 [] [2,3] [.sl true [],.i r1.2] (xs:=[.sl false (([]:List GTone).map E_GTone),.i r1.2]) (S2:=⟨[],1⟩) ?_ r0 (.k (.s (cleanMap (([]:List GTone)) _ cl_GTone)) (.k (.c rfl) .z)) .z)
  replace h:=Option.some.inj h; subst h
  exact wR 2 [] cj0
 ·obtain ⟨l1x_6,hll1x,h⟩:=bindE h
  refine W 6 [.f,.n,.r [{},{ k:=1,n:=r1.1.length }]] (cjC hc2 (cj1 (mapLen r1.1 E_GNote))) ?_
  refine wJ (fun (l1x_6:(List GTone))=>(zipE [6] [.ms 1 0 l1x_6.length])) (fun (l1x_6:(List GTone))=>⟨[(1,.cells 3 (l1x_6.map E_GTone))],2⟩) (fun j=>l1x_6 = j) (fun kl1=>?_) ?_
  ·let v_1:AV:=.i (r1.1.length:Int)
   refine wLi 1 [] cj0 hll1x 1 (fun ((l1_6,l1_19):(List GTone × Int))=>(zipE [6,17,18,19] [.ms 1 0 l1_6.length,v_0,v_1,.i l1_19])) (fun ((l1_6,l1_19):(List GTone × Int))=>⟨[(1,.cells 3 (l1_6.map E_GTone))],2⟩) [6,17,18,19] [.sl true [],v_0,v_1,.i 0] ⟨[],1⟩ (see_into r0 (mkInto (L:=[(1,1000000)]) (base:=1) (ks:=[6,17,18,19]) (ys:=[.sl true [],v_0,v_1,.i 0]) (by kernel_rfl) (by kernel_rfl) (.k (.n) (.k (.c (cleanMap _ _ cl_GNote)) (.k (.c rfl) (.k (.c rfl) .z)))) (.n rfl rfl rfl .z))) ?_
   rintro ⟨l1_6,l1_19⟩ out hl1 rl1 Kl1
   rcases iteE hl1 with ⟨hc3,hl1⟩ | ⟨hc3,hl1⟩
   ·obtain ⟨y4,hy4,hl1⟩:=bindE hl1
    obtain ⟨hn5,hl1⟩:=needE hl1
    replace hl1:=Option.some.inj hl1; subst hl1
    let w_0:AV:=.agg [.i y4.pitch,.i y4.from_,.i y4.to_]
    exact wN 12 [.t,.r [{ k:=1,x:=E_GNote y4 }],.r [{},{},{},{},{},{},{},{},{},{ k:=1,n:=(l1_6 ++ [(⟨y4.pitch,y4.from_,y4.to_⟩:GTone)]).length,l:=(l1_6 ++ [(⟨y4.pitch,y4.from_,y4.to_⟩:GTone)]).map E_GTone }]] (cjC hc3 (cjC ((ixE hy4).1) (cjC (mapGet E_GNote (ixE hy4).2) (cjC (@List.cons_ne_nil AV (w_0) []) (cjC (mLe l1_6 E_GTone) (cjC hn5 (cjC (lenA l1_6 ([(⟨y4.pitch,y4.from_,y4.to_⟩:GTone)]:List GTone)) (cjC (appA l1_6 ([(⟨y4.pitch,y4.from_,y4.to_⟩:GTone)]:List GTone) E_GTone) (cj1 (fitsOne (P:=Tryz.prog) (t:=152) (x:=w_0) (r:=[]) (by kernel_rfl))))))))))) [6,17,18,19] [.ms 3 0 (l1_6 ++ [(⟨y4.pitch,y4.from_,y4.to_⟩:GTone)]).length,v_0,v_1,.i (wr (l1_19 + 1))] ⟨[(3,.cells 3 ((l1_6 ++ [(⟨y4.pitch,y4.from_,y4.to_⟩:GTone)]).map E_GTone))],4⟩ Kl1 rfl (see_into r0 (mkInto (L:=[(1,3)]) (ks:=[6,17,18,19]) (ys:=[.ms 3 0 (l1_6 ++ [(⟨y4.pitch,y4.from_,y4.to_⟩:GTone)]).length,v_0,v_1,.i (wr (l1_19 + 1))]) (by kernel_rfl) (by kernel_rfl) (.k (.ms rfl rfl) (.k (.c (cleanMap _ _ cl_GNote)) (.k (.c rfl) (.k (.c rfl) .z)))) (.k rfl (.cells (.r (cleanMap _ _ cl_GTone))) .z)))
   ·replace hl1:=Option.some.inj hl1; subst hl1
    have hr:=rl1 _ rfl
    subst hr
    exact wX 7 [.f] (cjC hc3 (cj1 (Kl1.o _ rfl))) (kl1 l1_6 rfl)
  ·rintro _ rfl
   obtain ⟨r6,hr6,h⟩:=bindE h
   obtain ⟨hn7,h⟩:=needE h
   let v_2:AV:=.ms 1 0 l1x_6.length
   let v_3:AV:=.ms 1 0 r6.length
   let b_0:Blk:=.cells 3 (r6.map E_GTone)
   refine wT 2 [.r [{},{ c:=some (.tup [],⟨[(1,b_0)],2⟩) }]] (cj1 (callF (f90_ok l1x_6 _ hr6) [(0,1)] [(1,0)] [] [v_2,.fn 95 []] ⟨[(1,.cells 3 (l1x_6.map E_GTone))],2⟩ (.tup []) ⟨[(1,b_0)],2⟩ (by kernel_rfl) (.k (.ms rfl rfl) (.k (.c rfl) .z)) (.t .z) (.k rfl (.cells (.r (cleanMap _ _ cl_GTone))) .z) (.d (x':=b_0) rfl (by kernel_rfl) (.cells (.r (cleanMap _ _ cl_GTone))) .z))) [6] [v_2] ⟨[(1,b_0)],2⟩ (wI 2 [] [6] [v_2] (xs:=[v_3]) (S2:=⟨[(1,b_0)],2⟩) ?_ r0 (.k (.e rfl rfl hn7) .z) (.k rfl (.cells (.r (cleanMap _ _ cl_GTone))) .z))
   refine wT 1 [] cj0 [2,3] [v_3,.i 0] ⟨[(1,b_0)],2⟩ (wZ 1 3 (r6.map E_GTone) [2,3] [v_3,.i 0] (xs:=[.sl false (r6.map E_GTone),.i 0]) (S2:=⟨[],2⟩) ?_ (.k (.m (mLe r6 E_GTone) (mapAll r6 E_GTone)) (.k (.r _) .z)) .z)
   replace h:=Option.some.inj h; subst h
   exact wR 1 [] cj0
def f144 (a0:GTone) (a1:GTone):Option Bool:=bif (decide (a0.from_ ≠ a1.from_)) then (some (decide (a0.from_ < a1.from_))) else (bif (decide (a0.pitch ≠ a1.pitch)) then (some (decide (a0.pitch < a1.pitch))) else (some (decide (a0.to_ < a1.to_))))
theorem f144_ok (a0:GTone) (a1:GTone) (r:Bool) (h:f144 a0 a1 = some r):APure Tryz.prog 144 [E_GTone a0,E_GTone a1] (.bool r):=by
 refine apure (clK (cl_GTone a0) (clK (cl_GTone a1) clZ)) rfl ?_
 refine wf 30 [.tmp 4] (c144 0) ?_
 unfold f144 at h
 rcases iteE h with ⟨hc1,h⟩ | ⟨hc1,h⟩
 ·replace h:=Option.some.inj h; subst h
  exact wR 7 [.t] (cj1 hc1)
 ·refine W 8 [.f] (cj1 hc1) ?_
  rcases iteE h with ⟨hc2,h⟩ | ⟨hc2,h⟩
  ·replace h:=Option.some.inj h; subst h
   exact wR 4 [.t] (cj1 hc2)
  ·replace h:=Option.some.inj h; subst h
   exact wR 5 [.f] (cj1 hc2)
def f93 (a0:GPiece):Option (((List GTone)) × Int):=(f54 a0).bind fun r1=>bif (decide (r1.2 ≠ 0)) then (some (([]:List GTone),r1.2)) else ((loopN (σ:=(List GTone × Int)) (τ:=(List GTone)) (fun ((l1_6,l1_7):(List GTone × Int))=>bif (decide (l1_7 < (r1.1.length:Int))) then ((ix r1.1 l1_7).bind fun y4=>need (l1_6.length + 1 ≤ maxElems) <| (loopN (σ:=(List GTone × Int)) (τ:=(List GTone)) (fun ((l2_6,l2_8):(List GTone × Int))=>((bif (decide (0 < l2_8)) then ((ix l2_6 l2_8).bind fun y7=>(ix l2_6 (wr (l2_8 - 1))).bind fun y8=>(f144 y7 y8).bind fun r9=>some r9) else (some false)):Option Bool).bind fun (j3_58:Bool)=>bif j3_58 then ((ix l2_6 (wr (l2_8 - 1))).bind fun y11=>(ix l2_6 l2_8).bind fun y12=>(ix (l2_6.set l2_8.toNat y11) (wr (l2_8 - 1))).bind fun y13=>some (.inl (((l2_6.set l2_8.toNat y11).set (wr (l2_8 - 1)).toNat y12),(wr (l2_8 - 1))))) else (some (.inr l2_6))) FUEL ((l1_6 ++ [(⟨y4.pitch,y4.from_,y4.to_⟩:GTone)]),(wr (((l1_6 ++ [(⟨y4.pitch,y4.from_,y4.to_⟩:GTone)]).length:Int) - 1)))).bind fun (l2x_6:(List GTone))=>some (.inl (l2x_6,(wr (l1_7 + 1))))) else (some (.inr l1_6))) FUEL (([]:List GTone),0)).bind fun (l1x_6:(List GTone))=>some (l1x_6,0))
theorem f93_ok (a0:GPiece) (r:(((List GTone)) × Int)) (h:f93 a0 = some r):APure Tryz.prog 93 [E_GPiece a0] (.tup [.sl false (r.1.map E_GTone),.i r.2]):=by
 refine apure (clK (cl_GPiece a0) clZ) (clK (cleanMap r.1 _ cl_GTone) (clK rfl clZ)) ?_
 refine wf 78 [.tmp 2,.tmp 3] (c93 0) ?_
 unfold f93 at h
 obtain ⟨r1,hr1,h⟩:=bindE h
 let v_0:AV:=.sl false (r1.1.map E_GNote)
 refine W 4 [.n,.r [{},{ k:=7,x:=.tup [v_0,.i r1.2] }]] (cj1 (f54_ok a0 _ hr1)) ?_
 rcases iteE h with ⟨hc2,h⟩ | ⟨hc2,h⟩
 ·refine wT 2 [.t] (cj1 hc2) [2,3] [.sl true [],.i r1.2] ⟨[],1⟩ (wI 1 [] [2,3] [.sl true [],.i r1.2] (xs:=[.sl false (([]:List GTone).map E_GTone),.i r1.2]) (S2:=⟨[],1⟩) ?_ r0 (.k (.s (cleanMap (([]:List GTone)) _ cl_GTone)) (.k (.c rfl) .z)) .z)
  replace h:=Option.some.inj h; subst h
  exact wR 2 [] cj0
 ·obtain ⟨l1x_6,hll1x,h⟩:=bindE h
  refine W 6 [.f] (cj1 hc2) ?_
  refine wJ (fun (l1x_6:(List GTone))=>(zipE [6] [.ms 1 0 l1x_6.length])) (fun (l1x_6:(List GTone))=>⟨[(1,.cells 3 (l1x_6.map E_GTone))],2⟩) (fun j=>l1x_6 = j) (fun kl1=>?_) ?_
  ·refine wLi 1 [] cj0 hll1x 1 (fun ((l1_6,l1_7):(List GTone × Int))=>(zipE [4,6,7] [v_0,.ms 1 0 l1_6.length,.i l1_7])) (fun ((l1_6,l1_7):(List GTone × Int))=>⟨[(1,.cells 3 (l1_6.map E_GTone))],2⟩) [4,6,7] [v_0,.sl true [],.i 0] ⟨[],1⟩ (see_into r0 (mkInto (L:=[(1,1000000)]) (base:=1) (ks:=[4,6,7]) (ys:=[v_0,.sl true [],.i 0]) (by kernel_rfl) (by kernel_rfl) (.k (.c (cleanMap _ _ cl_GNote)) (.k (.n) (.k (.c rfl) .z))) (.n rfl rfl rfl .z))) ?_
   rintro ⟨l1_6,l1_7⟩ out hl1 rl1 Kl1
   refine W 2 [.r [{},{},{ k:=1,n:=r1.1.length }]] (cj1 (mapLen r1.1 E_GNote)) ?_
   rcases iteE hl1 with ⟨hc3,hl1⟩ | ⟨hc3,hl1⟩
   ·obtain ⟨y4,hy4,hl1⟩:=bindE hl1
    obtain ⟨hn5,hl1⟩:=needE hl1
    obtain ⟨l2x_6,hll2x,hl1⟩:=bindE hl1
    let w_0:AV:=.agg [.i y4.pitch,.i y4.from_,.i y4.to_]
    refine W 7 [.t,.r [{},{},{},{ k:=1,x:=E_GNote y4 },{},{},{},{},{ k:=1,x:=E_GNote y4 },{},{},{},{},{ k:=1,x:=E_GNote y4 },{},{},{},{},{ k:=1,n:=(l1_6 ++ [(⟨y4.pitch,y4.from_,y4.to_⟩:GTone)]).length,l:=(l1_6 ++ [(⟨y4.pitch,y4.from_,y4.to_⟩:GTone)]).map E_GTone }]] (cjC hc3 (cjC ((ixE hy4).1) (cjC (mapGet E_GNote (ixE hy4).2) (cjC ((ixE hy4).1) (cjC (mapGet E_GNote (ixE hy4).2) (cjC ((ixE hy4).1) (cjC (mapGet E_GNote (ixE hy4).2) (cjC (@List.cons_ne_nil AV (w_0) []) (cjC (mLe l1_6 E_GTone) (cjC hn5 (cjC (lenA l1_6 ([(⟨y4.pitch,y4.from_,y4.to_⟩:GTone)]:List GTone)) (cjC (appA l1_6 ([(⟨y4.pitch,y4.from_,y4.to_⟩:GTone)]:List GTone) E_GTone) (cj1 (fitsOne (P:=Tryz.prog) (t:=152) (x:=w_0) (r:=[]) (by kernel_rfl))))))))))))))) ?_
    refine wJ (fun (l2x_6:(List GTone))=>(zipE [4,6,7] [v_0,.ms 2 0 l2x_6.length,.i l1_7])) (fun (l2x_6:(List GTone))=>⟨[(2,.cells 3 (l2x_6.map E_GTone))],3⟩) (fun j=>l2x_6 = j) (fun kl2=>?_) ?_
    ·refine wL 1 [] cj0 hll2x 3 (fun ((l2_6,l2_8):(List GTone × Int))=>(zipE [4,6,7,8] [v_0,.ms 2 0 l2_6.length,.i l1_7,.i l2_8])) (fun ((l2_6,l2_8):(List GTone × Int))=>⟨[(2,.cells 3 (l2_6.map E_GTone))],3⟩) ?_
     rintro ⟨l2_6,l2_8⟩ out hl2 rl2 Kl2
     obtain ⟨j3_58,hj3,hl2⟩:=bindE hl2
     refine W 1 [] cj0 ?_
     let v_1:AV:=.ms 2 0 l2_6.length
     refine wG (fun (j3_58:Bool)=>(zipE [4,6,7,8,58] [v_0,v_1,.i l1_7,.i l2_8,.bool j3_58])) (fun (j3_58:Bool)=>⟨[(2,.cells 3 (l2_6.map E_GTone))],3⟩) (fun j=>j3_58 = j) (fun kj3=>?_) ?_
     ·rcases iteE hj3 with ⟨hc6,hj3⟩ | ⟨hc6,hj3⟩
      ·obtain ⟨y7,hy7,hj3⟩:=bindE hj3
       obtain ⟨y8,hy8,hj3⟩:=bindE hj3
       obtain ⟨r9,hr9,hj3⟩:=bindE hj3
       replace hj3:=Option.some.inj hj3; subst hj3
       exact wX 1 [.r [{},{},{},{},{},{ k:=1,n:=l2_8.toNat },{ k:=1,x:=E_GTone y7 },{},{},{},{ k:=1,n:=(wr (l2_8 - 1)).toNat },{ k:=1,x:=E_GTone y8 },{ k:=7,x:=.bool r9 }]] (cjC hc6 (cjC (Eq.refl true) (cjC (Eq.refl true) (cjC ((ixE hy7).1) (cjC (ixLt hy7) (cjC (Nat.zero_add l2_8.toNat) (cjC (Eq.refl true) (cjC (mapGet E_GTone (ixE hy7).2) (cjC (Eq.refl true) (cjC (Eq.refl true) (cjC (Eq.refl true) (cjC (Eq.refl true) (cjC ((ixE hy8).1) (cjC (ixLt hy8) (cjC (Nat.zero_add (wr (l2_8 - 1)).toNat) (cjC (Eq.refl true) (cjC (mapGet E_GTone (ixE hy8).2) (cjC (Eq.refl true) (cj1 (f144_ok y7 y8 _ hr9)))))))))))))))))))) (kj3 r9 rfl)
      ·replace hj3:=Option.some.inj hj3; subst hj3
       exact wX 1 [.r [{},{},{},{ g:=false },{ g:=false },{ g:=false },{ g:=false },{ g:=false },{ g:=false },{ g:=false },{ g:=false },{ g:=false },{ g:=false }]] (cjC hc6 (cjC (Eq.refl false) (cjC (Eq.refl false) (cjC (Eq.refl false) (cjC (Eq.refl false) (cjC (Eq.refl false) (cjC (Eq.refl false) (cjC (Eq.refl false) (cjC (Eq.refl false) (cj1 (Eq.refl false))))))))))) (kj3 false rfl)
     ·rintro _ rfl
      rcases iteE hl2 with ⟨hc10,hl2⟩ | ⟨hc10,hl2⟩
      ·obtain ⟨y11,hy11,hl2⟩:=bindE hl2
       obtain ⟨y12,hy12,hl2⟩:=bindE hl2
       obtain ⟨y13,hy13,hl2⟩:=bindE hl2
       let b_0:Blk:=.cells 3 (((l2_6.set l2_8.toNat y11).set (wr (l2_8 - 1)).toNat y12).map E_GTone)
       refine wT 6 [.t,.r [{},{},{},{},{},{},{},{},{ k:=1,n:=(wr (l2_8 - 1)).toNat },{ k:=1,x:=E_GTone y11 },{},{},{ k:=1,n:=l2_8.toNat },{ k:=1,x:=E_GTone y12 },{ k:=1,n:=l2_8.toNat },{ k:=1,x:=E_GTone y12,l:=(l2_6.set l2_8.toNat y11).map E_GTone },{ k:=1,n:=(wr (l2_8 - 1)).toNat },{ k:=1,x:=E_GTone y13,l:=((l2_6.set l2_8.toNat y11).set (wr (l2_8 - 1)).toNat y12).map E_GTone }]] (cjC hc10 (cjC ((ixE hy11).1) (cjC (ixLt hy11) (cjC (Nat.zero_add (wr (l2_8 - 1)).toNat) (cjC (mapGet E_GTone (ixE hy11).2) (cjC ((ixE hy12).1) (cjC (ixLt hy12) (cjC (Nat.zero_add l2_8.toNat) (cjC (mapGet E_GTone (ixE hy12).2) (cjC ((ixE hy12).1) (cjC (ixLt hy12) (cjC (Nat.zero_add l2_8.toNat) (cjC (mapGet E_GTone (ixE hy12).2) (cjC ((by decide:(3:Nat) ≤ 3)) (cjC (mapSet l2_6 E_GTone l2_8.toNat y11) (cjC ((ixE hy13).1) (cjC (ixLtL (m:=l2_6) (by simp) hy13) (cjC (Nat.zero_add (wr (l2_8 - 1)).toNat) (cjC (mapGet E_GTone (ixE hy13).2) (cjC ((by decide:(3:Nat) ≤ 3)) (cj1 (mapSet (l2_6.set l2_8.toNat y11) E_GTone (wr (l2_8 - 1)).toNat y12)))))))))))))))))))))) [4,6,7,8] [v_0,v_1,.i l1_7,.i l2_8] ⟨[(2,b_0)],3⟩ (wI 3 [] [4,6,7,8] [v_0,v_1,.i l1_7,.i l2_8] (xs:=[v_0,.ms 2 0 ((l2_6.set l2_8.toNat y11).set (wr (l2_8 - 1)).toNat y12).length,.i l1_7,.i l2_8]) (S2:=⟨[(2,b_0)],3⟩) ?_ r0 (.k (.c (cleanMap _ _ cl_GNote)) (.k (.e rfl rfl (by simp)) (.k (.c rfl) (.k (.c rfl) .z)))) (.k (x':=b_0) (by kernel_rfl) (.cells (.r (cleanMap _ _ cl_GTone))) .z))
       replace hl2:=Option.some.inj hl2; subst hl2
       exact wX 3 [] cj0 (Kl2.n _ rfl)
      ·replace hl2:=Option.some.inj hl2; subst hl2
       have hr:=rl2 _ rfl
       subst hr
       exact wX 5 [.f] (cjC hc10 (cj1 (Kl2.o _ rfl))) (kl2 l2_6 rfl)
    ·rintro _ rfl
     replace hl1:=Option.some.inj hl1; subst hl1
     exact wN 3 [] cj0 [4,6,7] [v_0,.ms 2 0 l2x_6.length,.i (wr (l1_7 + 1))] ⟨[(2,.cells 3 (l2x_6.map E_GTone))],3⟩ Kl1 rfl (see_into r0 (mkInto (L:=[(1,2)]) (ks:=[4,6,7]) (ys:=[v_0,.ms 2 0 l2x_6.length,.i (wr (l1_7 + 1))]) (by kernel_rfl) (by kernel_rfl) (.k (.c (cleanMap _ _ cl_GNote)) (.k (.ms rfl rfl) (.k (.c rfl) .z))) (.k rfl (.cells (.r (cleanMap _ _ cl_GTone))) .z)))
   ·replace hl1:=Option.some.inj hl1; subst hl1
    have hr:=rl1 _ rfl
    subst hr
    exact wX 5 [.f] (cjC hc3 (cj1 (Kl1.o _ rfl))) (kl1 l1_6 rfl)
  ·rintro _ rfl
   refine wT 2 [] cj0 [2,3] [.ms 1 0 l1x_6.length,.i 0] ⟨[(1,.cells 3 (l1x_6.map E_GTone))],2⟩ (wZ 1 3 (l1x_6.map E_GTone) [2,3] [.ms 1 0 l1x_6.length,.i 0] (xs:=[.sl false (l1x_6.map E_GTone),.i 0]) (S2:=⟨[],2⟩) ?_ (.k (.m (mLe l1x_6 E_GTone) (mapAll l1x_6 E_GTone)) (.k (.r _) .z)) .z)
   replace h:=Option.some.inj h; subst h
   exact wR 1 [] cj0
end
end Go.Proofs.YtodkhgjhodmeoaaGreat
