/-
 Functions of the program as Lean functions,and the walks. Written by a program of ours.
-/
import Derived.Test.YtodkhgjhodmeoaaGreatLsf
import Derived.Test.YtodkhgjhodmeoaaGreatV4a
import Derived.Test.YtodkhgjhodmeoaaGreatV87
import Derived.Test.YtodkhgjhodmeoaaGreatV52
import Derived.Test.YtodkhgjhodmeoaaGreatV54
namespace Go.Proofs.YtodkhgjhodmeoaaGreat
open Go Go.Am
set_option maxRecDepth 100000
set_option linter.all false
noncomputable section
noncomputable def c92 (k:Nat):Code:=nthC (subs (Tryz.f92.body.getD .skip)) k
noncomputable def c95 (k:Nat):Code:=nthC (subs (Tryz.f95.body.getD .skip)) k
noncomputable def c40 (k:Nat):Code:=nthC (subs (Tryz.f40.body.getD .skip)) k
def f92 (a0:List Int):Option Int:=(loopN (σ:=Int) (τ:=(Unit ⊕ Int)) (fun (l1_8:Int)=>bif (decide (l1_8 < (a0.length:Int))) then ((ix a0 l1_8).bind fun y2=>bif (decide (y2 ≠ 0)) then (some (.inr (.inr y2))) else (some (.inl (wr (l1_8 + 1))))) else (some (.inr (.inl ())))) FUEL 0).bind (Sum.elim (fun (_:Unit)=>some 0) some)
theorem f92_ok (a0:List Int) (r:Int) (h:f92 a0 = some r):APure Tryz.prog 92 [.sl false (a0.map AV.i)] (.i r):=by
 refine apure (clK (cleanMap a0 _ cl_i) clZ) rfl ?_
 refine wf 18 [.tmp 2] (c92 0) ?_
 unfold f92 at h
 obtain ⟨ol1x,hll1x,h⟩:=bindE h
 refine W 4 [.n,.n,.r [{},{ k:=1,n:=a0.length }]] (cj1 (mapLen a0 AV.i)) ?_
 refine wJ (fun (_:Unit)=>(zipE [3] [.i 0])) (fun (_:Unit)=>⟨[],0⟩) (fun j=>ol1x = .inl j) (fun kl1=>?_) ?_
 ·refine wL 1 [] cj0 hll1x 0 (fun (l1_8:Int)=>(zipE [3,6,7,8] [.i 0,.sl false (a0.map AV.i),.i (a0.length:Int),.i l1_8])) (fun (l1_8:Int)=>⟨[],0⟩) ?_
  rintro l1_8 out hl1 rl1 Kl1
  rcases iteE hl1 with ⟨hc1,hl1⟩ | ⟨hc1,hl1⟩
  ·obtain ⟨y2,hy2,hl1⟩:=bindE hl1
   refine W 9 [.t,.r [{ k:=1,x:=AV.i y2 }]] (cjC hc1 (cjC ((ixE hy2).1) (cj1 (mapGet AV.i (ixE hy2).2)))) ?_
   rcases iteE hl1 with ⟨hc3,hl1⟩ | ⟨hc3,hl1⟩
   ·replace hl1:=Option.some.inj hl1; subst hl1
    have hr:=rl1 _ rfl
    subst hr
    replace h:=elimR h
    replace h:=Option.some.inj h; subst h
    exact wR 8 [.t] (cjC hc3 (cj1 (Kl1.o _ rfl)))
   ·replace hl1:=Option.some.inj hl1; subst hl1
    exact wX 5 [.f] (cj1 hc3) (Kl1.n _ rfl)
  ·replace hl1:=Option.some.inj hl1; subst hl1
   have hr:=rl1 _ rfl
   subst hr
   exact wX 7 [.f] (cjC hc1 (cj1 (Kl1.o _ rfl))) (kl1 () rfl)
 ·rintro ⟨⟩ rfl
  replace h:=elimL h
  replace h:=Option.some.inj h; subst h
  exact wR 3 [] cj0
def f95 (a0:GTone) (a1:GTone):Option Int:=(f89 a0.from_ a1.from_).bind fun r1=>(f89 a0.pitch a1.pitch).bind fun r2=>(f89 a0.to_ a1.to_).bind fun r3=>(f92 ([r1,r2,r3]:List Int)).bind fun r4=>some r4
theorem f95_ok (a0:GTone) (a1:GTone) (r:Int) (h:f95 a0 a1 = some r):APure Tryz.prog 95 [E_GTone a0,E_GTone a1] (.i r):=by
 refine apure (clK (cl_GTone a0) (clK (cl_GTone a1) clZ)) rfl ?_
 refine wf 22 [.tmp 4] (c95 0) ?_
 unfold f95 at h
 obtain ⟨r1,hr1,h⟩:=bindE h
 obtain ⟨r2,hr2,h⟩:=bindE h
 obtain ⟨r3,hr3,h⟩:=bindE h
 obtain ⟨r4,hr4,h⟩:=bindE h
 replace h:=Option.some.inj h; subst h
 exact wR 3 [.n,.r [{},{},{},{},{},{},{},{},{},{},{},{},{ k:=7,x:=.i r1 },{ k:=7,x:=.i r2 },{ k:=7,x:=.i r3 },{},{ k:=7,x:=.i r4 }]] (cjC (f89_ok a0.from_ a1.from_ _ hr1) (cjC (@Eq.refl AV (.i a0.pitch)) (cjC (@Eq.refl AV (.i a1.pitch)) (cjC (@Eq.refl AV (.i a0.to_)) (cjC (@Eq.refl AV (.i a1.to_)) (cjC (f89_ok a0.pitch a1.pitch _ hr2) (cjC (@Eq.refl AV (.i a0.to_)) (cjC (@Eq.refl AV (.i a1.to_)) (cjC (f89_ok a0.to_ a1.to_ _ hr3) (cj1 (APure.co (ok:=fun _=>false) (π:=id) (args:=[.sl true [.i r1,.i r2,.i r3]]) (f92_ok ([r1,r2,r3]:List Int) _ hr4) (.k (.s (cleanMap (([r1,r2,r3]:List Int)) _ cl_i)) .z))))))))))))
def f90 (a0:List GTone):Option (List GTone):=sortF f95 a0
theorem f90_ok (a0:List GTone) (r:List GTone) (h:f90 a0 = some r):ACalls Tryz.prog 90 [.ms 0 0 a0.length,.fn 95 []] ⟨[(0,.cells 3 (a0.map E_GTone))],1⟩ (fun y t=>y = .tup [] ∧ t = ⟨[(0,.cells 3 (r.map E_GTone))],1⟩) :=
 sortf_calls lay_sortf90 (by decide) Tryz.isAgg152 Tryz.sizeOf152 (fun (x:GTone)=>[x.pitch,x.from_,x.to_]) (fun _=>rfl) (fun _=>rfl) Tryz.func95 (by kernel_rfl) rfl (fun x y r h=>f95_ok x y r h) a0 r h
def f40 (a0:GPiece):Option (((List GTone)) × Int):=(f52 a0).bind fun r1=>bif (decide (r1.2 ≠ 0)) then (some (([]:List GTone),r1.2)) else ((loopN (σ:=(List GTone × Int)) (τ:=(List GTone)) (fun ((l1_6,l1_19):(List GTone × Int))=>bif (decide (l1_19 < (r1.1.length:Int))) then ((ix r1.1 l1_19).bind fun y4=>need (l1_6.length + 1 ≤ maxElems) <| some (.inl ((l1_6 ++ [(⟨y4.pitch,y4.from_,y4.to_⟩:GTone)]),(wr (l1_19 + 1))))) else (some (.inr l1_6))) FUEL (([]:List GTone),0)).bind fun (l1x_6:(List GTone))=>(f90 l1x_6).bind fun r6=>need (r6.length = l1x_6.length) <| some (r6,0))
theorem f40_ok (a0:GPiece) (r:(((List GTone)) × Int)) (h:f40 a0 = some r):APure Tryz.prog 40 [E_GPiece a0] (.tup [.sl false (r.1.map E_GTone),.i r.2]):=by
 refine apure (clK (cl_GPiece a0) clZ) (clK (cleanMap r.1 _ cl_GTone) (clK rfl clZ)) ?_
 refine wf 37 [.tmp 2,.tmp 3] (c40 0) ?_
 unfold f40 at h
 obtain ⟨r1,hr1,h⟩:=bindE h
 let v_0:AV:=.sl false (r1.1.map E_GNote)
 refine W 4 [.n,.r [{},{ k:=7,x:=.tup [v_0,.i r1.2] }]] (cj1 (f52_ok a0 _ hr1)) ?_
 rcases iteE h with ⟨hc2,h⟩ | ⟨hc2,h⟩
 ·refine wT 2 [.t] (cj1 hc2) [2,3] [.sl true [],.i r1.2] ⟨[],1⟩ (wI 1 [] [2,3] [.sl true [],.i r1.2] (xs:=[.sl false (([]:List GTone).map E_GTone),.i r1.2]) (S2:=⟨[],1⟩) ?_ r0 (.k (.s (cleanMap (([]:List GTone)) _ cl_GTone)) (.k (.c rfl) .z)) .z)
  replace h:=Option.some.inj h; subst h
  exact wR 2 [] cj0
 ·obtain ⟨l1x_6,hll1x,h⟩:=bindE h
  refine W 6 [.f,.n,.r [{},{ k:=1,n:=r1.1.length }]] (cjC hc2 (cj1 (mapLen r1.1 E_GNote))) ?_
  refine wJ (fun (l1x_6:(List GTone))=>(zipE [6] [.ms 1 0 l1x_6.length])) (fun (l1x_6:(List GTone))=>⟨[(1,.cells 3 (l1x_6.map E_GTone))],2⟩) (fun j=>l1x_6 = j) (fun kl1=>?_) ?_
  ·let v_1:AV:=.i (r1.1.length:Int)
   refine wLi 1 [] cj0 hll1x 1 (fun ((l1_6,l1_19):(List GTone × Int))=>(zipE [6,17,18,19] [.ms 1 0 l1_6.length,v_0,v_1,.i l1_19])) (fun ((l1_6,l1_19):(List GTone × Int))=>⟨[(1,.cells 3 (l1_6.map E_GTone))],2⟩) [6,17,18,19] [.sl true [],v_0,v_1,.i 0] ⟨[],1⟩ (see_into r0 (mkInto (L:=[(1,1000000)]) (base:=1) (ks:=[6,17,18,19]) (ys:=[.sl true [],v_0,v_1,.i 0]) (by kernel_rfl) (by kernel_rfl) (.k (.n) (.k (.c (cleanMap _ _ cl_GNote)) (.k (.c rfl) (.k (.c rfl) .z)))) (.n rfl rfl rfl .z))) ?_
   rintro ⟨l1_6,l1_19⟩ out hl1 rl1 Kl1
   rcases iteE hl1 with ⟨hc3,hl1⟩ | ⟨hc3,hl1⟩
   ·obtain ⟨y4,hy4,hl1⟩:=bindE hl1
    obtain ⟨hn5,hl1⟩:=needE hl1
    replace hl1:=Option.some.inj hl1; subst hl1
    let w_0:AV:=.agg [.i y4.pitch,.i y4.from_,.i y4.to_]
    exact wN 12 [.t,.r [{ k:=1,x:=E_GNote y4 }],.r [{},{},{},{},{},{},{},{},{},{ k:=1,n:=(l1_6 ++ [(⟨y4.pitch,y4.from_,y4.to_⟩:GTone)]).length,l:=(l1_6 ++ [(⟨y4.pitch,y4.from_,y4.to_⟩:GTone)]).map E_GTone }]] (cjC hc3 (cjC ((ixE hy4).1) (cjC (mapGet E_GNote (ixE hy4).2) (cjC (@List.cons_ne_nil AV (w_0) []) (cjC (mLe l1_6 E_GTone) (cjC hn5 (cjC (lenA l1_6 ([(⟨y4.pitch,y4.from_,y4.to_⟩:GTone)]:List GTone)) (cjC (appA l1_6 ([(⟨y4.pitch,y4.from_,y4.to_⟩:GTone)]:List GTone) E_GTone) (cj1 (fitsOne (P:=Tryz.prog) (t:=152) (x:=w_0) (r:=[]) (by kernel_rfl))))))))))) [6,17,18,19] [.ms 3 0 (l1_6 ++ [(⟨y4.pitch,y4.from_,y4.to_⟩:GTone)]).length,v_0,v_1,.i (wr (l1_19 + 1))] ⟨[(3,.cells 3 ((l1_6 ++ [(⟨y4.pitch,y4.from_,y4.to_⟩:GTone)]).map E_GTone))],4⟩ Kl1 rfl (see_into r0 (mkInto (L:=[(1,3)]) (ks:=[6,17,18,19]) (ys:=[.ms 3 0 (l1_6 ++ [(⟨y4.pitch,y4.from_,y4.to_⟩:GTone)]).length,v_0,v_1,.i (wr (l1_19 + 1))]) (by kernel_rfl) (by kernel_rfl) (.k (.ms rfl rfl) (.k (.c (cleanMap _ _ cl_GNote)) (.k (.c rfl) (.k (.c rfl) .z)))) (.k rfl (.cells (.r (cleanMap _ _ cl_GTone))) .z)))
   ·replace hl1:=Option.some.inj hl1; subst hl1
    have hr:=rl1 _ rfl
    subst hr
    exact wX 7 [.f] (cjC hc3 (cj1 (Kl1.o _ rfl))) (kl1 l1_6 rfl)
  ·rintro _ rfl
   obtain ⟨r6,hr6,h⟩:=bindE h
   obtain ⟨hn7,h⟩:=needE h
   let v_2:AV:=.ms 1 0 l1x_6.length
   let v_3:AV:=.ms 1 0 r6.length
   let b_0:Blk:=.cells 3 (r6.map E_GTone)
   refine wT 2 [.r [{},{ c:=some (.tup [],⟨[(1,b_0)],2⟩) }]] (cj1 (callF (f90_ok l1x_6 _ hr6) [(0,1)] [(1,0)] [] [v_2,.fn 95 []] ⟨[(1,.cells 3 (l1x_6.map E_GTone))],2⟩ (.tup []) ⟨[(1,b_0)],2⟩ (by kernel_rfl) (.k (.ms rfl rfl) (.k (.c rfl) .z)) (.t .z) (.k rfl (.cells (.r (cleanMap _ _ cl_GTone))) .z) (.d (x':=b_0) rfl (by kernel_rfl) (.cells (.r (cleanMap _ _ cl_GTone))) .z))) [6] [v_2] ⟨[(1,b_0)],2⟩ (wI 2 [] [6] [v_2] (xs:=[v_3]) (S2:=⟨[(1,b_0)],2⟩) ?_ r0 (.k (.e rfl rfl hn7) .z) (.k rfl (.cells (.r (cleanMap _ _ cl_GTone))) .z))
   refine wT 1 [] cj0 [2,3] [v_3,.i 0] ⟨[(1,b_0)],2⟩ (wZ 1 3 (r6.map E_GTone) [2,3] [v_3,.i 0] (xs:=[.sl false (r6.map E_GTone),.i 0]) (S2:=⟨[],2⟩) ?_ (.k (.m (mLe r6 E_GTone) (mapAll r6 E_GTone)) (.k (.r _) .z)) .z)
   replace h:=Option.some.inj h; subst h
   exact wR 1 [] cj0
end
end Go.Proofs.YtodkhgjhodmeoaaGreat
