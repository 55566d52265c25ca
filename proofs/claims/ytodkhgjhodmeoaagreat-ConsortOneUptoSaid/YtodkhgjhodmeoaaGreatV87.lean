/-
 Functions of the program as Lean functions,and the walks. Written by a program of ours.
-/
import Derived.Test.YtodkhgjhodmeoaaGreatV4a
namespace Go.Proofs.YtodkhgjhodmeoaaGreat
open Go Go.Am
set_option maxRecDepth 100000
set_option linter.all false
noncomputable def c141 (k:Nat):Code:=nthC (subs (Tryz.f141.body.getD .skip)) k
noncomputable def c89 (k:Nat):Code:=nthC (subs (Tryz.f89.body.getD .skip)) k
noncomputable def c88 (k:Nat):Code:=nthC (subs (Tryz.f88.body.getD .skip)) k
noncomputable def c182 (k:Nat):Code:=nthC (subs (Tryz.f182.body.getD .skip)) k
noncomputable def c243 (k:Nat):Code:=nthC (subs (Tryz.f243.body.getD .skip)) k
noncomputable def c211 (k:Nat):Code:=nthC (subs (Tryz.f211.body.getD .skip)) k
noncomputable def c183 (k:Nat):Code:=nthC (subs (Tryz.f183.body.getD .skip)) k
noncomputable def c140 (k:Nat):Code:=nthC (subs (Tryz.f140.body.getD .skip)) k
noncomputable def c87 (k:Nat):Code:=nthC (subs (Tryz.f87.body.getD .skip)) k
def f141 (a0:Int):Option Bool:=some (decide (a0 ≠ a0))
theorem f141_ok (a0:Int) (r:Bool) (h:f141 a0 = some r):APure Tryz.prog 141 [.i a0] (.bool r):=by
 refine apure (clK rfl clZ) rfl ?_
 refine wf 6 [.tmp 2] (c141 0) ?_
 unfold f141 at h
 replace h:=Option.some.inj h; subst h
 exact wR 3 [] cj0
def f89 (a0:Int) (a1:Int):Option Int:=(f141 a0).bind fun r1=>(f141 a1).bind fun r2=>bif r1 then (bif r2 then (some 0) else (some (-1))) else (bif r2 then (some 1) else (bif (decide (a0 < a1)) then (some (-1)) else (bif (decide (a1 < a0)) then (some 1) else (some 0))))
theorem f89_ok (a0:Int) (a1:Int) (r:Int) (h:f89 a0 a1 = some r):APure Tryz.prog 89 [.i a0,.i a1] (.i r):=by
 refine apure (clK rfl (clK rfl clZ)) rfl ?_
 refine wf 20 [.tmp 4] (c89 0) ?_
 unfold f89 at h
 obtain ⟨r1,hr1,h⟩:=bindE h
 obtain ⟨r2,hr2,h⟩:=bindE h
 refine W 5 [.n,.r [{},{ k:=7,x:=.bool r1 }],.r [{},{ k:=7,x:=.bool r2 }]] (cjC (f141_ok a0 _ hr1) (cj1 (f141_ok a1 _ hr2))) ?_
 rcases iteE h with ⟨hc3,h⟩ | ⟨hc3,h⟩
 ·refine W 3 [.t] (cj1 hc3) ?_
  rcases iteE h with ⟨hc4,h⟩ | ⟨hc4,h⟩
  ·replace h:=Option.some.inj h; subst h
   exact wR 5 [.t] (cj1 hc4)
  ·replace h:=Option.some.inj h; subst h
   exact wR 6 [.f] (cj1 hc4)
 ·refine W 5 [.f] (cj1 hc3) ?_
  rcases iteE h with ⟨hc5,h⟩ | ⟨hc5,h⟩
  ·replace h:=Option.some.inj h; subst h
   exact wR 4 [.t] (cj1 hc5)
  ·refine W 5 [.f] (cj1 hc5) ?_
   rcases iteE h with ⟨hc6,h⟩ | ⟨hc6,h⟩
   ·replace h:=Option.some.inj h; subst h
    exact wR 4 [.t] (cj1 hc6)
   ·refine W 5 [.f] (cj1 hc6) ?_
    rcases iteE h with ⟨hc7,h⟩ | ⟨hc7,h⟩
    ·replace h:=Option.some.inj h; subst h
     exact wR 4 [.t] (cj1 hc7)
    ·replace h:=Option.some.inj h; subst h
     exact wR 5 [.f] (cj1 hc7)
def f88 (a0:GCue) (a1:GCue):Option Int:=(f89 a0.time a1.time).bind fun r1=>some r1
theorem f88_ok (a0:GCue) (a1:GCue) (r:Int) (h:f88 a0 a1 = some r):APure Tryz.prog 88 [E_GCue a0,E_GCue a1] (.i r):=by
 refine apure (clK (cl_GCue a0) (clK (cl_GCue a1) clZ)) rfl ?_
 refine wf 10 [.tmp 4] (c88 0) ?_
 unfold f88 at h
 obtain ⟨r1,hr1,h⟩:=bindE h
 replace h:=Option.some.inj h; subst h
 exact wR 3 [.n,.r [{},{},{},{},{ k:=7,x:=.i r1 }]] (cj1 (f89_ok a0.time a1.time _ hr1))
def f182 (a0:List GCue) (a1:Int) (a2:Int):Option (List GCue):=(loopN (σ:=(List GCue × Int)) (τ:=(List GCue)) (fun ((l1_0,l1_8):(List GCue × Int))=>bif (decide (l1_8 < a2)) then ((loopN (σ:=(List GCue × Int)) (τ:=(List GCue)) (fun ((l2_0,l2_9):(List GCue × Int))=>((bif (decide (a1 < l2_9)) then ((ix l2_0 l2_9).bind fun y3=>(ix l2_0 (wr (l2_9 - 1))).bind fun y4=>(f88 y3 y4).bind fun r5=>some (decide (r5 < 0))) else (some false)):Option Bool).bind fun (j3_34:Bool)=>bif j3_34 then ((ix l2_0 (wr (l2_9 - 1))).bind fun y7=>(ix l2_0 l2_9).bind fun y8=>(ix (l2_0.set l2_9.toNat y7) (wr (l2_9 - 1))).bind fun y9=>some (.inl (((l2_0.set l2_9.toNat y7).set (wr (l2_9 - 1)).toNat y8),(wr (l2_9 - 1))))) else (some (.inr l2_0))) FUEL (l1_0,l1_8)).bind fun (l2x_0:(List GCue))=>some (.inl (l2x_0,(wr (l1_8 + 1))))) else (some (.inr l1_0))) FUEL (a0,(wr (a1 + 1)))).bind fun (l1x_h0:(List GCue))=>some l1x_h0
theorem f182_ok (a0:List GCue) (a1:Int) (a2:Int) (r:(List GCue)) (h:f182 a0 a1 a2 = some r):ACalls Tryz.prog 182 [.ms 0 0 a0.length,.i a1,.i a2,.fn 88 []] ⟨[(0,.cells 3 (a0.map E_GCue))],1⟩ (fun y t=>y = .tup [] ∧ t = ⟨[(0,.cells 3 (r.map E_GCue))],1⟩):=by
 refine wf 53 [] (c182 0) ?_
 unfold f182 at h
 obtain ⟨l1x_h0,hll1x,h⟩:=bindE h
 refine W 1 [] cj0 ?_
 refine wJ (fun (l1x_h0:(List GCue))=>(zipE [] [])) (fun (l1x_h0:(List GCue))=>⟨[(0,.cells 3 (l1x_h0.map E_GCue))],1⟩) (fun j=>l1x_h0 = j) (fun kl1=>?_) ?_
 ·refine wL 1 [] cj0 hll1x 1 (fun ((l1_0,l1_8):(List GCue × Int))=>(zipE [0,1,2,3,8] [.ms 0 0 l1_0.length,.i a1,.i a2,.fn 88 [],.i l1_8])) (fun ((l1_0,l1_8):(List GCue × Int))=>⟨[(0,.cells 3 (l1_0.map E_GCue))],1⟩) ?_
  rintro ⟨l1_0,l1_8⟩ out hl1 rl1 Kl1
  rcases iteE hl1 with ⟨hc1,hl1⟩ | ⟨hc1,hl1⟩
  ·obtain ⟨l2x_0,hll2x,hl1⟩:=bindE hl1
   refine W 8 [.t] (cj1 hc1) ?_
   refine wJ (fun (l2x_0:(List GCue))=>(zipE [0,1,2,3,8] [.ms 0 0 l2x_0.length,.i a1,.i a2,.fn 88 [],.i l1_8])) (fun (l2x_0:(List GCue))=>⟨[(0,.cells 3 (l2x_0.map E_GCue))],1⟩) (fun j=>l2x_0 = j) (fun kl2=>?_) ?_
   ·refine wL 1 [] cj0 hll2x 1 (fun ((l2_0,l2_9):(List GCue × Int))=>(zipE [0,1,2,3,8,9] [.ms 0 0 l2_0.length,.i a1,.i a2,.fn 88 [],.i l1_8,.i l2_9])) (fun ((l2_0,l2_9):(List GCue × Int))=>⟨[(0,.cells 3 (l2_0.map E_GCue))],1⟩) ?_
    rintro ⟨l2_0,l2_9⟩ out hl2 rl2 Kl2
    obtain ⟨j3_34,hj3,hl2⟩:=bindE hl2
    refine W 1 [] cj0 ?_
    let v_0:AV:=.ms 0 0 l2_0.length
    refine wG (fun (j3_34:Bool)=>(zipE [0,1,2,3,8,9,34] [v_0,.i a1,.i a2,.fn 88 [],.i l1_8,.i l2_9,.bool j3_34])) (fun (j3_34:Bool)=>⟨[(0,.cells 3 (l2_0.map E_GCue))],1⟩) (fun j=>j3_34 = j) (fun kj3=>?_) ?_
    ·rcases iteE hj3 with ⟨hc2,hj3⟩ | ⟨hc2,hj3⟩
     ·obtain ⟨y3,hy3,hj3⟩:=bindE hj3
      obtain ⟨y4,hy4,hj3⟩:=bindE hj3
      obtain ⟨r5,hr5,hj3⟩:=bindE hj3
      replace hj3:=Option.some.inj hj3; subst hj3
      exact wX 1 [.r [{},{},{},{},{},{},{},{ k:=1,n:=l2_9.toNat },{ k:=1,x:=E_GCue y3 },{},{},{},{ k:=1,n:=(wr (l2_9 - 1)).toNat },{ k:=1,x:=E_GCue y4 },{ k:=7,x:=.i r5 }]] (cjC hc2 (cjC (Eq.refl true) (cjC (Eq.refl true) (cjC (Eq.refl true) (cjC ((ixE hy3).1) (cjC (ixLt hy3) (cjC (Nat.zero_add l2_9.toNat) (cjC (Eq.refl true) (cjC (mapGet E_GCue (ixE hy3).2) (cjC (Eq.refl true) (cjC (Eq.refl true) (cjC (Eq.refl true) (cjC (Eq.refl true) (cjC ((ixE hy4).1) (cjC (ixLt hy4) (cjC (Nat.zero_add (wr (l2_9 - 1)).toNat) (cjC (Eq.refl true) (cjC (mapGet E_GCue (ixE hy4).2) (cjC (Eq.refl true) (cjC (f88_ok y3 y4 _ hr5) (cj1 (Eq.refl true)))))))))))))))))))))) (kj3 (decide (r5 < 0)) rfl)
     ·replace hj3:=Option.some.inj hj3; subst hj3
      exact wX 1 [.r [{},{},{},{},{ g:=false },{ g:=false },{ g:=false },{ g:=false },{ g:=false },{ g:=false },{ g:=false },{ g:=false },{ g:=false },{ g:=false },{ g:=false },{ g:=false }]] (cjC hc2 (cjC (Eq.refl false) (cjC (Eq.refl false) (cjC (Eq.refl false) (cjC (Eq.refl false) (cjC (Eq.refl false) (cjC (Eq.refl false) (cjC (Eq.refl false) (cjC (Eq.refl false) (cjC (Eq.refl false) (cjC (Eq.refl false) (cj1 (Eq.refl false))))))))))))) (kj3 false rfl)
    ·rintro _ rfl
     rcases iteE hl2 with ⟨hc6,hl2⟩ | ⟨hc6,hl2⟩
     ·obtain ⟨y7,hy7,hl2⟩:=bindE hl2
      obtain ⟨y8,hy8,hl2⟩:=bindE hl2
      obtain ⟨y9,hy9,hl2⟩:=bindE hl2
      let b_0:Blk:=.cells 3 (((l2_0.set l2_9.toNat y7).set (wr (l2_9 - 1)).toNat y8).map E_GCue)
      refine wT 6 [.t,.r [{},{},{},{},{},{},{},{},{ k:=1,n:=(wr (l2_9 - 1)).toNat },{ k:=1,x:=E_GCue y7 },{},{},{ k:=1,n:=l2_9.toNat },{ k:=1,x:=E_GCue y8 },{ k:=1,n:=l2_9.toNat },{ k:=1,x:=E_GCue y8,l:=(l2_0.set l2_9.toNat y7).map E_GCue },{ k:=1,n:=(wr (l2_9 - 1)).toNat },{ k:=1,x:=E_GCue y9,l:=((l2_0.set l2_9.toNat y7).set (wr (l2_9 - 1)).toNat y8).map E_GCue }]] (cjC hc6 (cjC ((ixE hy7).1) (cjC (ixLt hy7) (cjC (Nat.zero_add (wr (l2_9 - 1)).toNat) (cjC (mapGet E_GCue (ixE hy7).2) (cjC ((ixE hy8).1) (cjC (ixLt hy8) (cjC (Nat.zero_add l2_9.toNat) (cjC (mapGet E_GCue (ixE hy8).2) (cjC ((ixE hy8).1) (cjC (ixLt hy8) (cjC (Nat.zero_add l2_9.toNat) (cjC (mapGet E_GCue (ixE hy8).2) (cjC ((by decide:(3:Nat) ≤ 3)) (cjC (mapSet l2_0 E_GCue l2_9.toNat y7) (cjC ((ixE hy9).1) (cjC (ixLtL (m:=l2_0) (by simp) hy9) (cjC (Nat.zero_add (wr (l2_9 - 1)).toNat) (cjC (mapGet E_GCue (ixE hy9).2) (cjC ((by decide:(3:Nat) ≤ 3)) (cj1 (mapSet (l2_0.set l2_9.toNat y7) E_GCue (wr (l2_9 - 1)).toNat y8)))))))))))))))))))))) [0,1,2,3,8,9] [v_0,.i a1,.i a2,.fn 88 [],.i l1_8,.i l2_9] ⟨[(0,b_0)],1⟩ (wI 1 [] [0,1,2,3,8,9] [v_0,.i a1,.i a2,.fn 88 [],.i l1_8,.i l2_9] (xs:=[.ms 0 0 ((l2_0.set l2_9.toNat y7).set (wr (l2_9 - 1)).toNat y8).length,.i a1,.i a2,.fn 88 [],.i l1_8,.i l2_9]) (S2:=⟨[(0,b_0)],1⟩) ?_ r0 (.k (.e rfl rfl (by simp)) (.k (.c rfl) (.k (.c rfl) (.k (.c rfl) (.k (.c rfl) (.k (.c rfl) .z)))))) (.k (x':=b_0) (by kernel_rfl) (.cells (.r (cleanMap _ _ cl_GCue))) .z))
      replace hl2:=Option.some.inj hl2; subst hl2
      exact wX 3 [] cj0 (Kl2.n _ rfl)
     ·replace hl2:=Option.some.inj hl2; subst hl2
      have hr:=rl2 _ rfl
      subst hr
      exact wX 5 [.f] (cjC hc6 (cj1 (Kl2.o _ rfl))) (kl2 l2_0 rfl)
   ·rintro _ rfl
    replace hl1:=Option.some.inj hl1; subst hl1
    exact wX 3 [] cj0 (Kl1.n _ rfl)
  ·replace hl1:=Option.some.inj hl1; subst hl1
   have hr:=rl1 _ rfl
   subst hr
   exact wX 7 [.f] (cjC hc1 (cj1 (Kl1.o _ rfl))) (kl1 l1_0 rfl)
 ·rintro _ rfl
  replace h:=Option.some.inj h; subst h
  exact wP 0 [] cj0 ⟨rfl,rfl⟩
def f243 (a0:List GCue) (a1:Int) (a2:Int) (a3:Int):Option (List GCue):=(loopN (σ:=(List GCue × Int)) (τ:=(List GCue)) (fun ((l1_0,l1_10):(List GCue × Int))=>bif (decide (l1_10 < a3)) then ((ix l1_0 (wr (a2 + l1_10))).bind fun y2=>(ix l1_0 (wr (a1 + l1_10))).bind fun y3=>(ix (l1_0.set (wr (a1 + l1_10)).toNat y2) (wr (a2 + l1_10))).bind fun y4=>some (.inl (((l1_0.set (wr (a1 + l1_10)).toNat y2).set (wr (a2 + l1_10)).toNat y3),(wr (l1_10 + 1))))) else (some (.inr l1_0))) FUEL (a0,0)).bind fun (l1x_h0:(List GCue))=>some l1x_h0
theorem f243_ok (a0:List GCue) (a1:Int) (a2:Int) (a3:Int) (r:(List GCue)) (h:f243 a0 a1 a2 a3 = some r):ACalls Tryz.prog 243 [.ms 0 0 a0.length,.i a1,.i a2,.i a3,.fn 88 []] ⟨[(0,.cells 3 (a0.map E_GCue))],1⟩ (fun y t=>y = .tup [] ∧ t = ⟨[(0,.cells 3 (r.map E_GCue))],1⟩):=by
 refine wf 38 [] (c243 0) ?_
 unfold f243 at h
 obtain ⟨l1x_h0,hll1x,h⟩:=bindE h
 refine W 1 [] cj0 ?_
 refine wJ (fun (l1x_h0:(List GCue))=>(zipE [] [])) (fun (l1x_h0:(List GCue))=>⟨[(0,.cells 3 (l1x_h0.map E_GCue))],1⟩) (fun j=>l1x_h0 = j) (fun kl1=>?_) ?_
 ·refine wL 1 [] cj0 hll1x 1 (fun ((l1_0,l1_10):(List GCue × Int))=>(zipE [0,1,2,3,10] [.ms 0 0 l1_0.length,.i a1,.i a2,.i a3,.i l1_10])) (fun ((l1_0,l1_10):(List GCue × Int))=>⟨[(0,.cells 3 (l1_0.map E_GCue))],1⟩) ?_
  rintro ⟨l1_0,l1_10⟩ out hl1 rl1 Kl1
  rcases iteE hl1 with ⟨hc1,hl1⟩ | ⟨hc1,hl1⟩
  ·obtain ⟨y2,hy2,hl1⟩:=bindE hl1
   obtain ⟨y3,hy3,hl1⟩:=bindE hl1
   obtain ⟨y4,hy4,hl1⟩:=bindE hl1
   let b_0:Blk:=.cells 3 (((l1_0.set (wr (a1 + l1_10)).toNat y2).set (wr (a2 + l1_10)).toNat y3).map E_GCue)
   refine wT 8 [.t,.r [{},{},{},{},{},{},{},{},{},{},{},{},{ k:=1,n:=(wr (a2 + l1_10)).toNat },{ k:=1,x:=E_GCue y2 },{},{},{},{},{ k:=1,n:=(wr (a1 + l1_10)).toNat },{ k:=1,x:=E_GCue y3 },{ k:=1,n:=(wr (a1 + l1_10)).toNat },{ k:=1,x:=E_GCue y3,l:=(l1_0.set (wr (a1 + l1_10)).toNat y2).map E_GCue },{ k:=1,n:=(wr (a2 + l1_10)).toNat },{ k:=1,x:=E_GCue y4,l:=((l1_0.set (wr (a1 + l1_10)).toNat y2).set (wr (a2 + l1_10)).toNat y3).map E_GCue }]] (cjC hc1 (cjC ((ixE hy2).1) (cjC (ixLt hy2) (cjC (Nat.zero_add (wr (a2 + l1_10)).toNat) (cjC (mapGet E_GCue (ixE hy2).2) (cjC ((ixE hy3).1) (cjC (ixLt hy3) (cjC (Nat.zero_add (wr (a1 + l1_10)).toNat) (cjC (mapGet E_GCue (ixE hy3).2) (cjC ((ixE hy3).1) (cjC (ixLt hy3) (cjC (Nat.zero_add (wr (a1 + l1_10)).toNat) (cjC (mapGet E_GCue (ixE hy3).2) (cjC ((by decide:(3:Nat) ≤ 3)) (cjC (mapSet l1_0 E_GCue (wr (a1 + l1_10)).toNat y2) (cjC ((ixE hy4).1) (cjC (ixLtL (m:=l1_0) (by simp) hy4) (cjC (Nat.zero_add (wr (a2 + l1_10)).toNat) (cjC (mapGet E_GCue (ixE hy4).2) (cjC ((by decide:(3:Nat) ≤ 3)) (cj1 (mapSet (l1_0.set (wr (a1 + l1_10)).toNat y2) E_GCue (wr (a2 + l1_10)).toNat y3)))))))))))))))))))))) [0,1,2,3,10] [.ms 0 0 l1_0.length,.i a1,.i a2,.i a3,.i l1_10] ⟨[(0,b_0)],1⟩ (wI 1 [] [0,1,2,3,10] [.ms 0 0 l1_0.length,.i a1,.i a2,.i a3,.i l1_10] (xs:=[.ms 0 0 ((l1_0.set (wr (a1 + l1_10)).toNat y2).set (wr (a2 + l1_10)).toNat y3).length,.i a1,.i a2,.i a3,.i l1_10]) (S2:=⟨[(0,b_0)],1⟩) ?_ r0 (.k (.e rfl rfl (by simp)) (.k (.c rfl) (.k (.c rfl) (.k (.c rfl) (.k (.c rfl) .z))))) (.k (x':=b_0) (by kernel_rfl) (.cells (.r (cleanMap _ _ cl_GCue))) .z))
   replace hl1:=Option.some.inj hl1; subst hl1
   exact wX 3 [] cj0 (Kl1.n _ rfl)
  ·replace hl1:=Option.some.inj hl1; subst hl1
   have hr:=rl1 _ rfl
   subst hr
   exact wX 7 [.f] (cjC hc1 (cj1 (Kl1.o _ rfl))) (kl1 l1_0 rfl)
 ·rintro _ rfl
  replace h:=Option.some.inj h; subst h
  exact wP 0 [] cj0 ⟨rfl,rfl⟩
def f211 (a0:List GCue) (a1:Int) (a2:Int) (a3:Int):Option (List GCue):=(loopN (σ:=(List GCue × Int × Int)) (τ:=(List GCue × Int)) (fun ((l1_0,l1_10,l1_11):(List GCue × Int × Int))=>bif (decide (l1_10 ≠ l1_11)) then (bif (decide (l1_11 < l1_10)) then ((f243 l1_0 (wr (a2 - l1_10)) a2 l1_11).bind fun r3=>need (r3.length = l1_0.length) <| some (.inl (r3,(wr (l1_10 - l1_11)),l1_11))) else ((f243 l1_0 (wr (a2 - l1_10)) (wr ((wr (a2 + l1_11)) - l1_10)) l1_10).bind fun r5=>need (r5.length = l1_0.length) <| some (.inl (r5,l1_10,(wr (l1_11 - l1_10)))))) else (some (.inr (l1_0,l1_10)))) FUEL (a0,(wr (a2 - a1)),(wr (a3 - a2)))).bind fun ((l1x_0,l1x_10):(List GCue × Int))=>(f243 l1x_0 (wr (a2 - l1x_10)) a2 l1x_10).bind fun r7=>need (r7.length = l1x_0.length) <| some r7
theorem f211_ok (a0:List GCue) (a1:Int) (a2:Int) (a3:Int) (r:(List GCue)) (h:f211 a0 a1 a2 a3 = some r):ACalls Tryz.prog 211 [.ms 0 0 a0.length,.i a1,.i a2,.i a3,.fn 88 []] ⟨[(0,.cells 3 (a0.map E_GCue))],1⟩ (fun y t=>y = .tup [] ∧ t = ⟨[(0,.cells 3 (r.map E_GCue))],1⟩):=by
 refine wf 58 [] (c211 0) ?_
 unfold f211 at h
 obtain ⟨ol1x,hll1x,h⟩:=bindE h
 refine W 2 [] cj0 ?_
 refine wG (fun ((l1x_0,l1x_10):(List GCue × Int))=>(zipE [0,2,4,10] [.ms 0 0 l1x_0.length,.i a2,.fn 88 [],.i l1x_10])) (fun ((l1x_0,l1x_10):(List GCue × Int))=>⟨[(0,.cells 3 (l1x_0.map E_GCue))],1⟩) (fun j=>ol1x = j) (fun kl1=>?_) ?_
 ·refine wL 2 [] cj0 hll1x 1 (fun ((l1_0,l1_10,l1_11):(List GCue × Int × Int))=>(zipE [0,2,4,10,11] [.ms 0 0 l1_0.length,.i a2,.fn 88 [],.i l1_10,.i l1_11])) (fun ((l1_0,l1_10,l1_11):(List GCue × Int × Int))=>⟨[(0,.cells 3 (l1_0.map E_GCue))],1⟩) ?_
  rintro ⟨l1_0,l1_10,l1_11⟩ out hl1 rl1 Kl1
  rcases iteE hl1 with ⟨hc1,hl1⟩ | ⟨hc1,hl1⟩
  ·refine W 7 [.t] (cj1 hc1) ?_
   rcases iteE hl1 with ⟨hc2,hl1⟩ | ⟨hc2,hl1⟩
   ·obtain ⟨r3,hr3,hl1⟩:=bindE hl1
    obtain ⟨hn4,hl1⟩:=needE hl1
    let b_0:Blk:=.cells 3 (r3.map E_GCue)
    refine wT 2 [.t,.r [{},{},{},{},{},{},{},{ c:=some (.tup [],⟨[(0,b_0)],1⟩) }]] (cjC hc2 (cj1 (f243_ok l1_0 (wr (a2 - l1_10)) a2 l1_11 _ hr3))) [0,2,4,10,11] [.ms 0 0 l1_0.length,.i a2,.fn 88 [],.i l1_10,.i l1_11] ⟨[(0,b_0)],1⟩ (wI 1 [] [0,2,4,10,11] [.ms 0 0 l1_0.length,.i a2,.fn 88 [],.i l1_10,.i l1_11] (xs:=[.ms 0 0 r3.length,.i a2,.fn 88 [],.i l1_10,.i l1_11]) (S2:=⟨[(0,b_0)],1⟩) ?_ r0 (.k (.e rfl rfl hn4) (.k (.c rfl) (.k (.c rfl) (.k (.c rfl) (.k (.c rfl) .z))))) (.k rfl (.cells (.r (cleanMap _ _ cl_GCue))) .z))
    replace hl1:=Option.some.inj hl1; subst hl1
    exact wX 2 [] cj0 (Kl1.n _ rfl)
   ·obtain ⟨r5,hr5,hl1⟩:=bindE hl1
    obtain ⟨hn6,hl1⟩:=needE hl1
    let b_1:Blk:=.cells 3 (r5.map E_GCue)
    refine wT 2 [.f,.r [{},{},{},{},{},{},{},{},{},{},{},{ c:=some (.tup [],⟨[(0,b_1)],1⟩) }]] (cjC hc2 (cj1 (f243_ok l1_0 (wr (a2 - l1_10)) (wr ((wr (a2 + l1_11)) - l1_10)) l1_10 _ hr5))) [0,2,4,10,11] [.ms 0 0 l1_0.length,.i a2,.fn 88 [],.i l1_10,.i l1_11] ⟨[(0,b_1)],1⟩ (wI 1 [] [0,2,4,10,11] [.ms 0 0 l1_0.length,.i a2,.fn 88 [],.i l1_10,.i l1_11] (xs:=[.ms 0 0 r5.length,.i a2,.fn 88 [],.i l1_10,.i l1_11]) (S2:=⟨[(0,b_1)],1⟩) ?_ r0 (.k (.e rfl rfl hn6) (.k (.c rfl) (.k (.c rfl) (.k (.c rfl) (.k (.c rfl) .z))))) (.k rfl (.cells (.r (cleanMap _ _ cl_GCue))) .z))
    replace hl1:=Option.some.inj hl1; subst hl1
    exact wX 2 [] cj0 (Kl1.n _ rfl)
  ·replace hl1:=Option.some.inj hl1; subst hl1
   have hr:=rl1 _ rfl
   subst hr
   exact wX 8 [.f] (cjC hc1 (cj1 (Kl1.o _ rfl))) (kl1 (l1_0,l1_10) rfl)
 ·rintro ⟨l1x_0,l1x_10⟩ rfl
  obtain ⟨r7,hr7,h⟩:=bindE h
  obtain ⟨hn8,h⟩:=needE h
  replace h:=Option.some.inj h; subst h
  exact wP 1 [.r [{},{},{},{},{},{},{},{ c:=some (.tup [],⟨[(0,.cells 3 (r7.map E_GCue))],1⟩) }]] (cj1 (f243_ok l1x_0 (wr (a2 - l1x_10)) a2 l1x_10 _ hr7)) ⟨rfl,rfl⟩
def f183r:Nat → (List GCue) → Int → Int → Int → Option (List GCue)
 | 0,_,_,_,_=>none
 | fu + 1,a0,a1,a2,a3=>bif (decide ((wr (a2 - a1)) = 1)) then ((loopN (σ:=(Int × Int)) (τ:=Int) (fun ((l1_10,l1_11):(Int × Int))=>bif (decide (l1_10 < l1_11)) then ((ix a0 (wr (shrI (IntKind.wrap .u64 (wr (l1_10 + l1_11))) 1))).bind fun y3=>(ix a0 a1).bind fun y4=>(f88 y3 y4).bind fun r5=>bif (decide (r5 < 0)) then (some (.inl ((wr ((wr (shrI (IntKind.wrap .u64 (wr (l1_10 + l1_11))) 1)) + 1)),l1_11))) else (some (.inl (l1_10,(wr (shrI (IntKind.wrap .u64 (wr (l1_10 + l1_11))) 1)))))) else (some (.inr l1_10))) FUEL (a2,a3)).bind fun (l1x_10:Int)=>(loopN (σ:=(List GCue × Int)) (τ:=(List GCue)) (fun ((l2_0,l2_13):(List GCue × Int))=>bif (decide (l2_13 < (wr (l1x_10 - 1)))) then ((ix l2_0 (wr (l2_13 + 1))).bind fun y8=>(ix l2_0 l2_13).bind fun y9=>(ix (l2_0.set l2_13.toNat y8) (wr (l2_13 + 1))).bind fun y10=>some (.inl (((l2_0.set l2_13.toNat y8).set (wr (l2_13 + 1)).toNat y9),(wr (l2_13 + 1))))) else (some (.inr l2_0))) FUEL (a0,a1)).bind fun (l2x_h0:(List GCue))=>some l2x_h0) else (bif (decide ((wr (a3 - a2)) = 1)) then ((loopN (σ:=(Int × Int)) (τ:=Int) (fun ((l3_14,l3_15):(Int × Int))=>bif (decide (l3_14 < l3_15)) then ((ix a0 a2).bind fun y13=>(ix a0 (wr (shrI (IntKind.wrap .u64 (wr (l3_14 + l3_15))) 1))).bind fun y14=>(f88 y13 y14).bind fun r15=>bif (!(decide (r15 < 0))) then (some (.inl ((wr ((wr (shrI (IntKind.wrap .u64 (wr (l3_14 + l3_15))) 1)) + 1)),l3_15))) else (some (.inl (l3_14,(wr (shrI (IntKind.wrap .u64 (wr (l3_14 + l3_15))) 1)))))) else (some (.inr l3_14))) FUEL (a1,a2)).bind fun (l3x_14:Int)=>(loopN (σ:=(List GCue × Int)) (τ:=(List GCue)) (fun ((l4_0,l4_17):(List GCue × Int))=>bif (decide (l3x_14 < l4_17)) then ((ix l4_0 (wr (l4_17 - 1))).bind fun y18=>(ix l4_0 l4_17).bind fun y19=>(ix (l4_0.set l4_17.toNat y18) (wr (l4_17 - 1))).bind fun y20=>some (.inl (((l4_0.set l4_17.toNat y18).set (wr (l4_17 - 1)).toNat y19),(wr (l4_17 - 1))))) else (some (.inr l4_0))) FUEL (a0,a2)).bind fun (l4x_h0:(List GCue))=>some l4x_h0) else (((bif (decide ((wr (shrI (IntKind.wrap .u64 (wr (a1 + a3))) 1)) < a2)) then (some ((wr ((wr ((wr (shrI (IntKind.wrap .u64 (wr (a1 + a3))) 1)) + a2)) - a3)),(wr (shrI (IntKind.wrap .u64 (wr (a1 + a3))) 1)))) else (some (a1,a2))):Option (Int × Int)).bind fun ((j5_20,j5_21):(Int × Int))=>(loopN (σ:=(Int × Int)) (τ:=Int) (fun ((l6_20,l6_21):(Int × Int))=>bif (decide (l6_20 < l6_21)) then ((ix a0 (wr ((wr ((wr ((wr (shrI (IntKind.wrap .u64 (wr (a1 + a3))) 1)) + a2)) - 1)) - (wr (shrI (IntKind.wrap .u64 (wr (l6_20 + l6_21))) 1))))).bind fun y23=>(ix a0 (wr (shrI (IntKind.wrap .u64 (wr (l6_20 + l6_21))) 1))).bind fun y24=>(f88 y23 y24).bind fun r25=>bif (!(decide (r25 < 0))) then (some (.inl ((wr ((wr (shrI (IntKind.wrap .u64 (wr (l6_20 + l6_21))) 1)) + 1)),l6_21))) else (some (.inl (l6_20,(wr (shrI (IntKind.wrap .u64 (wr (l6_20 + l6_21))) 1)))))) else (some (.inr l6_20))) FUEL (j5_20,j5_21)).bind fun (l6x_20:Int)=>((((bif (decide (l6x_20 < a2)) then (some (decide (a2 < (wr ((wr ((wr (shrI (IntKind.wrap .u64 (wr (a1 + a3))) 1)) + a2)) - l6x_20))))) else (some false)):Option Bool).bind fun (j8_185:Bool)=>bif j8_185 then ((f211 a0 l6x_20 a2 (wr ((wr ((wr (shrI (IntKind.wrap .u64 (wr (a1 + a3))) 1)) + a2)) - l6x_20))).bind fun r29=>need (r29.length = a0.length) <| some r29) else (some a0)):Option (List GCue)).bind fun (j7_0:(List GCue))=>((((bif (decide (a1 < l6x_20)) then (some (decide (l6x_20 < (wr (shrI (IntKind.wrap .u64 (wr (a1 + a3))) 1))))) else (some false)):Option Bool).bind fun (j10_199:Bool)=>bif j10_199 then ((f183r fu j7_0 a1 l6x_20 (wr (shrI (IntKind.wrap .u64 (wr (a1 + a3))) 1))).bind fun r33=>need (r33.length = j7_0.length) <| some r33) else (some j7_0)):Option (List GCue)).bind fun (j9_0:(List GCue))=>((bif (decide ((wr (shrI (IntKind.wrap .u64 (wr (a1 + a3))) 1)) < (wr ((wr ((wr (shrI (IntKind.wrap .u64 (wr (a1 + a3))) 1)) + a2)) - l6x_20)))) then (some (decide ((wr ((wr ((wr (shrI (IntKind.wrap .u64 (wr (a1 + a3))) 1)) + a2)) - l6x_20)) < a3))) else (some false)):Option Bool).bind fun (j11_213:Bool)=>bif j11_213 then ((f183r fu j9_0 (wr (shrI (IntKind.wrap .u64 (wr (a1 + a3))) 1)) (wr ((wr ((wr (shrI (IntKind.wrap .u64 (wr (a1 + a3))) 1)) + a2)) - l6x_20)) a3).bind fun r37=>need (r37.length = j9_0.length) <| some r37) else (some j9_0)))
def f183 (a0:List GCue) (a1:Int) (a2:Int) (a3:Int):Option (List GCue):=f183r FUEL a0 a1 a2 a3
theorem f183r_ok:∀ (fu:Nat) (a0:List GCue) (a1:Int) (a2:Int) (a3:Int) (r:(List GCue)) (h:f183r fu a0 a1 a2 a3 = some r),ACalls Tryz.prog 183 [.ms 0 0 a0.length,.i a1,.i a2,.i a3,.fn 88 []] ⟨[(0,.cells 3 (a0.map E_GCue))],1⟩ (fun y t=>y = .tup [] ∧ t = ⟨[(0,.cells 3 (r.map E_GCue))],1⟩):=by
 intro fu
 induction fu with
 | zero=>intro a0 a1 a2 a3 r h; rw [f183r] at h; cases h
 | succ fu ih =>
 intro a0 a1 a2 a3 r h
 refine wfS 220 [] (c183 0) ?_
 rw [f183r] at h
 rcases iteE h with ⟨hc1,h⟩ | ⟨hc1,h⟩
 ·obtain ⟨l1x_10,hll1x,h⟩:=bindE h
  refine W 5 [.t] (cj1 hc1) ?_
  let s_0:St:=⟨[(0,.cells 3 (a0.map E_GCue))],1⟩
  refine wG (fun (l1x_10:Int)=>(zipE [0,1,10] [.ms 0 0 a0.length,.i a1,.i l1x_10])) (fun (l1x_10:Int)=>s_0) (fun j=>l1x_10 = j) (fun kl1=>?_) ?_
  ·refine wL 2 [] cj0 hll1x 1 (fun ((l1_10,l1_11):(Int × Int))=>(zipE [0,1,4,10,11] [.ms 0 0 a0.length,.i a1,.fn 88 [],.i l1_10,.i l1_11])) (fun ((l1_10,l1_11):(Int × Int))=>s_0) ?_
   rintro ⟨l1_10,l1_11⟩ out hl1 rl1 Kl1
   rcases iteE hl1 with ⟨hc2,hl1⟩ | ⟨hc2,hl1⟩
   ·obtain ⟨y3,hy3,hl1⟩:=bindE hl1
    obtain ⟨y4,hy4,hl1⟩:=bindE hl1
    obtain ⟨r5,hr5,hl1⟩:=bindE hl1
    refine W 8 [.t,.r [{},{},{},{},{ k:=1 }],.r [{},{},{},{ k:=1,n:=(wr (shrI (IntKind.wrap .u64 (wr (l1_10 + l1_11))) 1)).toNat },{ k:=1,x:=E_GCue y3 },{},{},{ k:=1,n:=a1.toNat },{ k:=1,x:=E_GCue y4 },{ k:=7,x:=.i r5 }]] (cjC hc2 (cjC ((by decide:(0:Int) ≤ 1)) (cjC ((ixE hy3).1) (cjC (ixLt hy3) (cjC (Nat.zero_add (wr (shrI (IntKind.wrap .u64 (wr (l1_10 + l1_11))) 1)).toNat) (cjC (mapGet E_GCue (ixE hy3).2) (cjC ((ixE hy4).1) (cjC (ixLt hy4) (cjC (Nat.zero_add a1.toNat) (cjC (mapGet E_GCue (ixE hy4).2) (cj1 (f88_ok y3 y4 _ hr5)))))))))))) ?_
    rcases iteE hl1 with ⟨hc6,hl1⟩ | ⟨hc6,hl1⟩
    ·replace hl1:=Option.some.inj hl1; subst hl1
     exact wX 3 [.t] (cj1 hc6) (Kl1.n _ rfl)
    ·replace hl1:=Option.some.inj hl1; subst hl1
     exact wX 3 [.f] (cj1 hc6) (Kl1.n _ rfl)
   ·replace hl1:=Option.some.inj hl1; subst hl1
    have hr:=rl1 _ rfl
    subst hr
    exact wX 8 [.f] (cjC hc2 (cj1 (Kl1.o _ rfl))) (kl1 l1_10 rfl)
  ·rintro _ rfl
   obtain ⟨l2x_h0,hll2x,h⟩:=bindE h
   refine W 2 [] cj0 ?_
   refine wJ (fun (l2x_h0:(List GCue))=>(zipE [] [])) (fun (l2x_h0:(List GCue))=>⟨[(0,.cells 3 (l2x_h0.map E_GCue))],1⟩) (fun j=>l2x_h0 = j) (fun kl2=>?_) ?_
   ·refine wL 1 [] cj0 hll2x 1 (fun ((l2_0,l2_13):(List GCue × Int))=>(zipE [0,10,13] [.ms 0 0 l2_0.length,.i l1x_10,.i l2_13])) (fun ((l2_0,l2_13):(List GCue × Int))=>⟨[(0,.cells 3 (l2_0.map E_GCue))],1⟩) ?_
    rintro ⟨l2_0,l2_13⟩ out hl2 rl2 Kl2
    rcases iteE hl2 with ⟨hc7,hl2⟩ | ⟨hc7,hl2⟩
    ·obtain ⟨y8,hy8,hl2⟩:=bindE hl2
     obtain ⟨y9,hy9,hl2⟩:=bindE hl2
     obtain ⟨y10,hy10,hl2⟩:=bindE hl2
     let b_1:Blk:=.cells 3 (((l2_0.set l2_13.toNat y8).set (wr (l2_13 + 1)).toNat y9).map E_GCue)
     refine wT 8 [.t,.r [{},{},{},{},{},{},{},{},{ k:=1,n:=(wr (l2_13 + 1)).toNat },{ k:=1,x:=E_GCue y8 },{},{},{ k:=1,n:=l2_13.toNat },{ k:=1,x:=E_GCue y9 },{ k:=1,n:=l2_13.toNat },{ k:=1,x:=E_GCue y9,l:=(l2_0.set l2_13.toNat y8).map E_GCue },{ k:=1,n:=(wr (l2_13 + 1)).toNat },{ k:=1,x:=E_GCue y10,l:=((l2_0.set l2_13.toNat y8).set (wr (l2_13 + 1)).toNat y9).map E_GCue }]] (cjC hc7 (cjC ((ixE hy8).1) (cjC (ixLt hy8) (cjC (Nat.zero_add (wr (l2_13 + 1)).toNat) (cjC (mapGet E_GCue (ixE hy8).2) (cjC ((ixE hy9).1) (cjC (ixLt hy9) (cjC (Nat.zero_add l2_13.toNat) (cjC (mapGet E_GCue (ixE hy9).2) (cjC ((ixE hy9).1) (cjC (ixLt hy9) (cjC (Nat.zero_add l2_13.toNat) (cjC (mapGet E_GCue (ixE hy9).2) (cjC ((by decide:(3:Nat) ≤ 3)) (cjC (mapSet l2_0 E_GCue l2_13.toNat y8) (cjC ((ixE hy10).1) (cjC (ixLtL (m:=l2_0) (by simp) hy10) (cjC (Nat.zero_add (wr (l2_13 + 1)).toNat) (cjC (mapGet E_GCue (ixE hy10).2) (cjC ((by decide:(3:Nat) ≤ 3)) (cj1 (mapSet (l2_0.set l2_13.toNat y8) E_GCue (wr (l2_13 + 1)).toNat y9)))))))))))))))))))))) [0,10,13] [.ms 0 0 l2_0.length,.i l1x_10,.i l2_13] ⟨[(0,b_1)],1⟩ (wI 1 [] [0,10,13] [.ms 0 0 l2_0.length,.i l1x_10,.i l2_13] (xs:=[.ms 0 0 ((l2_0.set l2_13.toNat y8).set (wr (l2_13 + 1)).toNat y9).length,.i l1x_10,.i l2_13]) (S2:=⟨[(0,b_1)],1⟩) ?_ r0 (.k (.e rfl rfl (by simp)) (.k (.c rfl) (.k (.c rfl) .z))) (.k (x':=b_1) (by kernel_rfl) (.cells (.r (cleanMap _ _ cl_GCue))) .z))
     replace hl2:=Option.some.inj hl2; subst hl2
     exact wX 3 [] cj0 (Kl2.n _ rfl)
    ·replace hl2:=Option.some.inj hl2; subst hl2
     have hr:=rl2 _ rfl
     subst hr
     exact wX 7 [.f] (cjC hc7 (cj1 (Kl2.o _ rfl))) (kl2 l2_0 rfl)
   ·rintro _ rfl
    replace h:=Option.some.inj h; subst h
    exact wS 3 [] cj0 [] [] ⟨[(0,.cells 3 (l2x_h0.map E_GCue))],1⟩ (E2:=zipE [] []) (S2:=⟨[(0,.cells 3 (l2x_h0.map E_GCue))],1⟩) (see_into r0 (mkInto (base:=1) (L:=[]) (by kernel_rfl) (by kernel_rfl) .z (.k rfl (.cells (.r (cleanMap _ _ cl_GCue))) .z))) ⟨rfl,rfl⟩
 ·refine W 7 [.f] (cj1 hc1) ?_
  rcases iteE h with ⟨hc11,h⟩ | ⟨hc11,h⟩
  ·obtain ⟨l3x_14,hll3x,h⟩:=bindE h
   refine W 3 [.t] (cj1 hc11) ?_
   let s_1:St:=⟨[(0,.cells 3 (a0.map E_GCue))],1⟩
   refine wG (fun (l3x_14:Int)=>(zipE [0,2,14] [.ms 0 0 a0.length,.i a2,.i l3x_14])) (fun (l3x_14:Int)=>s_1) (fun j=>l3x_14 = j) (fun kl3=>?_) ?_
   ·refine wL 2 [] cj0 hll3x 1 (fun ((l3_14,l3_15):(Int × Int))=>(zipE [0,2,4,14,15] [.ms 0 0 a0.length,.i a2,.fn 88 [],.i l3_14,.i l3_15])) (fun ((l3_14,l3_15):(Int × Int))=>s_1) ?_
    rintro ⟨l3_14,l3_15⟩ out hl3 rl3 Kl3
    rcases iteE hl3 with ⟨hc12,hl3⟩ | ⟨hc12,hl3⟩
    ·obtain ⟨y13,hy13,hl3⟩:=bindE hl3
     obtain ⟨y14,hy14,hl3⟩:=bindE hl3
     obtain ⟨r15,hr15,hl3⟩:=bindE hl3
     refine W 8 [.t,.r [{},{},{},{},{ k:=1 }],.r [{},{},{},{ k:=1,n:=a2.toNat },{ k:=1,x:=E_GCue y13 },{},{},{ k:=1,n:=(wr (shrI (IntKind.wrap .u64 (wr (l3_14 + l3_15))) 1)).toNat },{ k:=1,x:=E_GCue y14 },{ k:=7,x:=.i r15 }]] (cjC hc12 (cjC ((by decide:(0:Int) ≤ 1)) (cjC ((ixE hy13).1) (cjC (ixLt hy13) (cjC (Nat.zero_add a2.toNat) (cjC (mapGet E_GCue (ixE hy13).2) (cjC ((ixE hy14).1) (cjC (ixLt hy14) (cjC (Nat.zero_add (wr (shrI (IntKind.wrap .u64 (wr (l3_14 + l3_15))) 1)).toNat) (cjC (mapGet E_GCue (ixE hy14).2) (cj1 (f88_ok y13 y14 _ hr15)))))))))))) ?_
     rcases iteE hl3 with ⟨hc16,hl3⟩ | ⟨hc16,hl3⟩
     ·replace hl3:=Option.some.inj hl3; subst hl3
      exact wX 3 [.t] (cj1 hc16) (Kl3.n _ rfl)
     ·replace hl3:=Option.some.inj hl3; subst hl3
      exact wX 3 [.f] (cj1 hc16) (Kl3.n _ rfl)
    ·replace hl3:=Option.some.inj hl3; subst hl3
     have hr:=rl3 _ rfl
     subst hr
     exact wX 8 [.f] (cjC hc12 (cj1 (Kl3.o _ rfl))) (kl3 l3_14 rfl)
   ·rintro _ rfl
    obtain ⟨l4x_h0,hll4x,h⟩:=bindE h
    refine W 2 [] cj0 ?_
    refine wJ (fun (l4x_h0:(List GCue))=>(zipE [] [])) (fun (l4x_h0:(List GCue))=>⟨[(0,.cells 3 (l4x_h0.map E_GCue))],1⟩) (fun j=>l4x_h0 = j) (fun kl4=>?_) ?_
    ·refine wL 1 [] cj0 hll4x 1 (fun ((l4_0,l4_17):(List GCue × Int))=>(zipE [0,14,17] [.ms 0 0 l4_0.length,.i l3x_14,.i l4_17])) (fun ((l4_0,l4_17):(List GCue × Int))=>⟨[(0,.cells 3 (l4_0.map E_GCue))],1⟩) ?_
     rintro ⟨l4_0,l4_17⟩ out hl4 rl4 Kl4
     rcases iteE hl4 with ⟨hc17,hl4⟩ | ⟨hc17,hl4⟩
     ·obtain ⟨y18,hy18,hl4⟩:=bindE hl4
      obtain ⟨y19,hy19,hl4⟩:=bindE hl4
      obtain ⟨y20,hy20,hl4⟩:=bindE hl4
      let b_2:Blk:=.cells 3 (((l4_0.set l4_17.toNat y18).set (wr (l4_17 - 1)).toNat y19).map E_GCue)
      refine wT 8 [.t,.r [{},{},{},{},{},{},{},{},{ k:=1,n:=(wr (l4_17 - 1)).toNat },{ k:=1,x:=E_GCue y18 },{},{},{ k:=1,n:=l4_17.toNat },{ k:=1,x:=E_GCue y19 },{ k:=1,n:=l4_17.toNat },{ k:=1,x:=E_GCue y19,l:=(l4_0.set l4_17.toNat y18).map E_GCue },{ k:=1,n:=(wr (l4_17 - 1)).toNat },{ k:=1,x:=E_GCue y20,l:=((l4_0.set l4_17.toNat y18).set (wr (l4_17 - 1)).toNat y19).map E_GCue }]] (cjC hc17 (cjC ((ixE hy18).1) (cjC (ixLt hy18) (cjC (Nat.zero_add (wr (l4_17 - 1)).toNat) (cjC (mapGet E_GCue (ixE hy18).2) (cjC ((ixE hy19).1) (cjC (ixLt hy19) (cjC (Nat.zero_add l4_17.toNat) (cjC (mapGet E_GCue (ixE hy19).2) (cjC ((ixE hy19).1) (cjC (ixLt hy19) (cjC (Nat.zero_add l4_17.toNat) (cjC (mapGet E_GCue (ixE hy19).2) (cjC ((by decide:(3:Nat) ≤ 3)) (cjC (mapSet l4_0 E_GCue l4_17.toNat y18) (cjC ((ixE hy20).1) (cjC (ixLtL (m:=l4_0) (by simp) hy20) (cjC (Nat.zero_add (wr (l4_17 - 1)).toNat) (cjC (mapGet E_GCue (ixE hy20).2) (cjC ((by decide:(3:Nat) ≤ 3)) (cj1 (mapSet (l4_0.set l4_17.toNat y18) E_GCue (wr (l4_17 - 1)).toNat y19)))))))))))))))))))))) [0,14,17] [.ms 0 0 l4_0.length,.i l3x_14,.i l4_17] ⟨[(0,b_2)],1⟩ (wI 1 [] [0,14,17] [.ms 0 0 l4_0.length,.i l3x_14,.i l4_17] (xs:=[.ms 0 0 ((l4_0.set l4_17.toNat y18).set (wr (l4_17 - 1)).toNat y19).length,.i l3x_14,.i l4_17]) (S2:=⟨[(0,b_2)],1⟩) ?_ r0 (.k (.e rfl rfl (by simp)) (.k (.c rfl) (.k (.c rfl) .z))) (.k (x':=b_2) (by kernel_rfl) (.cells (.r (cleanMap _ _ cl_GCue))) .z))
      replace hl4:=Option.some.inj hl4; subst hl4
      exact wX 3 [] cj0 (Kl4.n _ rfl)
     ·replace hl4:=Option.some.inj hl4; subst hl4
      have hr:=rl4 _ rfl
      subst hr
      exact wX 7 [.f] (cjC hc17 (cj1 (Kl4.o _ rfl))) (kl4 l4_0 rfl)
    ·rintro _ rfl
     replace h:=Option.some.inj h; subst h
     exact wS 3 [] cj0 [] [] ⟨[(0,.cells 3 (l4x_h0.map E_GCue))],1⟩ (E2:=zipE [] []) (S2:=⟨[(0,.cells 3 (l4x_h0.map E_GCue))],1⟩) (see_into r0 (mkInto (base:=1) (L:=[]) (by kernel_rfl) (by kernel_rfl) .z (.k rfl (.cells (.r (cleanMap _ _ cl_GCue))) .z))) ⟨rfl,rfl⟩
  ·obtain ⟨oj5,hj5,h⟩:=bindE h
   refine W 6 [.f,.r [{},{},{},{},{ k:=1 }]] (cjC hc11 (cj1 ((by decide:(0:Int) ≤ 1)))) ?_
   let v_0:AV:=.ms 0 0 a0.length
   let v_1:AV:=.i (wr ((wr (shrI (IntKind.wrap .u64 (wr (a1 + a3))) 1)) + a2))
   let v_2:AV:=.i (wr (shrI (IntKind.wrap .u64 (wr (a1 + a3))) 1))
   let b_0:Blk:=.cells 3 (a0.map E_GCue)
   refine wG (fun ((j5_20,j5_21):(Int × Int))=>(zipE [0,1,2,3,4,18,19,20,21] [v_0,.i a1,.i a2,.i a3,.fn 88 [],v_2,v_1,.i j5_20,.i j5_21])) (fun ((j5_20,j5_21):(Int × Int))=>⟨[(0,b_0)],1⟩) (fun j=>oj5 = j) (fun kj5=>?_) ?_
   ·rcases iteE hj5 with ⟨hc21,hj5⟩ | ⟨hc21,hj5⟩
    ·replace hj5:=Option.some.inj hj5; subst hj5
     exact wX 6 [.t] (cj1 hc21) (kj5 ((wr ((wr ((wr (shrI (IntKind.wrap .u64 (wr (a1 + a3))) 1)) + a2)) - a3)),(wr (shrI (IntKind.wrap .u64 (wr (a1 + a3))) 1))) rfl)
    ·replace hj5:=Option.some.inj hj5; subst hj5
     exact wX 6 [.f] (cj1 hc21) (kj5 (a1,a2) rfl)
   ·rintro ⟨j5_20,j5_21⟩ rfl
    obtain ⟨l6x_20,hll6x,h⟩:=bindE h
    refine W 1 [] cj0 ?_
    refine wG (fun (l6x_20:Int)=>(zipE [0,1,2,3,4,18,19,20] [v_0,.i a1,.i a2,.i a3,.fn 88 [],v_2,v_1,.i l6x_20])) (fun (l6x_20:Int)=>⟨[(0,b_0)],1⟩) (fun j=>l6x_20 = j) (fun kl6=>?_) ?_
    ·refine wL 2 [] cj0 hll6x 1 (fun ((l6_20,l6_21):(Int × Int))=>(zipE [0,1,2,3,4,18,19,20,21,22] [v_0,.i a1,.i a2,.i a3,.fn 88 [],v_2,v_1,.i l6_20,.i l6_21,.i (wr ((wr ((wr (shrI (IntKind.wrap .u64 (wr (a1 + a3))) 1)) + a2)) - 1))])) (fun ((l6_20,l6_21):(Int × Int))=>⟨[(0,b_0)],1⟩) ?_
     rintro ⟨l6_20,l6_21⟩ out hl6 rl6 Kl6
     rcases iteE hl6 with ⟨hc22,hl6⟩ | ⟨hc22,hl6⟩
     ·obtain ⟨y23,hy23,hl6⟩:=bindE hl6
      obtain ⟨y24,hy24,hl6⟩:=bindE hl6
      obtain ⟨r25,hr25,hl6⟩:=bindE hl6
      refine W 8 [.t,.r [{},{},{},{},{ k:=1 }],.r [{},{},{},{},{},{ k:=1,n:=(wr ((wr ((wr ((wr (shrI (IntKind.wrap .u64 (wr (a1 + a3))) 1)) + a2)) - 1)) - (wr (shrI (IntKind.wrap .u64 (wr (l6_20 + l6_21))) 1)))).toNat },{ k:=1,x:=E_GCue y23 },{},{},{ k:=1,n:=(wr (shrI (IntKind.wrap .u64 (wr (l6_20 + l6_21))) 1)).toNat },{ k:=1,x:=E_GCue y24 },{ k:=7,x:=.i r25 }]] (cjC hc22 (cjC ((by decide:(0:Int) ≤ 1)) (cjC ((ixE hy23).1) (cjC (ixLt hy23) (cjC (Nat.zero_add (wr ((wr ((wr ((wr (shrI (IntKind.wrap .u64 (wr (a1 + a3))) 1)) + a2)) - 1)) - (wr (shrI (IntKind.wrap .u64 (wr (l6_20 + l6_21))) 1)))).toNat) (cjC (mapGet E_GCue (ixE hy23).2) (cjC ((ixE hy24).1) (cjC (ixLt hy24) (cjC (Nat.zero_add (wr (shrI (IntKind.wrap .u64 (wr (l6_20 + l6_21))) 1)).toNat) (cjC (mapGet E_GCue (ixE hy24).2) (cj1 (f88_ok y23 y24 _ hr25)))))))))))) ?_
      rcases iteE hl6 with ⟨hc26,hl6⟩ | ⟨hc26,hl6⟩
      ·replace hl6:=Option.some.inj hl6; subst hl6
       exact wX 3 [.t] (cj1 hc26) (Kl6.n _ rfl)
      ·replace hl6:=Option.some.inj hl6; subst hl6
       exact wX 3 [.f] (cj1 hc26) (Kl6.n _ rfl)
     ·replace hl6:=Option.some.inj hl6; subst hl6
      have hr:=rl6 _ rfl
      subst hr
      exact wX 8 [.f] (cjC hc22 (cj1 (Kl6.o _ rfl))) (kl6 l6_20 rfl)
    ·rintro _ rfl
     obtain ⟨j7_0,hj7,h⟩:=bindE h
     refine W 1 [] cj0 ?_
     let v_3:AV:=.i (wr ((wr ((wr (shrI (IntKind.wrap .u64 (wr (a1 + a3))) 1)) + a2)) - l6x_20))
     refine wG (fun (j7_0:(List GCue))=>(zipE [0,1,3,4,18,20,24] [.ms 0 0 j7_0.length,.i a1,.i a3,.fn 88 [],v_2,.i l6x_20,v_3])) (fun (j7_0:(List GCue))=>⟨[(0,.cells 3 (j7_0.map E_GCue))],1⟩) (fun j=>j7_0 = j) (fun kj7=>?_) ?_
     ·obtain ⟨j8_185,hj8,hj7⟩:=bindE hj7
      refine W 1 [] cj0 ?_
      refine wG (fun (j8_185:Bool)=>(zipE [0,1,2,3,4,18,20,24,185] [v_0,.i a1,.i a2,.i a3,.fn 88 [],v_2,.i l6x_20,v_3,.bool j8_185])) (fun (j8_185:Bool)=>⟨[(0,b_0)],1⟩) (fun j=>j8_185 = j) (fun kj8=>?_) ?_
      ·rcases iteE hj8 with ⟨hc27,hj8⟩ | ⟨hc27,hj8⟩
       ·replace hj8:=Option.some.inj hj8; subst hj8
        exact wX 1 [.r [{},{},{},{},{},{},{},{ k:=1,b:=true }]] (cjC hc27 (cjC hc27 (cjC hc27 (cj1 hc27)))) (kj8 (decide (a2 < (wr ((wr ((wr (shrI (IntKind.wrap .u64 (wr (a1 + a3))) 1)) + a2)) - l6x_20)))) rfl)
       ·replace hj8:=Option.some.inj hj8; subst hj8
        exact wX 1 [.r [{},{},{},{},{ g:=false },{ g:=false },{ g:=false },{ k:=1,b:=false }]] (cjC hc27 (cjC hc27 (cjC hc27 (cj1 hc27)))) (kj8 false rfl)
      ·rintro _ rfl
       rcases iteE hj7 with ⟨hc28,hj7⟩ | ⟨hc28,hj7⟩
       ·obtain ⟨r29,hr29,hj7⟩:=bindE hj7
        obtain ⟨hn30,hj7⟩:=needE hj7
        let b_3:Blk:=.cells 3 (r29.map E_GCue)
        refine wT 2 [.t,.r [{},{},{},{},{},{ c:=some (.tup [],⟨[(0,b_3)],1⟩) }]] (cjC hc28 (cj1 (f211_ok a0 l6x_20 a2 (wr ((wr ((wr (shrI (IntKind.wrap .u64 (wr (a1 + a3))) 1)) + a2)) - l6x_20)) _ hr29))) [0,1,3,4,18,20,24] [v_0,.i a1,.i a3,.fn 88 [],v_2,.i l6x_20,v_3] ⟨[(0,b_3)],1⟩ (wI 1 [] [0,1,3,4,18,20,24] [v_0,.i a1,.i a3,.fn 88 [],v_2,.i l6x_20,v_3] (xs:=[.ms 0 0 r29.length,.i a1,.i a3,.fn 88 [],v_2,.i l6x_20,v_3]) (S2:=⟨[(0,b_3)],1⟩) ?_ r0 (.k (.e rfl rfl hn30) (.k (.c rfl) (.k (.c rfl) (.k (.c rfl) (.k (.c rfl) (.k (.c rfl) (.k (.c rfl) .z))))))) (.k rfl (.cells (.r (cleanMap _ _ cl_GCue))) .z))
        replace hj7:=Option.some.inj hj7; subst hj7
        exact wX 1 [] cj0 (kj7 r29 rfl)
       ·replace hj7:=Option.some.inj hj7; subst hj7
        exact wX 3 [.f] (cj1 hc28) (kj7 a0 rfl)
     ·rintro _ rfl
      obtain ⟨j9_0,hj9,h⟩:=bindE h
      refine wG (fun (j9_0:(List GCue))=>(zipE [0,3,4,18,24] [.ms 0 0 j9_0.length,.i a3,.fn 88 [],v_2,v_3])) (fun (j9_0:(List GCue))=>⟨[(0,.cells 3 (j9_0.map E_GCue))],1⟩) (fun j=>j9_0 = j) (fun kj9=>?_) ?_
      ·obtain ⟨j10_199,hj10,hj9⟩:=bindE hj9
       refine W 1 [] cj0 ?_
       refine wG (fun (j10_199:Bool)=>(zipE [0,1,3,4,18,20,24,199] [.ms 0 0 j7_0.length,.i a1,.i a3,.fn 88 [],v_2,.i l6x_20,v_3,.bool j10_199])) (fun (j10_199:Bool)=>⟨[(0,.cells 3 (j7_0.map E_GCue))],1⟩) (fun j=>j10_199 = j) (fun kj10=>?_) ?_
       ·rcases iteE hj10 with ⟨hc31,hj10⟩ | ⟨hc31,hj10⟩
        ·replace hj10:=Option.some.inj hj10; subst hj10
         exact wX 1 [.r [{},{},{},{},{},{},{},{ k:=1,b:=true }]] (cjC hc31 (cjC hc31 (cjC hc31 (cj1 hc31)))) (kj10 (decide (l6x_20 < (wr (shrI (IntKind.wrap .u64 (wr (a1 + a3))) 1)))) rfl)
        ·replace hj10:=Option.some.inj hj10; subst hj10
         exact wX 1 [.r [{},{},{},{},{ g:=false },{ g:=false },{ g:=false },{ k:=1,b:=false }]] (cjC hc31 (cjC hc31 (cjC hc31 (cj1 hc31)))) (kj10 false rfl)
       ·rintro _ rfl
        rcases iteE hj9 with ⟨hc32,hj9⟩ | ⟨hc32,hj9⟩
        ·obtain ⟨r33,hr33,hj9⟩:=bindE hj9
         obtain ⟨hn34,hj9⟩:=needE hj9
         let b_4:Blk:=.cells 3 (r33.map E_GCue)
         refine wT 2 [.t,.r [{},{},{},{},{},{ c:=some (.tup [],⟨[(0,b_4)],1⟩) }]] (cjC hc32 (cj1 (ih j7_0 a1 l6x_20 (wr (shrI (IntKind.wrap .u64 (wr (a1 + a3))) 1)) _ hr33))) [0,3,4,18,24] [.ms 0 0 j7_0.length,.i a3,.fn 88 [],v_2,v_3] ⟨[(0,b_4)],1⟩ (wI 1 [] [0,3,4,18,24] [.ms 0 0 j7_0.length,.i a3,.fn 88 [],v_2,v_3] (xs:=[.ms 0 0 r33.length,.i a3,.fn 88 [],v_2,v_3]) (S2:=⟨[(0,b_4)],1⟩) ?_ r0 (.k (.e rfl rfl hn34) (.k (.c rfl) (.k (.c rfl) (.k (.c rfl) (.k (.c rfl) .z))))) (.k rfl (.cells (.r (cleanMap _ _ cl_GCue))) .z))
         replace hj9:=Option.some.inj hj9; subst hj9
         exact wX 1 [] cj0 (kj9 r33 rfl)
        ·replace hj9:=Option.some.inj hj9; subst hj9
         exact wX 3 [.f] (cj1 hc32) (kj9 j7_0 rfl)
      ·rintro _ rfl
       obtain ⟨j11_213,hj11,h⟩:=bindE h
       refine wG (fun (j11_213:Bool)=>(zipE [0,3,4,18,24,213] [.ms 0 0 j9_0.length,.i a3,.fn 88 [],v_2,v_3,.bool j11_213])) (fun (j11_213:Bool)=>⟨[(0,.cells 3 (j9_0.map E_GCue))],1⟩) (fun j=>j11_213 = j) (fun kj11=>?_) ?_
       ·rcases iteE hj11 with ⟨hc35,hj11⟩ | ⟨hc35,hj11⟩
        ·replace hj11:=Option.some.inj hj11; subst hj11
         exact wX 1 [.r [{},{},{},{},{},{},{},{ k:=1,b:=true }]] (cjC hc35 (cjC hc35 (cjC hc35 (cj1 hc35)))) (kj11 (decide ((wr ((wr ((wr (shrI (IntKind.wrap .u64 (wr (a1 + a3))) 1)) + a2)) - l6x_20)) < a3)) rfl)
        ·replace hj11:=Option.some.inj hj11; subst hj11
         exact wX 1 [.r [{},{},{},{},{ g:=false },{ g:=false },{ g:=false },{ k:=1,b:=false }]] (cjC hc35 (cjC hc35 (cjC hc35 (cj1 hc35)))) (kj11 false rfl)
       ·rintro _ rfl
        rcases iteE h with ⟨hc36,h⟩ | ⟨hc36,h⟩
        ·obtain ⟨r37,hr37,h⟩:=bindE h
         obtain ⟨hn38,h⟩:=needE h
         replace h:=Option.some.inj h; subst h
         exact wS 2 [.t,.r [{},{},{},{},{},{ c:=some (.tup [],⟨[(0,.cells 3 (r37.map E_GCue))],1⟩) }]] (cjC hc36 (cj1 (ih j9_0 (wr (shrI (IntKind.wrap .u64 (wr (a1 + a3))) 1)) (wr ((wr ((wr (shrI (IntKind.wrap .u64 (wr (a1 + a3))) 1)) + a2)) - l6x_20)) a3 _ hr37))) [] [] ⟨[(0,.cells 3 (r37.map E_GCue))],1⟩ (E2:=zipE [] []) (S2:=⟨[(0,.cells 3 (r37.map E_GCue))],1⟩) (see_into r0 (mkInto (base:=1) (L:=[]) (by kernel_rfl) (by kernel_rfl) .z (.k rfl (.cells (.r (cleanMap _ _ cl_GCue))) .z))) ⟨rfl,rfl⟩
        ·replace h:=Option.some.inj h; subst h
         exact wS 2 [.f] (cj1 hc36) [] [] ⟨[(0,.cells 3 (j9_0.map E_GCue))],1⟩ (E2:=zipE [] []) (S2:=⟨[(0,.cells 3 (j9_0.map E_GCue))],1⟩) (see_into r0 (mkInto (base:=1) (L:=[]) (by kernel_rfl) (by kernel_rfl) .z (.k rfl (.cells (.r (cleanMap _ _ cl_GCue))) .z))) ⟨rfl,rfl⟩
theorem f183_ok (a0:List GCue) (a1:Int) (a2:Int) (a3:Int) (r:(List GCue)) (h:f183 a0 a1 a2 a3 = some r):ACalls Tryz.prog 183 [.ms 0 0 a0.length,.i a1,.i a2,.i a3,.fn 88 []] ⟨[(0,.cells 3 (a0.map E_GCue))],1⟩ (fun y t=>y = .tup [] ∧ t = ⟨[(0,.cells 3 (r.map E_GCue))],1⟩):=f183r_ok FUEL a0 a1 a2 a3 r h
def f140 (a0:List GCue) (a1:Int):Option (List GCue):=(loopN (σ:=(List GCue × Int × Int)) (τ:=(List GCue × Int)) (fun ((l1_0,l1_7,l1_8):(List GCue × Int × Int))=>bif (decide (l1_8 ≤ a1)) then ((f182 l1_0 l1_7 l1_8).bind fun r2=>need (r2.length = l1_0.length) <| some (.inl (r2,l1_8,(wr (l1_8 + 20))))) else (some (.inr (l1_0,l1_7)))) FUEL (a0,0,20)).bind fun ((l1x_0,l1x_7):(List GCue × Int))=>(f182 l1x_0 l1x_7 a1).bind fun r4=>need (r4.length = l1x_0.length) <| (loopN (σ:=(List GCue × Int)) (τ:=(List GCue)) (fun ((l2_0,l2_6):(List GCue × Int))=>bif (decide (l2_6 < a1)) then ((loopN (σ:=(List GCue × Int × Int)) (τ:=(List GCue × Int)) (fun ((l3_0,l3_7,l3_8):(List GCue × Int × Int))=>bif (decide (l3_8 ≤ a1)) then ((f183 l3_0 l3_7 (wr (l3_7 + l2_6)) l3_8).bind fun r8=>need (r8.length = l3_0.length) <| some (.inl (r8,l3_8,(wr (l3_8 + (wr (2 * l2_6))))))) else (some (.inr (l3_0,l3_7)))) FUEL (l2_0,0,(wr (2 * l2_6)))).bind fun ((l3x_0,l3x_7):(List GCue × Int))=>((bif (decide ((wr (l3x_7 + l2_6)) < a1)) then ((f183 l3x_0 l3x_7 (wr (l3x_7 + l2_6)) a1).bind fun r11=>need (r11.length = l3x_0.length) <| some r11) else (some l3x_0)):Option (List GCue)).bind fun (j4_0:(List GCue))=>some (.inl (j4_0,(wr (l2_6 * 2))))) else (some (.inr l2_0))) FUEL (r4,20)).bind fun (l2x_h0:(List GCue))=>some l2x_h0
theorem f140_ok (a0:List GCue) (a1:Int) (r:(List GCue)) (h:f140 a0 a1 = some r):ACalls Tryz.prog 140 [.ms 0 0 a0.length,.i a1,.fn 88 []] ⟨[(0,.cells 3 (a0.map E_GCue))],1⟩ (fun y t=>y = .tup [] ∧ t = ⟨[(0,.cells 3 (r.map E_GCue))],1⟩):=by
 refine wf 63 [] (c140 0) ?_
 unfold f140 at h
 obtain ⟨ol1x,hll1x,h⟩:=bindE h
 refine W 2 [] cj0 ?_
 refine wG (fun ((l1x_0,l1x_7):(List GCue × Int))=>(zipE [0,1,2,6,7] [.ms 0 0 l1x_0.length,.i a1,.fn 88 [],.i 20,.i l1x_7])) (fun ((l1x_0,l1x_7):(List GCue × Int))=>⟨[(0,.cells 3 (l1x_0.map E_GCue))],1⟩) (fun j=>ol1x = j) (fun kl1=>?_) ?_
 ·refine wL 2 [] cj0 hll1x 1 (fun ((l1_0,l1_7,l1_8):(List GCue × Int × Int))=>(zipE [0,1,2,6,7,8] [.ms 0 0 l1_0.length,.i a1,.fn 88 [],.i 20,.i l1_7,.i l1_8])) (fun ((l1_0,l1_7,l1_8):(List GCue × Int × Int))=>⟨[(0,.cells 3 (l1_0.map E_GCue))],1⟩) ?_
  rintro ⟨l1_0,l1_7,l1_8⟩ out hl1 rl1 Kl1
  rcases iteE hl1 with ⟨hc1,hl1⟩ | ⟨hc1,hl1⟩
  ·obtain ⟨r2,hr2,hl1⟩:=bindE hl1
   obtain ⟨hn3,hl1⟩:=needE hl1
   let b_0:Blk:=.cells 3 (r2.map E_GCue)
   refine wT 7 [.t,.r [{},{},{},{},{ c:=some (.tup [],⟨[(0,b_0)],1⟩) }]] (cjC hc1 (cj1 (f182_ok l1_0 l1_7 l1_8 _ hr2))) [0,1,2,6,8] [.ms 0 0 l1_0.length,.i a1,.fn 88 [],.i 20,.i l1_8] ⟨[(0,b_0)],1⟩ (wI 1 [] [0,1,2,6,8] [.ms 0 0 l1_0.length,.i a1,.fn 88 [],.i 20,.i l1_8] (xs:=[.ms 0 0 r2.length,.i a1,.fn 88 [],.i 20,.i l1_8]) (S2:=⟨[(0,b_0)],1⟩) ?_ r0 (.k (.e rfl rfl hn3) (.k (.c rfl) (.k (.c rfl) (.k (.c rfl) (.k (.c rfl) .z))))) (.k rfl (.cells (.r (cleanMap _ _ cl_GCue))) .z))
   replace hl1:=Option.some.inj hl1; subst hl1
   exact wX 3 [] cj0 (Kl1.n _ rfl)
  ·replace hl1:=Option.some.inj hl1; subst hl1
   have hr:=rl1 _ rfl
   subst hr
   exact wX 8 [.f] (cjC hc1 (cj1 (Kl1.o _ rfl))) (kl1 (l1_0,l1_7) rfl)
 ·rintro ⟨l1x_0,l1x_7⟩ rfl
  obtain ⟨r4,hr4,h⟩:=bindE h
  obtain ⟨hn5,h⟩:=needE h
  let b_1:Blk:=.cells 3 (r4.map E_GCue)
  refine wT 1 [.r [{},{},{},{},{ c:=some (.tup [],⟨[(0,b_1)],1⟩) }]] (cj1 (f182_ok l1x_0 l1x_7 a1 _ hr4)) [0,1,2,6] [.ms 0 0 l1x_0.length,.i a1,.fn 88 [],.i 20] ⟨[(0,b_1)],1⟩ (wI 1 [] [0,1,2,6] [.ms 0 0 l1x_0.length,.i a1,.fn 88 [],.i 20] (xs:=[.ms 0 0 r4.length,.i a1,.fn 88 [],.i 20]) (S2:=⟨[(0,b_1)],1⟩) ?_ r0 (.k (.e rfl rfl hn5) (.k (.c rfl) (.k (.c rfl) (.k (.c rfl) .z)))) (.k rfl (.cells (.r (cleanMap _ _ cl_GCue))) .z))
  obtain ⟨l2x_h0,hll2x,h⟩:=bindE h
  refine wJ (fun (l2x_h0:(List GCue))=>(zipE [] [])) (fun (l2x_h0:(List GCue))=>⟨[(0,.cells 3 (l2x_h0.map E_GCue))],1⟩) (fun j=>l2x_h0 = j) (fun kl2=>?_) ?_
  ·refine wL 1 [] cj0 hll2x 1 (fun ((l2_0,l2_6):(List GCue × Int))=>(zipE [0,1,2,6] [.ms 0 0 l2_0.length,.i a1,.fn 88 [],.i l2_6])) (fun ((l2_0,l2_6):(List GCue × Int))=>⟨[(0,.cells 3 (l2_0.map E_GCue))],1⟩) ?_
   rintro ⟨l2_0,l2_6⟩ out hl2 rl2 Kl2
   rcases iteE hl2 with ⟨hc6,hl2⟩ | ⟨hc6,hl2⟩
   ·obtain ⟨ol3x,hll3x,hl2⟩:=bindE hl2
    refine W 7 [.t] (cj1 hc6) ?_
    refine wG (fun ((l3x_0,l3x_7):(List GCue × Int))=>(zipE [0,1,2,6,7] [.ms 0 0 l3x_0.length,.i a1,.fn 88 [],.i l2_6,.i l3x_7])) (fun ((l3x_0,l3x_7):(List GCue × Int))=>⟨[(0,.cells 3 (l3x_0.map E_GCue))],1⟩) (fun j=>ol3x = j) (fun kl3=>?_) ?_
    ·refine wL 2 [] cj0 hll3x 1 (fun ((l3_0,l3_7,l3_8):(List GCue × Int × Int))=>(zipE [0,1,2,6,7,8] [.ms 0 0 l3_0.length,.i a1,.fn 88 [],.i l2_6,.i l3_7,.i l3_8])) (fun ((l3_0,l3_7,l3_8):(List GCue × Int × Int))=>⟨[(0,.cells 3 (l3_0.map E_GCue))],1⟩) ?_
     rintro ⟨l3_0,l3_7,l3_8⟩ out hl3 rl3 Kl3
     rcases iteE hl3 with ⟨hc7,hl3⟩ | ⟨hc7,hl3⟩
     ·obtain ⟨r8,hr8,hl3⟩:=bindE hl3
      obtain ⟨hn9,hl3⟩:=needE hl3
      let b_2:Blk:=.cells 3 (r8.map E_GCue)
      refine wT 7 [.t,.r [{},{},{},{},{},{},{},{ c:=some (.tup [],⟨[(0,b_2)],1⟩) }]] (cjC hc7 (cj1 (f183_ok l3_0 l3_7 (wr (l3_7 + l2_6)) l3_8 _ hr8))) [0,1,2,6,8] [.ms 0 0 l3_0.length,.i a1,.fn 88 [],.i l2_6,.i l3_8] ⟨[(0,b_2)],1⟩ (wI 1 [] [0,1,2,6,8] [.ms 0 0 l3_0.length,.i a1,.fn 88 [],.i l2_6,.i l3_8] (xs:=[.ms 0 0 r8.length,.i a1,.fn 88 [],.i l2_6,.i l3_8]) (S2:=⟨[(0,b_2)],1⟩) ?_ r0 (.k (.e rfl rfl hn9) (.k (.c rfl) (.k (.c rfl) (.k (.c rfl) (.k (.c rfl) .z))))) (.k rfl (.cells (.r (cleanMap _ _ cl_GCue))) .z))
      replace hl3:=Option.some.inj hl3; subst hl3
      exact wX 3 [] cj0 (Kl3.n _ rfl)
     ·replace hl3:=Option.some.inj hl3; subst hl3
      have hr:=rl3 _ rfl
      subst hr
      exact wX 8 [.f] (cjC hc7 (cj1 (Kl3.o _ rfl))) (kl3 (l3_0,l3_7) rfl)
    ·rintro ⟨l3x_0,l3x_7⟩ rfl
     obtain ⟨j4_0,hj4,hl2⟩:=bindE hl2
     refine wG (fun (j4_0:(List GCue))=>(zipE [0,1,2,6] [.ms 0 0 j4_0.length,.i a1,.fn 88 [],.i l2_6])) (fun (j4_0:(List GCue))=>⟨[(0,.cells 3 (j4_0.map E_GCue))],1⟩) (fun j=>j4_0 = j) (fun kj4=>?_) ?_
     ·rcases iteE hj4 with ⟨hc10,hj4⟩ | ⟨hc10,hj4⟩
      ·obtain ⟨r11,hr11,hj4⟩:=bindE hj4
       obtain ⟨hn12,hj4⟩:=needE hj4
       let b_3:Blk:=.cells 3 (r11.map E_GCue)
       refine wT 5 [.t,.r [{},{},{},{},{},{ c:=some (.tup [],⟨[(0,b_3)],1⟩) }]] (cjC hc10 (cj1 (f183_ok l3x_0 l3x_7 (wr (l3x_7 + l2_6)) a1 _ hr11))) [0,1,2,6] [.ms 0 0 l3x_0.length,.i a1,.fn 88 [],.i l2_6] ⟨[(0,b_3)],1⟩ (wI 1 [] [0,1,2,6] [.ms 0 0 l3x_0.length,.i a1,.fn 88 [],.i l2_6] (xs:=[.ms 0 0 r11.length,.i a1,.fn 88 [],.i l2_6]) (S2:=⟨[(0,b_3)],1⟩) ?_ r0 (.k (.e rfl rfl hn12) (.k (.c rfl) (.k (.c rfl) (.k (.c rfl) .z)))) (.k rfl (.cells (.r (cleanMap _ _ cl_GCue))) .z))
       replace hj4:=Option.some.inj hj4; subst hj4
       exact wX 1 [] cj0 (kj4 r11 rfl)
      ·replace hj4:=Option.some.inj hj4; subst hj4
       exact wX 6 [.f] (cj1 hc10) (kj4 l3x_0 rfl)
     ·rintro _ rfl
      replace hl2:=Option.some.inj hl2; subst hl2
      exact wX 2 [] cj0 (Kl2.n _ rfl)
   ·replace hl2:=Option.some.inj hl2; subst hl2
    have hr:=rl2 _ rfl
    subst hr
    exact wX 7 [.f] (cjC hc6 (cj1 (Kl2.o _ rfl))) (kl2 l2_0 rfl)
  ·rintro _ rfl
   replace h:=Option.some.inj h; subst h
   exact wP 0 [] cj0 ⟨rfl,rfl⟩
def f87 (a0:List GCue):Option (List GCue):=(f140 a0 (a0.length:Int)).bind fun r1=>need (r1.length = a0.length) <| some r1
theorem f87_ok (a0:List GCue) (r:(List GCue)) (h:f87 a0 = some r):ACalls Tryz.prog 87 [.ms 0 0 a0.length,.fn 88 []] ⟨[(0,.cells 3 (a0.map E_GCue))],1⟩ (fun y t=>y = .tup [] ∧ t = ⟨[(0,.cells 3 (r.map E_GCue))],1⟩):=by
 refine wf 9 [] (c87 0) ?_
 unfold f87 at h
 obtain ⟨r1,hr1,h⟩:=bindE h
 obtain ⟨hn2,h⟩:=needE h
 replace h:=Option.some.inj h; subst h
 exact wP 1 [.r [{},{},{},{},{ c:=some (.tup [],⟨[(0,.cells 3 (r1.map E_GCue))],1⟩) }]] (cj1 (f140_ok a0 (a0.length:Int) _ hr1)) ⟨rfl,rfl⟩
end Go.Proofs.YtodkhgjhodmeoaaGreat
