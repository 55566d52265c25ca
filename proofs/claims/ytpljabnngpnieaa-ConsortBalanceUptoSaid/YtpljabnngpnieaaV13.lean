/-
 Functions of the program as Lean functions,and the walks. Written by a program of ours.
-/
import Derived.Test.YtpljabnngpnieaaV32
namespace Go.Proofs.Ytpljabnngpnieaa
open Go Go.Am
set_option maxRecDepth 100000
set_option linter.all false
noncomputable def c61 (k:Nat):Code:=nthC (subs (Try.f61.body.getD .skip)) k
noncomputable def c44 (k:Nat):Code:=nthC (subs (Try.f44.body.getD .skip)) k
noncomputable def c66 (k:Nat):Code:=nthC (subs (Try.f66.body.getD .skip)) k
noncomputable def c53 (k:Nat):Code:=nthC (subs (Try.f53.body.getD .skip)) k
noncomputable def c52 (k:Nat):Code:=nthC (subs (Try.f52.body.getD .skip)) k
noncomputable def c31 (k:Nat):Code:=nthC (subs (Try.f31.body.getD .skip)) k
noncomputable def c71 (k:Nat):Code:=nthC (subs (Try.f71.body.getD .skip)) k
noncomputable def c56 (k:Nat):Code:=nthC (subs (Try.f56.body.getD .skip)) k
noncomputable def c57 (k:Nat):Code:=nthC (subs (Try.f57.body.getD .skip)) k
noncomputable def c33 (k:Nat):Code:=nthC (subs (Try.f33.body.getD .skip)) k
noncomputable def c34 (k:Nat):Code:=nthC (subs (Try.f34.body.getD .skip)) k
noncomputable def c36 (k:Nat):Code:=nthC (subs (Try.f36.body.getD .skip)) k
noncomputable def c37 (k:Nat):Code:=nthC (subs (Try.f37.body.getD .skip)) k
noncomputable def c38 (k:Nat):Code:=nthC (subs (Try.f38.body.getD .skip)) k
def f22_1 (a0:GCPlayer):Option Bool:=((bif (!a0.waiting) then (some (decide (a0.now = a0.end_))) else (some false)):Option Bool).bind fun (j1_2:Bool)=>some j1_2
theorem f22_1_ok (a0:GCPlayer) (r:Bool) (h:f22_1 a0 = some r):ACalls Try.prog 22 [.mp 0 0 0] ⟨[(3,.cells 5 (a0.takes.map E_GTake)),(2,.cells 7 (a0.sounding.l.map E_GCLive)),(1,.cells 3 (a0.desks.map E_GCDesk)),(0,.cells 11 [.agg [.i a0.clock.ticks,.i a0.now,.i a0.end_,.bool a0.waiting,.ms 1 0 a0.desks.length,.i a0.from_,.i a0.to_,.i a0.times,.ms 2 0 a0.sounding.l.length,.fn 31 [],.ms 3 0 a0.takes.length]])],4⟩ (fun y t=>y = .bool r ∧ t = ⟨[(3,.cells 5 (a0.takes.map E_GTake)),(2,.cells 7 (a0.sounding.l.map E_GCLive)),(1,.cells 3 (a0.desks.map E_GCDesk)),(0,.cells 11 [.agg [.i a0.clock.ticks,.i a0.now,.i a0.end_,.bool a0.waiting,.ms 1 0 a0.desks.length,.i a0.from_,.i a0.to_,.i a0.times,.ms 2 0 a0.sounding.l.length,.fn 31 [],.ms 3 0 a0.takes.length]])],4⟩):=by
 refine run_f 23 [.tmp 2] (c22 0) (zipE [0] [.mp 0 0 0]) (by kernel_rfl) (by kernel_rfl) (by kernel_rfl) rfl ?_
 unfold f22_1 at h
 let v_0:AV:=.ms 2 0 a0.sounding.l.length
 let v_1:AV:=.ms 1 0 a0.desks.length
 let v_2:AV:=.ms 3 0 a0.takes.length
 let v_3:AV:=.i a0.clock.ticks
 let v_4:AV:=.bool a0.waiting
 let w_0:AV:=.agg [v_3,.i a0.now,.i a0.end_,v_4,v_1,.i a0.from_,.i a0.to_,.i a0.times,v_0,.fn 31 [],v_2]
 let b_0:Blk:=.cells 7 (a0.sounding.l.map E_GCLive)
 let b_1:Blk:=.cells 3 (a0.desks.map E_GCDesk)
 let b_2:Blk:=.cells 5 (a0.takes.map E_GTake)
 let s_0:St:=⟨[(3,b_2),(2,b_0),(1,b_1),(0,.cells 11 [w_0])],4⟩
 refine run1z (c22 2) [] [0] [.mp 0 0 0] s_0 _ (by kernel_rfl) cj0 ?_
 obtain ⟨j1_2,hj1,h⟩:=bindE h
 refine run_gq (c22 4) (fun (j1_2:Bool)=>(zipE [2] [.bool j1_2])) (fun (j1_2:Bool)=>s_0) (fun j=>j1_2 = j) (fun kj1=>?_) ?_
 ·rcases iteE hj1 with ⟨hc1,hj1⟩ | ⟨hc1,hj1⟩
  ·replace hj1:=Option.some.inj hj1; subst hj1
   exact yun1z (c22 4) [[],[0],[0,1],[0,1,2],[0,1,2,3],[0,1,2,3,4],[0,1,2,3,4,5],[0,1,2,3,4,5,6],[0,1,2,3,4,5,6,7],[0,1,2,3,4,5,6,7,8],[0,1,2,3,4,5,6,7,8,9],[0,1,2,3,4,5,6,7,8,9,10],[0,1,2,3,4,5,6,7,8,9,10,11],[0,1,2,3,4,5,6,7,8,9,10,11,12],[0,1,2,3,4,5,6,7,8,9],[0,1,2,3,4,5,6,7,8,9,14],[0,1,2,3,4,5,6,7,8,9,14,15],[0,1,2,3,4,5,6,7,8,9,14,15,16],[0,1,2,3,4,5,6,7,8,9,10,11,12,13,14,15,16,17],[0,1,2,3,4,5,6,7,8,9,10,11,12,13,14,15,16,17,18],[0,1,2,3,4,5,6,7,8,9,10,11,12,13,14,15,16,17,18,19]] [.light 0 false,.light 1 false,.light 2 false,.light 3 false,.light 4 false,.light 5 false,.light 6 false,.light 7 false,.light 8 false,.light 9 false,.light 10 false,.light 11 false,.light 12 false,.light 13 false,.light 14 false,.light 15 false,.light 16 false,.light 17 false,.light 18 false,.light 19 false,.light 20 false] [] [2] [.bool (decide (a0.now = a0.end_))] s_0 _ (by kernel_rfl) (cjC (Eq.refl true) (cjC (Eq.refl true) (cjC (Eq.refl true) (cjC (Eq.refl true) (cjC (Eq.refl true) (cjC (hc1) (cjC (Eq.refl true) (cjC (Eq.refl true) (cjC (Eq.refl true) (cjC (Eq.refl true) (cjC (Eq.refl true) (cjC (Eq.refl true) (cjC (Eq.refl true) (cj1 (Eq.refl true))))))))))))))) (kj1 (decide (a0.now = a0.end_)) rfl)
  ·replace hj1:=Option.some.inj hj1; subst hj1
   exact yun1z (c22 4) [[],[0],[0,1],[0,1,2],[0,1,2,3],[0,1,2,3,4],[0,1,2,3,4,5],[0,1,2,3,4,5,6],[0,1,2,3,4,5,6,7],[0,1,2,3,4,5,6,7,8],[0,1,2,3,4,5,6,7,8,9],[0,1,2,3,4,5,6,7,8,9,10],[0,1,2,3,4,5,6,7,8,9,10,11],[0,1,2,3,4,5,6,7,8,9,10,11,12],[0,1,2,3,4,5,6,7,8,9],[0,1,2,3,4,5,6,7,8,9,14],[0,1,2,3,4,5,6,7,8,9,14,15],[0,1,2,3,4,5,6,7,8,9,14,15,16],[0,1,2,3,4,5,6,7,8,9,10,11,12,13,14,15,16,17],[0,1,2,3,4,5,6,7,8,9,10,11,12,13,14,15,16,17,18],[0,1,2,3,4,5,6,7,8,9,10,11,12,13,14,15,16,17,18,19]] [.light 0 false,.light 1 false,.light 2 false,.light 3 false,.light 4 false,.light 5 false,.light 6 false,.light 7 false,.light 8 false,.light 9 false,.light 10 false,.light 11 false,.light 12 false,.light 13 false,.light 14 false,.light 15 false,.light 16 false,.light 17 false,.light 18 false,.light 19 false,.light 20 false] [{},{},{},{},{},{},{},{},{},{},{ g:=false },{ g:=false },{ g:=false },{ g:=false },{ g:=false },{ g:=false },{ g:=false },{ g:=false },{ g:=false }] [2] [.bool false] s_0 _ (by kernel_rfl) (cjC (Eq.refl true) (cjC (Eq.refl true) (cjC (Eq.refl true) (cjC (Eq.refl true) (cjC (Eq.refl true) (cjC (hc1) (cjC (Eq.refl false) (cjC (Eq.refl false) (cjC (Eq.refl false) (cjC (Eq.refl false) (cjC (Eq.refl false) (cjC (Eq.refl false) (cjC (Eq.refl false) (cj1 (Eq.refl false))))))))))))))) (kj1 false rfl)
 ·rintro _ rfl
  refine run_t (by kernel_rfl) ?_
  replace h:=Option.some.inj h; subst h
  exact fin_p [3,2,1,0] s_0 (by kernel_rfl) (by kernel_rfl) rfl ⟨rfl,rfl⟩
def f61 (a0:Int) (a1:GCPlayer) (a2:Int):Option Int:=bif (decide (a1.now < a0)) then (some (minI a2 a0)) else (some a2)
theorem f61_ok (a0:Int) (a1:GCPlayer) (a2:Int) (r:Int) (h:f61 a0 a1 a2 = some r):ACalls Try.prog 61 [.i a0,.mp 0 0 0,.mp 5 0 0] ⟨[(5,.cells 1 [.i a2]),(4,.cells 5 (a1.takes.map E_GTake)),(3,.cells 7 (a1.sounding.l.map E_GCLive)),(2,.cells 3 (a1.desks.map E_GCDesk)),(1,.cells 11 [.agg [.i a1.clock.ticks,.i a1.now,.i a1.end_,.bool a1.waiting,.ms 2 0 a1.desks.length,.i a1.from_,.i a1.to_,.i a1.times,.ms 3 0 a1.sounding.l.length,.fn 31 [],.ms 4 0 a1.takes.length]]),(0,.cells 1 [.mp 1 0 0])],6⟩ (fun y t=>y = .tup [] ∧ t = ⟨[(5,.cells 1 [.i r]),(4,.cells 5 (a1.takes.map E_GTake)),(3,.cells 7 (a1.sounding.l.map E_GCLive)),(2,.cells 3 (a1.desks.map E_GCDesk)),(1,.cells 11 [.agg [.i a1.clock.ticks,.i a1.now,.i a1.end_,.bool a1.waiting,.ms 2 0 a1.desks.length,.i a1.from_,.i a1.to_,.i a1.times,.ms 3 0 a1.sounding.l.length,.fn 31 [],.ms 4 0 a1.takes.length]]),(0,.cells 1 [.mp 1 0 0])],6⟩):=by
 refine run_f 13 [] (c61 0) (zipE [0,1,2] [.i a0,.mp 0 0 0,.mp 5 0 0]) (by kernel_rfl) (by kernel_rfl) (by kernel_rfl) rfl ?_
 unfold f61 at h
 let v_0:AV:=.ms 3 0 a1.sounding.l.length
 let v_1:AV:=.ms 2 0 a1.desks.length
 let v_2:AV:=.ms 4 0 a1.takes.length
 let v_3:AV:=.i a1.clock.ticks
 let v_4:AV:=.bool a1.waiting
 let w_0:AV:=.agg [v_3,.i a1.now,.i a1.end_,v_4,v_1,.i a1.from_,.i a1.to_,.i a1.times,v_0,.fn 31 [],v_2]
 let b_0:Blk:=.cells 7 (a1.sounding.l.map E_GCLive)
 let b_1:Blk:=.cells 3 (a1.desks.map E_GCDesk)
 let b_2:Blk:=.cells 5 (a1.takes.map E_GTake)
 let b_3:Blk:=.cells 1 [.mp 1 0 0]
 let s_0:St:=⟨[(5,.cells 1 [.i a2]),(4,b_2),(3,b_0),(2,b_1),(1,.cells 11 [w_0]),(0,b_3)],6⟩
 refine run1z (c61 2) [] [0,2,9] [.i a0,.mp 5 0 0,.bool (decide (a1.now < a0))] s_0 _ (by kernel_rfl) cj0 ?_
 rcases iteE h with ⟨hc1,h⟩ | ⟨hc1,h⟩
 ·refine run_cT 9 (c61 3) (c61 4) (decide (a1.now < a0)) hc1 (by kernel_rfl) (by kernel_rfl) ?_
  let s_1:St:=⟨[(5,.cells 1 [.i (minI a2 a0)]),(4,b_2),(3,b_0),(2,b_1),(1,.cells 11 [w_0]),(0,b_3)],6⟩
  refine run0z [] [] [] s_1 _ (by kernel_rfl) cj0 ?_
  replace h:=Option.some.inj h; subst h
  exact fin_q [5,4,3,2,1,0] s_1 (by kernel_rfl) (by kernel_rfl) rfl ⟨rfl,rfl⟩
 ·refine run_cF 9 (c61 3) (c61 4) (decide (a1.now < a0)) hc1 (by kernel_rfl) (by kernel_rfl) ?_
  refine run_k (by kernel_rfl) ?_
  replace h:=Option.some.inj h; subst h
  exact fin_q [5,4,3,2,1,0] s_0 (by kernel_rfl) (by kernel_rfl) rfl ⟨rfl,rfl⟩
def f44 (a0:GCPlayer):Option Int:=bif a0.waiting then (some a0.now) else (((bif (decide (0 < a0.times)) then ((f61 a0.to_ a0 a0.end_).bind fun r3=>some r3) else (some a0.end_)):Option Int).bind fun (j1_h5:Int)=>(loopN (σ:=(Int × Int)) (τ:=Int) (fun ((l2_h5,l2_41):(Int × Int))=>bif (decide (l2_41 < (a0.sounding.l.length:Int))) then ((ix a0.sounding.l l2_41).bind fun y5=>(f61 y5.note.to_ a0 l2_h5).bind fun r6=>some (.inl (r6,(wr (l2_41 + 1))))) else (some (.inr l2_h5))) FUEL (j1_h5,0)).bind fun (l2x_h5:Int)=>(loopN (σ:=(Int × Int)) (τ:=Int) (fun ((l3_h5,l3_56):(Int × Int))=>bif (decide (l3_56 < (a0.desks.length:Int))) then ((ix a0.desks l3_56).bind fun y8=>(loopN (σ:=(Int × Int)) (τ:=Int) (fun ((l4_h5,l4_63):(Int × Int))=>bif (decide (l4_63 < (y8.notes.length:Int))) then ((((ix y8.notes l4_63).bind fun y10=>((bif (!y8.silent) then (some (decide (y8.since ≤ y10.from_))) else (some false)):Option Bool).bind fun (j6_76:Bool)=>bif j6_76 then ((f61 y10.from_ a0 l4_h5).bind fun r13=>some r13) else (some l4_h5)):Option Int).bind fun (j5_h5:Int)=>some (.inl (j5_h5,(wr (l4_63 + 1))))) else (some (.inr l4_h5))) FUEL (l3_h5,0)).bind fun (l4x_h5:Int)=>some (.inl (l4x_h5,(wr (l3_56 + 1))))) else (some (.inr l3_h5))) FUEL (l2x_h5,0)).bind fun (l3x_h5:Int)=>some l3x_h5)
theorem f44_ok (a0:GCPlayer) (r:Int) (h:f44 a0 = some r):ACalls Try.prog 44 [.mp 0 0 0] ⟨[(3,.cells 5 (a0.takes.map E_GTake)),(2,.cells 7 (a0.sounding.l.map E_GCLive)),(1,.cells 3 (a0.desks.map E_GCDesk)),(0,.cells 11 [.agg [.i a0.clock.ticks,.i a0.now,.i a0.end_,.bool a0.waiting,.ms 1 0 a0.desks.length,.i a0.from_,.i a0.to_,.i a0.times,.ms 2 0 a0.sounding.l.length,.fn 31 [],.ms 3 0 a0.takes.length]])],4⟩ (fun y t=>y = .i r ∧ t = ⟨[(3,.cells 5 (a0.takes.map E_GTake)),(2,.cells 7 (a0.sounding.l.map E_GCLive)),(1,.cells 3 (a0.desks.map E_GCDesk)),(0,.cells 11 [.agg [.i a0.clock.ticks,.i a0.now,.i a0.end_,.bool a0.waiting,.ms 1 0 a0.desks.length,.i a0.from_,.i a0.to_,.i a0.times,.ms 2 0 a0.sounding.l.length,.fn 31 [],.ms 3 0 a0.takes.length]])],6⟩):=by
 refine run_f 84 [.tmp 2] (c44 0) (zipE [0] [.mp 0 0 0]) (by kernel_rfl) (by kernel_rfl) (by kernel_rfl) rfl ?_
 unfold f44 at h
 let v_0:AV:=.ms 2 0 a0.sounding.l.length
 let v_1:AV:=.ms 1 0 a0.desks.length
 let v_2:AV:=.ms 3 0 a0.takes.length
 let v_3:AV:=.i a0.clock.ticks
 let v_4:AV:=.bool a0.waiting
 let w_0:AV:=.agg [v_3,.i a0.now,.i a0.end_,v_4,v_1,.i a0.from_,.i a0.to_,.i a0.times,v_0,.fn 31 [],v_2]
 let b_0:Blk:=.cells 7 (a0.sounding.l.map E_GCLive)
 let b_1:Blk:=.cells 3 (a0.desks.map E_GCDesk)
 let b_2:Blk:=.cells 5 (a0.takes.map E_GTake)
 let b_3:Blk:=.cells 1 [.mp 0 0 0]
 let s_0:St:=⟨[(4,b_3),(3,b_2),(2,b_0),(1,b_1),(0,.cells 11 [w_0])],5⟩
 refine run1z (c44 2) [] [1] [.mp 4 0 0] s_0 _ (by kernel_rfl) cj0 ?_
 refine run_s (c44 3) (c44 10) (by kernel_rfl) ?_
 refine run1z (c44 5) [] [1,14] [.mp 4 0 0,v_4] s_0 _ (by kernel_rfl) cj0 ?_
 rcases iteE h with ⟨hc1,h⟩ | ⟨hc1,h⟩
 ·refine run_cT 14 (c44 6) (c44 9) a0.waiting hc1 (by kernel_rfl) (by kernel_rfl) ?_
  refine run1z (c44 8) [] [2] [.i a0.now] ⟨[(3,b_2),(2,b_0),(1,b_1),(0,.cells 11 [w_0])],5⟩ _ (by kernel_rfl) cj0 ?_
  let s_1:St:=⟨[(3,b_2),(2,b_0),(1,b_1),(0,.cells 11 [w_0])],6⟩
  refine run_i 5 [] [2] [.i a0.now] (xs:=[.i a0.now]) (S2:=s_1) ?_ (by intro i e; cases e <;> exact Nat.le_of_ble_eq_true rfl) (by kernel_rfl) (by kernel_rfl) (by kernel_rfl) (.k (.c rfl) .z) (.k rfl (.cells (.r (cleanMap _ _ cl_GTake))) (.k rfl (.cells (.r (cleanMap _ _ cl_GCLive))) (.k rfl (.cells (.r (cleanMap _ _ cl_GCDesk))) (.k rfl (.cells (.k (.a (.k (.c rfl) (.k (.c rfl) (.k (.c rfl) (.k (.c rfl) (.k (.ms rfl rfl) (.k (.c rfl) (.k (.c rfl) (.k (.c rfl) (.k (.ms rfl rfl) (.k (.c rfl) (.k (.ms rfl rfl) .z)))))))))))) .z)) .z))))
  refine run_t (by kernel_rfl) ?_
  refine thenR ?_
  replace h:=Option.some.inj h; subst h
  exact fin_p [3,2,1,0] s_1 (by kernel_rfl) (by kernel_rfl) rfl ⟨rfl,rfl⟩
 ·refine run_cF 14 (c44 6) (c44 9) a0.waiting hc1 (by kernel_rfl) (by kernel_rfl) ?_
  refine run_k (by kernel_rfl) ?_
  refine thenN ?_
  let b_4:Blk:=.cells 1 [.i a0.end_]
  let s_3:St:=⟨[(5,b_4),(4,b_3),(3,b_2),(2,b_0),(1,b_1),(0,.cells 11 [w_0])],6⟩
  refine run1z (c44 12) [] [1,3] [.mp 4 0 0,.mp 5 0 0] s_3 _ (by kernel_rfl) cj0 ?_
  let w_1:AV:=.fn 61 [.mp 4 0 0,.mp 5 0 0]
  refine run1z (c44 14) [] [1,3,4] [.mp 4 0 0,.mp 5 0 0,w_1] s_3 _ (by kernel_rfl) cj0 ?_
  obtain ⟨j1_h5,hj1,h⟩:=bindE h
  refine run_jq (c44 15) (c44 20) (fun (j1_h5:Int)=>(zipE [1,3,4] [.mp 4 0 0,.mp 5 0 0,w_1])) (fun (j1_h5:Int)=>⟨[(5,.cells 1 [.i j1_h5]),(4,b_3),(3,b_2),(2,b_0),(1,b_1),(0,.cells 11 [w_0])],6⟩) (fun j=>j1_h5 = j) (by kernel_rfl) (fun kj1=>?_) ?_
  ·refine run1z (c44 17) [] [1,3,4,28] [.mp 4 0 0,.mp 5 0 0,w_1,.bool (decide (0 < a0.times))] s_3 _ (by kernel_rfl) cj0 ?_
   rcases iteE hj1 with ⟨hc2,hj1⟩ | ⟨hc2,hj1⟩
   ·refine run_cT 28 (c44 18) (c44 19) (decide (0 < a0.times)) hc2 (by kernel_rfl) (by kernel_rfl) ?_
    obtain ⟨r3,hr3,hj1⟩:=bindE hj1
    let b_5:Blk:=.cells 1 [.i r3]
    let s_4:St:=⟨[(5,b_5),(4,b_3),(3,b_2),(2,b_0),(1,b_1),(0,.cells 11 [w_0])],6⟩
    refine run0z [{},{},{},{},{},{ c:=some (.tup [],s_4) }] [1,3,4] [.mp 4 0 0,.mp 5 0 0,w_1] s_4 _ (by kernel_rfl) (cj1 (callF (f61_ok a0.to_ a0 a0.end_ _ hr3) [(0,4),(1,0),(2,1),(3,2),(4,3),(5,5)] [(5,5),(3,4),(2,3),(1,2),(0,1),(4,0)] [] [.i a0.to_,.mp 4 0 0,.mp 5 0 0] s_3 (.tup []) s_4 (by kernel_rfl) (.k (.c rfl) (.k (.mp rfl rfl) (.k (.mp rfl rfl) .z))) (.t .z) (.k rfl (.cells (.k (.c rfl) .z)) (.k rfl (.cells (.r (cleanMap _ _ cl_GTake))) (.k rfl (.cells (.r (cleanMap _ _ cl_GCLive))) (.k rfl (.cells (.r (cleanMap _ _ cl_GCDesk))) (.k rfl (.cells (.k (.a (.k (.c rfl) (.k (.c rfl) (.k (.c rfl) (.k (.c rfl) (.k (.ms rfl rfl) (.k (.c rfl) (.k (.c rfl) (.k (.c rfl) (.k (.ms rfl rfl) (.k (.c rfl) (.k (.ms rfl rfl) .z)))))))))))) .z)) (.k rfl (.cells (.k (.mp rfl rfl) .z)) .z)))))) (.d (x':=b_5) rfl (by kernel_rfl) (.cells (.k (.c rfl) .z)) (.d (x':=.cells 1 [.mp 1 0 0]) rfl (by kernel_rfl) (.cells (.k (.mp rfl rfl) .z)) (.d (x':=b_2) rfl (by kernel_rfl) (.cells (.r (cleanMap _ _ cl_GTake))) (.d (x':=b_0) rfl (by kernel_rfl) (.cells (.r (cleanMap _ _ cl_GCLive))) (.d (x':=b_1) rfl (by kernel_rfl) (.cells (.r (cleanMap _ _ cl_GCDesk))) (.d (x':=.cells 11 [.agg [v_3,.i a0.now,.i a0.end_,v_4,.ms 2 0 a0.desks.length,.i a0.from_,.i a0.to_,.i a0.times,.ms 3 0 a0.sounding.l.length,.fn 31 [],.ms 4 0 a0.takes.length]]) rfl (by kernel_rfl) (.cells (.k (.a (.k (.c rfl) (.k (.c rfl) (.k (.c rfl) (.k (.c rfl) (.k (.ms rfl rfl) (.k (.c rfl) (.k (.c rfl) (.k (.c rfl) (.k (.ms rfl rfl) (.k (.c rfl) (.k (.ms rfl rfl) .z)))))))))))) .z)) .z)))))))) ?_
    replace hj1:=Option.some.inj hj1; subst hj1
    refine thenN ?_
    exact kj1 r3 rfl
   ·refine run_cF 28 (c44 18) (c44 19) (decide (0 < a0.times)) hc2 (by kernel_rfl) (by kernel_rfl) ?_
    replace hj1:=Option.some.inj hj1; subst hj1
    refine awp_p [1,3,4] [5,4,3,2,1,0] (zipE [1,3,4] [.mp 4 0 0,.mp 5 0 0,w_1]) s_3 (by kernel_rfl) (?_)
    refine run_k (by kernel_rfl) ?_
    refine thenN ?_
    exact kj1 a0.end_ rfl
  ·rintro _ rfl
   refine run_s (c44 21) (c44 37) (by kernel_rfl) ?_
   let v_5:AV:=.i (a0.sounding.l.length:Int)
   refine run1z (c44 23) [] [1,3,4,39,40,41] [.mp 4 0 0,.mp 5 0 0,w_1,v_0,v_5,.i 0] ⟨[(5,.cells 1 [.i j1_h5]),(4,b_3),(3,b_2),(2,b_0),(1,b_1),(0,.cells 11 [w_0])],6⟩ _ (by kernel_rfl) cj0 ?_
   obtain ⟨l2x_h5,hll2x,h⟩:=bindE h
   refine run_tq (fun (l2x_h5:Int)=>(zipE [1,3,4] [.mp 4 0 0,.mp 5 0 0,w_1])) (fun (l2x_h5:Int)=>⟨[(5,.cells 1 [.i l2x_h5]),(4,b_3),(3,b_2),(2,b_0),(1,b_1),(0,.cells 11 [w_0])],6⟩) (fun j=>l2x_h5 = j) (fun kl2=>?_) ?_
   ·refine run_b 0 (c44 24) (by kernel_rfl) ?_
    refine run_l (c44 25) _ hll2x (fun ((l2_h5,l2_41):(Int × Int))=>(zipE [1,3,4,39,40,41] [.mp 4 0 0,.mp 5 0 0,w_1,v_0,v_5,.i l2_41])) (fun ((l2_h5,l2_41):(Int × Int))=>⟨[(5,.cells 1 [.i l2_h5]),(4,b_3),(3,b_2),(2,b_0),(1,b_1),(0,.cells 11 [w_0])],6⟩) [] (by intro i e; cases e <;> exact Nat.le_of_ble_eq_true rfl) (by kernel_rfl) (mkInto (ks:=[1,3,4,39,40,41]) (ys:=[.mp 4 0 0,.mp 5 0 0,w_1,v_0,v_5,.i 0]) (by kernel_rfl) (by kernel_rfl) (.k (.mp rfl rfl) (.k (.mp rfl rfl) (.k (.f (.k (.mp rfl rfl) (.k (.mp rfl rfl) .z))) (.k (.ms rfl rfl) (.k (.c rfl) (.k (.c rfl) .z)))))) (.k rfl (.cells (.k (.c rfl) .z)) (.k rfl (.cells (.k (.mp rfl rfl) .z)) (.k rfl (.cells (.r (cleanMap _ _ cl_GTake))) (.k rfl (.cells (.r (cleanMap _ _ cl_GCLive))) (.k rfl (.cells (.r (cleanMap _ _ cl_GCDesk))) (.k rfl (.cells (.k (.a (.k (.c rfl) (.k (.c rfl) (.k (.c rfl) (.k (.c rfl) (.k (.ms rfl rfl) (.k (.c rfl) (.k (.c rfl) (.k (.c rfl) (.k (.ms rfl rfl) (.k (.c rfl) (.k (.ms rfl rfl) .z)))))))))))) .z)) .z))))))) ?_
    rintro ⟨l2_h5,l2_41⟩ out hl2 rl2
    let b_6:Blk:=.cells 1 [.i l2_h5]
    let s_5:St:=⟨[(5,b_6),(4,b_3),(3,b_2),(2,b_0),(1,b_1),(0,.cells 11 [w_0])],6⟩
    refine run1z (c44 27) [] [1,3,4,39,40,41,42] [.mp 4 0 0,.mp 5 0 0,w_1,v_0,v_5,.i l2_41,.bool (decide (l2_41 < (a0.sounding.l.length:Int)))] s_5 _ (by kernel_rfl) cj0 ?_
    refine run_s (c44 28) (c44 31) (by kernel_rfl) ?_
    rcases iteE hl2 with ⟨hc4,hl2⟩ | ⟨hc4,hl2⟩
    ·refine run_cT 42 (c44 29) (c44 30) (decide (l2_41 < (a0.sounding.l.length:Int))) hc4 (by kernel_rfl) (by kernel_rfl) ?_
     refine run_k (by kernel_rfl) ?_
     refine thenN ?_
     refine run_s (c44 32) (c44 36) (by kernel_rfl) ?_
     refine run_b 1 (c44 33) (by kernel_rfl) ?_
     obtain ⟨y5,hy5,hl2⟩:=bindE hl2
     let b_7:Blk:=.cells 7 [E_GCLive y5]
     let s_6:St:=⟨[(6,b_7),(5,b_6),(4,b_3),(3,b_2),(2,b_0),(1,b_1),(0,.cells 11 [w_0])],7⟩
     refine run1z (c44 35) [{ k:=1,n:=l2_41.toNat },{ k:=1,x:=E_GCLive y5 }] [1,3,4,6,39,40,41] [.mp 4 0 0,.mp 5 0 0,w_1,.mp 6 0 0,v_0,v_5,.i l2_41] s_6 _ (by kernel_rfl) (cjC ((ixE hy5).1) (cjC (ixLt hy5) (cjC (Nat.zero_add l2_41.toNat) (cj1 (mapGet E_GCLive (ixE hy5).2))))) ?_
     obtain ⟨r6,hr6,hl2⟩:=bindE hl2
     let b_8:Blk:=.cells 1 [.i r6]
     let s_7:St:=⟨[(6,b_7),(5,b_8),(4,b_3),(3,b_2),(2,b_0),(1,b_1),(0,.cells 11 [w_0])],7⟩
     let s_8:St:=⟨[(5,b_8),(4,b_3),(3,b_2),(2,b_0),(1,b_1),(0,.cells 11 [w_0])],7⟩
     refine run0z [{},{},{},{},{ c:=some (.tup [],s_7) }] [1,3,4,39,40,41] [.mp 4 0 0,.mp 5 0 0,w_1,v_0,v_5,.i l2_41] s_8 _ (by kernel_rfl) (cj1 (callF (f61_ok y5.note.to_ a0 l2_h5 _ hr6) [(0,4),(1,0),(2,1),(3,2),(4,3),(5,5)] [(5,5),(3,4),(2,3),(1,2),(0,1),(4,0)] [6] [.i y5.note.to_,.mp 4 0 0,.mp 5 0 0] s_6 (.tup []) s_7 (by kernel_rfl) (.k (.c rfl) (.k (.mp rfl rfl) (.k (.mp rfl rfl) .z))) (.t .z) (.k rfl (.cells (.k (.c rfl) .z)) (.k rfl (.cells (.r (cleanMap _ _ cl_GTake))) (.k rfl (.cells (.r (cleanMap _ _ cl_GCLive))) (.k rfl (.cells (.r (cleanMap _ _ cl_GCDesk))) (.k rfl (.cells (.k (.a (.k (.c rfl) (.k (.c rfl) (.k (.c rfl) (.k (.c rfl) (.k (.ms rfl rfl) (.k (.c rfl) (.k (.c rfl) (.k (.c rfl) (.k (.ms rfl rfl) (.k (.c rfl) (.k (.ms rfl rfl) .z)))))))))))) .z)) (.k rfl (.cells (.k (.mp rfl rfl) .z)) .z)))))) (.f rfl (by kernel_rfl) (.d (x':=b_8) rfl (by kernel_rfl) (.cells (.k (.c rfl) .z)) (.d (x':=.cells 1 [.mp 1 0 0]) rfl (by kernel_rfl) (.cells (.k (.mp rfl rfl) .z)) (.d (x':=b_2) rfl (by kernel_rfl) (.cells (.r (cleanMap _ _ cl_GTake))) (.d (x':=b_0) rfl (by kernel_rfl) (.cells (.r (cleanMap _ _ cl_GCLive))) (.d (x':=b_1) rfl (by kernel_rfl) (.cells (.r (cleanMap _ _ cl_GCDesk))) (.d (x':=.cells 11 [.agg [v_3,.i a0.now,.i a0.end_,v_4,.ms 2 0 a0.desks.length,.i a0.from_,.i a0.to_,.i a0.times,.ms 3 0 a0.sounding.l.length,.fn 31 [],.ms 4 0 a0.takes.length]]) rfl (by kernel_rfl) (.cells (.k (.a (.k (.c rfl) (.k (.c rfl) (.k (.c rfl) (.k (.c rfl) (.k (.ms rfl rfl) (.k (.c rfl) (.k (.c rfl) (.k (.c rfl) (.k (.ms rfl rfl) (.k (.c rfl) (.k (.ms rfl rfl) .z)))))))))))) .z)) .z))))))))) ?_
     refine inbN ?_
     refine thenN ?_
     refine run0z [] [1,3,4,39,40,41] [.mp 4 0 0,.mp 5 0 0,w_1,v_0,v_5,.i (wr (l2_41 + 1))] s_8 _ (by kernel_rfl) cj0 ?_
     replace hl2:=Option.some.inj hl2; subst hl2
     exact ⟨_,rfl,pi [],mkInto (ks:=[1,3,4,39,40,41]) (ys:=[.mp 4 0 0,.mp 5 0 0,w_1,v_0,v_5,.i (wr (l2_41 + 1))]) (by kernel_rfl) (by kernel_rfl) (.k (.mp rfl rfl) (.k (.mp rfl rfl) (.k (.f (.k (.mp rfl rfl) (.k (.mp rfl rfl) .z))) (.k (.ms rfl rfl) (.k (.c rfl) (.k (.c rfl) .z)))))) (.k rfl (.cells (.k (.c rfl) .z)) (.k rfl (.cells (.k (.mp rfl rfl) .z)) (.k rfl (.cells (.r (cleanMap _ _ cl_GTake))) (.k rfl (.cells (.r (cleanMap _ _ cl_GCLive))) (.k rfl (.cells (.r (cleanMap _ _ cl_GCDesk))) (.k rfl (.cells (.k (.a (.k (.c rfl) (.k (.c rfl) (.k (.c rfl) (.k (.c rfl) (.k (.ms rfl rfl) (.k (.c rfl) (.k (.c rfl) (.k (.c rfl) (.k (.ms rfl rfl) (.k (.c rfl) (.k (.ms rfl rfl) .z)))))))))))) .z)) .z))))))⟩
    ·refine run_cF 42 (c44 29) (c44 30) (decide (l2_41 < (a0.sounding.l.length:Int))) hc4 (by kernel_rfl) (by kernel_rfl) ?_
     replace hl2:=Option.some.inj hl2; subst hl2
     have hr:=rl2 _ rfl
     subst hr
     refine awp_p [1,3,4] [5,4,3,2,1,0] (zipE [1,3,4] [.mp 4 0 0,.mp 5 0 0,w_1]) s_5 (by kernel_rfl) (?_)
     refine run_e 0 (by kernel_rfl) ?_
     refine thenE ?_
     refine ⟨⟨_,rfl⟩,?_⟩
     refine inbE ?_
     exact kl2 l2_h5 rfl
   ·rintro _ rfl
    refine thenN ?_
    refine run_s (c44 38) (c44 73) (by kernel_rfl) ?_
    let v_6:AV:=.i (a0.desks.length:Int)
    refine run1z (c44 40) [] [3,4,54,55,56] [.mp 5 0 0,w_1,v_1,v_6,.i 0] ⟨[(5,.cells 1 [.i l2x_h5]),(4,b_3),(3,b_2),(2,b_0),(1,b_1),(0,.cells 11 [w_0])],6⟩ _ (by kernel_rfl) cj0 ?_
    obtain ⟨l3x_h5,hll3x,h⟩:=bindE h
    refine run_tq (fun (l3x_h5:Int)=>(zipE [3] [.mp 5 0 0])) (fun (l3x_h5:Int)=>⟨[(5,.cells 1 [.i l3x_h5]),(3,b_2),(2,b_0),(1,b_1),(0,.cells 11 [w_0])],6⟩) (fun j=>l3x_h5 = j) (fun kl3=>?_) ?_
    ·refine run_b 2 (c44 41) (by kernel_rfl) ?_
     refine run_l (c44 42) _ hll3x (fun ((l3_h5,l3_56):(Int × Int))=>(zipE [3,4,54,55,56] [.mp 5 0 0,w_1,v_1,v_6,.i l3_56])) (fun ((l3_h5,l3_56):(Int × Int))=>⟨[(5,.cells 1 [.i l3_h5]),(4,b_3),(3,b_2),(2,b_0),(1,b_1),(0,.cells 11 [w_0])],6⟩) [] (by intro i e; cases e <;> exact Nat.le_of_ble_eq_true rfl) (by kernel_rfl) (mkInto (ks:=[3,4,54,55,56]) (ys:=[.mp 5 0 0,w_1,v_1,v_6,.i 0]) (by kernel_rfl) (by kernel_rfl) (.k (.mp rfl rfl) (.k (.f (.k (.mp rfl rfl) (.k (.mp rfl rfl) .z))) (.k (.ms rfl rfl) (.k (.c rfl) (.k (.c rfl) .z))))) (.k rfl (.cells (.k (.c rfl) .z)) (.k rfl (.cells (.k (.mp rfl rfl) .z)) (.k rfl (.cells (.r (cleanMap _ _ cl_GTake))) (.k rfl (.cells (.r (cleanMap _ _ cl_GCLive))) (.k rfl (.cells (.r (cleanMap _ _ cl_GCDesk))) (.k rfl (.cells (.k (.a (.k (.c rfl) (.k (.c rfl) (.k (.c rfl) (.k (.c rfl) (.k (.ms rfl rfl) (.k (.c rfl) (.k (.c rfl) (.k (.c rfl) (.k (.ms rfl rfl) (.k (.c rfl) (.k (.ms rfl rfl) .z)))))))))))) .z)) .z))))))) ?_
     rintro ⟨l3_h5,l3_56⟩ out hl3 rl3
     let b_9:Blk:=.cells 1 [.i l3_h5]
     refine run1z (c44 44) [] [3,4,54,55,56,57] [.mp 5 0 0,w_1,v_1,v_6,.i l3_56,.bool (decide (l3_56 < (a0.desks.length:Int)))] ⟨[(5,b_9),(4,b_3),(3,b_2),(2,b_0),(1,b_1),(0,.cells 11 [w_0])],6⟩ _ (by kernel_rfl) cj0 ?_
     refine run_s (c44 45) (c44 48) (by kernel_rfl) ?_
     rcases iteE hl3 with ⟨hc7,hl3⟩ | ⟨hc7,hl3⟩
     ·refine run_cT 57 (c44 46) (c44 47) (decide (l3_56 < (a0.desks.length:Int))) hc7 (by kernel_rfl) (by kernel_rfl) ?_
      refine run_k (by kernel_rfl) ?_
      refine thenN ?_
      refine run_s (c44 49) (c44 72) (by kernel_rfl) ?_
      refine run_b 3 (c44 50) (by kernel_rfl) ?_
      obtain ⟨y8,hy8,hl3⟩:=bindE hl3
      let b_10:Blk:=.cells 3 [E_GCDesk y8]
      let s_9:St:=⟨[(6,b_10),(5,b_9),(4,b_3),(3,b_2),(2,b_0),(1,b_1),(0,.cells 11 [w_0])],7⟩
      refine run1z (c44 52) [{ k:=1,n:=l3_56.toNat },{ k:=1,x:=E_GCDesk y8 }] [3,4,8,54,55,56] [.mp 5 0 0,w_1,.mp 6 0 0,v_1,v_6,.i l3_56] s_9 _ (by kernel_rfl) (cjC ((ixE hy8).1) (cjC (ixLt hy8) (cjC (Nat.zero_add l3_56.toNat) (cj1 (mapGet E_GCDesk (ixE hy8).2))))) ?_
      let v_7:AV:=.sl false (y8.notes.map E_GNote)
      let v_8:AV:=.i (y8.notes.length:Int)
      refine run1z (c44 54) [{},{},{ k:=1,n:=y8.notes.length }] [3,4,8,54,55,56,61,62,63] [.mp 5 0 0,w_1,.mp 6 0 0,v_1,v_6,.i l3_56,v_7,v_8,.i 0] s_9 _ (by kernel_rfl) (cj1 (mapLen y8.notes E_GNote)) ?_
      obtain ⟨l4x_h5,hll4x,hl3⟩:=bindE hl3
      refine run_tq (fun (l4x_h5:Int)=>(zipE [3,4,54,55,56] [.mp 5 0 0,w_1,v_1,v_6,.i l3_56])) (fun (l4x_h5:Int)=>⟨[(5,.cells 1 [.i l4x_h5]),(4,b_3),(3,b_2),(2,b_0),(1,b_1),(0,.cells 11 [w_0])],7⟩) (fun j=>l4x_h5 = j) (fun kl4=>?_) ?_
      ·refine run_b 4 (c44 55) (by kernel_rfl) ?_
       refine run_l (c44 56) _ hll4x (fun ((l4_h5,l4_63):(Int × Int))=>(zipE [3,4,8,54,55,56,61,62,63] [.mp 5 0 0,w_1,.mp 6 0 0,v_1,v_6,.i l3_56,v_7,v_8,.i l4_63])) (fun ((l4_h5,l4_63):(Int × Int))=>⟨[(6,b_10),(5,.cells 1 [.i l4_h5]),(4,b_3),(3,b_2),(2,b_0),(1,b_1),(0,.cells 11 [w_0])],7⟩) [] (by intro i e; cases e <;> exact Nat.le_of_ble_eq_true rfl) (by kernel_rfl) (mkInto (ks:=[3,4,8,54,55,56,61,62,63]) (ys:=[.mp 5 0 0,w_1,.mp 6 0 0,v_1,v_6,.i l3_56,v_7,v_8,.i 0]) (by kernel_rfl) (by kernel_rfl) (.k (.mp rfl rfl) (.k (.f (.k (.mp rfl rfl) (.k (.mp rfl rfl) .z))) (.k (.mp rfl rfl) (.k (.ms rfl rfl) (.k (.c rfl) (.k (.c rfl) (.k (.c (cleanMap _ _ cl_GNote)) (.k (.c rfl) (.k (.c rfl) .z))))))))) (.k rfl (.cells (.k (.c (cl_GCDesk y8)) .z)) (.k rfl (.cells (.k (.c rfl) .z)) (.k rfl (.cells (.k (.mp rfl rfl) .z)) (.k rfl (.cells (.r (cleanMap _ _ cl_GTake))) (.k rfl (.cells (.r (cleanMap _ _ cl_GCLive))) (.k rfl (.cells (.r (cleanMap _ _ cl_GCDesk))) (.k rfl (.cells (.k (.a (.k (.c rfl) (.k (.c rfl) (.k (.c rfl) (.k (.c rfl) (.k (.ms rfl rfl) (.k (.c rfl) (.k (.c rfl) (.k (.c rfl) (.k (.ms rfl rfl) (.k (.c rfl) (.k (.ms rfl rfl) .z)))))))))))) .z)) .z)))))))) ?_
       rintro ⟨l4_h5,l4_63⟩ out hl4 rl4
       let b_11:Blk:=.cells 1 [.i l4_h5]
       refine run1z (c44 58) [] [3,4,8,54,55,56,61,62,63,64] [.mp 5 0 0,w_1,.mp 6 0 0,v_1,v_6,.i l3_56,v_7,v_8,.i l4_63,.bool (decide (l4_63 < (y8.notes.length:Int)))] ⟨[(6,b_10),(5,b_11),(4,b_3),(3,b_2),(2,b_0),(1,b_1),(0,.cells 11 [w_0])],7⟩ _ (by kernel_rfl) cj0 ?_
       refine run_s (c44 59) (c44 62) (by kernel_rfl) ?_
       rcases iteE hl4 with ⟨hc9,hl4⟩ | ⟨hc9,hl4⟩
       ·refine run_cT 64 (c44 60) (c44 61) (decide (l4_63 < (y8.notes.length:Int))) hc9 (by kernel_rfl) (by kernel_rfl) ?_
        refine run_k (by kernel_rfl) ?_
        refine thenN ?_
        obtain ⟨j5_h5,hj5,hl4⟩:=bindE hl4
        refine run_jq (c44 63) (c44 71) (fun (j5_h5:Int)=>(zipE [3,4,8,54,55,56,61,62,63] [.mp 5 0 0,w_1,.mp 6 0 0,v_1,v_6,.i l3_56,v_7,v_8,.i l4_63])) (fun (j5_h5:Int)=>⟨[(6,b_10),(5,.cells 1 [.i j5_h5]),(4,b_3),(3,b_2),(2,b_0),(1,b_1),(0,.cells 11 [w_0])],8⟩) (fun j=>j5_h5 = j) (by kernel_rfl) (fun kj5=>?_) ?_
        ·refine run_b 5 (c44 64) (by kernel_rfl) ?_
         obtain ⟨y10,hy10,hj5⟩:=bindE hj5
         let b_12:Blk:=.cells 5 [E_GNote y10]
         let s_10:St:=⟨[(7,b_12),(6,b_10),(5,b_11),(4,b_3),(3,b_2),(2,b_0),(1,b_1),(0,.cells 11 [w_0])],8⟩
         refine run1z (c44 66) [{ k:=1,x:=E_GNote y10 }] [3,4,8,10,54,55,56,61,62,63] [.mp 5 0 0,w_1,.mp 6 0 0,.mp 7 0 0,v_1,v_6,.i l3_56,v_7,v_8,.i l4_63] s_10 _ (by kernel_rfl) (cjC ((ixE hy10).1) (cj1 (mapGet E_GNote (ixE hy10).2))) ?_
         obtain ⟨j6_76,hj6,hj5⟩:=bindE hj5
         refine run_gq (c44 68) (fun (j6_76:Bool)=>(zipE [3,4,8,10,54,55,56,61,62,63,76] [.mp 5 0 0,w_1,.mp 6 0 0,.mp 7 0 0,v_1,v_6,.i l3_56,v_7,v_8,.i l4_63,.bool j6_76])) (fun (j6_76:Bool)=>s_10) (fun j=>j6_76 = j) (fun kj6=>?_) ?_
         ·rcases iteE hj6 with ⟨hc11,hj6⟩ | ⟨hc11,hj6⟩
          ·replace hj6:=Option.some.inj hj6; subst hj6
           exact run1z (c44 68) [{},{},{},{},{},{},{},{},{},{ k:=1,b:=true }] [3,4,8,10,54,55,56,61,62,63,76] [.mp 5 0 0,w_1,.mp 6 0 0,.mp 7 0 0,v_1,v_6,.i l3_56,v_7,v_8,.i l4_63,.bool (decide (y8.since ≤ y10.from_))] s_10 _ (by kernel_rfl) (cjC (hc11) (cjC (hc11) (cjC (hc11) (cjC (hc11) (cjC (hc11) (cj1 (hc11))))))) (kj6 (decide (y8.since ≤ y10.from_)) rfl)
          ·replace hj6:=Option.some.inj hj6; subst hj6
           exact run1z (c44 68) [{},{},{},{},{ g:=false },{ g:=false },{ g:=false },{ g:=false },{ g:=false },{ k:=1,b:=false }] [3,4,8,10,54,55,56,61,62,63,76] [.mp 5 0 0,w_1,.mp 6 0 0,.mp 7 0 0,v_1,v_6,.i l3_56,v_7,v_8,.i l4_63,.bool false] s_10 _ (by kernel_rfl) (cjC (hc11) (cjC (hc11) (cjC (hc11) (cjC (hc11) (cjC (hc11) (cj1 (hc11))))))) (kj6 false rfl)
         ·rintro _ rfl
          rcases iteE hj5 with ⟨hc12,hj5⟩ | ⟨hc12,hj5⟩
          ·refine run_cT 76 (c44 69) (c44 70) j6_76 hc12 (by kernel_rfl) (by kernel_rfl) ?_
           obtain ⟨r13,hr13,hj5⟩:=bindE hj5
           let s_11:St:=⟨[(7,b_12),(6,b_10),(5,.cells 1 [.i r13]),(4,b_3),(3,b_2),(2,b_0),(1,b_1),(0,.cells 11 [w_0])],8⟩
           refine run0z [{},{},{},{ c:=some (.tup [],s_11) }] [3,4,8,54,55,56,61,62,63] [.mp 5 0 0,w_1,.mp 6 0 0,v_1,v_6,.i l3_56,v_7,v_8,.i l4_63] ⟨[(6,b_10),(5,.cells 1 [.i r13]),(4,b_3),(3,b_2),(2,b_0),(1,b_1),(0,.cells 11 [w_0])],8⟩ _ (by kernel_rfl) (cj1 (callF (f61_ok y10.from_ a0 l4_h5 _ hr13) [(0,4),(1,0),(2,1),(3,2),(4,3),(5,5)] [(5,5),(3,4),(2,3),(1,2),(0,1),(4,0)] [7,6] [.i y10.from_,.mp 4 0 0,.mp 5 0 0] s_10 (.tup []) s_11 (by kernel_rfl) (.k (.c rfl) (.k (.mp rfl rfl) (.k (.mp rfl rfl) .z))) (.t .z) (.k rfl (.cells (.k (.c rfl) .z)) (.k rfl (.cells (.r (cleanMap _ _ cl_GTake))) (.k rfl (.cells (.r (cleanMap _ _ cl_GCLive))) (.k rfl (.cells (.r (cleanMap _ _ cl_GCDesk))) (.k rfl (.cells (.k (.a (.k (.c rfl) (.k (.c rfl) (.k (.c rfl) (.k (.c rfl) (.k (.ms rfl rfl) (.k (.c rfl) (.k (.c rfl) (.k (.c rfl) (.k (.ms rfl rfl) (.k (.c rfl) (.k (.ms rfl rfl) .z)))))))))))) .z)) (.k rfl (.cells (.k (.mp rfl rfl) .z)) .z)))))) (.f rfl (by kernel_rfl) (.f rfl (by kernel_rfl) (.d (x':=.cells 1 [.i r13]) rfl (by kernel_rfl) (.cells (.k (.c rfl) .z)) (.d (x':=.cells 1 [.mp 1 0 0]) rfl (by kernel_rfl) (.cells (.k (.mp rfl rfl) .z)) (.d (x':=b_2) rfl (by kernel_rfl) (.cells (.r (cleanMap _ _ cl_GTake))) (.d (x':=b_0) rfl (by kernel_rfl) (.cells (.r (cleanMap _ _ cl_GCLive))) (.d (x':=b_1) rfl (by kernel_rfl) (.cells (.r (cleanMap _ _ cl_GCDesk))) (.d (x':=.cells 11 [.agg [v_3,.i a0.now,.i a0.end_,v_4,.ms 2 0 a0.desks.length,.i a0.from_,.i a0.to_,.i a0.times,.ms 3 0 a0.sounding.l.length,.fn 31 [],.ms 4 0 a0.takes.length]]) rfl (by kernel_rfl) (.cells (.k (.a (.k (.c rfl) (.k (.c rfl) (.k (.c rfl) (.k (.c rfl) (.k (.ms rfl rfl) (.k (.c rfl) (.k (.c rfl) (.k (.c rfl) (.k (.ms rfl rfl) (.k (.c rfl) (.k (.ms rfl rfl) .z)))))))))))) .z)) .z)))))))))) ?_
           replace hj5:=Option.some.inj hj5; subst hj5
           refine inbN ?_
           refine thenN ?_
           exact kj5 r13 rfl
          ·refine run_cF 76 (c44 69) (c44 70) j6_76 hc12 (by kernel_rfl) (by kernel_rfl) ?_
           replace hj5:=Option.some.inj hj5; subst hj5
           refine awp_p [3,4,8,54,55,56,61,62,63] [6,5,4,3,2,1,0] (zipE [3,4,8,54,55,56,61,62,63] [.mp 5 0 0,w_1,.mp 6 0 0,v_1,v_6,.i l3_56,v_7,v_8,.i l4_63]) ⟨[(6,b_10),(5,b_11),(4,b_3),(3,b_2),(2,b_0),(1,b_1),(0,.cells 11 [w_0])],8⟩ (by kernel_rfl) (?_)
           refine run_k (by kernel_rfl) ?_
           refine inbN ?_
           refine thenN ?_
           exact kj5 l4_h5 rfl
        ·rintro _ rfl
         refine run0z [] [3,4,8,54,55,56,61,62,63] [.mp 5 0 0,w_1,.mp 6 0 0,v_1,v_6,.i l3_56,v_7,v_8,.i (wr (l4_63 + 1))] ⟨[(6,b_10),(5,.cells 1 [.i j5_h5]),(4,b_3),(3,b_2),(2,b_0),(1,b_1),(0,.cells 11 [w_0])],8⟩ _ (by kernel_rfl) cj0 ?_
         replace hl4:=Option.some.inj hl4; subst hl4
         exact ⟨_,rfl,pi [],mkInto (ks:=[3,4,8,54,55,56,61,62,63]) (ys:=[.mp 5 0 0,w_1,.mp 6 0 0,v_1,v_6,.i l3_56,v_7,v_8,.i (wr (l4_63 + 1))]) (by kernel_rfl) (by kernel_rfl) (.k (.mp rfl rfl) (.k (.f (.k (.mp rfl rfl) (.k (.mp rfl rfl) .z))) (.k (.mp rfl rfl) (.k (.ms rfl rfl) (.k (.c rfl) (.k (.c rfl) (.k (.c (cleanMap _ _ cl_GNote)) (.k (.c rfl) (.k (.c rfl) .z))))))))) (.k rfl (.cells (.k (.c (cl_GCDesk y8)) .z)) (.k rfl (.cells (.k (.c rfl) .z)) (.k rfl (.cells (.k (.mp rfl rfl) .z)) (.k rfl (.cells (.r (cleanMap _ _ cl_GTake))) (.k rfl (.cells (.r (cleanMap _ _ cl_GCLive))) (.k rfl (.cells (.r (cleanMap _ _ cl_GCDesk))) (.k rfl (.cells (.k (.a (.k (.c rfl) (.k (.c rfl) (.k (.c rfl) (.k (.c rfl) (.k (.ms rfl rfl) (.k (.c rfl) (.k (.c rfl) (.k (.c rfl) (.k (.ms rfl rfl) (.k (.c rfl) (.k (.ms rfl rfl) .z)))))))))))) .z)) .z)))))))⟩
       ·refine run_cF 64 (c44 60) (c44 61) (decide (l4_63 < (y8.notes.length:Int))) hc9 (by kernel_rfl) (by kernel_rfl) ?_
        replace hl4:=Option.some.inj hl4; subst hl4
        have hr:=rl4 _ rfl
        subst hr
        refine awp_p [3,4,54,55,56] [5,4,3,2,1,0] (zipE [3,4,54,55,56] [.mp 5 0 0,w_1,v_1,v_6,.i l3_56]) ⟨[(5,b_11),(4,b_3),(3,b_2),(2,b_0),(1,b_1),(0,.cells 11 [w_0])],7⟩ (by kernel_rfl) (?_)
        refine run_e 4 (by kernel_rfl) ?_
        refine thenE ?_
        refine ⟨⟨_,rfl⟩,?_⟩
        refine inbE ?_
        exact kl4 l4_h5 rfl
      ·rintro _ rfl
       refine inbN ?_
       refine thenN ?_
       refine run0z [] [3,4,54,55,56] [.mp 5 0 0,w_1,v_1,v_6,.i (wr (l3_56 + 1))] ⟨[(5,.cells 1 [.i l4x_h5]),(4,b_3),(3,b_2),(2,b_0),(1,b_1),(0,.cells 11 [w_0])],7⟩ _ (by kernel_rfl) cj0 ?_
       replace hl3:=Option.some.inj hl3; subst hl3
       exact ⟨_,rfl,pi [],mkInto (ks:=[3,4,54,55,56]) (ys:=[.mp 5 0 0,w_1,v_1,v_6,.i (wr (l3_56 + 1))]) (by kernel_rfl) (by kernel_rfl) (.k (.mp rfl rfl) (.k (.f (.k (.mp rfl rfl) (.k (.mp rfl rfl) .z))) (.k (.ms rfl rfl) (.k (.c rfl) (.k (.c rfl) .z))))) (.k rfl (.cells (.k (.c rfl) .z)) (.k rfl (.cells (.k (.mp rfl rfl) .z)) (.k rfl (.cells (.r (cleanMap _ _ cl_GTake))) (.k rfl (.cells (.r (cleanMap _ _ cl_GCLive))) (.k rfl (.cells (.r (cleanMap _ _ cl_GCDesk))) (.k rfl (.cells (.k (.a (.k (.c rfl) (.k (.c rfl) (.k (.c rfl) (.k (.c rfl) (.k (.ms rfl rfl) (.k (.c rfl) (.k (.c rfl) (.k (.c rfl) (.k (.ms rfl rfl) (.k (.c rfl) (.k (.ms rfl rfl) .z)))))))))))) .z)) .z))))))⟩
     ·refine run_cF 57 (c44 46) (c44 47) (decide (l3_56 < (a0.desks.length:Int))) hc7 (by kernel_rfl) (by kernel_rfl) ?_
      replace hl3:=Option.some.inj hl3; subst hl3
      have hr:=rl3 _ rfl
      subst hr
      refine awp_p [3] [5,3,2,1,0] (zipE [3] [.mp 5 0 0]) ⟨[(5,b_9),(3,b_2),(2,b_0),(1,b_1),(0,.cells 11 [w_0])],6⟩ (by kernel_rfl) (?_)
      refine run_e 2 (by kernel_rfl) ?_
      refine thenE ?_
      refine ⟨⟨_,rfl⟩,?_⟩
      refine inbE ?_
      exact kl3 l3_h5 rfl
    ·rintro _ rfl
     refine thenN ?_
     let s_2:St:=⟨[(3,b_2),(2,b_0),(1,b_1),(0,.cells 11 [w_0])],6⟩
     refine run1z (c44 75) [] [2] [.i l3x_h5] s_2 _ (by kernel_rfl) cj0 ?_
     refine run_t (by kernel_rfl) ?_
     replace h:=Option.some.inj h; subst h
     exact fin_p [3,2,1,0] s_2 (by kernel_rfl) (by kernel_rfl) rfl ⟨rfl,rfl⟩
def f27_1 (a0:GCPlayer):Option (Int × Int):=(f22_1 a0).bind fun r1=>bif r1 then (some (0,92)) else ((f44 a0).bind fun r3=>some (r3,0))
theorem f27_1_ok (a0:GCPlayer) (r:(Int × Int)) (h:f27_1 a0 = some r):ACalls Try.prog 27 [.mp 0 0 0] ⟨[(3,.cells 5 (a0.takes.map E_GTake)),(2,.cells 7 (a0.sounding.l.map E_GCLive)),(1,.cells 3 (a0.desks.map E_GCDesk)),(0,.cells 11 [.agg [.i a0.clock.ticks,.i a0.now,.i a0.end_,.bool a0.waiting,.ms 1 0 a0.desks.length,.i a0.from_,.i a0.to_,.i a0.times,.ms 2 0 a0.sounding.l.length,.fn 31 [],.ms 3 0 a0.takes.length]])],4⟩ (fun y t=>y = .tup [.i r.1,.i r.2] ∧ t = ⟨[(3,.cells 5 (a0.takes.map E_GTake)),(2,.cells 7 (a0.sounding.l.map E_GCLive)),(1,.cells 3 (a0.desks.map E_GCDesk)),(0,.cells 11 [.agg [.i a0.clock.ticks,.i a0.now,.i a0.end_,.bool a0.waiting,.ms 1 0 a0.desks.length,.i a0.from_,.i a0.to_,.i a0.times,.ms 2 0 a0.sounding.l.length,.fn 31 [],.ms 3 0 a0.takes.length]])],6⟩):=by
 refine run_f 12 [.tmp 2,.tmp 3] (c27 0) (zipE [0] [.mp 0 0 0]) (by kernel_rfl) (by kernel_rfl) (by kernel_rfl) rfl ?_
 unfold f27_1 at h
 let v_0:AV:=.ms 2 0 a0.sounding.l.length
 let v_1:AV:=.ms 1 0 a0.desks.length
 let v_2:AV:=.ms 3 0 a0.takes.length
 let v_3:AV:=.i a0.clock.ticks
 let v_4:AV:=.bool a0.waiting
 let w_0:AV:=.agg [v_3,.i a0.now,.i a0.end_,v_4,v_1,.i a0.from_,.i a0.to_,.i a0.times,v_0,.fn 31 [],v_2]
 let b_0:Blk:=.cells 7 (a0.sounding.l.map E_GCLive)
 let b_1:Blk:=.cells 3 (a0.desks.map E_GCDesk)
 let b_2:Blk:=.cells 5 (a0.takes.map E_GTake)
 let s_0:St:=⟨[(3,b_2),(2,b_0),(1,b_1),(0,.cells 11 [w_0])],4⟩
 refine run1z (c27 2) [] [0] [.mp 0 0 0] s_0 _ (by kernel_rfl) cj0 ?_
 refine run_s (c27 3) (c27 17) (by kernel_rfl) ?_
 refine run_b 0 (c27 4) (by kernel_rfl) ?_
 refine run1z (c27 6) [] [0,4] [.mp 0 0 0,.bool false] s_0 _ (by kernel_rfl) cj0 ?_
 refine run_cF 4 (c27 7) (c27 10) false rfl (by kernel_rfl) (by kernel_rfl) ?_
 obtain ⟨r1,hr1,h⟩:=bindE h
 refine run1z (c27 12) [{},{ c:=some (.bool r1,s_0) }] [0,7] [.mp 0 0 0,.bool r1] s_0 _ (by kernel_rfl) (cj1 (callF (f22_1_ok a0 _ hr1) [(0,0),(1,1),(2,2),(3,3)] [(3,3),(2,2),(1,1),(0,0)] [] [.mp 0 0 0] s_0 (.bool r1) s_0 (by kernel_rfl) (.k (.mp rfl rfl) .z) (.c rfl) (.k rfl (.cells (.r (cleanMap _ _ cl_GTake))) (.k rfl (.cells (.r (cleanMap _ _ cl_GCLive))) (.k rfl (.cells (.r (cleanMap _ _ cl_GCDesk))) (.k rfl (.cells (.k (.a (.k (.c rfl) (.k (.c rfl) (.k (.c rfl) (.k (.c rfl) (.k (.ms rfl rfl) (.k (.c rfl) (.k (.c rfl) (.k (.c rfl) (.k (.ms rfl rfl) (.k (.c rfl) (.k (.ms rfl rfl) .z)))))))))))) .z)) .z)))) (.d (x':=b_2) rfl (by kernel_rfl) (.cells (.r (cleanMap _ _ cl_GTake))) (.d (x':=b_0) rfl (by kernel_rfl) (.cells (.r (cleanMap _ _ cl_GCLive))) (.d (x':=b_1) rfl (by kernel_rfl) (.cells (.r (cleanMap _ _ cl_GCDesk))) (.d (x':=.cells 11 [w_0]) rfl (by kernel_rfl) (.cells (.k (.a (.k (.c rfl) (.k (.c rfl) (.k (.c rfl) (.k (.c rfl) (.k (.ms rfl rfl) (.k (.c rfl) (.k (.c rfl) (.k (.c rfl) (.k (.ms rfl rfl) (.k (.c rfl) (.k (.ms rfl rfl) .z)))))))))))) .z)) .z)))))) ?_
 rcases iteE h with ⟨hc2,h⟩ | ⟨hc2,h⟩
 ·refine run_cT 7 (c27 13) (c27 16) r1 hc2 (by kernel_rfl) (by kernel_rfl) ?_
  refine run1z (c27 15) [] [2,3] [.i 0,.i 92] s_0 _ (by kernel_rfl) cj0 ?_
  let s_1:St:=⟨[(3,b_2),(2,b_0),(1,b_1),(0,.cells 11 [w_0])],6⟩
  refine run_i 4 [] [2,3] [.i 0,.i 92] (xs:=[.i 0,.i 92]) (S2:=s_1) ?_ (by intro i e; cases e <;> exact Nat.le_of_ble_eq_true rfl) (by kernel_rfl) (by kernel_rfl) (by kernel_rfl) (.k (.c rfl) (.k (.c rfl) .z)) (.k rfl (.cells (.r (cleanMap _ _ cl_GTake))) (.k rfl (.cells (.r (cleanMap _ _ cl_GCLive))) (.k rfl (.cells (.r (cleanMap _ _ cl_GCDesk))) (.k rfl (.cells (.k (.a (.k (.c rfl) (.k (.c rfl) (.k (.c rfl) (.k (.c rfl) (.k (.ms rfl rfl) (.k (.c rfl) (.k (.c rfl) (.k (.c rfl) (.k (.ms rfl rfl) (.k (.c rfl) (.k (.ms rfl rfl) .z)))))))))))) .z)) .z))))
  refine run_t (by kernel_rfl) ?_
  refine inbR ?_
  refine thenR ?_
  replace h:=Option.some.inj h; subst h
  exact fin_p [3,2,1,0] s_1 (by kernel_rfl) (by kernel_rfl) rfl ⟨rfl,rfl⟩
 ·refine run_cF 7 (c27 13) (c27 16) r1 hc2 (by kernel_rfl) (by kernel_rfl) ?_
  refine run_k (by kernel_rfl) ?_
  refine inbN ?_
  refine thenN ?_
  obtain ⟨r3,hr3,h⟩:=bindE h
  let s_2:St:=⟨[(3,b_2),(2,b_0),(1,b_1),(0,.cells 11 [w_0])],6⟩
  refine run1z (c27 19) [{},{ c:=some (.i r3,s_2) }] [2,3] [.i r3,.i 0] s_2 _ (by kernel_rfl) (cj1 (callF (f44_ok a0 _ hr3) [(0,0),(1,1),(2,2),(3,3)] [(3,3),(2,2),(1,1),(0,0)] [] [.mp 0 0 0] s_0 (.i r3) s_2 (by kernel_rfl) (.k (.mp rfl rfl) .z) (.c rfl) (.k rfl (.cells (.r (cleanMap _ _ cl_GTake))) (.k rfl (.cells (.r (cleanMap _ _ cl_GCLive))) (.k rfl (.cells (.r (cleanMap _ _ cl_GCDesk))) (.k rfl (.cells (.k (.a (.k (.c rfl) (.k (.c rfl) (.k (.c rfl) (.k (.c rfl) (.k (.ms rfl rfl) (.k (.c rfl) (.k (.c rfl) (.k (.c rfl) (.k (.ms rfl rfl) (.k (.c rfl) (.k (.ms rfl rfl) .z)))))))))))) .z)) .z)))) (.d (x':=b_2) rfl (by kernel_rfl) (.cells (.r (cleanMap _ _ cl_GTake))) (.d (x':=b_0) rfl (by kernel_rfl) (.cells (.r (cleanMap _ _ cl_GCLive))) (.d (x':=b_1) rfl (by kernel_rfl) (.cells (.r (cleanMap _ _ cl_GCDesk))) (.d (x':=.cells 11 [w_0]) rfl (by kernel_rfl) (.cells (.k (.a (.k (.c rfl) (.k (.c rfl) (.k (.c rfl) (.k (.c rfl) (.k (.ms rfl rfl) (.k (.c rfl) (.k (.c rfl) (.k (.c rfl) (.k (.ms rfl rfl) (.k (.c rfl) (.k (.ms rfl rfl) .z)))))))))))) .z)) .z)))))) ?_
  refine run_t (by kernel_rfl) ?_
  replace h:=Option.some.inj h; subst h
  exact fin_p [3,2,1,0] s_2 (by kernel_rfl) (by kernel_rfl) rfl ⟨rfl,rfl⟩
def f66 (a0:Int):Option Bool:=some (decide (a0 ≠ a0))
theorem f66_ok (a0:Int) (r:Bool) (h:f66 a0 = some r):APure Try.prog 66 [.i a0] (.bool r):=by
 refine apure (clK rfl clZ) rfl ?_
 refine run_f 6 [.tmp 2] (c66 0) (zipE [0] [.i a0]) (by kernel_rfl) (by kernel_rfl) (by kernel_rfl) rfl ?_
 unfold f66 at h
 refine run1z (c66 2) [] [0] [.i a0] ⟨[],0⟩ _ (by kernel_rfl) cj0 ?_
 refine run1z (c66 4) [] [2] [.bool (decide (a0 ≠ a0))] ⟨[],0⟩ _ (by kernel_rfl) cj0 ?_
 refine run_t (by kernel_rfl) ?_
 replace h:=Option.some.inj h; subst h
 exact fin_r (by kernel_rfl) rfl
def f53 (a0:Int) (a1:Int):Option Int:=(f66 a0).bind fun r1=>(f66 a1).bind fun r2=>bif r1 then (bif r2 then (some 0) else (some (-1))) else (bif r2 then (some 1) else (bif (decide (a0 < a1)) then (some (-1)) else (bif (decide (a1 < a0)) then (some 1) else (some 0))))
theorem f53_ok (a0:Int) (a1:Int) (r:Int) (h:f53 a0 a1 = some r):APure Try.prog 53 [.i a0,.i a1] (.i r):=by
 refine apure (clK rfl (clK rfl clZ)) rfl ?_
 refine run_f 20 [.tmp 4] (c53 0) (zipE [0,1] [.i a0,.i a1]) (by kernel_rfl) (by kernel_rfl) (by kernel_rfl) rfl ?_
 unfold f53 at h
 refine run1z (c53 2) [] [0,1] [.i a0,.i a1] ⟨[],0⟩ _ (by kernel_rfl) cj0 ?_
 obtain ⟨r1,hr1,h⟩:=bindE h
 refine run1z (c53 4) [{},{ c:=some (.bool r1,⟨[],0⟩) }] [0,1,5] [.i a0,.i a1,.bool r1] ⟨[],0⟩ _ (by kernel_rfl) (cj1 (f66_ok a0 _ hr1 ⟨[],0⟩)) ?_
 obtain ⟨r2,hr2,h⟩:=bindE h
 refine run1z (c53 6) [{},{ c:=some (.bool r2,⟨[],0⟩) }] [0,1,5,6] [.i a0,.i a1,.bool r1,.bool r2] ⟨[],0⟩ _ (by kernel_rfl) (cj1 (f66_ok a1 _ hr2 ⟨[],0⟩)) ?_
 refine run_s (c53 7) (c53 22) (by kernel_rfl) ?_
 refine run1z (c53 9) [] [0,1,6,11] [.i a0,.i a1,.bool r2,.bool r1] ⟨[],0⟩ _ (by kernel_rfl) cj0 ?_
 rcases iteE h with ⟨hc3,h⟩ | ⟨hc3,h⟩
 ·refine run_cT 11 (c53 10) (c53 21) r1 hc3 (by kernel_rfl) (by kernel_rfl) ?_
  refine run_s (c53 11) (c53 18) (by kernel_rfl) ?_
  refine run1z (c53 13) [] [12] [.bool r2] ⟨[],0⟩ _ (by kernel_rfl) cj0 ?_
  rcases iteE h with ⟨hc4,h⟩ | ⟨hc4,h⟩
  ·refine run_cT 12 (c53 14) (c53 17) r2 hc4 (by kernel_rfl) (by kernel_rfl) ?_
   refine run1z (c53 16) [] [4] [.i 0] ⟨[],0⟩ _ (by kernel_rfl) cj0 ?_
   refine run_t (by kernel_rfl) ?_
   refine thenR ?_
   refine thenR ?_
   replace h:=Option.some.inj h; subst h
   exact fin_r (by kernel_rfl) rfl
  ·refine run_cF 12 (c53 14) (c53 17) r2 hc4 (by kernel_rfl) (by kernel_rfl) ?_
   refine run_k (by kernel_rfl) ?_
   refine thenN ?_
   refine run1z (c53 20) [] [4] [.i (-1)] ⟨[],0⟩ _ (by kernel_rfl) cj0 ?_
   refine run_t (by kernel_rfl) ?_
   refine thenR ?_
   replace h:=Option.some.inj h; subst h
   exact fin_r (by kernel_rfl) rfl
 ·refine run_cF 11 (c53 10) (c53 21) r1 hc3 (by kernel_rfl) (by kernel_rfl) ?_
  refine run_k (by kernel_rfl) ?_
  refine thenN ?_
  refine run_s (c53 23) (c53 30) (by kernel_rfl) ?_
  refine run1z (c53 25) [] [0,1,13] [.i a0,.i a1,.bool r2] ⟨[],0⟩ _ (by kernel_rfl) cj0 ?_
  rcases iteE h with ⟨hc5,h⟩ | ⟨hc5,h⟩
  ·refine run_cT 13 (c53 26) (c53 29) r2 hc5 (by kernel_rfl) (by kernel_rfl) ?_
   refine run1z (c53 28) [] [4] [.i 1] ⟨[],0⟩ _ (by kernel_rfl) cj0 ?_
   refine run_t (by kernel_rfl) ?_
   refine thenR ?_
   replace h:=Option.some.inj h; subst h
   exact fin_r (by kernel_rfl) rfl
  ·refine run_cF 13 (c53 26) (c53 29) r2 hc5 (by kernel_rfl) (by kernel_rfl) ?_
   refine run_k (by kernel_rfl) ?_
   refine thenN ?_
   refine run_s (c53 31) (c53 38) (by kernel_rfl) ?_
   refine run1z (c53 33) [] [0,1,16] [.i a0,.i a1,.bool (decide (a0 < a1))] ⟨[],0⟩ _ (by kernel_rfl) cj0 ?_
   rcases iteE h with ⟨hc6,h⟩ | ⟨hc6,h⟩
   ·refine run_cT 16 (c53 34) (c53 37) (decide (a0 < a1)) hc6 (by kernel_rfl) (by kernel_rfl) ?_
    refine run1z (c53 36) [] [4] [.i (-1)] ⟨[],0⟩ _ (by kernel_rfl) cj0 ?_
    refine run_t (by kernel_rfl) ?_
    refine thenR ?_
    replace h:=Option.some.inj h; subst h
    exact fin_r (by kernel_rfl) rfl
   ·refine run_cF 16 (c53 34) (c53 37) (decide (a0 < a1)) hc6 (by kernel_rfl) (by kernel_rfl) ?_
    refine run_k (by kernel_rfl) ?_
    refine thenN ?_
    refine run_s (c53 39) (c53 46) (by kernel_rfl) ?_
    refine run1z (c53 41) [] [19] [.bool (decide (a1 < a0))] ⟨[],0⟩ _ (by kernel_rfl) cj0 ?_
    rcases iteE h with ⟨hc7,h⟩ | ⟨hc7,h⟩
    ·refine run_cT 19 (c53 42) (c53 45) (decide (a1 < a0)) hc7 (by kernel_rfl) (by kernel_rfl) ?_
     refine run1z (c53 44) [] [4] [.i 1] ⟨[],0⟩ _ (by kernel_rfl) cj0 ?_
     refine run_t (by kernel_rfl) ?_
     refine thenR ?_
     replace h:=Option.some.inj h; subst h
     exact fin_r (by kernel_rfl) rfl
    ·refine run_cF 19 (c53 42) (c53 45) (decide (a1 < a0)) hc7 (by kernel_rfl) (by kernel_rfl) ?_
     refine run_k (by kernel_rfl) ?_
     refine thenN ?_
     refine run1z (c53 48) [] [4] [.i 0] ⟨[],0⟩ _ (by kernel_rfl) cj0 ?_
     refine run_t (by kernel_rfl) ?_
     replace h:=Option.some.inj h; subst h
     exact fin_r (by kernel_rfl) rfl
def f52 (a0:List Int):Option Int:=(loopN (σ:=Int) (τ:=(Unit ⊕ Int)) (fun (l1_8:Int)=>bif (decide (l1_8 < (a0.length:Int))) then ((ix a0 l1_8).bind fun y2=>bif (decide (y2 ≠ 0)) then (some (.inr (.inr y2))) else (some (.inl (wr (l1_8 + 1))))) else (some (.inr (.inl ())))) FUEL 0).bind (Sum.elim (fun (_:Unit)=>some 0) some)
theorem f52_ok (a0:List Int) (r:Int) (h:f52 a0 = some r):APure Try.prog 52 [.sl false (a0.map AV.i)] (.i r):=by
 refine apure (clK (cleanMap a0 _ cl_i) clZ) rfl ?_
 let v_0:AV:=.sl false (a0.map AV.i)
 refine run_f 18 [.tmp 2] (c52 0) (zipE [0] [v_0]) (by kernel_rfl) (by kernel_rfl) (by kernel_rfl) rfl ?_
 unfold f52 at h
 refine run1z (c52 2) [] [0] [v_0] ⟨[],0⟩ _ (by kernel_rfl) cj0 ?_
 refine run1z (c52 4) [] [0,3] [v_0,.i 0] ⟨[],0⟩ _ (by kernel_rfl) cj0 ?_
 refine run_s (c52 5) (c52 27) (by kernel_rfl) ?_
 let v_1:AV:=.i (a0.length:Int)
 refine run1z (c52 7) [{},{ k:=1,n:=a0.length }] [3,6,7,8] [.i 0,v_0,v_1,.i 0] ⟨[],0⟩ _ (by kernel_rfl) (cj1 (mapLen a0 AV.i)) ?_
 obtain ⟨ol1x,hll1x,h⟩:=bindE h
 refine run_tq (fun (_:Unit)=>(zipE [3] [.i 0])) (fun (_:Unit)=>⟨[],0⟩) (fun j=>ol1x = .inl j) (fun kl1=>?_) ?_
 ·refine run_b 0 (c52 8) (by kernel_rfl) ?_
  refine run_l (c52 9) _ hll1x (fun (l1_8:Int)=>(zipE [3,6,7,8] [.i 0,v_0,v_1,.i l1_8])) (fun (l1_8:Int)=>⟨[],0⟩) [] (by intro i e; cases e <;> exact Nat.le_of_ble_eq_true rfl) (by kernel_rfl) (mkInto (ks:=[3,6,7,8]) (ys:=[.i 0,v_0,v_1,.i 0]) (by kernel_rfl) (by kernel_rfl) (.k (.c rfl) (.k (.c (cleanMap _ _ cl_i)) (.k (.c rfl) (.k (.c rfl) .z)))) .z) ?_
  rintro l1_8 out hl1 rl1
  refine run1z (c52 11) [] [3,6,7,8,9] [.i 0,v_0,v_1,.i l1_8,.bool (decide (l1_8 < (a0.length:Int)))] ⟨[],0⟩ _ (by kernel_rfl) cj0 ?_
  refine run_s (c52 12) (c52 15) (by kernel_rfl) ?_
  rcases iteE hl1 with ⟨hc1,hl1⟩ | ⟨hc1,hl1⟩
  ·refine run_cT 9 (c52 13) (c52 14) (decide (l1_8 < (a0.length:Int))) hc1 (by kernel_rfl) (by kernel_rfl) ?_
   refine run_k (by kernel_rfl) ?_
   refine thenN ?_
   refine run_s (c52 16) (c52 26) (by kernel_rfl) ?_
   refine run_b 1 (c52 17) (by kernel_rfl) ?_
   obtain ⟨y2,hy2,hl1⟩:=bindE hl1
   refine run1z (c52 19) [{ k:=1,x:=AV.i y2 }] [3,5,6,7,8] [.i 0,.i y2,v_0,v_1,.i l1_8] ⟨[],0⟩ _ (by kernel_rfl) (cjC ((ixE hy2).1) (cj1 (mapGet AV.i (ixE hy2).2))) ?_
   refine run1z (c52 21) [] [3,5,6,7,8,14] [.i 0,.i y2,v_0,v_1,.i l1_8,.bool (decide (y2 ≠ 0))] ⟨[],0⟩ _ (by kernel_rfl) cj0 ?_
   rcases iteE hl1 with ⟨hc3,hl1⟩ | ⟨hc3,hl1⟩
   ·refine run_cT 14 (c52 22) (c52 25) (decide (y2 ≠ 0)) hc3 (by kernel_rfl) (by kernel_rfl) ?_
    refine run1z (c52 24) [] [2] [.i y2] ⟨[],0⟩ _ (by kernel_rfl) cj0 ?_
    replace hl1:=Option.some.inj hl1; subst hl1
    have hr:=rl1 _ rfl
    subst hr
    replace h:=elimR h
    refine run_t (by kernel_rfl) ?_
    refine inbR ?_
    refine thenR ?_
    refine ⟨⟨_,rfl⟩,?_⟩
    refine inbR ?_
    refine thenR ?_
    replace h:=Option.some.inj h; subst h
    exact fin_r (by kernel_rfl) rfl
   ·refine run_cF 14 (c52 22) (c52 25) (decide (y2 ≠ 0)) hc3 (by kernel_rfl) (by kernel_rfl) ?_
    refine run_k (by kernel_rfl) ?_
    refine inbN ?_
    refine thenN ?_
    refine run0z [] [3,6,7,8] [.i 0,v_0,v_1,.i (wr (l1_8 + 1))] ⟨[],0⟩ _ (by kernel_rfl) cj0 ?_
    replace hl1:=Option.some.inj hl1; subst hl1
    exact ⟨_,rfl,pi [],mkInto (ks:=[3,6,7,8]) (ys:=[.i 0,v_0,v_1,.i (wr (l1_8 + 1))]) (by kernel_rfl) (by kernel_rfl) (.k (.c rfl) (.k (.c (cleanMap _ _ cl_i)) (.k (.c rfl) (.k (.c rfl) .z)))) .z⟩
  ·refine run_cF 9 (c52 13) (c52 14) (decide (l1_8 < (a0.length:Int))) hc1 (by kernel_rfl) (by kernel_rfl) ?_
   replace hl1:=Option.some.inj hl1; subst hl1
   have hr:=rl1 _ rfl
   subst hr
   refine awp_p [3] [] (zipE [3] [.i 0]) ⟨[],0⟩ (by kernel_rfl) (?_)
   refine run_e 0 (by kernel_rfl) ?_
   refine thenE ?_
   refine ⟨⟨_,rfl⟩,?_⟩
   refine inbE ?_
   exact kl1 () rfl
 ·rintro ⟨⟩ rfl
  replace h:=elimL h
  refine thenN ?_
  refine run1z (c52 29) [] [2] [.i 0] ⟨[],0⟩ _ (by kernel_rfl) cj0 ?_
  refine run_t (by kernel_rfl) ?_
  replace h:=Option.some.inj h; subst h
  exact fin_r (by kernel_rfl) rfl
def f31 (a0:GCLive) (a1:GCLive):Option Int:=(f53 a0.desk a1.desk).bind fun r1=>(f53 a0.note.course a1.note.course).bind fun r2=>(f52 ([r1,r2]:List Int)).bind fun r3=>some r3
theorem f31_ok (a0:GCLive) (a1:GCLive) (r:Int) (h:f31 a0 a1 = some r):APure Try.prog 31 [E_GCLive a0,E_GCLive a1] (.i r):=by
 refine apure (clK (cl_GCLive a0) (clK (cl_GCLive a1) clZ)) rfl ?_
 refine run_f 19 [.tmp 4] (c31 0) (zipE [0,1] [E_GCLive a0,E_GCLive a1]) (by kernel_rfl) (by kernel_rfl) (by kernel_rfl) rfl ?_
 unfold f31 at h
 let b_0:Blk:=.cells 7 [E_GCLive a1]
 let b_1:Blk:=.cells 7 [E_GCLive a0]
 let s_0:St:=⟨[(1,b_0),(0,b_1)],2⟩
 refine run1z (c31 2) [] [2,3] [.mp 0 0 0,.mp 1 0 0] s_0 _ (by kernel_rfl) cj0 ?_
 obtain ⟨r1,hr1,h⟩:=bindE h
 obtain ⟨r2,hr2,h⟩:=bindE h
 obtain ⟨r3,hr3,h⟩:=bindE h
 refine yun1z (c31 4) [[],[0],[],[2],[0,1,2,3],[],[5],[5,6],[],[8],[8,9],[0,1,2,3,4,5,6,7,8,9,10],[0,1,2,3,4,5,6,7,8,9,10,11],[0,1,2,3,4,5,6,7,8,9,10,11,12],[0,1,2,3,4,5,6,7,8,9,10,11,12,13]] [.light 0 false,.light 1 false,.light 2 false,.light 3 false,.light 5 false,.light 6 false,.light 7 true,.light 8 false,.light 9 false,.light 10 true,.heavy 4 [7,10],.heavy 11 [],.light 12 false,.heavy 13 [],.light 14 false] [{},{},{},{},{},{},{},{},{},{},{ c:=some (.i r1,s_0) },{ c:=some (.i r2,s_0) },{},{ c:=some (.i r3,s_0) }] [4] [.i r3] ⟨[],2⟩ _ (by kernel_rfl) (cjC (f53_ok a0.desk a1.desk _ hr1 s_0) (cjC (@Eq.refl AV (.i a0.note.course)) (cjC (@Eq.refl AV (.i a1.note.course)) (cjC (f53_ok a0.note.course a1.note.course _ hr2 s_0) (cj1 (APure.co (ok:=fun _=>false) (π:=id) (args:=[.sl true [.i r1,.i r2]]) (f52_ok ([r1,r2]:List Int) _ hr3) (.k (.s (cleanMap (([r1,r2]:List Int)) _ cl_i)) .z) s_0)))))) ?_
 refine run_t (by kernel_rfl) ?_
 replace h:=Option.some.inj h; subst h
 exact fin_r (by kernel_rfl) rfl
def f71 (a0:List GCLive) (a1:GCLive):Option (Int × Bool):=(loopN (σ:=(Int × Int)) (τ:=Int) (fun ((l1_9,l1_10):(Int × Int))=>bif (decide (l1_9 < l1_10)) then ((ix a0 (wr (shrI (IntKind.wrap .u64 (wr (l1_9 + l1_10))) 1))).bind fun y2=>(f31 y2 a1).bind fun r3=>bif (decide (r3 < 0)) then (some (.inl ((wr ((wr (shrI (IntKind.wrap .u64 (wr (l1_9 + l1_10))) 1)) + 1)),l1_10))) else (some (.inl (l1_9,(wr (shrI (IntKind.wrap .u64 (wr (l1_9 + l1_10))) 1)))))) else (some (.inr l1_9))) FUEL (0,(a0.length:Int))).bind fun (l1x_9:Int)=>((bif (decide (l1x_9 < (a0.length:Int))) then ((ix a0 l1x_9).bind fun y6=>(f31 y6 a1).bind fun r7=>some (decide (r7 = 0))) else (some false)):Option Bool).bind fun (j2_7:Bool)=>some (l1x_9,j2_7)
theorem f71_ok (a0:List GCLive) (a1:GCLive) (r:(Int × Bool)) (h:f71 a0 a1 = some r):ACalls Try.prog 71 [.ms 0 0 a0.length,E_GCLive a1,.fn 31 []] ⟨[(0,.cells 7 (a0.map E_GCLive))],1⟩ (fun y t=>y = .tup [.i r.1,.bool r.2] ∧ t = ⟨[(0,.cells 7 (a0.map E_GCLive))],2⟩):=by
 let v_0:AV:=.ms 0 0 a0.length
 refine run_f 49 [.tmp 6,.tmp 7] (c71 0) (zipE [0,1,2] [v_0,E_GCLive a1,.fn 31 []]) (by kernel_rfl) (by kernel_rfl) (by kernel_rfl) rfl ?_
 unfold f71 at h
 let b_0:Blk:=.cells 7 (a0.map E_GCLive)
 let b_1:Blk:=.cells 7 [E_GCLive a1]
 let s_0:St:=⟨[(1,b_1),(0,b_0)],2⟩
 refine run1z (c71 2) [] [0,2,4] [v_0,.fn 31 [],.mp 1 0 0] s_0 _ (by kernel_rfl) cj0 ?_
 let v_1:AV:=.i (a0.length:Int)
 refine run1z (c71 4) [] [0,2,4,8] [v_0,.fn 31 [],.mp 1 0 0,v_1] s_0 _ (by kernel_rfl) cj0 ?_
 refine run1z (c71 6) [] [0,2,4,8,9,10] [v_0,.fn 31 [],.mp 1 0 0,v_1,.i 0,v_1] s_0 _ (by kernel_rfl) cj0 ?_
 obtain ⟨l1x_9,hll1x,h⟩:=bindE h
 refine run_jq (c71 7) (c71 23) (fun (l1x_9:Int)=>(zipE [0,2,4,8,9] [v_0,.fn 31 [],.mp 1 0 0,v_1,.i l1x_9])) (fun (l1x_9:Int)=>s_0) (fun j=>l1x_9 = j) (by kernel_rfl) (fun kl1=>?_) ?_
 ·refine run_b 0 (c71 8) (by kernel_rfl) ?_
  refine run_l (c71 9) _ hll1x (fun ((l1_9,l1_10):(Int × Int))=>(zipE [0,2,4,8,9,10] [v_0,.fn 31 [],.mp 1 0 0,v_1,.i l1_9,.i l1_10])) (fun ((l1_9,l1_10):(Int × Int))=>s_0) [] (by intro i e; cases e <;> exact Nat.le_of_ble_eq_true rfl) (by kernel_rfl) (mkInto (ks:=[0,2,4,8,9,10]) (ys:=[v_0,.fn 31 [],.mp 1 0 0,v_1,.i 0,v_1]) (by kernel_rfl) (by kernel_rfl) (.k (.ms rfl rfl) (.k (.c rfl) (.k (.mp rfl rfl) (.k (.c rfl) (.k (.c rfl) (.k (.c rfl) .z)))))) (.k rfl (.cells (.k (.c (cl_GCLive a1)) .z)) (.k rfl (.cells (.r (cleanMap _ _ cl_GCLive))) .z))) ?_
  rintro ⟨l1_9,l1_10⟩ out hl1 rl1
  refine run_s (c71 10) (c71 15) (by kernel_rfl) ?_
  refine run1z (c71 12) [] [0,2,4,8,9,10,17] [v_0,.fn 31 [],.mp 1 0 0,v_1,.i l1_9,.i l1_10,.bool (decide (l1_9 < l1_10))] s_0 _ (by kernel_rfl) cj0 ?_
  rcases iteE hl1 with ⟨hc1,hl1⟩ | ⟨hc1,hl1⟩
  ·refine run_cT 17 (c71 13) (c71 14) (decide (l1_9 < l1_10)) hc1 (by kernel_rfl) (by kernel_rfl) ?_
   refine run_k (by kernel_rfl) ?_
   refine thenN ?_
   refine run_b 1 (c71 16) (by kernel_rfl) ?_
   let v_2:AV:=.i (wr (shrI (IntKind.wrap .u64 (wr (l1_9 + l1_10))) 1))
   refine run1z (c71 18) [{},{},{},{},{ k:=1 }] [0,2,4,8,9,10,11] [v_0,.fn 31 [],.mp 1 0 0,v_1,.i l1_9,.i l1_10,v_2] s_0 _ (by kernel_rfl) (cj1 ((by decide:(0:Int) ≤ 1))) ?_
   obtain ⟨y2,hy2,hl1⟩:=bindE hl1
   obtain ⟨r3,hr3,hl1⟩:=bindE hl1
   refine yun1z (c71 20) [[],[],[],[1,2],[1,2,3],[],[0,1,2,3,4,5],[0,1,2,3,4,5,6]] [.light 0 false,.light 1 false,.light 2 false,.light 3 false,.light 4 false,.light 5 false,.heavy 6 [],.light 7 false] [{},{},{},{ k:=1,n:=(wr (shrI (IntKind.wrap .u64 (wr (l1_9 + l1_10))) 1)).toNat },{ k:=1,x:=E_GCLive y2 },{},{ c:=some (.i r3,s_0) }] [0,2,4,8,9,10,11,31] [v_0,.fn 31 [],.mp 1 0 0,v_1,.i l1_9,.i l1_10,v_2,.bool (decide (r3 < 0))] s_0 _ (by kernel_rfl) (cjC ((ixE hy2).1) (cjC (ixLt hy2) (cjC (Nat.zero_add (wr (shrI (IntKind.wrap .u64 (wr (l1_9 + l1_10))) 1)).toNat) (cjC (mapGet E_GCLive (ixE hy2).2) (cj1 (f31_ok y2 a1 _ hr3 s_0)))))) ?_
   rcases iteE hl1 with ⟨hc4,hl1⟩ | ⟨hc4,hl1⟩
   ·refine run_cT 31 (c71 21) (c71 22) (decide (r3 < 0)) hc4 (by kernel_rfl) (by kernel_rfl) ?_
    let v_3:AV:=.i (wr ((wr (shrI (IntKind.wrap .u64 (wr (l1_9 + l1_10))) 1)) + 1))
    refine run0z [] [0,2,4,8,9,10] [v_0,.fn 31 [],.mp 1 0 0,v_1,v_3,.i l1_10] s_0 _ (by kernel_rfl) cj0 ?_
    replace hl1:=Option.some.inj hl1; subst hl1
    refine inbN ?_
    exact ⟨_,rfl,pi [],mkInto (ks:=[0,2,4,8,9,10]) (ys:=[v_0,.fn 31 [],.mp 1 0 0,v_1,v_3,.i l1_10]) (by kernel_rfl) (by kernel_rfl) (.k (.ms rfl rfl) (.k (.c rfl) (.k (.mp rfl rfl) (.k (.c rfl) (.k (.c rfl) (.k (.c rfl) .z)))))) (.k rfl (.cells (.k (.c (cl_GCLive a1)) .z)) (.k rfl (.cells (.r (cleanMap _ _ cl_GCLive))) .z))⟩
   ·refine run_cF 31 (c71 21) (c71 22) (decide (r3 < 0)) hc4 (by kernel_rfl) (by kernel_rfl) ?_
    refine run0z [] [0,2,4,8,9,10] [v_0,.fn 31 [],.mp 1 0 0,v_1,.i l1_9,v_2] s_0 _ (by kernel_rfl) cj0 ?_
    replace hl1:=Option.some.inj hl1; subst hl1
    refine inbN ?_
    exact ⟨_,rfl,pi [],mkInto (ks:=[0,2,4,8,9,10]) (ys:=[v_0,.fn 31 [],.mp 1 0 0,v_1,.i l1_9,v_2]) (by kernel_rfl) (by kernel_rfl) (.k (.ms rfl rfl) (.k (.c rfl) (.k (.mp rfl rfl) (.k (.c rfl) (.k (.c rfl) (.k (.c rfl) .z)))))) (.k rfl (.cells (.k (.c (cl_GCLive a1)) .z)) (.k rfl (.cells (.r (cleanMap _ _ cl_GCLive))) .z))⟩
  ·refine run_cF 17 (c71 13) (c71 14) (decide (l1_9 < l1_10)) hc1 (by kernel_rfl) (by kernel_rfl) ?_
   replace hl1:=Option.some.inj hl1; subst hl1
   have hr:=rl1 _ rfl
   subst hr
   refine awp_p [0,2,4,8,9] [1,0] (zipE [0,2,4,8,9] [v_0,.fn 31 [],.mp 1 0 0,v_1,.i l1_9]) s_0 (by kernel_rfl) (?_)
   refine run_e 0 (by kernel_rfl) ?_
   refine thenE ?_
   refine ⟨⟨_,rfl⟩,?_⟩
   refine inbE ?_
   refine thenN ?_
   exact kl1 l1_9 rfl
 ·rintro _ rfl
  obtain ⟨j2_7,hj2,h⟩:=bindE h
  refine run_gq (c71 25) (fun (j2_7:Bool)=>(zipE [6,7] [.i l1x_9,.bool j2_7])) (fun (j2_7:Bool)=>⟨[(0,b_0)],2⟩) (fun j=>j2_7 = j) (fun kj2=>?_) ?_
  ·rcases iteE hj2 with ⟨hc5,hj2⟩ | ⟨hc5,hj2⟩
   ·obtain ⟨y6,hy6,hj2⟩:=bindE hj2
    obtain ⟨r7,hr7,hj2⟩:=bindE hj2
    replace hj2:=Option.some.inj hj2; subst hj2
    exact yun1z (c71 25) [[],[],[],[1,2],[1,2,3],[1,2,3,4],[1,2,3,4],[1,2,3,4],[1,2,3,4,6,7],[1,2,3,4,6,7,8],[1,2,3,4],[1,2,3,4,5,6,7,8,9,10],[1,2,3,4,5,6,7,8,9,10,11],[1,2,3,4,5,6,7,8,9,10,11,12],[0,1,2,3,4,5,6,7,8,9,10,11],[0,1,2,3,4,5,6,7,8,9,10,11,12,13,14]] [.light 0 false,.light 1 false,.light 2 false,.light 3 false,.light 4 false,.light 5 false,.light 6 false,.light 7 false,.light 8 false,.light 9 false,.light 10 false,.heavy 11 [],.light 12 false,.light 13 false,.light 14 false,.light 15 false] [{},{},{},{},{},{},{},{},{ k:=1,n:=l1x_9.toNat },{ k:=1,x:=E_GCLive y6 },{},{ c:=some (.i r7,s_0) }] [6,7] [.i l1x_9,.bool (decide (r7 = 0))] ⟨[(0,b_0)],2⟩ _ (by kernel_rfl) (cjC (hc5) (cjC (Eq.refl true) (cjC (Eq.refl true) (cjC (Eq.refl true) (cjC ((ixE hy6).1) (cjC (ixLt hy6) (cjC (Nat.zero_add l1x_9.toNat) (cjC (Eq.refl true) (cjC (mapGet E_GCLive (ixE hy6).2) (cjC (Eq.refl true) (cjC (Eq.refl true) (cjC (f31_ok y6 a1 _ hr7 s_0) (cj1 (Eq.refl true)))))))))))))) (kj2 (decide (r7 = 0)) rfl)
   ·replace hj2:=Option.some.inj hj2; subst hj2
    exact yun1z (c71 25) [[],[],[],[1,2],[1,2,3],[1,2,3,4],[1,2,3,4],[1,2,3,4],[1,2,3,4,6,7],[1,2,3,4,6,7,8],[1,2,3,4],[1,2,3,4,5,6,7,8,9,10],[1,2,3,4,5,6,7,8,9,10,11],[1,2,3,4,5,6,7,8,9,10,11,12],[0,1,2,3,4,5,6,7,8,9,10,11],[0,1,2,3,4,5,6,7,8,9,10,11,12,13,14]] [.light 0 false,.light 1 false,.light 2 false,.light 3 false,.light 4 false,.light 5 false,.light 6 false,.light 7 false,.light 8 false,.light 9 false,.light 10 false,.heavy 11 [],.light 12 false,.light 13 false,.light 14 false,.light 15 false] [{},{},{},{},{},{ g:=false },{ g:=false },{ g:=false },{ g:=false },{ g:=false },{ g:=false },{ g:=false },{ g:=false }] [6,7] [.i l1x_9,.bool false] ⟨[(0,b_0)],2⟩ _ (by kernel_rfl) (cjC (hc5) (cjC (Eq.refl false) (cjC (Eq.refl false) (cjC (Eq.refl false) (cjC (Eq.refl false) (cjC (Eq.refl false) (cjC (Eq.refl false) (cj1 (Eq.refl false))))))))) (kj2 false rfl)
  ·rintro _ rfl
   refine run_t (by kernel_rfl) ?_
   replace h:=Option.some.inj h; subst h
   exact fin_p [0] ⟨[(0,b_0)],2⟩ (by kernel_rfl) (by kernel_rfl) rfl ⟨rfl,rfl⟩
def f56 (a0:GCPlayer) (a1:GCLive):Option (List GCLive):=(f71 a0.sounding.l a1).bind fun r1=>(f72 a0.sounding.l r1.1 ([a1]:List GCLive)).bind fun r2=>some r2
theorem f56_ok (a0:GCPlayer) (a1:GCLive) (r:(List GCLive)) (h:f56 a0 a1 = some r):ACalls Try.prog 56 [.mp 0 0 8,E_GCLive a1] ⟨[(3,.cells 5 (a0.takes.map E_GTake)),(2,.cells 7 (a0.sounding.l.map E_GCLive)),(1,.cells 3 (a0.desks.map E_GCDesk)),(0,.cells 11 [.agg [.i a0.clock.ticks,.i a0.now,.i a0.end_,.bool a0.waiting,.ms 1 0 a0.desks.length,.i a0.from_,.i a0.to_,.i a0.times,.ms 2 0 a0.sounding.l.length,.fn 31 [],.ms 3 0 a0.takes.length]])],4⟩ (fun y t=>y = .tup [] ∧ t = ⟨[(8,.cells 7 (r.map E_GCLive)),(3,.cells 5 (a0.takes.map E_GTake)),(1,.cells 3 (a0.desks.map E_GCDesk)),(0,.cells 11 [.agg [.i a0.clock.ticks,.i a0.now,.i a0.end_,.bool a0.waiting,.ms 1 0 a0.desks.length,.i a0.from_,.i a0.to_,.i a0.times,.ms 8 0 r.length,.fn 31 [],.ms 3 0 a0.takes.length]])],9⟩):=by
 refine run_f 30 [] (c56 0) (zipE [0,1] [.mp 0 0 8,E_GCLive a1]) (by kernel_rfl) (by kernel_rfl) (by kernel_rfl) rfl ?_
 unfold f56 at h
 let v_0:AV:=.ms 2 0 a0.sounding.l.length
 let v_1:AV:=.ms 1 0 a0.desks.length
 let v_2:AV:=.ms 3 0 a0.takes.length
 let v_3:AV:=.i a0.clock.ticks
 let v_4:AV:=.bool a0.waiting
 let w_0:AV:=.agg [v_3,.i a0.now,.i a0.end_,v_4,v_1,.i a0.from_,.i a0.to_,.i a0.times,v_0,.fn 31 [],v_2]
 let b_0:Blk:=.cells 7 (a0.sounding.l.map E_GCLive)
 let b_1:Blk:=.cells 3 (a0.desks.map E_GCDesk)
 let b_2:Blk:=.cells 5 (a0.takes.map E_GTake)
 let b_3:Blk:=.cells 7 [E_GCLive a1]
 let s_0:St:=⟨[(4,b_3),(3,b_2),(2,b_0),(1,b_1),(0,.cells 11 [w_0])],5⟩
 refine run1z (c56 2) [] [0,3] [.mp 0 0 8,.mp 4 0 0] s_0 _ (by kernel_rfl) cj0 ?_
 obtain ⟨r1,hr1,h⟩:=bindE h
 let w_1:AV:=.tup [.i r1.1,.bool r1.2]
 let s_1:St:=⟨[(4,b_3),(3,b_2),(2,b_0),(1,b_1),(0,.cells 11 [w_0])],6⟩
 refine yun1z (c56 4) [[],[0],[0,1],[0,1,2],[],[],[5],[5,6],[5,6,7],[0,1,2,3,4,5,6,7,8],[0,1,2,3,4,5,6,7,8,9],[0,1,2,3,4,5,6,7,8,9,10],[0,1,2,3,4,5,6,7,8,9,10],[0,1,2,3,4,5,6,7,8,9,10,11],[0,1,2,3,4,5,6,7,8,9,10,11,12,13]] [.light 0 false,.light 1 false,.light 2 false,.light 3 false,.light 4 false,.light 5 false,.light 6 false,.light 7 false,.light 8 false,.heavy 9 [],.light 10 false,.light 11 false,.light 12 false,.light 13 false,.light 14 false] [{},{},{},{},{},{},{},{},{},{ c:=some (w_1,s_1) }] [0,3,4] [.mp 0 0 8,.mp 4 0 0,.i r1.1] s_1 _ (by kernel_rfl) (cj1 (callF (f71_ok a0.sounding.l a1 _ hr1) [(0,2)] [(2,0)] [4,3,1,0] [v_0,E_GCLive a1,.fn 31 []] s_0 (w_1) s_1 (by kernel_rfl) (.k (.ms rfl rfl) (.k (.c (cl_GCLive a1)) (.k (.c rfl) .z))) (.t (.k (.c rfl) (.k (.c rfl) .z))) (.k rfl (.cells (.r (cleanMap _ _ cl_GCLive))) .z) (.f rfl (by kernel_rfl) (.f rfl (by kernel_rfl) (.d (x':=b_0) rfl (by kernel_rfl) (.cells (.r (cleanMap _ _ cl_GCLive))) (.f rfl (by kernel_rfl) (.f rfl (by kernel_rfl) .z))))))) ?_
 obtain ⟨r2,hr2,h⟩:=bindE h
 let v_5:AV:=.ms 8 0 r2.length
 let w_2:AV:=.agg [v_3,.i a0.now,.i a0.end_,v_4,v_1,.i a0.from_,.i a0.to_,.i a0.times,v_5,.fn 31 [],v_2]
 let b_4:Blk:=.cells 7 (r2.map E_GCLive)
 let s_2:St:=⟨[(8,b_4),(4,b_3),(3,b_2),(1,b_1),(0,.cells 11 [w_0])],9⟩
 let s_3:St:=⟨[(8,b_4),(3,b_2),(1,b_1),(0,.cells 11 [w_2])],9⟩
 refine yun0z [[],[],[1],[1,2],[1,2,3],[],[],[6],[1,2,3,4,5,6,7],[0,1,2,3,4,5,6,7,8],[0,1,2,3,4,5,6,7,8,9],[0,1,2,3,4,5,6,7,8,9,10]] [.light 0 false,.light 1 false,.light 2 false,.light 3 false,.light 4 false,.light 5 false,.light 6 false,.light 7 false,.heavy 8 [],.light 9 false,.light 10 false,.heavy 11 []] [{},{},{},{},{},{},{},{},{ c:=some (v_5,s_2) }] [] [] s_3 _ (by kernel_rfl) (cj1 (callF (f72_ok a0.sounding.l r1.1 ([a1]:List GCLive) _ hr2) [(0,2)] [(8,3)] [4,3,1,0] [v_0,.i r1.1,.sl true [E_GCLive a1]] s_1 (.ms 8 0 r2.length) s_2 (by kernel_rfl) (.k (.ms rfl rfl) (.k (.c rfl) (.k (.s (cleanMap (([a1]:List GCLive)) _ cl_GCLive)) .z))) (.ms rfl rfl) (.k rfl (.cells (.r (cleanMap _ _ cl_GCLive))) .z) (.d (x':=b_4) rfl (by kernel_rfl) (.cells (.r (cleanMap _ _ cl_GCLive))) (.f rfl (by kernel_rfl) (.f rfl (by kernel_rfl) (.f rfl (by kernel_rfl) (.f rfl (by kernel_rfl) .z))))))) ?_
 replace h:=Option.some.inj h; subst h
 exact fin_q [8,3,1,0] s_3 (by kernel_rfl) (by kernel_rfl) rfl ⟨rfl,rfl⟩
def f57 (a0:GCLive):Option GVoice:=some (⟨a0.desk,a0.note.course,a0.note.pitch⟩:GVoice)
theorem f57_ok (a0:GCLive) (r:GVoice) (h:f57 a0 = some r):APure Try.prog 57 [E_GCLive a0] (E_GVoice r):=by
 refine apure (clK (cl_GCLive a0) clZ) (cl_GVoice r) ?_
 refine run_f 12 [.cell 2 59] (c57 0) (zipE [0] [E_GCLive a0]) (by kernel_rfl) (by kernel_rfl) (by kernel_rfl) rfl ?_
 unfold f57 at h
 refine run1z (c57 2) [] [1,2] [.mp 0 0 0,.mp 1 0 0] ⟨[(1,.cells 3 [.agg [.i 0,.i 0,.i 0]]),(0,.cells 7 [E_GCLive a0])],2⟩ _ (by kernel_rfl) cj0 ?_
 refine run1z (c57 4) [] [2] [.mp 1 0 0] ⟨[(1,.cells 3 [.agg [.i a0.desk,.i a0.note.course,.i a0.note.pitch]])],2⟩ _ (by kernel_rfl) cj0 ?_
 refine run_t (by kernel_rfl) ?_
 replace h:=Option.some.inj h; subst h
 exact fin_r (by kernel_rfl) rfl
def f33 (a0:GCPlayer):Option (List GVoice × List GCLive):=(loopN (σ:=(List GCLive × List GVoice × Int)) (τ:=(List GVoice × List GCLive)) (fun ((l1_h0_8,l1_2,l1_13):(List GCLive × List GVoice × Int))=>bif (decide (l1_13 < (a0.desks.length:Int))) then ((ix a0.desks l1_13).bind fun y2=>(loopN (σ:=(List GCLive × List GVoice × Int)) (τ:=(List GCLive × List GVoice)) (fun ((l2_h0_8,l2_2,l2_21):(List GCLive × List GVoice × Int))=>bif (decide (l2_21 < (y2.notes.length:Int))) then ((((ix y2.notes l2_21).bind fun y4=>((bif (decide (y4.from_ = a0.now)) then (bif (!y2.silent) then (some (decide (y2.since ≤ y4.from_))) else (some false)) else (some false)):Option Bool).bind fun (j4_43:Bool)=>bif j4_43 then ((f56 (⟨a0.clock,a0.now,a0.end_,a0.waiting,a0.desks,a0.from_,a0.to_,a0.times,(⟨l2_h0_8⟩:GCShelf_live),a0.takes⟩:GCPlayer) (⟨y4,l1_13,a0.clock.ticks⟩:GCLive)).bind fun r8=>(f57 (⟨y4,l1_13,a0.clock.ticks⟩:GCLive)).bind fun r9=>need (l2_2.length + 1 ≤ maxElems) <| some (r8,(l2_2 ++ [r9]))) else (some (l2_h0_8,l2_2))):Option (List GCLive × List GVoice)).bind fun ((j3_h0_8,j3_2):(List GCLive × List GVoice))=>some (.inl (j3_h0_8,j3_2,(wr (l2_21 + 1))))) else (some (.inr (l2_h0_8,l2_2)))) FUEL (l1_h0_8,l1_2,0)).bind fun ((l2x_h0_8,l2x_2):(List GCLive × List GVoice))=>some (.inl (l2x_h0_8,l2x_2,(wr (l1_13 + 1))))) else (some (.inr (l1_2,l1_h0_8)))) FUEL (a0.sounding.l,([]:List GVoice),0)).bind fun ((l1x_2,l1x_h0_8):(List GVoice × List GCLive))=>some (l1x_2,l1x_h0_8)
theorem f33_ok (a0:GCPlayer) (r:(List GVoice × List GCLive)) (h:f33 a0 = some r):ACalls Try.prog 33 [.mp 0 0 0] ⟨[(3,.cells 5 (a0.takes.map E_GTake)),(2,.cells 7 (a0.sounding.l.map E_GCLive)),(1,.cells 3 (a0.desks.map E_GCDesk)),(0,.cells 11 [.agg [.i a0.clock.ticks,.i a0.now,.i a0.end_,.bool a0.waiting,.ms 1 0 a0.desks.length,.i a0.from_,.i a0.to_,.i a0.times,.ms 2 0 a0.sounding.l.length,.fn 31 [],.ms 3 0 a0.takes.length]])],4⟩ (fun y t=>y = .sl false (r.1.map E_GVoice) ∧ t = ⟨[(4,.cells 7 (r.2.map E_GCLive)),(3,.cells 5 (a0.takes.map E_GTake)),(1,.cells 3 (a0.desks.map E_GCDesk)),(0,.cells 11 [.agg [.i a0.clock.ticks,.i a0.now,.i a0.end_,.bool a0.waiting,.ms 1 0 a0.desks.length,.i a0.from_,.i a0.to_,.i a0.times,.ms 4 0 r.2.length,.fn 31 [],.ms 3 0 a0.takes.length]])],6⟩):=by
 refine run_f 65 [.tmp 2] (c33 0) (zipE [0] [.mp 0 0 0]) (by kernel_rfl) (by kernel_rfl) (by kernel_rfl) rfl ?_
 unfold f33 at h
 let v_0:AV:=.ms 2 0 a0.sounding.l.length
 let v_1:AV:=.ms 1 0 a0.desks.length
 let v_2:AV:=.ms 3 0 a0.takes.length
 let v_3:AV:=.i a0.clock.ticks
 let v_4:AV:=.bool a0.waiting
 let w_0:AV:=.agg [v_3,.i a0.now,.i a0.end_,v_4,v_1,.i a0.from_,.i a0.to_,.i a0.times,v_0,.fn 31 [],v_2]
 let b_0:Blk:=.cells 7 (a0.sounding.l.map E_GCLive)
 let b_1:Blk:=.cells 3 (a0.desks.map E_GCDesk)
 let b_2:Blk:=.cells 5 (a0.takes.map E_GTake)
 let s_0:St:=⟨[(3,b_2),(2,b_0),(1,b_1),(0,.cells 11 [w_0])],4⟩
 refine run1z (c33 2) [] [0,2] [.mp 0 0 0,.sl true []] s_0 _ (by kernel_rfl) cj0 ?_
 refine run_s (c33 3) (c33 42) (by kernel_rfl) ?_
 let v_5:AV:=.i (a0.desks.length:Int)
 refine run1z (c33 5) [] [0,2,11,12,13] [.mp 0 0 0,.sl true [],v_1,v_5,.i 0] s_0 _ (by kernel_rfl) cj0 ?_
 obtain ⟨ol1x,hll1x,h⟩:=bindE h
 refine run_tq (fun ((l1x_2,l1x_h0_8):(List GVoice × List GCLive))=>(zipE [2] [.ms 5 0 l1x_2.length])) (fun ((l1x_2,l1x_h0_8):(List GVoice × List GCLive))=>⟨[(5,.cells 3 (l1x_2.map E_GVoice)),(4,.cells 7 (l1x_h0_8.map E_GCLive)),(3,b_2),(1,b_1),(0,.cells 11 [.agg [v_3,.i a0.now,.i a0.end_,v_4,v_1,.i a0.from_,.i a0.to_,.i a0.times,.ms 4 0 l1x_h0_8.length,.fn 31 [],v_2]])],6⟩) (fun j=>ol1x = j) (fun kl1=>?_) ?_
 ·refine run_b 0 (c33 6) (by kernel_rfl) ?_
  refine run_l (c33 7) _ hll1x (fun ((l1_h0_8,l1_2,l1_13):(List GCLive × List GVoice × Int))=>(zipE [0,2,11,12,13] [.mp 0 0 0,.ms 5 0 l1_2.length,v_1,v_5,.i l1_13])) (fun ((l1_h0_8,l1_2,l1_13):(List GCLive × List GVoice × Int))=>⟨[(5,.cells 3 (l1_2.map E_GVoice)),(4,.cells 7 (l1_h0_8.map E_GCLive)),(3,b_2),(1,b_1),(0,.cells 11 [.agg [v_3,.i a0.now,.i a0.end_,v_4,v_1,.i a0.from_,.i a0.to_,.i a0.times,.ms 4 0 l1_h0_8.length,.fn 31 [],v_2]])],6⟩) [(4,2),(5,1000000)] (by intro i e; cases e <;> exact Nat.le_of_ble_eq_true rfl) (by kernel_rfl) (mkInto (ks:=[0,2,11,12,13]) (ys:=[.mp 0 0 0,.sl true [],v_1,v_5,.i 0]) (by kernel_rfl) (by kernel_rfl) (.k (.mp rfl rfl) (.k (.n) (.k (.ms rfl rfl) (.k (.c rfl) (.k (.c rfl) .z))))) (.n rfl rfl rfl (.k rfl (.cells (.r (cleanMap _ _ cl_GCLive))) (.k rfl (.cells (.r (cleanMap _ _ cl_GTake))) (.k rfl (.cells (.r (cleanMap _ _ cl_GCDesk))) (.k rfl (.cells (.k (.a (.k (.c rfl) (.k (.c rfl) (.k (.c rfl) (.k (.c rfl) (.k (.ms rfl rfl) (.k (.c rfl) (.k (.c rfl) (.k (.c rfl) (.k (.ms rfl rfl) (.k (.c rfl) (.k (.ms rfl rfl) .z)))))))))))) .z)) .z)))))) ?_
  rintro ⟨l1_h0_8,l1_2,l1_13⟩ out hl1 rl1
  let v_6:AV:=.ms 4 0 l1_h0_8.length
  let v_7:AV:=.ms 5 0 l1_2.length
  let w_1:AV:=.agg [v_3,.i a0.now,.i a0.end_,v_4,v_1,.i a0.from_,.i a0.to_,.i a0.times,v_6,.fn 31 [],v_2]
  let b_3:Blk:=.cells 7 (l1_h0_8.map E_GCLive)
  let b_4:Blk:=.cells 3 (l1_2.map E_GVoice)
  let s_1:St:=⟨[(5,b_4),(4,b_3),(3,b_2),(1,b_1),(0,.cells 11 [w_1])],6⟩
  refine run1z (c33 9) [] [0,2,11,12,13,14] [.mp 0 0 0,v_7,v_1,v_5,.i l1_13,.bool (decide (l1_13 < (a0.desks.length:Int)))] s_1 _ (by kernel_rfl) cj0 ?_
  refine run_s (c33 10) (c33 13) (by kernel_rfl) ?_
  rcases iteE hl1 with ⟨hc1,hl1⟩ | ⟨hc1,hl1⟩
  ·refine run_cT 14 (c33 11) (c33 12) (decide (l1_13 < (a0.desks.length:Int))) hc1 (by kernel_rfl) (by kernel_rfl) ?_
   refine run_k (by kernel_rfl) ?_
   refine thenN ?_
   refine run_s (c33 14) (c33 41) (by kernel_rfl) ?_
   refine run_b 1 (c33 15) (by kernel_rfl) ?_
   obtain ⟨y2,hy2,hl1⟩:=bindE hl1
   let b_5:Blk:=.cells 3 [E_GCDesk y2]
   let s_2:St:=⟨[(6,b_5),(5,b_4),(4,b_3),(3,b_2),(1,b_1),(0,.cells 11 [w_1])],7⟩
   refine run1z (c33 17) [{},{ k:=1,n:=l1_13.toNat },{ k:=1,x:=E_GCDesk y2 }] [0,2,3,4,11,12,13] [.mp 0 0 0,v_7,.i l1_13,.mp 6 0 0,v_1,v_5,.i l1_13] s_2 _ (by kernel_rfl) (cjC ((ixE hy2).1) (cjC (ixLt hy2) (cjC (Nat.zero_add l1_13.toNat) (cj1 (mapGet E_GCDesk (ixE hy2).2))))) ?_
   let v_8:AV:=.sl false (y2.notes.map E_GNote)
   let v_9:AV:=.i (y2.notes.length:Int)
   refine run1z (c33 19) [{},{},{ k:=1,n:=y2.notes.length }] [0,2,3,4,11,12,13,19,20,21] [.mp 0 0 0,v_7,.i l1_13,.mp 6 0 0,v_1,v_5,.i l1_13,v_8,v_9,.i 0] s_2 _ (by kernel_rfl) (cj1 (mapLen y2.notes E_GNote)) ?_
   obtain ⟨ol2x,hll2x,hl1⟩:=bindE hl1
   refine run_tq (fun ((l2x_h0_8,l2x_2):(List GCLive × List GVoice))=>(zipE [0,2,11,12,13] [.mp 0 0 0,.ms 8 0 l2x_2.length,v_1,v_5,.i l1_13])) (fun ((l2x_h0_8,l2x_2):(List GCLive × List GVoice))=>⟨[(8,.cells 3 (l2x_2.map E_GVoice)),(7,.cells 7 (l2x_h0_8.map E_GCLive)),(3,b_2),(1,b_1),(0,.cells 11 [.agg [v_3,.i a0.now,.i a0.end_,v_4,v_1,.i a0.from_,.i a0.to_,.i a0.times,.ms 7 0 l2x_h0_8.length,.fn 31 [],v_2]])],9⟩) (fun j=>ol2x = j) (fun kl2=>?_) ?_
   ·refine run_b 2 (c33 20) (by kernel_rfl) ?_
    refine run_l (c33 21) _ hll2x (fun ((l2_h0_8,l2_2,l2_21):(List GCLive × List GVoice × Int))=>(zipE [0,2,3,4,11,12,13,19,20,21] [.mp 0 0 0,.ms 8 0 l2_2.length,.i l1_13,.mp 6 0 0,v_1,v_5,.i l1_13,v_8,v_9,.i l2_21])) (fun ((l2_h0_8,l2_2,l2_21):(List GCLive × List GVoice × Int))=>⟨[(8,.cells 3 (l2_2.map E_GVoice)),(7,.cells 7 (l2_h0_8.map E_GCLive)),(6,b_5),(3,b_2),(1,b_1),(0,.cells 11 [.agg [v_3,.i a0.now,.i a0.end_,v_4,v_1,.i a0.from_,.i a0.to_,.i a0.times,.ms 7 0 l2_h0_8.length,.fn 31 [],v_2]])],9⟩) [(7,4),(8,5)] (by intro i e; cases e <;> exact Nat.le_of_ble_eq_true rfl) (by kernel_rfl) (mkInto (ks:=[0,2,3,4,11,12,13,19,20,21]) (ys:=[.mp 0 0 0,v_7,.i l1_13,.mp 6 0 0,v_1,v_5,.i l1_13,v_8,v_9,.i 0]) (by kernel_rfl) (by kernel_rfl) (.k (.mp rfl rfl) (.k (.ms rfl rfl) (.k (.c rfl) (.k (.mp rfl rfl) (.k (.ms rfl rfl) (.k (.c rfl) (.k (.c rfl) (.k (.c (cleanMap _ _ cl_GNote)) (.k (.c rfl) (.k (.c rfl) .z)))))))))) (.k rfl (.cells (.r (cleanMap _ _ cl_GVoice))) (.k rfl (.cells (.r (cleanMap _ _ cl_GCLive))) (.k rfl (.cells (.k (.c (cl_GCDesk y2)) .z)) (.k rfl (.cells (.r (cleanMap _ _ cl_GTake))) (.k rfl (.cells (.r (cleanMap _ _ cl_GCDesk))) (.k rfl (.cells (.k (.a (.k (.c rfl) (.k (.c rfl) (.k (.c rfl) (.k (.c rfl) (.k (.ms rfl rfl) (.k (.c rfl) (.k (.c rfl) (.k (.c rfl) (.k (.ms rfl rfl) (.k (.c rfl) (.k (.ms rfl rfl) .z)))))))))))) .z)) .z))))))) ?_
    rintro ⟨l2_h0_8,l2_2,l2_21⟩ out hl2 rl2
    let v_10:AV:=.ms 7 0 l2_h0_8.length
    let v_11:AV:=.ms 8 0 l2_2.length
    let w_2:AV:=.agg [v_3,.i a0.now,.i a0.end_,v_4,v_1,.i a0.from_,.i a0.to_,.i a0.times,v_10,.fn 31 [],v_2]
    let b_6:Blk:=.cells 7 (l2_h0_8.map E_GCLive)
    let b_7:Blk:=.cells 3 (l2_2.map E_GVoice)
    refine run1z (c33 23) [] [0,2,3,4,11,12,13,19,20,21,22] [.mp 0 0 0,v_11,.i l1_13,.mp 6 0 0,v_1,v_5,.i l1_13,v_8,v_9,.i l2_21,.bool (decide (l2_21 < (y2.notes.length:Int)))] ⟨[(8,b_7),(7,b_6),(6,b_5),(3,b_2),(1,b_1),(0,.cells 11 [w_2])],9⟩ _ (by kernel_rfl) cj0 ?_
    refine run_s (c33 24) (c33 27) (by kernel_rfl) ?_
    rcases iteE hl2 with ⟨hc3,hl2⟩ | ⟨hc3,hl2⟩
    ·refine run_cT 22 (c33 25) (c33 26) (decide (l2_21 < (y2.notes.length:Int))) hc3 (by kernel_rfl) (by kernel_rfl) ?_
     refine run_k (by kernel_rfl) ?_
     refine thenN ?_
     obtain ⟨oj3,hj3,hl2⟩:=bindE hl2
     refine run_jq (c33 28) (c33 40) (fun ((j3_h0_8,j3_2):(List GCLive × List GVoice))=>(zipE [0,2,3,4,11,12,13,19,20,21] [.mp 0 0 0,.ms 18 0 j3_2.length,.i l1_13,.mp 6 0 0,v_1,v_5,.i l1_13,v_8,v_9,.i l2_21])) (fun ((j3_h0_8,j3_2):(List GCLive × List GVoice))=>⟨[(18,.cells 3 (j3_2.map E_GVoice)),(17,.cells 7 (j3_h0_8.map E_GCLive)),(6,b_5),(3,b_2),(1,b_1),(0,.cells 11 [.agg [v_3,.i a0.now,.i a0.end_,v_4,v_1,.i a0.from_,.i a0.to_,.i a0.times,.ms 17 0 j3_h0_8.length,.fn 31 [],v_2]])],19⟩) (fun j=>oj3 = j) (by kernel_rfl) (fun kj3=>?_) ?_
     ·refine run_b 3 (c33 29) (by kernel_rfl) ?_
      obtain ⟨y4,hy4,hj3⟩:=bindE hj3
      let b_8:Blk:=.cells 5 [E_GNote y4]
      let s_3:St:=⟨[(9,b_8),(8,b_7),(7,b_6),(6,b_5),(3,b_2),(1,b_1),(0,.cells 11 [w_2])],10⟩
      refine run1z (c33 31) [{ k:=1,x:=E_GNote y4 }] [0,2,3,4,6,11,12,13,19,20,21] [.mp 0 0 0,v_11,.i l1_13,.mp 6 0 0,.mp 9 0 0,v_1,v_5,.i l1_13,v_8,v_9,.i l2_21] s_3 _ (by kernel_rfl) (cjC ((ixE hy4).1) (cj1 (mapGet E_GNote (ixE hy4).2))) ?_
      obtain ⟨j4_43,hj4,hj3⟩:=bindE hj3
      refine run_gq (c33 33) (fun (j4_43:Bool)=>(zipE [0,2,3,4,6,11,12,13,19,20,21,43] [.mp 0 0 0,v_11,.i l1_13,.mp 6 0 0,.mp 9 0 0,v_1,v_5,.i l1_13,v_8,v_9,.i l2_21,.bool j4_43])) (fun (j4_43:Bool)=>s_3) (fun j=>j4_43 = j) (fun kj4=>?_) ?_
      ·rcases iteE hj4 with ⟨hc5,hj4⟩ | ⟨hc5,hj4⟩
       ·rcases iteE hj4 with ⟨hc6,hj4⟩ | ⟨hc6,hj4⟩
        ·replace hj4:=Option.some.inj hj4; subst hj4
         exact yun1z (c33 33) [[],[0],[],[2],[2,3],[2,3,4],[0,1,2,3,4,5],[0,1,2,3,4,5,6],[0,1,2,3,4,5,6,7],[0,1,2,3,4,5,6,7,8],[0,1,2,3,4,5,6,7,8,9],[0,1,2,3,4,5,6,7,8,9,10],[0,1,2,3,4,5,6,7,8,9,10,11],[0,1,2,3,4,5,6,7,8,9,10,11,12],[0,1,2,3,4,5,6,7,8,9,10,11,12,13],[0,1,2,3,4,5,6,7,8,9,10,11,12],[0,1,2,3,4,5,6,7,8,9,10,11,12,15],[0,1,2,3,4,5,6,7,8,9,10,11,12,13,14,15,16],[0,1,2,3,4,5,6,7,8,9,10,11,12,13,14,15,16,17]] [.light 0 false,.light 1 false,.light 2 false,.light 3 false,.light 4 false,.light 5 false,.light 6 false,.light 7 false,.light 8 false,.light 9 false,.light 10 false,.light 11 false,.light 12 false,.light 13 false,.light 14 false,.light 15 false,.light 16 false,.light 17 false,.light 18 false] [] [0,2,3,4,6,11,12,13,19,20,21,43] [.mp 0 0 0,v_11,.i l1_13,.mp 6 0 0,.mp 9 0 0,v_1,v_5,.i l1_13,v_8,v_9,.i l2_21,.bool (decide (y2.since ≤ y4.from_))] s_3 _ (by kernel_rfl) (cjC (hc5) (cjC (Eq.refl true) (cjC (Eq.refl true) (cjC (hc6) (cjC (Eq.refl true) (cjC (Eq.refl true) (cjC (Eq.refl true) (cj1 (Eq.refl true))))))))) (kj4 (decide (y2.since ≤ y4.from_)) rfl)
        ·replace hj4:=Option.some.inj hj4; subst hj4
         exact yun1z (c33 33) [[],[0],[],[2],[2,3],[2,3,4],[0,1,2,3,4,5],[0,1,2,3,4,5,6],[0,1,2,3,4,5,6,7],[0,1,2,3,4,5,6,7,8],[0,1,2,3,4,5,6,7,8,9],[0,1,2,3,4,5,6,7,8,9,10],[0,1,2,3,4,5,6,7,8,9,10,11],[0,1,2,3,4,5,6,7,8,9,10,11,12],[0,1,2,3,4,5,6,7,8,9,10,11,12,13],[0,1,2,3,4,5,6,7,8,9,10,11,12],[0,1,2,3,4,5,6,7,8,9,10,11,12,15],[0,1,2,3,4,5,6,7,8,9,10,11,12,13,14,15,16],[0,1,2,3,4,5,6,7,8,9,10,11,12,13,14,15,16,17]] [.light 0 false,.light 1 false,.light 2 false,.light 3 false,.light 4 false,.light 5 false,.light 6 false,.light 7 false,.light 8 false,.light 9 false,.light 10 false,.light 11 false,.light 12 false,.light 13 false,.light 14 false,.light 15 false,.light 16 false,.light 17 false,.light 18 false] [{},{},{},{},{},{},{},{},{},{},{},{},{},{ g:=false },{ g:=false },{ g:=false },{ g:=false },{ g:=false }] [0,2,3,4,6,11,12,13,19,20,21,43] [.mp 0 0 0,v_11,.i l1_13,.mp 6 0 0,.mp 9 0 0,v_1,v_5,.i l1_13,v_8,v_9,.i l2_21,.bool false] s_3 _ (by kernel_rfl) (cjC (hc5) (cjC (Eq.refl true) (cjC (Eq.refl true) (cjC (hc6) (cjC (Eq.refl false) (cjC (Eq.refl false) (cjC (Eq.refl false) (cj1 (Eq.refl false))))))))) (kj4 false rfl)
       ·replace hj4:=Option.some.inj hj4; subst hj4
        exact yun1z (c33 33) [[],[0],[],[2],[2,3],[2,3,4],[0,1,2,3,4,5],[0,1,2,3,4,5,6],[0,1,2,3,4,5,6,7],[0,1,2,3,4,5,6,7,8],[0,1,2,3,4,5,6,7,8,9],[0,1,2,3,4,5,6,7,8,9,10],[0,1,2,3,4,5,6,7,8,9,10,11],[0,1,2,3,4,5,6,7,8,9,10,11,12],[0,1,2,3,4,5,6,7,8,9,10,11,12,13],[0,1,2,3,4,5,6,7,8,9,10,11,12],[0,1,2,3,4,5,6,7,8,9,10,11,12,15],[0,1,2,3,4,5,6,7,8,9,10,11,12,13,14,15,16],[0,1,2,3,4,5,6,7,8,9,10,11,12,13,14,15,16,17]] [.light 0 false,.light 1 false,.light 2 false,.light 3 false,.light 4 false,.light 5 false,.light 6 false,.light 7 false,.light 8 false,.light 9 false,.light 10 false,.light 11 false,.light 12 false,.light 13 false,.light 14 false,.light 15 false,.light 16 false,.light 17 false,.light 18 false] [{},{},{},{},{},{},{},{},{ g:=false },{ g:=false },{ g:=false },{},{},{ g:=false },{ g:=false },{ g:=false },{ g:=false },{ g:=false }] [0,2,3,4,6,11,12,13,19,20,21,43] [.mp 0 0 0,v_11,.i l1_13,.mp 6 0 0,.mp 9 0 0,v_1,v_5,.i l1_13,v_8,v_9,.i l2_21,.bool false] s_3 _ (by kernel_rfl) (cjC (hc5) (cjC (Eq.refl false) (cjC (Eq.refl false) (cjC (Eq.refl false) (cjC (Eq.refl false) (cjC (Eq.refl false) (cjC (Eq.refl false) (cj1 (Eq.refl false))))))))) (kj4 false rfl)
      ·rintro _ rfl
       rcases iteE hj3 with ⟨hc7,hj3⟩ | ⟨hc7,hj3⟩
       ·refine run_cT 43 (c33 34) (c33 39) j4_43 hc7 (by kernel_rfl) (by kernel_rfl) ?_
        let w_3:AV:=.agg [.i y4.event,.i y4.course,.i y4.pitch,.i y4.from_,.i y4.to_,.i l1_13,v_3]
        let s_4:St:=⟨[(10,.cells 7 [w_3]),(8,b_7),(7,b_6),(6,b_5),(3,b_2),(1,b_1),(0,.cells 11 [w_2])],11⟩
        refine yun1z (c33 36) [[],[],[],[2],[2,3],[2,3,4],[2,3,4,5],[0,1,2,3,4,5,6],[],[0,1,2,3,4,5,6,7,8]] [.light 0 true,.light 1 false,.light 2 false,.light 3 false,.light 4 false,.light 5 false,.light 6 true,.light 7 false,.heavy 8 [0,6],.heavy 9 []] [] [0,2,3,4,7,11,12,13,19,20,21] [.mp 0 0 0,v_11,.i l1_13,.mp 6 0 0,.mp 10 0 0,v_1,v_5,.i l1_13,v_8,v_9,.i l2_21] s_4 _ (by kernel_rfl) (cjC (@Eq.refl AV (E_GNote y4)) (cj1 (@Eq.refl AV (.i a0.clock.ticks)))) ?_
        obtain ⟨r8,hr8,hj3⟩:=bindE hj3
        let v_12:AV:=.ms 15 0 r8.length
        let w_4:AV:=.agg [v_3,.i a0.now,.i a0.end_,v_4,v_1,.i a0.from_,.i a0.to_,.i a0.times,v_12,.fn 31 [],v_2]
        let b_9:Blk:=.cells 7 (r8.map E_GCLive)
        let s_5:St:=⟨[(15,b_9),(10,.cells 7 [w_3]),(8,b_7),(6,b_5),(3,b_2),(1,b_1),(0,.cells 11 [w_4])],16⟩
        refine yun1z (c33 38) [[],[0],[0,1],[],[0,1,2,3]] [.light 0 false,.light 1 false,.light 2 false,.light 3 false,.heavy 4 []] [{},{},{},{},{ c:=some (.tup [],s_5) }] [0,2,3,4,7,11,12,13,19,20,21] [.mp 0 0 0,v_11,.i l1_13,.mp 6 0 0,.mp 10 0 0,v_1,v_5,.i l1_13,v_8,v_9,.i l2_21] s_5 _ (by kernel_rfl) (cj1 (callF (f56_ok (⟨a0.clock,a0.now,a0.end_,a0.waiting,a0.desks,a0.from_,a0.to_,a0.times,(⟨l2_h0_8⟩:GCShelf_live),a0.takes⟩:GCPlayer) (⟨y4,l1_13,a0.clock.ticks⟩:GCLive) _ hr8) [(0,0),(1,1),(2,7),(3,3)] [(15,8),(3,3),(1,1),(0,0)] [10,8,6] [.mp 0 0 8,w_3] s_4 (.tup []) s_5 (by kernel_rfl) (.k (.mp rfl rfl) (.k (.c (cl_GCLive (⟨y4,l1_13,a0.clock.ticks⟩:GCLive))) .z)) (.t .z) (.k rfl (.cells (.r (cleanMap _ _ cl_GTake))) (.k rfl (.cells (.r (cleanMap _ _ cl_GCLive))) (.k rfl (.cells (.r (cleanMap _ _ cl_GCDesk))) (.k rfl (.cells (.k (.a (.k (.c rfl) (.k (.c rfl) (.k (.c rfl) (.k (.c rfl) (.k (.ms rfl rfl) (.k (.c rfl) (.k (.c rfl) (.k (.c rfl) (.k (.ms rfl rfl) (.k (.c rfl) (.k (.ms rfl rfl) .z)))))))))))) .z)) .z)))) (.d (x':=b_9) rfl (by kernel_rfl) (.cells (.r (cleanMap _ _ cl_GCLive))) (.f rfl (by kernel_rfl) (.f rfl (by kernel_rfl) (.f rfl (by kernel_rfl) (.d (x':=b_2) rfl (by kernel_rfl) (.cells (.r (cleanMap _ _ cl_GTake))) (.d (x':=b_1) rfl (by kernel_rfl) (.cells (.r (cleanMap _ _ cl_GCDesk))) (.d (x':=.cells 11 [.agg [v_3,.i a0.now,.i a0.end_,v_4,v_1,.i a0.from_,.i a0.to_,.i a0.times,.ms 8 0 r8.length,.fn 31 [],v_2]]) rfl (by kernel_rfl) (.cells (.k (.a (.k (.c rfl) (.k (.c rfl) (.k (.c rfl) (.k (.c rfl) (.k (.ms rfl rfl) (.k (.c rfl) (.k (.c rfl) (.k (.c rfl) (.k (.ms rfl rfl) (.k (.c rfl) (.k (.ms rfl rfl) .z)))))))))))) .z)) .z))))))))) ?_
        obtain ⟨r9,hr9,hj3⟩:=bindE hj3
        obtain ⟨hn10,hj3⟩:=needE hj3
        refine run0z [{},{},{ c:=some (E_GVoice r9,s_5) },{},{ k:=1,n:=(l2_2 ++ [r9]).length,l:=(l2_2 ++ [r9]).map E_GVoice }] [0,2,3,4,11,12,13,19,20,21] [.mp 0 0 0,.ms 16 0 (l2_2 ++ [r9]).length,.i l1_13,.mp 6 0 0,v_1,v_5,.i l1_13,v_8,v_9,.i l2_21] ⟨[(16,.cells 3 ((l2_2 ++ [r9]).map E_GVoice)),(15,b_9),(6,b_5),(3,b_2),(1,b_1),(0,.cells 11 [w_4])],17⟩ _ (by kernel_rfl) (cjC (f57_ok (⟨y4,l1_13,a0.clock.ticks⟩:GCLive) _ hr9 s_5) (cjC (@List.cons_ne_nil AV (E_GVoice r9) []) (cjC (mLe l2_2 E_GVoice) (cjC (hn10) (cjC (lenA l2_2 ([r9]:List GVoice)) (cjC (appA l2_2 ([r9]:List GVoice) E_GVoice) (cj1 (fitsOne (P:=Try.prog) (t:=59) (x:=E_GVoice r9) (r:=[]) (by kernel_rfl))))))))) ?_
        replace hj3:=Option.some.inj hj3; subst hj3
        refine inbN ?_
        refine thenN ?_
        exact run_i 17 [(17,15),(18,16)] [0,2,3,4,11,12,13,19,20,21] [.mp 0 0 0,.ms 16 0 (l2_2 ++ [r9]).length,.i l1_13,.mp 6 0 0,v_1,v_5,.i l1_13,v_8,v_9,.i l2_21] (kj3 (r8,(l2_2 ++ [r9])) rfl) (by intro i e; cases e <;> exact Nat.le_of_ble_eq_true rfl) (by kernel_rfl) (by kernel_rfl) (by kernel_rfl) (.k (.mp rfl rfl) (.k (.ms rfl rfl) (.k (.c rfl) (.k (.mp rfl rfl) (.k (.ms rfl rfl) (.k (.c rfl) (.k (.c rfl) (.k (.c (cleanMap _ _ cl_GNote)) (.k (.c rfl) (.k (.c rfl) .z)))))))))) (.k rfl (.cells (.r (cleanMap _ _ cl_GVoice))) (.k rfl (.cells (.r (cleanMap _ _ cl_GCLive))) (.k rfl (.cells (.k (.c (cl_GCDesk y2)) .z)) (.k rfl (.cells (.r (cleanMap _ _ cl_GTake))) (.k rfl (.cells (.r (cleanMap _ _ cl_GCDesk))) (.k rfl (.cells (.k (.a (.k (.c rfl) (.k (.c rfl) (.k (.c rfl) (.k (.c rfl) (.k (.ms rfl rfl) (.k (.c rfl) (.k (.c rfl) (.k (.c rfl) (.k (.ms rfl rfl) (.k (.c rfl) (.k (.ms rfl rfl) .z)))))))))))) .z)) .z))))))
       ·refine run_cF 43 (c33 34) (c33 39) j4_43 hc7 (by kernel_rfl) (by kernel_rfl) ?_
        replace hj3:=Option.some.inj hj3; subst hj3
        refine run_i 17 [(17,7),(18,8)] [0,2,3,4,11,12,13,19,20,21] [.mp 0 0 0,v_11,.i l1_13,.mp 6 0 0,v_1,v_5,.i l1_13,v_8,v_9,.i l2_21] (xs:=[.mp 0 0 0,.ms 18 0 l2_2.length,.i l1_13,.mp 6 0 0,v_1,v_5,.i l1_13,v_8,v_9,.i l2_21]) (S2:=⟨[(18,b_7),(17,b_6),(6,b_5),(3,b_2),(1,b_1),(0,.cells 11 [.agg [v_3,.i a0.now,.i a0.end_,v_4,v_1,.i a0.from_,.i a0.to_,.i a0.times,.ms 17 0 l2_h0_8.length,.fn 31 [],v_2]])],19⟩) ?_ (by intro i e; cases e <;> exact Nat.le_of_ble_eq_true rfl) (by kernel_rfl) (by kernel_rfl) (by kernel_rfl) (.k (.mp rfl rfl) (.k (.ms rfl rfl) (.k (.c rfl) (.k (.mp rfl rfl) (.k (.ms rfl rfl) (.k (.c rfl) (.k (.c rfl) (.k (.c (cleanMap _ _ cl_GNote)) (.k (.c rfl) (.k (.c rfl) .z)))))))))) (.k rfl (.cells (.r (cleanMap _ _ cl_GVoice))) (.k rfl (.cells (.r (cleanMap _ _ cl_GCLive))) (.k rfl (.cells (.k (.c (cl_GCDesk y2)) .z)) (.k rfl (.cells (.r (cleanMap _ _ cl_GTake))) (.k rfl (.cells (.r (cleanMap _ _ cl_GCDesk))) (.k rfl (.cells (.k (.a (.k (.c rfl) (.k (.c rfl) (.k (.c rfl) (.k (.c rfl) (.k (.ms rfl rfl) (.k (.c rfl) (.k (.c rfl) (.k (.c rfl) (.k (.ms rfl rfl) (.k (.c rfl) (.k (.ms rfl rfl) .z)))))))))))) .z)) .z))))))
        refine run_k (by kernel_rfl) ?_
        refine inbN ?_
        refine thenN ?_
        exact kj3 (l2_h0_8,l2_2) rfl
     ·rintro ⟨j3_h0_8,j3_2⟩ rfl
      refine run0z [] [0,2,3,4,11,12,13,19,20,21] [.mp 0 0 0,.ms 18 0 j3_2.length,.i l1_13,.mp 6 0 0,v_1,v_5,.i l1_13,v_8,v_9,.i (wr (l2_21 + 1))] ⟨[(18,.cells 3 (j3_2.map E_GVoice)),(17,.cells 7 (j3_h0_8.map E_GCLive)),(6,b_5),(3,b_2),(1,b_1),(0,.cells 11 [.agg [v_3,.i a0.now,.i a0.end_,v_4,v_1,.i a0.from_,.i a0.to_,.i a0.times,.ms 17 0 j3_h0_8.length,.fn 31 [],v_2]])],19⟩ _ (by kernel_rfl) cj0 ?_
      replace hl2:=Option.some.inj hl2; subst hl2
      exact ⟨_,rfl,pi [(7,17),(8,18)],mkInto (ks:=[0,2,3,4,11,12,13,19,20,21]) (ys:=[.mp 0 0 0,.ms 18 0 j3_2.length,.i l1_13,.mp 6 0 0,v_1,v_5,.i l1_13,v_8,v_9,.i (wr (l2_21 + 1))]) (by kernel_rfl) (by kernel_rfl) (.k (.mp rfl rfl) (.k (.ms rfl rfl) (.k (.c rfl) (.k (.mp rfl rfl) (.k (.ms rfl rfl) (.k (.c rfl) (.k (.c rfl) (.k (.c (cleanMap _ _ cl_GNote)) (.k (.c rfl) (.k (.c rfl) .z)))))))))) (.k rfl (.cells (.r (cleanMap _ _ cl_GVoice))) (.k rfl (.cells (.r (cleanMap _ _ cl_GCLive))) (.k rfl (.cells (.k (.c (cl_GCDesk y2)) .z)) (.k rfl (.cells (.r (cleanMap _ _ cl_GTake))) (.k rfl (.cells (.r (cleanMap _ _ cl_GCDesk))) (.k rfl (.cells (.k (.a (.k (.c rfl) (.k (.c rfl) (.k (.c rfl) (.k (.c rfl) (.k (.ms rfl rfl) (.k (.c rfl) (.k (.c rfl) (.k (.c rfl) (.k (.ms rfl rfl) (.k (.c rfl) (.k (.ms rfl rfl) .z)))))))))))) .z)) .z))))))⟩
    ·refine run_cF 22 (c33 25) (c33 26) (decide (l2_21 < (y2.notes.length:Int))) hc3 (by kernel_rfl) (by kernel_rfl) ?_
     replace hl2:=Option.some.inj hl2; subst hl2
     have hr:=rl2 _ rfl
     subst hr
     refine awp_p [0,2,11,12,13] [8,7,3,1,0] (zipE [0,2,11,12,13] [.mp 0 0 0,v_11,v_1,v_5,.i l1_13]) ⟨[(8,b_7),(7,b_6),(3,b_2),(1,b_1),(0,.cells 11 [w_2])],9⟩ (by kernel_rfl) (?_)
     refine run_e 2 (by kernel_rfl) ?_
     refine thenE ?_
     refine ⟨⟨_,rfl⟩,?_⟩
     refine inbE ?_
     exact kl2 (l2_h0_8,l2_2) rfl
   ·rintro ⟨l2x_h0_8,l2x_2⟩ rfl
    refine inbN ?_
    refine thenN ?_
    refine run0z [] [0,2,11,12,13] [.mp 0 0 0,.ms 8 0 l2x_2.length,v_1,v_5,.i (wr (l1_13 + 1))] ⟨[(8,.cells 3 (l2x_2.map E_GVoice)),(7,.cells 7 (l2x_h0_8.map E_GCLive)),(3,b_2),(1,b_1),(0,.cells 11 [.agg [v_3,.i a0.now,.i a0.end_,v_4,v_1,.i a0.from_,.i a0.to_,.i a0.times,.ms 7 0 l2x_h0_8.length,.fn 31 [],v_2]])],9⟩ _ (by kernel_rfl) cj0 ?_
    replace hl1:=Option.some.inj hl1; subst hl1
    exact ⟨_,rfl,pi [(4,7),(5,8)],mkInto (ks:=[0,2,11,12,13]) (ys:=[.mp 0 0 0,.ms 8 0 l2x_2.length,v_1,v_5,.i (wr (l1_13 + 1))]) (by kernel_rfl) (by kernel_rfl) (.k (.mp rfl rfl) (.k (.ms rfl rfl) (.k (.ms rfl rfl) (.k (.c rfl) (.k (.c rfl) .z))))) (.k rfl (.cells (.r (cleanMap _ _ cl_GVoice))) (.k rfl (.cells (.r (cleanMap _ _ cl_GCLive))) (.k rfl (.cells (.r (cleanMap _ _ cl_GTake))) (.k rfl (.cells (.r (cleanMap _ _ cl_GCDesk))) (.k rfl (.cells (.k (.a (.k (.c rfl) (.k (.c rfl) (.k (.c rfl) (.k (.c rfl) (.k (.ms rfl rfl) (.k (.c rfl) (.k (.c rfl) (.k (.c rfl) (.k (.ms rfl rfl) (.k (.c rfl) (.k (.ms rfl rfl) .z)))))))))))) .z)) .z)))))⟩
  ·refine run_cF 14 (c33 11) (c33 12) (decide (l1_13 < (a0.desks.length:Int))) hc1 (by kernel_rfl) (by kernel_rfl) ?_
   replace hl1:=Option.some.inj hl1; subst hl1
   have hr:=rl1 _ rfl
   subst hr
   refine awp_p [2] [5,4,3,1,0] (zipE [2] [v_7]) s_1 (by kernel_rfl) (?_)
   refine run_e 0 (by kernel_rfl) ?_
   refine thenE ?_
   refine ⟨⟨_,rfl⟩,?_⟩
   refine inbE ?_
   exact kl1 (l1_2,l1_h0_8) rfl
 ·rintro ⟨l1x_2,l1x_h0_8⟩ rfl
  refine thenN ?_
  let v_13:AV:=.ms 4 0 l1x_h0_8.length
  let w_5:AV:=.agg [v_3,.i a0.now,.i a0.end_,v_4,v_1,.i a0.from_,.i a0.to_,.i a0.times,v_13,.fn 31 [],v_2]
  let b_10:Blk:=.cells 7 (l1x_h0_8.map E_GCLive)
  refine run1z (c33 44) [] [2] [.ms 5 0 l1x_2.length] ⟨[(5,.cells 3 (l1x_2.map E_GVoice)),(4,b_10),(3,b_2),(1,b_1),(0,.cells 11 [w_5])],6⟩ _ (by kernel_rfl) cj0 ?_
  let s_6:St:=⟨[(4,b_10),(3,b_2),(1,b_1),(0,.cells 11 [w_5])],6⟩
  refine run_z 5 3 (l1x_2.map E_GVoice) [2] [.ms 5 0 l1x_2.length] (xs:=[.sl false (l1x_2.map E_GVoice)]) (S2:=s_6) ?_ (by kernel_rfl) (by kernel_rfl) (.k (.m (mLe l1x_2 E_GVoice) (mapAll l1x_2 E_GVoice)) .z) (.k (x':=b_10) rfl (by kernel_rfl) (.r _) (.k (x':=b_2) rfl (by kernel_rfl) (.r _) (.k (x':=b_1) rfl (by kernel_rfl) (.r _) (.k (x':=.cells 11 [w_5]) rfl (by kernel_rfl) (.r _) .z)))) rfl rfl
  refine run_t (by kernel_rfl) ?_
  replace h:=Option.some.inj h; subst h
  exact fin_p [4,3,1,0] s_6 (by kernel_rfl) (by kernel_rfl) rfl ⟨rfl,rfl⟩
def f34 (a0:GCPlayer) (a1:Int):Option Int:=some (wr (a0.clock.ticks + a1))
theorem f34_ok (a0:GCPlayer) (a1:Int) (r:Int) (h:f34 a0 a1 = some r):ACalls Try.prog 34 [.mp 0 0 0,.i a1] ⟨[(3,.cells 5 (a0.takes.map E_GTake)),(2,.cells 7 (a0.sounding.l.map E_GCLive)),(1,.cells 3 (a0.desks.map E_GCDesk)),(0,.cells 11 [.agg [.i a0.clock.ticks,.i a0.now,.i a0.end_,.bool a0.waiting,.ms 1 0 a0.desks.length,.i a0.from_,.i a0.to_,.i a0.times,.ms 2 0 a0.sounding.l.length,.fn 31 [],.ms 3 0 a0.takes.length]])],4⟩ (fun y t=>y = .tup [] ∧ t = ⟨[(3,.cells 5 (a0.takes.map E_GTake)),(2,.cells 7 (a0.sounding.l.map E_GCLive)),(1,.cells 3 (a0.desks.map E_GCDesk)),(0,.cells 11 [.agg [.i r,.i a0.now,.i a0.end_,.bool a0.waiting,.ms 1 0 a0.desks.length,.i a0.from_,.i a0.to_,.i a0.times,.ms 2 0 a0.sounding.l.length,.fn 31 [],.ms 3 0 a0.takes.length]])],4⟩):=by
 refine run_f 12 [] (c34 0) (zipE [0,1] [.mp 0 0 0,.i a1]) (by kernel_rfl) (by kernel_rfl) (by kernel_rfl) rfl ?_
 unfold f34 at h
 let v_0:AV:=.i (wr (a0.clock.ticks + a1))
 let v_1:AV:=.ms 2 0 a0.sounding.l.length
 let w_0:AV:=.agg [v_0,.i a0.now,.i a0.end_,.bool a0.waiting,.ms 1 0 a0.desks.length,.i a0.from_,.i a0.to_,.i a0.times,v_1,.fn 31 [],.ms 3 0 a0.takes.length]
 let b_0:Blk:=.cells 7 (a0.sounding.l.map E_GCLive)
 let b_1:Blk:=.cells 3 (a0.desks.map E_GCDesk)
 let b_2:Blk:=.cells 5 (a0.takes.map E_GTake)
 let s_0:St:=⟨[(3,b_2),(2,b_0),(1,b_1),(0,.cells 11 [w_0])],4⟩
 refine run0z [] [] [] s_0 _ (by kernel_rfl) cj0 ?_
 replace h:=Option.some.inj h; subst h
 exact fin_q [3,2,1,0] s_0 (by kernel_rfl) (by kernel_rfl) rfl ⟨rfl,rfl⟩
def f36 (a0:GCLive):Option Bool:=some true
theorem f36_ok (a0:GCLive) (r:Bool) (h:f36 a0 = some r):APure Try.prog 36 [E_GCLive a0] (.bool r):=by
 refine apure (clK (cl_GCLive a0) clZ) rfl ?_
 refine run_f 3 [.tmp 2] (c36 0) (zipE [0] [E_GCLive a0]) (by kernel_rfl) (by kernel_rfl) (by kernel_rfl) rfl ?_
 unfold f36 at h
 refine run1z (c36 2) [] [] [] ⟨[],1⟩ _ (by kernel_rfl) cj0 ?_
 refine run1z (c36 4) [] [2] [.bool true] ⟨[],1⟩ _ (by kernel_rfl) cj0 ?_
 refine run_t (by kernel_rfl) ?_
 replace h:=Option.some.inj h; subst h
 exact fin_r (by kernel_rfl) rfl
def f58 (a0:GCPlayer):Option (List GCLive × List GCLive):=(loopN (σ:=(List GCLive × List GCLive × Int)) (τ:=(List GCLive × List GCLive)) (fun ((l1_4,l1_5,l1_13):(List GCLive × List GCLive × Int))=>bif (decide (l1_13 < (a0.sounding.l.length:Int))) then ((((ix a0.sounding.l l1_13).bind fun y2=>(f36 y2).bind fun r3=>bif r3 then (need (l1_4.length + 1 ≤ maxElems) <| some ((l1_4 ++ [y2]),l1_5)) else (need (l1_5.length + 1 ≤ maxElems) <| some (l1_4,(l1_5 ++ [y2])))):Option (List GCLive × List GCLive)).bind fun ((j2_4,j2_5):(List GCLive × List GCLive))=>some (.inl (j2_4,j2_5,(wr (l1_13 + 1))))) else (some (.inr (l1_4,l1_5)))) FUEL (([]:List GCLive),([]:List GCLive),0)).bind fun ((l1x_4,l1x_5):(List GCLive × List GCLive))=>some (l1x_4,l1x_5)
theorem f58_ok (a0:GCPlayer) (r:(List GCLive × List GCLive)) (h:f58 a0 = some r):ACalls Try.prog 58 [.mp 0 0 8,.fn 36 []] ⟨[(3,.cells 5 (a0.takes.map E_GTake)),(2,.cells 7 (a0.sounding.l.map E_GCLive)),(1,.cells 3 (a0.desks.map E_GCDesk)),(0,.cells 11 [.agg [.i a0.clock.ticks,.i a0.now,.i a0.end_,.bool a0.waiting,.ms 1 0 a0.desks.length,.i a0.from_,.i a0.to_,.i a0.times,.ms 2 0 a0.sounding.l.length,.fn 31 [],.ms 3 0 a0.takes.length]])],4⟩ (fun y t=>y = .sl false (r.1.map E_GCLive) ∧ t = ⟨[(5,.cells 7 (r.2.map E_GCLive)),(3,.cells 5 (a0.takes.map E_GTake)),(1,.cells 3 (a0.desks.map E_GCDesk)),(0,.cells 11 [.agg [.i a0.clock.ticks,.i a0.now,.i a0.end_,.bool a0.waiting,.ms 1 0 a0.desks.length,.i a0.from_,.i a0.to_,.i a0.times,.ms 5 0 r.2.length,.fn 31 [],.ms 3 0 a0.takes.length]])],6⟩):=by
 refine run_f 34 [.tmp 4] (c58 0) (zipE [0,1] [.mp 0 0 8,.fn 36 []]) (by kernel_rfl) (by kernel_rfl) (by kernel_rfl) rfl ?_
 unfold f58 at h
 let v_0:AV:=.ms 2 0 a0.sounding.l.length
 let v_1:AV:=.ms 1 0 a0.desks.length
 let v_2:AV:=.ms 3 0 a0.takes.length
 let v_3:AV:=.i a0.clock.ticks
 let v_4:AV:=.bool a0.waiting
 let w_0:AV:=.agg [v_3,.i a0.now,.i a0.end_,v_4,v_1,.i a0.from_,.i a0.to_,.i a0.times,v_0,.fn 31 [],v_2]
 let b_0:Blk:=.cells 7 (a0.sounding.l.map E_GCLive)
 let b_1:Blk:=.cells 3 (a0.desks.map E_GCDesk)
 let b_2:Blk:=.cells 5 (a0.takes.map E_GTake)
 let s_0:St:=⟨[(3,b_2),(2,b_0),(1,b_1),(0,.cells 11 [w_0])],4⟩
 refine run1z (c58 2) [] [0,1,4] [.mp 0 0 8,.fn 36 [],.sl true []] s_0 _ (by kernel_rfl) cj0 ?_
 refine run1z (c58 4) [] [0,1,4,5] [.mp 0 0 8,.fn 36 [],.sl true [],.sl true []] s_0 _ (by kernel_rfl) cj0 ?_
 refine run_s (c58 5) (c58 25) (by kernel_rfl) ?_
 let v_5:AV:=.i (a0.sounding.l.length:Int)
 refine run1z (c58 7) [] [0,1,4,5,11,12,13] [.mp 0 0 8,.fn 36 [],.sl true [],.sl true [],v_0,v_5,.i 0] s_0 _ (by kernel_rfl) cj0 ?_
 obtain ⟨ol1x,hll1x,h⟩:=bindE h
 refine run_tq (fun ((l1x_4,l1x_5):(List GCLive × List GCLive))=>(zipE [0,4,5] [.mp 0 0 8,.ms 4 0 l1x_4.length,.ms 5 0 l1x_5.length])) (fun ((l1x_4,l1x_5):(List GCLive × List GCLive))=>⟨[(5,.cells 7 (l1x_5.map E_GCLive)),(4,.cells 7 (l1x_4.map E_GCLive)),(3,b_2),(2,b_0),(1,b_1),(0,.cells 11 [w_0])],6⟩) (fun j=>ol1x = j) (fun kl1=>?_) ?_
 ·refine run_b 0 (c58 8) (by kernel_rfl) ?_
  refine run_l (c58 9) _ hll1x (fun ((l1_4,l1_5,l1_13):(List GCLive × List GCLive × Int))=>(zipE [0,1,4,5,11,12,13] [.mp 0 0 8,.fn 36 [],.ms 4 0 l1_4.length,.ms 5 0 l1_5.length,v_0,v_5,.i l1_13])) (fun ((l1_4,l1_5,l1_13):(List GCLive × List GCLive × Int))=>⟨[(5,.cells 7 (l1_5.map E_GCLive)),(4,.cells 7 (l1_4.map E_GCLive)),(3,b_2),(2,b_0),(1,b_1),(0,.cells 11 [w_0])],6⟩) [(4,1000000),(5,1000001)] (by intro i e; cases e <;> exact Nat.le_of_ble_eq_true rfl) (by kernel_rfl) (mkInto (ks:=[0,1,4,5,11,12,13]) (ys:=[.mp 0 0 8,.fn 36 [],.sl true [],.sl true [],v_0,v_5,.i 0]) (by kernel_rfl) (by kernel_rfl) (.k (.mp rfl rfl) (.k (.c rfl) (.k (.n) (.k (.n) (.k (.ms rfl rfl) (.k (.c rfl) (.k (.c rfl) .z))))))) (.n rfl rfl rfl (.n rfl rfl rfl (.k rfl (.cells (.r (cleanMap _ _ cl_GTake))) (.k rfl (.cells (.r (cleanMap _ _ cl_GCLive))) (.k rfl (.cells (.r (cleanMap _ _ cl_GCDesk))) (.k rfl (.cells (.k (.a (.k (.c rfl) (.k (.c rfl) (.k (.c rfl) (.k (.c rfl) (.k (.ms rfl rfl) (.k (.c rfl) (.k (.c rfl) (.k (.c rfl) (.k (.ms rfl rfl) (.k (.c rfl) (.k (.ms rfl rfl) .z)))))))))))) .z)) .z))))))) ?_
  rintro ⟨l1_4,l1_5,l1_13⟩ out hl1 rl1
  let v_6:AV:=.ms 4 0 l1_4.length
  let v_7:AV:=.ms 5 0 l1_5.length
  let b_3:Blk:=.cells 7 (l1_5.map E_GCLive)
  let b_4:Blk:=.cells 7 (l1_4.map E_GCLive)
  let s_1:St:=⟨[(5,b_3),(4,b_4),(3,b_2),(2,b_0),(1,b_1),(0,.cells 11 [w_0])],6⟩
  refine run1z (c58 11) [] [0,1,4,5,11,12,13,14] [.mp 0 0 8,.fn 36 [],v_6,v_7,v_0,v_5,.i l1_13,.bool (decide (l1_13 < (a0.sounding.l.length:Int)))] s_1 _ (by kernel_rfl) cj0 ?_
  refine run_s (c58 12) (c58 15) (by kernel_rfl) ?_
  rcases iteE hl1 with ⟨hc1,hl1⟩ | ⟨hc1,hl1⟩
  ·refine run_cT 14 (c58 13) (c58 14) (decide (l1_13 < (a0.sounding.l.length:Int))) hc1 (by kernel_rfl) (by kernel_rfl) ?_
   refine run_k (by kernel_rfl) ?_
   refine thenN ?_
   obtain ⟨oj2,hj2,hl1⟩:=bindE hl1
   refine run_jq (c58 16) (c58 24) (fun ((j2_4,j2_5):(List GCLive × List GCLive))=>(zipE [0,1,4,5,11,12,13] [.mp 0 0 8,.fn 36 [],.ms 8 0 j2_4.length,.ms 9 0 j2_5.length,v_0,v_5,.i l1_13])) (fun ((j2_4,j2_5):(List GCLive × List GCLive))=>⟨[(9,.cells 7 (j2_5.map E_GCLive)),(8,.cells 7 (j2_4.map E_GCLive)),(3,b_2),(2,b_0),(1,b_1),(0,.cells 11 [w_0])],10⟩) (fun j=>oj2 = j) (by kernel_rfl) (fun kj2=>?_) ?_
   ·refine run_b 1 (c58 17) (by kernel_rfl) ?_
    obtain ⟨y2,hy2,hj2⟩:=bindE hj2
    let b_5:Blk:=.cells 7 [E_GCLive y2]
    let s_2:St:=⟨[(6,b_5),(5,b_3),(4,b_4),(3,b_2),(2,b_0),(1,b_1),(0,.cells 11 [w_0])],7⟩
    refine run1z (c58 19) [{ k:=1,n:=l1_13.toNat },{ k:=1,x:=E_GCLive y2 }] [0,1,4,5,7,11,12,13] [.mp 0 0 8,.fn 36 [],v_6,v_7,.mp 6 0 0,v_0,v_5,.i l1_13] s_2 _ (by kernel_rfl) (cjC ((ixE hy2).1) (cjC (ixLt hy2) (cjC (Nat.zero_add l1_13.toNat) (cj1 (mapGet E_GCLive (ixE hy2).2))))) ?_
    obtain ⟨r3,hr3,hj2⟩:=bindE hj2
    refine run1z (c58 21) [{},{},{ c:=some (.bool r3,s_2) }] [0,1,4,5,7,11,12,13,19] [.mp 0 0 8,.fn 36 [],v_6,v_7,.mp 6 0 0,v_0,v_5,.i l1_13,.bool r3] s_2 _ (by kernel_rfl) (cj1 (f36_ok y2 _ hr3 s_2)) ?_
    rcases iteE hj2 with ⟨hc4,hj2⟩ | ⟨hc4,hj2⟩
    ·refine run_cT 19 (c58 22) (c58 23) r3 hc4 (by kernel_rfl) (by kernel_rfl) ?_
     obtain ⟨hn5,hj2⟩:=needE hj2
     refine run0z [{},{},{},{ k:=1,n:=(l1_4 ++ [y2]).length,l:=(l1_4 ++ [y2]).map E_GCLive }] [0,1,4,5,11,12,13] [.mp 0 0 8,.fn 36 [],.ms 7 0 (l1_4 ++ [y2]).length,v_7,v_0,v_5,.i l1_13] ⟨[(7,.cells 7 ((l1_4 ++ [y2]).map E_GCLive)),(5,b_3),(3,b_2),(2,b_0),(1,b_1),(0,.cells 11 [w_0])],8⟩ _ (by kernel_rfl) (cjC (@List.cons_ne_nil AV (E_GCLive y2) []) (cjC (mLe l1_4 E_GCLive) (cjC (hn5) (cjC (lenA l1_4 ([y2]:List GCLive)) (cjC (appA l1_4 ([y2]:List GCLive) E_GCLive) (cj1 (fitsOne (P:=Try.prog) (t:=80) (x:=E_GCLive y2) (r:=[]) (by kernel_rfl)))))))) ?_
     replace hj2:=Option.some.inj hj2; subst hj2
     refine inbN ?_
     refine thenN ?_
     exact run_i 8 [(8,7),(9,5)] [0,1,4,5,11,12,13] [.mp 0 0 8,.fn 36 [],.ms 7 0 (l1_4 ++ [y2]).length,v_7,v_0,v_5,.i l1_13] (kj2 ((l1_4 ++ [y2]),l1_5) rfl) (by intro i e; cases e <;> exact Nat.le_of_ble_eq_true rfl) (by kernel_rfl) (by kernel_rfl) (by kernel_rfl) (.k (.mp rfl rfl) (.k (.c rfl) (.k (.ms rfl rfl) (.k (.ms rfl rfl) (.k (.ms rfl rfl) (.k (.c rfl) (.k (.c rfl) .z))))))) (.k rfl (.cells (.r (cleanMap _ _ cl_GCLive))) (.k rfl (.cells (.r (cleanMap _ _ cl_GCLive))) (.k rfl (.cells (.r (cleanMap _ _ cl_GTake))) (.k rfl (.cells (.r (cleanMap _ _ cl_GCLive))) (.k rfl (.cells (.r (cleanMap _ _ cl_GCDesk))) (.k rfl (.cells (.k (.a (.k (.c rfl) (.k (.c rfl) (.k (.c rfl) (.k (.c rfl) (.k (.ms rfl rfl) (.k (.c rfl) (.k (.c rfl) (.k (.c rfl) (.k (.ms rfl rfl) (.k (.c rfl) (.k (.ms rfl rfl) .z)))))))))))) .z)) .z))))))
    ·refine run_cF 19 (c58 22) (c58 23) r3 hc4 (by kernel_rfl) (by kernel_rfl) ?_
     obtain ⟨hn6,hj2⟩:=needE hj2
     refine run0z [{},{},{},{ k:=1,n:=(l1_5 ++ [y2]).length,l:=(l1_5 ++ [y2]).map E_GCLive }] [0,1,4,5,11,12,13] [.mp 0 0 8,.fn 36 [],v_6,.ms 7 0 (l1_5 ++ [y2]).length,v_0,v_5,.i l1_13] ⟨[(7,.cells 7 ((l1_5 ++ [y2]).map E_GCLive)),(4,b_4),(3,b_2),(2,b_0),(1,b_1),(0,.cells 11 [w_0])],8⟩ _ (by kernel_rfl) (cjC (@List.cons_ne_nil AV (E_GCLive y2) []) (cjC (mLe l1_5 E_GCLive) (cjC (hn6) (cjC (lenA l1_5 ([y2]:List GCLive)) (cjC (appA l1_5 ([y2]:List GCLive) E_GCLive) (cj1 (fitsOne (P:=Try.prog) (t:=80) (x:=E_GCLive y2) (r:=[]) (by kernel_rfl)))))))) ?_
     replace hj2:=Option.some.inj hj2; subst hj2
     refine inbN ?_
     refine thenN ?_
     exact run_i 8 [(8,4),(9,7)] [0,1,4,5,11,12,13] [.mp 0 0 8,.fn 36 [],v_6,.ms 7 0 (l1_5 ++ [y2]).length,v_0,v_5,.i l1_13] (kj2 (l1_4,(l1_5 ++ [y2])) rfl) (by intro i e; cases e <;> exact Nat.le_of_ble_eq_true rfl) (by kernel_rfl) (by kernel_rfl) (by kernel_rfl) (.k (.mp rfl rfl) (.k (.c rfl) (.k (.ms rfl rfl) (.k (.ms rfl rfl) (.k (.ms rfl rfl) (.k (.c rfl) (.k (.c rfl) .z))))))) (.k rfl (.cells (.r (cleanMap _ _ cl_GCLive))) (.k rfl (.cells (.r (cleanMap _ _ cl_GCLive))) (.k rfl (.cells (.r (cleanMap _ _ cl_GTake))) (.k rfl (.cells (.r (cleanMap _ _ cl_GCLive))) (.k rfl (.cells (.r (cleanMap _ _ cl_GCDesk))) (.k rfl (.cells (.k (.a (.k (.c rfl) (.k (.c rfl) (.k (.c rfl) (.k (.c rfl) (.k (.ms rfl rfl) (.k (.c rfl) (.k (.c rfl) (.k (.c rfl) (.k (.ms rfl rfl) (.k (.c rfl) (.k (.ms rfl rfl) .z)))))))))))) .z)) .z))))))
   ·rintro ⟨j2_4,j2_5⟩ rfl
    refine run0z [] [0,1,4,5,11,12,13] [.mp 0 0 8,.fn 36 [],.ms 8 0 j2_4.length,.ms 9 0 j2_5.length,v_0,v_5,.i (wr (l1_13 + 1))] ⟨[(9,.cells 7 (j2_5.map E_GCLive)),(8,.cells 7 (j2_4.map E_GCLive)),(3,b_2),(2,b_0),(1,b_1),(0,.cells 11 [w_0])],10⟩ _ (by kernel_rfl) cj0 ?_
    replace hl1:=Option.some.inj hl1; subst hl1
    exact ⟨_,rfl,pi [(4,8),(5,9)],mkInto (ks:=[0,1,4,5,11,12,13]) (ys:=[.mp 0 0 8,.fn 36 [],.ms 8 0 j2_4.length,.ms 9 0 j2_5.length,v_0,v_5,.i (wr (l1_13 + 1))]) (by kernel_rfl) (by kernel_rfl) (.k (.mp rfl rfl) (.k (.c rfl) (.k (.ms rfl rfl) (.k (.ms rfl rfl) (.k (.ms rfl rfl) (.k (.c rfl) (.k (.c rfl) .z))))))) (.k rfl (.cells (.r (cleanMap _ _ cl_GCLive))) (.k rfl (.cells (.r (cleanMap _ _ cl_GCLive))) (.k rfl (.cells (.r (cleanMap _ _ cl_GTake))) (.k rfl (.cells (.r (cleanMap _ _ cl_GCLive))) (.k rfl (.cells (.r (cleanMap _ _ cl_GCDesk))) (.k rfl (.cells (.k (.a (.k (.c rfl) (.k (.c rfl) (.k (.c rfl) (.k (.c rfl) (.k (.ms rfl rfl) (.k (.c rfl) (.k (.c rfl) (.k (.c rfl) (.k (.ms rfl rfl) (.k (.c rfl) (.k (.ms rfl rfl) .z)))))))))))) .z)) .z))))))⟩
  ·refine run_cF 14 (c58 13) (c58 14) (decide (l1_13 < (a0.sounding.l.length:Int))) hc1 (by kernel_rfl) (by kernel_rfl) ?_
   replace hl1:=Option.some.inj hl1; subst hl1
   have hr:=rl1 _ rfl
   subst hr
   refine awp_p [0,4,5] [5,4,3,2,1,0] (zipE [0,4,5] [.mp 0 0 8,v_6,v_7]) s_1 (by kernel_rfl) (?_)
   refine run_e 0 (by kernel_rfl) ?_
   refine thenE ?_
   refine ⟨⟨_,rfl⟩,?_⟩
   refine inbE ?_
   exact kl1 (l1_4,l1_5) rfl
 ·rintro ⟨l1x_4,l1x_5⟩ rfl
  refine thenN ?_
  let v_8:AV:=.ms 4 0 l1x_4.length
  let v_9:AV:=.ms 5 0 l1x_5.length
  let w_1:AV:=.agg [v_3,.i a0.now,.i a0.end_,v_4,v_1,.i a0.from_,.i a0.to_,.i a0.times,v_9,.fn 31 [],v_2]
  let b_6:Blk:=.cells 7 (l1x_5.map E_GCLive)
  let b_7:Blk:=.cells 7 (l1x_4.map E_GCLive)
  let s_3:St:=⟨[(5,b_6),(4,b_7),(3,b_2),(1,b_1),(0,.cells 11 [w_1])],6⟩
  refine run1z (c58 27) [] [4] [v_8] s_3 _ (by kernel_rfl) cj0 ?_
  refine run1z (c58 29) [] [4] [v_8] s_3 _ (by kernel_rfl) cj0 ?_
  let s_4:St:=⟨[(5,b_6),(3,b_2),(1,b_1),(0,.cells 11 [w_1])],6⟩
  refine run_z 4 7 (l1x_4.map E_GCLive) [4] [v_8] (xs:=[.sl false (l1x_4.map E_GCLive)]) (S2:=s_4) ?_ (by kernel_rfl) (by kernel_rfl) (.k (.m (mLe l1x_4 E_GCLive) (mapAll l1x_4 E_GCLive)) .z) (.k (x':=b_6) rfl (by kernel_rfl) (.r _) (.k (x':=b_2) rfl (by kernel_rfl) (.r _) (.k (x':=b_1) rfl (by kernel_rfl) (.r _) (.k (x':=.cells 11 [w_1]) rfl (by kernel_rfl) (.r _) .z)))) rfl rfl
  refine run_t (by kernel_rfl) ?_
  replace h:=Option.some.inj h; subst h
  exact fin_p [5,3,1,0] s_4 (by kernel_rfl) (by kernel_rfl) rfl ⟨rfl,rfl⟩
def f42 (a0:List GCLive):Option ((List GVoice)):=(loopN (σ:=(List GVoice × Int)) (τ:=(List GVoice)) (fun ((l1_2,l1_7):(List GVoice × Int))=>bif (decide (l1_7 < (a0.length:Int))) then ((ix a0 l1_7).bind fun y2=>(f57 y2).bind fun r3=>need (l1_2.length + 1 ≤ maxElems) <| some (.inl ((l1_2 ++ [r3]),(wr (l1_7 + 1))))) else (some (.inr l1_2))) FUEL (([]:List GVoice),0)).bind fun (l1x_2:(List GVoice))=>some l1x_2
theorem f42_ok (a0:List GCLive) (r:((List GVoice))) (h:f42 a0 = some r):APure Try.prog 42 [.sl false (a0.map E_GCLive)] (.sl false (r.map E_GVoice)):=by
 refine apure (clK (cleanMap a0 _ cl_GCLive) clZ) (cleanMap r _ cl_GVoice) ?_
 let v_0:AV:=.sl false (a0.map E_GCLive)
 refine run_f 18 [.tmp 2] (c42 0) (zipE [0] [v_0]) (by kernel_rfl) (by kernel_rfl) (by kernel_rfl) rfl ?_
 unfold f42 at h
 refine run1z (c42 2) [] [0,2] [v_0,.sl true []] ⟨[],0⟩ _ (by kernel_rfl) cj0 ?_
 refine run_s (c42 3) (c42 19) (by kernel_rfl) ?_
 let v_1:AV:=.i (a0.length:Int)
 refine run1z (c42 5) [{},{ k:=1,n:=a0.length }] [2,5,6,7] [.sl true [],v_0,v_1,.i 0] ⟨[],0⟩ _ (by kernel_rfl) (cj1 (mapLen a0 E_GCLive)) ?_
 obtain ⟨l1x_2,hll1x,h⟩:=bindE h
 refine run_tq (fun (l1x_2:(List GVoice))=>(zipE [2] [.ms 0 0 l1x_2.length])) (fun (l1x_2:(List GVoice))=>⟨[(0,.cells 3 (l1x_2.map E_GVoice))],1⟩) (fun j=>l1x_2 = j) (fun kl1=>?_) ?_
 ·refine run_b 0 (c42 6) (by kernel_rfl) ?_
  refine run_l (c42 7) _ hll1x (fun ((l1_2,l1_7):(List GVoice × Int))=>(zipE [2,5,6,7] [.ms 0 0 l1_2.length,v_0,v_1,.i l1_7])) (fun ((l1_2,l1_7):(List GVoice × Int))=>⟨[(0,.cells 3 (l1_2.map E_GVoice))],1⟩) [(0,1000000)] (by intro i e; cases e <;> exact Nat.le_of_ble_eq_true rfl) (by kernel_rfl) (mkInto (ks:=[2,5,6,7]) (ys:=[.sl true [],v_0,v_1,.i 0]) (by kernel_rfl) (by kernel_rfl) (.k (.n) (.k (.c (cleanMap _ _ cl_GCLive)) (.k (.c rfl) (.k (.c rfl) .z)))) (.n rfl rfl rfl .z)) ?_
  rintro ⟨l1_2,l1_7⟩ out hl1 rl1
  let v_2:AV:=.ms 0 0 l1_2.length
  let b_0:Blk:=.cells 3 (l1_2.map E_GVoice)
  refine run1z (c42 9) [] [2,5,6,7,8] [v_2,v_0,v_1,.i l1_7,.bool (decide (l1_7 < (a0.length:Int)))] ⟨[(0,b_0)],1⟩ _ (by kernel_rfl) cj0 ?_
  refine run_s (c42 10) (c42 13) (by kernel_rfl) ?_
  rcases iteE hl1 with ⟨hc1,hl1⟩ | ⟨hc1,hl1⟩
  ·refine run_cT 8 (c42 11) (c42 12) (decide (l1_7 < (a0.length:Int))) hc1 (by kernel_rfl) (by kernel_rfl) ?_
   refine run_k (by kernel_rfl) ?_
   refine thenN ?_
   refine run_s (c42 14) (c42 18) (by kernel_rfl) ?_
   refine run_b 1 (c42 15) (by kernel_rfl) ?_
   obtain ⟨y2,hy2,hl1⟩:=bindE hl1
   let b_1:Blk:=.cells 7 [E_GCLive y2]
   let s_0:St:=⟨[(1,b_1),(0,b_0)],2⟩
   refine run1z (c42 17) [{ k:=1,x:=E_GCLive y2 }] [2,4,5,6,7] [v_2,.mp 1 0 0,v_0,v_1,.i l1_7] s_0 _ (by kernel_rfl) (cjC ((ixE hy2).1) (cj1 (mapGet E_GCLive (ixE hy2).2))) ?_
   obtain ⟨r3,hr3,hl1⟩:=bindE hl1
   obtain ⟨hn4,hl1⟩:=needE hl1
   let b_2:Blk:=.cells 3 ((l1_2 ++ [r3]).map E_GVoice)
   refine run0z [{},{},{ c:=some (E_GVoice r3,s_0) },{},{ k:=1,n:=(l1_2 ++ [r3]).length,l:=(l1_2 ++ [r3]).map E_GVoice }] [2,5,6,7] [.ms 2 0 (l1_2 ++ [r3]).length,v_0,v_1,.i l1_7] ⟨[(2,b_2)],3⟩ _ (by kernel_rfl) (cjC (f57_ok y2 _ hr3 s_0) (cjC (@List.cons_ne_nil AV (E_GVoice r3) []) (cjC (mLe l1_2 E_GVoice) (cjC (hn4) (cjC (lenA l1_2 ([r3]:List GVoice)) (cjC (appA l1_2 ([r3]:List GVoice) E_GVoice) (cj1 (fitsOne (P:=Try.prog) (t:=59) (x:=E_GVoice r3) (r:=[]) (by kernel_rfl))))))))) ?_
   refine inbN ?_
   refine thenN ?_
   refine run0z [] [2,5,6,7] [.ms 2 0 (l1_2 ++ [r3]).length,v_0,v_1,.i (wr (l1_7 + 1))] ⟨[(2,b_2)],3⟩ _ (by kernel_rfl) cj0 ?_
   replace hl1:=Option.some.inj hl1; subst hl1
   exact ⟨_,rfl,pi [(0,2)],mkInto (ks:=[2,5,6,7]) (ys:=[.ms 2 0 (l1_2 ++ [r3]).length,v_0,v_1,.i (wr (l1_7 + 1))]) (by kernel_rfl) (by kernel_rfl) (.k (.ms rfl rfl) (.k (.c (cleanMap _ _ cl_GCLive)) (.k (.c rfl) (.k (.c rfl) .z)))) (.k rfl (.cells (.r (cleanMap _ _ cl_GVoice))) .z)⟩
  ·refine run_cF 8 (c42 11) (c42 12) (decide (l1_7 < (a0.length:Int))) hc1 (by kernel_rfl) (by kernel_rfl) ?_
   replace hl1:=Option.some.inj hl1; subst hl1
   have hr:=rl1 _ rfl
   subst hr
   refine awp_p [2] [0] (zipE [2] [v_2]) ⟨[(0,b_0)],1⟩ (by kernel_rfl) (?_)
   refine run_e 0 (by kernel_rfl) ?_
   refine thenE ?_
   refine ⟨⟨_,rfl⟩,?_⟩
   refine inbE ?_
   exact kl1 l1_2 rfl
 ·rintro _ rfl
  refine thenN ?_
  refine run1z (c42 21) [] [2] [.ms 0 0 l1x_2.length] ⟨[(0,.cells 3 (l1x_2.map E_GVoice))],1⟩ _ (by kernel_rfl) cj0 ?_
  refine run_z 0 3 (l1x_2.map E_GVoice) [2] [.ms 0 0 l1x_2.length] (xs:=[.sl false (l1x_2.map E_GVoice)]) (S2:=⟨[],1⟩) ?_ (by kernel_rfl) (by kernel_rfl) (.k (.m (mLe l1x_2 E_GVoice) (mapAll l1x_2 E_GVoice)) .z) .z rfl rfl
  refine run_t (by kernel_rfl) ?_
  replace h:=Option.some.inj h; subst h
  exact fin_r (by kernel_rfl) rfl
def f35 (a0:GCPlayer):Option (List GVoice × List GCLive × List GTake):=(f58 a0).bind fun r1=>(loopN (σ:=(List GTake × Int)) (τ:=(List GTake)) (fun ((l1_h0_10,l1_15):(List GTake × Int))=>bif (decide (l1_15 < (r1.1.length:Int))) then ((ix r1.1 l1_15).bind fun y3=>need (l1_h0_10.length + 1 ≤ maxElems) <| some (.inl ((l1_h0_10 ++ [(⟨y3.desk,y3.note.course,y3.note.pitch,y3.began,a0.clock.ticks⟩:GTake)]),(wr (l1_15 + 1))))) else (some (.inr l1_h0_10))) FUEL (a0.takes,0)).bind fun (l1x_h0_10:(List GTake))=>(f42 r1.1).bind fun r5=>some (r5,r1.2,l1x_h0_10)
theorem f35_ok (a0:GCPlayer) (r:(List GVoice × List GCLive × List GTake)) (h:f35 a0 = some r):ACalls Try.prog 35 [.mp 0 0 0,.fn 36 []] ⟨[(3,.cells 5 (a0.takes.map E_GTake)),(2,.cells 7 (a0.sounding.l.map E_GCLive)),(1,.cells 3 (a0.desks.map E_GCDesk)),(0,.cells 11 [.agg [.i a0.clock.ticks,.i a0.now,.i a0.end_,.bool a0.waiting,.ms 1 0 a0.desks.length,.i a0.from_,.i a0.to_,.i a0.times,.ms 2 0 a0.sounding.l.length,.fn 31 [],.ms 3 0 a0.takes.length]])],4⟩ (fun y t=>y = .sl false (r.1.map E_GVoice) ∧ t = ⟨[(6,.cells 5 (r.2.2.map E_GTake)),(5,.cells 7 (r.2.1.map E_GCLive)),(1,.cells 3 (a0.desks.map E_GCDesk)),(0,.cells 11 [.agg [.i a0.clock.ticks,.i a0.now,.i a0.end_,.bool a0.waiting,.ms 1 0 a0.desks.length,.i a0.from_,.i a0.to_,.i a0.times,.ms 5 0 r.2.1.length,.fn 31 [],.ms 6 0 r.2.2.length]])],7⟩):=by
 refine run_f 47 [.tmp 4] (c35 0) (zipE [0,1] [.mp 0 0 0,.fn 36 []]) (by kernel_rfl) (by kernel_rfl) (by kernel_rfl) rfl ?_
 unfold f35 at h
 let v_0:AV:=.ms 2 0 a0.sounding.l.length
 let v_1:AV:=.ms 1 0 a0.desks.length
 let v_2:AV:=.ms 3 0 a0.takes.length
 let v_3:AV:=.i a0.clock.ticks
 let v_4:AV:=.bool a0.waiting
 let w_0:AV:=.agg [v_3,.i a0.now,.i a0.end_,v_4,v_1,.i a0.from_,.i a0.to_,.i a0.times,v_0,.fn 31 [],v_2]
 let b_0:Blk:=.cells 7 (a0.sounding.l.map E_GCLive)
 let b_1:Blk:=.cells 3 (a0.desks.map E_GCDesk)
 let b_2:Blk:=.cells 5 (a0.takes.map E_GTake)
 let s_0:St:=⟨[(3,b_2),(2,b_0),(1,b_1),(0,.cells 11 [w_0])],4⟩
 refine run1z (c35 2) [] [0,1] [.mp 0 0 0,.fn 36 []] s_0 _ (by kernel_rfl) cj0 ?_
 obtain ⟨r1,hr1,h⟩:=bindE h
 let v_5:AV:=.sl false (r1.1.map E_GCLive)
 let v_6:AV:=.ms 5 0 r1.2.length
 let w_1:AV:=.agg [v_3,.i a0.now,.i a0.end_,v_4,v_1,.i a0.from_,.i a0.to_,.i a0.times,v_6,.fn 31 [],v_2]
 let b_3:Blk:=.cells 7 (r1.2.map E_GCLive)
 let s_1:St:=⟨[(5,b_3),(3,b_2),(1,b_1),(0,.cells 11 [w_1])],6⟩
 refine run1z (c35 4) [{},{},{},{},{ c:=some (v_5,s_1) }] [0,5] [.mp 0 0 0,v_5] s_1 _ (by kernel_rfl) (cj1 (callF (f58_ok a0 _ hr1) [(0,0),(1,1),(2,2),(3,3)] [(5,5),(3,3),(1,1),(0,0)] [] [.mp 0 0 8,.fn 36 []] s_0 (v_5) s_1 (by kernel_rfl) (.k (.mp rfl rfl) (.k (.c rfl) .z)) (.c (cleanMap _ _ cl_GCLive)) (.k rfl (.cells (.r (cleanMap _ _ cl_GTake))) (.k rfl (.cells (.r (cleanMap _ _ cl_GCLive))) (.k rfl (.cells (.r (cleanMap _ _ cl_GCDesk))) (.k rfl (.cells (.k (.a (.k (.c rfl) (.k (.c rfl) (.k (.c rfl) (.k (.c rfl) (.k (.ms rfl rfl) (.k (.c rfl) (.k (.c rfl) (.k (.c rfl) (.k (.ms rfl rfl) (.k (.c rfl) (.k (.ms rfl rfl) .z)))))))))))) .z)) .z)))) (.d (x':=b_3) rfl (by kernel_rfl) (.cells (.r (cleanMap _ _ cl_GCLive))) (.d (x':=b_2) rfl (by kernel_rfl) (.cells (.r (cleanMap _ _ cl_GTake))) (.d (x':=b_1) rfl (by kernel_rfl) (.cells (.r (cleanMap _ _ cl_GCDesk))) (.d (x':=.cells 11 [w_1]) rfl (by kernel_rfl) (.cells (.k (.a (.k (.c rfl) (.k (.c rfl) (.k (.c rfl) (.k (.c rfl) (.k (.ms rfl rfl) (.k (.c rfl) (.k (.c rfl) (.k (.c rfl) (.k (.ms rfl rfl) (.k (.c rfl) (.k (.ms rfl rfl) .z)))))))))))) .z)) .z)))))) ?_
 refine run_s (c35 5) (c35 21) (by kernel_rfl) ?_
 let v_7:AV:=.i (r1.1.length:Int)
 refine run1z (c35 7) [{},{ k:=1,n:=r1.1.length }] [0,5,13,14,15] [.mp 0 0 0,v_5,v_5,v_7,.i 0] s_1 _ (by kernel_rfl) (cj1 (mapLen r1.1 E_GCLive)) ?_
 obtain ⟨l1x_h0_10,hll1x,h⟩:=bindE h
 refine run_tq (fun (l1x_h0_10:(List GTake))=>(zipE [5] [v_5])) (fun (l1x_h0_10:(List GTake))=>⟨[(6,.cells 5 (l1x_h0_10.map E_GTake)),(5,b_3),(1,b_1),(0,.cells 11 [.agg [v_3,.i a0.now,.i a0.end_,v_4,v_1,.i a0.from_,.i a0.to_,.i a0.times,v_6,.fn 31 [],.ms 6 0 l1x_h0_10.length]])],7⟩) (fun j=>l1x_h0_10 = j) (fun kl1=>?_) ?_
 ·refine run_b 0 (c35 8) (by kernel_rfl) ?_
  refine run_l (c35 9) _ hll1x (fun ((l1_h0_10,l1_15):(List GTake × Int))=>(zipE [0,5,13,14,15] [.mp 0 0 0,v_5,v_5,v_7,.i l1_15])) (fun ((l1_h0_10,l1_15):(List GTake × Int))=>⟨[(6,.cells 5 (l1_h0_10.map E_GTake)),(5,b_3),(1,b_1),(0,.cells 11 [.agg [v_3,.i a0.now,.i a0.end_,v_4,v_1,.i a0.from_,.i a0.to_,.i a0.times,v_6,.fn 31 [],.ms 6 0 l1_h0_10.length]])],7⟩) [(6,3)] (by intro i e; cases e <;> exact Nat.le_of_ble_eq_true rfl) (by kernel_rfl) (mkInto (ks:=[0,5,13,14,15]) (ys:=[.mp 0 0 0,v_5,v_5,v_7,.i 0]) (by kernel_rfl) (by kernel_rfl) (.k (.mp rfl rfl) (.k (.c (cleanMap _ _ cl_GCLive)) (.k (.c (cleanMap _ _ cl_GCLive)) (.k (.c rfl) (.k (.c rfl) .z))))) (.k rfl (.cells (.r (cleanMap _ _ cl_GTake))) (.k rfl (.cells (.r (cleanMap _ _ cl_GCLive))) (.k rfl (.cells (.r (cleanMap _ _ cl_GCDesk))) (.k rfl (.cells (.k (.a (.k (.c rfl) (.k (.c rfl) (.k (.c rfl) (.k (.c rfl) (.k (.ms rfl rfl) (.k (.c rfl) (.k (.c rfl) (.k (.c rfl) (.k (.ms rfl rfl) (.k (.c rfl) (.k (.ms rfl rfl) .z)))))))))))) .z)) .z))))) ?_
  rintro ⟨l1_h0_10,l1_15⟩ out hl1 rl1
  let v_8:AV:=.ms 6 0 l1_h0_10.length
  let w_2:AV:=.agg [v_3,.i a0.now,.i a0.end_,v_4,v_1,.i a0.from_,.i a0.to_,.i a0.times,v_6,.fn 31 [],v_8]
  let b_4:Blk:=.cells 5 (l1_h0_10.map E_GTake)
  let s_2:St:=⟨[(6,b_4),(5,b_3),(1,b_1),(0,.cells 11 [w_2])],7⟩
  refine run1z (c35 11) [] [0,5,13,14,15,16] [.mp 0 0 0,v_5,v_5,v_7,.i l1_15,.bool (decide (l1_15 < (r1.1.length:Int)))] s_2 _ (by kernel_rfl) cj0 ?_
  refine run_s (c35 12) (c35 15) (by kernel_rfl) ?_
  rcases iteE hl1 with ⟨hc2,hl1⟩ | ⟨hc2,hl1⟩
  ·refine run_cT 16 (c35 13) (c35 14) (decide (l1_15 < (r1.1.length:Int))) hc2 (by kernel_rfl) (by kernel_rfl) ?_
   refine run_k (by kernel_rfl) ?_
   refine thenN ?_
   refine run_s (c35 16) (c35 20) (by kernel_rfl) ?_
   refine run_b 1 (c35 17) (by kernel_rfl) ?_
   obtain ⟨y3,hy3,hl1⟩:=bindE hl1
   refine run1z (c35 19) [{ k:=1,x:=E_GCLive y3 }] [0,5,7,13,14,15] [.mp 0 0 0,v_5,.mp 7 0 0,v_5,v_7,.i l1_15] ⟨[(7,.cells 7 [E_GCLive y3]),(6,b_4),(5,b_3),(1,b_1),(0,.cells 11 [w_2])],8⟩ _ (by kernel_rfl) (cjC ((ixE hy3).1) (cj1 (mapGet E_GCLive (ixE hy3).2))) ?_
   obtain ⟨hn4,hl1⟩:=needE hl1
   let w_3:AV:=.agg [v_3,.i a0.now,.i a0.end_,v_4,v_1,.i a0.from_,.i a0.to_,.i a0.times,v_6,.fn 31 [],.ms 8 0 (l1_h0_10 ++ [(⟨y3.desk,y3.note.course,y3.note.pitch,y3.began,a0.clock.ticks⟩:GTake)]).length]
   let w_4:AV:=.agg [.i y3.desk,.i y3.note.course,.i y3.note.pitch,.i y3.began,v_3]
   let b_5:Blk:=.cells 5 ((l1_h0_10 ++ [(⟨y3.desk,y3.note.course,y3.note.pitch,y3.began,a0.clock.ticks⟩:GTake)]).map E_GTake)
   let s_3:St:=⟨[(8,b_5),(5,b_3),(1,b_1),(0,.cells 11 [w_3])],9⟩
   refine yun0z [[],[],[1],[1,2],[1,2,3],[],[5],[],[7],[7,8],[],[10],[10,11],[],[13],[],[15],[15,16],[15,16,17],[15,16,17,18],[5,6,7,8,9,10,11,12,13,14,15,16,17,18,19],[5,6,7,8,9,10,11,12,13,14,15,16,17,18,19,20],[1,2,3,4,5,6,7,8,9,10,11,12,13,14,15,16,17,18,19,20,21],[0,1,2,3,4,5,6,7,8,9,10,11,12,13,14,15,16,17,18,19,20,21,22],[0,1,2,3,4,5,6,7,8,9,10,11,12,13,14,15,16,17,18,19,20,21,22,23],[0,1,2,3,4,5,6,7,8,9,10,11,12,13,14,15,16,17,18,19,20,21,22,23,24]] [.light 0 false,.light 1 false,.light 2 false,.light 3 false,.light 4 false,.light 5 false,.light 6 false,.light 7 false,.light 8 false,.light 9 false,.light 10 false,.light 11 false,.light 12 false,.light 13 false,.light 14 false,.light 15 false,.light 16 false,.light 17 false,.light 18 false,.light 19 false,.light 20 false,.light 21 false,.heavy 22 [],.light 23 false,.light 24 false,.heavy 25 []] [{},{},{},{},{},{},{},{},{},{},{},{},{},{},{},{},{},{},{},{},{},{},{ k:=1,n:=(l1_h0_10 ++ [(⟨y3.desk,y3.note.course,y3.note.pitch,y3.began,a0.clock.ticks⟩:GTake)]).length,l:=(l1_h0_10 ++ [(⟨y3.desk,y3.note.course,y3.note.pitch,y3.began,a0.clock.ticks⟩:GTake)]).map E_GTake }] [0,5,13,14,15] [.mp 0 0 0,v_5,v_5,v_7,.i l1_15] s_3 _ (by kernel_rfl) (cjC (@List.cons_ne_nil AV (w_4) []) (cjC (mLe l1_h0_10 E_GTake) (cjC (hn4) (cjC (lenA l1_h0_10 ([(⟨y3.desk,y3.note.course,y3.note.pitch,y3.began,a0.clock.ticks⟩:GTake)]:List GTake)) (cjC (appA l1_h0_10 ([(⟨y3.desk,y3.note.course,y3.note.pitch,y3.began,a0.clock.ticks⟩:GTake)]:List GTake) E_GTake) (cj1 (fitsOne (P:=Try.prog) (t:=101) (x:=w_4) (r:=[]) (by kernel_rfl)))))))) ?_
   refine inbN ?_
   refine thenN ?_
   refine run0z [] [0,5,13,14,15] [.mp 0 0 0,v_5,v_5,v_7,.i (wr (l1_15 + 1))] s_3 _ (by kernel_rfl) cj0 ?_
   replace hl1:=Option.some.inj hl1; subst hl1
   exact ⟨_,rfl,pi [(6,8)],mkInto (ks:=[0,5,13,14,15]) (ys:=[.mp 0 0 0,v_5,v_5,v_7,.i (wr (l1_15 + 1))]) (by kernel_rfl) (by kernel_rfl) (.k (.mp rfl rfl) (.k (.c (cleanMap _ _ cl_GCLive)) (.k (.c (cleanMap _ _ cl_GCLive)) (.k (.c rfl) (.k (.c rfl) .z))))) (.k rfl (.cells (.r (cleanMap _ _ cl_GTake))) (.k rfl (.cells (.r (cleanMap _ _ cl_GCLive))) (.k rfl (.cells (.r (cleanMap _ _ cl_GCDesk))) (.k rfl (.cells (.k (.a (.k (.c rfl) (.k (.c rfl) (.k (.c rfl) (.k (.c rfl) (.k (.ms rfl rfl) (.k (.c rfl) (.k (.c rfl) (.k (.c rfl) (.k (.ms rfl rfl) (.k (.c rfl) (.k (.ms rfl rfl) .z)))))))))))) .z)) .z))))⟩
  ·refine run_cF 16 (c35 13) (c35 14) (decide (l1_15 < (r1.1.length:Int))) hc2 (by kernel_rfl) (by kernel_rfl) ?_
   replace hl1:=Option.some.inj hl1; subst hl1
   have hr:=rl1 _ rfl
   subst hr
   refine awp_p [5] [6,5,1,0] (zipE [5] [v_5]) s_2 (by kernel_rfl) (?_)
   refine run_e 0 (by kernel_rfl) ?_
   refine thenE ?_
   refine ⟨⟨_,rfl⟩,?_⟩
   refine inbE ?_
   exact kl1 l1_h0_10 rfl
 ·rintro _ rfl
  refine thenN ?_
  obtain ⟨r5,hr5,h⟩:=bindE h
  let v_9:AV:=.ms 6 0 l1x_h0_10.length
  let w_5:AV:=.agg [v_3,.i a0.now,.i a0.end_,v_4,v_1,.i a0.from_,.i a0.to_,.i a0.times,v_6,.fn 31 [],v_9]
  let b_6:Blk:=.cells 5 (l1x_h0_10.map E_GTake)
  let s_4:St:=⟨[(6,b_6),(5,b_3),(1,b_1),(0,.cells 11 [w_5])],7⟩
  refine run1z (c35 23) [{},{ c:=some (.sl false (r5.map E_GVoice),s_4) }] [4] [.sl false (r5.map E_GVoice)] s_4 _ (by kernel_rfl) (cj1 (f42_ok r1.1 _ hr5 s_4)) ?_
  refine run_t (by kernel_rfl) ?_
  replace h:=Option.some.inj h; subst h
  exact fin_p [6,5,1,0] s_4 (by kernel_rfl) (by kernel_rfl) rfl ⟨rfl,rfl⟩
def f37 (a0:GCPlayer) (a1:Int):Option (List GCDesk):=(loopN (σ:=(List GCDesk × Int)) (τ:=(List GCDesk)) (fun ((l1_h0_4,l1_14):(List GCDesk × Int))=>bif (decide (l1_14 < (a0.desks.length:Int))) then ((ix l1_h0_4 l1_14).bind fun y2=>some (.inl ((l1_h0_4.set l1_14.toNat (⟨y2.notes,y2.silent,a1⟩:GCDesk)),(wr (l1_14 + 1))))) else (some (.inr l1_h0_4))) FUEL (a0.desks,0)).bind fun (l1x_h0_4:(List GCDesk))=>some l1x_h0_4
theorem f37_ok (a0:GCPlayer) (a1:Int) (r:(List GCDesk)) (h:f37 a0 a1 = some r):ACalls Try.prog 37 [.mp 0 0 0,.i a1] ⟨[(3,.cells 5 (a0.takes.map E_GTake)),(2,.cells 7 (a0.sounding.l.map E_GCLive)),(1,.cells 3 (a0.desks.map E_GCDesk)),(0,.cells 11 [.agg [.i a0.clock.ticks,.i a0.now,.i a0.end_,.bool a0.waiting,.ms 1 0 a0.desks.length,.i a0.from_,.i a0.to_,.i a0.times,.ms 2 0 a0.sounding.l.length,.fn 31 [],.ms 3 0 a0.takes.length]])],4⟩ (fun y t=>y = .tup [] ∧ t = ⟨[(3,.cells 5 (a0.takes.map E_GTake)),(2,.cells 7 (a0.sounding.l.map E_GCLive)),(1,.cells 3 (r.map E_GCDesk)),(0,.cells 11 [.agg [.i a0.clock.ticks,.i a1,.i a0.end_,.bool a0.waiting,.ms 1 0 r.length,.i a0.from_,.i a0.to_,.i a0.times,.ms 2 0 a0.sounding.l.length,.fn 31 [],.ms 3 0 a0.takes.length]])],4⟩):=by
 refine run_f 26 [] (c37 0) (zipE [0,1] [.mp 0 0 0,.i a1]) (by kernel_rfl) (by kernel_rfl) (by kernel_rfl) rfl ?_
 unfold f37 at h
 let v_0:AV:=.ms 2 0 a0.sounding.l.length
 let v_1:AV:=.ms 3 0 a0.takes.length
 let v_2:AV:=.i a0.clock.ticks
 let v_3:AV:=.bool a0.waiting
 let w_0:AV:=.agg [v_2,.i a1,.i a0.end_,v_3,.ms 1 0 a0.desks.length,.i a0.from_,.i a0.to_,.i a0.times,v_0,.fn 31 [],v_1]
 let b_0:Blk:=.cells 7 (a0.sounding.l.map E_GCLive)
 let b_1:Blk:=.cells 3 (a0.desks.map E_GCDesk)
 let b_2:Blk:=.cells 5 (a0.takes.map E_GTake)
 let s_0:St:=⟨[(3,b_2),(2,b_0),(1,b_1),(0,.cells 11 [w_0])],4⟩
 refine run1z (c37 2) [] [0,1] [.mp 0 0 0,.i a1] s_0 _ (by kernel_rfl) cj0 ?_
 let v_4:AV:=.i (a0.desks.length:Int)
 refine run1z (c37 4) [] [0,1,13,14] [.mp 0 0 0,.i a1,v_4,.i 0] s_0 _ (by kernel_rfl) cj0 ?_
 obtain ⟨l1x_h0_4,hll1x,h⟩:=bindE h
 refine run_tq (fun (l1x_h0_4:(List GCDesk))=>(zipE [] [])) (fun (l1x_h0_4:(List GCDesk))=>⟨[(3,b_2),(2,b_0),(1,.cells 3 (l1x_h0_4.map E_GCDesk)),(0,.cells 11 [.agg [v_2,.i a1,.i a0.end_,v_3,.ms 1 0 l1x_h0_4.length,.i a0.from_,.i a0.to_,.i a0.times,v_0,.fn 31 [],v_1]])],4⟩) (fun j=>l1x_h0_4 = j) (fun kl1=>?_) ?_
 ·refine run_b 0 (c37 5) (by kernel_rfl) ?_
  refine run_l (c37 6) _ hll1x (fun ((l1_h0_4,l1_14):(List GCDesk × Int))=>(zipE [0,1,13,14] [.mp 0 0 0,.i a1,v_4,.i l1_14])) (fun ((l1_h0_4,l1_14):(List GCDesk × Int))=>⟨[(3,b_2),(2,b_0),(1,.cells 3 (l1_h0_4.map E_GCDesk)),(0,.cells 11 [.agg [v_2,.i a1,.i a0.end_,v_3,.ms 1 0 l1_h0_4.length,.i a0.from_,.i a0.to_,.i a0.times,v_0,.fn 31 [],v_1]])],4⟩) [] (by intro i e; cases e <;> exact Nat.le_of_ble_eq_true rfl) (by kernel_rfl) (mkInto (ks:=[0,1,13,14]) (ys:=[.mp 0 0 0,.i a1,v_4,.i 0]) (by kernel_rfl) (by kernel_rfl) (.k (.mp rfl rfl) (.k (.c rfl) (.k (.c rfl) (.k (.c rfl) .z)))) (.k rfl (.cells (.r (cleanMap _ _ cl_GTake))) (.k rfl (.cells (.r (cleanMap _ _ cl_GCLive))) (.k rfl (.cells (.r (cleanMap _ _ cl_GCDesk))) (.k rfl (.cells (.k (.a (.k (.c rfl) (.k (.c rfl) (.k (.c rfl) (.k (.c rfl) (.k (.ms rfl rfl) (.k (.c rfl) (.k (.c rfl) (.k (.c rfl) (.k (.ms rfl rfl) (.k (.c rfl) (.k (.ms rfl rfl) .z)))))))))))) .z)) .z))))) ?_
  rintro ⟨l1_h0_4,l1_14⟩ out hl1 rl1
  let v_5:AV:=.ms 1 0 l1_h0_4.length
  let w_1:AV:=.agg [v_2,.i a1,.i a0.end_,v_3,v_5,.i a0.from_,.i a0.to_,.i a0.times,v_0,.fn 31 [],v_1]
  let b_3:Blk:=.cells 3 (l1_h0_4.map E_GCDesk)
  let s_1:St:=⟨[(3,b_2),(2,b_0),(1,b_3),(0,.cells 11 [w_1])],4⟩
  refine run1z (c37 8) [] [0,1,13,14,15] [.mp 0 0 0,.i a1,v_4,.i l1_14,.bool (decide (l1_14 < (a0.desks.length:Int)))] s_1 _ (by kernel_rfl) cj0 ?_
  refine run_s (c37 9) (c37 12) (by kernel_rfl) ?_
  rcases iteE hl1 with ⟨hc1,hl1⟩ | ⟨hc1,hl1⟩
  ·refine run_cT 15 (c37 10) (c37 11) (decide (l1_14 < (a0.desks.length:Int))) hc1 (by kernel_rfl) (by kernel_rfl) ?_
   refine run_k (by kernel_rfl) ?_
   refine thenN ?_
   refine run_s (c37 13) (c37 17) (by kernel_rfl) ?_
   refine run_b 1 (c37 14) (by kernel_rfl) ?_
   refine run1z (c37 16) [] [0,1,4,13,14] [.mp 0 0 0,.i a1,.i l1_14,v_4,.i l1_14] s_1 _ (by kernel_rfl) cj0 ?_
   obtain ⟨y2,hy2,hl1⟩:=bindE hl1
   refine awp_post (by intro i e; cases e <;> exact Nat.le_of_ble_eq_true rfl) ?_
   let b_4:Blk:=.cells 3 ((l1_h0_4.set l1_14.toNat (⟨y2.notes,y2.silent,a1⟩:GCDesk)).map E_GCDesk)
   refine run0z [{},{},{},{},{},{},{ k:=1,n:=l1_14.toNat },{},{ k:=1,x:=E_GCDesk y2,l:=(l1_h0_4.set l1_14.toNat (⟨y2.notes,y2.silent,a1⟩:GCDesk)).map E_GCDesk }] [0,1,13,14] [.mp 0 0 0,.i a1,v_4,.i l1_14] ⟨[(3,b_2),(2,b_0),(1,b_4),(0,.cells 11 [w_1])],4⟩ _ (by kernel_rfl) (cjC ((ixE hy2).1) (cjC (ixLt hy2) (cjC (Nat.zero_add l1_14.toNat) (cjC (mapGet E_GCDesk (ixE hy2).2) (cjC ((by decide:(3:Nat) ≤ 3)) (cj1 (mapSet l1_h0_4 E_GCDesk l1_14.toNat (⟨y2.notes,y2.silent,a1⟩:GCDesk)))))))) ?_
   let w_2:AV:=.agg [v_2,.i a1,.i a0.end_,v_3,.ms 1 0 (l1_h0_4.set l1_14.toNat (⟨y2.notes,y2.silent,a1⟩:GCDesk)).length,.i a0.from_,.i a0.to_,.i a0.times,v_0,.fn 31 [],v_1]
   let s_2:St:=⟨[(3,b_2),(2,b_0),(1,b_4),(0,.cells 11 [w_2])],4⟩
   refine ⟨4,pi [],(zipE [0,1,13,14] [.mp 0 0 0,.i a1,v_4,.i l1_14]),s_2,Nat.le_of_ble_eq_true rfl,mkInto (ks:=[0,1,13,14]) (ys:=[.mp 0 0 0,.i a1,v_4,.i l1_14]) (by kernel_rfl) (by kernel_rfl) (.k (.mp rfl rfl) (.k (.c rfl) (.k (.c rfl) (.k (.c rfl) .z)))) (.k rfl (.cells (.r (cleanMap _ _ cl_GTake))) (.k rfl (.cells (.r (cleanMap _ _ cl_GCLive))) (.k rfl (.cells (.r (cleanMap _ _ cl_GCDesk))) (.k rfl (.cells (.k (.a (.k (.c rfl) (.k (.c rfl) (.k (.c rfl) (.k (.c rfl) (.k (.e rfl rfl (by simp)) (.k (.c rfl) (.k (.c rfl) (.k (.c rfl) (.k (.ms rfl rfl) (.k (.c rfl) (.k (.ms rfl rfl) .z)))))))))))) .z)) .z)))),?_⟩
   refine inbN ?_
   refine thenN ?_
   refine run0z [] [0,1,13,14] [.mp 0 0 0,.i a1,v_4,.i (wr (l1_14 + 1))] s_2 _ (by kernel_rfl) cj0 ?_
   replace hl1:=Option.some.inj hl1; subst hl1
   exact ⟨_,rfl,pi [],mkInto (ks:=[0,1,13,14]) (ys:=[.mp 0 0 0,.i a1,v_4,.i (wr (l1_14 + 1))]) (by kernel_rfl) (by kernel_rfl) (.k (.mp rfl rfl) (.k (.c rfl) (.k (.c rfl) (.k (.c rfl) .z)))) (.k rfl (.cells (.r (cleanMap _ _ cl_GTake))) (.k rfl (.cells (.r (cleanMap _ _ cl_GCLive))) (.k rfl (.cells (.r (cleanMap _ _ cl_GCDesk))) (.k rfl (.cells (.k (.a (.k (.c rfl) (.k (.c rfl) (.k (.c rfl) (.k (.c rfl) (.k (.ms rfl rfl) (.k (.c rfl) (.k (.c rfl) (.k (.c rfl) (.k (.ms rfl rfl) (.k (.c rfl) (.k (.ms rfl rfl) .z)))))))))))) .z)) .z))))⟩
  ·refine run_cF 15 (c37 10) (c37 11) (decide (l1_14 < (a0.desks.length:Int))) hc1 (by kernel_rfl) (by kernel_rfl) ?_
   replace hl1:=Option.some.inj hl1; subst hl1
   have hr:=rl1 _ rfl
   subst hr
   refine awp_p [] [3,2,1,0] (zipE [] []) s_1 (by kernel_rfl) (?_)
   refine run_e 0 (by kernel_rfl) ?_
   refine thenE ?_
   refine ⟨⟨_,rfl⟩,?_⟩
   refine inbE ?_
   exact kl1 l1_h0_4 rfl
 ·rintro _ rfl
  replace h:=Option.some.inj h; subst h
  exact fin_q [3,2,1,0] ⟨[(3,b_2),(2,b_0),(1,.cells 3 (l1x_h0_4.map E_GCDesk)),(0,.cells 11 [.agg [v_2,.i a1,.i a0.end_,v_3,.ms 1 0 l1x_h0_4.length,.i a0.from_,.i a0.to_,.i a0.times,v_0,.fn 31 [],v_1]])],4⟩ (by kernel_rfl) (by kernel_rfl) rfl ⟨rfl,rfl⟩
def f38 (a0:GCLive) (a1:Int):Option Bool:=some (decide (a0.note.to_ = a1))
theorem f38_ok (a0:GCLive) (a1:Int) (r:Bool) (h:f38 a0 a1 = some r):ACalls Try.prog 38 [E_GCLive a0,.mp 0 0 0] ⟨[(0,.cells 1 [.i a1])],1⟩ (fun y t=>y = .bool r ∧ t = ⟨[(0,.cells 1 [.i a1])],2⟩):=by
 refine run_f 9 [.tmp 3] (c38 0) (zipE [0,1] [E_GCLive a0,.mp 0 0 0]) (by kernel_rfl) (by kernel_rfl) (by kernel_rfl) rfl ?_
 unfold f38 at h
 let b_0:Blk:=.cells 1 [.i a1]
 refine run1z (c38 2) [] [1,2] [.mp 0 0 0,.mp 1 0 0] ⟨[(1,.cells 7 [E_GCLive a0]),(0,b_0)],2⟩ _ (by kernel_rfl) cj0 ?_
 refine run1z (c38 4) [] [3] [.bool (decide (a0.note.to_ = a1))] ⟨[(0,b_0)],2⟩ _ (by kernel_rfl) cj0 ?_
 refine run_t (by kernel_rfl) ?_
 replace h:=Option.some.inj h; subst h
 exact fin_p [0] ⟨[(0,b_0)],2⟩ (by kernel_rfl) (by kernel_rfl) rfl ⟨rfl,rfl⟩
def f58_1 (a0:GCPlayer) (a1_0:Int):Option (List GCLive × List GCLive):=(loopN (σ:=(List GCLive × List GCLive × Int)) (τ:=(List GCLive × List GCLive)) (fun ((l1_4,l1_5,l1_13):(List GCLive × List GCLive × Int))=>bif (decide (l1_13 < (a0.sounding.l.length:Int))) then ((((ix a0.sounding.l l1_13).bind fun y2=>(f38 y2 a1_0).bind fun r3=>bif r3 then (need (l1_4.length + 1 ≤ maxElems) <| some ((l1_4 ++ [y2]),l1_5)) else (need (l1_5.length + 1 ≤ maxElems) <| some (l1_4,(l1_5 ++ [y2])))):Option (List GCLive × List GCLive)).bind fun ((j2_4,j2_5):(List GCLive × List GCLive))=>some (.inl (j2_4,j2_5,(wr (l1_13 + 1))))) else (some (.inr (l1_4,l1_5)))) FUEL (([]:List GCLive),([]:List GCLive),0)).bind fun ((l1x_4,l1x_5):(List GCLive × List GCLive))=>some (l1x_4,l1x_5)
theorem f58_1_ok (a0:GCPlayer) (a1_0:Int) (r:(List GCLive × List GCLive)) (h:f58_1 a0 a1_0 = some r):ACalls Try.prog 58 [.mp 0 0 8,.fn 38 [.mp 4 0 0]] ⟨[(4,.cells 1 [.i a1_0]),(3,.cells 5 (a0.takes.map E_GTake)),(2,.cells 7 (a0.sounding.l.map E_GCLive)),(1,.cells 3 (a0.desks.map E_GCDesk)),(0,.cells 11 [.agg [.i a0.clock.ticks,.i a0.now,.i a0.end_,.bool a0.waiting,.ms 1 0 a0.desks.length,.i a0.from_,.i a0.to_,.i a0.times,.ms 2 0 a0.sounding.l.length,.fn 31 [],.ms 3 0 a0.takes.length]])],5⟩ (fun y t=>y = .sl false (r.1.map E_GCLive) ∧ t = ⟨[(6,.cells 7 (r.2.map E_GCLive)),(4,.cells 1 [.i a1_0]),(3,.cells 5 (a0.takes.map E_GTake)),(1,.cells 3 (a0.desks.map E_GCDesk)),(0,.cells 11 [.agg [.i a0.clock.ticks,.i a0.now,.i a0.end_,.bool a0.waiting,.ms 1 0 a0.desks.length,.i a0.from_,.i a0.to_,.i a0.times,.ms 6 0 r.2.length,.fn 31 [],.ms 3 0 a0.takes.length]])],7⟩):=by
 let w_0:AV:=.fn 38 [.mp 4 0 0]
 refine run_f 34 [.tmp 4] (c58 0) (zipE [0,1] [.mp 0 0 8,w_0]) (by kernel_rfl) (by kernel_rfl) (by kernel_rfl) rfl ?_
 unfold f58_1 at h
 let v_0:AV:=.ms 2 0 a0.sounding.l.length
 let v_1:AV:=.ms 1 0 a0.desks.length
 let v_2:AV:=.ms 3 0 a0.takes.length
 let v_3:AV:=.i a0.clock.ticks
 let v_4:AV:=.bool a0.waiting
 let w_1:AV:=.agg [v_3,.i a0.now,.i a0.end_,v_4,v_1,.i a0.from_,.i a0.to_,.i a0.times,v_0,.fn 31 [],v_2]
 let b_0:Blk:=.cells 7 (a0.sounding.l.map E_GCLive)
 let b_1:Blk:=.cells 3 (a0.desks.map E_GCDesk)
 let b_2:Blk:=.cells 5 (a0.takes.map E_GTake)
 let b_3:Blk:=.cells 1 [.i a1_0]
 let s_0:St:=⟨[(4,b_3),(3,b_2),(2,b_0),(1,b_1),(0,.cells 11 [w_1])],5⟩
 refine run1z (c58 2) [] [0,1,4] [.mp 0 0 8,w_0,.sl true []] s_0 _ (by kernel_rfl) cj0 ?_
 refine run1z (c58 4) [] [0,1,4,5] [.mp 0 0 8,w_0,.sl true [],.sl true []] s_0 _ (by kernel_rfl) cj0 ?_
 refine run_s (c58 5) (c58 25) (by kernel_rfl) ?_
 let v_5:AV:=.i (a0.sounding.l.length:Int)
 refine run1z (c58 7) [] [0,1,4,5,11,12,13] [.mp 0 0 8,w_0,.sl true [],.sl true [],v_0,v_5,.i 0] s_0 _ (by kernel_rfl) cj0 ?_
 obtain ⟨ol1x,hll1x,h⟩:=bindE h
 refine run_tq (fun ((l1x_4,l1x_5):(List GCLive × List GCLive))=>(zipE [0,4,5] [.mp 0 0 8,.ms 5 0 l1x_4.length,.ms 6 0 l1x_5.length])) (fun ((l1x_4,l1x_5):(List GCLive × List GCLive))=>⟨[(6,.cells 7 (l1x_5.map E_GCLive)),(5,.cells 7 (l1x_4.map E_GCLive)),(4,b_3),(3,b_2),(2,b_0),(1,b_1),(0,.cells 11 [w_1])],7⟩) (fun j=>ol1x = j) (fun kl1=>?_) ?_
 ·refine run_b 0 (c58 8) (by kernel_rfl) ?_
  refine run_l (c58 9) _ hll1x (fun ((l1_4,l1_5,l1_13):(List GCLive × List GCLive × Int))=>(zipE [0,1,4,5,11,12,13] [.mp 0 0 8,w_0,.ms 5 0 l1_4.length,.ms 6 0 l1_5.length,v_0,v_5,.i l1_13])) (fun ((l1_4,l1_5,l1_13):(List GCLive × List GCLive × Int))=>⟨[(6,.cells 7 (l1_5.map E_GCLive)),(5,.cells 7 (l1_4.map E_GCLive)),(4,b_3),(3,b_2),(2,b_0),(1,b_1),(0,.cells 11 [w_1])],7⟩) [(5,1000000),(6,1000001)] (by intro i e; cases e <;> exact Nat.le_of_ble_eq_true rfl) (by kernel_rfl) (mkInto (ks:=[0,1,4,5,11,12,13]) (ys:=[.mp 0 0 8,w_0,.sl true [],.sl true [],v_0,v_5,.i 0]) (by kernel_rfl) (by kernel_rfl) (.k (.mp rfl rfl) (.k (.f (.k (.mp rfl rfl) .z)) (.k (.n) (.k (.n) (.k (.ms rfl rfl) (.k (.c rfl) (.k (.c rfl) .z))))))) (.n rfl rfl rfl (.n rfl rfl rfl (.k rfl (.cells (.k (.c rfl) .z)) (.k rfl (.cells (.r (cleanMap _ _ cl_GTake))) (.k rfl (.cells (.r (cleanMap _ _ cl_GCLive))) (.k rfl (.cells (.r (cleanMap _ _ cl_GCDesk))) (.k rfl (.cells (.k (.a (.k (.c rfl) (.k (.c rfl) (.k (.c rfl) (.k (.c rfl) (.k (.ms rfl rfl) (.k (.c rfl) (.k (.c rfl) (.k (.c rfl) (.k (.ms rfl rfl) (.k (.c rfl) (.k (.ms rfl rfl) .z)))))))))))) .z)) .z)))))))) ?_
  rintro ⟨l1_4,l1_5,l1_13⟩ out hl1 rl1
  let v_6:AV:=.ms 5 0 l1_4.length
  let v_7:AV:=.ms 6 0 l1_5.length
  let b_4:Blk:=.cells 7 (l1_5.map E_GCLive)
  let b_5:Blk:=.cells 7 (l1_4.map E_GCLive)
  let s_1:St:=⟨[(6,b_4),(5,b_5),(4,b_3),(3,b_2),(2,b_0),(1,b_1),(0,.cells 11 [w_1])],7⟩
  refine run1z (c58 11) [] [0,1,4,5,11,12,13,14] [.mp 0 0 8,w_0,v_6,v_7,v_0,v_5,.i l1_13,.bool (decide (l1_13 < (a0.sounding.l.length:Int)))] s_1 _ (by kernel_rfl) cj0 ?_
  refine run_s (c58 12) (c58 15) (by kernel_rfl) ?_
  rcases iteE hl1 with ⟨hc1,hl1⟩ | ⟨hc1,hl1⟩
  ·refine run_cT 14 (c58 13) (c58 14) (decide (l1_13 < (a0.sounding.l.length:Int))) hc1 (by kernel_rfl) (by kernel_rfl) ?_
   refine run_k (by kernel_rfl) ?_
   refine thenN ?_
   obtain ⟨oj2,hj2,hl1⟩:=bindE hl1
   refine run_jq (c58 16) (c58 24) (fun ((j2_4,j2_5):(List GCLive × List GCLive))=>(zipE [0,1,4,5,11,12,13] [.mp 0 0 8,w_0,.ms 10 0 j2_4.length,.ms 11 0 j2_5.length,v_0,v_5,.i l1_13])) (fun ((j2_4,j2_5):(List GCLive × List GCLive))=>⟨[(11,.cells 7 (j2_5.map E_GCLive)),(10,.cells 7 (j2_4.map E_GCLive)),(4,b_3),(3,b_2),(2,b_0),(1,b_1),(0,.cells 11 [w_1])],12⟩) (fun j=>oj2 = j) (by kernel_rfl) (fun kj2=>?_) ?_
   ·refine run_b 1 (c58 17) (by kernel_rfl) ?_
    obtain ⟨y2,hy2,hj2⟩:=bindE hj2
    let b_6:Blk:=.cells 7 [E_GCLive y2]
    let s_2:St:=⟨[(7,b_6),(6,b_4),(5,b_5),(4,b_3),(3,b_2),(2,b_0),(1,b_1),(0,.cells 11 [w_1])],8⟩
    refine run1z (c58 19) [{ k:=1,n:=l1_13.toNat },{ k:=1,x:=E_GCLive y2 }] [0,1,4,5,7,11,12,13] [.mp 0 0 8,w_0,v_6,v_7,.mp 7 0 0,v_0,v_5,.i l1_13] s_2 _ (by kernel_rfl) (cjC ((ixE hy2).1) (cjC (ixLt hy2) (cjC (Nat.zero_add l1_13.toNat) (cj1 (mapGet E_GCLive (ixE hy2).2))))) ?_
    obtain ⟨r3,hr3,hj2⟩:=bindE hj2
    let s_3:St:=⟨[(7,b_6),(6,b_4),(5,b_5),(4,b_3),(3,b_2),(2,b_0),(1,b_1),(0,.cells 11 [w_1])],9⟩
    refine run1z (c58 21) [{},{},{ c:=some (.bool r3,s_3) }] [0,1,4,5,7,11,12,13,19] [.mp 0 0 8,w_0,v_6,v_7,.mp 7 0 0,v_0,v_5,.i l1_13,.bool r3] s_3 _ (by kernel_rfl) (cj1 (callF (f38_ok y2 a1_0 _ hr3) [(0,4)] [(4,0)] [7,6,5,3,2,1,0] [E_GCLive y2,.mp 4 0 0] s_2 (.bool r3) s_3 (by kernel_rfl) (.k (.c (cl_GCLive y2)) (.k (.mp rfl rfl) .z)) (.c rfl) (.k rfl (.cells (.k (.c rfl) .z)) .z) (.f rfl (by kernel_rfl) (.f rfl (by kernel_rfl) (.f rfl (by kernel_rfl) (.d (x':=b_3) rfl (by kernel_rfl) (.cells (.k (.c rfl) .z)) (.f rfl (by kernel_rfl) (.f rfl (by kernel_rfl) (.f rfl (by kernel_rfl) (.f rfl (by kernel_rfl) .z)))))))))) ?_
    rcases iteE hj2 with ⟨hc4,hj2⟩ | ⟨hc4,hj2⟩
    ·refine run_cT 19 (c58 22) (c58 23) r3 hc4 (by kernel_rfl) (by kernel_rfl) ?_
     obtain ⟨hn5,hj2⟩:=needE hj2
     refine run0z [{},{},{},{ k:=1,n:=(l1_4 ++ [y2]).length,l:=(l1_4 ++ [y2]).map E_GCLive }] [0,1,4,5,11,12,13] [.mp 0 0 8,w_0,.ms 9 0 (l1_4 ++ [y2]).length,v_7,v_0,v_5,.i l1_13] ⟨[(9,.cells 7 ((l1_4 ++ [y2]).map E_GCLive)),(6,b_4),(4,b_3),(3,b_2),(2,b_0),(1,b_1),(0,.cells 11 [w_1])],10⟩ _ (by kernel_rfl) (cjC (@List.cons_ne_nil AV (E_GCLive y2) []) (cjC (mLe l1_4 E_GCLive) (cjC (hn5) (cjC (lenA l1_4 ([y2]:List GCLive)) (cjC (appA l1_4 ([y2]:List GCLive) E_GCLive) (cj1 (fitsOne (P:=Try.prog) (t:=80) (x:=E_GCLive y2) (r:=[]) (by kernel_rfl)))))))) ?_
     replace hj2:=Option.some.inj hj2; subst hj2
     refine inbN ?_
     refine thenN ?_
     exact run_i 10 [(10,9),(11,6)] [0,1,4,5,11,12,13] [.mp 0 0 8,w_0,.ms 9 0 (l1_4 ++ [y2]).length,v_7,v_0,v_5,.i l1_13] (kj2 ((l1_4 ++ [y2]),l1_5) rfl) (by intro i e; cases e <;> exact Nat.le_of_ble_eq_true rfl) (by kernel_rfl) (by kernel_rfl) (by kernel_rfl) (.k (.mp rfl rfl) (.k (.f (.k (.mp rfl rfl) .z)) (.k (.ms rfl rfl) (.k (.ms rfl rfl) (.k (.ms rfl rfl) (.k (.c rfl) (.k (.c rfl) .z))))))) (.k rfl (.cells (.r (cleanMap _ _ cl_GCLive))) (.k rfl (.cells (.r (cleanMap _ _ cl_GCLive))) (.k rfl (.cells (.k (.c rfl) .z)) (.k rfl (.cells (.r (cleanMap _ _ cl_GTake))) (.k rfl (.cells (.r (cleanMap _ _ cl_GCLive))) (.k rfl (.cells (.r (cleanMap _ _ cl_GCDesk))) (.k rfl (.cells (.k (.a (.k (.c rfl) (.k (.c rfl) (.k (.c rfl) (.k (.c rfl) (.k (.ms rfl rfl) (.k (.c rfl) (.k (.c rfl) (.k (.c rfl) (.k (.ms rfl rfl) (.k (.c rfl) (.k (.ms rfl rfl) .z)))))))))))) .z)) .z)))))))
    ·refine run_cF 19 (c58 22) (c58 23) r3 hc4 (by kernel_rfl) (by kernel_rfl) ?_
     obtain ⟨hn6,hj2⟩:=needE hj2
     refine run0z [{},{},{},{ k:=1,n:=(l1_5 ++ [y2]).length,l:=(l1_5 ++ [y2]).map E_GCLive }] [0,1,4,5,11,12,13] [.mp 0 0 8,w_0,v_6,.ms 9 0 (l1_5 ++ [y2]).length,v_0,v_5,.i l1_13] ⟨[(9,.cells 7 ((l1_5 ++ [y2]).map E_GCLive)),(5,b_5),(4,b_3),(3,b_2),(2,b_0),(1,b_1),(0,.cells 11 [w_1])],10⟩ _ (by kernel_rfl) (cjC (@List.cons_ne_nil AV (E_GCLive y2) []) (cjC (mLe l1_5 E_GCLive) (cjC (hn6) (cjC (lenA l1_5 ([y2]:List GCLive)) (cjC (appA l1_5 ([y2]:List GCLive) E_GCLive) (cj1 (fitsOne (P:=Try.prog) (t:=80) (x:=E_GCLive y2) (r:=[]) (by kernel_rfl)))))))) ?_
     replace hj2:=Option.some.inj hj2; subst hj2
     refine inbN ?_
     refine thenN ?_
     exact run_i 10 [(10,5),(11,9)] [0,1,4,5,11,12,13] [.mp 0 0 8,w_0,v_6,.ms 9 0 (l1_5 ++ [y2]).length,v_0,v_5,.i l1_13] (kj2 (l1_4,(l1_5 ++ [y2])) rfl) (by intro i e; cases e <;> exact Nat.le_of_ble_eq_true rfl) (by kernel_rfl) (by kernel_rfl) (by kernel_rfl) (.k (.mp rfl rfl) (.k (.f (.k (.mp rfl rfl) .z)) (.k (.ms rfl rfl) (.k (.ms rfl rfl) (.k (.ms rfl rfl) (.k (.c rfl) (.k (.c rfl) .z))))))) (.k rfl (.cells (.r (cleanMap _ _ cl_GCLive))) (.k rfl (.cells (.r (cleanMap _ _ cl_GCLive))) (.k rfl (.cells (.k (.c rfl) .z)) (.k rfl (.cells (.r (cleanMap _ _ cl_GTake))) (.k rfl (.cells (.r (cleanMap _ _ cl_GCLive))) (.k rfl (.cells (.r (cleanMap _ _ cl_GCDesk))) (.k rfl (.cells (.k (.a (.k (.c rfl) (.k (.c rfl) (.k (.c rfl) (.k (.c rfl) (.k (.ms rfl rfl) (.k (.c rfl) (.k (.c rfl) (.k (.c rfl) (.k (.ms rfl rfl) (.k (.c rfl) (.k (.ms rfl rfl) .z)))))))))))) .z)) .z)))))))
   ·rintro ⟨j2_4,j2_5⟩ rfl
    refine run0z [] [0,1,4,5,11,12,13] [.mp 0 0 8,w_0,.ms 10 0 j2_4.length,.ms 11 0 j2_5.length,v_0,v_5,.i (wr (l1_13 + 1))] ⟨[(11,.cells 7 (j2_5.map E_GCLive)),(10,.cells 7 (j2_4.map E_GCLive)),(4,b_3),(3,b_2),(2,b_0),(1,b_1),(0,.cells 11 [w_1])],12⟩ _ (by kernel_rfl) cj0 ?_
    replace hl1:=Option.some.inj hl1; subst hl1
    exact ⟨_,rfl,pi [(5,10),(6,11)],mkInto (ks:=[0,1,4,5,11,12,13]) (ys:=[.mp 0 0 8,w_0,.ms 10 0 j2_4.length,.ms 11 0 j2_5.length,v_0,v_5,.i (wr (l1_13 + 1))]) (by kernel_rfl) (by kernel_rfl) (.k (.mp rfl rfl) (.k (.f (.k (.mp rfl rfl) .z)) (.k (.ms rfl rfl) (.k (.ms rfl rfl) (.k (.ms rfl rfl) (.k (.c rfl) (.k (.c rfl) .z))))))) (.k rfl (.cells (.r (cleanMap _ _ cl_GCLive))) (.k rfl (.cells (.r (cleanMap _ _ cl_GCLive))) (.k rfl (.cells (.k (.c rfl) .z)) (.k rfl (.cells (.r (cleanMap _ _ cl_GTake))) (.k rfl (.cells (.r (cleanMap _ _ cl_GCLive))) (.k rfl (.cells (.r (cleanMap _ _ cl_GCDesk))) (.k rfl (.cells (.k (.a (.k (.c rfl) (.k (.c rfl) (.k (.c rfl) (.k (.c rfl) (.k (.ms rfl rfl) (.k (.c rfl) (.k (.c rfl) (.k (.c rfl) (.k (.ms rfl rfl) (.k (.c rfl) (.k (.ms rfl rfl) .z)))))))))))) .z)) .z)))))))⟩
  ·refine run_cF 14 (c58 13) (c58 14) (decide (l1_13 < (a0.sounding.l.length:Int))) hc1 (by kernel_rfl) (by kernel_rfl) ?_
   replace hl1:=Option.some.inj hl1; subst hl1
   have hr:=rl1 _ rfl
   subst hr
   refine awp_p [0,4,5] [6,5,4,3,2,1,0] (zipE [0,4,5] [.mp 0 0 8,v_6,v_7]) s_1 (by kernel_rfl) (?_)
   refine run_e 0 (by kernel_rfl) ?_
   refine thenE ?_
   refine ⟨⟨_,rfl⟩,?_⟩
   refine inbE ?_
   exact kl1 (l1_4,l1_5) rfl
 ·rintro ⟨l1x_4,l1x_5⟩ rfl
  refine thenN ?_
  let v_8:AV:=.ms 5 0 l1x_4.length
  let v_9:AV:=.ms 6 0 l1x_5.length
  let w_2:AV:=.agg [v_3,.i a0.now,.i a0.end_,v_4,v_1,.i a0.from_,.i a0.to_,.i a0.times,v_9,.fn 31 [],v_2]
  let b_7:Blk:=.cells 7 (l1x_5.map E_GCLive)
  let b_8:Blk:=.cells 7 (l1x_4.map E_GCLive)
  let s_4:St:=⟨[(6,b_7),(5,b_8),(4,b_3),(3,b_2),(1,b_1),(0,.cells 11 [w_2])],7⟩
  refine run1z (c58 27) [] [4] [v_8] s_4 _ (by kernel_rfl) cj0 ?_
  refine run1z (c58 29) [] [4] [v_8] s_4 _ (by kernel_rfl) cj0 ?_
  let s_5:St:=⟨[(6,b_7),(4,b_3),(3,b_2),(1,b_1),(0,.cells 11 [w_2])],7⟩
  refine run_z 5 7 (l1x_4.map E_GCLive) [4] [v_8] (xs:=[.sl false (l1x_4.map E_GCLive)]) (S2:=s_5) ?_ (by kernel_rfl) (by kernel_rfl) (.k (.m (mLe l1x_4 E_GCLive) (mapAll l1x_4 E_GCLive)) .z) (.k (x':=b_7) rfl (by kernel_rfl) (.r _) (.k (x':=b_3) rfl (by kernel_rfl) (.r _) (.k (x':=b_2) rfl (by kernel_rfl) (.r _) (.k (x':=b_1) rfl (by kernel_rfl) (.r _) (.k (x':=.cells 11 [w_2]) rfl (by kernel_rfl) (.r _) .z))))) rfl rfl
  refine run_t (by kernel_rfl) ?_
  replace h:=Option.some.inj h; subst h
  exact fin_p [6,4,3,1,0] s_5 (by kernel_rfl) (by kernel_rfl) rfl ⟨rfl,rfl⟩
def f35_1 (a0:GCPlayer) (a1_0:Int):Option (List GVoice × List GCLive × List GTake):=(f58_1 a0 a1_0).bind fun r1=>(loopN (σ:=(List GTake × Int)) (τ:=(List GTake)) (fun ((l1_h0_10,l1_15):(List GTake × Int))=>bif (decide (l1_15 < (r1.1.length:Int))) then ((ix r1.1 l1_15).bind fun y3=>need (l1_h0_10.length + 1 ≤ maxElems) <| some (.inl ((l1_h0_10 ++ [(⟨y3.desk,y3.note.course,y3.note.pitch,y3.began,a0.clock.ticks⟩:GTake)]),(wr (l1_15 + 1))))) else (some (.inr l1_h0_10))) FUEL (a0.takes,0)).bind fun (l1x_h0_10:(List GTake))=>(f42 r1.1).bind fun r5=>some (r5,r1.2,l1x_h0_10)
theorem f35_1_ok (a0:GCPlayer) (a1_0:Int) (r:(List GVoice × List GCLive × List GTake)) (h:f35_1 a0 a1_0 = some r):ACalls Try.prog 35 [.mp 0 0 0,.fn 38 [.mp 4 0 0]] ⟨[(4,.cells 1 [.i a1_0]),(3,.cells 5 (a0.takes.map E_GTake)),(2,.cells 7 (a0.sounding.l.map E_GCLive)),(1,.cells 3 (a0.desks.map E_GCDesk)),(0,.cells 11 [.agg [.i a0.clock.ticks,.i a0.now,.i a0.end_,.bool a0.waiting,.ms 1 0 a0.desks.length,.i a0.from_,.i a0.to_,.i a0.times,.ms 2 0 a0.sounding.l.length,.fn 31 [],.ms 3 0 a0.takes.length]])],5⟩ (fun y t=>y = .sl false (r.1.map E_GVoice) ∧ t = ⟨[(7,.cells 5 (r.2.2.map E_GTake)),(6,.cells 7 (r.2.1.map E_GCLive)),(4,.cells 1 [.i a1_0]),(1,.cells 3 (a0.desks.map E_GCDesk)),(0,.cells 11 [.agg [.i a0.clock.ticks,.i a0.now,.i a0.end_,.bool a0.waiting,.ms 1 0 a0.desks.length,.i a0.from_,.i a0.to_,.i a0.times,.ms 6 0 r.2.1.length,.fn 31 [],.ms 7 0 r.2.2.length]])],8⟩):=by
 let w_0:AV:=.fn 38 [.mp 4 0 0]
 refine run_f 47 [.tmp 4] (c35 0) (zipE [0,1] [.mp 0 0 0,w_0]) (by kernel_rfl) (by kernel_rfl) (by kernel_rfl) rfl ?_
 unfold f35_1 at h
 let v_0:AV:=.ms 2 0 a0.sounding.l.length
 let v_1:AV:=.ms 1 0 a0.desks.length
 let v_2:AV:=.ms 3 0 a0.takes.length
 let v_3:AV:=.i a0.clock.ticks
 let v_4:AV:=.bool a0.waiting
 let w_1:AV:=.agg [v_3,.i a0.now,.i a0.end_,v_4,v_1,.i a0.from_,.i a0.to_,.i a0.times,v_0,.fn 31 [],v_2]
 let b_0:Blk:=.cells 7 (a0.sounding.l.map E_GCLive)
 let b_1:Blk:=.cells 3 (a0.desks.map E_GCDesk)
 let b_2:Blk:=.cells 5 (a0.takes.map E_GTake)
 let b_3:Blk:=.cells 1 [.i a1_0]
 let s_0:St:=⟨[(4,b_3),(3,b_2),(2,b_0),(1,b_1),(0,.cells 11 [w_1])],5⟩
 refine run1z (c35 2) [] [0,1] [.mp 0 0 0,w_0] s_0 _ (by kernel_rfl) cj0 ?_
 obtain ⟨r1,hr1,h⟩:=bindE h
 let v_5:AV:=.sl false (r1.1.map E_GCLive)
 let v_6:AV:=.ms 6 0 r1.2.length
 let w_2:AV:=.agg [v_3,.i a0.now,.i a0.end_,v_4,v_1,.i a0.from_,.i a0.to_,.i a0.times,v_6,.fn 31 [],v_2]
 let b_4:Blk:=.cells 7 (r1.2.map E_GCLive)
 let s_1:St:=⟨[(6,b_4),(4,b_3),(3,b_2),(1,b_1),(0,.cells 11 [w_2])],7⟩
 refine run1z (c35 4) [{},{},{},{},{ c:=some (v_5,s_1) }] [0,5] [.mp 0 0 0,v_5] s_1 _ (by kernel_rfl) (cj1 (callF (f58_1_ok a0 a1_0 _ hr1) [(0,0),(1,1),(2,2),(3,3),(4,4)] [(6,6),(4,4),(3,3),(1,1),(0,0)] [] [.mp 0 0 8,w_0] s_0 (v_5) s_1 (by kernel_rfl) (.k (.mp rfl rfl) (.k (.f (.k (.mp rfl rfl) .z)) .z)) (.c (cleanMap _ _ cl_GCLive)) (.k rfl (.cells (.k (.c rfl) .z)) (.k rfl (.cells (.r (cleanMap _ _ cl_GTake))) (.k rfl (.cells (.r (cleanMap _ _ cl_GCLive))) (.k rfl (.cells (.r (cleanMap _ _ cl_GCDesk))) (.k rfl (.cells (.k (.a (.k (.c rfl) (.k (.c rfl) (.k (.c rfl) (.k (.c rfl) (.k (.ms rfl rfl) (.k (.c rfl) (.k (.c rfl) (.k (.c rfl) (.k (.ms rfl rfl) (.k (.c rfl) (.k (.ms rfl rfl) .z)))))))))))) .z)) .z))))) (.d (x':=b_4) rfl (by kernel_rfl) (.cells (.r (cleanMap _ _ cl_GCLive))) (.d (x':=b_3) rfl (by kernel_rfl) (.cells (.k (.c rfl) .z)) (.d (x':=b_2) rfl (by kernel_rfl) (.cells (.r (cleanMap _ _ cl_GTake))) (.d (x':=b_1) rfl (by kernel_rfl) (.cells (.r (cleanMap _ _ cl_GCDesk))) (.d (x':=.cells 11 [w_2]) rfl (by kernel_rfl) (.cells (.k (.a (.k (.c rfl) (.k (.c rfl) (.k (.c rfl) (.k (.c rfl) (.k (.ms rfl rfl) (.k (.c rfl) (.k (.c rfl) (.k (.c rfl) (.k (.ms rfl rfl) (.k (.c rfl) (.k (.ms rfl rfl) .z)))))))))))) .z)) .z))))))) ?_
 refine run_s (c35 5) (c35 21) (by kernel_rfl) ?_
 let v_7:AV:=.i (r1.1.length:Int)
 refine run1z (c35 7) [{},{ k:=1,n:=r1.1.length }] [0,5,13,14,15] [.mp 0 0 0,v_5,v_5,v_7,.i 0] s_1 _ (by kernel_rfl) (cj1 (mapLen r1.1 E_GCLive)) ?_
 obtain ⟨l1x_h0_10,hll1x,h⟩:=bindE h
 refine run_tq (fun (l1x_h0_10:(List GTake))=>(zipE [5] [v_5])) (fun (l1x_h0_10:(List GTake))=>⟨[(7,.cells 5 (l1x_h0_10.map E_GTake)),(6,b_4),(4,b_3),(1,b_1),(0,.cells 11 [.agg [v_3,.i a0.now,.i a0.end_,v_4,v_1,.i a0.from_,.i a0.to_,.i a0.times,v_6,.fn 31 [],.ms 7 0 l1x_h0_10.length]])],8⟩) (fun j=>l1x_h0_10 = j) (fun kl1=>?_) ?_
 ·refine run_b 0 (c35 8) (by kernel_rfl) ?_
  refine run_l (c35 9) _ hll1x (fun ((l1_h0_10,l1_15):(List GTake × Int))=>(zipE [0,5,13,14,15] [.mp 0 0 0,v_5,v_5,v_7,.i l1_15])) (fun ((l1_h0_10,l1_15):(List GTake × Int))=>⟨[(7,.cells 5 (l1_h0_10.map E_GTake)),(6,b_4),(4,b_3),(1,b_1),(0,.cells 11 [.agg [v_3,.i a0.now,.i a0.end_,v_4,v_1,.i a0.from_,.i a0.to_,.i a0.times,v_6,.fn 31 [],.ms 7 0 l1_h0_10.length]])],8⟩) [(7,3)] (by intro i e; cases e <;> exact Nat.le_of_ble_eq_true rfl) (by kernel_rfl) (mkInto (ks:=[0,5,13,14,15]) (ys:=[.mp 0 0 0,v_5,v_5,v_7,.i 0]) (by kernel_rfl) (by kernel_rfl) (.k (.mp rfl rfl) (.k (.c (cleanMap _ _ cl_GCLive)) (.k (.c (cleanMap _ _ cl_GCLive)) (.k (.c rfl) (.k (.c rfl) .z))))) (.k rfl (.cells (.r (cleanMap _ _ cl_GTake))) (.k rfl (.cells (.r (cleanMap _ _ cl_GCLive))) (.k rfl (.cells (.k (.c rfl) .z)) (.k rfl (.cells (.r (cleanMap _ _ cl_GCDesk))) (.k rfl (.cells (.k (.a (.k (.c rfl) (.k (.c rfl) (.k (.c rfl) (.k (.c rfl) (.k (.ms rfl rfl) (.k (.c rfl) (.k (.c rfl) (.k (.c rfl) (.k (.ms rfl rfl) (.k (.c rfl) (.k (.ms rfl rfl) .z)))))))))))) .z)) .z)))))) ?_
  rintro ⟨l1_h0_10,l1_15⟩ out hl1 rl1
  let v_8:AV:=.ms 7 0 l1_h0_10.length
  let w_3:AV:=.agg [v_3,.i a0.now,.i a0.end_,v_4,v_1,.i a0.from_,.i a0.to_,.i a0.times,v_6,.fn 31 [],v_8]
  let b_5:Blk:=.cells 5 (l1_h0_10.map E_GTake)
  let s_2:St:=⟨[(7,b_5),(6,b_4),(4,b_3),(1,b_1),(0,.cells 11 [w_3])],8⟩
  refine run1z (c35 11) [] [0,5,13,14,15,16] [.mp 0 0 0,v_5,v_5,v_7,.i l1_15,.bool (decide (l1_15 < (r1.1.length:Int)))] s_2 _ (by kernel_rfl) cj0 ?_
  refine run_s (c35 12) (c35 15) (by kernel_rfl) ?_
  rcases iteE hl1 with ⟨hc2,hl1⟩ | ⟨hc2,hl1⟩
  ·refine run_cT 16 (c35 13) (c35 14) (decide (l1_15 < (r1.1.length:Int))) hc2 (by kernel_rfl) (by kernel_rfl) ?_
   refine run_k (by kernel_rfl) ?_
   refine thenN ?_
   refine run_s (c35 16) (c35 20) (by kernel_rfl) ?_
   refine run_b 1 (c35 17) (by kernel_rfl) ?_
   obtain ⟨y3,hy3,hl1⟩:=bindE hl1
   refine run1z (c35 19) [{ k:=1,x:=E_GCLive y3 }] [0,5,7,13,14,15] [.mp 0 0 0,v_5,.mp 8 0 0,v_5,v_7,.i l1_15] ⟨[(8,.cells 7 [E_GCLive y3]),(7,b_5),(6,b_4),(4,b_3),(1,b_1),(0,.cells 11 [w_3])],9⟩ _ (by kernel_rfl) (cjC ((ixE hy3).1) (cj1 (mapGet E_GCLive (ixE hy3).2))) ?_
   obtain ⟨hn4,hl1⟩:=needE hl1
   let w_4:AV:=.agg [v_3,.i a0.now,.i a0.end_,v_4,v_1,.i a0.from_,.i a0.to_,.i a0.times,v_6,.fn 31 [],.ms 9 0 (l1_h0_10 ++ [(⟨y3.desk,y3.note.course,y3.note.pitch,y3.began,a0.clock.ticks⟩:GTake)]).length]
   let w_5:AV:=.agg [.i y3.desk,.i y3.note.course,.i y3.note.pitch,.i y3.began,v_3]
   let b_6:Blk:=.cells 5 ((l1_h0_10 ++ [(⟨y3.desk,y3.note.course,y3.note.pitch,y3.began,a0.clock.ticks⟩:GTake)]).map E_GTake)
   let s_3:St:=⟨[(9,b_6),(6,b_4),(4,b_3),(1,b_1),(0,.cells 11 [w_4])],10⟩
   refine yun0z [[],[],[1],[1,2],[1,2,3],[],[5],[],[7],[7,8],[],[10],[10,11],[],[13],[],[15],[15,16],[15,16,17],[15,16,17,18],[5,6,7,8,9,10,11,12,13,14,15,16,17,18,19],[5,6,7,8,9,10,11,12,13,14,15,16,17,18,19,20],[1,2,3,4,5,6,7,8,9,10,11,12,13,14,15,16,17,18,19,20,21],[0,1,2,3,4,5,6,7,8,9,10,11,12,13,14,15,16,17,18,19,20,21,22],[0,1,2,3,4,5,6,7,8,9,10,11,12,13,14,15,16,17,18,19,20,21,22,23],[0,1,2,3,4,5,6,7,8,9,10,11,12,13,14,15,16,17,18,19,20,21,22,23,24]] [.light 0 false,.light 1 false,.light 2 false,.light 3 false,.light 4 false,.light 5 false,.light 6 false,.light 7 false,.light 8 false,.light 9 false,.light 10 false,.light 11 false,.light 12 false,.light 13 false,.light 14 false,.light 15 false,.light 16 false,.light 17 false,.light 18 false,.light 19 false,.light 20 false,.light 21 false,.heavy 22 [],.light 23 false,.light 24 false,.heavy 25 []] [{},{},{},{},{},{},{},{},{},{},{},{},{},{},{},{},{},{},{},{},{},{},{ k:=1,n:=(l1_h0_10 ++ [(⟨y3.desk,y3.note.course,y3.note.pitch,y3.began,a0.clock.ticks⟩:GTake)]).length,l:=(l1_h0_10 ++ [(⟨y3.desk,y3.note.course,y3.note.pitch,y3.began,a0.clock.ticks⟩:GTake)]).map E_GTake }] [0,5,13,14,15] [.mp 0 0 0,v_5,v_5,v_7,.i l1_15] s_3 _ (by kernel_rfl) (cjC (@List.cons_ne_nil AV (w_5) []) (cjC (mLe l1_h0_10 E_GTake) (cjC (hn4) (cjC (lenA l1_h0_10 ([(⟨y3.desk,y3.note.course,y3.note.pitch,y3.began,a0.clock.ticks⟩:GTake)]:List GTake)) (cjC (appA l1_h0_10 ([(⟨y3.desk,y3.note.course,y3.note.pitch,y3.began,a0.clock.ticks⟩:GTake)]:List GTake) E_GTake) (cj1 (fitsOne (P:=Try.prog) (t:=101) (x:=w_5) (r:=[]) (by kernel_rfl)))))))) ?_
   refine inbN ?_
   refine thenN ?_
   refine run0z [] [0,5,13,14,15] [.mp 0 0 0,v_5,v_5,v_7,.i (wr (l1_15 + 1))] s_3 _ (by kernel_rfl) cj0 ?_
   replace hl1:=Option.some.inj hl1; subst hl1
   exact ⟨_,rfl,pi [(7,9)],mkInto (ks:=[0,5,13,14,15]) (ys:=[.mp 0 0 0,v_5,v_5,v_7,.i (wr (l1_15 + 1))]) (by kernel_rfl) (by kernel_rfl) (.k (.mp rfl rfl) (.k (.c (cleanMap _ _ cl_GCLive)) (.k (.c (cleanMap _ _ cl_GCLive)) (.k (.c rfl) (.k (.c rfl) .z))))) (.k rfl (.cells (.r (cleanMap _ _ cl_GTake))) (.k rfl (.cells (.r (cleanMap _ _ cl_GCLive))) (.k rfl (.cells (.k (.c rfl) .z)) (.k rfl (.cells (.r (cleanMap _ _ cl_GCDesk))) (.k rfl (.cells (.k (.a (.k (.c rfl) (.k (.c rfl) (.k (.c rfl) (.k (.c rfl) (.k (.ms rfl rfl) (.k (.c rfl) (.k (.c rfl) (.k (.c rfl) (.k (.ms rfl rfl) (.k (.c rfl) (.k (.ms rfl rfl) .z)))))))))))) .z)) .z)))))⟩
  ·refine run_cF 16 (c35 13) (c35 14) (decide (l1_15 < (r1.1.length:Int))) hc2 (by kernel_rfl) (by kernel_rfl) ?_
   replace hl1:=Option.some.inj hl1; subst hl1
   have hr:=rl1 _ rfl
   subst hr
   refine awp_p [5] [7,6,4,1,0] (zipE [5] [v_5]) s_2 (by kernel_rfl) (?_)
   refine run_e 0 (by kernel_rfl) ?_
   refine thenE ?_
   refine ⟨⟨_,rfl⟩,?_⟩
   refine inbE ?_
   exact kl1 l1_h0_10 rfl
 ·rintro _ rfl
  refine thenN ?_
  obtain ⟨r5,hr5,h⟩:=bindE h
  let v_9:AV:=.ms 7 0 l1x_h0_10.length
  let w_6:AV:=.agg [v_3,.i a0.now,.i a0.end_,v_4,v_1,.i a0.from_,.i a0.to_,.i a0.times,v_6,.fn 31 [],v_9]
  let b_7:Blk:=.cells 5 (l1x_h0_10.map E_GTake)
  let s_4:St:=⟨[(7,b_7),(6,b_4),(4,b_3),(1,b_1),(0,.cells 11 [w_6])],8⟩
  refine run1z (c35 23) [{},{ c:=some (.sl false (r5.map E_GVoice),s_4) }] [4] [.sl false (r5.map E_GVoice)] s_4 _ (by kernel_rfl) (cj1 (f42_ok r1.1 _ hr5 s_4)) ?_
  refine run_t (by kernel_rfl) ?_
  replace h:=Option.some.inj h; subst h
  exact fin_p [7,6,4,1,0] s_4 (by kernel_rfl) (by kernel_rfl) rfl ⟨rfl,rfl⟩
def f13_1 (a0:GCPlayer):Option (GFrame × Int × Int × Int × Bool × List GCDesk × Int × List GCLive × List GTake):=(f27_1 a0).bind fun r1=>bif (decide (r1.2 ≠ 0)) then (some ((⟨0,([]:List GVoice),([]:List GVoice)⟩:GFrame),r1.2,a0.clock.ticks,a0.now,a0.waiting,a0.desks,a0.times,a0.sounding.l,a0.takes)) else (bif a0.waiting then ((f33 (⟨a0.clock,a0.now,a0.end_,false,a0.desks,a0.from_,a0.to_,a0.times,a0.sounding,a0.takes⟩:GCPlayer)).bind fun r4=>some ((⟨a0.now,r4.1,([]:List GVoice)⟩:GFrame),0,a0.clock.ticks,a0.now,false,a0.desks,a0.times,r4.2,a0.takes)) else ((f34 a0 (wr (r1.1 - a0.now))).bind fun r5=>((((bif (decide (0 < a0.times)) then (some (decide (r1.1 = a0.to_))) else (some false)):Option Bool).bind fun (j2_52:Bool)=>bif j2_52 then ((f35 (⟨(⟨r5⟩:GCClock),a0.now,a0.end_,a0.waiting,a0.desks,a0.from_,a0.to_,a0.times,a0.sounding,a0.takes⟩:GCPlayer)).bind fun r8=>(f37 (⟨(⟨r5⟩:GCClock),a0.now,a0.end_,a0.waiting,a0.desks,a0.from_,a0.to_,(wr (a0.times - 1)),(⟨r8.2.1⟩:GCShelf_live),r8.2.2⟩:GCPlayer) a0.from_).bind fun r9=>some (a0.from_,r9,(wr (a0.times - 1)),r8.2.1,r8.2.2,r8.1)) else ((f35_1 (⟨(⟨r5⟩:GCClock),r1.1,a0.end_,a0.waiting,a0.desks,a0.from_,a0.to_,a0.times,a0.sounding,a0.takes⟩:GCPlayer) r1.1).bind fun r10=>some (r1.1,a0.desks,a0.times,r10.2.1,r10.2.2,r10.1))):Option (Int × List GCDesk × Int × List GCLive × List GTake × List GVoice)).bind fun ((j1_h0_1,j1_h0_4,j1_h0_7,j1_h0_8,j1_h0_10,j1_h8_2):(Int × List GCDesk × Int × List GCLive × List GTake × List GVoice))=>(f33 (⟨(⟨r5⟩:GCClock),j1_h0_1,a0.end_,a0.waiting,j1_h0_4,a0.from_,a0.to_,j1_h0_7,(⟨j1_h0_8⟩:GCShelf_live),j1_h0_10⟩:GCPlayer)).bind fun r11=>some ((⟨j1_h0_1,r11.1,j1_h8_2⟩:GFrame),0,r5,j1_h0_1,a0.waiting,j1_h0_4,j1_h0_7,r11.2,j1_h0_10)))
theorem f13_1_ok (a0:GCPlayer) (r:(GFrame × Int × Int × Int × Bool × List GCDesk × Int × List GCLive × List GTake)) (h:f13_1 a0 = some r):ACalls Try.prog 13 [.mp 0 0 0] ⟨[(3,.cells 5 (a0.takes.map E_GTake)),(2,.cells 7 (a0.sounding.l.map E_GCLive)),(1,.cells 3 (a0.desks.map E_GCDesk)),(0,.cells 11 [.agg [.i a0.clock.ticks,.i a0.now,.i a0.end_,.bool a0.waiting,.ms 1 0 a0.desks.length,.i a0.from_,.i a0.to_,.i a0.times,.ms 2 0 a0.sounding.l.length,.fn 31 [],.ms 3 0 a0.takes.length]])],4⟩ (fun y t=>y = .tup [.agg [.i r.1.time,.sl false (r.1.begin.map E_GVoice),.sl false (r.1.end_.map E_GVoice)],.i r.2.1] ∧ t = ⟨[(15,.cells 5 (r.2.2.2.2.2.2.2.2.map E_GTake)),(14,.cells 7 (r.2.2.2.2.2.2.2.1.map E_GCLive)),(1,.cells 3 (r.2.2.2.2.2.1.map E_GCDesk)),(0,.cells 11 [.agg [.i r.2.2.1,.i r.2.2.2.1,.i a0.end_,.bool r.2.2.2.2.1,.ms 1 0 r.2.2.2.2.2.1.length,.i a0.from_,.i a0.to_,.i r.2.2.2.2.2.2.1,.ms 14 0 r.2.2.2.2.2.2.2.1.length,.fn 31 [],.ms 15 0 r.2.2.2.2.2.2.2.2.length]])],16⟩):=by
 refine run_f 86 [.cell 2 34,.tmp 3] (c13 0) (zipE [0] [.mp 0 0 0]) (by kernel_rfl) (by kernel_rfl) (by kernel_rfl) rfl ?_
 unfold f13_1 at h
 let v_0:AV:=.ms 2 0 a0.sounding.l.length
 let v_1:AV:=.ms 1 0 a0.desks.length
 let v_2:AV:=.ms 3 0 a0.takes.length
 let v_3:AV:=.i a0.clock.ticks
 let v_4:AV:=.bool a0.waiting
 let w_0:AV:=.agg [v_3,.i a0.now,.i a0.end_,v_4,v_1,.i a0.from_,.i a0.to_,.i a0.times,v_0,.fn 31 [],v_2]
 let w_1:AV:=.agg [.i 0,.sl true [],.sl true []]
 let b_0:Blk:=.cells 7 (a0.sounding.l.map E_GCLive)
 let b_1:Blk:=.cells 3 (a0.desks.map E_GCDesk)
 let b_2:Blk:=.cells 5 (a0.takes.map E_GTake)
 let s_0:St:=⟨[(4,.cells 3 [w_1]),(3,b_2),(2,b_0),(1,b_1),(0,.cells 11 [w_0])],5⟩
 refine run1z (c13 2) [] [0,2] [.mp 0 0 0,.mp 4 0 0] s_0 _ (by kernel_rfl) cj0 ?_
 obtain ⟨r1,hr1,h⟩:=bindE h
 let b_3:Blk:=.cells 1 [.i r1.1]
 let s_1:St:=⟨[(7,b_3),(4,.cells 3 [w_1]),(3,b_2),(2,b_0),(1,b_1),(0,.cells 11 [w_0])],8⟩
 let s_2:St:=⟨[(4,.cells 3 [w_1]),(3,b_2),(2,b_0),(1,b_1),(0,.cells 11 [w_0])],7⟩
 refine run1z (c13 4) [{},{ c:=some (.tup [.i r1.1,.i r1.2],s_2) }] [0,2,4,5] [.mp 0 0 0,.mp 4 0 0,.mp 7 0 0,.i r1.2] s_1 _ (by kernel_rfl) (cj1 (callF (f27_1_ok a0 _ hr1) [(0,0),(1,1),(2,2),(3,3)] [(3,3),(2,2),(1,1),(0,0)] [4] [.mp 0 0 0] s_0 (.tup [.i r1.1,.i r1.2]) s_2 (by kernel_rfl) (.k (.mp rfl rfl) .z) (.t (.k (.c rfl) (.k (.c rfl) .z))) (.k rfl (.cells (.r (cleanMap _ _ cl_GTake))) (.k rfl (.cells (.r (cleanMap _ _ cl_GCLive))) (.k rfl (.cells (.r (cleanMap _ _ cl_GCDesk))) (.k rfl (.cells (.k (.a (.k (.c rfl) (.k (.c rfl) (.k (.c rfl) (.k (.c rfl) (.k (.ms rfl rfl) (.k (.c rfl) (.k (.c rfl) (.k (.c rfl) (.k (.ms rfl rfl) (.k (.c rfl) (.k (.ms rfl rfl) .z)))))))))))) .z)) .z)))) (.f rfl (by kernel_rfl) (.d (x':=b_2) rfl (by kernel_rfl) (.cells (.r (cleanMap _ _ cl_GTake))) (.d (x':=b_0) rfl (by kernel_rfl) (.cells (.r (cleanMap _ _ cl_GCLive))) (.d (x':=b_1) rfl (by kernel_rfl) (.cells (.r (cleanMap _ _ cl_GCDesk))) (.d (x':=.cells 11 [w_0]) rfl (by kernel_rfl) (.cells (.k (.a (.k (.c rfl) (.k (.c rfl) (.k (.c rfl) (.k (.c rfl) (.k (.ms rfl rfl) (.k (.c rfl) (.k (.c rfl) (.k (.c rfl) (.k (.ms rfl rfl) (.k (.c rfl) (.k (.ms rfl rfl) .z)))))))))))) .z)) .z))))))) ?_
 refine run_s (c13 5) (c13 12) (by kernel_rfl) ?_
 refine run1z (c13 7) [] [0,2,4,5,13] [.mp 0 0 0,.mp 4 0 0,.mp 7 0 0,.i r1.2,.bool (decide (r1.2 ≠ 0))] s_1 _ (by kernel_rfl) cj0 ?_
 rcases iteE h with ⟨hc2,h⟩ | ⟨hc2,h⟩
 ·refine run_cT 13 (c13 8) (c13 11) (decide (r1.2 ≠ 0)) hc2 (by kernel_rfl) (by kernel_rfl) ?_
  refine run1z (c13 10) [] [2,3] [.mp 4 0 0,.i r1.2] ⟨[(4,.cells 3 [w_1]),(3,b_2),(2,b_0),(1,b_1),(0,.cells 11 [w_0])],8⟩ _ (by kernel_rfl) cj0 ?_
  let v_5:AV:=.ms 14 0 a0.sounding.l.length
  let w_2:AV:=.agg [v_3,.i a0.now,.i a0.end_,v_4,v_1,.i a0.from_,.i a0.to_,.i a0.times,v_5,.fn 31 [],.ms 15 0 a0.takes.length]
  refine run_i 8 [(14,2),(15,3)] [2,3] [.mp 4 0 0,.i r1.2] (xs:=[.mp 4 0 0,.i r1.2]) (S2:=⟨[(15,b_2),(14,b_0),(4,.cells 3 [E_GFrame (⟨0,([]:List GVoice),([]:List GVoice)⟩:GFrame)]),(1,b_1),(0,.cells 11 [w_2])],16⟩) ?_ (by intro i e; cases e <;> exact Nat.le_of_ble_eq_true rfl) (by kernel_rfl) (by kernel_rfl) (by kernel_rfl) (.k (.mp rfl rfl) (.k (.c rfl) .z)) (.k rfl (.cells (.r (cleanMap _ _ cl_GTake))) (.k rfl (.cells (.r (cleanMap _ _ cl_GCLive))) (.k rfl (.cells (.k (.a (.k (.c rfl) (.k (.s (cleanMap ([]:List GVoice) _ cl_GVoice)) (.k (.s (cleanMap ([]:List GVoice) _ cl_GVoice)) .z)))) .z)) (.k rfl (.cells (.r (cleanMap _ _ cl_GCDesk))) (.k rfl (.cells (.k (.a (.k (.c rfl) (.k (.c rfl) (.k (.c rfl) (.k (.c rfl) (.k (.ms rfl rfl) (.k (.c rfl) (.k (.c rfl) (.k (.c rfl) (.k (.ms rfl rfl) (.k (.c rfl) (.k (.ms rfl rfl) .z)))))))))))) .z)) .z)))))
  refine run_t (by kernel_rfl) ?_
  refine thenR ?_
  replace h:=Option.some.inj h; subst h
  exact fin_p [15,14,1,0] ⟨[(15,b_2),(14,b_0),(1,b_1),(0,.cells 11 [w_2])],16⟩ (by kernel_rfl) (by kernel_rfl) rfl ⟨rfl,rfl⟩
 ·refine run_cF 13 (c13 8) (c13 11) (decide (r1.2 ≠ 0)) hc2 (by kernel_rfl) (by kernel_rfl) ?_
  refine run_k (by kernel_rfl) ?_
  refine thenN ?_
  refine run_s (c13 13) (c13 22) (by kernel_rfl) ?_
  refine run1z (c13 15) [] [0,2,4,19] [.mp 0 0 0,.mp 4 0 0,.mp 7 0 0,v_4] s_1 _ (by kernel_rfl) cj0 ?_
  rcases iteE h with ⟨hc3,h⟩ | ⟨hc3,h⟩
  ·refine run_cT 19 (c13 16) (c13 21) a0.waiting hc3 (by kernel_rfl) (by kernel_rfl) ?_
   let w_3:AV:=.agg [v_3,.i a0.now,.i a0.end_,.bool false,v_1,.i a0.from_,.i a0.to_,.i a0.times,v_0,.fn 31 [],v_2]
   let s_3:St:=⟨[(4,.cells 3 [w_1]),(3,b_2),(2,b_0),(1,b_1),(0,.cells 11 [w_3])],8⟩
   refine run1z (c13 18) [] [0,2] [.mp 0 0 0,.mp 4 0 0] s_3 _ (by kernel_rfl) cj0 ?_
   obtain ⟨r4,hr4,h⟩:=bindE h
   let v_6:AV:=.sl false (r4.1.map E_GVoice)
   let v_7:AV:=.ms 8 0 r4.2.length
   let w_4:AV:=.agg [v_3,.i a0.now,.i a0.end_,.bool false,v_1,.i a0.from_,.i a0.to_,.i a0.times,v_7,.fn 31 [],v_2]
   let b_4:Blk:=.cells 7 (r4.2.map E_GCLive)
   let s_4:St:=⟨[(8,b_4),(4,.cells 3 [w_1]),(3,b_2),(1,b_1),(0,.cells 11 [w_4])],10⟩
   refine yun1z (c13 20) [[],[0],[0,1],[0,1,2],[],[4],[0,1,2,3,4,5],[0,1,2,3,4,5,6],[0,1,2,3,4,5,6,7]] [.light 0 false,.light 1 false,.light 2 false,.light 3 true,.light 4 false,.heavy 5 [3],.light 6 false,.heavy 7 [],.light 8 false] [{},{},{},{},{},{ c:=some (v_6,s_4) }] [2,3] [.mp 4 0 0,.i 0] ⟨[(8,b_4),(4,.cells 3 [.agg [.i a0.now,v_6,.sl true []]]),(3,b_2),(1,b_1),(0,.cells 11 [w_4])],10⟩ _ (by kernel_rfl) (cjC (callF (f33_ok (⟨a0.clock,a0.now,a0.end_,false,a0.desks,a0.from_,a0.to_,a0.times,a0.sounding,a0.takes⟩:GCPlayer) _ hr4) [(0,0),(1,1),(2,2),(3,3)] [(8,4),(3,3),(1,1),(0,0)] [4] [.mp 0 0 0] s_3 (v_6) s_4 (by kernel_rfl) (.k (.mp rfl rfl) .z) (.c (cleanMap _ _ cl_GVoice)) (.k rfl (.cells (.r (cleanMap _ _ cl_GTake))) (.k rfl (.cells (.r (cleanMap _ _ cl_GCLive))) (.k rfl (.cells (.r (cleanMap _ _ cl_GCDesk))) (.k rfl (.cells (.k (.a (.k (.c rfl) (.k (.c rfl) (.k (.c rfl) (.k (.c rfl) (.k (.ms rfl rfl) (.k (.c rfl) (.k (.c rfl) (.k (.c rfl) (.k (.ms rfl rfl) (.k (.c rfl) (.k (.ms rfl rfl) .z)))))))))))) .z)) .z)))) (.d (x':=b_4) rfl (by kernel_rfl) (.cells (.r (cleanMap _ _ cl_GCLive))) (.f rfl (by kernel_rfl) (.d (x':=b_2) rfl (by kernel_rfl) (.cells (.r (cleanMap _ _ cl_GTake))) (.d (x':=b_1) rfl (by kernel_rfl) (.cells (.r (cleanMap _ _ cl_GCDesk))) (.d (x':=.cells 11 [.agg [v_3,.i a0.now,.i a0.end_,.bool false,v_1,.i a0.from_,.i a0.to_,.i a0.times,.ms 4 0 r4.2.length,.fn 31 [],v_2]]) rfl (by kernel_rfl) (.cells (.k (.a (.k (.c rfl) (.k (.c rfl) (.k (.c rfl) (.k (.c rfl) (.k (.ms rfl rfl) (.k (.c rfl) (.k (.c rfl) (.k (.c rfl) (.k (.ms rfl rfl) (.k (.c rfl) (.k (.ms rfl rfl) .z)))))))))))) .z)) .z)))))) (cj1 (@Eq.refl AV (.i a0.now)))) ?_
   let w_5:AV:=.agg [v_3,.i a0.now,.i a0.end_,.bool false,v_1,.i a0.from_,.i a0.to_,.i a0.times,.ms 14 0 r4.2.length,.fn 31 [],.ms 15 0 a0.takes.length]
   refine run_i 10 [(14,8),(15,3)] [2,3] [.mp 4 0 0,.i 0] (xs:=[.mp 4 0 0,.i 0]) (S2:=⟨[(15,b_2),(14,b_4),(4,.cells 3 [E_GFrame (⟨a0.now,r4.1,([]:List GVoice)⟩:GFrame)]),(1,b_1),(0,.cells 11 [w_5])],16⟩) ?_ (by intro i e; cases e <;> exact Nat.le_of_ble_eq_true rfl) (by kernel_rfl) (by kernel_rfl) (by kernel_rfl) (.k (.mp rfl rfl) (.k (.c rfl) .z)) (.k rfl (.cells (.r (cleanMap _ _ cl_GTake))) (.k rfl (.cells (.r (cleanMap _ _ cl_GCLive))) (.k rfl (.cells (.k (.a (.k (.c rfl) (.k (.c (cleanMap _ _ cl_GVoice)) (.k (.s (cleanMap ([]:List GVoice) _ cl_GVoice)) .z)))) .z)) (.k rfl (.cells (.r (cleanMap _ _ cl_GCDesk))) (.k rfl (.cells (.k (.a (.k (.c rfl) (.k (.c rfl) (.k (.c rfl) (.k (.c rfl) (.k (.ms rfl rfl) (.k (.c rfl) (.k (.c rfl) (.k (.c rfl) (.k (.ms rfl rfl) (.k (.c rfl) (.k (.ms rfl rfl) .z)))))))))))) .z)) .z)))))
   refine run_t (by kernel_rfl) ?_
   refine thenR ?_
   replace h:=Option.some.inj h; subst h
   exact fin_p [15,14,1,0] ⟨[(15,b_2),(14,b_4),(1,b_1),(0,.cells 11 [w_5])],16⟩ (by kernel_rfl) (by kernel_rfl) rfl ⟨rfl,rfl⟩
  ·refine run_cF 19 (c13 16) (c13 21) a0.waiting hc3 (by kernel_rfl) (by kernel_rfl) ?_
   refine run_k (by kernel_rfl) ?_
   refine thenN ?_
   obtain ⟨r5,hr5,h⟩:=bindE h
   let w_6:AV:=.agg [.i r5,.i a0.now,.i a0.end_,v_4,v_1,.i a0.from_,.i a0.to_,.i a0.times,v_0,.fn 31 [],v_2]
   let s_5:St:=⟨[(7,b_3),(4,.cells 3 [w_1]),(3,b_2),(2,b_0),(1,b_1),(0,.cells 11 [w_6])],8⟩
   refine yun1z (c13 24) [[],[0],[0,1],[],[],[4],[4,5],[4,5,6],[3,4,5,6,7],[0,1,2,3,4,5,6,7,8]] [.light 0 false,.light 1 false,.light 2 false,.light 3 false,.light 4 false,.light 5 false,.light 6 false,.light 7 false,.light 8 false,.heavy 9 []] [{},{},{},{},{},{},{},{},{},{ c:=some (.tup [],s_5) }] [0,2,4] [.mp 0 0 0,.mp 4 0 0,.mp 7 0 0] s_5 _ (by kernel_rfl) (cj1 (callF (f34_ok a0 (wr (r1.1 - a0.now)) _ hr5) [(0,0),(1,1),(2,2),(3,3)] [(3,3),(2,2),(1,1),(0,0)] [7,4] [.mp 0 0 0,.i (wr (r1.1 - a0.now))] s_1 (.tup []) s_5 (by kernel_rfl) (.k (.mp rfl rfl) (.k (.c rfl) .z)) (.t .z) (.k rfl (.cells (.r (cleanMap _ _ cl_GTake))) (.k rfl (.cells (.r (cleanMap _ _ cl_GCLive))) (.k rfl (.cells (.r (cleanMap _ _ cl_GCDesk))) (.k rfl (.cells (.k (.a (.k (.c rfl) (.k (.c rfl) (.k (.c rfl) (.k (.c rfl) (.k (.ms rfl rfl) (.k (.c rfl) (.k (.c rfl) (.k (.c rfl) (.k (.ms rfl rfl) (.k (.c rfl) (.k (.ms rfl rfl) .z)))))))))))) .z)) .z)))) (.f rfl (by kernel_rfl) (.f rfl (by kernel_rfl) (.d (x':=b_2) rfl (by kernel_rfl) (.cells (.r (cleanMap _ _ cl_GTake))) (.d (x':=b_0) rfl (by kernel_rfl) (.cells (.r (cleanMap _ _ cl_GCLive))) (.d (x':=b_1) rfl (by kernel_rfl) (.cells (.r (cleanMap _ _ cl_GCDesk))) (.d (x':=.cells 11 [w_6]) rfl (by kernel_rfl) (.cells (.k (.a (.k (.c rfl) (.k (.c rfl) (.k (.c rfl) (.k (.c rfl) (.k (.ms rfl rfl) (.k (.c rfl) (.k (.c rfl) (.k (.c rfl) (.k (.ms rfl rfl) (.k (.c rfl) (.k (.ms rfl rfl) .z)))))))))))) .z)) .z)))))))) ?_
   let s_6:St:=⟨[(8,.cells 3 [w_1]),(7,b_3),(4,.cells 3 [w_1]),(3,b_2),(2,b_0),(1,b_1),(0,.cells 11 [w_6])],9⟩
   refine run1z (c13 26) [] [0,2,4,6] [.mp 0 0 0,.mp 4 0 0,.mp 7 0 0,.mp 8 0 0] s_6 _ (by kernel_rfl) cj0 ?_
   obtain ⟨oj1,hj1,h⟩:=bindE h
   refine run_jq (c13 27) (c13 38) (fun ((j1_h0_1,j1_h0_4,j1_h0_7,j1_h0_8,j1_h0_10,j1_h8_2):(Int × List GCDesk × Int × List GCLive × List GTake × List GVoice))=>(zipE [0,2,6] [.mp 0 0 0,.mp 4 0 0,.mp 8 0 0])) (fun ((j1_h0_1,j1_h0_4,j1_h0_7,j1_h0_8,j1_h0_10,j1_h8_2):(Int × List GCDesk × Int × List GCLive × List GTake × List GVoice))=>⟨[(11,.cells 5 (j1_h0_10.map E_GTake)),(10,.cells 7 (j1_h0_8.map E_GCLive)),(8,.cells 3 [.agg [.i 0,.sl true [],.sl false (j1_h8_2.map E_GVoice)]]),(4,.cells 3 [w_1]),(1,.cells 3 (j1_h0_4.map E_GCDesk)),(0,.cells 11 [.agg [.i r5,.i j1_h0_1,.i a0.end_,v_4,.ms 1 0 j1_h0_4.length,.i a0.from_,.i a0.to_,.i j1_h0_7,.ms 10 0 j1_h0_8.length,.fn 31 [],.ms 11 0 j1_h0_10.length]])],12⟩) (fun j=>oj1 = j) (by kernel_rfl) (fun kj1=>?_) ?_
   ·obtain ⟨j2_52,hj2,hj1⟩:=bindE hj1
    refine run_gq (c13 29) (fun (j2_52:Bool)=>(zipE [0,2,4,6,52] [.mp 0 0 0,.mp 4 0 0,.mp 7 0 0,.mp 8 0 0,.bool j2_52])) (fun (j2_52:Bool)=>s_6) (fun j=>j2_52 = j) (fun kj2=>?_) ?_
    ·rcases iteE hj2 with ⟨hc6,hj2⟩ | ⟨hc6,hj2⟩
     ·replace hj2:=Option.some.inj hj2; subst hj2
      exact yun1z (c13 29) [[],[0],[0,1],[0,1,2],[0,1,2,3],[0,1,2,3,4],[0,1,2,3,4,5],[0,1,2,3,4,5],[0,1,2,3,4,5,7],[0,1,2,3,4,5,7,8],[0,1,2,3,4,5,7,8,9],[0,1,2,3,4,5,6,7,8,9,10],[0,1,2,3,4,5,6,7,8,9,10,11]] [.light 0 false,.light 1 false,.light 2 false,.light 3 false,.light 4 false,.light 5 false,.light 6 false,.light 7 false,.light 8 false,.light 9 false,.light 10 false,.light 11 false,.light 12 false] [] [0,2,4,6,52] [.mp 0 0 0,.mp 4 0 0,.mp 7 0 0,.mp 8 0 0,.bool (decide (r1.1 = a0.to_))] s_6 _ (by kernel_rfl) (cjC (hc6) (cjC (Eq.refl true) (cjC (Eq.refl true) (cjC (Eq.refl true) (cjC (Eq.refl true) (cj1 (Eq.refl true))))))) (kj2 (decide (r1.1 = a0.to_)) rfl)
     ·replace hj2:=Option.some.inj hj2; subst hj2
      exact yun1z (c13 29) [[],[0],[0,1],[0,1,2],[0,1,2,3],[0,1,2,3,4],[0,1,2,3,4,5],[0,1,2,3,4,5],[0,1,2,3,4,5,7],[0,1,2,3,4,5,7,8],[0,1,2,3,4,5,7,8,9],[0,1,2,3,4,5,6,7,8,9,10],[0,1,2,3,4,5,6,7,8,9,10,11]] [.light 0 false,.light 1 false,.light 2 false,.light 3 false,.light 4 false,.light 5 false,.light 6 false,.light 7 false,.light 8 false,.light 9 false,.light 10 false,.light 11 false,.light 12 false] [{},{},{},{},{},{},{ g:=false },{ g:=false },{ g:=false },{ g:=false },{ g:=false },{ g:=false }] [0,2,4,6,52] [.mp 0 0 0,.mp 4 0 0,.mp 7 0 0,.mp 8 0 0,.bool false] s_6 _ (by kernel_rfl) (cjC (hc6) (cjC (Eq.refl false) (cjC (Eq.refl false) (cjC (Eq.refl false) (cjC (Eq.refl false) (cj1 (Eq.refl false))))))) (kj2 false rfl)
    ·rintro _ rfl
     rcases iteE hj1 with ⟨hc7,hj1⟩ | ⟨hc7,hj1⟩
     ·refine run_cT 52 (c13 30) (c13 35) j2_52 hc7 (by kernel_rfl) (by kernel_rfl) ?_
      obtain ⟨r8,hr8,hj1⟩:=bindE hj1
      let v_8:AV:=.sl false (r8.1.map E_GVoice)
      let v_9:AV:=.ms 10 0 r8.2.1.length
      let v_10:AV:=.ms 11 0 r8.2.2.length
      let w_7:AV:=.agg [.i r5,.i a0.now,.i a0.end_,v_4,v_1,.i a0.from_,.i a0.to_,.i a0.times,v_9,.fn 31 [],v_10]
      let w_8:AV:=.agg [.i 0,.sl true [],v_8]
      let b_5:Blk:=.cells 7 (r8.2.1.map E_GCLive)
      let b_6:Blk:=.cells 5 (r8.2.2.map E_GTake)
      let s_7:St:=⟨[(11,b_6),(10,b_5),(8,.cells 3 [w_1]),(7,b_3),(4,.cells 3 [w_1]),(1,b_1),(0,.cells 11 [w_7])],12⟩
      refine run1z (c13 32) [{},{ c:=some (v_8,s_7) }] [0,2,6] [.mp 0 0 0,.mp 4 0 0,.mp 8 0 0] ⟨[(11,b_6),(10,b_5),(8,.cells 3 [w_8]),(4,.cells 3 [w_1]),(1,b_1),(0,.cells 11 [w_7])],12⟩ _ (by kernel_rfl) (cj1 (callF (f35_ok (⟨(⟨r5⟩:GCClock),a0.now,a0.end_,a0.waiting,a0.desks,a0.from_,a0.to_,a0.times,a0.sounding,a0.takes⟩:GCPlayer) _ hr8) [(0,0),(1,1),(2,2),(3,3)] [(11,6),(10,5),(1,1),(0,0)] [8,7,4] [.mp 0 0 0,.fn 36 []] s_6 (v_8) s_7 (by kernel_rfl) (.k (.mp rfl rfl) (.k (.c rfl) .z)) (.c (cleanMap _ _ cl_GVoice)) (.k rfl (.cells (.r (cleanMap _ _ cl_GTake))) (.k rfl (.cells (.r (cleanMap _ _ cl_GCLive))) (.k rfl (.cells (.r (cleanMap _ _ cl_GCDesk))) (.k rfl (.cells (.k (.a (.k (.c rfl) (.k (.c rfl) (.k (.c rfl) (.k (.c rfl) (.k (.ms rfl rfl) (.k (.c rfl) (.k (.c rfl) (.k (.c rfl) (.k (.ms rfl rfl) (.k (.c rfl) (.k (.ms rfl rfl) .z)))))))))))) .z)) .z)))) (.d (x':=b_6) rfl (by kernel_rfl) (.cells (.r (cleanMap _ _ cl_GTake))) (.d (x':=b_5) rfl (by kernel_rfl) (.cells (.r (cleanMap _ _ cl_GCLive))) (.f rfl (by kernel_rfl) (.f rfl (by kernel_rfl) (.f rfl (by kernel_rfl) (.d (x':=b_1) rfl (by kernel_rfl) (.cells (.r (cleanMap _ _ cl_GCDesk))) (.d (x':=.cells 11 [.agg [.i r5,.i a0.now,.i a0.end_,v_4,v_1,.i a0.from_,.i a0.to_,.i a0.times,.ms 5 0 r8.2.1.length,.fn 31 [],.ms 6 0 r8.2.2.length]]) rfl (by kernel_rfl) (.cells (.k (.a (.k (.c rfl) (.k (.c rfl) (.k (.c rfl) (.k (.c rfl) (.k (.ms rfl rfl) (.k (.c rfl) (.k (.c rfl) (.k (.c rfl) (.k (.ms rfl rfl) (.k (.c rfl) (.k (.ms rfl rfl) .z)))))))))))) .z)) .z))))))))) ?_
      let v_11:AV:=.i (wr (a0.times - 1))
      let w_9:AV:=.agg [.i r5,.i a0.now,.i a0.end_,v_4,v_1,.i a0.from_,.i a0.to_,v_11,v_9,.fn 31 [],v_10]
      let s_8:St:=⟨[(11,b_6),(10,b_5),(8,.cells 3 [w_8]),(4,.cells 3 [w_1]),(1,b_1),(0,.cells 11 [w_9])],12⟩
      refine run1z (c13 34) [] [0,2,6] [.mp 0 0 0,.mp 4 0 0,.mp 8 0 0] s_8 _ (by kernel_rfl) cj0 ?_
      obtain ⟨r9,hr9,hj1⟩:=bindE hj1
      let v_12:AV:=.ms 1 0 r9.length
      let w_10:AV:=.agg [.i r5,.i a0.from_,.i a0.end_,v_4,v_12,.i a0.from_,.i a0.to_,v_11,v_9,.fn 31 [],v_10]
      let b_7:Blk:=.cells 3 (r9.map E_GCDesk)
      let s_9:St:=⟨[(11,b_6),(10,b_5),(8,.cells 3 [w_8]),(4,.cells 3 [w_1]),(1,b_7),(0,.cells 11 [w_10])],12⟩
      refine run0z [{},{},{},{},{},{ c:=some (.tup [],s_9) }] [0,2,6] [.mp 0 0 0,.mp 4 0 0,.mp 8 0 0] s_9 _ (by kernel_rfl) (cj1 (callF (f37_ok (⟨(⟨r5⟩:GCClock),a0.now,a0.end_,a0.waiting,a0.desks,a0.from_,a0.to_,(wr (a0.times - 1)),(⟨r8.2.1⟩:GCShelf_live),r8.2.2⟩:GCPlayer) a0.from_ _ hr9) [(0,0),(1,1),(2,10),(3,11)] [(11,3),(10,2),(1,1),(0,0)] [8,4] [.mp 0 0 0,.i a0.from_] s_8 (.tup []) s_9 (by kernel_rfl) (.k (.mp rfl rfl) (.k (.c rfl) .z)) (.t .z) (.k rfl (.cells (.r (cleanMap _ _ cl_GTake))) (.k rfl (.cells (.r (cleanMap _ _ cl_GCLive))) (.k rfl (.cells (.r (cleanMap _ _ cl_GCDesk))) (.k rfl (.cells (.k (.a (.k (.c rfl) (.k (.c rfl) (.k (.c rfl) (.k (.c rfl) (.k (.ms rfl rfl) (.k (.c rfl) (.k (.c rfl) (.k (.c rfl) (.k (.ms rfl rfl) (.k (.c rfl) (.k (.ms rfl rfl) .z)))))))))))) .z)) .z)))) (.d (x':=b_6) rfl (by kernel_rfl) (.cells (.r (cleanMap _ _ cl_GTake))) (.d (x':=b_5) rfl (by kernel_rfl) (.cells (.r (cleanMap _ _ cl_GCLive))) (.f rfl (by kernel_rfl) (.f rfl (by kernel_rfl) (.d (x':=b_7) rfl (by kernel_rfl) (.cells (.r (cleanMap _ _ cl_GCDesk))) (.d (x':=.cells 11 [.agg [.i r5,.i a0.from_,.i a0.end_,v_4,v_12,.i a0.from_,.i a0.to_,v_11,.ms 2 0 r8.2.1.length,.fn 31 [],.ms 3 0 r8.2.2.length]]) rfl (by kernel_rfl) (.cells (.k (.a (.k (.c rfl) (.k (.c rfl) (.k (.c rfl) (.k (.c rfl) (.k (.ms rfl rfl) (.k (.c rfl) (.k (.c rfl) (.k (.c rfl) (.k (.ms rfl rfl) (.k (.c rfl) (.k (.ms rfl rfl) .z)))))))))))) .z)) .z)))))))) ?_
      replace hj1:=Option.some.inj hj1; subst hj1
      refine thenN ?_
      exact kj1 (a0.from_,r9,(wr (a0.times - 1)),r8.2.1,r8.2.2,r8.1) rfl
     ·refine run_cF 52 (c13 30) (c13 35) j2_52 hc7 (by kernel_rfl) (by kernel_rfl) ?_
      let w_11:AV:=.agg [.i r5,.i r1.1,.i a0.end_,v_4,v_1,.i a0.from_,.i a0.to_,.i a0.times,v_0,.fn 31 [],v_2]
      let s_10:St:=⟨[(8,.cells 3 [w_1]),(7,b_3),(4,.cells 3 [w_1]),(3,b_2),(2,b_0),(1,b_1),(0,.cells 11 [w_11])],9⟩
      refine run1z (c13 37) [] [0,2,4,6] [.mp 0 0 0,.mp 4 0 0,.mp 7 0 0,.mp 8 0 0] s_10 _ (by kernel_rfl) cj0 ?_
      obtain ⟨r10,hr10,hj1⟩:=bindE hj1
      let v_13:AV:=.sl false (r10.1.map E_GVoice)
      let v_14:AV:=.ms 10 0 r10.2.1.length
      let v_15:AV:=.ms 11 0 r10.2.2.length
      let w_12:AV:=.agg [.i r5,.i r1.1,.i a0.end_,v_4,v_1,.i a0.from_,.i a0.to_,.i a0.times,v_14,.fn 31 [],v_15]
      let b_8:Blk:=.cells 7 (r10.2.1.map E_GCLive)
      let b_9:Blk:=.cells 5 (r10.2.2.map E_GTake)
      let s_11:St:=⟨[(11,b_9),(10,b_8),(8,.cells 3 [w_1]),(7,b_3),(4,.cells 3 [w_1]),(1,b_1),(0,.cells 11 [w_12])],12⟩
      refine run0z [{},{},{ c:=some (v_13,s_11) }] [0,2,6] [.mp 0 0 0,.mp 4 0 0,.mp 8 0 0] ⟨[(11,b_9),(10,b_8),(8,.cells 3 [.agg [.i 0,.sl true [],v_13]]),(4,.cells 3 [w_1]),(1,b_1),(0,.cells 11 [w_12])],12⟩ _ (by kernel_rfl) (cj1 (callF (f35_1_ok (⟨(⟨r5⟩:GCClock),r1.1,a0.end_,a0.waiting,a0.desks,a0.from_,a0.to_,a0.times,a0.sounding,a0.takes⟩:GCPlayer) r1.1 _ hr10) [(0,0),(1,1),(2,2),(3,3),(4,7)] [(11,7),(10,6),(7,4),(1,1),(0,0)] [8,4] [.mp 0 0 0,.fn 38 [.mp 7 0 0]] s_10 (v_13) s_11 (by kernel_rfl) (.k (.mp rfl rfl) (.k (.f (.k (.mp rfl rfl) .z)) .z)) (.c (cleanMap _ _ cl_GVoice)) (.k rfl (.cells (.k (.c rfl) .z)) (.k rfl (.cells (.r (cleanMap _ _ cl_GTake))) (.k rfl (.cells (.r (cleanMap _ _ cl_GCLive))) (.k rfl (.cells (.r (cleanMap _ _ cl_GCDesk))) (.k rfl (.cells (.k (.a (.k (.c rfl) (.k (.c rfl) (.k (.c rfl) (.k (.c rfl) (.k (.ms rfl rfl) (.k (.c rfl) (.k (.c rfl) (.k (.c rfl) (.k (.ms rfl rfl) (.k (.c rfl) (.k (.ms rfl rfl) .z)))))))))))) .z)) .z))))) (.d (x':=b_9) rfl (by kernel_rfl) (.cells (.r (cleanMap _ _ cl_GTake))) (.d (x':=b_8) rfl (by kernel_rfl) (.cells (.r (cleanMap _ _ cl_GCLive))) (.f rfl (by kernel_rfl) (.d (x':=b_3) rfl (by kernel_rfl) (.cells (.k (.c rfl) .z)) (.f rfl (by kernel_rfl) (.d (x':=b_1) rfl (by kernel_rfl) (.cells (.r (cleanMap _ _ cl_GCDesk))) (.d (x':=.cells 11 [.agg [.i r5,.i r1.1,.i a0.end_,v_4,v_1,.i a0.from_,.i a0.to_,.i a0.times,.ms 6 0 r10.2.1.length,.fn 31 [],.ms 7 0 r10.2.2.length]]) rfl (by kernel_rfl) (.cells (.k (.a (.k (.c rfl) (.k (.c rfl) (.k (.c rfl) (.k (.c rfl) (.k (.ms rfl rfl) (.k (.c rfl) (.k (.c rfl) (.k (.c rfl) (.k (.ms rfl rfl) (.k (.c rfl) (.k (.ms rfl rfl) .z)))))))))))) .z)) .z))))))))) ?_
      replace hj1:=Option.some.inj hj1; subst hj1
      refine thenN ?_
      exact kj1 (r1.1,a0.desks,a0.times,r10.2.1,r10.2.2,r10.1) rfl
   ·rintro ⟨j1_h0_1,j1_h0_4,j1_h0_7,j1_h0_8,j1_h0_10,j1_h8_2⟩ rfl
    let v_16:AV:=.sl false (j1_h8_2.map E_GVoice)
    let v_17:AV:=.ms 11 0 j1_h0_10.length
    let v_18:AV:=.ms 1 0 j1_h0_4.length
    let w_13:AV:=.agg [.i r5,.i j1_h0_1,.i a0.end_,v_4,v_18,.i a0.from_,.i a0.to_,.i j1_h0_7,.ms 10 0 j1_h0_8.length,.fn 31 [],v_17]
    let w_14:AV:=.agg [.i j1_h0_1,.sl true [],v_16]
    let b_10:Blk:=.cells 5 (j1_h0_10.map E_GTake)
    let b_11:Blk:=.cells 3 (j1_h0_4.map E_GCDesk)
    let s_12:St:=⟨[(11,b_10),(10,.cells 7 (j1_h0_8.map E_GCLive)),(8,.cells 3 [w_14]),(4,.cells 3 [w_1]),(1,b_11),(0,.cells 11 [w_13])],12⟩
    refine run1z (c13 40) [] [0,2,6] [.mp 0 0 0,.mp 4 0 0,.mp 8 0 0] s_12 _ (by kernel_rfl) cj0 ?_
    obtain ⟨r11,hr11,h⟩:=bindE h
    let v_19:AV:=.sl false (r11.1.map E_GVoice)
    let v_20:AV:=.ms 12 0 r11.2.length
    let w_15:AV:=.agg [.i r5,.i j1_h0_1,.i a0.end_,v_4,v_18,.i a0.from_,.i a0.to_,.i j1_h0_7,v_20,.fn 31 [],v_17]
    let b_12:Blk:=.cells 3 [.agg [.i j1_h0_1,v_19,v_16]]
    let b_13:Blk:=.cells 7 (r11.2.map E_GCLive)
    let b_14:Blk:=.cells 11 [w_15]
    let s_13:St:=⟨[(12,b_13),(11,b_10),(8,.cells 3 [w_14]),(4,.cells 3 [w_1]),(1,b_11),(0,b_14)],14⟩
    refine run1z (c13 42) [{},{ c:=some (v_19,s_13) }] [2,6] [.mp 4 0 0,.mp 8 0 0] ⟨[(12,b_13),(11,b_10),(8,b_12),(4,.cells 3 [w_1]),(1,b_11),(0,b_14)],14⟩ _ (by kernel_rfl) (cj1 (callF (f33_ok (⟨(⟨r5⟩:GCClock),j1_h0_1,a0.end_,a0.waiting,j1_h0_4,a0.from_,a0.to_,j1_h0_7,(⟨j1_h0_8⟩:GCShelf_live),j1_h0_10⟩:GCPlayer) _ hr11) [(0,0),(1,1),(2,10),(3,11)] [(12,4),(11,3),(1,1),(0,0)] [8,4] [.mp 0 0 0] s_12 (v_19) s_13 (by kernel_rfl) (.k (.mp rfl rfl) .z) (.c (cleanMap _ _ cl_GVoice)) (.k rfl (.cells (.r (cleanMap _ _ cl_GTake))) (.k rfl (.cells (.r (cleanMap _ _ cl_GCLive))) (.k rfl (.cells (.r (cleanMap _ _ cl_GCDesk))) (.k rfl (.cells (.k (.a (.k (.c rfl) (.k (.c rfl) (.k (.c rfl) (.k (.c rfl) (.k (.ms rfl rfl) (.k (.c rfl) (.k (.c rfl) (.k (.c rfl) (.k (.ms rfl rfl) (.k (.c rfl) (.k (.ms rfl rfl) .z)))))))))))) .z)) .z)))) (.d (x':=b_13) rfl (by kernel_rfl) (.cells (.r (cleanMap _ _ cl_GCLive))) (.d (x':=b_10) rfl (by kernel_rfl) (.cells (.r (cleanMap _ _ cl_GTake))) (.f rfl (by kernel_rfl) (.f rfl (by kernel_rfl) (.d (x':=b_11) rfl (by kernel_rfl) (.cells (.r (cleanMap _ _ cl_GCDesk))) (.d (x':=.cells 11 [.agg [.i r5,.i j1_h0_1,.i a0.end_,v_4,v_18,.i a0.from_,.i a0.to_,.i j1_h0_7,.ms 4 0 r11.2.length,.fn 31 [],.ms 3 0 j1_h0_10.length]]) rfl (by kernel_rfl) (.cells (.k (.a (.k (.c rfl) (.k (.c rfl) (.k (.c rfl) (.k (.c rfl) (.k (.ms rfl rfl) (.k (.c rfl) (.k (.c rfl) (.k (.c rfl) (.k (.ms rfl rfl) (.k (.c rfl) (.k (.ms rfl rfl) .z)))))))))))) .z)) .z)))))))) ?_
    refine run1z (c13 44) [] [2,3] [.mp 4 0 0,.i 0] ⟨[(12,b_13),(11,b_10),(4,b_12),(1,b_11),(0,b_14)],14⟩ _ (by kernel_rfl) cj0 ?_
    let w_16:AV:=.agg [.i r5,.i j1_h0_1,.i a0.end_,v_4,v_18,.i a0.from_,.i a0.to_,.i j1_h0_7,.ms 14 0 r11.2.length,.fn 31 [],.ms 15 0 j1_h0_10.length]
    refine run_i 14 [(14,12),(15,11)] [2,3] [.mp 4 0 0,.i 0] (xs:=[.mp 4 0 0,.i 0]) (S2:=⟨[(15,b_10),(14,b_13),(4,.cells 3 [E_GFrame (⟨j1_h0_1,r11.1,j1_h8_2⟩:GFrame)]),(1,b_11),(0,.cells 11 [w_16])],16⟩) ?_ (by intro i e; cases e <;> exact Nat.le_of_ble_eq_true rfl) (by kernel_rfl) (by kernel_rfl) (by kernel_rfl) (.k (.mp rfl rfl) (.k (.c rfl) .z)) (.k rfl (.cells (.r (cleanMap _ _ cl_GTake))) (.k rfl (.cells (.r (cleanMap _ _ cl_GCLive))) (.k rfl (.cells (.k (.c (cl_GFrame (⟨j1_h0_1,r11.1,j1_h8_2⟩:GFrame))) .z)) (.k rfl (.cells (.r (cleanMap _ _ cl_GCDesk))) (.k rfl (.cells (.k (.a (.k (.c rfl) (.k (.c rfl) (.k (.c rfl) (.k (.c rfl) (.k (.ms rfl rfl) (.k (.c rfl) (.k (.c rfl) (.k (.c rfl) (.k (.ms rfl rfl) (.k (.c rfl) (.k (.ms rfl rfl) .z)))))))))))) .z)) .z)))))
    refine run_t (by kernel_rfl) ?_
    replace h:=Option.some.inj h; subst h
    exact fin_p [15,14,1,0] ⟨[(15,b_10),(14,b_13),(1,b_11),(0,.cells 11 [w_16])],16⟩ (by kernel_rfl) (by kernel_rfl) rfl ⟨rfl,rfl⟩
end Go.Proofs.Ytpljabnngpnieaa
