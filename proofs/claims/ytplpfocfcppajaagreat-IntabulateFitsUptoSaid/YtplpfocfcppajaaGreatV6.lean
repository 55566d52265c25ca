/-
 Functions of the program as Lean functions,and the walks. Written by a program of ours.
-/
import Derived.Test.YtplpfocfcppajaaGreatAm31
import Derived.Test.YtplpfocfcppajaaGreatChecked
import Derived.Test.YtplpfocfcppajaaGreatWk
import Derived.Test.YtplpfocfcppajaaGreatLay
namespace Go.Proofs.YtplpfocfcppajaaGreat
open Go Go.Am
set_option maxRecDepth 100000
set_option linter.all false
structure GTone where
 pitch:Int
 from_:Int
 to_:Int
 deriving DecidableEq
def E_GTone (x:GTone):AV:=.agg [.i x.pitch,.i x.from_,.i x.to_]
theorem cl_GTone (x:GTone):(E_GTone x).clean = true:=(clK rfl (clK rfl (clK rfl clZ)))
theorem sz_GTone (x:GTone):(E_GTone x).cells.length = 3:=rfl
structure GFigure where
 interval:Int
 moves:(List Int)
 shares:(List Int)
 deriving DecidableEq
structure GCourse where
 pitch:Int
 frets:Int
 octave:Bool
 deriving DecidableEq
def E_GCourse (x:GCourse):AV:=.agg [.i x.pitch,.i x.frets,.bool x.octave]
theorem cl_GCourse (x:GCourse):(E_GCourse x).clean = true:=(clK rfl (clK rfl (clK rfl clZ)))
structure GInstrument where
 courses:(List GCourse)
 steps:(List Int)
 deriving DecidableEq
def E_GInstrument (x:GInstrument):AV:=.agg [.sl false (x.courses.map E_GCourse),.sl false (x.steps.map AV.i)]
theorem cl_GInstrument (x:GInstrument):(E_GInstrument x).clean = true:=(clK (cleanMap _ _ cl_GCourse) (clK (cleanMap _ _ cl_i) clZ))
structure GPlace where
 course:Int
 fret:Int
 deriving DecidableEq
def E_GPlace (x:GPlace):AV:=.agg [.i x.course,.i x.fret]
theorem cl_GPlace (x:GPlace):(E_GPlace x).clean = true:=(clK rfl (clK rfl clZ))
noncomputable def c70 (k:Nat):Code:=nthC (subs (Tryz.f70.body.getD .skip)) k
noncomputable def c100 (k:Nat):Code:=nthC (subs (Tryz.f100.body.getD .skip)) k
noncomputable def c69 (k:Nat):Code:=nthC (subs (Tryz.f69.body.getD .skip)) k
noncomputable def c71 (k:Nat):Code:=nthC (subs (Tryz.f71.body.getD .skip)) k
noncomputable def c36 (k:Nat):Code:=nthC (subs (Tryz.f36.body.getD .skip)) k
noncomputable def c72 (k:Nat):Code:=nthC (subs (Tryz.f72.body.getD .skip)) k
noncomputable def c38 (k:Nat):Code:=nthC (subs (Tryz.f38.body.getD .skip)) k
noncomputable def c18 (k:Nat):Code:=nthC (subs (Tryz.f18.body.getD .skip)) k
noncomputable def c6 (k:Nat):Code:=nthC (subs (Tryz.f6.body.getD .skip)) k
noncomputable def c53 (k:Nat):Code:=nthC (subs (Tryz.f53.body.getD .skip)) k
noncomputable def c94 (k:Nat):Code:=nthC (subs (Tryz.f94.body.getD .skip)) k
def f48 (a0:Int) (a1:Int) (a2:Int):Option Bool:=((bif (decide (a1 ≤ a0)) then (some (decide (a0 ≤ a2))) else (some false)):Option Bool).bind fun (j1_6:Bool)=>some j1_6
def f56 (a0:GFigure):Option Bool:=(((f48 a0.interval (-24) 24).bind fun r1=>bif (!r1) then (some true) else ((f48 (a0.moves.length:Int) 1 32).bind fun r3=>bif (!r3) then (some true) else (bif (decide ((a0.shares.length:Int) ≠ (a0.moves.length:Int))) then (some true) else ((ix a0.moves 0).bind fun y6=>some (decide (y6 ≠ 0)))))):Option Bool).bind fun (j1_30:Bool)=>bif j1_30 then (some false) else ((loopN (σ:=Int) (τ:=(Unit ⊕ Bool)) (fun (l2_34:Int)=>bif (decide (l2_34 < (a0.moves.length:Int))) then ((((ix a0.moves l2_34).bind fun y9=>(f48 y9 (-24) 24).bind fun r10=>bif (!r10) then (some true) else ((ix a0.shares l2_34).bind fun y12=>(f48 y12 1 64).bind fun r13=>some (!r13))):Option Bool).bind fun (j3_52:Bool)=>bif j3_52 then (some (.inr (.inr false))) else (some (.inl (wr (l2_34 + 1))))) else (some (.inr (.inl ())))) FUEL 0).bind (Sum.elim (fun (_:Unit)=>some true) some))
def f25 (a0:List GFigure):Option Int:=bif (decide (64 < (a0.length:Int))) then (some 2) else ((loopN (σ:=Int) (τ:=(Unit ⊕ Int)) (fun (l1_10:Int)=>bif (decide (l1_10 < (a0.length:Int))) then ((ix a0 l1_10).bind fun y3=>(f56 y3).bind fun r4=>bif (!r4) then (some (.inr (.inr 81))) else (some (.inl (wr (l1_10 + 1))))) else (some (.inr (.inl ())))) FUEL 0).bind (Sum.elim (fun (_:Unit)=>some 0) some))
def f57 (a0:GFigure):Option Bool:=((bif (decide (a0.interval < -24)) then (some true) else (bif (decide (24 < a0.interval)) then (some true) else (bif (decide ((a0.moves.length:Int) ≠ (a0.shares.length:Int))) then (some true) else (bif (decide ((a0.moves.length:Int) < 1)) then (some true) else (bif (decide (32 < (a0.moves.length:Int))) then (some true) else ((ix a0.moves 0).bind fun y6=>some (decide (y6 ≠ 0)))))))):Option Bool).bind fun (j1_39:Bool)=>bif j1_39 then (some false) else ((loopN (σ:=Int) (τ:=(Unit ⊕ Bool)) (fun (l2_3:Int)=>bif (decide (l2_3 < (a0.moves.length:Int))) then ((((ix a0.moves l2_3).bind fun y9=>bif (decide (y9 < -24)) then (some true) else (bif (decide (24 < y9)) then (some true) else ((ix a0.shares l2_3).bind fun y12=>bif (decide (y12 < 1)) then (some true) else (some (decide (64 < y12)))))):Option Bool).bind fun (j3_76:Bool)=>bif j3_76 then (some (.inr (.inr false))) else (some (.inl (wr (l2_3 + 1))))) else (some (.inr (.inl ())))) FUEL 0).bind (Sum.elim (fun (_:Unit)=>some true) some))
def f26 (a0:List GFigure):Option Int:=bif (decide (64 < (a0.length:Int))) then (some 2) else ((loopN (σ:=Int) (τ:=(Unit ⊕ Int)) (fun (l1_3:Int)=>bif (decide (l1_3 < (a0.length:Int))) then ((ix a0 l1_3).bind fun y3=>(f57 y3).bind fun r4=>bif (!r4) then (some (.inr (.inr 81))) else (some (.inl (wr (l1_3 + 1))))) else (some (.inr (.inl ())))) FUEL 0).bind (Sum.elim (fun (_:Unit)=>some 0) some))
def f70 (a0:List GTone):Option Bool:=some (decide (400 < (a0.length:Int)))
theorem f70_ok (a0:List GTone) (r:Bool) (h:f70 a0 = some r):APure Tryz.prog 70 [.sl false (a0.map E_GTone)] (.bool r):=by
 refine apure (clK (cleanMap a0 _ cl_GTone) clZ) rfl ?_
 refine run_f 6 [.tmp 2] (c70 0) (zipE [0] [.sl false (a0.map E_GTone)]) (by kernel_rfl) (by kernel_rfl) (by kernel_rfl) rfl ?_
 unfold f70 at h
 refine run1z (c70 2) [] [0] [.sl false (a0.map E_GTone)] ⟨[],0⟩ _ (by kernel_rfl) cj0 ?_
 refine run1z (c70 4) [{},{ k:=1,n:=a0.length }] [2] [.bool (decide (400 < (a0.length:Int)))] ⟨[],0⟩ _ (by kernel_rfl) (cj1 (mapLen a0 E_GTone)) ?_
 refine run_t (by kernel_rfl) ?_
 replace h:=Option.some.inj h; subst h
 exact fin_r (by kernel_rfl) rfl
def f100 (a0:List (List GTone)):Option Int:=(loopN (σ:=Int) (τ:=(Unit ⊕ Int)) (fun (l1_8:Int)=>bif (decide (l1_8 < (a0.length:Int))) then ((ix a0 l1_8).bind fun y2=>(f70 y2).bind fun r3=>bif r3 then (some (.inr (.inr l1_8))) else (some (.inl (wr (l1_8 + 1))))) else (some (.inr (.inl ())))) FUEL 0).bind (Sum.elim (fun (_:Unit)=>some (-1)) some)
theorem f100_ok (a0:List (List GTone)) (r:Int) (h:f100 a0 = some r):APure Tryz.prog 100 [.sl false (a0.map (SL E_GTone)),.fn 70 []] (.i r):=by
 refine apure (clK (cleanMap a0 _ (cl_SL cl_GTone)) (clK rfl clZ)) rfl ?_
 refine run_f 19 [.tmp 4] (c100 0) (zipE [0,1] [.sl false (a0.map (SL E_GTone)),.fn 70 []]) (by kernel_rfl) (by kernel_rfl) (by kernel_rfl) rfl ?_
 unfold f100 at h
 refine run1z (c100 2) [] [0,1] [.sl false (a0.map (SL E_GTone)),.fn 70 []] ⟨[],0⟩ _ (by kernel_rfl) cj0 ?_
 refine run_s (c100 3) (c100 25) (by kernel_rfl) ?_
 refine run1z (c100 5) [{},{ k:=1,n:=a0.length }] [0,1,7,8] [.sl false (a0.map (SL E_GTone)),.fn 70 [],.i (a0.length:Int),.i 0] ⟨[],0⟩ _ (by kernel_rfl) (cj1 (mapLen a0 (SL E_GTone))) ?_
 obtain ⟨ol1x,hll1x,h⟩:=bindE h
 refine run_tq (fun (_:Unit)=>(zipE [] [])) (fun (_:Unit)=>⟨[],0⟩) (fun j=>ol1x = .inl j) (fun kl1=>?_) ?_
 ·refine run_b 0 (c100 6) (by kernel_rfl) ?_
  refine run_l (c100 7) _ hll1x (fun (l1_8:Int)=>(zipE [0,1,7,8] [.sl false (a0.map (SL E_GTone)),.fn 70 [],.i (a0.length:Int),.i l1_8])) (fun (l1_8:Int)=>⟨[],0⟩) [] (by intro i e; cases e <;> exact Nat.le_of_ble_eq_true rfl) (by kernel_rfl) (mkInto (ks:=[0,1,7,8]) (ys:=[.sl false (a0.map (SL E_GTone)),.fn 70 [],.i (a0.length:Int),.i 0]) (by kernel_rfl) (by kernel_rfl) (.k (.c (cleanMap _ _ (cl_SL cl_GTone))) (.k (.c rfl) (.k (.c rfl) (.k (.c rfl) .z)))) .z) ?_
  rintro l1_8 out hl1 rl1
  refine run1z (c100 9) [] [0,1,7,8,9] [.sl false (a0.map (SL E_GTone)),.fn 70 [],.i (a0.length:Int),.i l1_8,.bool (decide (l1_8 < (a0.length:Int)))] ⟨[],0⟩ _ (by kernel_rfl) cj0 ?_
  refine run_s (c100 10) (c100 13) (by kernel_rfl) ?_
  rcases iteE hl1 with ⟨hc1,hl1⟩ | ⟨hc1,hl1⟩
  ·refine run_cT 9 (c100 11) (c100 12) (decide (l1_8 < (a0.length:Int))) hc1 (by kernel_rfl) (by kernel_rfl) ?_
   refine run_k (by kernel_rfl) ?_
   refine thenN ?_
   refine run_s (c100 14) (c100 24) (by kernel_rfl) ?_
   refine run_b 1 (c100 15) (by kernel_rfl) ?_
   refine run1z (c100 17) [] [0,1,5,7,8] [.sl false (a0.map (SL E_GTone)),.fn 70 [],.i l1_8,.i (a0.length:Int),.i l1_8] ⟨[],0⟩ _ (by kernel_rfl) cj0 ?_
   obtain ⟨y2,hy2,hl1⟩:=bindE hl1
   obtain ⟨r3,hr3,hl1⟩:=bindE hl1
   refine run1z (c100 19) [{},{},{},{ k:=1,x:=(SL E_GTone) y2 },{},{ c:=some (.bool r3,⟨[],0⟩) }] [0,1,5,7,8,16] [.sl false (a0.map (SL E_GTone)),.fn 70 [],.i l1_8,.i (a0.length:Int),.i l1_8,.bool r3] ⟨[],0⟩ _ (by kernel_rfl) (cjC ((ixE hy2).1) (cjC (mapGet (SL E_GTone) (ixE hy2).2) (cj1 (f70_ok y2 _ hr3 ⟨[],0⟩)))) ?_
   rcases iteE hl1 with ⟨hc4,hl1⟩ | ⟨hc4,hl1⟩
   ·refine run_cT 16 (c100 20) (c100 23) r3 hc4 (by kernel_rfl) (by kernel_rfl) ?_
    refine run1z (c100 22) [] [4] [.i l1_8] ⟨[],0⟩ _ (by kernel_rfl) cj0 ?_
    replace hl1:=Option.some.inj hl1; subst hl1
    have hr:=rl1 _ rfl
    subst hr
    replace h:=elimR h
    refine run_t (by kernel_rfl) ?_
    refine inbR ?_
    refine thenR ?_
    refine ⟨⟨_,rfl⟩,?_⟩
    refine inbR ?_
    refine thenR ?_
    replace h:=Option.some.inj h; subst h
    exact fin_r (by kernel_rfl) rfl
   ·refine run_cF 16 (c100 20) (c100 23) r3 hc4 (by kernel_rfl) (by kernel_rfl) ?_
    refine run_k (by kernel_rfl) ?_
    refine inbN ?_
    refine thenN ?_
    refine run0z [] [0,1,7,8] [.sl false (a0.map (SL E_GTone)),.fn 70 [],.i (a0.length:Int),.i (wr (l1_8 + 1))] ⟨[],0⟩ _ (by kernel_rfl) cj0 ?_
    replace hl1:=Option.some.inj hl1; subst hl1
    exact ⟨_,rfl,pi [],mkInto (ks:=[0,1,7,8]) (ys:=[.sl false (a0.map (SL E_GTone)),.fn 70 [],.i (a0.length:Int),.i (wr (l1_8 + 1))]) (by kernel_rfl) (by kernel_rfl) (.k (.c (cleanMap _ _ (cl_SL cl_GTone))) (.k (.c rfl) (.k (.c rfl) (.k (.c rfl) .z)))) .z⟩
  ·refine run_cF 9 (c100 11) (c100 12) (decide (l1_8 < (a0.length:Int))) hc1 (by kernel_rfl) (by kernel_rfl) ?_
   replace hl1:=Option.some.inj hl1; subst hl1
   have hr:=rl1 _ rfl
   subst hr
   refine awp_p [] [] (zipE [] []) ⟨[],0⟩ (by kernel_rfl) (?_)
   refine run_e 0 (by kernel_rfl) ?_
   refine thenE ?_
   refine ⟨⟨_,rfl⟩,?_⟩
   refine inbE ?_
   exact kl1 () rfl
 ·rintro ⟨⟩ rfl
  replace h:=elimL h
  refine thenN ?_
  refine run1z (c100 27) [] [4] [.i (-1)] ⟨[],0⟩ _ (by kernel_rfl) cj0 ?_
  refine run_t (by kernel_rfl) ?_
  replace h:=Option.some.inj h; subst h
  exact fin_r (by kernel_rfl) rfl
def f69 (a0:List (List GTone)):Option Bool:=(f100 a0).bind fun r1=>some (decide (0 ≤ r1))
theorem f69_ok (a0:List (List GTone)) (r:Bool) (h:f69 a0 = some r):APure Tryz.prog 69 [.sl false (a0.map (SL E_GTone)),.fn 70 []] (.bool r):=by
 refine apure (clK (cleanMap a0 _ (cl_SL cl_GTone)) (clK rfl clZ)) rfl ?_
 refine run_f 9 [.tmp 4] (c69 0) (zipE [0,1] [.sl false (a0.map (SL E_GTone)),.fn 70 []]) (by kernel_rfl) (by kernel_rfl) (by kernel_rfl) rfl ?_
 unfold f69 at h
 refine run1z (c69 2) [] [0,1] [.sl false (a0.map (SL E_GTone)),.fn 70 []] ⟨[],0⟩ _ (by kernel_rfl) cj0 ?_
 obtain ⟨r1,hr1,h⟩:=bindE h
 refine run1z (c69 4) [{},{},{ c:=some (.i r1,⟨[],0⟩) }] [4] [.bool (decide (0 ≤ r1))] ⟨[],0⟩ _ (by kernel_rfl) (cj1 (f100_ok a0 _ hr1 ⟨[],0⟩)) ?_
 refine run_t (by kernel_rfl) ?_
 replace h:=Option.some.inj h; subst h
 exact fin_r (by kernel_rfl) rfl
def f71 (a0:Int) (a1:Int) (a2:Int):Option Bool:=((bif (decide (a1 ≤ a0)) then (some (decide (a0 ≤ a2))) else (some false)):Option Bool).bind fun (j1_6:Bool)=>some j1_6
theorem f71_ok (a0:Int) (a1:Int) (a2:Int) (r:Bool) (h:f71 a0 a1 a2 = some r):APure Tryz.prog 71 [.i a0,.i a1,.i a2] (.bool r):=by
 refine apure (clK rfl (clK rfl (clK rfl clZ))) rfl ?_
 refine run_f 15 [.tmp 6] (c71 0) (zipE [0,1,2] [.i a0,.i a1,.i a2]) (by kernel_rfl) (by kernel_rfl) (by kernel_rfl) rfl ?_
 unfold f71 at h
 refine run1z (c71 2) [] [0,1,2] [.i a0,.i a1,.i a2] ⟨[],0⟩ _ (by kernel_rfl) cj0 ?_
 obtain ⟨j1_6,hj1,h⟩:=bindE h
 refine run_gq (c71 4) (fun (j1_6:Bool)=>(zipE [6] [.bool j1_6])) (fun (j1_6:Bool)=>⟨[],0⟩) (fun j=>j1_6 = j) (fun kj1=>?_) ?_
 ·rcases iteE hj1 with ⟨hc1,hj1⟩ | ⟨hc1,hj1⟩
  ·replace hj1:=Option.some.inj hj1; subst hj1
   exact run1z (c71 4) [{},{},{},{},{},{},{},{ k:=1,b:=true }] [6] [.bool (decide (a0 ≤ a2))] ⟨[],0⟩ _ (by kernel_rfl) (cjC (hc1) (cjC (hc1) (cjC (hc1) (cj1 (hc1))))) (kj1 (decide (a0 ≤ a2)) rfl)
  ·replace hj1:=Option.some.inj hj1; subst hj1
   exact run1z (c71 4) [{},{},{},{},{ g:=false },{ g:=false },{ g:=false },{ k:=1,b:=false }] [6] [.bool false] ⟨[],0⟩ _ (by kernel_rfl) (cjC (hc1) (cjC (hc1) (cjC (hc1) (cj1 (hc1))))) (kj1 false rfl)
 ·rintro _ rfl
  refine run_t (by kernel_rfl) ?_
  replace h:=Option.some.inj h; subst h
  exact fin_r (by kernel_rfl) rfl
def f36 (a0:List (List GTone)):Option Int:=((bif (decide (6 < (a0.length:Int))) then (some true) else ((f69 a0).bind fun r2=>some r2)):Option Bool).bind fun (j1_14:Bool)=>bif j1_14 then (some 2) else ((loopN (σ:=Int) (τ:=(Unit ⊕ Int)) (fun (l2_17:Int)=>bif (decide (l2_17 < (a0.length:Int))) then ((ix a0 l2_17).bind fun y5=>(loopN (σ:=(Int × Int)) (τ:=(Unit ⊕ (Int ⊕ (Unit ⊕ Int)))) (fun ((l3_5,l3_23):(Int × Int))=>bif (decide (l3_23 < (y5.length:Int))) then ((ix y5 l3_23).bind fun y7=>(((f71 y7.pitch 0 127).bind fun r8=>bif (!r8) then (some true) else (bif (decide (y7.from_ < l3_5)) then (some true) else (bif (decide (y7.to_ ≤ y7.from_)) then (some true) else (some (decide (262144 < y7.to_)))))):Option Bool).bind fun (j4_48:Bool)=>bif j4_48 then (some (.inr (.inr (.inr (.inr 80))))) else (some (.inl (y7.to_,(wr (l3_23 + 1)))))) else (some (.inr (.inl ())))) FUEL (0,0)).bind (Sum.elim (fun (_:Unit)=>some (.inl (wr (l2_17 + 1)))) some)) else (some (.inr (.inl ())))) FUEL 0).bind (Sum.elim (fun (_:Unit)=>some 0) some))
theorem f36_ok (a0:List (List GTone)) (r:Int) (h:f36 a0 = some r):APure Tryz.prog 36 [.sl false (a0.map (SL E_GTone))] (.i r):=by
 refine apure (clK (cleanMap a0 _ (cl_SL cl_GTone)) clZ) rfl ?_
 refine run_f 53 [.tmp 2] (c36 0) (zipE [0] [.sl false (a0.map (SL E_GTone))]) (by kernel_rfl) (by kernel_rfl) (by kernel_rfl) rfl ?_
 unfold f36 at h
 refine run1z (c36 2) [] [0] [.sl false (a0.map (SL E_GTone))] ⟨[],0⟩ _ (by kernel_rfl) cj0 ?_
 refine run_s (c36 3) (c36 10) (by kernel_rfl) ?_
 obtain ⟨j1_14,hj1,h⟩:=bindE h
 refine run_gq (c36 5) (fun (j1_14:Bool)=>(zipE [0,14] [.sl false (a0.map (SL E_GTone)),.bool j1_14])) (fun (j1_14:Bool)=>⟨[],0⟩) (fun j=>j1_14 = j) (fun kj1=>?_) ?_
 ·rcases iteE hj1 with ⟨hc1,hj1⟩ | ⟨hc1,hj1⟩
  ·replace hj1:=Option.some.inj hj1; subst hj1
   exact run1z (c36 5) [{},{ k:=1,n:=a0.length },{},{},{ g:=false },{ g:=false },{ k:=1,b:=true }] [0,14] [.sl false (a0.map (SL E_GTone)),.bool true] ⟨[],0⟩ _ (by kernel_rfl) (cjC (mapLen a0 (SL E_GTone)) (cjC (hc1) (cjC (hc1) (cj1 (hc1))))) (kj1 true rfl)
  ·obtain ⟨r2,hr2,hj1⟩:=bindE hj1
   replace hj1:=Option.some.inj hj1; subst hj1
   exact run1z (c36 5) [{},{ k:=1,n:=a0.length },{},{},{},{ c:=some (.bool r2,⟨[],0⟩) },{ k:=1,b:=false }] [0,14] [.sl false (a0.map (SL E_GTone)),.bool r2] ⟨[],0⟩ _ (by kernel_rfl) (cjC (mapLen a0 (SL E_GTone)) (cjC (hc1) (cjC (hc1) (cjC (f69_ok a0 _ hr2 ⟨[],0⟩) (cj1 (hc1)))))) (kj1 r2 rfl)
 ·rintro _ rfl
  rcases iteE h with ⟨hc3,h⟩ | ⟨hc3,h⟩
  ·refine run_cT 14 (c36 6) (c36 9) j1_14 hc3 (by kernel_rfl) (by kernel_rfl) ?_
   refine run1z (c36 8) [] [2] [.i 2] ⟨[],0⟩ _ (by kernel_rfl) cj0 ?_
   refine run_t (by kernel_rfl) ?_
   refine thenR ?_
   replace h:=Option.some.inj h; subst h
   exact fin_r (by kernel_rfl) rfl
  ·refine run_cF 14 (c36 6) (c36 9) j1_14 hc3 (by kernel_rfl) (by kernel_rfl) ?_
   refine run_k (by kernel_rfl) ?_
   refine thenN ?_
   refine run_s (c36 11) (c36 52) (by kernel_rfl) ?_
   refine run1z (c36 13) [{},{ k:=1,n:=a0.length }] [15,16,17] [.sl false (a0.map (SL E_GTone)),.i (a0.length:Int),.i 0] ⟨[],0⟩ _ (by kernel_rfl) (cj1 (mapLen a0 (SL E_GTone))) ?_
   obtain ⟨ol2x,hll2x,h⟩:=bindE h
   refine run_tq (fun (_:Unit)=>(zipE [] [])) (fun (_:Unit)=>⟨[],0⟩) (fun j=>ol2x = .inl j) (fun kl2=>?_) ?_
   ·refine run_b 0 (c36 14) (by kernel_rfl) ?_
    refine run_l (c36 15) _ hll2x (fun (l2_17:Int)=>(zipE [15,16,17] [.sl false (a0.map (SL E_GTone)),.i (a0.length:Int),.i l2_17])) (fun (l2_17:Int)=>⟨[],0⟩) [] (by intro i e; cases e <;> exact Nat.le_of_ble_eq_true rfl) (by kernel_rfl) (mkInto (ks:=[15,16,17]) (ys:=[.sl false (a0.map (SL E_GTone)),.i (a0.length:Int),.i 0]) (by kernel_rfl) (by kernel_rfl) (.k (.c (cleanMap _ _ (cl_SL cl_GTone))) (.k (.c rfl) (.k (.c rfl) .z))) .z) ?_
    rintro l2_17 out hl2 rl2
    refine run1z (c36 17) [] [15,16,17,18] [.sl false (a0.map (SL E_GTone)),.i (a0.length:Int),.i l2_17,.bool (decide (l2_17 < (a0.length:Int)))] ⟨[],0⟩ _ (by kernel_rfl) cj0 ?_
    refine run_s (c36 18) (c36 21) (by kernel_rfl) ?_
    rcases iteE hl2 with ⟨hc4,hl2⟩ | ⟨hc4,hl2⟩
    ·refine run_cT 18 (c36 19) (c36 20) (decide (l2_17 < (a0.length:Int))) hc4 (by kernel_rfl) (by kernel_rfl) ?_
     refine run_k (by kernel_rfl) ?_
     refine thenN ?_
     refine run_s (c36 22) (c36 51) (by kernel_rfl) ?_
     refine run_b 1 (c36 23) (by kernel_rfl) ?_
     obtain ⟨y5,hy5,hl2⟩:=bindE hl2
     refine run1z (c36 25) [{ k:=1,x:=(SL E_GTone) y5 }] [4,15,16,17] [.sl false (y5.map E_GTone),.sl false (a0.map (SL E_GTone)),.i (a0.length:Int),.i l2_17] ⟨[],0⟩ _ (by kernel_rfl) (cjC ((ixE hy5).1) (cj1 (mapGet (SL E_GTone) (ixE hy5).2))) ?_
     refine run1z (c36 27) [] [4,5,15,16,17] [.sl false (y5.map E_GTone),.i 0,.sl false (a0.map (SL E_GTone)),.i (a0.length:Int),.i l2_17] ⟨[],0⟩ _ (by kernel_rfl) cj0 ?_
     refine run1z (c36 29) [{},{ k:=1,n:=y5.length }] [5,15,16,17,21,22,23] [.i 0,.sl false (a0.map (SL E_GTone)),.i (a0.length:Int),.i l2_17,.sl false (y5.map E_GTone),.i (y5.length:Int),.i 0] ⟨[],0⟩ _ (by kernel_rfl) (cj1 (mapLen y5 E_GTone)) ?_
     obtain ⟨ol3x,hll3x,hl2⟩:=bindE hl2
     refine run_tq (fun (_:Unit)=>(zipE [15,16,17] [.sl false (a0.map (SL E_GTone)),.i (a0.length:Int),.i l2_17])) (fun (_:Unit)=>⟨[],0⟩) (fun j=>ol3x = .inl j) (fun kl3=>?_) ?_
     ·refine run_b 2 (c36 30) (by kernel_rfl) ?_
      refine run_l (c36 31) _ hll3x (fun ((l3_5,l3_23):(Int × Int))=>(zipE [5,15,16,17,21,22,23] [.i l3_5,.sl false (a0.map (SL E_GTone)),.i (a0.length:Int),.i l2_17,.sl false (y5.map E_GTone),.i (y5.length:Int),.i l3_23])) (fun ((l3_5,l3_23):(Int × Int))=>⟨[],0⟩) [] (by intro i e; cases e <;> exact Nat.le_of_ble_eq_true rfl) (by kernel_rfl) (mkInto (ks:=[5,15,16,17,21,22,23]) (ys:=[.i 0,.sl false (a0.map (SL E_GTone)),.i (a0.length:Int),.i l2_17,.sl false (y5.map E_GTone),.i (y5.length:Int),.i 0]) (by kernel_rfl) (by kernel_rfl) (.k (.c rfl) (.k (.c (cleanMap _ _ (cl_SL cl_GTone))) (.k (.c rfl) (.k (.c rfl) (.k (.c (cleanMap _ _ cl_GTone)) (.k (.c rfl) (.k (.c rfl) .z))))))) .z) ?_
      rintro ⟨l3_5,l3_23⟩ out hl3 rl3
      refine run1z (c36 33) [] [5,15,16,17,21,22,23,24] [.i l3_5,.sl false (a0.map (SL E_GTone)),.i (a0.length:Int),.i l2_17,.sl false (y5.map E_GTone),.i (y5.length:Int),.i l3_23,.bool (decide (l3_23 < (y5.length:Int)))] ⟨[],0⟩ _ (by kernel_rfl) cj0 ?_
      refine run_s (c36 34) (c36 37) (by kernel_rfl) ?_
      rcases iteE hl3 with ⟨hc6,hl3⟩ | ⟨hc6,hl3⟩
      ·refine run_cT 24 (c36 35) (c36 36) (decide (l3_23 < (y5.length:Int))) hc6 (by kernel_rfl) (by kernel_rfl) ?_
       refine run_k (by kernel_rfl) ?_
       refine thenN ?_
       refine run_s (c36 38) (c36 50) (by kernel_rfl) ?_
       refine run_b 3 (c36 39) (by kernel_rfl) ?_
       obtain ⟨y7,hy7,hl3⟩:=bindE hl3
       refine run1z (c36 41) [{ k:=1,x:=E_GTone y7 }] [5,7,15,16,17,21,22,23] [.i l3_5,.mp 0 0 0,.sl false (a0.map (SL E_GTone)),.i (a0.length:Int),.i l2_17,.sl false (y5.map E_GTone),.i (y5.length:Int),.i l3_23] ⟨[(0,.cells 3 [E_GTone y7])],1⟩ _ (by kernel_rfl) (cjC ((ixE hy7).1) (cj1 (mapGet E_GTone (ixE hy7).2))) ?_
       refine run_s (c36 42) (c36 49) (by kernel_rfl) ?_
       obtain ⟨j4_48,hj4,hl3⟩:=bindE hl3
       refine run_gq (c36 44) (fun (j4_48:Bool)=>(zipE [7,15,16,17,21,22,23,48] [.mp 0 0 0,.sl false (a0.map (SL E_GTone)),.i (a0.length:Int),.i l2_17,.sl false (y5.map E_GTone),.i (y5.length:Int),.i l3_23,.bool j4_48])) (fun (j4_48:Bool)=>⟨[(0,.cells 3 [E_GTone y7])],1⟩) (fun j=>j4_48 = j) (fun kj4=>?_) ?_
       ·obtain ⟨r8,hr8,hj4⟩:=bindE hj4
        rcases iteE hj4 with ⟨hc9,hj4⟩ | ⟨hc9,hj4⟩
        ·replace hj4:=Option.some.inj hj4; subst hj4
         exact run1z (c36 44) [{},{},{ c:=some (.bool r8,⟨[(0,.cells 3 [E_GTone y7])],1⟩) },{},{},{ g:=false },{ g:=false },{ g:=false },{ g:=false },{ k:=1,b:=true },{},{ g:=false },{ g:=false },{ g:=false },{ g:=false },{ g:=false },{},{},{ g:=false },{ g:=false },{ g:=false }] [7,15,16,17,21,22,23,48] [.mp 0 0 0,.sl false (a0.map (SL E_GTone)),.i (a0.length:Int),.i l2_17,.sl false (y5.map E_GTone),.i (y5.length:Int),.i l3_23,.bool true] ⟨[(0,.cells 3 [E_GTone y7])],1⟩ _ (by kernel_rfl) (cjC (f71_ok y7.pitch 0 127 _ hr8 ⟨[(0,.cells 3 [E_GTone y7])],1⟩) (cjC (hc9) (cjC (hc9) (cjC (hc9) (cjC (hc9) (cjC (hc9) (cjC (Eq.refl true) (cjC (Eq.refl true) (cjC (Eq.refl true) (cjC (Eq.refl true) (cjC (Eq.refl true) (cjC (Eq.refl true) (cjC (Eq.refl true) (cj1 (Eq.refl true))))))))))))))) (kj4 true rfl)
        ·rcases iteE hj4 with ⟨hc10,hj4⟩ | ⟨hc10,hj4⟩
         ·replace hj4:=Option.some.inj hj4; subst hj4
          exact run1z (c36 44) [{},{},{ c:=some (.bool r8,⟨[(0,.cells 3 [E_GTone y7])],1⟩) },{},{},{},{},{},{},{ k:=1,b:=false },{},{ g:=false },{ g:=false },{ g:=false },{ g:=false },{ g:=false },{ k:=1,b:=true },{},{ g:=false },{ g:=false },{ g:=false }] [7,15,16,17,21,22,23,48] [.mp 0 0 0,.sl false (a0.map (SL E_GTone)),.i (a0.length:Int),.i l2_17,.sl false (y5.map E_GTone),.i (y5.length:Int),.i l3_23,.bool true] ⟨[(0,.cells 3 [E_GTone y7])],1⟩ _ (by kernel_rfl) (cjC (f71_ok y7.pitch 0 127 _ hr8 ⟨[(0,.cells 3 [E_GTone y7])],1⟩) (cjC (hc9) (cjC (hc9) (cjC (hc9) (cjC (hc9) (cjC (hc9) (cjC (hc10) (cjC (hc10) (cjC (hc10) (cjC (hc10) (cjC (hc10) (cjC (hc10) (cjC (Eq.refl true) (cjC (Eq.refl true) (cj1 (Eq.refl true)))))))))))))))) (kj4 true rfl)
         ·rcases iteE hj4 with ⟨hc11,hj4⟩ | ⟨hc11,hj4⟩
          ·replace hj4:=Option.some.inj hj4; subst hj4
           exact run1z (c36 44) [{},{},{ c:=some (.bool r8,⟨[(0,.cells 3 [E_GTone y7])],1⟩) },{},{},{},{},{},{},{ k:=1,b:=false },{},{},{},{},{},{},{ k:=1,b:=false },{},{ g:=false },{ g:=false },{ g:=false },{ k:=1,b:=true }] [7,15,16,17,21,22,23,48] [.mp 0 0 0,.sl false (a0.map (SL E_GTone)),.i (a0.length:Int),.i l2_17,.sl false (y5.map E_GTone),.i (y5.length:Int),.i l3_23,.bool true] ⟨[(0,.cells 3 [E_GTone y7])],1⟩ _ (by kernel_rfl) (cjC (f71_ok y7.pitch 0 127 _ hr8 ⟨[(0,.cells 3 [E_GTone y7])],1⟩) (cjC (hc9) (cjC (hc9) (cjC (hc9) (cjC (hc9) (cjC (hc9) (cjC (hc10) (cjC (hc10) (cjC (hc10) (cjC (hc10) (cjC (hc10) (cjC (hc10) (cjC (hc11) (cjC (hc11) (cjC (hc11) (cj1 (hc11))))))))))))))))) (kj4 true rfl)
          ·replace hj4:=Option.some.inj hj4; subst hj4
           exact run1z (c36 44) [{},{},{ c:=some (.bool r8,⟨[(0,.cells 3 [E_GTone y7])],1⟩) },{},{},{},{},{},{},{ k:=1,b:=false },{},{},{},{},{},{},{ k:=1,b:=false },{},{},{},{},{ k:=1,b:=false }] [7,15,16,17,21,22,23,48] [.mp 0 0 0,.sl false (a0.map (SL E_GTone)),.i (a0.length:Int),.i l2_17,.sl false (y5.map E_GTone),.i (y5.length:Int),.i l3_23,.bool (decide (262144 < y7.to_))] ⟨[(0,.cells 3 [E_GTone y7])],1⟩ _ (by kernel_rfl) (cjC (f71_ok y7.pitch 0 127 _ hr8 ⟨[(0,.cells 3 [E_GTone y7])],1⟩) (cjC (hc9) (cjC (hc9) (cjC (hc9) (cjC (hc9) (cjC (hc9) (cjC (hc10) (cjC (hc10) (cjC (hc10) (cjC (hc10) (cjC (hc10) (cjC (hc10) (cjC (hc11) (cjC (hc11) (cjC (hc11) (cj1 (hc11))))))))))))))))) (kj4 (decide (262144 < y7.to_)) rfl)
       ·rintro _ rfl
        rcases iteE hl3 with ⟨hc12,hl3⟩ | ⟨hc12,hl3⟩
        ·refine run_cT 48 (c36 45) (c36 48) j4_48 hc12 (by kernel_rfl) (by kernel_rfl) ?_
         refine run1z (c36 47) [] [2] [.i 80] ⟨[],1⟩ _ (by kernel_rfl) cj0 ?_
         replace hl3:=Option.some.inj hl3; subst hl3
         have hr:=rl3 _ rfl
         subst hr
         replace hl2:=elimR hl2
         replace hl2:=Option.some.inj hl2; subst hl2
         have hr:=rl2 _ rfl
         subst hr
         replace h:=elimR h
         refine run_t (by kernel_rfl) ?_
         refine thenR ?_
         refine inbR ?_
         refine thenR ?_
         refine ⟨⟨_,rfl⟩,?_⟩
         refine inbR ?_
         refine inbR ?_
         refine thenR ?_
         refine ⟨⟨_,rfl⟩,?_⟩
         refine inbR ?_
         refine thenR ?_
         replace h:=Option.some.inj h; subst h
         exact fin_r (by kernel_rfl) rfl
        ·refine run_cF 48 (c36 45) (c36 48) j4_48 hc12 (by kernel_rfl) (by kernel_rfl) ?_
         refine run_k (by kernel_rfl) ?_
         refine thenN ?_
         refine run0z [] [5,15,16,17,21,22,23] [.i y7.to_,.sl false (a0.map (SL E_GTone)),.i (a0.length:Int),.i l2_17,.sl false (y5.map E_GTone),.i (y5.length:Int),.i l3_23] ⟨[],1⟩ _ (by kernel_rfl) cj0 ?_
         refine inbN ?_
         refine thenN ?_
         refine run0z [] [5,15,16,17,21,22,23] [.i y7.to_,.sl false (a0.map (SL E_GTone)),.i (a0.length:Int),.i l2_17,.sl false (y5.map E_GTone),.i (y5.length:Int),.i (wr (l3_23 + 1))] ⟨[],1⟩ _ (by kernel_rfl) cj0 ?_
         replace hl3:=Option.some.inj hl3; subst hl3
         exact ⟨_,rfl,pi [],mkInto (ks:=[5,15,16,17,21,22,23]) (ys:=[.i y7.to_,.sl false (a0.map (SL E_GTone)),.i (a0.length:Int),.i l2_17,.sl false (y5.map E_GTone),.i (y5.length:Int),.i (wr (l3_23 + 1))]) (by kernel_rfl) (by kernel_rfl) (.k (.c rfl) (.k (.c (cleanMap _ _ (cl_SL cl_GTone))) (.k (.c rfl) (.k (.c rfl) (.k (.c (cleanMap _ _ cl_GTone)) (.k (.c rfl) (.k (.c rfl) .z))))))) .z⟩
      ·refine run_cF 24 (c36 35) (c36 36) (decide (l3_23 < (y5.length:Int))) hc6 (by kernel_rfl) (by kernel_rfl) ?_
       replace hl3:=Option.some.inj hl3; subst hl3
       have hr:=rl3 _ rfl
       subst hr
       refine awp_p [15,16,17] [] (zipE [15,16,17] [.sl false (a0.map (SL E_GTone)),.i (a0.length:Int),.i l2_17]) ⟨[],0⟩ (by kernel_rfl) (?_)
       refine run_e 2 (by kernel_rfl) ?_
       refine thenE ?_
       refine ⟨⟨_,rfl⟩,?_⟩
       refine inbE ?_
       exact kl3 () rfl
     ·rintro ⟨⟩ rfl
      replace hl2:=elimL hl2
      refine inbN ?_
      refine thenN ?_
      refine run0z [] [15,16,17] [.sl false (a0.map (SL E_GTone)),.i (a0.length:Int),.i (wr (l2_17 + 1))] ⟨[],0⟩ _ (by kernel_rfl) cj0 ?_
      replace hl2:=Option.some.inj hl2; subst hl2
      exact ⟨_,rfl,pi [],mkInto (ks:=[15,16,17]) (ys:=[.sl false (a0.map (SL E_GTone)),.i (a0.length:Int),.i (wr (l2_17 + 1))]) (by kernel_rfl) (by kernel_rfl) (.k (.c (cleanMap _ _ (cl_SL cl_GTone))) (.k (.c rfl) (.k (.c rfl) .z))) .z⟩
    ·refine run_cF 18 (c36 19) (c36 20) (decide (l2_17 < (a0.length:Int))) hc4 (by kernel_rfl) (by kernel_rfl) ?_
     replace hl2:=Option.some.inj hl2; subst hl2
     have hr:=rl2 _ rfl
     subst hr
     refine awp_p [] [] (zipE [] []) ⟨[],0⟩ (by kernel_rfl) (?_)
     refine run_e 0 (by kernel_rfl) ?_
     refine thenE ?_
     refine ⟨⟨_,rfl⟩,?_⟩
     refine inbE ?_
     exact kl2 () rfl
   ·rintro ⟨⟩ rfl
    replace h:=elimL h
    refine thenN ?_
    refine run1z (c36 54) [] [2] [.i 0] ⟨[],0⟩ _ (by kernel_rfl) cj0 ?_
    refine run_t (by kernel_rfl) ?_
    replace h:=Option.some.inj h; subst h
    exact fin_r (by kernel_rfl) rfl
def f58 (a0:List GTone) (a1:List GFigure):Option Int:=(f36 ([a0]:List (List GTone))).bind fun r1=>bif (decide (r1 ≠ 0)) then (some r1) else ((f25 a1).bind fun r3=>some r3)
def f95 (a0:List Int):Option Int:=(loopN (σ:=(Int × Int)) (τ:=Int) (fun ((l1_2,l1_7):(Int × Int))=>bif (decide (l1_7 < (a0.length:Int))) then ((ix a0 l1_7).bind fun y2=>some (.inl ((wr (l1_2 + y2)),(wr (l1_7 + 1))))) else (some (.inr l1_2))) FUEL (0,0)).bind fun (l1x_2:Int)=>some l1x_2
def f97 (a0:Int) (a1:GTone):Option Bool:=(f48 (wr (a1.pitch + a0)) 0 127).bind fun r1=>some (!r1)
def f124 (a0:List Int) (a1_0:GTone):Option Int:=(loopN (σ:=Int) (τ:=(Unit ⊕ Int)) (fun (l1_8:Int)=>bif (decide (l1_8 < (a0.length:Int))) then ((ix a0 l1_8).bind fun y2=>(f97 y2 a1_0).bind fun r3=>bif r3 then (some (.inr (.inr l1_8))) else (some (.inl (wr (l1_8 + 1))))) else (some (.inr (.inl ())))) FUEL 0).bind (Sum.elim (fun (_:Unit)=>some (-1)) some)
def f96 (a0:List Int) (a1_0:GTone):Option Bool:=(f124 a0 a1_0).bind fun r1=>some (decide (0 ≤ r1))
def f59 (a0:List GTone) (a1:GFigure) (a2:Int):Option Bool:=bif (decide ((a0.length:Int) ≤ (wr (a2 + 1)))) then (some false) else ((ix a0 a2).bind fun y2=>(ix a0 (wr (a2 + 1))).bind fun y3=>((bif (decide (y3.from_ ≠ y2.to_)) then (some true) else (bif (decide ((wr (y3.pitch - y2.pitch)) ≠ a1.interval)) then (some true) else ((f95 a1.shares).bind fun r6=>need (r6 ≠ 0) <| some (decide ((Int.tmod (wr (y2.to_ - y2.from_)) r6) ≠ 0))))):Option Bool).bind fun (j1_49:Bool)=>bif j1_49 then (some false) else ((f96 a1.moves y2).bind fun r9=>some (!r9)))
def f27 (a0:List GTone) (a1:List GFigure) (a2:Int):Option (((List Int)) × Int):=(f58 a0 a1).bind fun r1=>bif (decide (r1 ≠ 0)) then (some (([]:List Int),r1)) else ((f48 a2 0 (wr ((a0.length:Int) - 1))).bind fun r3=>bif (!r3) then (some (([]:List Int),1)) else ((loopN (σ:=(List Int × Int)) (τ:=(List Int)) (fun ((l1_6,l1_25):(List Int × Int))=>bif (decide (l1_25 < (a1.length:Int))) then ((((ix a1 l1_25).bind fun y6=>(f59 a0 y6 a2).bind fun r7=>bif r7 then (need (l1_6.length + 1 ≤ maxElems) <| some (l1_6 ++ [(wr (l1_25 + 1))])) else (some l1_6)):Option (List Int)).bind fun (j2_6:(List Int))=>some (.inl (j2_6,(wr (l1_25 + 1))))) else (some (.inr l1_6))) FUEL (([]:List Int),0)).bind fun (l1x_6:(List Int))=>some (l1x_6,0)))
def f72 (a0:List GTone):Option Bool:=(loopN (σ:=Int) (τ:=(Unit ⊕ Bool)) (fun (l1_3:Int)=>bif (decide (l1_3 < (a0.length:Int))) then ((ix a0 l1_3).bind fun y2=>((bif (decide (y2.pitch < 0)) then (some true) else (bif (decide (127 < y2.pitch)) then (some true) else (bif (decide (y2.from_ < 0)) then (some true) else (bif (decide (y2.to_ ≤ y2.from_)) then (some true) else (bif (decide (262144 < y2.to_)) then (some true) else (bif (decide (0 < l1_3)) then ((ix a0 (wr (l1_3 - 1))).bind fun y9=>some (decide (y2.from_ < y9.to_))) else (some false))))))):Option Bool).bind fun (j2_54:Bool)=>bif j2_54 then (some (.inr (.inr false))) else (some (.inl (wr (l1_3 + 1))))) else (some (.inr (.inl ())))) FUEL 0).bind (Sum.elim (fun (_:Unit)=>some true) some)
theorem f72_ok (a0:List GTone) (r:Bool) (h:f72 a0 = some r):APure Tryz.prog 72 [.sl false (a0.map E_GTone)] (.bool r):=by
 refine apure (clK (cleanMap a0 _ cl_GTone) clZ) rfl ?_
 refine run_f 55 [.tmp 2] (c72 0) (zipE [0] [.sl false (a0.map E_GTone)]) (by kernel_rfl) (by kernel_rfl) (by kernel_rfl) rfl ?_
 unfold f72 at h
 refine run1z (c72 2) [] [0] [.sl false (a0.map E_GTone)] ⟨[],0⟩ _ (by kernel_rfl) cj0 ?_
 refine run_s (c72 3) (c72 25) (by kernel_rfl) ?_
 refine run1z (c72 5) [] [0,3] [.sl false (a0.map E_GTone),.i 0] ⟨[],0⟩ _ (by kernel_rfl) cj0 ?_
 obtain ⟨ol1x,hll1x,h⟩:=bindE h
 refine run_tq (fun (_:Unit)=>(zipE [] [])) (fun (_:Unit)=>⟨[],0⟩) (fun j=>ol1x = .inl j) (fun kl1=>?_) ?_
 ·refine run_b 0 (c72 6) (by kernel_rfl) ?_
  refine run_l (c72 7) _ hll1x (fun (l1_3:Int)=>(zipE [0,3] [.sl false (a0.map E_GTone),.i l1_3])) (fun (l1_3:Int)=>⟨[],0⟩) [] (by intro i e; cases e <;> exact Nat.le_of_ble_eq_true rfl) (by kernel_rfl) (mkInto (ks:=[0,3]) (ys:=[.sl false (a0.map E_GTone),.i 0]) (by kernel_rfl) (by kernel_rfl) (.k (.c (cleanMap _ _ cl_GTone)) (.k (.c rfl) .z)) .z) ?_
  rintro l1_3 out hl1 rl1
  refine run_s (c72 8) (c72 13) (by kernel_rfl) ?_
  refine run1z (c72 10) [{},{},{ k:=1,n:=a0.length }] [0,3,8] [.sl false (a0.map E_GTone),.i l1_3,.bool (decide (l1_3 < (a0.length:Int)))] ⟨[],0⟩ _ (by kernel_rfl) (cj1 (mapLen a0 E_GTone)) ?_
  rcases iteE hl1 with ⟨hc1,hl1⟩ | ⟨hc1,hl1⟩
  ·refine run_cT 8 (c72 11) (c72 12) (decide (l1_3 < (a0.length:Int))) hc1 (by kernel_rfl) (by kernel_rfl) ?_
   refine run_k (by kernel_rfl) ?_
   refine thenN ?_
   refine run_s (c72 14) (c72 24) (by kernel_rfl) ?_
   refine run_b 1 (c72 15) (by kernel_rfl) ?_
   obtain ⟨y2,hy2,hl1⟩:=bindE hl1
   refine run1z (c72 17) [{},{},{ k:=1,x:=E_GTone y2 }] [0,3,4] [.sl false (a0.map E_GTone),.i l1_3,.mp 0 0 0] ⟨[(0,.cells 3 [E_GTone y2])],1⟩ _ (by kernel_rfl) (cjC ((ixE hy2).1) (cj1 (mapGet E_GTone (ixE hy2).2))) ?_
   obtain ⟨j2_54,hj2,hl1⟩:=bindE hl1
   refine run_gq (c72 19) (fun (j2_54:Bool)=>(zipE [0,3,54] [.sl false (a0.map E_GTone),.i l1_3,.bool j2_54])) (fun (j2_54:Bool)=>⟨[],1⟩) (fun j=>j2_54 = j) (fun kj2=>?_) ?_
   ·rcases iteE hj2 with ⟨hc3,hj2⟩ | ⟨hc3,hj2⟩
    ·replace hj2:=Option.some.inj hj2; subst hj2
     exact yun1z (c72 19) [[],[0],[0,1],[0,1,2],[0,1,2,3],[0,1,2,3,4],[0,1,2,3,4,5],[0,1,2,3,4,5,6],[0,1,2,3,4,5,6,7],[0,1,2,3,4,5,6,7,8],[0,1,2,3,4,5,6,7,8,9],[0,1,2,3,4,5,6,7,8,9,10],[0,1,2,3,4,5,6,7,8,9,10,11],[0,1,2,3,4,5,6,7,8,9,10,11,12],[0,1,2,3,4,5,6,7,8,9,10,11,12,13],[0,1,2,3,4,5,6,7,8,9,10,11,12,13,14],[0,1,2,3,4,5,6,7,8,9,10,11,12,13],[0,1,2,3,4,5,6,7,8,9,10,11,12,13,16],[0,1,2,3,4,5,6,7,8,9,10,11,12,13,14,15,16,17],[0,1,2,3,4,5,6,7,8,9,10,11,12,13,14,15,16,17,18],[0,1,2,3,4,5,6,7,8,9,10,11,12,13,14,15,16,17,18,19],[0,1,2,3,4,5,6,7,8,9,10,11,12,13,14,15,16,17,18,19,20],[0,1,2,3,4,5,6,7,8,9,10,11,12,13,14,15,16,17,18,19,20,21],[0,1,2,3,4,5,6,7,8,9,10,11,12,13,14,15,16,17,18,19,20,21,22],[0,1,2,3,4,5,6,7,8,9,10,11,12,13,14,15,16,17,18,19,20,21,22,23],[0,1,2,3,4,5,6,7,8,9,10,11,12,13,14,15,16,17,18,19,20,21,22,23,24],[0,1,2,3,4,5,6,7,8,9,10,11,12,13,14,15,16,17,18,19,20,21,22,23,24,25],[0,1,2,3,4,5,6,7,8,9,10,11,12,13,14,15,16,17,18,19,20,21,22,23,24,25,26],[0,1,2,3,4,5,6,7,8,9,10,11,12,13,14,15,16,17,18,19,20,21,22,23,24,25,26,27],[0,1,2,3,4,5,6,7,8,9,10,11,12,13,14,15,16,17,18,19,20,21,22,23,24,25,26,27,28],[0,1,2,3,4,5,6,7,8,9,10,11,12,13,14,15,16,17,18,19,20,21,22,23,24,25,26,27,28,29],[0,1,2,3,4,5,6,7,8,9,10,11,12,13,14,15,16,17,18,19,20,21,22,23,24,25,26,27,28],[0,1,2,3,4,5,6,7,8,9,10,11,12,13,14,15,16,17,18,19,20,21,22,23,24,25,26,27,28],[0,1,2,3,4,5,6,7,8,9,10,11,12,13,14,15,16,17,18,19,20,21,22,23,24,25,26,27,28,32],[0,1,2,3,4,5,6,7,8,9,10,11,12,13,14,15,16,17,18,19,20,21,22,23,24,25,26,27,28,31,32,33],[0,1,2,3,4,5,6,7,8,9,10,11,12,13,14,15,16,17,18,19,20,21,22,23,24,25,26,27,28,31,32,33,34],[0,1,2,3,4,5,6,7,8,9,10,11,12,13,14,15,16,17,18,19,20,21,22,23,24,25,26,27,28,31,32,33,34,35],[0,1,2,3,4,5,6,7,8,9,10,11,12,13,14,15,16,17,18,19,20,21,22,23,24,25,26,27,28,29,30,31,32,33,34,35,36],[0,1,2,3,4,5,6,7,8,9,10,11,12,13,14,15,16,17,18,19,20,21,22,23,24,25,26,27,28,29,30,31,32,33,34,35,36,37],[0,1,2,3,4,5,6,7,8,9,10,11,12,13,14,15,16,17,18,19,20,21,22,23,24,25,26,27,28,29,30,31,32,33,34,35,36,37,38]] [.light 0 false,.light 1 false,.light 2 false,.light 3 false,.light 4 false,.light 5 false,.light 6 false,.light 7 false,.light 8 false,.light 9 false,.light 10 false,.light 11 false,.light 12 false,.light 13 false,.light 14 false,.light 15 false,.light 16 false,.light 17 false,.light 18 false,.light 19 false,.light 20 false,.light 21 false,.light 22 false,.light 23 false,.light 24 false,.light 25 false,.light 26 false,.light 27 false,.light 28 false,.light 29 false,.light 30 false,.light 31 false,.light 32 false,.light 33 false,.light 34 false,.light 35 false,.light 36 false,.light 37 false,.light 38 false,.light 39 false] [{},{},{},{},{ g:=false },{ g:=false },{ g:=false },{},{},{ g:=false },{ g:=false },{ g:=false },{},{},{ g:=false },{ g:=false },{ g:=false },{ g:=false },{ g:=false },{},{},{ g:=false },{ g:=false },{ g:=false },{},{},{ g:=false },{ g:=false },{ g:=false },{},{},{},{},{},{},{},{},{},{ g:=false }] [0,3,54] [.sl false (a0.map E_GTone),.i l1_3,.bool true] ⟨[],1⟩ _ (by kernel_rfl) (cjC (hc3) (cjC (Eq.refl true) (cjC (Eq.refl true) (cjC (Eq.refl true) (cjC (Eq.refl true) (cjC (Eq.refl true) (cjC (Eq.refl true) (cjC (Eq.refl true) (cjC (Eq.refl true) (cjC (Eq.refl true) (cjC (Eq.refl true) (cjC (Eq.refl true) (cjC (Eq.refl true) (cjC (Eq.refl true) (cjC (Eq.refl true) (cjC (Eq.refl true) (cjC (Eq.refl true) (cj1 (Eq.refl true))))))))))))))))))) (kj2 true rfl)
    ·rcases iteE hj2 with ⟨hc4,hj2⟩ | ⟨hc4,hj2⟩
     ·replace hj2:=Option.some.inj hj2; subst hj2
      exact yun1z (c72 19) [[],[0],[0,1],[0,1,2],[0,1,2,3],[0,1,2,3,4],[0,1,2,3,4,5],[0,1,2,3,4,5,6],[0,1,2,3,4,5,6,7],[0,1,2,3,4,5,6,7,8],[0,1,2,3,4,5,6,7,8,9],[0,1,2,3,4,5,6,7,8,9,10],[0,1,2,3,4,5,6,7,8,9,10,11],[0,1,2,3,4,5,6,7,8,9,10,11,12],[0,1,2,3,4,5,6,7,8,9,10,11,12,13],[0,1,2,3,4,5,6,7,8,9,10,11,12,13,14],[0,1,2,3,4,5,6,7,8,9,10,11,12,13],[0,1,2,3,4,5,6,7,8,9,10,11,12,13,16],[0,1,2,3,4,5,6,7,8,9,10,11,12,13,14,15,16,17],[0,1,2,3,4,5,6,7,8,9,10,11,12,13,14,15,16,17,18],[0,1,2,3,4,5,6,7,8,9,10,11,12,13,14,15,16,17,18,19],[0,1,2,3,4,5,6,7,8,9,10,11,12,13,14,15,16,17,18,19,20],[0,1,2,3,4,5,6,7,8,9,10,11,12,13,14,15,16,17,18,19,20,21],[0,1,2,3,4,5,6,7,8,9,10,11,12,13,14,15,16,17,18,19,20,21,22],[0,1,2,3,4,5,6,7,8,9,10,11,12,13,14,15,16,17,18,19,20,21,22,23],[0,1,2,3,4,5,6,7,8,9,10,11,12,13,14,15,16,17,18,19,20,21,22,23,24],[0,1,2,3,4,5,6,7,8,9,10,11,12,13,14,15,16,17,18,19,20,21,22,23,24,25],[0,1,2,3,4,5,6,7,8,9,10,11,12,13,14,15,16,17,18,19,20,21,22,23,24,25,26],[0,1,2,3,4,5,6,7,8,9,10,11,12,13,14,15,16,17,18,19,20,21,22,23,24,25,26,27],[0,1,2,3,4,5,6,7,8,9,10,11,12,13,14,15,16,17,18,19,20,21,22,23,24,25,26,27,28],[0,1,2,3,4,5,6,7,8,9,10,11,12,13,14,15,16,17,18,19,20,21,22,23,24,25,26,27,28,29],[0,1,2,3,4,5,6,7,8,9,10,11,12,13,14,15,16,17,18,19,20,21,22,23,24,25,26,27,28],[0,1,2,3,4,5,6,7,8,9,10,11,12,13,14,15,16,17,18,19,20,21,22,23,24,25,26,27,28],[0,1,2,3,4,5,6,7,8,9,10,11,12,13,14,15,16,17,18,19,20,21,22,23,24,25,26,27,28,32],[0,1,2,3,4,5,6,7,8,9,10,11,12,13,14,15,16,17,18,19,20,21,22,23,24,25,26,27,28,31,32,33],[0,1,2,3,4,5,6,7,8,9,10,11,12,13,14,15,16,17,18,19,20,21,22,23,24,25,26,27,28,31,32,33,34],[0,1,2,3,4,5,6,7,8,9,10,11,12,13,14,15,16,17,18,19,20,21,22,23,24,25,26,27,28,31,32,33,34,35],[0,1,2,3,4,5,6,7,8,9,10,11,12,13,14,15,16,17,18,19,20,21,22,23,24,25,26,27,28,29,30,31,32,33,34,35,36],[0,1,2,3,4,5,6,7,8,9,10,11,12,13,14,15,16,17,18,19,20,21,22,23,24,25,26,27,28,29,30,31,32,33,34,35,36,37],[0,1,2,3,4,5,6,7,8,9,10,11,12,13,14,15,16,17,18,19,20,21,22,23,24,25,26,27,28,29,30,31,32,33,34,35,36,37,38]] [.light 0 false,.light 1 false,.light 2 false,.light 3 false,.light 4 false,.light 5 false,.light 6 false,.light 7 false,.light 8 false,.light 9 false,.light 10 false,.light 11 false,.light 12 false,.light 13 false,.light 14 false,.light 15 false,.light 16 false,.light 17 false,.light 18 false,.light 19 false,.light 20 false,.light 21 false,.light 22 false,.light 23 false,.light 24 false,.light 25 false,.light 26 false,.light 27 false,.light 28 false,.light 29 false,.light 30 false,.light 31 false,.light 32 false,.light 33 false,.light 34 false,.light 35 false,.light 36 false,.light 37 false,.light 38 false,.light 39 false] [{},{},{},{},{},{},{},{},{},{ g:=false },{ g:=false },{ g:=false },{},{},{ g:=false },{ g:=false },{ g:=false },{ g:=false },{ g:=false },{},{},{ g:=false },{ g:=false },{ g:=false },{},{},{ g:=false },{ g:=false },{ g:=false },{},{},{},{},{},{},{},{},{},{ g:=false }] [0,3,54] [.sl false (a0.map E_GTone),.i l1_3,.bool true] ⟨[],1⟩ _ (by kernel_rfl) (cjC (hc3) (cjC (Eq.refl false) (cjC (Eq.refl false) (cjC (hc4) (cjC (Eq.refl true) (cjC (Eq.refl true) (cjC (Eq.refl true) (cjC (Eq.refl true) (cjC (Eq.refl true) (cjC (Eq.refl true) (cjC (Eq.refl true) (cjC (Eq.refl true) (cjC (Eq.refl true) (cjC (Eq.refl true) (cjC (Eq.refl true) (cjC (Eq.refl true) (cjC (Eq.refl true) (cj1 (Eq.refl true))))))))))))))))))) (kj2 true rfl)
     ·rcases iteE hj2 with ⟨hc5,hj2⟩ | ⟨hc5,hj2⟩
      ·replace hj2:=Option.some.inj hj2; subst hj2
       exact yun1z (c72 19) [[],[0],[0,1],[0,1,2],[0,1,2,3],[0,1,2,3,4],[0,1,2,3,4,5],[0,1,2,3,4,5,6],[0,1,2,3,4,5,6,7],[0,1,2,3,4,5,6,7,8],[0,1,2,3,4,5,6,7,8,9],[0,1,2,3,4,5,6,7,8,9,10],[0,1,2,3,4,5,6,7,8,9,10,11],[0,1,2,3,4,5,6,7,8,9,10,11,12],[0,1,2,3,4,5,6,7,8,9,10,11,12,13],[0,1,2,3,4,5,6,7,8,9,10,11,12,13,14],[0,1,2,3,4,5,6,7,8,9,10,11,12,13],[0,1,2,3,4,5,6,7,8,9,10,11,12,13,16],[0,1,2,3,4,5,6,7,8,9,10,11,12,13,14,15,16,17],[0,1,2,3,4,5,6,7,8,9,10,11,12,13,14,15,16,17,18],[0,1,2,3,4,5,6,7,8,9,10,11,12,13,14,15,16,17,18,19],[0,1,2,3,4,5,6,7,8,9,10,11,12,13,14,15,16,17,18,19,20],[0,1,2,3,4,5,6,7,8,9,10,11,12,13,14,15,16,17,18,19,20,21],[0,1,2,3,4,5,6,7,8,9,10,11,12,13,14,15,16,17,18,19,20,21,22],[0,1,2,3,4,5,6,7,8,9,10,11,12,13,14,15,16,17,18,19,20,21,22,23],[0,1,2,3,4,5,6,7,8,9,10,11,12,13,14,15,16,17,18,19,20,21,22,23,24],[0,1,2,3,4,5,6,7,8,9,10,11,12,13,14,15,16,17,18,19,20,21,22,23,24,25],[0,1,2,3,4,5,6,7,8,9,10,11,12,13,14,15,16,17,18,19,20,21,22,23,24,25,26],[0,1,2,3,4,5,6,7,8,9,10,11,12,13,14,15,16,17,18,19,20,21,22,23,24,25,26,27],[0,1,2,3,4,5,6,7,8,9,10,11,12,13,14,15,16,17,18,19,20,21,22,23,24,25,26,27,28],[0,1,2,3,4,5,6,7,8,9,10,11,12,13,14,15,16,17,18,19,20,21,22,23,24,25,26,27,28,29],[0,1,2,3,4,5,6,7,8,9,10,11,12,13,14,15,16,17,18,19,20,21,22,23,24,25,26,27,28],[0,1,2,3,4,5,6,7,8,9,10,11,12,13,14,15,16,17,18,19,20,21,22,23,24,25,26,27,28],[0,1,2,3,4,5,6,7,8,9,10,11,12,13,14,15,16,17,18,19,20,21,22,23,24,25,26,27,28,32],[0,1,2,3,4,5,6,7,8,9,10,11,12,13,14,15,16,17,18,19,20,21,22,23,24,25,26,27,28,31,32,33],[0,1,2,3,4,5,6,7,8,9,10,11,12,13,14,15,16,17,18,19,20,21,22,23,24,25,26,27,28,31,32,33,34],[0,1,2,3,4,5,6,7,8,9,10,11,12,13,14,15,16,17,18,19,20,21,22,23,24,25,26,27,28,31,32,33,34,35],[0,1,2,3,4,5,6,7,8,9,10,11,12,13,14,15,16,17,18,19,20,21,22,23,24,25,26,27,28,29,30,31,32,33,34,35,36],[0,1,2,3,4,5,6,7,8,9,10,11,12,13,14,15,16,17,18,19,20,21,22,23,24,25,26,27,28,29,30,31,32,33,34,35,36,37],[0,1,2,3,4,5,6,7,8,9,10,11,12,13,14,15,16,17,18,19,20,21,22,23,24,25,26,27,28,29,30,31,32,33,34,35,36,37,38]] [.light 0 false,.light 1 false,.light 2 false,.light 3 false,.light 4 false,.light 5 false,.light 6 false,.light 7 false,.light 8 false,.light 9 false,.light 10 false,.light 11 false,.light 12 false,.light 13 false,.light 14 false,.light 15 false,.light 16 false,.light 17 false,.light 18 false,.light 19 false,.light 20 false,.light 21 false,.light 22 false,.light 23 false,.light 24 false,.light 25 false,.light 26 false,.light 27 false,.light 28 false,.light 29 false,.light 30 false,.light 31 false,.light 32 false,.light 33 false,.light 34 false,.light 35 false,.light 36 false,.light 37 false,.light 38 false,.light 39 false] [{},{},{},{},{},{},{},{},{},{},{},{},{},{},{ g:=false },{ g:=false },{ g:=false },{ g:=false },{ g:=false },{},{},{ g:=false },{ g:=false },{ g:=false },{},{},{ g:=false },{ g:=false },{ g:=false },{},{},{},{},{},{},{},{},{},{ g:=false }] [0,3,54] [.sl false (a0.map E_GTone),.i l1_3,.bool true] ⟨[],1⟩ _ (by kernel_rfl) (cjC (hc3) (cjC (Eq.refl false) (cjC (Eq.refl false) (cjC (hc4) (cjC (Eq.refl false) (cjC (Eq.refl false) (cjC (hc5) (cjC (Eq.refl true) (cjC (Eq.refl true) (cjC (Eq.refl true) (cjC (Eq.refl true) (cjC (Eq.refl true) (cjC (Eq.refl true) (cjC (Eq.refl true) (cjC (Eq.refl true) (cjC (Eq.refl true) (cjC (Eq.refl true) (cj1 (Eq.refl true))))))))))))))))))) (kj2 true rfl)
      ·rcases iteE hj2 with ⟨hc6,hj2⟩ | ⟨hc6,hj2⟩
       ·replace hj2:=Option.some.inj hj2; subst hj2
        exact yun1z (c72 19) [[],[0],[0,1],[0,1,2],[0,1,2,3],[0,1,2,3,4],[0,1,2,3,4,5],[0,1,2,3,4,5,6],[0,1,2,3,4,5,6,7],[0,1,2,3,4,5,6,7,8],[0,1,2,3,4,5,6,7,8,9],[0,1,2,3,4,5,6,7,8,9,10],[0,1,2,3,4,5,6,7,8,9,10,11],[0,1,2,3,4,5,6,7,8,9,10,11,12],[0,1,2,3,4,5,6,7,8,9,10,11,12,13],[0,1,2,3,4,5,6,7,8,9,10,11,12,13,14],[0,1,2,3,4,5,6,7,8,9,10,11,12,13],[0,1,2,3,4,5,6,7,8,9,10,11,12,13,16],[0,1,2,3,4,5,6,7,8,9,10,11,12,13,14,15,16,17],[0,1,2,3,4,5,6,7,8,9,10,11,12,13,14,15,16,17,18],[0,1,2,3,4,5,6,7,8,9,10,11,12,13,14,15,16,17,18,19],[0,1,2,3,4,5,6,7,8,9,10,11,12,13,14,15,16,17,18,19,20],[0,1,2,3,4,5,6,7,8,9,10,11,12,13,14,15,16,17,18,19,20,21],[0,1,2,3,4,5,6,7,8,9,10,11,12,13,14,15,16,17,18,19,20,21,22],[0,1,2,3,4,5,6,7,8,9,10,11,12,13,14,15,16,17,18,19,20,21,22,23],[0,1,2,3,4,5,6,7,8,9,10,11,12,13,14,15,16,17,18,19,20,21,22,23,24],[0,1,2,3,4,5,6,7,8,9,10,11,12,13,14,15,16,17,18,19,20,21,22,23,24,25],[0,1,2,3,4,5,6,7,8,9,10,11,12,13,14,15,16,17,18,19,20,21,22,23,24,25,26],[0,1,2,3,4,5,6,7,8,9,10,11,12,13,14,15,16,17,18,19,20,21,22,23,24,25,26,27],[0,1,2,3,4,5,6,7,8,9,10,11,12,13,14,15,16,17,18,19,20,21,22,23,24,25,26,27,28],[0,1,2,3,4,5,6,7,8,9,10,11,12,13,14,15,16,17,18,19,20,21,22,23,24,25,26,27,28,29],[0,1,2,3,4,5,6,7,8,9,10,11,12,13,14,15,16,17,18,19,20,21,22,23,24,25,26,27,28],[0,1,2,3,4,5,6,7,8,9,10,11,12,13,14,15,16,17,18,19,20,21,22,23,24,25,26,27,28],[0,1,2,3,4,5,6,7,8,9,10,11,12,13,14,15,16,17,18,19,20,21,22,23,24,25,26,27,28,32],[0,1,2,3,4,5,6,7,8,9,10,11,12,13,14,15,16,17,18,19,20,21,22,23,24,25,26,27,28,31,32,33],[0,1,2,3,4,5,6,7,8,9,10,11,12,13,14,15,16,17,18,19,20,21,22,23,24,25,26,27,28,31,32,33,34],[0,1,2,3,4,5,6,7,8,9,10,11,12,13,14,15,16,17,18,19,20,21,22,23,24,25,26,27,28,31,32,33,34,35],[0,1,2,3,4,5,6,7,8,9,10,11,12,13,14,15,16,17,18,19,20,21,22,23,24,25,26,27,28,29,30,31,32,33,34,35,36],[0,1,2,3,4,5,6,7,8,9,10,11,12,13,14,15,16,17,18,19,20,21,22,23,24,25,26,27,28,29,30,31,32,33,34,35,36,37],[0,1,2,3,4,5,6,7,8,9,10,11,12,13,14,15,16,17,18,19,20,21,22,23,24,25,26,27,28,29,30,31,32,33,34,35,36,37,38]] [.light 0 false,.light 1 false,.light 2 false,.light 3 false,.light 4 false,.light 5 false,.light 6 false,.light 7 false,.light 8 false,.light 9 false,.light 10 false,.light 11 false,.light 12 false,.light 13 false,.light 14 false,.light 15 false,.light 16 false,.light 17 false,.light 18 false,.light 19 false,.light 20 false,.light 21 false,.light 22 false,.light 23 false,.light 24 false,.light 25 false,.light 26 false,.light 27 false,.light 28 false,.light 29 false,.light 30 false,.light 31 false,.light 32 false,.light 33 false,.light 34 false,.light 35 false,.light 36 false,.light 37 false,.light 38 false,.light 39 false] [{},{},{},{},{},{},{},{},{},{},{},{},{},{},{},{},{},{},{},{},{},{ g:=false },{ g:=false },{ g:=false },{},{},{ g:=false },{ g:=false },{ g:=false },{},{},{},{},{},{},{},{},{},{ g:=false }] [0,3,54] [.sl false (a0.map E_GTone),.i l1_3,.bool true] ⟨[],1⟩ _ (by kernel_rfl) (cjC (hc3) (cjC (Eq.refl false) (cjC (Eq.refl false) (cjC (hc4) (cjC (Eq.refl false) (cjC (Eq.refl false) (cjC (hc5) (cjC (Eq.refl false) (cjC (Eq.refl false) (cjC (Eq.refl false) (cjC (Eq.refl false) (cjC (hc6) (cjC (Eq.refl true) (cjC (Eq.refl true) (cjC (Eq.refl true) (cjC (Eq.refl true) (cjC (Eq.refl true) (cj1 (Eq.refl true))))))))))))))))))) (kj2 true rfl)
       ·rcases iteE hj2 with ⟨hc7,hj2⟩ | ⟨hc7,hj2⟩
        ·replace hj2:=Option.some.inj hj2; subst hj2
         exact yun1z (c72 19) [[],[0],[0,1],[0,1,2],[0,1,2,3],[0,1,2,3,4],[0,1,2,3,4,5],[0,1,2,3,4,5,6],[0,1,2,3,4,5,6,7],[0,1,2,3,4,5,6,7,8],[0,1,2,3,4,5,6,7,8,9],[0,1,2,3,4,5,6,7,8,9,10],[0,1,2,3,4,5,6,7,8,9,10,11],[0,1,2,3,4,5,6,7,8,9,10,11,12],[0,1,2,3,4,5,6,7,8,9,10,11,12,13],[0,1,2,3,4,5,6,7,8,9,10,11,12,13,14],[0,1,2,3,4,5,6,7,8,9,10,11,12,13],[0,1,2,3,4,5,6,7,8,9,10,11,12,13,16],[0,1,2,3,4,5,6,7,8,9,10,11,12,13,14,15,16,17],[0,1,2,3,4,5,6,7,8,9,10,11,12,13,14,15,16,17,18],[0,1,2,3,4,5,6,7,8,9,10,11,12,13,14,15,16,17,18,19],[0,1,2,3,4,5,6,7,8,9,10,11,12,13,14,15,16,17,18,19,20],[0,1,2,3,4,5,6,7,8,9,10,11,12,13,14,15,16,17,18,19,20,21],[0,1,2,3,4,5,6,7,8,9,10,11,12,13,14,15,16,17,18,19,20,21,22],[0,1,2,3,4,5,6,7,8,9,10,11,12,13,14,15,16,17,18,19,20,21,22,23],[0,1,2,3,4,5,6,7,8,9,10,11,12,13,14,15,16,17,18,19,20,21,22,23,24],[0,1,2,3,4,5,6,7,8,9,10,11,12,13,14,15,16,17,18,19,20,21,22,23,24,25],[0,1,2,3,4,5,6,7,8,9,10,11,12,13,14,15,16,17,18,19,20,21,22,23,24,25,26],[0,1,2,3,4,5,6,7,8,9,10,11,12,13,14,15,16,17,18,19,20,21,22,23,24,25,26,27],[0,1,2,3,4,5,6,7,8,9,10,11,12,13,14,15,16,17,18,19,20,21,22,23,24,25,26,27,28],[0,1,2,3,4,5,6,7,8,9,10,11,12,13,14,15,16,17,18,19,20,21,22,23,24,25,26,27,28,29],[0,1,2,3,4,5,6,7,8,9,10,11,12,13,14,15,16,17,18,19,20,21,22,23,24,25,26,27,28],[0,1,2,3,4,5,6,7,8,9,10,11,12,13,14,15,16,17,18,19,20,21,22,23,24,25,26,27,28],[0,1,2,3,4,5,6,7,8,9,10,11,12,13,14,15,16,17,18,19,20,21,22,23,24,25,26,27,28,32],[0,1,2,3,4,5,6,7,8,9,10,11,12,13,14,15,16,17,18,19,20,21,22,23,24,25,26,27,28,31,32,33],[0,1,2,3,4,5,6,7,8,9,10,11,12,13,14,15,16,17,18,19,20,21,22,23,24,25,26,27,28,31,32,33,34],[0,1,2,3,4,5,6,7,8,9,10,11,12,13,14,15,16,17,18,19,20,21,22,23,24,25,26,27,28,31,32,33,34,35],[0,1,2,3,4,5,6,7,8,9,10,11,12,13,14,15,16,17,18,19,20,21,22,23,24,25,26,27,28,29,30,31,32,33,34,35,36],[0,1,2,3,4,5,6,7,8,9,10,11,12,13,14,15,16,17,18,19,20,21,22,23,24,25,26,27,28,29,30,31,32,33,34,35,36,37],[0,1,2,3,4,5,6,7,8,9,10,11,12,13,14,15,16,17,18,19,20,21,22,23,24,25,26,27,28,29,30,31,32,33,34,35,36,37,38]] [.light 0 false,.light 1 false,.light 2 false,.light 3 false,.light 4 false,.light 5 false,.light 6 false,.light 7 false,.light 8 false,.light 9 false,.light 10 false,.light 11 false,.light 12 false,.light 13 false,.light 14 false,.light 15 false,.light 16 false,.light 17 false,.light 18 false,.light 19 false,.light 20 false,.light 21 false,.light 22 false,.light 23 false,.light 24 false,.light 25 false,.light 26 false,.light 27 false,.light 28 false,.light 29 false,.light 30 false,.light 31 false,.light 32 false,.light 33 false,.light 34 false,.light 35 false,.light 36 false,.light 37 false,.light 38 false,.light 39 false] [{},{},{},{},{},{},{},{},{},{},{},{},{},{},{},{},{},{},{},{},{},{},{},{},{},{},{ g:=false },{ g:=false },{ g:=false },{},{},{},{},{},{},{},{},{},{ g:=false }] [0,3,54] [.sl false (a0.map E_GTone),.i l1_3,.bool true] ⟨[],1⟩ _ (by kernel_rfl) (cjC (hc3) (cjC (Eq.refl false) (cjC (Eq.refl false) (cjC (hc4) (cjC (Eq.refl false) (cjC (Eq.refl false) (cjC (hc5) (cjC (Eq.refl false) (cjC (Eq.refl false) (cjC (Eq.refl false) (cjC (Eq.refl false) (cjC (hc6) (cjC (Eq.refl false) (cjC (Eq.refl false) (cjC (hc7) (cjC (Eq.refl true) (cjC (Eq.refl true) (cj1 (Eq.refl true))))))))))))))))))) (kj2 true rfl)
        ·rcases iteE hj2 with ⟨hc8,hj2⟩ | ⟨hc8,hj2⟩
         ·obtain ⟨y9,hy9,hj2⟩:=bindE hj2
          replace hj2:=Option.some.inj hj2; subst hj2
          exact yun1z (c72 19) [[],[0],[0,1],[0,1,2],[0,1,2,3],[0,1,2,3,4],[0,1,2,3,4,5],[0,1,2,3,4,5,6],[0,1,2,3,4,5,6,7],[0,1,2,3,4,5,6,7,8],[0,1,2,3,4,5,6,7,8,9],[0,1,2,3,4,5,6,7,8,9,10],[0,1,2,3,4,5,6,7,8,9,10,11],[0,1,2,3,4,5,6,7,8,9,10,11,12],[0,1,2,3,4,5,6,7,8,9,10,11,12,13],[0,1,2,3,4,5,6,7,8,9,10,11,12,13,14],[0,1,2,3,4,5,6,7,8,9,10,11,12,13],[0,1,2,3,4,5,6,7,8,9,10,11,12,13,16],[0,1,2,3,4,5,6,7,8,9,10,11,12,13,14,15,16,17],[0,1,2,3,4,5,6,7,8,9,10,11,12,13,14,15,16,17,18],[0,1,2,3,4,5,6,7,8,9,10,11,12,13,14,15,16,17,18,19],[0,1,2,3,4,5,6,7,8,9,10,11,12,13,14,15,16,17,18,19,20],[0,1,2,3,4,5,6,7,8,9,10,11,12,13,14,15,16,17,18,19,20,21],[0,1,2,3,4,5,6,7,8,9,10,11,12,13,14,15,16,17,18,19,20,21,22],[0,1,2,3,4,5,6,7,8,9,10,11,12,13,14,15,16,17,18,19,20,21,22,23],[0,1,2,3,4,5,6,7,8,9,10,11,12,13,14,15,16,17,18,19,20,21,22,23,24],[0,1,2,3,4,5,6,7,8,9,10,11,12,13,14,15,16,17,18,19,20,21,22,23,24,25],[0,1,2,3,4,5,6,7,8,9,10,11,12,13,14,15,16,17,18,19,20,21,22,23,24,25,26],[0,1,2,3,4,5,6,7,8,9,10,11,12,13,14,15,16,17,18,19,20,21,22,23,24,25,26,27],[0,1,2,3,4,5,6,7,8,9,10,11,12,13,14,15,16,17,18,19,20,21,22,23,24,25,26,27,28],[0,1,2,3,4,5,6,7,8,9,10,11,12,13,14,15,16,17,18,19,20,21,22,23,24,25,26,27,28,29],[0,1,2,3,4,5,6,7,8,9,10,11,12,13,14,15,16,17,18,19,20,21,22,23,24,25,26,27,28],[0,1,2,3,4,5,6,7,8,9,10,11,12,13,14,15,16,17,18,19,20,21,22,23,24,25,26,27,28],[0,1,2,3,4,5,6,7,8,9,10,11,12,13,14,15,16,17,18,19,20,21,22,23,24,25,26,27,28,32],[0,1,2,3,4,5,6,7,8,9,10,11,12,13,14,15,16,17,18,19,20,21,22,23,24,25,26,27,28,31,32,33],[0,1,2,3,4,5,6,7,8,9,10,11,12,13,14,15,16,17,18,19,20,21,22,23,24,25,26,27,28,31,32,33,34],[0,1,2,3,4,5,6,7,8,9,10,11,12,13,14,15,16,17,18,19,20,21,22,23,24,25,26,27,28,31,32,33,34,35],[0,1,2,3,4,5,6,7,8,9,10,11,12,13,14,15,16,17,18,19,20,21,22,23,24,25,26,27,28,29,30,31,32,33,34,35,36],[0,1,2,3,4,5,6,7,8,9,10,11,12,13,14,15,16,17,18,19,20,21,22,23,24,25,26,27,28,29,30,31,32,33,34,35,36,37],[0,1,2,3,4,5,6,7,8,9,10,11,12,13,14,15,16,17,18,19,20,21,22,23,24,25,26,27,28,29,30,31,32,33,34,35,36,37,38]] [.light 0 false,.light 1 false,.light 2 false,.light 3 false,.light 4 false,.light 5 false,.light 6 false,.light 7 false,.light 8 false,.light 9 false,.light 10 false,.light 11 false,.light 12 false,.light 13 false,.light 14 false,.light 15 false,.light 16 false,.light 17 false,.light 18 false,.light 19 false,.light 20 false,.light 21 false,.light 22 false,.light 23 false,.light 24 false,.light 25 false,.light 26 false,.light 27 false,.light 28 false,.light 29 false,.light 30 false,.light 31 false,.light 32 false,.light 33 false,.light 34 false,.light 35 false,.light 36 false,.light 37 false,.light 38 false,.light 39 false] [{},{},{},{},{},{},{},{},{},{},{},{},{},{},{},{},{},{},{},{},{},{},{},{},{},{},{},{},{},{},{},{},{},{},{ k:=1,x:=E_GTone y9 }] [0,3,54] [.sl false (a0.map E_GTone),.i l1_3,.bool (decide (y2.from_ < y9.to_))] ⟨[],1⟩ _ (by kernel_rfl) (cjC (hc3) (cjC (Eq.refl false) (cjC (Eq.refl false) (cjC (hc4) (cjC (Eq.refl false) (cjC (Eq.refl false) (cjC (hc5) (cjC (Eq.refl false) (cjC (Eq.refl false) (cjC (Eq.refl false) (cjC (Eq.refl false) (cjC (hc6) (cjC (Eq.refl false) (cjC (Eq.refl false) (cjC (hc7) (cjC (Eq.refl false) (cjC (Eq.refl false) (cjC (hc8) (cjC (Eq.refl true) (cjC (Eq.refl true) (cjC (Eq.refl true) (cjC (Eq.refl true) (cjC (Eq.refl true) (cjC ((ixE hy9).1) (cjC (mapGet E_GTone (ixE hy9).2) (cjC (Eq.refl true) (cjC (Eq.refl true) (cjC (Eq.refl true) (cj1 (Eq.refl false)))))))))))))))))))))))))))))) (kj2 (decide (y2.from_ < y9.to_)) rfl)
         ·replace hj2:=Option.some.inj hj2; subst hj2
          exact yun1z (c72 19) [[],[0],[0,1],[0,1,2],[0,1,2,3],[0,1,2,3,4],[0,1,2,3,4,5],[0,1,2,3,4,5,6],[0,1,2,3,4,5,6,7],[0,1,2,3,4,5,6,7,8],[0,1,2,3,4,5,6,7,8,9],[0,1,2,3,4,5,6,7,8,9,10],[0,1,2,3,4,5,6,7,8,9,10,11],[0,1,2,3,4,5,6,7,8,9,10,11,12],[0,1,2,3,4,5,6,7,8,9,10,11,12,13],[0,1,2,3,4,5,6,7,8,9,10,11,12,13,14],[0,1,2,3,4,5,6,7,8,9,10,11,12,13],[0,1,2,3,4,5,6,7,8,9,10,11,12,13,16],[0,1,2,3,4,5,6,7,8,9,10,11,12,13,14,15,16,17],[0,1,2,3,4,5,6,7,8,9,10,11,12,13,14,15,16,17,18],[0,1,2,3,4,5,6,7,8,9,10,11,12,13,14,15,16,17,18,19],[0,1,2,3,4,5,6,7,8,9,10,11,12,13,14,15,16,17,18,19,20],[0,1,2,3,4,5,6,7,8,9,10,11,12,13,14,15,16,17,18,19,20,21],[0,1,2,3,4,5,6,7,8,9,10,11,12,13,14,15,16,17,18,19,20,21,22],[0,1,2,3,4,5,6,7,8,9,10,11,12,13,14,15,16,17,18,19,20,21,22,23],[0,1,2,3,4,5,6,7,8,9,10,11,12,13,14,15,16,17,18,19,20,21,22,23,24],[0,1,2,3,4,5,6,7,8,9,10,11,12,13,14,15,16,17,18,19,20,21,22,23,24,25],[0,1,2,3,4,5,6,7,8,9,10,11,12,13,14,15,16,17,18,19,20,21,22,23,24,25,26],[0,1,2,3,4,5,6,7,8,9,10,11,12,13,14,15,16,17,18,19,20,21,22,23,24,25,26,27],[0,1,2,3,4,5,6,7,8,9,10,11,12,13,14,15,16,17,18,19,20,21,22,23,24,25,26,27,28],[0,1,2,3,4,5,6,7,8,9,10,11,12,13,14,15,16,17,18,19,20,21,22,23,24,25,26,27,28,29],[0,1,2,3,4,5,6,7,8,9,10,11,12,13,14,15,16,17,18,19,20,21,22,23,24,25,26,27,28],[0,1,2,3,4,5,6,7,8,9,10,11,12,13,14,15,16,17,18,19,20,21,22,23,24,25,26,27,28],[0,1,2,3,4,5,6,7,8,9,10,11,12,13,14,15,16,17,18,19,20,21,22,23,24,25,26,27,28,32],[0,1,2,3,4,5,6,7,8,9,10,11,12,13,14,15,16,17,18,19,20,21,22,23,24,25,26,27,28,31,32,33],[0,1,2,3,4,5,6,7,8,9,10,11,12,13,14,15,16,17,18,19,20,21,22,23,24,25,26,27,28,31,32,33,34],[0,1,2,3,4,5,6,7,8,9,10,11,12,13,14,15,16,17,18,19,20,21,22,23,24,25,26,27,28,31,32,33,34,35],[0,1,2,3,4,5,6,7,8,9,10,11,12,13,14,15,16,17,18,19,20,21,22,23,24,25,26,27,28,29,30,31,32,33,34,35,36],[0,1,2,3,4,5,6,7,8,9,10,11,12,13,14,15,16,17,18,19,20,21,22,23,24,25,26,27,28,29,30,31,32,33,34,35,36,37],[0,1,2,3,4,5,6,7,8,9,10,11,12,13,14,15,16,17,18,19,20,21,22,23,24,25,26,27,28,29,30,31,32,33,34,35,36,37,38]] [.light 0 false,.light 1 false,.light 2 false,.light 3 false,.light 4 false,.light 5 false,.light 6 false,.light 7 false,.light 8 false,.light 9 false,.light 10 false,.light 11 false,.light 12 false,.light 13 false,.light 14 false,.light 15 false,.light 16 false,.light 17 false,.light 18 false,.light 19 false,.light 20 false,.light 21 false,.light 22 false,.light 23 false,.light 24 false,.light 25 false,.light 26 false,.light 27 false,.light 28 false,.light 29 false,.light 30 false,.light 31 false,.light 32 false,.light 33 false,.light 34 false,.light 35 false,.light 36 false,.light 37 false,.light 38 false,.light 39 false] [{},{},{},{},{},{},{},{},{},{},{},{},{},{},{},{},{},{},{},{},{},{},{},{},{},{},{},{},{},{ g:=false },{ g:=false },{ g:=false },{ g:=false },{ g:=false },{ g:=false },{ g:=false },{ g:=false },{ g:=false }] [0,3,54] [.sl false (a0.map E_GTone),.i l1_3,.bool false] ⟨[],1⟩ _ (by kernel_rfl) (cjC (hc3) (cjC (Eq.refl false) (cjC (Eq.refl false) (cjC (hc4) (cjC (Eq.refl false) (cjC (Eq.refl false) (cjC (hc5) (cjC (Eq.refl false) (cjC (Eq.refl false) (cjC (Eq.refl false) (cjC (Eq.refl false) (cjC (hc6) (cjC (Eq.refl false) (cjC (Eq.refl false) (cjC (hc7) (cjC (Eq.refl false) (cjC (Eq.refl false) (cjC (hc8) (cjC (Eq.refl false) (cjC (Eq.refl false) (cjC (Eq.refl false) (cjC (Eq.refl false) (cjC (Eq.refl false) (cjC (Eq.refl false) (cjC (Eq.refl false) (cjC (Eq.refl false) (cj1 (Eq.refl false)))))))))))))))))))))))))))) (kj2 false rfl)
   ·rintro _ rfl
    rcases iteE hl1 with ⟨hc10,hl1⟩ | ⟨hc10,hl1⟩
    ·refine run_cT 54 (c72 20) (c72 23) j2_54 hc10 (by kernel_rfl) (by kernel_rfl) ?_
     refine run1z (c72 22) [] [2] [.bool false] ⟨[],1⟩ _ (by kernel_rfl) cj0 ?_
     replace hl1:=Option.some.inj hl1; subst hl1
     have hr:=rl1 _ rfl
     subst hr
     replace h:=elimR h
     refine run_t (by kernel_rfl) ?_
     refine inbR ?_
     refine thenR ?_
     refine ⟨⟨_,rfl⟩,?_⟩
     refine inbR ?_
     refine thenR ?_
     replace h:=Option.some.inj h; subst h
     exact fin_r (by kernel_rfl) rfl
    ·refine run_cF 54 (c72 20) (c72 23) j2_54 hc10 (by kernel_rfl) (by kernel_rfl) ?_
     refine run_k (by kernel_rfl) ?_
     refine inbN ?_
     refine thenN ?_
     refine run0z [] [0,3] [.sl false (a0.map E_GTone),.i (wr (l1_3 + 1))] ⟨[],1⟩ _ (by kernel_rfl) cj0 ?_
     replace hl1:=Option.some.inj hl1; subst hl1
     exact ⟨_,rfl,pi [],mkInto (ks:=[0,3]) (ys:=[.sl false (a0.map E_GTone),.i (wr (l1_3 + 1))]) (by kernel_rfl) (by kernel_rfl) (.k (.c (cleanMap _ _ cl_GTone)) (.k (.c rfl) .z)) .z⟩
  ·refine run_cF 8 (c72 11) (c72 12) (decide (l1_3 < (a0.length:Int))) hc1 (by kernel_rfl) (by kernel_rfl) ?_
   replace hl1:=Option.some.inj hl1; subst hl1
   have hr:=rl1 _ rfl
   subst hr
   refine awp_p [] [] (zipE [] []) ⟨[],0⟩ (by kernel_rfl) (?_)
   refine run_e 0 (by kernel_rfl) ?_
   refine thenE ?_
   refine ⟨⟨_,rfl⟩,?_⟩
   refine inbE ?_
   exact kl1 () rfl
 ·rintro ⟨⟩ rfl
  replace h:=elimL h
  refine thenN ?_
  refine run1z (c72 27) [] [2] [.bool true] ⟨[],0⟩ _ (by kernel_rfl) cj0 ?_
  refine run_t (by kernel_rfl) ?_
  replace h:=Option.some.inj h; subst h
  exact fin_r (by kernel_rfl) rfl
def f38 (a0:List (List GTone)):Option Int:=(loopN (σ:=(Bool × Int)) (τ:=Bool) (fun ((l1_3,l1_4):(Bool × Int))=>bif (decide (l1_4 < (a0.length:Int))) then (((bif l1_3 then (some true) else ((ix a0 l1_4).bind fun y3=>some (decide (400 < (y3.length:Int))))):Option Bool).bind fun (j2_3:Bool)=>some (.inl (j2_3,(wr (l1_4 + 1))))) else (some (.inr l1_3))) FUEL ((decide (6 < (a0.length:Int))),0)).bind fun (l1x_3:Bool)=>bif l1x_3 then (some 2) else ((loopN (σ:=Int) (τ:=(Unit ⊕ Int)) (fun (l3_5:Int)=>bif (decide (l3_5 < (a0.length:Int))) then ((ix a0 l3_5).bind fun y6=>(f72 y6).bind fun r7=>bif (!r7) then (some (.inr (.inr 80))) else (some (.inl (wr (l3_5 + 1))))) else (some (.inr (.inl ())))) FUEL 0).bind (Sum.elim (fun (_:Unit)=>some 0) some))
theorem f38_ok (a0:List (List GTone)) (r:Int) (h:f38 a0 = some r):APure Tryz.prog 38 [.sl false (a0.map (SL E_GTone))] (.i r):=by
 refine apure (clK (cleanMap a0 _ (cl_SL cl_GTone)) clZ) rfl ?_
 refine run_f 37 [.tmp 2] (c38 0) (zipE [0] [.sl false (a0.map (SL E_GTone))]) (by kernel_rfl) (by kernel_rfl) (by kernel_rfl) rfl ?_
 unfold f38 at h
 refine run1z (c38 2) [] [0] [.sl false (a0.map (SL E_GTone))] ⟨[],0⟩ _ (by kernel_rfl) cj0 ?_
 refine run1z (c38 4) [{},{ k:=1,n:=a0.length }] [0,3] [.sl false (a0.map (SL E_GTone)),.bool (decide (6 < (a0.length:Int)))] ⟨[],0⟩ _ (by kernel_rfl) (cj1 (mapLen a0 (SL E_GTone))) ?_
 refine run_s (c38 5) (c38 19) (by kernel_rfl) ?_
 refine run1z (c38 7) [] [0,3,4] [.sl false (a0.map (SL E_GTone)),.bool (decide (6 < (a0.length:Int))),.i 0] ⟨[],0⟩ _ (by kernel_rfl) cj0 ?_
 obtain ⟨l1x_3,hll1x,h⟩:=bindE h
 refine run_tq (fun (l1x_3:Bool)=>(zipE [0,3] [.sl false (a0.map (SL E_GTone)),.bool l1x_3])) (fun (l1x_3:Bool)=>⟨[],0⟩) (fun j=>l1x_3 = j) (fun kl1=>?_) ?_
 ·refine run_b 0 (c38 8) (by kernel_rfl) ?_
  refine run_l (c38 9) _ hll1x (fun ((l1_3,l1_4):(Bool × Int))=>(zipE [0,3,4] [.sl false (a0.map (SL E_GTone)),.bool l1_3,.i l1_4])) (fun ((l1_3,l1_4):(Bool × Int))=>⟨[],0⟩) [] (by intro i e; cases e <;> exact Nat.le_of_ble_eq_true rfl) (by kernel_rfl) (mkInto (ks:=[0,3,4]) (ys:=[.sl false (a0.map (SL E_GTone)),.bool (decide (6 < (a0.length:Int))),.i 0]) (by kernel_rfl) (by kernel_rfl) (.k (.c (cleanMap _ _ (cl_SL cl_GTone))) (.k (.c rfl) (.k (.c rfl) .z))) .z) ?_
  rintro ⟨l1_3,l1_4⟩ out hl1 rl1
  refine run_s (c38 10) (c38 15) (by kernel_rfl) ?_
  refine run1z (c38 12) [{},{},{ k:=1,n:=a0.length }] [0,3,4,12] [.sl false (a0.map (SL E_GTone)),.bool l1_3,.i l1_4,.bool (decide (l1_4 < (a0.length:Int)))] ⟨[],0⟩ _ (by kernel_rfl) (cj1 (mapLen a0 (SL E_GTone))) ?_
  rcases iteE hl1 with ⟨hc1,hl1⟩ | ⟨hc1,hl1⟩
  ·refine run_cT 12 (c38 13) (c38 14) (decide (l1_4 < (a0.length:Int))) hc1 (by kernel_rfl) (by kernel_rfl) ?_
   refine run_k (by kernel_rfl) ?_
   refine thenN ?_
   refine run_s (c38 16) (c38 18) (by kernel_rfl) ?_
   refine run_b 1 (c38 17) (by kernel_rfl) ?_
   obtain ⟨j2_3,hj2,hl1⟩:=bindE hl1
   refine run_tq (fun (j2_3:Bool)=>(zipE [0,3,4] [.sl false (a0.map (SL E_GTone)),.bool j2_3,.i l1_4])) (fun (j2_3:Bool)=>⟨[],0⟩) (fun j=>j2_3 = j) (fun kj2=>?_) ?_
   ·rcases iteE hj2 with ⟨hc2,hj2⟩ | ⟨hc2,hj2⟩
    ·replace hj2:=Option.some.inj hj2; subst hj2
     exact run0z [{},{},{ g:=false },{ g:=false },{ g:=false },{ g:=false },{ g:=false },{ g:=false },{ k:=1,b:=true }] [0,3,4] [.sl false (a0.map (SL E_GTone)),.bool true,.i l1_4] ⟨[],0⟩ _ (by kernel_rfl) (cjC (hc2) (cjC (hc2) (cjC (hc2) (cjC (hc2) (cjC (hc2) (cjC (hc2) (cj1 (hc2)))))))) (kj2 true rfl)
    ·obtain ⟨y3,hy3,hj2⟩:=bindE hj2
     replace hj2:=Option.some.inj hj2; subst hj2
     exact run0z [{},{},{},{},{ k:=1,x:=(SL E_GTone) y3 },{},{ k:=1,n:=y3.length },{},{ k:=1,b:=false }] [0,3,4] [.sl false (a0.map (SL E_GTone)),.bool (decide (400 < (y3.length:Int))),.i l1_4] ⟨[],0⟩ _ (by kernel_rfl) (cjC (hc2) (cjC (hc2) (cjC (hc2) (cjC ((ixE hy3).1) (cjC (mapGet (SL E_GTone) (ixE hy3).2) (cjC (hc2) (cjC (hc2) (cjC (mapLen y3 E_GTone) (cjC (hc2) (cj1 (hc2))))))))))) (kj2 (decide (400 < (y3.length:Int))) rfl)
   ·rintro _ rfl
    refine inbN ?_
    refine thenN ?_
    refine run0z [] [0,3,4] [.sl false (a0.map (SL E_GTone)),.bool j2_3,.i (wr (l1_4 + 1))] ⟨[],0⟩ _ (by kernel_rfl) cj0 ?_
    replace hl1:=Option.some.inj hl1; subst hl1
    exact ⟨_,rfl,pi [],mkInto (ks:=[0,3,4]) (ys:=[.sl false (a0.map (SL E_GTone)),.bool j2_3,.i (wr (l1_4 + 1))]) (by kernel_rfl) (by kernel_rfl) (.k (.c (cleanMap _ _ (cl_SL cl_GTone))) (.k (.c rfl) (.k (.c rfl) .z))) .z⟩
  ·refine run_cF 12 (c38 13) (c38 14) (decide (l1_4 < (a0.length:Int))) hc1 (by kernel_rfl) (by kernel_rfl) ?_
   replace hl1:=Option.some.inj hl1; subst hl1
   have hr:=rl1 _ rfl
   subst hr
   refine awp_p [0,3] [] (zipE [0,3] [.sl false (a0.map (SL E_GTone)),.bool l1_3]) ⟨[],0⟩ (by kernel_rfl) (?_)
   refine run_e 0 (by kernel_rfl) ?_
   refine thenE ?_
   refine ⟨⟨_,rfl⟩,?_⟩
   refine inbE ?_
   exact kl1 l1_3 rfl
 ·rintro _ rfl
  refine thenN ?_
  refine run_s (c38 20) (c38 27) (by kernel_rfl) ?_
  refine run1z (c38 22) [] [0,24] [.sl false (a0.map (SL E_GTone)),.bool l1x_3] ⟨[],0⟩ _ (by kernel_rfl) cj0 ?_
  rcases iteE h with ⟨hc4,h⟩ | ⟨hc4,h⟩
  ·refine run_cT 24 (c38 23) (c38 26) l1x_3 hc4 (by kernel_rfl) (by kernel_rfl) ?_
   refine run1z (c38 25) [] [2] [.i 2] ⟨[],0⟩ _ (by kernel_rfl) cj0 ?_
   refine run_t (by kernel_rfl) ?_
   refine thenR ?_
   replace h:=Option.some.inj h; subst h
   exact fin_r (by kernel_rfl) rfl
  ·refine run_cF 24 (c38 23) (c38 26) l1x_3 hc4 (by kernel_rfl) (by kernel_rfl) ?_
   refine run_k (by kernel_rfl) ?_
   refine thenN ?_
   refine run_s (c38 28) (c38 48) (by kernel_rfl) ?_
   refine run1z (c38 30) [] [0,5] [.sl false (a0.map (SL E_GTone)),.i 0] ⟨[],0⟩ _ (by kernel_rfl) cj0 ?_
   obtain ⟨ol3x,hll3x,h⟩:=bindE h
   refine run_tq (fun (_:Unit)=>(zipE [] [])) (fun (_:Unit)=>⟨[],0⟩) (fun j=>ol3x = .inl j) (fun kl3=>?_) ?_
   ·refine run_b 2 (c38 31) (by kernel_rfl) ?_
    refine run_l (c38 32) _ hll3x (fun (l3_5:Int)=>(zipE [0,5] [.sl false (a0.map (SL E_GTone)),.i l3_5])) (fun (l3_5:Int)=>⟨[],0⟩) [] (by intro i e; cases e <;> exact Nat.le_of_ble_eq_true rfl) (by kernel_rfl) (mkInto (ks:=[0,5]) (ys:=[.sl false (a0.map (SL E_GTone)),.i 0]) (by kernel_rfl) (by kernel_rfl) (.k (.c (cleanMap _ _ (cl_SL cl_GTone))) (.k (.c rfl) .z)) .z) ?_
    rintro l3_5 out hl3 rl3
    refine run_s (c38 33) (c38 38) (by kernel_rfl) ?_
    refine run1z (c38 35) [{},{},{ k:=1,n:=a0.length }] [0,5,28] [.sl false (a0.map (SL E_GTone)),.i l3_5,.bool (decide (l3_5 < (a0.length:Int)))] ⟨[],0⟩ _ (by kernel_rfl) (cj1 (mapLen a0 (SL E_GTone))) ?_
    rcases iteE hl3 with ⟨hc5,hl3⟩ | ⟨hc5,hl3⟩
    ·refine run_cT 28 (c38 36) (c38 37) (decide (l3_5 < (a0.length:Int))) hc5 (by kernel_rfl) (by kernel_rfl) ?_
     refine run_k (by kernel_rfl) ?_
     refine thenN ?_
     refine run_s (c38 39) (c38 47) (by kernel_rfl) ?_
     refine run_b 3 (c38 40) (by kernel_rfl) ?_
     obtain ⟨y6,hy6,hl3⟩:=bindE hl3
     obtain ⟨r7,hr7,hl3⟩:=bindE hl3
     refine run1z (c38 42) [{},{},{ k:=1,x:=(SL E_GTone) y6 },{},{ c:=some (.bool r7,⟨[],0⟩) }] [0,5,36] [.sl false (a0.map (SL E_GTone)),.i l3_5,.bool (!r7)] ⟨[],0⟩ _ (by kernel_rfl) (cjC ((ixE hy6).1) (cjC (mapGet (SL E_GTone) (ixE hy6).2) (cj1 (f72_ok y6 _ hr7 ⟨[],0⟩)))) ?_
     rcases iteE hl3 with ⟨hc8,hl3⟩ | ⟨hc8,hl3⟩
     ·refine run_cT 36 (c38 43) (c38 46) (!r7) hc8 (by kernel_rfl) (by kernel_rfl) ?_
      refine run1z (c38 45) [] [2] [.i 80] ⟨[],0⟩ _ (by kernel_rfl) cj0 ?_
      replace hl3:=Option.some.inj hl3; subst hl3
      have hr:=rl3 _ rfl
      subst hr
      replace h:=elimR h
      refine run_t (by kernel_rfl) ?_
      refine inbR ?_
      refine thenR ?_
      refine ⟨⟨_,rfl⟩,?_⟩
      refine inbR ?_
      refine thenR ?_
      replace h:=Option.some.inj h; subst h
      exact fin_r (by kernel_rfl) rfl
     ·refine run_cF 36 (c38 43) (c38 46) (!r7) hc8 (by kernel_rfl) (by kernel_rfl) ?_
      refine run_k (by kernel_rfl) ?_
      refine inbN ?_
      refine thenN ?_
      refine run0z [] [0,5] [.sl false (a0.map (SL E_GTone)),.i (wr (l3_5 + 1))] ⟨[],0⟩ _ (by kernel_rfl) cj0 ?_
      replace hl3:=Option.some.inj hl3; subst hl3
      exact ⟨_,rfl,pi [],mkInto (ks:=[0,5]) (ys:=[.sl false (a0.map (SL E_GTone)),.i (wr (l3_5 + 1))]) (by kernel_rfl) (by kernel_rfl) (.k (.c (cleanMap _ _ (cl_SL cl_GTone))) (.k (.c rfl) .z)) .z⟩
    ·refine run_cF 28 (c38 36) (c38 37) (decide (l3_5 < (a0.length:Int))) hc5 (by kernel_rfl) (by kernel_rfl) ?_
     replace hl3:=Option.some.inj hl3; subst hl3
     have hr:=rl3 _ rfl
     subst hr
     refine awp_p [] [] (zipE [] []) ⟨[],0⟩ (by kernel_rfl) (?_)
     refine run_e 2 (by kernel_rfl) ?_
     refine thenE ?_
     refine ⟨⟨_,rfl⟩,?_⟩
     refine inbE ?_
     exact kl3 () rfl
   ·rintro ⟨⟩ rfl
    replace h:=elimL h
    refine thenN ?_
    refine run1z (c38 50) [] [2] [.i 0] ⟨[],0⟩ _ (by kernel_rfl) cj0 ?_
    refine run_t (by kernel_rfl) ?_
    replace h:=Option.some.inj h; subst h
    exact fin_r (by kernel_rfl) rfl
def f60 (a0:List GTone) (a1:List GFigure):Option Int:=(f38 ([a0]:List (List GTone))).bind fun r1=>bif (decide (r1 ≠ 0)) then (some r1) else ((f26 a1).bind fun r3=>some r3)
def f98 (a0:GFigure):Option Int:=(loopN (σ:=(Int × Int)) (τ:=Int) (fun ((l1_3,l1_4):(Int × Int))=>bif (decide (l1_4 < (a0.shares.length:Int))) then ((ix a0.shares l1_4).bind fun y2=>some (.inl ((wr (l1_3 + y2)),(wr (l1_4 + 1))))) else (some (.inr l1_3))) FUEL (0,0)).bind fun (l1x_3:Int)=>some l1x_3
def f61 (a0:List GTone) (a1:GFigure) (a2:Int):Option Bool:=((bif (decide ((a0.length:Int) ≤ (wr (a2 + 1)))) then (some true) else ((ix a0 (wr (a2 + 1))).bind fun y2=>(ix a0 a2).bind fun y3=>bif (decide (y2.from_ ≠ y3.to_)) then (some true) else (bif (decide ((wr (y2.pitch - y3.pitch)) ≠ a1.interval)) then (some true) else ((f98 a1).bind fun r6=>need (r6 ≠ 0) <| some (decide ((Int.tmod (wr (y3.to_ - y3.from_)) r6) ≠ 0)))))):Option Bool).bind fun (j1_61:Bool)=>bif j1_61 then (some false) else ((loopN (σ:=Int) (τ:=(Unit ⊕ Bool)) (fun (l2_7:Int)=>bif (decide (l2_7 < (a1.moves.length:Int))) then ((ix a0 a2).bind fun y10=>(ix a1.moves l2_7).bind fun y11=>((bif (decide ((wr (y10.pitch + y11)) < 0)) then (some true) else (some (decide (127 < (wr (y10.pitch + y11)))))):Option Bool).bind fun (j3_85:Bool)=>bif j3_85 then (some (.inr (.inr false))) else (some (.inl (wr (l2_7 + 1))))) else (some (.inr (.inl ())))) FUEL 0).bind (Sum.elim (fun (_:Unit)=>some true) some))
def f28 (a0:List GTone) (a1:List GFigure) (a2:Int):Option (((List Int)) × Int):=(f60 a0 a1).bind fun r1=>bif (decide (r1 ≠ 0)) then (some (([]:List Int),r1)) else (((bif (decide (a2 < 0)) then (some true) else (some (decide ((a0.length:Int) ≤ a2)))):Option Bool).bind fun (j1_24:Bool)=>bif j1_24 then (some (([]:List Int),1)) else ((loopN (σ:=(List Int × Int)) (τ:=(List Int)) (fun ((l2_9,l2_10):(List Int × Int))=>bif (decide (l2_10 < (a1.length:Int))) then ((((ix a1 l2_10).bind fun y6=>(f61 a0 y6 a2).bind fun r7=>bif r7 then (need (l2_9.length + 1 ≤ maxElems) <| some (l2_9 ++ [(wr (l2_10 + 1))])) else (some l2_9)):Option (List Int)).bind fun (j3_9:(List Int))=>some (.inl (j3_9,(wr (l2_10 + 1))))) else (some (.inr l2_9))) FUEL (([]:List Int),0)).bind fun (l2x_9:(List Int))=>some (l2x_9,0)))
def f18 (a0:List Int) (a1:List Int):Option Bool:=bif (decide ((a0.length:Int) ≠ (a1.length:Int))) then (some false) else ((loopN (σ:=Int) (τ:=(Unit ⊕ Bool)) (fun (l1_5:Int)=>bif (decide (l1_5 < (a0.length:Int))) then ((ix a0 l1_5).bind fun y3=>(ix a1 l1_5).bind fun y4=>bif (decide (y3 ≠ y4)) then (some (.inr (.inr false))) else (some (.inl (wr (l1_5 + 1))))) else (some (.inr (.inl ())))) FUEL 0).bind (Sum.elim (fun (_:Unit)=>some true) some))
theorem f18_ok (a0:List Int) (a1:List Int) (r:Bool) (h:f18 a0 a1 = some r):APure Tryz.prog 18 [.sl false (a0.map AV.i),.sl false (a1.map AV.i)] (.bool r):=by
 refine apure (clK (cleanMap a0 _ cl_i) (clK (cleanMap a1 _ cl_i) clZ)) rfl ?_
 refine run_f 26 [.tmp 4] (c18 0) (zipE [0,1] [.sl false (a0.map AV.i),.sl false (a1.map AV.i)]) (by kernel_rfl) (by kernel_rfl) (by kernel_rfl) rfl ?_
 unfold f18 at h
 refine run1z (c18 2) [] [0,1] [.sl false (a0.map AV.i),.sl false (a1.map AV.i)] ⟨[],0⟩ _ (by kernel_rfl) cj0 ?_
 refine run_s (c18 3) (c18 10) (by kernel_rfl) ?_
 refine run1z (c18 5) [{},{ k:=1,n:=a0.length },{},{ k:=1,n:=a1.length }] [0,1,10] [.sl false (a0.map AV.i),.sl false (a1.map AV.i),.bool (decide ((a0.length:Int) ≠ (a1.length:Int)))] ⟨[],0⟩ _ (by kernel_rfl) (cjC (mapLen a0 AV.i) (cj1 (mapLen a1 AV.i))) ?_
 rcases iteE h with ⟨hc1,h⟩ | ⟨hc1,h⟩
 ·refine run_cT 10 (c18 6) (c18 9) (decide ((a0.length:Int) ≠ (a1.length:Int))) hc1 (by kernel_rfl) (by kernel_rfl) ?_
  refine run1z (c18 8) [] [4] [.bool false] ⟨[],0⟩ _ (by kernel_rfl) cj0 ?_
  refine run_t (by kernel_rfl) ?_
  refine thenR ?_
  replace h:=Option.some.inj h; subst h
  exact fin_r (by kernel_rfl) rfl
 ·refine run_cF 10 (c18 6) (c18 9) (decide ((a0.length:Int) ≠ (a1.length:Int))) hc1 (by kernel_rfl) (by kernel_rfl) ?_
  refine run_k (by kernel_rfl) ?_
  refine thenN ?_
  refine run_s (c18 11) (c18 31) (by kernel_rfl) ?_
  refine run1z (c18 13) [] [0,1,5] [.sl false (a0.map AV.i),.sl false (a1.map AV.i),.i 0] ⟨[],0⟩ _ (by kernel_rfl) cj0 ?_
  obtain ⟨ol1x,hll1x,h⟩:=bindE h
  refine run_tq (fun (_:Unit)=>(zipE [] [])) (fun (_:Unit)=>⟨[],0⟩) (fun j=>ol1x = .inl j) (fun kl1=>?_) ?_
  ·refine run_b 0 (c18 14) (by kernel_rfl) ?_
   refine run_l (c18 15) _ hll1x (fun (l1_5:Int)=>(zipE [0,1,5] [.sl false (a0.map AV.i),.sl false (a1.map AV.i),.i l1_5])) (fun (l1_5:Int)=>⟨[],0⟩) [] (by intro i e; cases e <;> exact Nat.le_of_ble_eq_true rfl) (by kernel_rfl) (mkInto (ks:=[0,1,5]) (ys:=[.sl false (a0.map AV.i),.sl false (a1.map AV.i),.i 0]) (by kernel_rfl) (by kernel_rfl) (.k (.c (cleanMap _ _ cl_i)) (.k (.c (cleanMap _ _ cl_i)) (.k (.c rfl) .z))) .z) ?_
   rintro l1_5 out hl1 rl1
   refine run_s (c18 16) (c18 21) (by kernel_rfl) ?_
   refine run1z (c18 18) [{},{},{ k:=1,n:=a0.length }] [0,1,5,14] [.sl false (a0.map AV.i),.sl false (a1.map AV.i),.i l1_5,.bool (decide (l1_5 < (a0.length:Int)))] ⟨[],0⟩ _ (by kernel_rfl) (cj1 (mapLen a0 AV.i)) ?_
   rcases iteE hl1 with ⟨hc2,hl1⟩ | ⟨hc2,hl1⟩
   ·refine run_cT 14 (c18 19) (c18 20) (decide (l1_5 < (a0.length:Int))) hc2 (by kernel_rfl) (by kernel_rfl) ?_
    refine run_k (by kernel_rfl) ?_
    refine thenN ?_
    refine run_s (c18 22) (c18 30) (by kernel_rfl) ?_
    refine run_b 1 (c18 23) (by kernel_rfl) ?_
    obtain ⟨y3,hy3,hl1⟩:=bindE hl1
    obtain ⟨y4,hy4,hl1⟩:=bindE hl1
    refine yun1z (c18 25) [[],[],[0,1],[0,1,2],[],[],[4,5],[4,5,6],[0,1,2,3,4,5,6,7]] [.light 0 false,.light 1 false,.light 2 false,.light 3 false,.light 4 false,.light 5 false,.light 6 false,.light 7 false,.light 8 false] [{},{},{ k:=1,x:=AV.i y3 },{},{},{},{ k:=1,x:=AV.i y4 }] [0,1,5,25] [.sl false (a0.map AV.i),.sl false (a1.map AV.i),.i l1_5,.bool (decide (y3 ≠ y4))] ⟨[],0⟩ _ (by kernel_rfl) (cjC ((ixE hy3).1) (cjC (mapGet AV.i (ixE hy3).2) (cjC ((ixE hy4).1) (cj1 (mapGet AV.i (ixE hy4).2))))) ?_
    rcases iteE hl1 with ⟨hc5,hl1⟩ | ⟨hc5,hl1⟩
    ·refine run_cT 25 (c18 26) (c18 29) (decide (y3 ≠ y4)) hc5 (by kernel_rfl) (by kernel_rfl) ?_
     refine run1z (c18 28) [] [4] [.bool false] ⟨[],0⟩ _ (by kernel_rfl) cj0 ?_
     replace hl1:=Option.some.inj hl1; subst hl1
     have hr:=rl1 _ rfl
     subst hr
     replace h:=elimR h
     refine run_t (by kernel_rfl) ?_
     refine inbR ?_
     refine thenR ?_
     refine ⟨⟨_,rfl⟩,?_⟩
     refine inbR ?_
     refine thenR ?_
     replace h:=Option.some.inj h; subst h
     exact fin_r (by kernel_rfl) rfl
    ·refine run_cF 25 (c18 26) (c18 29) (decide (y3 ≠ y4)) hc5 (by kernel_rfl) (by kernel_rfl) ?_
     refine run_k (by kernel_rfl) ?_
     refine inbN ?_
     refine thenN ?_
     refine run0z [] [0,1,5] [.sl false (a0.map AV.i),.sl false (a1.map AV.i),.i (wr (l1_5 + 1))] ⟨[],0⟩ _ (by kernel_rfl) cj0 ?_
     replace hl1:=Option.some.inj hl1; subst hl1
     exact ⟨_,rfl,pi [],mkInto (ks:=[0,1,5]) (ys:=[.sl false (a0.map AV.i),.sl false (a1.map AV.i),.i (wr (l1_5 + 1))]) (by kernel_rfl) (by kernel_rfl) (.k (.c (cleanMap _ _ cl_i)) (.k (.c (cleanMap _ _ cl_i)) (.k (.c rfl) .z))) .z⟩
   ·refine run_cF 14 (c18 19) (c18 20) (decide (l1_5 < (a0.length:Int))) hc2 (by kernel_rfl) (by kernel_rfl) ?_
    replace hl1:=Option.some.inj hl1; subst hl1
    have hr:=rl1 _ rfl
    subst hr
    refine awp_p [] [] (zipE [] []) ⟨[],0⟩ (by kernel_rfl) (?_)
    refine run_e 0 (by kernel_rfl) ?_
    refine thenE ?_
    refine ⟨⟨_,rfl⟩,?_⟩
    refine inbE ?_
    exact kl1 () rfl
  ·rintro ⟨⟩ rfl
   replace h:=elimL h
   refine thenN ?_
   refine run1z (c18 33) [] [4] [.bool true] ⟨[],0⟩ _ (by kernel_rfl) cj0 ?_
   refine run_t (by kernel_rfl) ?_
   replace h:=Option.some.inj h; subst h
   exact fin_r (by kernel_rfl) rfl
def f13:Option Bool:=some true
theorem f13_ok (r:Bool) (h:f13 = some r):APure Tryz.prog 13 [] (.bool r):=by cases h; exact works_ok
def f6 (a0:List GTone) (a1:List GFigure) (a2:Int):Option Bool:=(f25 a1).bind fun r1=>(f26 a1).bind fun r2=>bif (decide (r1 ≠ r2)) then (some false) else ((f27 a0 a1 a2).bind fun r4=>(f28 a0 a1 a2).bind fun r5=>((bif (decide (r4.2 = r5.2)) then ((f18 r4.1 r5.1).bind fun r7=>bif r7 then ((f13).bind fun r9=>some r9) else (some false)) else (some false)):Option Bool).bind fun (j1_6:Bool)=>some j1_6)
end Go.Proofs.YtplpfocfcppajaaGreat
