/-
 Functions of the program as Lean functions,and the walks. Written by a program of ours.
-/
import Derived.Test.YtpljabnngpnieaaV32
import Derived.Test.YtpljabnngpnieaaV13
namespace Go.Proofs.Ytpljabnngpnieaa
open Go Go.Am
set_option maxRecDepth 100000
set_option linter.all false
noncomputable def c40 (k:Nat):Code:=nthC (subs (Try.f40.body.getD .skip)) k
def f40 (a0:Int) (a1:Int) (a2:Int):Option Bool:=((bif (decide (a1 ≤ a0)) then (some (decide (a0 ≤ a2))) else (some false)):Option Bool).bind fun (j1_6:Bool)=>some j1_6
theorem f40_ok (a0:Int) (a1:Int) (a2:Int) (r:Bool) (h:f40 a0 a1 a2 = some r):APure Try.prog 40 [.i a0,.i a1,.i a2] (.bool r):=by
 refine apure (clK rfl (clK rfl (clK rfl clZ))) rfl ?_
 refine run_f 15 [.tmp 6] (c40 0) (zipE [0,1,2] [.i a0,.i a1,.i a2]) (by kernel_rfl) (by kernel_rfl) (by kernel_rfl) rfl ?_
 unfold f40 at h
 refine run1z (c40 2) [] [0,1,2] [.i a0,.i a1,.i a2] ⟨[],0⟩ _ (by kernel_rfl) cj0 ?_
 obtain ⟨j1_6,hj1,h⟩:=bindE h
 refine run_gq (c40 4) (fun (j1_6:Bool)=>(zipE [6] [.bool j1_6])) (fun (j1_6:Bool)=>⟨[],0⟩) (fun j=>j1_6 = j) (fun kj1=>?_) ?_
 ·rcases iteE hj1 with ⟨hc1,hj1⟩ | ⟨hc1,hj1⟩
  ·replace hj1:=Option.some.inj hj1; subst hj1
   exact run1z (c40 4) [{},{},{},{},{},{},{},{ k:=1,b:=true }] [6] [.bool (decide (a0 ≤ a2))] ⟨[],0⟩ _ (by kernel_rfl) (cjC (hc1) (cjC (hc1) (cjC (hc1) (cj1 (hc1))))) (kj1 (decide (a0 ≤ a2)) rfl)
  ·replace hj1:=Option.some.inj hj1; subst hj1
   exact run1z (c40 4) [{},{},{},{},{ g:=false },{ g:=false },{ g:=false },{ k:=1,b:=false }] [6] [.bool false] ⟨[],0⟩ _ (by kernel_rfl) (cjC (hc1) (cjC (hc1) (cjC (hc1) (cj1 (hc1))))) (kj1 false rfl)
 ·rintro _ rfl
  refine run_t (by kernel_rfl) ?_
  replace h:=Option.some.inj h; subst h
  exact fin_r (by kernel_rfl) rfl
def f15_1 (a0:GCPlayer) (a1:Int):Option (GFrame × Int × Int × Bool × List GCDesk × List GCLive × List GTake):=(f40 a1 0 a0.end_).bind fun r1=>bif (!r1) then (some ((⟨0,([]:List GVoice),([]:List GVoice)⟩:GFrame),1,a0.now,a0.waiting,a0.desks,a0.sounding.l,a0.takes)) else ((f35 a0).bind fun r3=>(f37 (⟨a0.clock,a0.now,a0.end_,a0.waiting,a0.desks,a0.from_,a0.to_,a0.times,(⟨r3.2.1⟩:GCShelf_live),r3.2.2⟩:GCPlayer) a1).bind fun r4=>some ((⟨a1,([]:List GVoice),r3.1⟩:GFrame),0,a1,true,r4,r3.2.1,r3.2.2))
end Go.Proofs.Ytpljabnngpnieaa
