/-
 Signs of 96: the whole call. Printed by a program.
 Own work. No Go text.
-/
import Derived.Test.YthjapedbgmjhmaaGreatMn
import Derived.Test.YthjapedbgmjhmaaGreatWf0
import Derived.Test.YthjapedbgmjhmaaGreatWf1
import Derived.Test.YthjapedbgmjhmaaGreatWf2
import Derived.Test.YthjapedbgmjhmaaGreatWf3
namespace Go.Proofs.YthjapedbgmjhmaaGreat
open Go Go.Am
set_option maxRecDepth 100000
set_option linter.all false
theorem lend : iloop 0 r74 ks74 2904 2019 le12 ls12 = some (.exit 0,oe74,os74) := by kernel_rfl
theorem lj11 : iloop 0 r74 ks74 2912 1851 le11 ls11 = some (.exit 0,oe74,os74) := (iloop_iter (n := 2904) ch11).trans lend
theorem lj10 : iloop 0 r74 ks74 2920 1683 le10 ls10 = some (.exit 0,oe74,os74) := (iloop_iter (n := 2912) ch10).trans lj11
theorem lj9 : iloop 0 r74 ks74 2928 1515 le9 ls9 = some (.exit 0,oe74,os74) := (iloop_iter (n := 2920) ch9).trans lj10
theorem lj8 : iloop 0 r74 ks74 2936 1347 le8 ls8 = some (.exit 0,oe74,os74) := (iloop_iter (n := 2928) ch8).trans lj9
theorem lj7 : iloop 0 r74 ks74 2944 1179 le7 ls7 = some (.exit 0,oe74,os74) := (iloop_iter (n := 2936) ch7).trans lj8
theorem lj6 : iloop 0 r74 ks74 2952 1011 le6 ls6 = some (.exit 0,oe74,os74) := (iloop_iter (n := 2944) ch6).trans lj7
theorem lj5 : iloop 0 r74 ks74 2960 843 le5 ls5 = some (.exit 0,oe74,os74) := (iloop_iter (n := 2952) ch5).trans lj6
theorem lj4 : iloop 0 r74 ks74 2968 675 le4 ls4 = some (.exit 0,oe74,os74) := (iloop_iter (n := 2960) ch4).trans lj5
theorem lj3 : iloop 0 r74 ks74 2976 507 le3 ls3 = some (.exit 0,oe74,os74) := (iloop_iter (n := 2968) ch3).trans lj4
theorem lj2 : iloop 0 r74 ks74 2984 339 le2 ls2 = some (.exit 0,oe74,os74) := (iloop_iter (n := 2976) ch2).trans lj3
theorem lj1 : iloop 0 r74 ks74 2992 171 le1 ls1 = some (.exit 0,oe74,os74) := (iloop_iter (n := 2984) ch1).trans lj2
theorem lj0 : iloop 0 r74 ks74 3000 3 le0 ls0 = some (.exit 0,oe74,os74) := (iloop_iter (n := 2992) ch0).trans lj1
theorem q5 : irun Tryz.prog F74.ntmps 0 none K74 3000 (sl (sl C74)) (Nat.lor (expM (sr (sl C74))).1 lp74) pe3 ps3 = some (.normal,pe4,ps4) := by kernel_rfl
theorem cut5 : cutE ks74 pe4 = le0 := by kernel_rfl
theorem st5 : ps4 = ls0 := by kernel_rfl
theorem q6 : irun Tryz.prog F74.ntmps 0 none K74 3000 (sr (sl C74)) lp74 pe4 ps4 = some (.normal,oe74,os74) := irun_bl (i := 0) (by kernel_rfl) (by
 show iloop 0 r74 ks74 3000 ps4.cnt (cutE ks74 pe4) ps4 = _
 rw [cut5,st5]; exact lj0)
theorem q7 : irun Tryz.prog F74.ntmps 0 none K74 3000 (sl C74) lp74 pe3 ps3 = some (.normal,oe74,os74) := irun_seq (by kernel_rfl) q5 q6
theorem q8 : irun Tryz.prog F74.ntmps 0 none K74 3000 (sr C74) lo74 oe74 os74 = some (.ret,pe5,ps5) := by kernel_rfl
theorem q9 : irun Tryz.prog F74.ntmps 0 none K74 3000 C74 lo74 pe3 ps3 = some (.ret,pe5,ps5) := irun_seq (by kernel_rfl) q7 q8
theorem p0 : irun Tryz.prog F74.ntmps 0 none K74 3000 (sl B74) (Nat.lor (expM (sr B74)).1 lo74) (argEnv [.i 96] 0) St.nil = some (.normal,pe0,ps0) := by kernel_rfl
theorem p1 : irun Tryz.prog F74.ntmps 0 none K74 3000 (sl (sr B74)) (Nat.lor (expM (sr (sr B74))).1 lo74) pe0 ps0 = some (.normal,pe1,ps1) := by kernel_rfl
theorem p2 : irun Tryz.prog F74.ntmps 0 none K74 3000 (sl (sr (sr B74))) (Nat.lor (expM (sr (sr (sr B74)))).1 lo74) pe1 ps1 = some (.normal,pe2,ps2) := by kernel_rfl
theorem p3 : irun Tryz.prog F74.ntmps 0 none K74 3000 (sl (sr (sr (sr B74)))) (Nat.lor (expM (sr (sr (sr (sr B74))))).1 lo74) pe2 ps2 = some (.normal,pe3,ps3) := by kernel_rfl
theorem w3 : irun Tryz.prog F74.ntmps 0 none K74 3000 (sr (sr (sr B74))) lo74 pe2 ps2 = some (.ret,pe5,ps5) := irun_seq (by kernel_rfl) p3 q9
theorem w2 : irun Tryz.prog F74.ntmps 0 none K74 3000 (sr (sr B74)) lo74 pe1 ps1 = some (.ret,pe5,ps5) := irun_seq (by kernel_rfl) p2 w3
theorem w1 : irun Tryz.prog F74.ntmps 0 none K74 3000 (sr B74) lo74 pe0 ps0 = some (.ret,pe5,ps5) := irun_seq (by kernel_rfl) p1 w2
theorem w0 : irun Tryz.prog F74.ntmps 0 none K74 3000 B74 lo74 (argEnv [.i 96] 0) St.nil = some (.ret,pe5,ps5) := irun_seq (by kernel_rfl) p0 w1
theorem mAB : MemOk Tryz.prog (mA ++ mB) := MemOk.app mA_ok mB_ok
theorem f74_run : ACalls Tryz.prog 39 [.i 96] St.nil fun y _ => y = .tup [.sl false [.agg [.i 3,.bool false,.bool false]],.i 0] := by
 have h : ifunc Tryz.prog K74 3000 39 [.i 96] St.nil = endOf Tryz.prog F74.results pe5 ps5 := ifunc_at (c := B74) (fn := F74) (by kernel_rfl) (by kernel_rfl) (by kernel_rfl) w0
 obtain ⟨v,t,hv,hz⟩ : ∃ v t,endOf Tryz.prog F74.results pe5 ps5 = some (v,t) ∧ fzRun 400 v t.heap = .tup [.sl false [.agg [.i 3,.bool false,.bool false]],.i 0] := okEnd (by kernel_rfl)
 exact (fzRun_ok (n := 400) (h := t.heap) (c := t.cnt) (acalls_run (memOra_ok mAB) 3000 60 (h.trans hv))).mono fun y u a => by rw [a,hz]
def mF : Memo := [(39,[.i (96)],.tup [.sl false [.agg [.i 3,.bool false,.bool false]],.i 0])]
theorem mF_ok : MemOk Tryz.prog mF := ⟨⟨by kernel_rfl,apure rfl rfl f74_run⟩,trivial⟩
end Go.Proofs.YthjapedbgmjhmaaGreat
