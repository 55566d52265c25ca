/-
 slices.Repeat of one number,at most six times: carried out by the interpreter; math/bits.Mul from the shelf.
 Own work. No Go text.
-/
import Derived.Test.YtodkhgjhodmeoaaGreatAm31
import Derived.Test.YtodkhgjhodmeoaaGreatChecked
import Derived.Shelf.Bits.Mul64
set_option linter.all false
namespace Go.Proofs.YtodkhgjhodmeoaaGreat
open Go Go.Am Go.RowKit
set_option maxRecDepth 100000
def lay_mul_ren : Go.Shelf.Ren := ⟨fun | 212 => 198 | 263 => 228 | 264 => 229 | n => n,fun | 46 => 213 | 51 => 246 | 146 => 281 | 53 => 248 | 148 => 283 | n => n,fun | n => n⟩
theorem lay_mul : Go.Proofs.Lays.n212 Tryz.prog lay_mul_ren where
 mixed := by kernel_rfl
 f212 := Tryz.func198.trans (congrArg some (by kernel_rfl))
 f263 := Tryz.func228.trans (congrArg some (by kernel_rfl))
 f264 := Tryz.func229.trans (congrArg some (by kernel_rfl))
 t46 := Tryz.underlying213
 a46 := Tryz.isAgg213
 z46 := Tryz.sizeOf213
 v46 := Tryz.zeroValue213
 t51 := Tryz.underlying246
 a51 := Tryz.isAgg246
 z51 := Tryz.sizeOf246
 v51 := Tryz.zeroValue246
 t53 := Tryz.underlying248
 a53 := Tryz.isAgg248
 z53 := Tryz.sizeOf248
 v53 := Tryz.zeroValue248
 t146 := Tryz.underlying281
 a146 := Tryz.isAgg281
 z146 := Tryz.sizeOf281
 v146 := Tryz.zeroValue281
 t148 := Tryz.underlying283
 a148 := Tryz.isAgg283
 z148 := Tryz.sizeOf283
 v148 := Tryz.zeroValue283
theorem mul_calls (a b : Nat) (ha : a < 18446744073709551616) (hb : b < 18446744073709551616) (s : St) :
  ACalls Tryz.prog 198 [.int .u64 (a : Int),.int .u64 (b : Int)] s fun y t => y = .tup [.int .u64 ((a * b / 18446744073709551616 : Nat) : Int),.int .u64 ((a * b % 18446744073709551616 : Nat) : Int)] ∧ t = s := by
 intro G w vs hs hv
 obtain ⟨hsz,hvv⟩ := hv
 rcases vs with ⟨_ | ⟨v1,_ | ⟨v2,_ | ⟨_,_⟩⟩⟩⟩ <;> simp at hsz
 have h1 := hvv 0 _ v1 rfl rfl
 have h2 := hvv 1 _ v2 rfl rfl
 cases h1
 cases h2
 refine (Go.Proofs.Any.bits_Mul lay_mul a b ha hb w).mono ?_
 rintro e w' ⟨rfl,rfl⟩
 refine ⟨_,G,_,s,rfl,.tup _ _ rfl ?_,hs,Ext.refl G s _,rfl,rfl⟩
 intro i x y hx hy
 match i,hx,hy with
 | 0,hx,hy => simp at hx hy; subst hx; subst hy; exact .int _ _
 | 1,hx,hy => simp at hx hy; subst hx; subst hy; exact .int _ _
 | i + 2,hx,hy => simp at hx
def oraMul : Ora := fun g l s => match g,l with
 | 198,[.int .u64 (.ofNat a),.int .u64 (.ofNat b)] => bif Nat.blt a 18446744073709551616 && Nat.blt b 18446744073709551616 then some (.tup [.int .u64 ((a * b / 18446744073709551616 : Nat) : Int),.int .u64 ((a * b % 18446744073709551616 : Nat) : Int)],s) else none
 | _,_ => none
theorem oraMul_ok : OraOk Tryz.prog oraMul := by
 intro g l s v s' h
 unfold oraMul at h
 split at h
 ·rename_i a b
  cases hc : (Nat.blt a 18446744073709551616 && Nat.blt b 18446744073709551616) with
  | true =>
   rw [hc] at h
   cases h
   simp only [Bool.and_eq_true] at hc
   exact ⟨by kernel_rfl,mul_calls a b (Nat.le_of_ble_eq_true hc.1) (Nat.le_of_ble_eq_true hc.2) s⟩
  | false => rw [hc] at h; cases h
 ·cases h
theorem rep1 (x : Int) : ifunc Tryz.prog (icall Tryz.prog oraMul 300 60) 300 163 [.sl false [.i x],.i 1] ⟨[],0⟩ = some (.ms 0 0 1,⟨[(0,.cells 1 [.i x])],1⟩) := by kernel_rfl
theorem rep2 (x : Int) : ifunc Tryz.prog (icall Tryz.prog oraMul 300 60) 300 163 [.sl false [.i x],.i 2] ⟨[],0⟩ = some (.ms 0 0 2,⟨[(0,.cells 1 [.i x,.i x])],1⟩) := by kernel_rfl
theorem rep3 (x : Int) : ifunc Tryz.prog (icall Tryz.prog oraMul 300 60) 300 163 [.sl false [.i x],.i 3] ⟨[],0⟩ = some (.ms 0 0 3,⟨[(0,.cells 1 [.i x,.i x,.i x])],1⟩) := by kernel_rfl
theorem rep4 (x : Int) : ifunc Tryz.prog (icall Tryz.prog oraMul 300 60) 300 163 [.sl false [.i x],.i 4] ⟨[],0⟩ = some (.ms 0 0 4,⟨[(0,.cells 1 [.i x,.i x,.i x,.i x])],1⟩) := by kernel_rfl
theorem rep5 (x : Int) : ifunc Tryz.prog (icall Tryz.prog oraMul 300 60) 300 163 [.sl false [.i x],.i 5] ⟨[],0⟩ = some (.ms 0 0 5,⟨[(0,.cells 1 [.i x,.i x,.i x,.i x,.i x])],1⟩) := by kernel_rfl
theorem rep6 (x : Int) : ifunc Tryz.prog (icall Tryz.prog oraMul 300 60) 300 163 [.sl false [.i x],.i 6] ⟨[],0⟩ = some (.ms 0 0 6,⟨[(0,.cells 1 [.i x,.i x,.i x,.i x,.i x,.i x])],1⟩) := by kernel_rfl
def repL (l : List Int) (n : Int) : Option (List Int) := match l with
 | [x] => if 0 < n ∧ n ≤ 6 then some (List.replicate n.toNat x) else none
 | _ => none
theorem rep_calls (l : List Int) (n : Int) (r : List Int) (h : repL l n = some r) : ACalls Tryz.prog 163 [.sl false (l.map AV.i),.i n] ⟨[],0⟩ fun y t => y = .ms 0 0 r.length ∧ t = ⟨[(0,.cells 1 (r.map AV.i))],1⟩ := by
 unfold repL at h
 split at h
 ·rename_i x
  split at h
  ·rename_i hn
   cases h
   have h6 : n = 1 ∨ n = 2 ∨ n = 3 ∨ n = 4 ∨ n = 5 ∨ n = 6 := by omega
   rcases h6 with rfl | rfl | rfl | rfl | rfl | rfl
   ·exact acalls_run oraMul_ok 300 60 (rep1 x)
   ·exact acalls_run oraMul_ok 300 60 (rep2 x)
   ·exact acalls_run oraMul_ok 300 60 (rep3 x)
   ·exact acalls_run oraMul_ok 300 60 (rep4 x)
   ·exact acalls_run oraMul_ok 300 60 (rep5 x)
   ·exact acalls_run oraMul_ok 300 60 (rep6 x)
  ·cases h
 ·cases h
end Go.Proofs.YtodkhgjhodmeoaaGreat
