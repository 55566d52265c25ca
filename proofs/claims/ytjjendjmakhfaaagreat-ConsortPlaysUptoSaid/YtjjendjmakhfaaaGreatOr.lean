/-
 slices.Insert as a contract of the interpreter.
 Own work. No Go text.
-/
import Derived.Test.YtjjendjmakhfaaaGreatIns
set_option linter.all false
namespace Go.Proofs.YtjjendjmakhfaaaGreat
open Go Go.Am
def decLive : AV → Option GCLive
 | .agg l => match l with
  | [.int .i64 a,.int .i64 b,.int .i64 c,.int .i64 d,.int .i64 e,.int .i64 f,.int .i64 g] => some ⟨⟨a,b,c,d,e⟩,f,g⟩
  | _ => none
 | _ => none
theorem decLive_eq {x : AV} {g : GCLive} (h : decLive x = some g) : x = E_GCLive g := by
 unfold decLive at h
 split at h
 ·split at h
  ·cases h; rfl
  ·cases h
 ·cases h
def decLs : List AV → Option (List GCLive)
 | [] => some []
 | x :: r => match decLive x,decLs r with
  | some a,some l => some (a :: l)
  | _,_ => none
theorem decLs_eq : ∀ {l : List AV} {m : List GCLive},decLs l = some m → l = m.map E_GCLive
 | [],m,h => by cases h; rfl
 | x :: r,m,h => by
  simp only [decLs] at h
  split at h
  ·rename_i a l h1 h2
   cases h
   rw [decLive_eq h1,decLs_eq h2]; rfl
  ·cases h
def lowAll (n : Nat) : List (Nat × Blk) → Bool
 | [] => true
 | p :: r => Nat.blt p.1 n && lowAll n r
theorem lowAll_get {n : Nat} : ∀ {h : List (Nat × Blk)},lowAll n h = true → ∀ id b,eget h id = some b → id < n
 | [],_,id,b,e => by simp [egetN] at e
 | (k,x) :: r,hl,id,b,e => by
  simp only [lowAll,Bool.and_eq_true,Nat.blt_eq] at hl
  simp only [egetC] at e
  split at e
  ·omega
  ·exact lowAll_get hl.2 id b e
def ora116 : Ora := fun g l s => bif Nat.beq g 116 then (match l with
 | [.ms id st n,.int .i64 i,.sl b v] => match eget s.heap id with
  | some (.cells esz elems) => match decLs elems,decLs v with
   | some a0,some a2 => bif Nat.beq st 0 && Nat.beq n a0.length && Nat.beq esz 7 && lowAll s.cnt s.heap then (match insL a0 i a2 with
    | some r => some (.ms s.cnt 0 r.length,⟨(s.cnt,.cells 7 (r.map E_GCLive)) :: edel s.heap id,s.cnt + 1⟩)
    | none => none) else none
   | _,_ => none
  | _ => none
 | _ => none) else none
theorem ora116_ok : OraOk Tryz.prog ora116 := by
 intro g l s v s' h
 unfold ora116 at h
 cases hg : Nat.beq g 116 with
 | false => rw [hg] at h; cases h
 | true =>
  have := Nat.eq_of_beq_eq_true hg
  subst this
  rw [hg] at h
  simp only [cond_true] at h
  split at h
  case h_2 => cases h
  rename_i id st n i b v0
  split at h
  case h_2 => cases h
  rename_i esz elems hid
  split at h
  case h_2 => cases h
  rename_i a0 a2 h1 h2
  generalize hq : (Nat.beq st 0 && Nat.beq n a0.length && Nat.beq esz 7 && lowAll s.cnt s.heap) = q at h
  cases q with
  | false => cases h
  | true =>
   simp only [cond_true] at h
   simp only [Bool.and_eq_true] at hq
   obtain ⟨⟨⟨q1,q2⟩,q3⟩,q4⟩ := hq
   have q1 := Nat.eq_of_beq_eq_true q1
   have q2 := Nat.eq_of_beq_eq_true q2
   have q3 := Nat.eq_of_beq_eq_true q3
   subst q1; subst q2; subst q3
   have d1 := decLs_eq h1
   have d2 := decLs_eq h2
   subst d1; subst d2
   split at h
   case h_2 => cases h
   rename_i r hr
   cases h
   refine ⟨by kernel_rfl,?_⟩
   have hlow := lowAll_get q4
   have clA : ∀ l : List GCLive,cleanL (l.map E_GCLive) = true := fun l => cleanMap l _ cl_GCLive
   refine acalls_frame (π := fun _ => id) (σ := fun i => if i = s.cnt then 3 else 0) (fr := fun i => !(Nat.beq i s.cnt)) (f116_ok a0 i a2 r hr) ⟨?_,?_,?_,?_,?_,?_,?_,?_,?_⟩ ?_ ?_
   ·intro j c hj
    simp only [egetC,egetN] at hj
    split at hj
    ·cases hj
     exact ⟨_,hid,.cells (.r (clA _))⟩
    ·cases hj
   ·intro j k c d hj hk _
    simp only [egetC,egetN] at hj hk
    split at hj
    ·split at hk
     ·omega
     ·cases hk
    ·cases hj
   ·intro j c hj
    simp only [egetC,egetN] at hj
    split at hj
    ·show j < 1; omega
    ·cases hj
   ·intro j c hj hf
    simp only [Bool.not_eq_false'] at hf
    have := Nat.eq_of_beq_eq_true hf
    subst this
    simp only [egetC,if_true] at hj
    cases hj
    refine ⟨_,by simp only [if_true,egetC],.cells (.r (clA _)),fun hl => absurd hl (Nat.lt_irrefl _)⟩
   ·intro j c hj hf
    have hne : ¬ s.cnt = j := fun e => by
     subst e
     simp only [show Nat.beq s.cnt s.cnt = true from Nat.beq_refl _] at hf
     cases hf
    simp only [egetC,if_neg hne,get_del] at hj
    split at hj
    ·cases hj
    ·rename_i hn
     exact ⟨hj,fun _ _ _ => hn⟩
   ·intro j k c d _ _ hj hk _
    simp only [Bool.not_eq_false'] at hj hk
    rw [Nat.eq_of_beq_eq_true hj,Nat.eq_of_beq_eq_true hk]
   ·intro j c hj
    show j < s.cnt + 1
    simp only [egetC] at hj
    split at hj
    ·omega
    ·rw [get_del] at hj
     split at hj
     ·cases hj
     ·have := hlow j c hj; omega
   ·exact Nat.le_succ _
   ·intro j hj
    have hl := hlow j _ hj
    simp only [egetC,get_del]
    rw [if_neg (by omega),if_neg (fun e => by subst e; rw [hid] at hj; cases hj)]
    exact hj
   ·exact .k (.ms (by simp [okId,has,egetC]) rfl) (.k (.c rfl) (.k (.s (clA _)) .z))
   ·exact .ms (by simp [okF,has,egetC]) (by simp)
end Go.Proofs.YtjjendjmakhfaaaGreat
