/-
 Plain laws of chapter 8: Fit of the reference,and Times.
 Own work. No Go text.
-/
import Derived.Test.YtplpfocfcppajaaGreatLs
import Derived.Test.YtplpfocfcppajaaGreatV3
set_option linter.all false
set_option maxRecDepth 20000
namespace Go.Proofs.YtplpfocfcppajaaGreat
open Go Go.Am
theorem f15_eq (l : List (List GTone)) (a : GInstrument) (hl : Small l) : f15 l a = some (fitR l a) := by
 unfold f15 fitR setupS
 rw [f38_eq l hl]
 simp only [Option.bind_some]
 by_cases h : partsS l = 0
 ·obtain ⟨h1,h2⟩ := partsS_small h
  have hps : ∀ p ∈ l,Small p := fun p hp => by have := h2 p hp; simp only [Small]; omega
  have hd : decide (partsS l ≠ 0) = false := by simpa using h
  rw [hd,cond_false,f44_eq,if_pos h]
  simp only [Option.bind_some]
  by_cases hi : instS a = 0
  ·have hd2 : decide (instS a ≠ 0) = false := by simpa using hi
   rw [hd2,cond_false,if_pos hi]
   simp only [f45_eq l a _ hl hps,Option.bind_some]
   rw [loop_all (fun k => ((fitK (missS l a) k).1,(fitK (missS l a) k).2,((k + 1 : Nat) : Int))) 24 (by omega) (by rfl) (r := ((fitK (missS l a) 24).1,(fitK (missS l a) 24).2))]
   ·rfl
   ·intro k hk
    have hle : decide (((k + 1 : Nat) : Int) ≤ 24) = true := by simp; omega
    have hw0 : wr (0 - ((k + 1 : Nat) : Int)) = -((k + 1 : Nat) : Int) := by rw [wr64 (by omega) (by omega)]; omega
    have hw : wr (((k + 1 : Nat) : Int) + 1) = ((k + 1 + 1 : Nat) : Int) := wrNat (by omega)
    simp only [hle,cond_true,hw0,hw,fitK,betterS]
    by_cases c1 : missS l a ((k + 1 : Nat) : Int) < (fitK (missS l a) k).2
    ·by_cases c2 : missS l a (-((k + 1 : Nat) : Int)) < missS l a ((k + 1 : Nat) : Int)
     ·simp only [c1,c2,decide_true,cond_true,Option.bind_some]
     ·simp only [c1,c2,decide_true,decide_false,cond_true,cond_false,Option.bind_some]
    ·by_cases c2 : missS l a (-((k + 1 : Nat) : Int)) < (fitK (missS l a) k).2
     ·simp only [c1,c2,decide_true,decide_false,cond_true,cond_false,Option.bind_some]
     ·simp only [c1,c2,decide_false,cond_false,Option.bind_some]
   ·have hle : decide (((24 + 1 : Nat) : Int) ≤ 24) = false := by simp
    simp only [hle,cond_false]
  ·have hd2 : decide (instS a ≠ 0) = true := by simpa using hi
   rw [hd2,if_neg hi]; rfl
 ·have hd : decide (partsS l ≠ 0) = true := by simpa using h
  rw [hd,if_neg h,if_neg h]; rfl
theorem flat_len {l : List (List GTone)} : ∀ (n : Nat),l.length ≤ n → (∀ p ∈ l,p.length ≤ 400) → l.flatten.length ≤ 400 * n := by
 induction l with
 | nil => intro n _ _; simp
 | cons p l ih =>
  intro n hn h
  cases n with
  | zero => simp at hn
  | succ n =>
   have h1 := h p (by simp)
   have h2 := ih n (by simpa using hn) fun q hq => h q (List.mem_cons_of_mem _ hq)
   simp only [List.flatten_cons,List.length_append]; omega
theorem take_flat {l : List (List GTone)} {k : Nat} {p : List GTone} (h : l[k]? = some p) : (l.take (k + 1)).flatten = (l.take k).flatten ++ p := by
 rw [take_snoc h,List.flatten_append]; simp
theorem flat_take (l : List (List GTone)) (k : Nat) : (l.take k).flatten.length ≤ l.flatten.length := by
 conv => rhs; rw [← List.take_append_drop k l,List.flatten_append,List.length_append]
 omega
theorem f88_eq (l : List (List GTone)) (h6 : l.length ≤ 6) (h4 : ∀ p ∈ l,p.length ≤ 400) : f88 l = some l.flatten := by
 have hs : Small l := by simp only [Small]; omega
 have hfl := flat_len 6 h6 h4
 unfold f88
 rw [loop_all (fun k => (((l.take k).flatten.length : Int),(k : Int))) l.length (by omega) (by simp) (r := (l.flatten.length : Int))]
 ·have hok : f122 (l.flatten.length : Int) = some [] := by unfold f122; rw [if_pos (by omega)]
  rw [Option.bind_some,hok,Option.bind_some]
  rw [loop_all (fun k => ((l.take k).flatten,(k : Int))) l.length (by omega) (by simp) (r := l.flatten)]
  ·rfl
  ·intro k hk
   have hg : l[k]? = some (l[k]'hk) := List.getElem?_eq_getElem hk
   generalize l[k]'hk = p at hg
   have hf := take_flat hg
   have ht := flat_take l (k + 1)
   rw [hf,List.length_append] at ht
   simp only [dltLen hg,cond_true,ixNat hg,Option.bind_some,wrLen hs hg,hf]
   by_cases he : p = []
   ·subst he; simp
   ·have hm : (l.take k).flatten.length + p.length ≤ maxElems := by unfold maxElems; omega
    rw [decide_eq_false he]
    simp only [cond_false,need,if_pos hm,Option.bind_some]
  ·simp
 ·intro k hk
  have hg : l[k]? = some (l[k]'hk) := List.getElem?_eq_getElem hk
  generalize l[k]'hk = p at hg
  have hf := take_flat hg
  have ht := flat_take l (k + 1)
  rw [hf,List.length_append] at ht
  have hw : wr (((l.take k).flatten.length : Int) + (p.length : Int)) = (((l.take k).flatten.length + p.length : Nat) : Int) := by rw [wr64 (by omega) (by omega)]; omega
  have hneg : decide ((((l.take k).flatten.length + p.length : Nat) : Int) < 0) = false := decide_eq_false (by omega)
  simp only [dltLen hg,cond_true,ixNat hg,Option.bind_some,hw,hneg,cond_false,wrLen hs hg,hf,List.length_append]
 ·simp
def soundsAt (l : List GTone) (t : Int) : Bool := l.any fun x => decide (x.from_ ≤ t) && decide (t < x.to_)
def timesOf (all : List GTone) (t : GTone) : List Int := bif soundsAt all t.to_ then [t.from_] else [t.from_,t.to_]
theorem f53_2_eq (p : List GTone) (t : GTone) (hs : Small p) : f53_2 p t = some (soundsAt p t.to_) := by
 have h : f94_2 p t = some (idxF (fun x => decide (x.from_ ≤ t.to_) && decide (t.to_ < x.to_)) p) := by
  unfold f94_2
  rw [loop_find p (fun x => decide (x.from_ ≤ t.to_) && decide (t.to_ < x.to_)) (fun i _ => (i : Int)) hs]
  ·simp only [Option.bind_some,findS_idx,idxF]
   cases p.findIdx? _ <;> simp
  ·intro i y hy
   simp only [dltLen hy,cond_true,ixNat hy,Option.bind_some,f89]
   cases decide (y.from_ ≤ t.to_) <;> cases decide (t.to_ < y.to_) <;> rfl
  ·simp
 unfold f53_2
 rw [h]
 simp only [Option.bind_some,idxF_nonneg]
 rfl
theorem timesOf_len (all : List GTone) (t : GTone) : (timesOf all t).length ≤ 2 := by unfold timesOf; cases soundsAt all t.to_ <;> simp
theorem times_len (all : List GTone) : ∀ (l : List GTone),(l.flatMap (timesOf all)).length ≤ 2 * l.length
 | [] => by simp
 | t :: l => by
  have := times_len all l
  have := timesOf_len all t
  simp only [List.flatMap_cons,List.length_append,List.length_cons]; omega
theorem f46_eq (l : List (List GTone)) (h6 : l.length ≤ 6) (h4 : ∀ p ∈ l,p.length ≤ 400) : f46 l = some ((l.flatten.flatMap (timesOf l.flatten)).foldl putI [0]) := by
 have hfl := flat_len 6 h6 h4
 unfold f46
 rw [f88_eq l h6 h4]
 generalize l.flatten = all at hfl ⊢
 have hs : Small all := by simp only [Small]; omega
 simp only [Option.bind_some]
 rw [loop_all (fun k => ((0 : Int) :: (all.take k).flatMap (timesOf all),(k : Int))) all.length (by omega) (by simp) (r := 0 :: all.flatMap (timesOf all))]
 ·have hl := times_len all all
  have e1 : f90 (0 :: all.flatMap (timesOf all)) = some (sortS (0 :: all.flatMap (timesOf all))) := by
   unfold f90; rw [if_pos ⟨by simp,by simp only [List.length_cons]; omega⟩]
  have hsl := sortS_len (0 :: all.flatMap (timesOf all))
  have e2 : (sortS (0 :: all.flatMap (timesOf all))).take (0 :: all.flatMap (timesOf all)).length = sortS (0 :: all.flatMap (timesOf all)) := List.take_of_length_le (by omega)
  have e3 : f91 (sortS (0 :: all.flatMap (timesOf all))) = some (Go.Lib.compact (sortS (0 :: all.flatMap (timesOf all)))) := by
   unfold f91; rw [if_pos ⟨by rw [hsl]; simp,by rw [hsl]; simp only [List.length_cons]; omega⟩]
  simp only [Option.bind_some,e1,e2,e3,put_all]
 ·intro k hk
  have hg : all[k]? = some (all[k]'hk) := List.getElem?_eq_getElem hk
  generalize all[k]'hk = t at hg
  have hl := times_len all (all.take k)
  have hlk : (all.take k).length ≤ k := by simp; omega
  have m1 : ((0 : Int) :: (all.take k).flatMap (timesOf all)).length + 1 ≤ maxElems := by simp only [List.length_cons]; unfold maxElems; omega
  have m2 : (((0 : Int) :: (all.take k).flatMap (timesOf all)) ++ [t.from_]).length + 1 ≤ maxElems := by simp only [List.length_append,List.length_cons,List.length_nil]; unfold maxElems; omega
  simp only [dltLen hg,cond_true,ixNat hg,Option.bind_some,need,if_pos m1,f53_2_eq all t hs,if_pos m2,wrLen hs hg,take_snoc hg,List.flatMap_append,List.flatMap_cons,List.flatMap_nil,List.append_nil,timesOf]
  cases soundsAt all t.to_ <;> simp
 ·simp
theorem find_any {α : Type} (p : α → Bool) (l : List α) : (match l.find? p with | some _ => true | none => false) = l.any p := by
 induction l with
 | nil => rfl
 | cons x l ih =>
  rw [List.find?_cons,List.any_cons]
  cases p x with
  | true => rfl
  | false => simpa using ih
theorem f93_eq (l : List (List GTone)) (t : Int) (hl : Small l) (hp : ∀ p ∈ l,Small p) : f93 l t = some (!(soundsAt l.flatten t)) := by
 unfold f93
 rw [loop_find (τ := Bool) l (fun p => soundsAt p t) (fun _ _ => false) hl (by
  intro i y hy
  have hys := hp y (List.mem_of_getElem? hy)
  simp only [dltLen hy,cond_true]
  rw [loop_find (τ := Int ⊕ (Unit ⊕ Bool)) y (fun x => decide (x.from_ ≤ t) && decide (t < x.to_)) (fun _ _ => .inr (.inr false)) hys (by
   intro j x hx
   simp only [ixNat hy,Option.bind_some,dltLen hx,cond_true,ixNat hx]
   cases decide (x.from_ ≤ t) <;> cases decide (t < x.to_) <;> rfl) (by simp [ixNat hy])]
  rw [findS_find]
  have h := find_any (fun x : GTone => decide (x.from_ ≤ t) && decide (t < x.to_)) y
  unfold soundsAt
  rw [← h]
  cases y.find? (fun x : GTone => decide (x.from_ ≤ t) && decide (t < x.to_)) <;> rfl) (by simp)]
 rw [findS_find]
 have h := find_any (fun p => soundsAt p t) l
 have h2 : soundsAt l.flatten t = l.any fun p => soundsAt p t := by unfold soundsAt; rw [List.any_flatten]
 rw [h2,← h]
 cases l.find? (fun p => soundsAt p t) <;> rfl
end Go.Proofs.YtplpfocfcppajaaGreat
