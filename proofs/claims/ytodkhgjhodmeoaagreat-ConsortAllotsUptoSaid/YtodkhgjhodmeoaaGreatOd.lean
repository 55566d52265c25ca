/-
 Plain laws of the allotment,part 3: all lists,one after another,in the order of a dictionary.
 Own work. No Go text.
-/
import Derived.Test.YtodkhgjhodmeoaaGreatAm3
set_option linter.all false
set_option maxRecDepth 20000
namespace Go.Proofs.YtodkhgjhodmeoaaGreat
open Go Go.Am
def lexLt : List Nat → List Nat → Prop
 | a :: s,b :: t => a < b ∨ (a = b ∧ lexLt s t)
 | _,_ => False
def nextL (I : Nat) : List Nat → Option (List Nat)
 | [] => none
 | x :: t => match nextL I t with
  | some t' => some (x :: t')
  | none => if x + 1 < I then some ((x + 1) :: List.replicate t.length 0) else none
theorem lexLe_anti : ∀ {s t : List Nat},lexLe s t → lexLe t s → s = t
 | [],[],_,_ => rfl
 | [],_ :: _,_,h => h.elim
 | _ :: _,[],h,_ => h.elim
 | a :: s,b :: t,h1,h2 => by
  rcases h1 with h1 | ⟨rfl,h1⟩
  ·rcases h2 with h2 | ⟨h2,_⟩ <;> omega
  ·rcases h2 with h2 | ⟨_,h2⟩
   ·omega
   ·rw [lexLe_anti h1 h2]
theorem lexLt_le : ∀ {s t : List Nat},lexLt s t → lexLe s t
 | [],[],_ => trivial
 | [],_ :: _,h => h.elim
 | _ :: _,[],h => h.elim
 | a :: s,b :: t,h => by
  rcases h with h | ⟨h,h2⟩
  ·exact .inl h
  ·exact .inr ⟨h,lexLt_le h2⟩
theorem zeros_least : ∀ (n : Nat) (m : List Nat),¬ lexLt m (List.replicate n 0)
 | 0,m => by cases m <;> (intro h; exact h.elim)
 | n + 1,[] => fun h => h.elim
 | n + 1,a :: m => by
  rw [List.replicate_succ]
  rintro (h | ⟨_,h⟩)
  ·omega
  ·exact zeros_least n m h
theorem next_len (I : Nat) : ∀ {l l' : List Nat},nextL I l = some l' → l'.length = l.length
 | [],_,h => by cases h
 | x :: t,l',h => by
  simp only [nextL] at h
  split at h
  ·rename_i t' ht
   cases h
   simp [next_len I ht]
  ·split at h
   ·cases h; simp
   ·cases h
theorem next_lt (I : Nat) (h0 : 0 < I) : ∀ {l l' : List Nat},nextL I l = some l' → (∀ k ∈ l,k < I) → ∀ k ∈ l',k < I
 | [],_,h,_ => by cases h
 | x :: t,l',h,hl => by
  simp only [nextL] at h
  split at h
  ·rename_i t' ht
   cases h
   intro k hk
   rcases List.mem_cons.1 hk with rfl | hk
   ·exact hl k (by simp)
   ·exact next_lt I h0 ht (fun q hq => hl q (List.mem_cons_of_mem _ hq)) k hk
  ·split at h
   ·cases h
    intro k hk
    rcases List.mem_cons.1 hk with rfl | hk
    ·assumption
    ·rw [(List.mem_replicate.1 hk).2]; exact h0
   ·cases h
theorem next_none (I : Nat) : ∀ {l : List Nat},nextL I l = none → ∀ m : List Nat,m.length = l.length → (∀ k ∈ m,k < I) → lexLe m l
 | [],_,m,hm,_ => by
  have : m = [] := List.eq_nil_of_length_eq_zero (by simpa using hm)
  subst this; trivial
 | x :: t,h,[],hm,_ => by simp at hm
 | x :: t,h,a :: m,hm,hk => by
  simp only [nextL] at h
  split at h
  ·cases h
  ·rename_i ht
   split at h
   ·cases h
   ·have ha := hk a (by simp)
    by_cases hax : a < x
    ·exact .inl hax
    ·exact .inr ⟨by omega,next_none I ht m (by simpa using hm) fun q hq => hk q (List.mem_cons_of_mem _ hq)⟩
theorem next_some (I : Nat) : ∀ {l l' : List Nat},nextL I l = some l' → ∀ m : List Nat,m.length = l.length → (∀ k ∈ m,k < I) → lexLt m l' → lexLt m l ∨ m = l
 | [],_,h,_,_,_,_ => by cases h
 | x :: t,l',h,[],hm,_,_ => by simp at hm
 | x :: t,l',h,a :: m,hm,hk,hlt => by
  simp only [nextL] at h
  split at h
  ·rename_i t' ht
   cases h
   rcases hlt with h1 | ⟨rfl,h1⟩
   ·exact .inl (.inl h1)
   ·rcases next_some I ht m (by simpa using hm) (fun q hq => hk q (List.mem_cons_of_mem _ hq)) h1 with h2 | h2
    ·exact .inl (.inr ⟨rfl,h2⟩)
    ·subst h2; exact .inr rfl
  ·rename_i ht
   split at h
   ·cases h
    rcases hlt with h1 | ⟨_,h1⟩
    ·by_cases hax : a < x
     ·exact .inl (.inl hax)
     ·have : a = x := by omega
      subst this
      have hle := next_none I ht m (by simpa using hm) fun q hq => hk q (List.mem_cons_of_mem _ hq)
      have key : ∀ {s t : List Nat},s.length = t.length → lexLe s t → lexLt s t ∨ s = t := by
       intro s
       induction s with
       | nil => intro t hl _; exact .inr (List.eq_nil_of_length_eq_zero (by simpa using hl.symm)).symm
       | cons b s ih =>
        intro t hl hle
        cases t with
        | nil => simp at hl
        | cons c t =>
         rcases hle with h | ⟨rfl,h⟩
         ·exact .inl (.inl h)
         ·rcases ih (by simpa using hl) h with h | h
          ·exact .inl (.inr ⟨rfl,h⟩)
          ·subst h; exact .inr rfl
      rcases key (by simpa using hm) hle with h | h
      ·exact .inl (.inr ⟨rfl,h⟩)
      ·subst h; exact .inr rfl
    ·exact absurd h1 (zeros_least _ _)
   ·cases h
def valL (I : Nat) : List Nat → Nat
 | [] => 0
 | x :: t => x * I ^ t.length + valL I t
theorem val_lt (I : Nat) (h0 : 0 < I) : ∀ (l : List Nat),(∀ k ∈ l,k < I) → valL I l < I ^ l.length
 | [],_ => by simp [valL]
 | x :: t,h => by
  have h1 := val_lt I h0 t fun q hq => h q (List.mem_cons_of_mem _ hq)
  have h2 := h x (by simp)
  have h3 : (x + 1) * I ^ t.length ≤ I * I ^ t.length := Nat.mul_le_mul_right _ h2
  simp only [valL,List.length_cons,Nat.pow_succ]
  rw [Nat.add_mul,Nat.one_mul] at h3
  rw [Nat.mul_comm (I ^ t.length) I]
  omega
theorem val_zeros (I n : Nat) : valL I (List.replicate n 0) = 0 := by
 induction n with
 | zero => rfl
 | succ n ih => rw [List.replicate_succ]; simp [valL,ih]
theorem val_next (I : Nat) (h0 : 0 < I) : ∀ {l l' : List Nat},(∀ k ∈ l,k < I) → nextL I l = some l' → valL I l < valL I l'
 | [],_,_,h => by cases h
 | x :: t,l',hl,h => by
  have hr := next_len I h
  simp only [nextL] at h
  split at h
  ·rename_i t' ht
   cases h
   have := val_next I h0 (fun q hq => hl q (List.mem_cons_of_mem _ hq)) ht
   have he : t'.length = t.length := next_len I ht
   simp only [valL,he]; omega
  ·split at h
   ·cases h
    have := val_lt I h0 t fun q hq => hl q (List.mem_cons_of_mem _ hq)
    simp only [valL,List.length_replicate,val_zeros,Nat.add_mul,Nat.one_mul]; omega
   ·cases h
theorem next_full (I : Nat) (h0 : 0 < I) : ∀ n,nextL I (List.replicate n (I - 1)) = none
 | 0 => rfl
 | n + 1 => by
  rw [List.replicate_succ]
  simp only [nextL,next_full I h0 n]
  rw [if_neg (by omega)]
theorem next_at (I : Nat) (h0 : 0 < I) : ∀ (a : List Nat) (x r : Nat),x + 1 < I → nextL I (a ++ x :: List.replicate r (I - 1)) = some (a ++ (x + 1) :: List.replicate r 0)
 | [],x,r,h => by
  simp only [List.nil_append,nextL,next_full I h0 r]
  rw [if_pos h]
  simp
 | b :: a,x,r,h => by
  simp only [List.cons_append,nextL,next_at I h0 a x r h]
def odoB (I : Nat) : (List Int × Int) → Option ((List Int × Int) ⊕ (List Int × Int)) := fun ((l9_21,l9_24) : (List Int × Int)) => ((bif (decide (0 ≤ l9_24)) then ((ix l9_21 l9_24).bind fun y31 => some (decide (y31 = (wr ((I : Int) - 1))))) else (some false)) : Option Bool).bind fun (j10_135 : Bool) => bif j10_135 then ((ix l9_21 l9_24).bind fun y33 => some (.inl ((l9_21.set l9_24.toNat 0),(wr (l9_24 - 1))))) else (some (.inr (l9_21,l9_24)))
theorem odo_loop (I : Nat) (h0 : 0 < I) (hI : I ≤ 6) : ∀ (n : Nat) (a : List Nat) (r fuel : Nat),a.length = n → n ≤ 100 → n < fuel → (∀ k ∈ a,k < I) →
  (nextL I (a ++ List.replicate r (I - 1)) = none ∧ ∃ l,loopN (odoB I) fuel (intsT (a ++ List.replicate r 0),(n : Int) - 1) = some (l,-1)) ∨
  ∃ (b : List Nat) (x q : Nat),nextL I (a ++ List.replicate r (I - 1)) = some (b ++ (x + 1) :: List.replicate q 0) ∧ loopN (odoB I) fuel (intsT (a ++ List.replicate r 0),(n : Int) - 1) = some (intsT (b ++ x :: List.replicate q 0),(b.length : Int))
 | 0,a,r,fuel,ha,_,hf,_ => by
  have : a = [] := List.eq_nil_of_length_eq_zero ha
  subst this
  cases fuel with
  | zero => omega
  | succ fuel =>
   refine .inl ⟨by rw [List.nil_append]; exact next_full I h0 r,intsT (List.replicate r 0),?_⟩
   have hd : decide ((0 : Int) ≤ ((0 : Nat) : Int) - 1) = false := rfl
   simp only [loopN,odoB,hd,cond_false,Option.bind_some,List.nil_append]
   rfl
 | n + 1,a,r,fuel,ha,hn,hf,hk => by
  cases fuel with
  | zero => omega
  | succ fuel =>
   obtain ⟨b,x,rfl⟩ : ∃ b x,a = b ++ [x] := by
    have hne : a ≠ [] := by intro h; subst h; simp at ha
    exact ⟨a.dropLast,a.getLast hne,(List.dropLast_concat_getLast hne).symm⟩
   have hb : b.length = n := by simpa using ha
   have hx := hk x (by simp)
   have e0 : ((n + 1 : Nat) : Int) - 1 = (n : Int) := by omega
   have hd : decide ((0 : Int) ≤ (n : Int)) = true := decide_eq_true (by omega)
   have hg : (intsT (b ++ [x] ++ List.replicate r 0))[n]? = some (x : Int) := by
    unfold intsT
    rw [List.getElem?_map,List.append_assoc,List.getElem?_append_right (by omega),hb,Nat.sub_self]
    rfl
   have hw : wr ((I : Int) - 1) = (I : Int) - 1 := wr64 (by omega) (by omega)
   by_cases hxI : x = I - 1
   ·have hd2 : decide ((x : Int) = (I : Int) - 1) = true := decide_eq_true (by omega)
    have hset : (intsT (b ++ [x] ++ List.replicate r 0)).set n 0 = intsT (b ++ List.replicate (r + 1) 0) := by
     unfold intsT
     rw [List.append_assoc,List.map_append,List.map_append,List.set_append_right _ _ (by simp; omega)]
     have : n - (List.map (fun (k : Nat) => (k : Int)) b).length = 0 := by simp; omega
     rw [this,List.replicate_succ]
     simp
    have hw2 : wr ((n : Int) - 1) = (n : Int) - 1 := wr64 (by omega) (by omega)
    have e1 : b ++ [x] ++ List.replicate r (I - 1) = b ++ List.replicate (r + 1) (I - 1) := by rw [List.replicate_succ,hxI]; simp
    have ih := odo_loop I h0 hI n b (r + 1) fuel hb (by omega) (by omega) (fun q hq => hk q (by simp [hq]))
    have step : loopN (odoB I) (fuel + 1) (intsT (b ++ [x] ++ List.replicate r 0),((n + 1 : Nat) : Int) - 1) = loopN (odoB I) fuel (intsT (b ++ List.replicate (r + 1) 0),(n : Int) - 1) := by
     rw [e0]
     simp only [loopN,odoB,hd,cond_true,ixNat hg,Option.bind_some,hw,hd2,Int.toNat_natCast,hset,hw2]
    rw [step,e1]
    exact ih
   ·have hd2 : decide ((x : Int) = (I : Int) - 1) = false := decide_eq_false (by omega)
    refine .inr ⟨b,x,r,?_,?_⟩
    ·have : b ++ [x] ++ List.replicate r (I - 1) = b ++ x :: List.replicate r (I - 1) := by simp
     rw [this]
     exact next_at I h0 b x r (by omega)
    ·rw [e0]
     simp only [loopN,odoB,hd,cond_true,ixNat hg,Option.bind_some,hw,hd2,cond_false]
     have : b ++ [x] ++ List.replicate r 0 = b ++ x :: List.replicate r 0 := by simp
     rw [this,hb]
end Go.Proofs.YtodkhgjhodmeoaaGreat
