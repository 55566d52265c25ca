/-
 Pitches at a time,and concords: the reference gives what the program gives. Plain law.
 Own work. No Go text.
-/
import Derived.Test.YtjjendjmakhfaaaGreatDa
set_option linter.all false
namespace Go.Proofs.YtjjendjmakhfaaaGreat
open Go Go.Am
def liveQ (t x : Int) (n : GNote) : Bool := decide (n.pitch = x) && (decide (n.from_ ≤ t) && decide (t < n.to_))
def atQ (l : List GNote) (t : Int) : List Int := pitchS (fun x : GNote => x.pitch) (fun x => x.from_) (fun x => x.to_) l t
theorem fold_any {α τ : Type} (p : α → Bool) (x y : τ) : ∀ (l : List α) (k : Nat),foldE (fun _ (_ : Unit) n => (bif p n then .inr x else .inl () : Unit ⊕ τ)) (fun _ => y) k l () = bif l.any p then x else y
 | [],_ => rfl
 | n :: r,k => by
  simp only [foldE,List.any_cons]
  cases p n with
  | true => rfl
  | false => simp only [cond_false,Bool.false_or]; exact fold_any p x y r (k + 1)
theorem upTo_succ (q : Int → Bool) (m : Nat) : upTo q (m + 1) = bif q (m : Int) then upTo q m ++ [(m : Int)] else upTo q m := by
 unfold upTo
 rw [List.range_succ,List.map_append,List.filter_append]
 cases h : q (m : Int) <;> simp [h]
theorem upTo_len (q : Int → Bool) (m : Nat) : (upTo q m).length ≤ m := by
 unfold upTo
 have := List.length_filter_le q ((List.range m).map fun i : Nat => (i : Int))
 simpa using this
theorem atQ_upTo {l : List GNote} (h : ∀ n ∈ l,0 ≤ n.pitch ∧ n.pitch ≤ 127) (t : Int) : atQ l t = upTo (fun x => l.any (liveQ t x)) 128 := by
 refine asc_extI (pitchS_asc _ _ _ _ _) (upTo_asc _ _) fun x => ?_
 rw [mem_upTo,show (x ∈ atQ l t ↔ _) from mem_pitchS,List.any_eq_true]
 constructor
 ·rintro ⟨n,hn,rfl,h1,h2⟩
  have := h n hn
  exact ⟨⟨this.1,by omega⟩,n,hn,by simp [liveQ,h1,h2]⟩
 ·rintro ⟨_,n,hn,hl⟩
  simp only [liveQ,Bool.and_eq_true,decide_eq_true_eq] at hl
  exact ⟨n,hn,hl.1,hl.2.1,hl.2.2⟩
theorem atQ_bounds {l : List GNote} (h : ∀ n ∈ l,0 ≤ n.pitch ∧ n.pitch ≤ 127) (t : Int) : (atQ l t).length ≤ 128 ∧ ∀ x ∈ atQ l t,0 ≤ x ∧ x ≤ 127 := by
 rw [atQ_upTo h]
 refine ⟨upTo_len _ _,fun x hx => ?_⟩
 have := (mem_upTo.1 hx).1
 omega
theorem f99_eq {l : List GNote} (h : ∀ n ∈ l,0 ≤ n.pitch ∧ n.pitch ≤ 127) (hl : Small l) (t : Int) : f99 l t = some (atQ l t) := by
 rw [atQ_upTo h]
 unfold f99
 rw [loop_all (fun m => (upTo (fun x => l.any (liveQ t x)) m,(m : Int))) 128 (r := upTo (fun x => l.any (liveQ t x)) 128) (s0 := (([] : List Int),(0 : Int))) (by omega) rfl]
 ·rfl
 ·intro m hm
  have d : decide ((m : Int) ≤ 127) = true := decide_eq_true (by omega)
  have hu := upTo_len (fun x => l.any (liveQ t x)) m
  simp only [d,cond_true]
  rw [loop_fold (fun (_ : Unit) i => i) (fun _ (_ : Unit) n => bif liveQ t (m : Int) n then .inr (upTo (fun x => l.any (liveQ t x)) m ++ [(m : Int)]) else .inl ()) (fun _ => upTo (fun x => l.any (liveQ t x)) m) l (fun _ _ => True) () (small_fuel hl) trivial]
  ·rw [fold_any]
   simp only [Option.bind_some,wrNat (show m ≤ 4194304 by omega),upTo_succ]
  ·intro i _ n hn _
   refine ⟨?_,fun _ _ => trivial⟩
   simp only [dltLen hn,cond_true,ixNat hn,Option.bind_some,liveQ]
   rw [need_one (by simp only [maxElems]; omega)]
   cases decide (n.pitch = (m : Int)) <;> cases decide (n.from_ ≤ t) <;> cases decide (t < n.to_) <;> simp only [cond_true,cond_false,Option.bind_some,Bool.true_and,Bool.false_and,Bool.and_self,stepW,wrLen hl hn]
  ·intro _ _; simp
 ·simp
theorem f61_eq (p : GPiece) (t : Int) (hp : SmallP p) (h : pieceS p = 0) (h0 : 0 ≤ t) (h1 : t < endP p) : f61 p t = some (atQ (stringsF p) t,0) := by
 have hv := valid_of hp h
 have hsl := strings_len hv
 have hsp := strings_pitch hv
 unfold f61 f73
 rw [prog_onsets p hp]
 unfold onsetS
 rw [if_pos h]
 have d0 : decide ((0 : Int) ≠ 0) = false := rfl
 have d1 : decide (t < 0) = false := decide_eq_false (by omega)
 have d2 : decide (endP p ≤ t) = false := decide_eq_false (by omega)
 unfold f92
 simp only [Option.bind_some,d0,cond_false,d1,(last_ok h).1,d2,f93_eq p hp h]
 unfold f94
 rw [need_one (by omega),need_one (fun x hx => by have := hsp x hx; omega)]
 rfl
theorem f64_eq (p : GPiece) (t : Int) (hp : SmallP p) (h : pieceS p = 0) (h0 : 0 ≤ t) (h1 : t < endP p) : f64 p t = some (atQ (stringsF p) t,0) := by
 have hv := valid_of hp h
 have hsl := strings_len hv
 have hsp := strings_pitch hv
 unfold f64
 rw [ref_onsets p hp]
 unfold onsetS
 rw [if_pos h]
 have d0 : decide ((0 : Int) ≠ 0) = false := rfl
 have d1 : decide (t < 0) = false := decide_eq_false (by omega)
 have d2 : decide (endP p ≤ t) = false := decide_eq_false (by omega)
 simp only [Option.bind_some,d0,cond_false,d1,(last_ok h).1,d2,f98_eq p hp h,f99_eq hsp (show Small (stringsF p) by simp only [Small]; omega) t]
def badR (l : List Int) (x y : Int) : Bool := (l.all (fun z => decide (x ≤ z)) && (bad1 (cls x y) || bad2 (cls x y))) || (decide (x < y) && bad1 (cls x y))
theorem any_disc (l : List Int) : (l.any fun x => l.any (badR l x)) = true ↔ DiscR l := by
 rw [List.any_eq_true]
 unfold DiscR
 constructor
 ·rintro ⟨x,hx,h⟩
  obtain ⟨y,hy,h⟩ := List.any_eq_true.1 h
  refine ⟨x,hx,y,hy,?_⟩
  simp only [badR,Bool.or_eq_true,Bool.and_eq_true,List.all_eq_true,decide_eq_true_eq] at h
  exact h
 ·rintro ⟨x,hx,y,hy,h⟩
  refine ⟨x,hx,List.any_eq_true.2 ⟨y,hy,?_⟩⟩
  simp only [badR,Bool.or_eq_true,Bool.and_eq_true,List.all_eq_true,decide_eq_true_eq]
  exact h
theorem f65_eq (l : List Int) (hl : Small l) (hr : ∀ x ∈ l,0 ≤ x ∧ x ≤ 127) : f65 l = some (concS l) := by
 have key : f65 l = some (!(l.any fun x => l.any (badR l x))) := by
  unfold f65
  rw [loop_find l (fun x => l.any (badR l x)) (fun _ _ => false) hl]
  ·rw [findS_any]
   cases l.any fun x => l.any (badR l x) <;> rfl
  ·intro i x hx
   simp only [dltLen hx,cond_true]
   rw [loop_fold (fun (b : Bool) i => (b,i)) (fun _ b y => .inl (b && decide (x ≤ y))) (fun b => b) l (fun _ _ => True) true (small_fuel hl) trivial]
   ·rw [foldE_inl (fun b y => b && decide (x ≤ y))]
    have e : ∀ (r : List Int) (b : Bool),r.foldl (fun b y => b && decide (x ≤ y)) b = (b && r.all fun y => decide (x ≤ y)) := by
     intro r
     induction r with
     | nil => intro b; simp
     | cons y r ih => intro b; rw [List.foldl_cons,ih,List.all_cons,Bool.and_assoc]
    rw [e,Bool.true_and]
    simp only [Option.bind_some]
    rw [loop_find l (badR l x) (fun _ _ => .inr (.inr false)) hl]
    ·rw [findS_any]
     cases l.any (badR l x) <;> rfl
    ·intro j y hy
     have hx1 := hr x (List.mem_of_getElem? hx)
     have hy1 := hr y (List.mem_of_getElem? hy)
     have hc : f100 x y = some (cls x y) := by
      unfold f100
      have t1 : Int.tmod y 12 = y % 12 := Int.tmod_eq_emod_of_nonneg hy1.1
      have t2 : Int.tmod x 12 = x % 12 := Int.tmod_eq_emod_of_nonneg hx1.1
      have hm := wr_tmod (a := x) (b := y) ⟨hx1.1,by omega⟩ ⟨hy1.1,by omega⟩
      have b1 : 0 ≤ y % 12 ∧ y % 12 < 12 := ⟨by omega,by omega⟩
      have b2 : 0 ≤ x % 12 ∧ x % 12 < 12 := ⟨by omega,by omega⟩
      rw [wr64 (n := Int.tmod y 12 - Int.tmod x 12) (by rw [t1,t2]; omega) (by rw [t1,t2]; omega)]
      have b3 : -12 < (Int.tmod y 12 - Int.tmod x 12).tmod 12 ∧ (Int.tmod y 12 - Int.tmod x 12).tmod 12 < 12 := by
       rw [t1,t2]
       rcases Int.lt_or_le (y % 12 - x % 12) 0 with h | h
       ·have e : y % 12 - x % 12 = -(x % 12 - y % 12) := by omega
        rw [e,Int.neg_tmod,Int.tmod_eq_of_lt (by omega) (by omega)]
        omega
       ·rw [Int.tmod_eq_of_lt h (by omega)]
        omega
      rw [wr64 (n := (Int.tmod y 12 - Int.tmod x 12).tmod 12 + 12) (by omega) (by omega),hm]
     simp only [dltLen hy,cond_true,ixNat hx,ixNat hy,Option.bind_some,hc,badR,bad1,bad2]
     generalize (l.all fun z => decide (x ≤ z)) = lo
     generalize cls x y = c
     by_cases c1 : c = 1
     ·subst c1; cases lo <;> cases decide (x < y) <;> rfl
     ·by_cases c2 : c = 2
      ·subst c2; cases lo <;> cases decide (x < y) <;> rfl
      ·by_cases c5 : c = 5
       ·subst c5; cases lo <;> cases decide (x < y) <;> rfl
       ·by_cases c6 : c = 6
        ·subst c6; cases lo <;> cases decide (x < y) <;> rfl
        ·by_cases c10 : c = 10
         ·subst c10; cases lo <;> cases decide (x < y) <;> rfl
         ·by_cases c11 : c = 11
          ·subst c11; cases lo <;> cases decide (x < y) <;> rfl
          ·simp only [decide_eq_false c1,decide_eq_false c2,decide_eq_false c5,decide_eq_false c6,decide_eq_false c10,decide_eq_false c11]
           cases lo <;> cases decide (x < y) <;> rfl
    ·simp
   ·intro j b y hy _
    refine ⟨?_,fun _ _ => trivial⟩
    simp only [dltLen hy,cond_true,ixNat hx,ixNat hy,Option.bind_some]
    cases b <;> simp only [cond_true,cond_false,Option.bind_some,Bool.true_and,Bool.false_and,stepW,wrLen hl hy]
   ·intro b _; simp
  ·simp
 rw [key]
 congr 1
 symm
 refine concS_eq ?_
 have h1 := disc_same (sortI_perm l) (sortI_asc l)
 rw [h1,← any_disc]
 cases l.any fun x => l.any (badR l x) <;> simp
theorem f62_eq (l : List Int) (hl : l.length ≤ 4194304) (hr : ∀ x ∈ l,0 ≤ x ∧ x ≤ 127) : f62 l = some (concS l) := by
 unfold f62
 rw [need_one hl,need_one (fun x hx => by have := hr x hx; omega)]
end Go.Proofs.YtjjendjmakhfaaaGreat
