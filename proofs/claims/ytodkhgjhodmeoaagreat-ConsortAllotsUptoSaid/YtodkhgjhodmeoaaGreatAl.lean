/-
 Plain laws of the allotment: the search finds what leaves the fewest tones without a place.
 Own work. No Go text.
-/
import Derived.Test.YtodkhgjhodmeoaaGreatLx
set_option linter.all false
set_option maxRecDepth 20000
namespace Go.Proofs.YtodkhgjhodmeoaaGreat
open Go Go.Am
theorem loop_inv {σ τ : Type} {body : σ → Option (σ ⊕ τ)} (I : Nat → σ → Prop) (T : τ → Prop) (m : Nat) (hb : ∀ k s,k < m → I k s → ∃ s',body s = some (.inl s') ∧ I (k + 1) s') (he : ∀ s,I m s → ∃ t,body s = some (.inr t) ∧ T t) :
  ∀ (d k n : Nat) s,k + d = m → d < n → I k s → ∃ t,loopN body n s = some t ∧ T t
 | 0,k,n,s,hk,hn,hi => by
  have : k = m := by omega
  subst this
  cases n with
  | zero => omega
  | succ n =>
   obtain ⟨t,h1,h2⟩ := he s hi
   exact ⟨t,by simp only [loopN,h1],h2⟩
 | d + 1,k,n,s,hk,hn,hi => by
  cases n with
  | zero => omega
  | succ n =>
   obtain ⟨s',h1,h2⟩ := hb k s (by omega) hi
   obtain ⟨t,h3,h4⟩ := loop_inv I T m hb he d (k + 1) n s' (by omega) (by omega) h2
   exact ⟨t,by simp only [loopN,h1]; exact h3,h4⟩
def costT : List (List Int) → List Nat → Int
 | row :: rs,k :: t => (row[k]?).getD 0 + costT rs t
 | _,_ => 0
def fitsT : List Int → List Nat → Prop
 | _,[] => True
 | R,k :: t => 0 < (R[k]?).getD 0 ∧ fitsT (R.set k ((R[k]?).getD 0 - 1)) t
def intsT (t : List Nat) : List Int := t.map fun (k : Nat) => (k : Int)
theorem costT_nonneg : ∀ (rows : List (List Int)) (t : List Nat),(∀ row ∈ rows,∀ v ∈ row,0 ≤ v) → 0 ≤ costT rows t
 | [],t,_ => by simp [costT]
 | row :: rs,[],_ => by simp [costT]
 | row :: rs,k :: t,h => by
  have h1 := costT_nonneg rs t fun r hr => h r (List.mem_cons_of_mem _ hr)
  have h2 : 0 ≤ (row[k]?).getD 0 := by
   cases hg : row[k]? with
   | none => simp
   | some v => exact h row (by simp) v (List.mem_of_getElem? hg)
  simp only [costT]; omega
def lexLe : List Nat → List Nat → Prop
 | [],_ => True
 | _ :: _,[] => False
 | a :: s,b :: t => a < b ∨ (a = b ∧ lexLe s t)
structure Dfs (rows : List (List Int)) (R : List Int) (s least : Int) (best l : List Int) (heads : Nat → Prop) (least' : Int) (best' : List Int) : Prop where
 keep : (least' = least ∧ best' = best) ∨ ∃ t,t.length = rows.length ∧ fitsT R t ∧ best' = l ++ intsT t ∧ least' = s + costT rows t ∧ 0 ≤ least' ∧ (∀ q t',t = q :: t' → heads q) ∧ (0 ≤ least → least' < least) ∧ ∀ t',t'.length = rows.length → fitsT R t' → (∀ q t2,t' = q :: t2 → heads q) → s + costT rows t' = least' → lexLe t t'
 opt : ∀ t,t.length = rows.length → fitsT R t → (∀ k t',t = k :: t' → heads k) → 0 ≤ least' ∧ least' ≤ s + costT rows t
 mono : 0 ≤ least → 0 ≤ least' ∧ least' ≤ least
theorem clone_eq (l : List Int) (h : l.length ≤ 1000) : f132 l = some l := by
 unfold f132
 by_cases he : l = []
 ·subst he; rfl
 ·have hd : decide (l = []) = false := by simpa using he
  have hm : l.length ≤ maxElems := by unfold maxElems; omega
  rw [hd]
  simp only [cond_false,need,if_pos hm]
  rfl
theorem dfs (I : Nat) (hI : I ≤ 6) (lack : List (List Int)) (hlack : ∀ row ∈ lack,row.length = I ∧ ∀ v ∈ row,0 ≤ v ∧ v ≤ 1000) (hlen : lack.length ≤ 100) :
  ∀ (d fu : Nat) (s least : Int) (l best R : List Int),lack.length = l.length + d → d < fu → R.length = I → (∀ v ∈ R,0 ≤ v ∧ v ≤ 100) → 0 ≤ s → s + 1000 * d ≤ 1000000 →
   ∃ least' best',f164r fu s least l lack best (I : Int) R = some (least',l,best',R) ∧ Dfs (lack.drop l.length) R s least best l (fun _ => True) least' best' := by
 intro d
 induction d with
 | zero =>
  intro fu s least l best R hl hf hR hRv hs hsb
  cases fu with
  | zero => omega
  | succ fu =>
   have hdrop : lack.drop l.length = [] := List.drop_eq_nil_of_le (by omega)
   have hle : decide ((l.length : Int) = (lack.length : Int)) = true := decide_eq_true (by omega)
   simp only [f164r]
   have e1 : ((bif decide (0 ≤ least) then some (decide (least ≤ s)) else some false) : Option Bool) = some (decide (0 ≤ least) && decide (least ≤ s)) := by cases decide (0 ≤ least) <;> rfl
   rw [e1]
   simp only [Option.bind_some]
   cases hp : (decide (0 ≤ least) && decide (least ≤ s)) with
   | true =>
    simp only [Bool.and_eq_true,decide_eq_true_eq] at hp
    refine ⟨least,best,rfl,.inl ⟨rfl,rfl⟩,fun t ht hft _ => ?_,fun h => ⟨h,Int.le_refl _⟩⟩
    have := costT_nonneg (lack.drop l.length) t fun row hr v hv => ((hlack row (List.mem_of_mem_drop hr)).2 v hv).1
    omega
   | false =>
    simp only [cond_false,hle,cond_true,clone_eq l (by omega),Option.bind_some]
    refine ⟨s,l,rfl,.inr ⟨[],by rw [hdrop]; rfl,trivial,by simp [intsT],by rw [hdrop]; simp [costT],hs,fun q t' e => (by cases e),fun h => (by simp only [Bool.and_eq_false_iff,decide_eq_false_iff_not] at hp; omega),fun t' ht' _ _ _ => (by rw [hdrop] at ht'; have : t' = [] := List.eq_nil_of_length_eq_zero (by simpa using ht'); subst this; trivial)⟩,fun t ht hft _ => ?_,fun h => ?_⟩
    ·rw [hdrop] at ht ⊢
     have : t = [] := List.eq_nil_of_length_eq_zero (by simpa using ht)
     subst this
     simp [costT]; omega
    ·simp only [Bool.and_eq_false_iff,decide_eq_false_iff_not] at hp
     omega
 | succ d ih =>
  intro fu s least l best R hl hf hR hRv hs hsb
  cases fu with
  | zero => omega
  | succ fu =>
   have hll : l.length < lack.length := by omega
   have hrow : lack[l.length]? = some (lack[l.length]'hll) := List.getElem?_eq_getElem hll
   have hdrop : lack.drop l.length = (lack[l.length]'hll) :: lack.drop (l.length + 1) := List.drop_eq_getElem_cons hll
   have hr := hlack _ (List.mem_of_getElem? hrow)
   generalize lack[l.length]'hll = row at hrow hdrop hr
   have hle : decide ((l.length : Int) = (lack.length : Int)) = false := decide_eq_false (by omega)
   simp only [f164r]
   have e1 : ((bif decide (0 ≤ least) then some (decide (least ≤ s)) else some false) : Option Bool) = some (decide (0 ≤ least) && decide (least ≤ s)) := by cases decide (0 ≤ least) <;> rfl
   rw [e1]
   simp only [Option.bind_some]
   cases hp : (decide (0 ≤ least) && decide (least ≤ s)) with
   | true =>
    simp only [Bool.and_eq_true,decide_eq_true_eq] at hp
    refine ⟨least,best,rfl,.inl ⟨rfl,rfl⟩,fun t ht hft _ => ?_,fun h => ⟨h,Int.le_refl _⟩⟩
    have := costT_nonneg (lack.drop l.length) t fun row hr v hv => ((hlack row (List.mem_of_mem_drop hr)).2 v hv).1
    omega
   | false =>
    simp only [cond_false,hle]
    have key := loop_inv (body := fun ((l2_h1,l2_h7,l2_h0,l2_h4,l2_28) : (List Int × List Int × Int × List Int × Int)) => bif (decide (l2_28 < (I : Int))) then ((((ix l2_h7 l2_28).bind fun y6 => bif (decide (y6 = 0)) then (some (l2_h1,l2_h7,l2_h0,l2_h4)) else (need (l2_h1.length + 1 ≤ maxElems) <| (ix lack (l.length : Int)).bind fun y9 => (ix y9 l2_28).bind fun y10 => (f164r fu (wr (s + y10)) l2_h0 (l2_h1 ++ [l2_28]) lack l2_h4 (I : Int) (l2_h7.set l2_28.toNat (wr (y6 - 1)))).bind fun r11 => need (0 ≤ (l.length : Int)) <| need ((l.length : Int).toNat ≤ r11.2.1.length) <| (ix r11.2.2.2 l2_28).bind fun y14 => some ((r11.2.1.take (l.length : Int).toNat),(r11.2.2.2.set l2_28.toNat (wr (y14 + 1))),r11.1,r11.2.2.1))) : Option (List Int × List Int × Int × List Int)).bind fun ((j3_h1,j3_h7,j3_h0,j3_h4) : (List Int × List Int × Int × List Int)) => some (.inl (j3_h1,j3_h7,j3_h0,j3_h4,(wr (l2_28 + 1))))) else (some (.inr (l2_h0,l2_h1,l2_h4,l2_h7))))
     (fun (k : Nat) (st : List Int × List Int × Int × List Int × Int) => ∃ lk bk,st = (l,R,lk,bk,(k : Int)) ∧ Dfs (lack.drop l.length) R s least best l (fun h => h < k) lk bk)
     (fun (t : Int × List Int × List Int × List Int) => ∃ lk bk,t = (lk,l,bk,R) ∧ Dfs (lack.drop l.length) R s least best l (fun h => h < I) lk bk) I
     (by
      rintro k _ hk ⟨lk,bk,rfl,D⟩
      have hg : R[k]? = some (R[k]'(by omega)) := List.getElem?_eq_getElem (by omega)
      have hv := hRv _ (List.mem_of_getElem? hg)
      generalize R[k]'(by omega) = v at hg hv
      have hki : decide ((k : Int) < (I : Int)) = true := decide_eq_true (by omega)
      simp only [hki,cond_true,ixNat hg,Option.bind_some]
      by_cases h0 : v = 0
      ·have hd : decide (v = 0) = true := decide_eq_true h0
       simp only [hd,cond_true,Option.bind_some,wrNat (show k ≤ 4194304 by omega)]
       have hlow : ∀ t,fitsT R t → (∀ q t',t = q :: t' → q < k + 1) → ∀ q t',t = q :: t' → q < k := by
        intro t hft hh q t' e
        have h1 := hh q t' e
        by_cases hq : q = k
        ·subst hq; subst e
         have := hft.1
         rw [hg,h0] at this
         simp at this
        ·omega
       refine ⟨_,rfl,lk,bk,rfl,?_,fun t ht hft hh => D.opt t ht hft (hlow t hft hh),D.mono⟩
       rcases D.keep with e | ⟨t,t1,t2,t3,t4,t5,t6,t7,t8⟩
       ·exact .inl e
       ·exact .inr ⟨t,t1,t2,t3,t4,t5,fun q t' e => by have := t6 q t' e; omega,t7,fun t' a1 a2 a3 a4 => t8 t' a1 a2 (hlow t' a2 a3) a4⟩
      ·have hd : decide (v = 0) = false := decide_eq_false h0
       have hm : l.length + 1 ≤ maxElems := by unfold maxElems; omega
       have hgc : row[k]? = some (row[k]'(by omega)) := List.getElem?_eq_getElem (by omega)
       have hc := hr.2 _ (List.mem_of_getElem? hgc)
       generalize row[k]'(by omega) = c at hgc hc
       have hw1 : wr (s + c) = s + c := wr64 (by omega) (by omega)
       have hw2 : wr (v - 1) = v - 1 := wr64 (by omega) (by omega)
       obtain ⟨l2,b2,h1,D2⟩ := ih fu (s + c) lk (l ++ [(k : Int)]) bk (R.set k (v - 1)) (by simp; omega) (by omega) (by simp [hR]) (fun u hu => by
        rcases List.mem_or_eq_of_mem_set hu with hu | rfl
        ·exact hRv u hu
        ·omega) (by omega) (by omega)
       have n1 : (0 : Int) ≤ (l.length : Int) := by omega
       have n2 : l.length ≤ (l ++ [(k : Int)]).length := by simp
       have hg2 : (R.set k (v - 1))[k]? = some (v - 1) := by rw [List.getElem?_set,if_pos rfl,if_pos (by omega)]
       have hw3 : wr (v - 1 + 1) = v := by rw [wr64 (by omega) (by omega)]; omega
       have hset : (R.set k (v - 1)).set k v = R := by
        rw [List.set_set]
        refine List.ext_getElem? fun m => ?_
        rw [List.getElem?_set]
        split
        ·rename_i hmk; subst hmk
         rw [if_pos (by omega),hg]
        ·rfl
       simp only [hd,cond_false,need,if_pos hm,ixNat hrow,Option.bind_some,ixNat hgc,hw1,hw2,Int.toNat_natCast,h1,if_pos n1,if_pos n2,ixNat hg2,hw3,hset,List.take_left',wrNat (show k ≤ 4194304 by omega)]
       refine ⟨_,rfl,l2,b2,?_,?_⟩
       ·rfl
       ·have hlen2 : (l ++ [(k : Int)]).length = l.length + 1 := by simp
        rw [hlen2] at D2
        have hgv : (R[k]?).getD 0 = v := by rw [hg]; rfl
        have hgc' : (row[k]?).getD 0 = c := by rw [hgc]; rfl
        refine ⟨?_,fun t ht hft hh => ?_,fun h => ?_⟩
        ·rcases D2.keep with ⟨e1,e2⟩ | ⟨t,t1,t2,t3,t4,t5,_,t7,t8⟩
         ·rw [e1,e2]
          rcases D.keep with e | ⟨t,t1,t2,t3,t4,t5,t6,t7,t8⟩
          ·exact .inl e
          ·refine .inr ⟨t,t1,t2,t3,t4,t5,fun q t' e => by have := t6 q t' e; omega,t7,fun t' a1 a2 a3 a4 => ?_⟩
           cases t' with
           | nil => rw [hdrop] at a1; simp at a1
           | cons q t2 =>
            by_cases hq : q < k
            ·exact t8 (q :: t2) a1 a2 (fun q' _ e => by cases e; exact hq) a4
            ·cases t with
             | nil => rw [hdrop] at t1; simp at t1
             | cons q1 t33 =>
              have := t6 q1 t33 rfl
              exact .inl (by omega)
         ·refine .inr ⟨k :: t,by rw [hdrop]; simp [t1],⟨by rw [hgv]; omega,by rw [hgv]; exact t2⟩,by rw [t3]; simp [intsT],?_,t5,fun q t' e => by cases e; omega,fun h => ?_,fun t' a1 a2 a3 a4 => ?_⟩
          ·rw [t4,hdrop]
           simp only [costT,hgc']; omega
          ·obtain ⟨o1,o2⟩ := D.mono h
           have := t7 o1
           omega
          ·cases t' with
           | nil => rw [hdrop] at a1; simp at a1
           | cons q tt =>
            have hq1 := a3 q tt rfl
            by_cases hq : q = k
            ·subst hq
             refine .inr ⟨rfl,t8 tt (by rw [hdrop] at a1; simpa using a1) (by have := a2.2; rw [hgv] at this; exact this) (fun _ _ _ => trivial) ?_⟩
             rw [hdrop] at a4
             simp only [costT,hgc'] at a4
             omega
            ·exfalso
             obtain ⟨o1,o2⟩ := D.opt (q :: tt) a1 a2 (fun q' _ e => by cases e; omega)
             have := t7 o1
             omega
        ·rw [hdrop] at ht
         cases t with
         | nil => simp at ht
         | cons q t =>
          by_cases hq : q = k
          ·subst hq
           have h2 := hft.2
           rw [hgv] at h2
           obtain ⟨o1,o2⟩ := D2.opt t (by simpa using ht) h2 (fun _ _ _ => trivial)
           refine ⟨o1,?_⟩
           rw [hdrop]
           simp only [costT,hgc']; omega
          ·obtain ⟨o1,o2⟩ := D.opt (q :: t) (by rw [hdrop]; exact ht) hft (fun q' t' e => by
            cases e
            have := hh q t rfl
            omega)
           obtain ⟨o3,o4⟩ := D2.mono o1
           exact ⟨o3,by omega⟩
        ·obtain ⟨o1,o2⟩ := D.mono h
         obtain ⟨o3,o4⟩ := D2.mono o1
         exact ⟨o3,by omega⟩)
     (by
      rintro _ ⟨lk,bk,rfl,D⟩
      exact ⟨(lk,l,bk,R),by simp,lk,bk,rfl,D⟩) I 0 FUEL (l,R,least,best,0) (by omega) (by unfold FUEL; omega) ⟨least,best,rfl,.inl ⟨rfl,rfl⟩,fun t ht hft hh => by
       rw [hdrop] at ht
       cases t with
       | nil => simp at ht
       | cons q t => exact absurd (hh q t rfl) (by omega),fun h => ⟨h,Int.le_refl _⟩⟩
    obtain ⟨t,k1,lk,bk,rfl,D⟩ := key
    rw [k1]
    have hlow : ∀ t,fitsT R t → ∀ q t',t = q :: t' → q < I := by
     intro t hft q t' e
     subst e
     have h1 := hft.1
     by_cases hq : q < I
     ·exact hq
     ·rw [List.getElem?_eq_none (by omega)] at h1
      simp at h1
    refine ⟨lk,bk,rfl,?_,fun t ht hft _ => D.opt t ht hft (hlow t hft),D.mono⟩
    rcases D.keep with e | ⟨t,t1,t2,t3,t4,t5,_,t7,t8⟩
    ·exact .inl e
    ·exact .inr ⟨t,t1,t2,t3,t4,t5,fun _ _ _ => trivial,t7,fun t' a1 a2 _ a4 => t8 t' a1 a2 (hlow t' a2) a4⟩
theorem sum_set (R : List Int) (k : Nat) (v : Int) (h : R[k]? = some v) : (R.set k (v - 1)).sum = R.sum - 1 := by
 induction R generalizing k with
 | nil => simp at h
 | cons x R ih =>
  cases k with
  | zero => simp at h; subst h; simp; omega
  | succ k => simp at h; simp [ih k h]; omega
theorem fits_some : ∀ (n : Nat) (R : List Int),(∀ v ∈ R,0 ≤ v) → (n : Int) ≤ R.sum → ∃ t,t.length = n ∧ fitsT R t
 | 0,R,_,_ => ⟨[],rfl,trivial⟩
 | n + 1,R,hR,hs => by
  have : ∃ (k : Nat) (v : Int),R[k]? = some v ∧ 0 < v := by
   by_cases h : ∃ v ∈ R,0 < v
   ·obtain ⟨v,h1,h2⟩ := h
    obtain ⟨k,hk⟩ := List.getElem?_of_mem h1
    exact ⟨k,v,hk,h2⟩
   ·exfalso
    have hz : ∀ (R : List Int),(∀ v ∈ R,¬ 0 < v) → (∀ v ∈ R,0 ≤ v) → R.sum = 0 := by
     intro R
     induction R with
     | nil => intro _ _; rfl
     | cons x R ih =>
      intro h1 h2
      have a1 := h1 x (by simp)
      have a2 := h2 x (by simp)
      have := ih (fun v hv => h1 v (List.mem_cons_of_mem _ hv)) (fun v hv => h2 v (List.mem_cons_of_mem _ hv))
      simp only [List.sum_cons,this]; omega
    have := hz R (fun v hv hp => h ⟨v,hv,hp⟩) hR
    omega
  obtain ⟨k,v,hk,hv⟩ := this
  obtain ⟨t,h1,h2⟩ := fits_some n (R.set k (v - 1)) (fun u hu => by
   rcases List.mem_or_eq_of_mem_set hu with hu | rfl
   ·exact hR u hu
   ·omega) (by rw [sum_set R k v hk]; omega)
  exact ⟨k :: t,by simp [h1],by rw [hk]; exact hv,by rw [hk]; exact h2⟩
theorem sum_rep (n : Nat) (v : Int) : (List.replicate n v).sum = n * v := by
 induction n with
 | zero => simp
 | succ n ih =>
  rw [List.replicate_succ,List.sum_cons,ih]
  have : ((n + 1 : Nat) : Int) * v = (n : Int) * v + v := by rw [Int.natCast_add,Int.add_mul]; simp
  omega
theorem allot_eq (I : Nat) (hI0 : 0 < I) (hI : I ≤ 6) (lack : List (List Int)) (hlack : ∀ row ∈ lack,row.length = I ∧ ∀ v ∈ row,0 ≤ v ∧ v ≤ 1000) (hlen : lack.length ≤ 100) (most : Int) (h1 : 1 ≤ most) (h6 : most ≤ 6) (hroom : (lack.length : Int) ≤ most * I) :
  ∃ t,f106 lack (I : Int) most = some (intsT t,costT lack t) ∧ t.length = lack.length ∧ fitsT (List.replicate I most) t ∧ ∀ t',t'.length = lack.length → fitsT (List.replicate I most) t' → costT lack t ≤ costT lack t' ∧ (costT lack t' = costT lack t → lexLe t t') := by
 have hrep : f163 [most] (I : Int) = some (List.replicate I most) := by
  unfold f163 repL
  have : (0 : Int) < (I : Int) ∧ (I : Int) ≤ 6 := by omega
  simp only [if_pos this,Int.toNat_natCast]
 obtain ⟨least,best,e1,D⟩ := dfs I hI lack hlack hlen lack.length FUEL 0 (-1) [] [] (List.replicate I most) (by simp) (by unfold FUEL; omega) (by simp) (fun v hv => by rw [(List.mem_replicate.1 hv).2]; omega) (by omega) (by omega)
 have D0 : lack.drop ([] : List Int).length = lack := rfl
 rw [D0] at D
 obtain ⟨t0,q1,q2⟩ := fits_some lack.length (List.replicate I most) (fun v hv => by rw [(List.mem_replicate.1 hv).2]; omega) (by rw [sum_rep,Int.mul_comm]; exact hroom)
 have hpos := (D.opt t0 q1 q2 (fun _ _ _ => trivial)).1
 rcases D.keep with ⟨e2,e3⟩ | ⟨t,t1,t2,t3,t4,t5,_,_,t8⟩
 ·omega
 ·refine ⟨t,?_,t1,t2,fun t' a1 a2 => ⟨?_,fun e => t8 t' a1 a2 (fun _ _ _ => trivial) (by omega)⟩⟩
  ·unfold f106
   rw [hrep]
   simp only [Option.bind_some]
   have : f164 0 (-1) ([] : List Int) lack ([] : List Int) (I : Int) (List.replicate I most) = some (least,[],best,List.replicate I most) := e1
   rw [this]
   simp only [Option.bind_some]
   rw [t3,t4]
   simp
  ·have := (D.opt t' a1 a2 (fun _ _ _ => trivial)).2
   omega
end Go.Proofs.YtodkhgjhodmeoaaGreat
