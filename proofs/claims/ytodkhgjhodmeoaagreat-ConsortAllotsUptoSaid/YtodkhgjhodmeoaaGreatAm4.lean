/-
  Plain laws of the allotment,part 4: the reference and the statement.
  Own work. No Go text.
-/
import Derived.Test.YtodkhgjhodmeoaaGreatOd
set_option linter.all false
set_option maxRecDepth 20000
namespace Go.Proofs.YtodkhgjhodmeoaaGreat
open Go Go.Am
theorem lexLt_trans : ∀ {s t u : List Nat},lexLt s t → lexLt t u → lexLt s u
  | [],_,_,h,_ => by cases h
  | _ :: _,[],_,h,_ => h.elim
  | _ :: _,_ :: _,[],_,h => h.elim
  | a :: s,b :: t,c :: u,h1,h2 => by
    rcases h1 with h1 | ⟨rfl,h1⟩
    · rcases h2 with h2 | ⟨rfl,_⟩
      · exact .inl (by omega)
      · exact .inl h1
    · rcases h2 with h2 | ⟨rfl,h2⟩
      · exact .inl h2
      · exact .inr ⟨rfl,lexLt_trans h1 h2⟩
theorem lexLe_cases : ∀ {s t : List Nat},s.length = t.length → lexLe s t → lexLt s t ∨ s = t
  | [],[],_,_ => .inr rfl
  | [],_ :: _,hl,_ => by simp at hl
  | _ :: _,[],hl,_ => by simp at hl
  | b :: s,c :: t,hl,h => by
    rcases h with h | ⟨rfl,h⟩
    · exact .inl (.inl h)
    · rcases lexLe_cases (by simpa using hl) h with h | h
      · exact .inl (.inr ⟨rfl,h⟩)
      · subst h; exact .inr rfl
theorem lexLe_refl : ∀ (s : List Nat),lexLe s s
  | [] => trivial
  | _ :: s => .inr ⟨rfl,lexLe_refl s⟩
theorem next_gt (I : Nat) : ∀ {l l' : List Nat},nextL I l = some l' → lexLt l l'
  | [],_,h => by cases h
  | x :: t,l',h => by
    simp only [nextL] at h
    split at h
    · rename_i t' ht
      cases h
      exact .inr ⟨rfl,next_gt I ht⟩
    · split at h
      · cases h
        exact .inl (by omega)
      · cases h
theorem fits_lt : ∀ (t : List Nat) (R : List Int),fitsT R t → ∀ k ∈ t,k < R.length
  | [],_,_,k,hk => by cases hk
  | q :: t,R,hf,k,hk => by
    rcases List.mem_cons.1 hk with rfl | hk
    · have := hf.1
      by_cases hq : k < R.length
      · exact hq
      · rw [List.getElem?_eq_none (by omega)] at this; simp at this
    · have := fits_lt t _ hf.2 k hk
      simpa using this
def BestIn (L : List (List Int)) (I : Nat) (most : Int) (S : List Nat → Prop) (best : List Int) (least : Int) : Prop :=
  (least = -1 ∧ best = [] ∧ ∀ m : List Nat,m.length = L.length → fitsT (List.replicate I most) m → ¬ S m) ∨
  ∃ t : List Nat,t.length = L.length ∧ fitsT (List.replicate I most) t ∧ best = intsT t ∧ least = costT L t ∧ S t ∧ ∀ m : List Nat,m.length = L.length → fitsT (List.replicate I most) m → S m → costT L t ≤ costT L m ∧ (costT L m = costT L t → lexLe t m)
def refB (L : List (List Int)) (I : Nat) (a2 : Int) : (List Int × Int × List Int) → Option ((List Int × Int × List Int) ⊕ (Unit ⊕ (((List Int)) × Int × Int))) := fun ((l5_19,l5_20,l5_21) : (List Int × Int × List Int)) => (((f110 L l5_21 (I : Int) a2).bind fun r24 => ((bif r24.2 then (bif (decide (l5_20 < 0)) then (some true) else (some (decide (r24.1 < l5_20)))) else (some false)) : Option Bool).bind fun (j7_117 : Bool) => bif j7_117 then (((bif (decide (l5_21 = [])) then (some ([] : List Int)) else (need (l5_21.length ≤ maxElems) <| some l5_21)) : Option (List Int)).bind fun (j8_19 : (List Int)) => some (j8_19,r24.1)) else (some (l5_19,l5_20))) : Option (List Int × Int)).bind fun ((j6_19,j6_20) : (List Int × Int)) => (loopN (σ := (List Int × Int)) (τ := (List Int × Int)) (odoB I) FUEL (l5_21,(wr ((l5_21.length : Int) - 1)))).bind fun ((l9x_21,l9x_24) : (List Int × Int)) => bif (decide (l9x_24 < 0)) then (some (.inr (.inr (j6_19,j6_20,0)))) else ((ix l9x_21 l9x_24).bind fun y35 => some (.inl (j6_19,j6_20,(l9x_21.set l9x_24.toNat (wr (y35 + 1))))))
section
variable {L : List (List Int)} {I : Nat} {most : Int} (h0 : 0 < I) (h6 : I ≤ 6) (hL : ∀ row ∈ L,row.length = I ∧ ∀ v ∈ row,0 ≤ v ∧ v ≤ 1000) (hl : L.length ≤ 6)
include h0 h6 hL hl
theorem ref_odo (l : List Nat) (hll : l.length = L.length) (hk : ∀ k ∈ l,k < I) (b : List Int) (v : Int) :
    (nextL I l = none ∧ ((loopN (σ := (List Int × Int)) (τ := (List Int × Int)) (odoB I) FUEL (intsT l,(wr (((intsT l).length : Int) - 1)))).bind fun ((l9x_21,l9x_24) : (List Int × Int)) => bif (decide (l9x_24 < 0)) then (some (.inr (.inr (b,v,(0 : Int))))) else ((ix l9x_21 l9x_24).bind fun y35 => some (.inl (b,v,(l9x_21.set l9x_24.toNat (wr (y35 + 1))))))) = (some (.inr (.inr (b,v,0))) : Option ((List Int × Int × List Int) ⊕ (Unit ⊕ (List Int × Int × Int))))) ∨
    ∃ l',nextL I l = some l' ∧ ((loopN (σ := (List Int × Int)) (τ := (List Int × Int)) (odoB I) FUEL (intsT l,(wr (((intsT l).length : Int) - 1)))).bind fun ((l9x_21,l9x_24) : (List Int × Int)) => bif (decide (l9x_24 < 0)) then (some (.inr (.inr (b,v,(0 : Int))))) else ((ix l9x_21 l9x_24).bind fun y35 => some (.inl (b,v,(l9x_21.set l9x_24.toNat (wr (y35 + 1))))))) = (some (.inl (b,v,intsT l')) : Option ((List Int × Int × List Int) ⊕ (Unit ⊕ (List Int × Int × Int)))) := by
  have hlen : ((intsT l).length : Int) = (l.length : Int) := by simp [intsT]
  have hw : wr (((intsT l).length : Int) - 1) = (l.length : Int) - 1 := by rw [hlen]; exact wr64 (by omega) (by omega)
  rw [hw]
  have h := odo_loop I h0 h6 l.length l 0 FUEL rfl (by omega) (by unfold FUEL; omega) hk
  simp only [List.replicate_zero,List.append_nil] at h
  rcases h with ⟨h1,r,h2⟩ | ⟨b',x,q,h1,h2⟩
  · refine .inl ⟨h1,?_⟩
    rw [h2]
    rfl
  · refine .inr ⟨_,h1,?_⟩
    have hlen' : b'.length + (q + 1) = l.length := by
      have := next_len I h1
      simpa using this
    have hx := next_lt I h0 h1 hk (x + 1) (by simp)
    rw [h2]
    have hd : decide ((b'.length : Int) < 0) = false := decide_eq_false (by omega)
    have hg : (intsT (b' ++ x :: List.replicate q 0))[b'.length]? = some (x : Int) := by
      unfold intsT
      rw [List.getElem?_map,List.getElem?_append_right (by omega),Nat.sub_self]
      rfl
    have hset : (intsT (b' ++ x :: List.replicate q 0)).set b'.length ((x : Int) + 1) = intsT (b' ++ (x + 1) :: List.replicate q 0) := by
      unfold intsT
      rw [List.map_append,List.map_append,List.set_append_right _ _ (by simp)]
      simp
    have hwx : wr ((x : Int) + 1) = (x : Int) + 1 := wr64 (by omega) (by omega)
    simp only [Option.bind_some,hd,cond_false,ixNat hg,hwx,Int.toNat_natCast,hset]
theorem ref_step (l : List Nat) (hll : l.length = L.length) (hk : ∀ k ∈ l,k < I) (best : List Int) (least : Int) (hb : BestIn L I most (fun m => lexLt m l) best least) :
    ∃ best' least',BestIn L I most (fun m => lexLe m l) best' least' ∧
      ((nextL I l = none ∧ refB L I most (best,least,intsT l) = some (.inr (.inr (best',least',0)))) ∨
       ∃ l',nextL I l = some l' ∧ refB L I most (best,least,intsT l) = some (.inl (best',least',intsT l'))) := by
  obtain ⟨r,e1,e2⟩ := f110_eq L I h6 hL (by omega) most l hll hk
  have hnn : 0 ≤ costT L l := costT_nonneg L l fun row hr v hv => ((hL row hr).2 v hv).1
  have hcopy : ((bif (decide (intsT l = [])) then (some ([] : List Int)) else (need ((intsT l).length ≤ maxElems) <| some (intsT l))) : Option (List Int)) = some (intsT l) := by
    by_cases hz : intsT l = []
    · rw [decide_eq_true hz,hz]; rfl
    · have hm : (intsT l).length ≤ maxElems := by unfold intsT maxElems; rw [List.length_map]; omega
      rw [decide_eq_false hz]
      simp only [cond_false,need,if_pos hm]
  -- what is kept
  have hkeep : ∃ best' least',BestIn L I most (fun m => lexLe m l) best' least' ∧ (((f110 L (intsT l) (I : Int) most).bind fun r24 => ((bif r24.2 then (bif (decide (least < 0)) then (some true) else (some (decide (r24.1 < least)))) else (some false)) : Option Bool).bind fun (j7_117 : Bool) => bif j7_117 then (((bif (decide (intsT l = [])) then (some ([] : List Int)) else (need ((intsT l).length ≤ maxElems) <| some (intsT l))) : Option (List Int)).bind fun (j8_19 : (List Int)) => some (j8_19,r24.1)) else (some (best,least))) : Option (List Int × Int)) = some (best',least') := by
    rw [e1,hcopy]
    simp only [Option.bind_some]
    rcases e2 with ⟨f1,rfl⟩ | ⟨f1,rfl⟩
    · simp only [cond_true]
      rcases hb with ⟨rfl,rfl,hno⟩ | ⟨t,t1,t2,rfl,rfl,t3,t4⟩
      · refine ⟨intsT l,costT L l,.inr ⟨l,hll,f1,rfl,rfl,lexLe_refl l,fun m m1 m2 m3 => ?_⟩,rfl⟩
        rcases lexLe_cases (by omega) m3 with m3 | rfl
        · exact absurd m3 (hno m m1 m2)
        · exact ⟨Int.le_refl _,fun _ => lexLe_refl _⟩
      · have hnt : 0 ≤ costT L t := costT_nonneg L t fun row hr v hv => ((hL row hr).2 v hv).1
        have hd : decide (costT L t < 0) = false := decide_eq_false (by omega)
        rw [hd]
        simp only [cond_false,Option.bind_some]
        by_cases hlt : costT L l < costT L t
        · rw [decide_eq_true hlt]
          refine ⟨intsT l,costT L l,.inr ⟨l,hll,f1,rfl,rfl,lexLe_refl l,fun m m1 m2 m3 => ?_⟩,rfl⟩
          rcases lexLe_cases (by omega) m3 with m3 | rfl
          · have := (t4 m m1 m2 m3).1
            exact ⟨by omega,fun h => by omega⟩
          · exact ⟨Int.le_refl _,fun _ => lexLe_refl _⟩
        · rw [decide_eq_false hlt]
          refine ⟨intsT t,costT L t,.inr ⟨t,t1,t2,rfl,rfl,lexLt_le t3,fun m m1 m2 m3 => ?_⟩,rfl⟩
          rcases lexLe_cases (by omega) m3 with m3 | rfl
          · exact t4 m m1 m2 m3
          · exact ⟨by omega,fun _ => lexLt_le t3⟩
    · refine ⟨best,least,?_,rfl⟩
      rcases hb with ⟨rfl,rfl,hno⟩ | ⟨t,t1,t2,rfl,rfl,t3,t4⟩
      · refine .inl ⟨rfl,rfl,fun m m1 m2 m3 => ?_⟩
        rcases lexLe_cases (by omega) m3 with m3 | rfl
        · exact hno m m1 m2 m3
        · exact f1 m2
      · refine .inr ⟨t,t1,t2,rfl,rfl,lexLt_le t3,fun m m1 m2 m3 => ?_⟩
        rcases lexLe_cases (by omega) m3 with m3 | rfl
        · exact t4 m m1 m2 m3
        · exact absurd m2 f1
  obtain ⟨best',least',k1,k2⟩ := hkeep
  refine ⟨best',least',k1,?_⟩
  have h := ref_odo h0 h6 hL hl l hll hk best' least'
  unfold refB
  simp only
  rw [k2]
  exact h
theorem ref_loop : ∀ (fuel : Nat) (l : List Nat) (best : List Int) (least : Int),I ^ L.length - valL I l < fuel → l.length = L.length → (∀ k ∈ l,k < I) → BestIn L I most (fun m => lexLt m l) best least →
    ∃ best' least',BestIn L I most (fun _ => True) best' least' ∧ loopN (refB L I most) fuel (best,least,intsT l) = some (.inr (best',least',0))
  | 0,_,_,_,hf,_,_,_ => by omega
  | fuel + 1,l,best,least,hf,hll,hk,hb => by
    obtain ⟨best',least',b1,b2⟩ := ref_step h0 h6 hL hl l hll hk best least hb
    have hI : ∀ m : List Nat,fitsT (List.replicate I most) m → ∀ k ∈ m,k < I := fun m hm k hk => by simpa using fits_lt m _ hm k hk
    rcases b2 with ⟨n1,n2⟩ | ⟨l',n1,n2⟩
    · refine ⟨best',least',?_,?_⟩
      · rcases b1 with ⟨rfl,rfl,hno⟩ | ⟨t,t1,t2,rfl,rfl,t3,t4⟩
        · exact .inl ⟨rfl,rfl,fun m m1 m2 _ => hno m m1 m2 (next_none I n1 m (by omega) (hI m m2))⟩
        · exact .inr ⟨t,t1,t2,rfl,rfl,trivial,fun m m1 m2 _ => t4 m m1 m2 (next_none I n1 m (by omega) (hI m m2))⟩
      · simp only [loopN,n2]
    · have hv := val_next I h0 hk n1
      have hk' := next_lt I h0 n1 hk
      have hl' := next_len I n1
      have hv2 := val_lt I h0 l' hk'
      rw [hl',hll] at hv2
      have hb' : BestIn L I most (fun m => lexLt m l') best' least' := by
        rcases b1 with ⟨rfl,rfl,hno⟩ | ⟨t,t1,t2,rfl,rfl,t3,t4⟩
        · refine .inl ⟨rfl,rfl,fun m m1 m2 m3 => hno m m1 m2 ?_⟩
          rcases next_some I n1 m (by omega) (hI m m2) m3 with h | rfl
          · exact lexLt_le h
          · exact lexLe_refl _
        · refine .inr ⟨t,t1,t2,rfl,rfl,?_,fun m m1 m2 m3 => t4 m m1 m2 ?_⟩
          · rcases lexLe_cases (by omega) t3 with h | rfl
            · exact lexLt_trans h (next_gt I n1)
            · exact next_gt I n1
          · rcases next_some I n1 m (by omega) (hI m m2) m3 with h | rfl
            · exact lexLt_le h
            · exact lexLe_refl _
      obtain ⟨b,v,r1,r2⟩ := ref_loop fuel l' best' least' (by omega) (by omega) hk' hb'
      refine ⟨b,v,r1,?_⟩
      simp only [loopN,n2]
      exact r2
end
theorem f109_f105 (l : List (List GTone)) (a : GInstrument) (s : Int) (hl : Small l) : f109 l a s = f105 l a s := by rw [f109_eq l a s hl,f105_eq l a s hl]
theorem f107_val (n : Nat) : f107 (n : Int) = some (if n = 0 then 90 else if 6 < n then 2 else 0) := by
  unfold f107
  by_cases h : n = 0
  · rw [if_pos h,decide_eq_true (by omega)]; rfl
  · rw [if_neg h,decide_eq_false (show ¬ ((n : Int) = 0) by omega)]
    by_cases h6 : 6 < n
    · rw [if_pos h6,decide_eq_true (by omega)]; rfl
    · rw [if_neg h6,decide_eq_false (by omega)]; rfl
theorem f47_wrong (a0 : List (List GTone)) (a1 : List GInstrument) (most : Int) (hs : Small a0) (h : errA a0 a1 most ≠ 0) : f47 a0 a1 most = some (([] : List Int),0,errA a0 a1 most) := by
  unfold f47 errA at *
  rw [f102_eq a0 hs,f107_val]
  simp only [Option.bind_some]
  by_cases hp : partsS a0 = 0
  · have d0 : decide (partsS a0 ≠ 0) = false := by simpa using hp
    simp only [hp,ne_eq,not_true,if_false,decide_false,cond_false] at h ⊢
    by_cases h0 : a1.length = 0
    · simp only [if_pos h0]; rfl
    · simp only [if_neg h0] at h ⊢
      by_cases h6 : 6 < a1.length
      · simp only [if_pos h6]; rfl
      · have hs1 : Small a1 := by simp only [Small]; omega
        simp only [if_neg h6,not_true,decide_false,cond_false] at h ⊢
        rw [loop_find (τ := (List Int) × Int × Int) a1 (fun a => decide (instS a ≠ 0)) (fun _ a => (([] : List Int),0,instS a)) hs1 (by
          intro i y hy
          simp only [dltLen hy,cond_true,ixNat hy,Option.bind_some,f108_eq]
          cases decide (instS y ≠ 0) <;> rfl) (by simp)]
        rw [findS_find]
        simp only [Option.bind_some]
        cases hf : a1.find? (fun a => decide (instS a ≠ 0)) with
        | some y => rfl
        | none =>
          rw [hf] at h
          simp only at h ⊢
          have e17 : ((bif (decide (most < 1)) then (some true) else (some (decide (6 < most)))) : Option Bool) = some (decide (most < 1 ∨ 6 < most)) := by
            by_cases h1 : most < 1
            · rw [decide_eq_true h1,decide_eq_true (Or.inl h1)]; rfl
            · rw [decide_eq_false h1]
              simp only [cond_false]
              congr 1
              by_cases h2 : 6 < most
              · rw [decide_eq_true h2,decide_eq_true (Or.inr h2)]
              · rw [decide_eq_false h2,decide_eq_false (by omega)]
          simp only [Sum.elim_inl,e17,Option.bind_some]
          by_cases hm : most < 1 ∨ 6 < most
          · rw [decide_eq_true hm,if_pos hm]; rfl
          · rw [if_neg hm] at h ⊢
            rw [decide_eq_false hm]
            simp only [cond_false,mul_room (most := most) (n := a1.length) (by omega) (by omega) (by omega)]
            by_cases hlt : most * (a1.length : Int) < (a0.length : Int)
            · rw [decide_eq_true hlt,if_pos hlt]; rfl
            · rw [if_neg hlt] at h; exact absurd rfl h
  · have d0 : decide (partsS a0 ≠ 0) = true := by simpa using hp
    rw [d0,if_pos hp]; rfl
theorem f47_whole (a0 : List (List GTone)) (a1 : List GInstrument) (most : Int) (hs : Small a0) (h : errA a0 a1 most = 0) (hl6 : a0.length ≤ 6) :
    ∃ best least,f47 a0 a1 most = some (best,least,0) ∧ BestIn (tableM a0 a1) a1.length most (fun _ => True) best least := by
  obtain ⟨hp,h1,h4,hin,w1,w2,hroom⟩ := errA_ok h
  have hs1 : Small a1 := by simp only [Small]; omega
  unfold f47
  rw [f102_eq a0 hs,f107_val]
  have d0 : decide (partsS a0 ≠ 0) = false := by simpa using hp
  have d1 : (if a1.length = 0 then (90 : Int) else if 6 < a1.length then 2 else 0) = 0 := by rw [if_neg (by omega),if_neg (by omega)]
  have d2 : decide ((0 : Int) ≠ 0) = false := rfl
  simp only [Option.bind_some,d0,d1,d2,cond_false]
  rw [loop_find (τ := (List Int) × Int × Int) a1 (fun a => decide (instS a ≠ 0)) (fun _ a => (([] : List Int),0,instS a)) hs1 (by
    intro i y hy
    simp only [dltLen hy,cond_true,ixNat hy,Option.bind_some,f108_eq]
    cases decide (instS y ≠ 0) <;> rfl) (by simp)]
  rw [findS_find]
  have hf : a1.find? (fun a => decide (instS a ≠ 0)) = none := List.find?_eq_none.2 fun a ha => by simp [hin a ha]
  rw [hf]
  have e1 : decide (most < 1) = false := decide_eq_false (by omega)
  have e2 : decide (6 < most) = false := decide_eq_false (by omega)
  have d3 : decide (most * (a1.length : Int) < (a0.length : Int)) = false := decide_eq_false (by omega)
  have hps := partsS_small hp
  have n1 : (0 : Int) ≤ (a0.length : Int) := by omega
  have n2 : (a0.length : Int) ≤ (maxElems : Int) := by have : maxElems = 4294967296 := rfl; omega
  have hLl : (tableM a0 a1).length = a0.length := by simp [tableM]
  simp only [Option.bind_some,Sum.elim_inl,e1,e2,cond_false,mul_room w1 w2 h4,d3]
  rw [loop_all (fun k => ((tableM a0 a1).take k,(k : Int))) a0.length (by omega) (by simp) (r := tableM a0 a1)]
  · simp only [Option.bind_some,need,if_pos n1,if_pos n2,Int.toNat_natCast]
    obtain ⟨best,least,b1,b2⟩ := ref_loop (L := tableM a0 a1) (I := a1.length) (most := most) h1 h4 (table_ok hp hin) (by omega) FUEL (List.replicate a0.length 0) [] (-1) (by
        have h3 : a1.length ^ (tableM a0 a1).length ≤ 6 ^ 6 := by
          rw [hLl]
          exact Nat.le_trans (Nat.pow_le_pow_left h4 _) (Nat.pow_le_pow_right (by omega) hl6)
        have : (6 : Nat) ^ 6 = 46656 := rfl
        unfold FUEL; omega) (by simp [hLl]) (fun k hk => by rw [(List.mem_replicate.1 hk).2]; exact h1) (.inl ⟨rfl,rfl,fun m _ _ => zeros_least _ m⟩)
    have hrep : intsT (List.replicate a0.length 0) = List.replicate a0.length (0 : Int) := by unfold intsT; rw [List.map_replicate]; rfl
    rw [hrep] at b2
    refine ⟨best,least,?_,b1⟩
    have b3 : ∀ {x} ,loopN (refB (tableM a0 a1) a1.length most) FUEL ([],-1,List.replicate a0.length (0 : Int)) = x → x = some (.inr (best,least,0)) := fun h => h.symm.trans b2
    refine (congrArg (fun x => Option.bind x (Sum.elim (fun (_ : Unit) => none) some)) (b3 ?_)).trans rfl
    rfl
  · intro k hk
    have hg : a0[k]? = some (a0[k]'hk) := List.getElem?_eq_getElem hk
    have hpm := List.mem_of_getElem? hg
    have hone := one_part a0 k (a0[k]'hk) hg
    generalize a0[k]'hk = p at hg hpm hone
    have hwk : wr ((k : Int) + 1) = ((k + 1 : Nat) : Int) := wrNat (by omega)
    simp only [dltLen hg,cond_true,hwk,Int.toNat_natCast]
    rw [loop_all (fun j => ((a1.map (cellM p)).take j,(j : Int))) a1.length (by omega) (by simp) (r := a1.map (cellM p))]
    · have hm1 : ((tableM a0 a1).take k).length + 1 ≤ maxElems := by rw [List.length_take,hLl]; unfold maxElems; omega
      simp only [Option.bind_some,need,if_pos hm1]
      rw [take_snoc (table_get hg)]
    · intro j hj
      have hgj : a1[j]? = some (a1[j]'hj) := List.getElem?_eq_getElem hj
      have ham := List.mem_of_getElem? hgj
      generalize a1[j]'hj = a at hgj ham
      have hm1 : ((a1.map (cellM p)).take j).length + 1 ≤ maxElems := by rw [List.length_take,List.length_map]; unfold maxElems; omega
      have hc : (a1.map (cellM p))[j]? = some (cellM p a) := by rw [List.getElem?_map,hgj]; rfl
      have z1 : (0 : Int) ≤ (k : Int) := by omega
      have z2 : (0 : Int) ≤ ((k + 1 : Nat) : Int) := by omega
      have z3 : k ≤ k + 1 := by omega
      have z4 : k + 1 ≤ a0.length := by omega
      have hmiss : f109 [p] a 0 = some (cellM p a,0) := by rw [f109_f105 [p] a 0 (by simp [Small])]; exact (miss_one hp hpm (hin a ham)).1
      simp only [dltLen hgj,cond_true,need,if_pos z1,if_pos z2,if_pos z3,if_pos z4,ixNat hgj,Option.bind_some,hone,hmiss,if_pos hm1,wrLen hs1 hgj,take_snoc hc]
    · have : (a1.map (cellM p)).take a1.length = a1.map (cellM p) := by rw [List.take_of_length_le]; simp
      simp [this]
  · have h5 : (tableM a0 a1).take a0.length = tableM a0 a1 := by rw [List.take_of_length_le]; omega
    simp [h5]
theorem f44_refl (l : List Int) (hs : Small l) : f44 l l = some true := by
  unfold f44
  have hd : decide ((l.length : Int) ≠ (l.length : Int)) = false := by simp
  rw [hd,cond_false]
  rw [loop_find (τ := Bool) l (fun _ => false) (fun _ _ => false) hs (by
    intro i y hy
    have hne : decide (y ≠ y) = false := by simp
    simp only [dltLen hy,cond_true,ixNat hy,Option.bind_some,hne,cond_false]) (by simp)]
  rw [findS_find]
  have : l.find? (fun _ => false) = none := by simp
  rw [this]
  rfl
theorem f45_some (a0 : List (List GTone)) (hs : Small a0) : ∃ b,f45 a0 = some b := by
  unfold f45
  rw [loop_fold (fun (n : Int) i => (n,i)) (fun _ n (p : List GTone) => (.inl (wr (n + (p.length : Int))) : Int ⊕ Int)) (fun n => n) a0 (fun _ _ => True) 0 (small_fuel hs) trivial]
  · simp only [Option.bind_some]
    rw [f102_eq a0 hs]
    simp only [Option.bind_some]
    cases decide (foldE (fun _ n (p : List GTone) => (.inl (wr (n + (p.length : Int))) : Int ⊕ Int)) (fun n => n) 0 a0 0 ≤ 64) <;> exact ⟨_,rfl⟩
  · intro i n p hy _
    exact ⟨by simp only [dltLen hy,cond_true,ixNat hy,Option.bind_some,wrLen hs hy]; rfl,fun _ _ => trivial⟩
  · intro n _; simp
theorem both (a0 : List (List GTone)) (a1 : List GInstrument) (most : Int) (hs : Small a0) : ∃ r,Small r.1 ∧ f46 a0 a1 most = some r ∧ f47 a0 a1 most = some r := by
  by_cases h : errA a0 a1 most = 0
  · obtain ⟨hp,h1,h4,hin,w1,w2,hroom⟩ := errA_ok h
    have hl6 := (partsS_small hp).1
    have hLl : (tableM a0 a1).length = a0.length := by simp [tableM]
    obtain ⟨t,g1,g2,g3,g4⟩ := f46_ok2 a0 a1 most hs h
    obtain ⟨best,least,k1,k2⟩ := f47_whole a0 a1 most hs h (by omega)
    refine ⟨_,by simp only [Small,intsT,List.length_map]; omega,g1,?_⟩
    rw [k1]
    rcases k2 with ⟨_,_,hno⟩ | ⟨u,u1,u2,rfl,rfl,_,u4⟩
    · exact absurd trivial (hno t (by omega) g3)
    · have p1 := g4 u (by omega) u2
      have p2 := u4 t (by omega) g3 trivial
      have hc : costT (tableM a0 a1) u = costT (tableM a0 a1) t := by have := p1.1; have := p2.1; omega
      have := lexLe_anti (p1.2 hc) (p2.2 hc.symm)
      subst this
      rfl
  · exact ⟨_,by simp [Small],f46_err a0 a1 most hs h,f47_wrong a0 a1 most hs h⟩
theorem f8_eq (a0 : List (List GTone)) (a1 : List GInstrument) (a2 : Int) (hs : Small a0) : f8 a0 a1 a2 = some true := by
  obtain ⟨b,hb⟩ := f45_some a0 hs
  unfold f8
  have hc : ∃ c,(((f45 a0).bind fun r1 => bif (!r1) then (some true) else (bif (decide (4 < (a1.length : Int))) then (some (decide ((a1.length : Int) ≤ 6))) else (some false))) : Option Bool) = some c := by
    rw [hb]
    cases b with
    | false => exact ⟨_,rfl⟩
    | true =>
      simp only [Option.bind_some,Bool.not_true,cond_false]
      cases decide (4 < (a1.length : Int)) <;> exact ⟨_,rfl⟩
  obtain ⟨c,hc⟩ := hc
  rw [hc]
  simp only [Option.bind_some]
  cases c with
  | true => rfl
  | false =>
    obtain ⟨r,r0,r1,r2⟩ := both a0 a1 a2 hs
    have e1 : decide (r.2.2 = r.2.2) = true := by simp
    have e2 : decide (r.2.1 = r.2.1) = true := by simp
    rw [r1,r2]
    simp only [cond_false,Option.bind_some,e1,e2,cond_true,f44_refl r.1 r0]
    rfl
end Go.Proofs.YtodkhgjhodmeoaaGreat
