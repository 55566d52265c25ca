/-
 Plain laws of the allotment,part 2: the statement.
 Own work. No Go text.
-/
import Derived.Test.YtodkhgjhodmeoaaGreatAl
set_option linter.all false
set_option maxRecDepth 20000
namespace Go.Proofs.YtodkhgjhodmeoaaGreat
open Go Go.Am
theorem missP_bound (a : GInstrument) (s : Int) : ∀ (p : List GTone) (n : Int),0 ≤ n → n + p.length ≤ 1000 → 0 ≤ missP a s n p ∧ missP a s n p ≤ n + p.length
 | [],n,h0,h1 => by simp [missP]; omega
 | t :: p,n,h0,h1 => by
  simp only [List.length_cons] at h1
  have hw : wr (n + 1) = n + 1 := wr64 (by omega) (by omega)
  have e : missP a s n (t :: p) = missP a s (bif badS a (wr (t.pitch + s)) then wr (n + 1) else n) p := rfl
  rw [e,hw]
  cases badS a (wr (t.pitch + s)) with
  | true =>
   have := missP_bound a s p (n + 1) (by omega) (by omega)
   simp only [cond_true,List.length_cons]; omega
  | false =>
   have := missP_bound a s p n h0 (by omega)
   simp only [cond_false,List.length_cons]; omega
def cellM (p : List GTone) (a : GInstrument) : Int := missS [p] a 0
def tableM (a0 : List (List GTone)) (a1 : List GInstrument) : List (List Int) := a0.map fun p => a1.map (cellM p)
theorem parts_one {l : List (List GTone)} (h : partsS l = 0) {p : List GTone} (hp : p ∈ l) : partsS [p] = 0 := by
 unfold partsS at h ⊢
 split at h
 ·cases h
 ·rename_i hm
  split at h
  ·rename_i ha
   have hm2 : manyS [p] = false := by
    unfold manyS at hm ⊢
    simp only [Bool.or_eq_true,not_or,Bool.not_eq_true,decide_eq_false_iff_not,List.any_eq_false] at hm
    have := hm.2 p hp
    simp only [List.length_cons,List.length_nil,List.any_cons,List.any_nil,Bool.or_false,Bool.or_eq_false_iff]
    exact ⟨decide_eq_false (by omega),by simpa using this⟩
   have ha2 : [p].all (okT 0) = true := by
    simp only [List.all_cons,List.all_nil,Bool.and_true]
    exact List.all_eq_true.1 ha p hp
   rw [if_neg (by rw [hm2]; simp),if_pos ha2]
  ·cases h
theorem miss_one {l : List (List GTone)} (h : partsS l = 0) {p : List GTone} (hp : p ∈ l) {a : GInstrument} (ha : instS a = 0) : f105 [p] a 0 = some (cellM p a,0) ∧ 0 ≤ cellM p a ∧ cellM p a ≤ 400 := by
 have h1 := parts_one h hp
 have hsmall := (partsS_small h).2 p hp
 have hset : setupS [p] a = 0 := by unfold setupS; rw [if_pos h1]; exact ha
 refine ⟨?_,?_⟩
 ·rw [f105_eq [p] a 0 (by simp [Small])]
  unfold missingR
  rw [if_pos hset]
  rfl
 ·have := missP_bound a 0 p 0 (by omega) (by omega)
  have e : cellM p a = missP a 0 0 p := rfl
  rw [e]; omega
theorem one_part (a0 : List (List GTone)) (i : Nat) (p : List GTone) (h : a0[i]? = some p) : (a0.take (i + 1)).drop i = [p] := by
 have hl := (List.getElem?_eq_some_iff.1 h).1
 rw [take_snoc h,List.drop_append]
 have : (a0.take i).length = i := by rw [List.length_take]; omega
 rw [this,List.drop_eq_nil_of_le (by omega)]
 simp
theorem table_get {a0 : List (List GTone)} {a1 : List GInstrument} {i : Nat} {p : List GTone} (h : a0[i]? = some p) : (tableM a0 a1)[i]? = some (a1.map (cellM p)) := by
 unfold tableM; rw [List.getElem?_map,h]; rfl
theorem table_ok {a0 : List (List GTone)} {a1 : List GInstrument} (h : partsS a0 = 0) (h1 : ∀ a ∈ a1,instS a = 0) : ∀ row ∈ tableM a0 a1,row.length = a1.length ∧ ∀ v ∈ row,0 ≤ v ∧ v ≤ 1000 := by
 intro row hr
 obtain ⟨p,hp,rfl⟩ := List.mem_map.1 hr
 refine ⟨by simp,fun v hv => ?_⟩
 obtain ⟨a,ha,rfl⟩ := List.mem_map.1 hv
 have := (miss_one h hp (h1 a ha)).2
 omega
def errA (a0 : List (List GTone)) (a1 : List GInstrument) (most : Int) : Int :=
 if partsS a0 ≠ 0 then partsS a0 else if a1.length = 0 then 90 else if 6 < a1.length then 2 else
  match a1.find? (fun a => decide (instS a ≠ 0)) with
  | some a => instS a
  | none => if most < 1 ∨ 6 < most then 1 else if most * (a1.length : Int) < (a0.length : Int) then 90 else 0
theorem errA_ok {a0 : List (List GTone)} {a1 : List GInstrument} {most : Int} (h : errA a0 a1 most = 0) : partsS a0 = 0 ∧ 0 < a1.length ∧ a1.length ≤ 6 ∧ (∀ a ∈ a1,instS a = 0) ∧ 1 ≤ most ∧ most ≤ 6 ∧ (a0.length : Int) ≤ most * (a1.length : Int) := by
 unfold errA at h
 split at h
 ·contradiction
 ·rename_i h1
  split at h
  ·cases h
  ·split at h
   ·cases h
   ·split at h
    ·rename_i a hf
     have := List.find?_some hf
     simp only [decide_eq_true_eq] at this
     contradiction
    ·rename_i hf
     split at h
     ·cases h
     ·split at h
      ·cases h
      ·refine ⟨by simpa using h1,by omega,by omega,fun a ha => ?_,by omega,by omega,by omega⟩
       have := List.find?_eq_none.1 hf a ha
       simpa using this
theorem mul_room {most : Int} {n : Nat} (h1 : 1 ≤ most) (h2 : most ≤ 6) (h3 : n ≤ 6) : wr (most * (n : Int)) = most * (n : Int) := by
 have h4 : most * (n : Int) ≤ 6 * 6 := Int.mul_le_mul h2 (by omega) (by omega) (by omega)
 have h5 : 0 ≤ most * (n : Int) := Int.mul_nonneg (by omega) (by omega)
 exact wr64 (by omega) (by omega)
theorem f46_err (a0 : List (List GTone)) (a1 : List GInstrument) (most : Int) (hs : Small a0) (h : errA a0 a1 most ≠ 0) : f46 a0 a1 most = some (([] : List Int),0,errA a0 a1 most) := by
 unfold f46 errA at *
 rw [f103_eq a0 hs]
 simp only [Option.bind_some]
 by_cases hp : partsS a0 = 0
 ·have d0 : decide (partsS a0 ≠ 0) = false := by simpa using hp
  simp only [hp,ne_eq,not_true,if_false,decide_false,cond_false] at h ⊢
  by_cases h0 : a1.length = 0
  ·have d1 : decide ((a1.length : Int) = 0) = true := decide_eq_true (by omega)
   rw [d1,if_pos h0]; rfl
  ·have d1 : decide ((a1.length : Int) = 0) = false := decide_eq_false (by omega)
   rw [if_neg h0] at h ⊢
   by_cases h6 : 6 < a1.length
   ·have d2 : decide (6 < (a1.length : Int)) = true := decide_eq_true (by omega)
    rw [d1,d2,if_pos h6]; rfl
   ·have d2 : decide (6 < (a1.length : Int)) = false := decide_eq_false (by omega)
    have hs1 : Small a1 := by simp only [Small]; omega
    rw [if_neg h6] at h ⊢
    simp only [d1,d2,cond_false]
    rw [loop_find (τ := (List Int) × Int × Int) a1 (fun a => decide (instS a ≠ 0)) (fun _ a => (([] : List Int),0,instS a)) hs1 (by
     intro i y hy
     simp only [dltLen hy,cond_true,ixNat hy,Option.bind_some,f104_eq]
     cases decide (instS y ≠ 0) <;> rfl) (by simp)]
    rw [findS_find]
    simp only [Option.bind_some]
    cases hf : a1.find? (fun a => decide (instS a ≠ 0)) with
    | some y => rfl
    | none =>
     rw [hf] at h
     simp only at h ⊢
     have e17 : f76 most 1 6 = some (decide (1 ≤ most) && decide (most ≤ 6)) := by unfold f76; cases decide (1 ≤ most) <;> rfl
     simp only [Sum.elim_inl,e17,Option.bind_some]
     by_cases hm : most < 1 ∨ 6 < most
     ·have hw : (decide (1 ≤ most) && decide (most ≤ 6)) = false := by
       simp only [Bool.and_eq_false_iff,decide_eq_false_iff_not]; omega
      rw [hw,if_pos hm]; rfl
     ·have hw : (decide (1 ≤ most) && decide (most ≤ 6)) = true := by
       simp only [Bool.and_eq_true,decide_eq_true_eq]; omega
      rw [if_neg hm] at h ⊢
      simp only [hw,Bool.not_true,cond_false,mul_room (most := most) (n := a1.length) (by omega) (by omega) (by omega)]
      by_cases hlt : most * (a1.length : Int) < (a0.length : Int)
      ·rw [decide_eq_true hlt,if_pos hlt]; rfl
      ·rw [if_neg hlt] at h; exact absurd rfl h
 ·have d0 : decide (partsS a0 ≠ 0) = true := by simpa using hp
  rw [d0,if_pos hp]; rfl
theorem f46_ok2 (a0 : List (List GTone)) (a1 : List GInstrument) (most : Int) (hs : Small a0) (h : errA a0 a1 most = 0) :
  ∃ t,f46 a0 a1 most = some (intsT t,costT (tableM a0 a1) t,0) ∧ t.length = a0.length ∧ fitsT (List.replicate a1.length most) t ∧ ∀ t',t'.length = a0.length → fitsT (List.replicate a1.length most) t' → costT (tableM a0 a1) t ≤ costT (tableM a0 a1) t' ∧ (costT (tableM a0 a1) t' = costT (tableM a0 a1) t → lexLe t t') := by
 obtain ⟨hp,h1,h4,hin,w1,w2,hroom⟩ := errA_ok h
 have hs1 : Small a1 := by simp only [Small]; omega
 unfold f46
 rw [f103_eq a0 hs]
 have d0 : decide (partsS a0 ≠ 0) = false := by simpa using hp
 have d1 : decide ((a1.length : Int) = 0) = false := decide_eq_false (by omega)
 have d2 : decide (6 < (a1.length : Int)) = false := decide_eq_false (by omega)
 simp only [Option.bind_some,d0,d1,d2,cond_false]
 rw [loop_find (τ := (List Int) × Int × Int) a1 (fun a => decide (instS a ≠ 0)) (fun _ a => (([] : List Int),0,instS a)) hs1 (by
  intro i y hy
  simp only [dltLen hy,cond_true,ixNat hy,Option.bind_some,f104_eq]
  cases decide (instS y ≠ 0) <;> rfl) (by simp)]
 rw [findS_find]
 have hf : a1.find? (fun a => decide (instS a ≠ 0)) = none := List.find?_eq_none.2 fun a ha => by simp [hin a ha]
 have e17 : f76 most 1 6 = some true := by
  unfold f76
  rw [decide_eq_true w1,decide_eq_true w2]; rfl
 rw [hf]
 have d3 : decide (most * (a1.length : Int) < (a0.length : Int)) = false := decide_eq_false (by omega)
 have hps := partsS_small hp
 have n1 : (0 : Int) ≤ (a0.length : Int) := by omega
 have n2 : (a0.length : Int) ≤ (maxElems : Int) := by have : maxElems = 4294967296 := rfl; omega
 simp only [Option.bind_some,Sum.elim_inl,e17,Bool.not_true,cond_false,mul_room w1 w2 h4,d3,need,if_pos n1,if_pos n2]
 have hLl : (tableM a0 a1).length = a0.length := by simp [tableM]
 rw [loop_all (fun k => (tableM a0 a1).take k) a0.length (by omega) (by simp) (r := .inl (tableM a0 a1))]
 ·simp only [Option.bind_some,Sum.elim_inl]
  obtain ⟨t,g1,g2,g3,g4⟩ := allot_eq a1.length h1 (by omega) (tableM a0 a1) (table_ok hp hin) (by rw [hLl]; omega) most w1 w2 (by rw [hLl]; omega)
  rw [g1]
  rw [hLl] at g2 g4
  exact ⟨t,rfl,g2,g3,g4⟩
 ·intro k hk
  have hg : a0[k]? = some (a0[k]'hk) := List.getElem?_eq_getElem hk
  have hpm := List.mem_of_getElem? hg
  generalize a0[k]'hk = p at hg hpm
  have hlk : (((tableM a0 a1).take k).length : Int) = (k : Int) := by rw [List.length_take,hLl]; omega
  simp only [hlk,dltLen hg,cond_true,ixNat hg,Option.bind_some]
  rw [loop_all (fun j => ((a1.map (cellM p)).take j,(j : Int))) a1.length (by omega) (by simp) (r := .inl (a1.map (cellM p)))]
  ·simp only [Option.bind_some,Sum.elim_inl]
   rw [take_snoc (table_get hg)]
  ·intro j hj
   have hgj : a1[j]? = some (a1[j]'hj) := List.getElem?_eq_getElem hj
   have ham := List.mem_of_getElem? hgj
   generalize a1[j]'hj = a at hgj ham
   have hm1 : ((a1.map (cellM p)).take j).length + 1 ≤ maxElems := by rw [List.length_take,List.length_map]; unfold maxElems; omega
   have hc : (a1.map (cellM p))[j]? = some (cellM p a) := by rw [List.getElem?_map,hgj]; rfl
   have dz : decide ((0 : Int) ≠ 0) = false := rfl
   simp only [dltLen hgj,cond_true,ixNat hgj,Option.bind_some,(miss_one hp hpm (hin a ham)).1,dz,cond_false,need,if_pos hm1,wrLen hs1 hgj,take_snoc hc]
  ·have : (a1.map (cellM p)).take a1.length = a1.map (cellM p) := by rw [List.take_of_length_le]; simp
   simp [this]
 ·have h5 : (tableM a0 a1).take a0.length = tableM a0 a1 := by rw [List.take_of_length_le]; omega
  have h6 : decide (((tableM a0 a1).length : Int) < (a0.length : Int)) = false := decide_eq_false (by omega)
  have h7 : ((tableM a0 a1).length : Int) = (a0.length : Int) := by omega
  simp only [h5,h6,cond_false,need,if_pos h7]
def stepF (most : Int) (M : Nat → Nat → Int) (i : Nat) (g : List Int × Int) (y : Int) : (List Int × Int) ⊕ (Int ⊕ (Int × Bool)) :=
 bif decide (most < (g.1[y.toNat]?).getD 0 + 1) then .inr (.inr (0,false)) else .inl (g.1.set y.toNat ((g.1[y.toNat]?).getD 0 + 1),g.2 + M i y.toNat)
def MT (L : List (List Int)) (i k : Nat) : Int := ((L[i]?).bind (·[k]?)).getD 0
theorem costT_drop (L : List (List Int)) (i k : Nat) (t : List Nat) (h : i < L.length) : costT (L.drop i) (k :: t) = MT L i k + costT (L.drop (i + 1)) t := by
 rw [List.drop_eq_getElem_cons h]
 simp only [costT,MT,List.getElem?_eq_getElem h,Option.bind_some]
theorem fold_sum (most : Int) (L : List (List Int)) (I : Nat) : ∀ (o : List Nat) (i : Nat) (g : List Int) (tot : Int),i + o.length ≤ L.length → g.length = I → (∀ k ∈ o,k < I) →
  ∃ r,foldE (stepF most (MT L)) (fun s => (.inl s.2 : Int ⊕ (Int × Bool))) i (intsT o) (g,tot) = r ∧ ((fitsT (g.map (most - ·)) o ∧ r = .inl (tot + costT (L.drop i) o)) ∨ (¬ fitsT (g.map (most - ·)) o ∧ r = .inr (0,false)))
 | [],i,g,tot,_,_,_ => ⟨_,rfl,.inl ⟨trivial,by cases L.drop i <;> simp [intsT,foldE,costT]⟩⟩
 | k :: t,i,g,tot,hl,hg,ho => by
  simp only [List.length_cons] at hl
  have hkI := ho k (by simp)
  have hgk : g[k]? = some (g[k]'(by omega)) := List.getElem?_eq_getElem (by omega)
  generalize g[k]'(by omega) = v at hgk
  have hR : ((g.map (most - ·))[k]?).getD 0 = most - v := by rw [List.getElem?_map,hgk]; rfl
  have hset : (g.map (most - ·)).set k (most - v - 1) = (g.set k (v + 1)).map (most - ·) := by
   rw [List.map_set]
   congr 1
   omega
  simp only [intsT,List.map_cons,foldE,stepF,Int.toNat_natCast,hgk,Option.getD_some]
  by_cases hx : most < v + 1
  ·have hd : decide (most < v + 1) = true := decide_eq_true hx
   rw [hd]
   exact ⟨_,rfl,.inr ⟨fun hf => by have := hf.1; rw [hR] at this; omega,rfl⟩⟩
  ·have hd : decide (most < v + 1) = false := decide_eq_false hx
   rw [hd]
   simp only [cond_false]
   obtain ⟨r,h1,h2⟩ := fold_sum most L I t (i + 1) (g.set k (v + 1)) (tot + MT L i k) (by omega) (by simp [hg]) (fun q hq => ho q (List.mem_cons_of_mem _ hq))
   refine ⟨r,h1,?_⟩
   have hf : fitsT (g.map (most - ·)) (k :: t) ↔ fitsT ((g.set k (v + 1)).map (most - ·)) t := by
    simp only [fitsT,hR,hset]
    constructor
    ·exact fun h => h.2
    ·exact fun h => ⟨by omega,h⟩
   rw [hf,costT_drop L i k t (by omega)]
   rcases h2 with ⟨a1,a2⟩ | ⟨a1,a2⟩
   ·exact .inl ⟨a1,by rw [a2]; congr 1; omega⟩
   ·exact .inr ⟨a1,a2⟩
theorem f110_eq (L : List (List Int)) (I : Nat) (h6 : I ≤ 6) (hL : ∀ row ∈ L,row.length = I ∧ ∀ v ∈ row,0 ≤ v ∧ v ≤ 1000) (hl : L.length ≤ 100) (most : Int) (o : List Nat) (hol : o.length = L.length) (ho : ∀ k ∈ o,k < I) :
  ∃ r,f110 L (intsT o) (I : Int) most = some r ∧ ((fitsT (List.replicate I most) o ∧ r = (costT L o,true)) ∨ (¬ fitsT (List.replicate I most) o ∧ r = (0,false))) := by
 have hso : Small (intsT o) := by simp only [Small,intsT,List.length_map]; omega
 have n1 : (0 : Int) ≤ (I : Int) := by omega
 have n2 : (I : Int) ≤ (maxElems : Int) := by have : maxElems = 4294967296 := rfl; omega
 unfold f110
 simp only [need,if_pos n1,if_pos n2,Int.toNat_natCast]
 rw [loop_fold (fun (g : List Int × Int) i => (g.1,g.2,i)) (stepF most (MT L)) (fun s => (.inl s.2 : Int ⊕ (Int × Bool))) (intsT o) (fun i g => g.1.length = I ∧ (∀ v ∈ g.1,0 ≤ v ∧ v ≤ (i : Int)) ∧ 0 ≤ g.2 ∧ g.2 ≤ 1000 * (i : Int)) (List.replicate I 0,0) (small_fuel hso) ⟨by simp,fun v hv => by rw [(List.mem_replicate.1 hv).2]; exact ⟨Int.le_refl _,Int.le_refl _⟩,Int.le_refl _,by simp⟩]
 ·simp only [Option.bind_some]
  obtain ⟨r,e1,e2⟩ := fold_sum most L I o 0 (List.replicate I 0) 0 (by omega) (by simp) ho
  rw [e1]
  have hrep : (List.replicate I (0 : Int)).map (most - ·) = List.replicate I most := by simp
  rw [hrep] at e2
  rcases e2 with ⟨f1,rfl⟩ | ⟨f1,rfl⟩
  ·exact ⟨_,rfl,.inl ⟨f1,by simp⟩⟩
  ·exact ⟨_,rfl,.inr ⟨f1,rfl⟩⟩
 ·rintro i ⟨g,tot⟩ y hy ⟨i1,i2,i3,i4⟩
  simp only at i1 i2 i3 i4
  have hil := (List.getElem?_eq_some_iff.1 hy).1
  have hil' : i < o.length := by simpa [intsT] using hil
  have hok : o[i]? = some (o[i]'hil') := List.getElem?_eq_getElem hil'
  have hk := ho _ (List.mem_of_getElem? hok)
  generalize o[i]'hil' = k at hok hk
  have hyk : y = (k : Int) := by
   have : (intsT o)[i]? = some (k : Int) := by unfold intsT; rw [List.getElem?_map,hok]; rfl
   rw [hy] at this
   exact Option.some.inj this
  subst hyk
  have hgp : L[i]? = some (L[i]'(by omega)) := List.getElem?_eq_getElem (by omega)
  have hrow := hL _ (List.mem_of_getElem? hgp)
  generalize L[i]'(by omega) = row at hgp hrow
  have hgc : row[k]? = some (row[k]'(by omega)) := List.getElem?_eq_getElem (by omega)
  have hc := hrow.2 _ (List.mem_of_getElem? hgc)
  generalize row[k]'(by omega) = c at hgc hc
  have hgg : g[k]? = some (g[k]'(by omega)) := List.getElem?_eq_getElem (by omega)
  have hv := i2 _ (List.mem_of_getElem? hgg)
  generalize g[k]'(by omega) = v at hgg hv
  have hMT : MT L i k = c := by
   unfold MT
   rw [hgp]
   simp only [Option.bind_some,hgc,Option.getD_some]
  have hwv : wr (v + 1) = v + 1 := wr64 (by omega) (by omega)
  have hwt : wr (tot + c) = tot + c := wr64 (by omega) (by omega)
  have hgs : (g.set k (v + 1))[k]? = some (v + 1) := by rw [List.getElem?_set,if_pos rfl,if_pos (by omega)]
  constructor
  ·simp only [dltLen hy,cond_true,ixNat hy,ixNat hgp,Option.bind_some,ixNat hgc,ixNat hgg,hwv,Int.toNat_natCast,ixNat hgs,hwt,wrLen hso hy,stepF,hgg,Option.getD_some,hMT]
   cases decide (most < v + 1) <;> rfl
  ·intro g' he
   simp only [stepF,Int.toNat_natCast,hgg,Option.getD_some,hMT] at he
   cases hd : decide (most < v + 1) with
   | true => rw [hd] at he; cases he
   | false =>
    rw [hd] at he
    cases he
    refine ⟨by simp [i1],fun u hu => ?_,by show 0 ≤ tot + c; omega,by show tot + c ≤ _; omega⟩
    rcases List.mem_or_eq_of_mem_set hu with hu | rfl
    ·have := i2 u hu; omega
    ·omega
 ·rintro ⟨g,tot⟩ _
  simp
end Go.Proofs.YtodkhgjhodmeoaaGreat
