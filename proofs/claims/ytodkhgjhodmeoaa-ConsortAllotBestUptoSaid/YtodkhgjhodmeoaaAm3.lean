/-
 Plain laws of the allotment,part 2: the statement.
 Own work. No Go text.
-/
import Derived.Test.YtodkhgjhodmeoaaAl
set_option linter.all false
set_option maxRecDepth 20000
namespace Go.Proofs.Ytodkhgjhodmeoaa
open Go Go.Am
theorem missP_bound (a : GInstrument) (s : Int) : ∀ (p : List GTone) (n : Int),0 ≤ n → n + p.length ≤ 1000 → 0 ≤ missP a s n p ∧ missP a s n p ≤ n + p.length
 | [],n,h0,h1 => by simp [missP]; omega
 | t :: p,n,h0,h1 => by
  simp only [List.length_cons] at h1
  have hw : wr (n + 1) = n + 1 := wr64 (by omega) (by omega)
  have e : missP a s n (t :: p) = missP a s (bif badS a (wr (t.pitch + s)) then wr (n + 1) else n) p := rfl
  rw [e,hw]
  cases badS a (wr (t.pitch + s)) with
  | true =>
   have := missP_bound a s p (n + 1) (by omega) (by omega)
   simp only [cond_true,List.length_cons]; omega
  | false =>
   have := missP_bound a s p n h0 (by omega)
   simp only [cond_false,List.length_cons]; omega
def cellM (p : List GTone) (a : GInstrument) : Int := missS [p] a 0
def tableM (a0 : List (List GTone)) (a1 : List GInstrument) : List (List Int) := a0.map fun p => a1.map (cellM p)
theorem parts_one {l : List (List GTone)} (h : partsS l = 0) {p : List GTone} (hp : p ∈ l) : partsS [p] = 0 := by
 unfold partsS at h ⊢
 split at h
 ·cases h
 ·rename_i hm
  split at h
  ·rename_i ha
   have hm2 : manyS [p] = false := by
    unfold manyS at hm ⊢
    simp only [Bool.or_eq_true,not_or,Bool.not_eq_true,decide_eq_false_iff_not,List.any_eq_false] at hm
    have := hm.2 p hp
    simp only [List.length_cons,List.length_nil,List.any_cons,List.any_nil,Bool.or_false,Bool.or_eq_false_iff]
    exact ⟨decide_eq_false (by omega),by simpa using this⟩
   have ha2 : [p].all (okT 0) = true := by
    simp only [List.all_cons,List.all_nil,Bool.and_true]
    exact List.all_eq_true.1 ha p hp
   rw [if_neg (by rw [hm2]; simp),if_pos ha2]
  ·cases h
theorem miss_one {l : List (List GTone)} (h : partsS l = 0) {p : List GTone} (hp : p ∈ l) {a : GInstrument} (ha : instS a = 0) : f18 [p] a 0 = some (cellM p a,0) ∧ 0 ≤ cellM p a ∧ cellM p a ≤ 400 := by
 have h1 := parts_one h hp
 have hsmall := (partsS_small h).2 p hp
 have hset : setupS [p] a = 0 := by unfold setupS; rw [if_pos h1]; exact ha
 refine ⟨?_,?_⟩
 ·rw [f18_eq [p] a 0 (by simp [Small])]
  unfold missingR
  rw [if_pos hset]
  rfl
 ·have := missP_bound a 0 p 0 (by omega) (by omega)
  have e : cellM p a = missP a 0 0 p := rfl
  rw [e]; omega
theorem one_part (a0 : List (List GTone)) (i : Nat) (p : List GTone) (h : a0[i]? = some p) : (a0.take (i + 1)).drop i = [p] := by
 have hl := (List.getElem?_eq_some_iff.1 h).1
 rw [take_snoc h,List.drop_append]
 have : (a0.take i).length = i := by rw [List.length_take]; omega
 rw [this,List.drop_eq_nil_of_le (by omega)]
 simp
theorem table_get {a0 : List (List GTone)} {a1 : List GInstrument} {i : Nat} {p : List GTone} (h : a0[i]? = some p) : (tableM a0 a1)[i]? = some (a1.map (cellM p)) := by
 unfold tableM; rw [List.getElem?_map,h]; rfl
theorem table_ok {a0 : List (List GTone)} {a1 : List GInstrument} (h : partsS a0 = 0) (h1 : ∀ a ∈ a1,instS a = 0) : ∀ row ∈ tableM a0 a1,row.length = a1.length ∧ ∀ v ∈ row,0 ≤ v ∧ v ≤ 1000 := by
 intro row hr
 obtain ⟨p,hp,rfl⟩ := List.mem_map.1 hr
 refine ⟨by simp,fun v hv => ?_⟩
 obtain ⟨a,ha,rfl⟩ := List.mem_map.1 hv
 have := (miss_one h hp (h1 a ha)).2
 omega
theorem f6_eq (a0 : List (List GTone)) (a1 : List GInstrument) (most : Int) (hs : Small a0) (h1 : 0 < a1.length) (h4 : a1.length ≤ 4) (hm : 0 ≤ most ∧ most ≤ 1000) :
  ∃ r,f6 a0 a1 most = some r ∧ (r.2.2 ≠ 0 ∨ (partsS a0 = 0 ∧ (∀ a ∈ a1,instS a = 0) ∧ 1 ≤ most ∧ most ≤ 6 ∧ ∃ t,r = (intsT t,costT (tableM a0 a1) t,0) ∧ t.length = a0.length ∧ fitsT (List.replicate a1.length most) t ∧ ∀ t',t'.length = a0.length → fitsT (List.replicate a1.length most) t' → costT (tableM a0 a1) t ≤ costT (tableM a0 a1) t')) := by
 have hs1 : Small a1 := by simp only [Small]; omega
 unfold f6
 rw [f15_eq a0 hs]
 simp only [Option.bind_some]
 by_cases hp : partsS a0 = 0
 ·have d0 : decide (partsS a0 ≠ 0) = false := by simpa using hp
  have d1 : decide ((a1.length : Int) = 0) = false := decide_eq_false (by omega)
  have d2 : decide (6 < (a1.length : Int)) = false := decide_eq_false (by omega)
  simp only [d0,d1,d2,cond_false]
  rw [loop_find (τ := (List Int) × Int × Int) a1 (fun a => decide (instS a ≠ 0)) (fun _ a => (([] : List Int),0,instS a)) hs1 (by
   intro i y hy
   simp only [dltLen hy,cond_true,ixNat hy,Option.bind_some,f16_eq]
   cases decide (instS y ≠ 0) <;> rfl) (by simp)]
  rw [findS_find]
  simp only [Option.bind_some]
  cases hf : a1.find? (fun a => decide (instS a ≠ 0)) with
  | some y =>
   have := List.find?_some hf
   simp only [decide_eq_true_eq] at this
   exact ⟨_,rfl,.inl this⟩
  | none =>
   have hin : ∀ a ∈ a1,instS a = 0 := fun a ha => by
    have := List.find?_eq_none.1 hf a ha
    simpa using this
   have e17 : f17 most 1 6 = some (decide (1 ≤ most) && decide (most ≤ 6)) := by unfold f17; cases decide (1 ≤ most) <;> rfl
   simp only [Sum.elim_inl,e17,Option.bind_some]
   cases hw : (decide (1 ≤ most) && decide (most ≤ 6)) with
   | false => exact ⟨_,rfl,.inl (by decide)⟩
   | true =>
    simp only [Bool.and_eq_true,decide_eq_true_eq] at hw
    have hmul : most * (a1.length : Int) ≤ 24 ∧ 0 ≤ most * (a1.length : Int) := by
     have h3 : most * (a1.length : Int) ≤ 6 * 4 := Int.mul_le_mul hw.2 (by omega) (by omega) (by omega)
     have h5 : 0 ≤ most * (a1.length : Int) := Int.mul_nonneg (by omega) (by omega)
     omega
    have hwm : wr (most * (a1.length : Int)) = most * (a1.length : Int) := wr64 (by omega) (by omega)
    simp only [Bool.not_true,cond_false,hwm]
    by_cases hlt : most * (a1.length : Int) < (a0.length : Int)
    ·have d3 : decide (most * (a1.length : Int) < (a0.length : Int)) = true := decide_eq_true hlt
     rw [d3]; exact ⟨_,rfl,.inl (by decide)⟩
    ·have d3 : decide (most * (a1.length : Int) < (a0.length : Int)) = false := decide_eq_false hlt
     have hps := partsS_small hp
     have n1 : (0 : Int) ≤ (a0.length : Int) := by omega
     have n2 : (a0.length : Int) ≤ (maxElems : Int) := by have : maxElems = 4294967296 := rfl; omega
     simp only [d3,cond_false,need,if_pos n1,if_pos n2]
     have hLl : (tableM a0 a1).length = a0.length := by simp [tableM]
     rw [loop_all (fun k => (tableM a0 a1).take k) a0.length (by omega) (by simp) (r := .inl (tableM a0 a1))]
     ·simp only [Option.bind_some,Sum.elim_inl]
      obtain ⟨t,g1,g2,g3,g4⟩ := allot_eq a1.length h1 (by omega) (tableM a0 a1) (table_ok hp hin) (by rw [hLl]; omega) most hw.1 hw.2 (by rw [hLl]; omega)
      rw [g1]
      rw [hLl] at g2 g4
      exact ⟨_,rfl,.inr ⟨hp,hin,hw.1,hw.2,t,rfl,g2,g3,g4⟩⟩
     ·intro k hk
      have hg : a0[k]? = some (a0[k]'hk) := List.getElem?_eq_getElem hk
      have hpm := List.mem_of_getElem? hg
      generalize a0[k]'hk = p at hg hpm
      have hlk : (((tableM a0 a1).take k).length : Int) = (k : Int) := by rw [List.length_take,hLl]; omega
      simp only [hlk,dltLen hg,cond_true,ixNat hg,Option.bind_some]
      rw [loop_all (fun j => ((a1.map (cellM p)).take j,(j : Int))) a1.length (by omega) (by simp) (r := .inl (a1.map (cellM p)))]
      ·simp only [Option.bind_some,Sum.elim_inl]
       rw [take_snoc (table_get hg)]
      ·intro j hj
       have hgj : a1[j]? = some (a1[j]'hj) := List.getElem?_eq_getElem hj
       have ham := List.mem_of_getElem? hgj
       generalize a1[j]'hj = a at hgj ham
       have hm1 : ((a1.map (cellM p)).take j).length + 1 ≤ maxElems := by rw [List.length_take,List.length_map]; unfold maxElems; omega
       have hc : (a1.map (cellM p))[j]? = some (cellM p a) := by rw [List.getElem?_map,hgj]; rfl
       have dz : decide ((0 : Int) ≠ 0) = false := rfl
       simp only [dltLen hgj,cond_true,ixNat hgj,Option.bind_some,(miss_one hp hpm (hin a ham)).1,dz,cond_false,need,if_pos hm1,wrLen hs1 hgj,take_snoc hc]
      ·have : (a1.map (cellM p)).take a1.length = a1.map (cellM p) := by rw [List.take_of_length_le]; simp
       simp [this]
     ·have h5 : (tableM a0 a1).take a0.length = tableM a0 a1 := by rw [List.take_of_length_le]; omega
      have h6 : decide (((tableM a0 a1).length : Int) < (a0.length : Int)) = false := decide_eq_false (by omega)
      have h7 : ((tableM a0 a1).length : Int) = (a0.length : Int) := by omega
      simp only [h5,h6,cond_false,need,if_pos h7]
 ·have d0 : decide (partsS a0 ≠ 0) = true := by simpa using hp
  rw [d0]
  exact ⟨_,rfl,.inl hp⟩
def stepF (most : Int) (M : Nat → Nat → Int) (i : Nat) (g : List Int × Int) (y : Int) : (List Int × Int) ⊕ (Int ⊕ (Int × Bool)) :=
 bif decide (most < (g.1[y.toNat]?).getD 0 + 1) then .inr (.inr (0,false)) else .inl (g.1.set y.toNat ((g.1[y.toNat]?).getD 0 + 1),g.2 + M i y.toNat)
def MT (L : List (List Int)) (i k : Nat) : Int := ((L[i]?).bind (·[k]?)).getD 0
theorem costT_drop (L : List (List Int)) (i k : Nat) (t : List Nat) (h : i < L.length) : costT (L.drop i) (k :: t) = MT L i k + costT (L.drop (i + 1)) t := by
 rw [List.drop_eq_getElem_cons h]
 simp only [costT,MT,List.getElem?_eq_getElem h,Option.bind_some]
theorem fold_sum (most : Int) (L : List (List Int)) (I : Nat) : ∀ (o : List Nat) (i : Nat) (g : List Int) (tot : Int),i + o.length ≤ L.length → g.length = I → (∀ k ∈ o,k < I) →
  ∃ r,foldE (stepF most (MT L)) (fun s => (.inl s.2 : Int ⊕ (Int × Bool))) i (intsT o) (g,tot) = r ∧ ((fitsT (g.map (most - ·)) o ∧ r = .inl (tot + costT (L.drop i) o)) ∨ (¬ fitsT (g.map (most - ·)) o ∧ r = .inr (0,false)))
 | [],i,g,tot,_,_,_ => ⟨_,rfl,.inl ⟨trivial,by cases L.drop i <;> simp [intsT,foldE,costT]⟩⟩
 | k :: t,i,g,tot,hl,hg,ho => by
  simp only [List.length_cons] at hl
  have hkI := ho k (by simp)
  have hgk : g[k]? = some (g[k]'(by omega)) := List.getElem?_eq_getElem (by omega)
  generalize g[k]'(by omega) = v at hgk
  have hR : ((g.map (most - ·))[k]?).getD 0 = most - v := by rw [List.getElem?_map,hgk]; rfl
  have hset : (g.map (most - ·)).set k (most - v - 1) = (g.set k (v + 1)).map (most - ·) := by
   rw [List.map_set]
   congr 1
   omega
  simp only [intsT,List.map_cons,foldE,stepF,Int.toNat_natCast,hgk,Option.getD_some]
  by_cases hx : most < v + 1
  ·have hd : decide (most < v + 1) = true := decide_eq_true hx
   rw [hd]
   exact ⟨_,rfl,.inr ⟨fun hf => by have := hf.1; rw [hR] at this; omega,rfl⟩⟩
  ·have hd : decide (most < v + 1) = false := decide_eq_false hx
   rw [hd]
   simp only [cond_false]
   obtain ⟨r,h1,h2⟩ := fold_sum most L I t (i + 1) (g.set k (v + 1)) (tot + MT L i k) (by omega) (by simp [hg]) (fun q hq => ho q (List.mem_cons_of_mem _ hq))
   refine ⟨r,h1,?_⟩
   have hf : fitsT (g.map (most - ·)) (k :: t) ↔ fitsT ((g.set k (v + 1)).map (most - ·)) t := by
    simp only [fitsT,hR,hset]
    constructor
    ·exact fun h => h.2
    ·exact fun h => ⟨by omega,h⟩
   rw [hf,costT_drop L i k t (by omega)]
   rcases h2 with ⟨a1,a2⟩ | ⟨a1,a2⟩
   ·exact .inl ⟨a1,by rw [a2]; congr 1; omega⟩
   ·exact .inr ⟨a1,a2⟩
theorem f7_eq (a0 : List (List GTone)) (a1 : List GInstrument) (most : Int) (hp : partsS a0 = 0) (hin : ∀ a ∈ a1,instS a = 0) (h1 : 0 < a1.length) (h4 : a1.length ≤ 4) (o : List Nat) (hol : o.length = a0.length) (ho : ∀ k ∈ o,k < a1.length) :
  ∃ r,f7 a0 a1 (intsT o) most = some r ∧ ((fitsT (List.replicate a1.length most) o ∧ r = (costT (tableM a0 a1) o,true)) ∨ (¬ fitsT (List.replicate a1.length most) o ∧ r = (0,false))) := by
 have hps := partsS_small hp
 have hs1 : Small a1 := by simp only [Small]; omega
 have hso : Small (intsT o) := by simp only [Small,intsT,List.length_map]; omega
 have n1 : (0 : Int) ≤ (a1.length : Int) := by omega
 have n2 : (a1.length : Int) ≤ (maxElems : Int) := by have : maxElems = 4294967296 := rfl; omega
 have hLl : (tableM a0 a1).length = a0.length := by simp [tableM]
 unfold f7
 simp only [need,if_pos n1,if_pos n2,Int.toNat_natCast]
 rw [loop_fold (fun (g : List Int × Int) i => (g.1,g.2,i)) (stepF most (MT (tableM a0 a1))) (fun s => (.inl s.2 : Int ⊕ (Int × Bool))) (intsT o) (fun i g => g.1.length = a1.length ∧ (∀ v ∈ g.1,0 ≤ v ∧ v ≤ (i : Int)) ∧ 0 ≤ g.2 ∧ g.2 ≤ 400 * (i : Int)) (List.replicate a1.length 0,0) (small_fuel hso) ⟨by simp,fun v hv => by rw [(List.mem_replicate.1 hv).2]; exact ⟨Int.le_refl _,Int.le_refl _⟩,Int.le_refl _,by simp⟩]
 ·simp only [Option.bind_some]
  obtain ⟨r,e1,e2⟩ := fold_sum most (tableM a0 a1) a1.length o 0 (List.replicate a1.length 0) 0 (by omega) (by simp) ho
  rw [e1]
  have hrep : (List.replicate a1.length (0 : Int)).map (most - ·) = List.replicate a1.length most := by simp
  rw [hrep] at e2
  rcases e2 with ⟨f1,rfl⟩ | ⟨f1,rfl⟩
  ·exact ⟨_,rfl,.inl ⟨f1,by simp⟩⟩
  ·exact ⟨_,rfl,.inr ⟨f1,rfl⟩⟩
 ·rintro i ⟨g,tot⟩ y hy ⟨i1,i2,i3,i4⟩
  simp only at i1 i2 i3 i4
  have hil := (List.getElem?_eq_some_iff.1 hy).1
  have hil' : i < o.length := by simpa [intsT] using hil
  have hok : o[i]? = some (o[i]'hil') := List.getElem?_eq_getElem hil'
  have hk := ho _ (List.mem_of_getElem? hok)
  generalize o[i]'hil' = k at hok hk
  have hyk : y = (k : Int) := by
   have : (intsT o)[i]? = some (k : Int) := by unfold intsT; rw [List.getElem?_map,hok]; rfl
   rw [hy] at this
   exact Option.some.inj this
  subst hyk
  have hgp : a0[i]? = some (a0[i]'(by omega)) := List.getElem?_eq_getElem (by omega)
  have hpm := List.mem_of_getElem? hgp
  generalize a0[i]'(by omega) = p at hgp hpm
  have hga : a1[k]? = some (a1[k]'hk) := List.getElem?_eq_getElem hk
  have ham := List.mem_of_getElem? hga
  generalize a1[k]'hk = a at hga ham
  have hgg : g[k]? = some (g[k]'(by omega)) := List.getElem?_eq_getElem (by omega)
  have hv := i2 _ (List.mem_of_getElem? hgg)
  generalize g[k]'(by omega) = v at hgg hv
  obtain ⟨m1,m2,m3⟩ := miss_one hp hpm (hin a ham)
  have hMT : MT (tableM a0 a1) i k = cellM p a := by
   unfold MT
   rw [table_get hgp]
   simp only [Option.bind_some,List.getElem?_map,hga,Option.map_some,Option.getD_some]
  have dk : decide ((k : Int) < 0) = false := decide_eq_false (by omega)
  have dk2 : decide ((a1.length : Int) ≤ (k : Int)) = false := decide_eq_false (by omega)
  have q1 : (0 : Int) ≤ (i : Int) := by omega
  have q2 : (0 : Int) ≤ ((i + 1 : Nat) : Int) := by omega
  have q3 : i ≤ i + 1 := by omega
  have q4 : i + 1 ≤ a0.length := by omega
  have dz : decide ((0 : Int) ≠ 0) = false := rfl
  have hwv : wr (v + 1) = v + 1 := wr64 (by omega) (by omega)
  have hwt : wr (tot + cellM p a) = tot + cellM p a := wr64 (by omega) (by omega)
  have hgs : (g.set k (v + 1))[k]? = some (v + 1) := by rw [List.getElem?_set,if_pos rfl,if_pos (by omega)]
  constructor
  ·simp only [dltLen hy,cond_true,ixNat hy,Option.bind_some,dk,dk2,cond_false,wrLen hso hy,need,if_pos q1,if_pos q2,Int.toNat_natCast,if_pos q3,if_pos q4,one_part a0 i p hgp,ixNat hga,m1,ixNat hgg,dz,hwv,ixNat hgs,hwt,stepF,hgg,Option.getD_some,hMT]
   cases decide (most < v + 1) <;> rfl
  ·intro g' he
   simp only [stepF,Int.toNat_natCast,hgg,Option.getD_some,hMT] at he
   cases hd : decide (most < v + 1) with
   | true => rw [hd] at he; cases he
   | false =>
    rw [hd] at he
    cases he
    refine ⟨by simp [i1],fun u hu => ?_,by show 0 ≤ tot + cellM p a; omega,by show tot + cellM p a ≤ _; omega⟩
    rcases List.mem_or_eq_of_mem_set hu with hu | rfl
    ·have := i2 u hu; omega
    ·omega
 ·rintro ⟨g,tot⟩ _
  simp
theorem rest_ok (a n : Int) (h0 : 0 < n) (h1 : n ≤ 1000000) : ∃ r,f8 a n = some r ∧ 0 ≤ r ∧ r < n := by
 have g1 := Int.tmod_lt_of_pos a h0
 have g2 := Int.lt_tmod_of_pos a h0
 have hw : wr (Int.tmod a n + n) = Int.tmod a n + n := wr64 (by omega) (by omega)
 have hn : n ≠ 0 := by omega
 unfold f8
 simp only [need,if_pos hn,hw]
 exact ⟨_,rfl,Int.tmod_nonneg _ (by omega),Int.tmod_lt_of_pos _ h0⟩
theorem f4_some (a0 : List (List GTone)) (hs : Small a0) : ∃ b,f4 a0 = some b := by
 unfold f4
 rw [loop_fold (fun (n : Int) i => (n,i)) (fun _ n (p : List GTone) => (.inl (wr (n + (p.length : Int))) : Int ⊕ Int)) (fun n => n) a0 (fun _ _ => True) 0 (small_fuel hs) trivial]
 ·simp only [Option.bind_some]
  rw [f9_eq a0 hs]
  simp only [Option.bind_some]
  cases decide (foldE (fun _ n (p : List GTone) => (.inl (wr (n + (p.length : Int))) : Int ⊕ Int)) (fun n => n) 0 a0 0 ≤ 64) <;> exact ⟨_,rfl⟩
 ·intro i n p hy _
  exact ⟨by simp only [dltLen hy,cond_true,ixNat hy,Option.bind_some,wrLen hs hy]; rfl,fun _ _ => trivial⟩
 ·intro n _; simp
theorem f3_eq (a0 : List (List GTone)) (a1 : List GInstrument) (a2 : List Int) (hs : Small a0) (hs2 : Small a2) : f3 a0 a1 a2 = some true := by
 suffices h : ∃ r,f3 a0 a1 a2 = some r ∧ r = true by
  obtain ⟨r,h,rfl⟩ := h; exact h
 obtain ⟨b,hb⟩ := f4_some a0 hs
 have hcond : ∃ c,(((f4 a0).bind fun r1 => bif (!r1) then (some true) else (bif (decide ((a1.length : Int) = 0)) then (some true) else (some (decide (4 < (a1.length : Int)))))) : Option Bool) = some c ∧ (c = false → 0 < a1.length ∧ a1.length ≤ 4) := by
  rw [hb]
  simp only [Option.bind_some]
  cases b with
  | false => exact ⟨true,rfl,fun h => by cases h⟩
  | true =>
   simp only [Bool.not_true,cond_false]
   by_cases h0 : (a1.length : Int) = 0
   ·rw [decide_eq_true h0]; exact ⟨true,rfl,fun h => by cases h⟩
   ·rw [decide_eq_false h0]
    refine ⟨_,rfl,fun h => ?_⟩
    have := of_decide_eq_false h
    omega
 obtain ⟨c,hc1,hc2⟩ := hcond
 unfold f3
 rw [hc1]
 simp only [Option.bind_some]
 cases c with
 | true => exact ⟨true,rfl,rfl⟩
 | false =>
  obtain ⟨h1,h4⟩ := hc2 rfl
  have hn0 : (a1.length : Int) ≠ 0 := by omega
  simp only [Small] at hs
  have hdiv0 : 0 ≤ Int.tdiv (a0.length : Int) (a1.length : Int) := Int.tdiv_nonneg (by omega) (by omega)
  have hdiv1 : Int.tdiv (a0.length : Int) (a1.length : Int) ≤ (a0.length : Int) := Int.tdiv_le_self _ (by omega)
  have hw1 : wr (Int.tdiv (a0.length : Int) (a1.length : Int)) = Int.tdiv (a0.length : Int) (a1.length : Int) := wr64 (by omega) (by omega)
  have hw2 : wr (1 + Int.tdiv (a0.length : Int) (a1.length : Int)) = 1 + Int.tdiv (a0.length : Int) (a1.length : Int) := wr64 (by omega) (by omega)
  simp only [cond_false,need,if_pos hn0,hw1,hw2]
  generalize hmo : 1 + Int.tdiv (a0.length : Int) (a1.length : Int) = most
  by_cases hpz : partsS a0 = 0
  ·have hps := partsS_small hpz
   obtain ⟨r,e1,e2⟩ := f6_eq a0 a1 most (by simp only [Small]; omega) h1 h4 (by omega)
   rw [e1]
   simp only [Option.bind_some]
   rcases e2 with he | ⟨hp,hin,g1,g2,t,rfl,g3,g4,g5⟩
   ·rw [decide_eq_true he]; exact ⟨true,rfl,rfl⟩
   ·have dz : decide ((0 : Int) ≠ 0) = false := rfl
    have hlt : decide (((intsT t).length : Int) ≠ (a0.length : Int)) = false := decide_eq_false (by unfold intsT; rw [List.length_map]; omega)
    have htk : ∀ k ∈ t,k < a1.length := by
     have key : ∀ (t : List Nat) (R : List Int),fitsT R t → ∀ k ∈ t,k < R.length := by
      intro t
      induction t with
      | nil => intro R _ k hk; cases hk
      | cons q t ih =>
       intro R hf k hk
       rcases List.mem_cons.1 hk with rfl | hk
       ·have := hf.1
        by_cases hq : k < R.length
        ·exact hq
        ·rw [List.getElem?_eq_none (by omega)] at this; simp at this
       ·have := ih _ hf.2 k hk
        simpa using this
     intro k hk
     simpa using key t _ g4 k hk
    obtain ⟨r7,s1,s2⟩ := f7_eq a0 a1 most hp hin h1 h4 t g3 htk
    have hr7 : r7 = (costT (tableM a0 a1) t,true) := by
     rcases s2 with ⟨_,h⟩ | ⟨h,_⟩
     ·exact h
     ·exact absurd g4 h
    simp only [dz,cond_false,hlt]
    rw [s1,hr7]
    have hne : decide (costT (tableM a0 a1) t ≠ costT (tableM a0 a1) t) = false := by simp
    simp only [Option.bind_some,Bool.not_true,cond_false,hne]
    -- the other way
    have hown : ∃ o : List Nat,(loopN (σ := (List Int × Int)) (τ := (List Int)) (fun ((l3_13,l3_71) : (List Int × Int)) => bif (decide (l3_71 < (a0.length : Int))) then (((bif (decide (0 < (a2.length : Int))) then (if (a2.length : Int) ≠ 0 then (ix a2 (Int.tmod l3_71 (a2.length : Int))).bind fun y17 => some y17 else none) else (some l3_71)) : Option Int).bind fun (j4_15 : Int) => (f8 j4_15 (a1.length : Int)).bind fun r18 => if l3_13.length + 1 ≤ maxElems then some (.inl ((l3_13 ++ [r18]),(wr (l3_71 + 1)))) else none) else (some (.inr l3_13))) FUEL (([] : List Int),0)) = some (intsT o) ∧ o.length = a0.length ∧ ∀ k ∈ o,k < a1.length := by
     obtain ⟨l,k1,o,rfl,k2,k3⟩ := loop_inv (body := fun ((l3_13,l3_71) : (List Int × Int)) => bif (decide (l3_71 < (a0.length : Int))) then (((bif (decide (0 < (a2.length : Int))) then (if (a2.length : Int) ≠ 0 then (ix a2 (Int.tmod l3_71 (a2.length : Int))).bind fun y17 => some y17 else none) else (some l3_71)) : Option Int).bind fun (j4_15 : Int) => (f8 j4_15 (a1.length : Int)).bind fun r18 => if l3_13.length + 1 ≤ maxElems then some (.inl ((l3_13 ++ [r18]),(wr (l3_71 + 1)))) else none) else (some (.inr l3_13)))
      (fun (k : Nat) (st : List Int × Int) => ∃ o : List Nat,st = (intsT o,(k : Int)) ∧ o.length = k ∧ ∀ q ∈ o,q < a1.length)
      (fun (l : List Int) => ∃ o : List Nat,l = intsT o ∧ o.length = a0.length ∧ ∀ q ∈ o,q < a1.length) a0.length
      (by
       rintro k _ hk ⟨o,rfl,o1,o2⟩
       have hd : decide ((k : Int) < (a0.length : Int)) = true := decide_eq_true (by omega)
       have hx : ∃ x,((bif (decide (0 < (a2.length : Int))) then (if (a2.length : Int) ≠ 0 then (ix a2 (Int.tmod (k : Int) (a2.length : Int))).bind fun y17 => some y17 else none) else (some (k : Int))) : Option Int) = some x := by
        by_cases h0 : 0 < (a2.length : Int)
        ·have hne : (a2.length : Int) ≠ 0 := by omega
         have t1 : 0 ≤ Int.tmod (k : Int) (a2.length : Int) := Int.tmod_nonneg _ (by omega)
         have t2 := Int.tmod_lt_of_pos (k : Int) h0
         obtain ⟨q,hq⟩ : ∃ q : Nat,Int.tmod (k : Int) (a2.length : Int) = (q : Int) := ⟨(Int.tmod (k : Int) (a2.length : Int)).toNat,by omega⟩
         have hg : a2[q]? = some (a2[q]'(by omega)) := List.getElem?_eq_getElem (by omega)
         rw [decide_eq_true h0]
         simp only [cond_true,if_pos hne,hq,ixNat hg,Option.bind_some]
         exact ⟨_,rfl⟩
        ·rw [decide_eq_false h0]; exact ⟨_,rfl⟩
       obtain ⟨x,hx⟩ := hx
       obtain ⟨r,r1,r2,r3⟩ := rest_ok x (a1.length : Int) (by omega) (by omega)
       have hm : (intsT o).length + 1 ≤ maxElems := by unfold intsT maxElems; rw [List.length_map]; omega
       simp only [hd,cond_true]
       rw [hx]
       simp only [Option.bind_some,r1,if_pos hm,wrNat (show k ≤ 4194304 by omega)]
       refine ⟨_,rfl,o ++ [r.toNat],?_,by simp [o1],fun q hq => ?_⟩
       ·have : ((r.toNat : Nat) : Int) = r := by omega
        unfold intsT
        rw [List.map_append,List.map_cons,List.map_nil,this]
       ·rcases List.mem_append.1 hq with hq | hq
        ·exact o2 q hq
        ·rw [List.mem_singleton] at hq; omega)
      (by
       rintro _ ⟨o,rfl,o1,o2⟩
       exact ⟨intsT o,by simp,o,rfl,o1,o2⟩) a0.length 0 FUEL ([],0) (by omega) (by unfold FUEL; omega) ⟨[],rfl,rfl,fun q hq => by cases hq⟩
     exact ⟨o,k1,k2,k3⟩
    obtain ⟨o,o1,o2,o3⟩ := hown
    rw [o1]
    simp only [Option.bind_some]
    obtain ⟨r8,u1,u2⟩ := f7_eq a0 a1 most hp hin h1 h4 o o2 o3
    rw [u1]
    simp only [Option.bind_some]
    rcases u2 with ⟨v1,rfl⟩ | ⟨v1,rfl⟩
    ·have hle : decide (costT (tableM a0 a1) t ≤ costT (tableM a0 a1) o) = true := decide_eq_true (g5 o o2 v1)
     simp only [Bool.not_true,cond_false,hle,cond_true]
     exact ⟨true,rfl,rfl⟩
    ·exact ⟨true,rfl,rfl⟩
  ·have h15 := f15_eq a0 hs
   have e1 : f6 a0 a1 most = some (([] : List Int),0,partsS a0) := by
    unfold f6
    rw [h15]
    simp only [Option.bind_some,decide_eq_true hpz,cond_true]
   rw [e1]
   simp only [Option.bind_some,decide_eq_true hpz,cond_true]
   exact ⟨true,rfl,rfl⟩
end Go.Proofs.Ytodkhgjhodmeoaa
