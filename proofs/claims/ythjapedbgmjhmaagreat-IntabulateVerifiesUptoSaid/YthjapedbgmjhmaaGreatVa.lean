/-
 Verify,Left and Lost of chapter 8: losses,twins,places,notes. Plain law.
 Own work. No Go text.
-/
import Derived.Test.YthjapedbgmjhmaaGreatNr
import Derived.Test.YthjapedbgmjhmaaGreatQa
set_option linter.all false
namespace Go.Proofs.YthjapedbgmjhmaaGreat
open Go Go.Am
theorem idxF_find {α : Type} (p : α → Bool) (l : List α) : (∃ (i : Nat) (x : α),idxF p l = (i : Int) ∧ l[i]? = some x ∧ l.find? p = some x ∧ p x = true) ∨ (idxF p l = -1 ∧ l.find? p = none) := by
 unfold idxF
 cases h : l.findIdx? p with
 | none =>
  rw [List.findIdx?_eq_none_iff] at h
  exact .inr ⟨rfl,List.find?_eq_none.2 fun x hx => by simp [h x hx]⟩
 | some i =>
  obtain ⟨hlt,hp,hj⟩ := List.findIdx?_eq_some_iff_getElem.1 h
  exact .inl ⟨i,l[i],rfl,List.getElem?_eq_getElem hlt,List.find?_eq_some_iff_getElem.2 ⟨hp,i,hlt,rfl,fun j hji => by simpa using hj j hji⟩,hp⟩
theorem idxF_congr {α : Type} {p q : α → Bool} : ∀ {l : List α},(∀ x ∈ l,p x = q x) → idxF p l = idxF q l := by
 intro l h
 have : l.findIdx? p = l.findIdx? q := by
  induction l with
  | nil => rfl
  | cons y r ih => rw [List.findIdx?_cons,List.findIdx?_cons,h y (List.mem_cons_self ..),ih fun x hx => h x (List.mem_cons_of_mem _ hx)]
 unfold idxF
 rw [this]
theorem small_range {n : Nat} (h : n ≤ 4194304) : Small (List.range n) := by simp only [Small,List.length_range]; omega
theorem get_range {n i y : Nat} (h : (List.range n)[i]? = some y) : y = i ∧ i < n := by
 obtain ⟨h1,h2⟩ := List.getElem?_eq_some_iff.1 h
 rw [List.length_range] at h1
 rw [List.getElem_range] at h2
 exact ⟨h2.symm,h1⟩
def lossP (i k c : Int) (x : GLoss) : Bool := decide (x.part = i) && (decide (x.tone = k) && decide (x.kind = c))
def lossR (L : List GLoss) (i k c : Int) : GLoss × Bool := match L.find? (lossP i k c) with
 | some x => (x,true)
 | none => (⟨0,0,0,0⟩,false)
theorem f69_eq (x : GLoss) (m : GNMember) (c : Int) : f69 x m c = some (lossP m.part m.tone c x) := by
 unfold f69 lossP
 cases decide (x.part = m.part) <;> cases decide (x.tone = m.tone) <;> rfl
theorem f68_eq (L : List GLoss) (m : GNMember) (c : Int) (hs : Small L) : f68 L m c = some (idxF (lossP m.part m.tone c) L) := by
 unfold f68
 rw [loop_find L (lossP m.part m.tone c) (fun i _ => (i : Int)) hs]
 ·simp only [Option.bind_some,findS_idx,idxF]
  cases L.findIdx? _ <;> simp
 ·intro i y hy
  simp only [dltLen hy,cond_true,ixNat hy,Option.bind_some,f69_eq]
  cases lossP m.part m.tone c y <;> rfl
 ·simp
theorem f33_eq (a : GNAudit) (m : GNMember) (c : Int) (hs : Small a.s.losses) : f33 a m c = some (lossR a.s.losses m.part m.tone c) := by
 unfold f33 lossR
 rw [f68_eq _ _ _ hs]
 rcases idxF_find (lossP m.part m.tone c) a.s.losses with ⟨i,x,h1,h2,h3,_⟩ | ⟨h1,h3⟩
 ·rw [h1,h3]
  have : decide ((i : Int) < 0) = false := decide_eq_false (by omega)
  simp only [Option.bind_some,this,cond_false,ixNat h2]
 ·rw [h1,h3]
  rfl
theorem f33_at (P : List (List GTone)) (s : GSetting) (N : List GNote) (B : List Bool) (m : GNMember) (c : Int) (hs : Small s.losses) : f33 ⟨P,s,N,B⟩ m c = some (lossR s.losses m.part m.tone c) := f33_eq _ _ _ hs
theorem f33_1_at (P : List (List GTone)) (s : GSetting) (N : List GNote) (B : List Bool) (m : GNMember) (c : Int) (hs : Small s.losses) : f33_1 ⟨P,s,N,B⟩ m c = some (lossR s.losses m.part m.tone c) := f33_eq ⟨P,s,N,B⟩ _ _ hs
theorem f28_eq (s : GSetting) (i k c : Int) (hs : Small s.losses) : f28 s i k c = some (lossR s.losses i k c) := by
 unfold f28 lossR
 rw [loop_find s.losses (lossP i k c) (fun _ y => (y,true)) hs]
 ·rw [findS_find (fun y => (y,true))]
  cases s.losses.find? (lossP i k c) <;> rfl
 ·intro j y hy
  simp only [dltLen hy,cond_true,ixNat hy,Option.bind_some,lossP]
  cases decide (y.part = i) <;> cases decide (y.tone = k) <;> cases decide (y.kind = c) <;> rfl
 ·simp
def lessS (a b : GLoss) : Bool := if a.part ≠ b.part then decide (a.part < b.part) else if a.tone ≠ b.tone then decide (a.tone < b.tone) else decide (a.kind < b.kind)
theorem f64_eq (a b : GLoss) : f64 a b = some (lessS a b) := by
 unfold f64 lessS
 by_cases h1 : a.part ≠ b.part
 ·simp [h1]
 ·by_cases h2 : a.tone ≠ b.tone
  ·simp [h1,h2]
  ·simp [h1,h2]
def cmpS (a b : Int) : Int := if a < b then -1 else if b < a then 1 else 0
theorem f89_eq (a b : Int) : f89 a b = some (cmpS a b) := by
 unfold f89 f138 cmpS
 by_cases h1 : a < b
 ·simp [h1]
 ·by_cases h2 : b < a
  ·simp [h1,h2]
  ·simp [h1,h2]
theorem f88_three (a b c : Int) : f88 [a,b,c] = some (if a ≠ 0 then a else if b ≠ 0 then b else c) := by
 unfold f88
 rw [loop_find [a,b,c] (fun y => decide (y ≠ 0)) (fun _ y => y) (by simp [Small])]
 ·simp only [Option.bind_some,findS]
  by_cases h1 : a = 0 <;> by_cases h2 : b = 0 <;> by_cases h3 : c = 0 <;> simp [h1,h2,h3]
 ·intro i y hy
  simp only [dltLen hy,cond_true,ixNat hy,Option.bind_some]
  cases decide (y ≠ 0) <;> rfl
 ·simp
theorem f48_eq (a b : GLoss) : ∃ c,f48 a b = some c ∧ decide (0 ≤ c) = !(lessS a b) := by
 refine ⟨if cmpS a.part b.part ≠ 0 then cmpS a.part b.part else if cmpS a.tone b.tone ≠ 0 then cmpS a.tone b.tone else cmpS a.kind b.kind,by unfold f48; simp only [f89_eq,Option.bind_some,f88_three],?_⟩
 unfold lessS cmpS
 rcases Int.lt_trichotomy a.part b.part with h | h | h
 ·have : a.part ≠ b.part := by omega
  simp [h,this]
 ·simp only [h,Int.lt_irrefl,if_false,ne_eq,not_true_eq_false]
  rcases Int.lt_trichotomy a.tone b.tone with h | h | h
  ·have : a.tone ≠ b.tone := by omega
   simp [h,this]
  ·simp only [h,Int.lt_irrefl,if_false,ne_eq,not_true_eq_false]
   rcases Int.lt_trichotomy a.kind b.kind with h | h | h
   ·simp [h]
   ·simp [h]
   ·have : ¬ a.kind < b.kind := by omega
    simp [h,this]
  ·have h1 : a.tone ≠ b.tone := by omega
   have h2 : ¬ a.tone < b.tone := by omega
   simp [h,h1,h2]
 ·have h1 : a.part ≠ b.part := by omega
  have h2 : ¬ a.part < b.part := by omega
  simp [h,h1,h2]
def badL (P : List (List GTone)) (L : List GLoss) (j : Nat) : Bool := match L[j]? with
 | none => false
 | some x => (decide (x.part < 0) || decide ((P.length : Int) ≤ x.part)) || ((decide (x.tone < 0) || decide ((((P[x.part.toNat]?).getD []).length : Int) ≤ x.tone)) || ((decide (x.kind < 1) || decide (3 < x.kind)) || (decide (0 < j) && !(((L[j - 1]?).map fun y => lessS y x).getD true))))
def listedS (P : List (List GTone)) (L : List GLoss) : Bool := !((List.range L.length).any (badL P L))
theorem notIn (x : Int) (n : Nat) (hn : n ≤ 1048576) : (!(inR x 0 (wr ((n : Int) - 1)))) = (decide (x < 0) || decide ((n : Int) ≤ x)) := by
 rw [wr64 (by omega) (by omega)]
 unfold inR
 by_cases h1 : x < 0
 ·have : ¬ (0 : Int) ≤ x := by omega
  simp [h1,this]
 ·have h2 : (0 : Int) ≤ x := by omega
  by_cases h3 : (n : Int) ≤ x
  ·have : ¬ x ≤ (n : Int) - 1 := by omega
   simp [h2,h3,this]
  ·have : x ≤ (n : Int) - 1 := by omega
   simp [h1,h2,h3,this]
theorem notIn3 (x : Int) : (!(inR x 1 3)) = (decide (x < 1) || decide (3 < x)) := by
 unfold inR
 by_cases h1 : x < 1
 ·have : ¬ (1 : Int) ≤ x := by omega
  simp [h1,this]
 ·have h2 : (1 : Int) ≤ x := by omega
  by_cases h3 : 3 < x
  ·have : ¬ x ≤ (3 : Int) := by omega
   simp [h2,h3,this]
  ·have : x ≤ (3 : Int) := by omega
   simp [h1,h2,h3,this]
theorem ixAtI {α : Type} {l : List α} {i : Int} (h0 : 0 ≤ i) (h1 : i < (l.length : Int)) : ∃ y,ix l i = some y ∧ l[i.toNat]? = some y := by
 have h : l[i.toNat]? = some (l[i.toNat]'(by omega)) := List.getElem?_eq_getElem (by omega)
 have e : i = ((i.toNat : Nat) : Int) := by omega
 have h2 := ixNat h
 rw [← e] at h2
 exact ⟨_,h2,h⟩
theorem f21_eq (a : GNAudit) (hp : a.parts.length ≤ 1048576 ∧ ∀ q ∈ a.parts,q.length ≤ 1048576) (hs : Small a.s.losses) : f21 a = some (listedS a.parts a.s.losses) := by
 unfold f21
 rw [loop_find (List.range a.s.losses.length) (badL a.parts a.s.losses) (fun _ _ => false) (small_range (by simp only [Small] at hs; omega))]
 ·rw [findS_any]
  unfold listedS
  cases (List.range a.s.losses.length).any _ <;> rfl
 ·intro i y hy
  obtain ⟨rfl,hi⟩ := get_range hy
  have hg : a.s.losses[y]? = some a.s.losses[y] := List.getElem?_eq_getElem hi
  have hb : badL a.parts a.s.losses y = ((decide (a.s.losses[y].part < 0) || decide ((a.parts.length : Int) ≤ a.s.losses[y].part)) || ((decide (a.s.losses[y].tone < 0) || decide ((((a.parts[a.s.losses[y].part.toNat]?).getD []).length : Int) ≤ a.s.losses[y].tone)) || ((decide (a.s.losses[y].kind < 1) || decide (3 < a.s.losses[y].kind)) || (decide (0 < y) && !(((a.s.losses[y - 1]?).map fun z => lessS z a.s.losses[y]).getD true))))) := by
   unfold badL; rw [hg]
  rw [hb]
  generalize a.s.losses[y] = x at hg
  simp only [dltLen hg,cond_true,ixNat hg,Option.bind_some,f19_eq,notIn x.part a.parts.length hp.1]
  cases h1 : (decide (x.part < 0) || decide ((a.parts.length : Int) ≤ x.part)) with
  | true => rfl
  | false =>
   simp only [Bool.or_eq_false_iff,decide_eq_false_iff_not] at h1
   obtain ⟨q,hq1,hq2⟩   := ixAtI (l := a.parts) (i := x.part) (by omega) (by omega)
   have hq3 := hp.2 q (List.mem_of_getElem? hq2)
   simp only [cond_false,hq1,Option.bind_some,hq2,Option.getD_some,notIn x.tone q.length hq3,Bool.false_or]
   cases h2 : (decide (x.tone < 0) || decide ((q.length : Int) ≤ x.tone)) with
   | true => rfl
   | false =>
    simp only [cond_false,notIn3,Option.bind_some,Bool.false_or]
    cases h3 : (decide (x.kind < 1) || decide (3 < x.kind)) with
    | true => rfl
    | false =>
     simp only [cond_false,Bool.false_or]
     cases y with
     | zero => rfl
     | succ z =>
      have hz : a.s.losses[z]? = some (a.s.losses[z]'(by omega)) := List.getElem?_eq_getElem (by omega)
      generalize a.s.losses[z]'(by omega) = w at hz
      have d : decide ((0 : Int) < ((z + 1 : Nat) : Int)) = true := decide_eq_true (by omega)
      have d' : decide (0 < z + 1) = true := decide_eq_true (by omega)
      have hw : wr (((z + 1 : Nat) : Int) - 1) = (z : Int) := by simp only [Small] at hs; rw [wr64 (by omega) (by omega)]; omega
      obtain ⟨c,hc1,hc2⟩ := f48_eq w x
      simp only [d,d',cond_true,hw,ixNat hz,Option.bind_some,hc1,hc2,Nat.add_sub_cancel,hz,Option.map_some,Option.getD_some,Bool.true_and]
      cases lessS w x <;> rfl
 ·simp
theorem f21_at (P : List (List GTone)) (s : GSetting) (N : List GNote) (B : List Bool) (hp : P.length ≤ 1048576 ∧ ∀ q ∈ P,q.length ≤ 1048576) (hs : Small s.losses) : f21 ⟨P,s,N,B⟩ = some (listedS P s.losses) := f21_eq _ hp hs
theorem f26_eq (P : List (List GTone)) (s : GSetting) (hp : P.length ≤ 1048576 ∧ ∀ q ∈ P,q.length ≤ 1048576) (hs : Small s.losses) : f26 P s = some (listedS P s.losses) := by
 unfold f26
 rw [loop_find (List.range s.losses.length) (badL P s.losses) (fun _ _ => false) (small_range (by simp only [Small] at hs; omega))]
 ·rw [findS_any]
  unfold listedS
  cases (List.range s.losses.length).any _ <;> rfl
 ·intro i y hy
  obtain ⟨rfl,hi⟩ := get_range hy
  have hg : s.losses[y]? = some s.losses[y] := List.getElem?_eq_getElem hi
  have hb : badL P s.losses y = ((decide (s.losses[y].part < 0) || decide ((P.length : Int) ≤ s.losses[y].part)) || ((decide (s.losses[y].tone < 0) || decide ((((P[s.losses[y].part.toNat]?).getD []).length : Int) ≤ s.losses[y].tone)) || ((decide (s.losses[y].kind < 1) || decide (3 < s.losses[y].kind)) || (decide (0 < y) && !(((s.losses[y - 1]?).map fun z => lessS z s.losses[y]).getD true))))) := by
   unfold badL; rw [hg]
  rw [hb]
  generalize s.losses[y] = x at hg
  simp only [dltLen hg,cond_true,ixNat hg,Option.bind_some]
  cases h1 : decide (x.part < 0) with
  | true => rfl
  | false =>
  cases h1' : decide ((P.length : Int) ≤ x.part) with
  | true => rfl
  | false =>
   simp only [decide_eq_false_iff_not] at h1 h1'
   obtain ⟨q,hq1,hq2⟩   := ixAtI (l := P) (i := x.part) (by omega) (by omega)
   simp only [cond_false,hq2,Option.getD_some,Bool.false_or]
   cases h2 : decide (x.tone < 0) with
   | true => rfl
   | false =>
   simp only [cond_false,hq1,Option.bind_some,Bool.false_or]
   cases h2' : decide ((q.length : Int) ≤ x.tone) with
   | true => rfl
   | false =>
    simp only [cond_false,Bool.false_or]
    cases h3 : decide (x.kind < 1) with
    | true => rfl
    | false =>
    simp only [cond_false,Bool.false_or]
    cases h3' : decide (3 < x.kind) with
    | true => rfl
    | false =>
     simp only [cond_false,Bool.false_or]
     cases y with
     | zero => rfl
     | succ z =>
      have hz : s.losses[z]? = some (s.losses[z]'(by omega)) := List.getElem?_eq_getElem (by omega)
      generalize s.losses[z]'(by omega) = w at hz
      have d : decide ((0 : Int) < ((z + 1 : Nat) : Int)) = true := decide_eq_true (by omega)
      have d' : decide (0 < z + 1) = true := decide_eq_true (by omega)
      have hw : wr (((z + 1 : Nat) : Int) - 1) = (z : Int) := by simp only [Small] at hs; rw [wr64 (by omega) (by omega)]; omega
      simp only [d,d',cond_true,hw,ixNat hz,Option.bind_some,f64_eq,Nat.add_sub_cancel,hz,Option.map_some,Option.getD_some,Bool.true_and]
      cases lessS w x <;> rfl
 ·simp
end Go.Proofs.YthjapedbgmjhmaaGreat
