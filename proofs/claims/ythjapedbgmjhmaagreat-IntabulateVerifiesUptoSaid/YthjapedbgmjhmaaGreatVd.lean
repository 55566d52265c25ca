/-
 IntabulateVerifies: the plain law. Verify,Left and Lost give what the reference gives.
 Own work. No Go text.
-/
import Derived.Test.YthjapedbgmjhmaaGreatVe
set_option linter.all false
namespace Go.Proofs.YthjapedbgmjhmaaGreat
open Go Go.Am
theorem verS_ok {P : List (List GTone)} {s : GSetting} (hL : Small s.losses) (h : verS P s = 0) : Fit P s := by
 unfold verS at h
 by_cases h1 : partsS P ≠ 0
 ·rw [if_pos h1] at h; exact absurd h h1
 rw [if_neg h1] at h
 by_cases h2 : pieceS s.piece ≠ 0
 ·rw [if_pos h2] at h; exact absurd h h2
 rw [if_neg h2] at h
 cases h3 : (!(inR s.shift (-24) 24) || decide ((s.where_.length : Int) ≠ (P.length : Int))) with
 | true => rw [h3] at h; simp at h
 | false =>
 rw [h3] at h
 simp only [if_neg (Bool.false_ne_true)] at h
 cases h4 : rowsS P s with
 | true => rw [h4] at h; simp at h
 | false =>
 simp only [Bool.or_eq_false_iff,decide_eq_false_iff_not,ne_eq,Decidable.not_not] at h3
 exact fit_of (by omega) (by omega) h4 hL
def leftStep (s : GSetting) (i k : Nat) (w : List GTone) (t : GTone) : List GTone :=
 bif (lossR s.losses i k 1).2 then w else w ++ [⟨wr (t.pitch + s.shift),t.from_,bif (lossR s.losses i k 3).2 then (lossR s.losses i k 3).1.time else t.to_⟩]
def leftRow (s : GSetting) (i : Nat) (q : List GTone) : List GTone := foldE (fun k w t => (.inl (leftStep s i k w t) : List GTone ⊕ List GTone)) (fun w => w) 0 q []
def leftS (P : List (List GTone)) (s : GSetting) : List (List GTone) × Nat := foldE (fun i (a : List (List GTone) × Nat) q => (.inl (a.1 ++ [leftRow s i q],a.2 - 1) : (List (List GTone) × Nat) ⊕ (List (List GTone) × Nat))) (fun a => a) 0 P ([],P.length)
theorem leftStep_len (s : GSetting) (i k : Nat) (w : List GTone) (t : GTone) : (leftStep s i k w t).length ≤ w.length + 1 := by
 unfold leftStep
 cases (lossR s.losses i k 1).2 <;> simp
theorem fold_len {A α : Type} (f : Nat → A → α → A) (m : A → Nat) (hf : ∀ k a y,m (f k a y) ≤ m a + 1) : ∀ (l : List α) (k : Nat) (a : A),m (foldE (fun k a y => (.inl (f k a y) : A ⊕ A)) (fun a => a) k l a) ≤ m a + l.length
 | [],_,a => by simp [foldE]
 | y :: r,k,a => by
  simp only [foldE,List.length_cons]
  have := fold_len f m hf r (k + 1) (f k a y)
  have := hf k a y
  omega
theorem leftRow_len (s : GSetting) (i : Nat) (q : List GTone) : (leftRow s i q).length ≤ q.length := by
 have := fold_len (leftStep s i) List.length (leftStep_len s i) q 0 []
 simpa [leftRow] using this
theorem leftS_len (s : GSetting) : ∀ (P : List (List GTone)) (i : Nat) (a : List (List GTone) × Nat),P.length = a.2 →
  (foldE (fun i (a : List (List GTone) × Nat) q => (.inl (a.1 ++ [leftRow s i q],a.2 - 1) : (List (List GTone) × Nat) ⊕ (List (List GTone) × Nat))) (fun a => a) i P a).1.length = a.1.length + P.length ∧
  (foldE (fun i (a : List (List GTone) × Nat) q => (.inl (a.1 ++ [leftRow s i q],a.2 - 1) : (List (List GTone) × Nat) ⊕ (List (List GTone) × Nat))) (fun a => a) i P a).2 = 0
 | [],i,a,h => by simp only [foldE,List.length_nil] at h ⊢; omega
 | q :: r,i,a,h => by
  simp only [foldE,List.length_cons] at h ⊢
  obtain ⟨h1,h2⟩ := leftS_len s r (i + 1) (a.1 ++ [leftRow s i q],a.2 - 1) (by simp only; omega)
  simp only [List.length_append,List.length_cons,List.length_nil] at h1
  exact ⟨by omega,h2⟩
theorem leftS_row (s : GSetting) : ∀ (P : List (List GTone)) (i : Nat) (a : List (List GTone) × Nat),(∀ q ∈ P,q.length ≤ 400) → (∀ q ∈ a.1,q.length ≤ 400) →
  ∀ q ∈ (foldE (fun i (a : List (List GTone) × Nat) q => (.inl (a.1 ++ [leftRow s i q],a.2 - 1) : (List (List GTone) × Nat) ⊕ (List (List GTone) × Nat))) (fun a => a) i P a).1,q.length ≤ 400
 | [],i,a,_,h => h
 | q :: r,i,a,hP,h => by
  simp only [foldE]
  refine leftS_row s r (i + 1) _ (fun x hx => hP x (List.mem_cons_of_mem _ hx)) fun x hx => ?_
  rcases List.mem_append.1 hx with hx | hx
  ·exact h x hx
  ·simp only [List.mem_cons,List.not_mem_nil,or_false] at hx
   subst hx
   have := leftRow_len s i q
   have := hP q (List.mem_cons_self ..)
   omega
def leftR (P : List (List GTone)) (s : GSetting) : List (List GTone) × Int := if verS P s = 0 then ((leftS P s).1,0) else ([],verS P s)
theorem f8_eq (P : List (List GTone)) (s : GSetting) (hsP : Small P) (hp : SmallP s.piece) (hL : Small s.losses) : f8 P s = some (leftR P s) := by
 unfold f8 leftR
 simp only [f6_eq P s hsP hp hL,Option.bind_some]
 by_cases h0 : verS P s = 0
 rotate_left
 ·rw [decide_eq_true h0,if_neg h0]; rfl
 have hf := verS_ok hL h0
 have h6 := hf.l6
 have d0 : decide (verS P s ≠ 0) = false := decide_eq_false (by simpa using h0)
 rw [d0,if_pos h0]
 simp only [cond_false]
 rw [need_one (by omega),need_one (by simp only [maxElems]; omega)]
 simp only [Int.toNat_natCast]
 rw [loop_fold (fun (a : List (List GTone) × Nat) i => ((⟨P,s,[],[]⟩ : GNAudit),a.1,a.2,i)) (fun i a q => .inl (a.1 ++ [leftRow s i q],a.2 - 1)) (fun a => a) P (fun i a => a.1.length = i ∧ a.2 + i = P.length) ([],P.length) (small_fuel hsP) ⟨rfl,rfl⟩]
 ·change Option.bind (some (leftS P s)) _ = _
  obtain ⟨h1,h2⟩ := leftS_len s P 0 ([],P.length) rfl
  change (leftS P s).1.length = _ at h1
  change (leftS P s).2 = 0 at h2
  simp only [List.length_nil,Nat.zero_add] at h1
  simp only [Option.bind_some]
  rw [need_one ⟨h2,h1.symm⟩]
 ·rintro i ⟨a,c⟩ q hq ⟨ha,hc⟩
  simp only at ha hc
  have hi := (List.getElem?_eq_some_iff.1 hq).1
  have h4 := hf.row q (List.mem_of_getElem? hq)
  have hs4 : Small q := by simp only [Small]; omega
  refine ⟨?_,fun a' e => ?_⟩
  ·simp only [dltLen hq,cond_true,ixNat hq,Option.bind_some]
   rw [need_one (by omega)]
   rw [loop_fold (fun (w : List GTone) k => (w,k)) (fun k w t => .inl (leftStep s i k w t)) (fun w => w) q (fun k w => w.length ≤ k) [] (small_fuel hs4) (Nat.le_refl _)]
   ·change Option.bind (some (leftRow s i q)) _ = _
    simp only [Option.bind_some,stepW,wrLen hsP hq]
   ·intro k w t ht hw
    refine ⟨?_,fun w' e => ?_⟩
    ·have hk := (List.getElem?_eq_some_iff.1 ht).1
     simp only [dltLen ht,cond_true,ixNat ht,Option.bind_some,f33_1_at _ _ _ _ _ _ hL,leftStep]
     cases (lossR s.losses i k 1).2 with
     | true => simp only [cond_true,Option.bind_some,stepW,wrLen hs4 ht]
     | false =>
      cases (lossR s.losses i k 3).2 <;> simp only [cond_true,cond_false,Option.bind_some] <;> rw [need_one ⟨by omega,by omega⟩,need_one (by rw [Int.toNat_natCast]; exact ha.symm),need_one (by simp only [maxElems]; omega)] <;> simp only [Option.bind_some,stepW,wrLen hs4 ht]
    ·cases e
     have := leftStep_len s i k w t
     omega
   ·intro w _; simp
  ·cases e
   simp only [List.length_append,List.length_cons,List.length_nil]
   omega
 ·rintro ⟨a,c⟩ _; simp
theorem f9_eq (P : List (List GTone)) (s : GSetting) (hsP : Small P) (hp : SmallP s.piece) (hL : Small s.losses) : f9 P s = some (leftR P s) := by
 unfold f9 leftR
 simp only [f7_eq P s hsP hp hL,Option.bind_some]
 by_cases h0 : verS P s = 0
 rotate_left
 ·rw [decide_eq_true h0,if_neg h0]; rfl
 have hf := verS_ok hL h0
 have h6 := hf.l6
 have d0 : decide (verS P s ≠ 0) = false := decide_eq_false (by simpa using h0)
 rw [d0,if_pos h0]
 simp only [cond_false]
 rw [need_one (by omega),need_one (by simp only [maxElems]; omega)]
 simp only [Int.toNat_natCast]
 rw [loop_fold (fun (a : List (List GTone) × Nat) i => (a.1,a.2,i)) (fun i a q => .inl (a.1 ++ [leftRow s i q],a.2 - 1)) (fun a => a) P (fun i a => a.1.length = i ∧ a.2 + i = P.length) ([],P.length) (small_fuel hsP) ⟨rfl,rfl⟩]
 ·change Option.bind (some (leftS P s)) _ = _
  obtain ⟨h1,h2⟩ := leftS_len s P 0 ([],P.length) rfl
  change (leftS P s).1.length = _ at h1
  change (leftS P s).2 = 0 at h2
  simp only [List.length_nil,Nat.zero_add] at h1
  simp only [Option.bind_some]
  rw [need_one ⟨h2,h1.symm⟩]
 ·rintro i ⟨a,c⟩ q hq ⟨ha,hc⟩
  simp only at ha hc
  have hi := (List.getElem?_eq_some_iff.1 hq).1
  have h4 := hf.row q (List.mem_of_getElem? hq)
  have hs4 : Small q := by simp only [Small]; omega
  refine ⟨?_,fun a' e => ?_⟩
  ·simp only [dltLen hq,cond_true]
   rw [need_one (by omega)]
   rw [loop_fold (fun (w : List GTone) k => (w,k)) (fun k w t => .inl (leftStep s i k w t)) (fun w => w) q (fun k w => w.length ≤ k) [] (small_fuel hs4) (Nat.le_refl _)]
   ·change Option.bind (some (leftRow s i q)) _ = _
    simp only [Option.bind_some,stepW,wrLen hsP hq]
   ·intro k w t ht hw
    refine ⟨?_,fun w' e => ?_⟩
    ·have hk := (List.getElem?_eq_some_iff.1 ht).1
     simp only [ixNat hq,dltLen ht,cond_true,ixNat ht,Option.bind_some,f28_eq _ _ _ _ hL,leftStep]
     cases (lossR s.losses i k 1).2 with
     | true => cases (lossR s.losses i k 3).2 <;> simp only [cond_true,cond_false,Bool.not_true,Option.bind_some,stepW,wrLen hs4 ht]
     | false =>
      cases (lossR s.losses i k 3).2 <;> simp only [cond_true,cond_false,Bool.not_false,Option.bind_some] <;> rw [need_one ⟨by omega,by omega⟩,need_one (by rw [Int.toNat_natCast]; exact ha.symm),need_one (by simp only [maxElems]; omega)] <;> simp only [Option.bind_some,stepW,wrLen hs4 ht]
    ·cases e
     have := leftStep_len s i k w t
     omega
   ·intro w _; simp [ixNat hq]
  ·cases e
   simp only [List.length_append,List.length_cons,List.length_nil]
   omega
 ·rintro ⟨a,c⟩ _; simp
theorem eqT_refl (x : GTone) : eq_GTone x x = true := by simp [eq_GTone]
theorem f34_refl (l : List GTone) (hs : Small l) : f34 l l = some true := by
 unfold f34
 have d : decide ((l.length : Int) ≠ (l.length : Int)) = false := by simp
 rw [d,cond_false,loop_none l hs]
 ·rfl
 ·intro i y hy
  simp only [dltLen hy,cond_true,ixNat hy,Option.bind_some,eqT_refl,Bool.not_true,cond_false]
 ·simp
theorem f10_refl (l : List (List GTone)) (hs : Small l) (hr : ∀ q ∈ l,Small q) : f10 l l = some true := by
 unfold f10
 have d : decide ((l.length : Int) ≠ (l.length : Int)) = false := by simp
 rw [d,cond_false,loop_none l hs]
 ·rfl
 ·intro i y hy
  simp only [dltLen hy,cond_true,ixNat hy,Option.bind_some,f34_refl y (hr y (List.mem_of_getElem? hy)),Bool.not_true,cond_false]
 ·simp
def lostStep (a : Int × Int × Int) (x : GLoss) : Int × Int × Int :=
 bif decide (x.kind = 1) then (wr (a.1 + 1),a.2.1,a.2.2) else bif decide (x.kind = 2) then (a.1,wr (a.2.1 + 1),a.2.2) else bif decide (x.kind = 3) then (a.1,a.2.1,wr (a.2.2 + 1)) else (a.1,a.2.1,a.2.2)
def lostS (L : List GLoss) : Int × Int × Int := L.foldl lostStep (0,0,0)
theorem f11_eq (s : GSetting) (hL : Small s.losses) : f11 s = some (lostS s.losses) := by
 unfold f11
 rw [loop_fold (fun (a : Int × Int × Int) i => (a.1,a.2.1,a.2.2,i)) (fun _ a y => .inl (lostStep a y)) (fun a => a) s.losses (fun _ _ => True) (0,0,0) (small_fuel hL) trivial]
 ·rw [foldE_inl]; rfl
 ·rintro i ⟨a,b,c⟩ y hy _
  refine ⟨?_,fun _ _ => trivial⟩
  simp only [dltLen hy,cond_true,ixNat hy,Option.bind_some,lostStep]
  cases decide (y.kind = 1) <;> cases decide (y.kind = 2) <;> cases decide (y.kind = 3) <;> simp only [cond_true,cond_false,Option.bind_some,stepW,wrLen hL hy]
 ·rintro ⟨a,b,c⟩ _; simp
theorem f12_eq (s : GSetting) (hL : Small s.losses) : f12 s = some (lostS s.losses) := by
 unfold f12
 have e : (List.replicate 4 (0 : Int)) = [0,0,0,0] := rfl
 rw [e,loop_fold (fun (a : Int × Int × Int) i => (([0,a.1,a.2.1,a.2.2] : List Int),i)) (fun _ a y => .inl (lostStep a y)) (fun a => [0,a.1,a.2.1,a.2.2]) s.losses (fun _ _ => True) (0,0,0) (small_fuel hL) trivial]
 ·rw [foldE_inl]
  change Option.bind (some [0,(lostS s.losses).1,(lostS s.losses).2.1,(lostS s.losses).2.2]) _ = _
  obtain ⟨a,b,c⟩ := lostS s.losses
  rfl
 ·rintro i ⟨a,b,c⟩ y hy _
  refine ⟨?_,fun _ _ => trivial⟩
  simp only [dltLen hy,cond_true,ixNat hy,Option.bind_some,lostStep]
  obtain ⟨p,t,k,m⟩ := y
  simp only
  by_cases h1 : k = 1
  ·subst h1
   have e2 : wr ((i : Int) + 1) = ((i + 1 : Nat) : Int) := wrLen hL hy
   change _ = some (Sum.inl (_,((i + 1 : Nat) : Int)))
   rw [← e2]; rfl
  ·by_cases h2 : k = 2
   ·subst h2
    have e2 : wr ((i : Int) + 1) = ((i + 1 : Nat) : Int) := wrLen hL hy
    change _ = some (Sum.inl (_,((i + 1 : Nat) : Int)))
    rw [← e2]; rfl
   ·by_cases h3 : k = 3
    ·subst h3
     have e2 : wr ((i : Int) + 1) = ((i + 1 : Nat) : Int) := wrLen hL hy
     change _ = some (Sum.inl (_,((i + 1 : Nat) : Int)))
     rw [← e2]; rfl
    ·have d1 := decide_eq_false h1
     have d2 := decide_eq_false h2
     have d3 := decide_eq_false h3
     have d4 : ((bif decide (1 ≤ k) then some (decide (k ≤ 3)) else some false) : Option Bool) = some false := by
      by_cases h4 : 1 ≤ k
      ·have : ¬ k ≤ 3 := by omega
       simp [h4,this]
      ·simp [h4]
     simp only [d1,d2,d3,d4,cond_false,Option.bind_some,stepW,wrLen hL hy]
 ·rintro ⟨a,b,c⟩ _; simp
theorem f4_ok (P : List (List GTone)) (hs : Small P) : ∃ b,f4 P = some b := by
 unfold f4
 rw [loop_fold (fun (a : Int) i => (a,i)) (fun _ a q => .inl (wr (a + (q.length : Int)))) (fun a => a) P (fun _ _ => True) 0 (small_fuel hs) trivial]
 ·simp only [Option.bind_some,f13_eq P hs]
  cases decide (foldE (fun _ a q => (.inl (wr (a + ((q : List GTone).length : Int))) : Int ⊕ Int)) (fun a => a) 0 P 0 ≤ 64) <;> exact ⟨_,rfl⟩
 ·intro i a q hq _
  refine ⟨?_,fun _ _ => trivial⟩
  simp only [dltLen hq,cond_true,ixNat hq,Option.bind_some,stepW,wrLen hs hq]
 ·intro a _; simp
theorem f3_eq (P : List (List GTone)) (s : GSetting) (hsP : Small P) (hp : SmallP s.piece) (hL : Small s.losses) : f3 P s = some true := by
 have key : ((f6 P s).bind fun r6 => (f7 P s).bind fun r7 => bif (decide (r6 ≠ r7)) then (some false) else ((f8 P s).bind fun r9 => (f9 P s).bind fun r10 => ((bif (decide (r9.2 ≠ r10.2)) then (some true) else ((f10 r9.1 r10.1).bind fun r12 => some (!r12))) : Option Bool).bind fun (j2_59 : Bool) => bif j2_59 then (some false) else ((f11 s).bind fun r14 => (f12 s).bind fun r15 => ((bif (decide (r14.1 = r15.1)) then (bif (decide (r14.2.1 = r15.2.1)) then (bif (decide (r14.2.2 = r15.2.2)) then ((f5).bind fun r19 => some r19) else (some false)) else (some false)) else (some false)) : Option Bool).bind fun (j3_4 : Bool) => some j3_4))) = some true := by
  have d1 : decide (verS P s ≠ verS P s) = false := by simp
  have d2 : decide ((leftR P s).2 ≠ (leftR P s).2) = false := by simp
  have hl : f10 (leftR P s).1 (leftR P s).1 = some true := by
   unfold leftR
   by_cases h0 : verS P s = 0
   ·rw [if_pos h0]
    have hf := verS_ok hL h0
    have h1 := (leftS_len s P 0 ([],P.length) rfl).1
    have h2 := leftS_row s P 0 ([],P.length) hf.row (fun q hq => by cases hq)
    refine f10_refl _ ?_ fun q hq => ?_
    ·change (leftS P s).1.length = _ at h1
     have := hf.l6
     simp only [List.length_nil] at h1
     simp only [Small]; omega
    ·have := h2 q hq
     simp only [Small]; omega
   ·rw [if_neg h0]
    exact f10_refl _ (by simp [Small]) fun q hq => by cases hq
  simp only [f6_eq P s hsP hp hL,f7_eq P s hsP hp hL,f8_eq P s hsP hp hL,f9_eq P s hsP hp hL,f11_eq s hL,f12_eq s hL,Option.bind_some,d1,d2,cond_false,hl,Bool.not_true,decide_true,cond_true]
  rfl
 unfold f3
 rw [key]
 obtain ⟨b,hb⟩ := f4_ok P hsP
 rw [hb]
 simp only [Option.bind_some]
 cases b with
 | false => rfl
 | true =>
  cases decide (400 < (s.losses.length : Int)) with
  | true => rfl
  | false => cases decide (400 < (s.piece.events.length : Int)) <;> rfl
end Go.Proofs.YthjapedbgmjhmaaGreat
