/-
 ConsortDiscords: the plain law. Discords gives the times that the reference gives.
 Own work. No Go text.
-/
import Derived.Test.YtjjendjmakhfaaaGreatDb
set_option linter.all false
namespace Go.Proofs.YtjjendjmakhfaaaGreat
open Go Go.Am
theorem ends_all {l : List GPiece} (h : checkS l = 0) : ∃ E : Int,∀ p ∈ l,endP p = E := by
 unfold checkS at h
 split at h
 ·rename_i h1
  exact absurd h h1
 ·cases l with
  | nil => exact ⟨0,fun p hp => by cases hp⟩
  | cons x r =>
   refine ⟨endP x,fun p hp => ?_⟩
   cases hd : diffS ((x :: r).map endP) with
   | true => rw [hd] at h; cases h
   | false =>
    unfold diffS at hd
    simp only [List.map_cons] at hd
    rw [List.any_eq_false] at hd
    have := hd (endP p) (by rw [← List.map_cons]; exact List.mem_map_of_mem hp)
    simpa using this
theorem on_end {p : GPiece} (h : pieceS p = 0) {j : Nat} (hj : j < p.events.length) : 0 ≤ onN p j ∧ onN p j < endP p := by
 obtain ⟨s,h1,h2,h3⟩ := ons_shape h
 have hl : (onsS p).length = s.length + 1 := by rw [h1]; simp
 have hg : (onsS p)[j]? = some (onN p j) := onN_get (by omega)
 have hm := (pieceS_ok h).2.1
 have hw : wr (((onsS p).length : Int) - 1) = (s.length : Int) := by rw [hl,wr64 (by omega) (by omega)]; omega
 have he := (last_ok h).1
 rw [hw] at he
 have hg2 : (onsS p)[s.length]? = some (endP p) := by
  have := ixE he
  simpa using this.2
 rw [h1] at hg hg2
 have h5 := asc_lt s 0 h2 j s.length _ _ (by omega) hg hg2
 have h6 := (asc_bounds s 0 h2 j _ hg).1
 exact ⟨h6,h5⟩
theorem tone_mem {l : List GPiece} : ∀ {k : Nat} {t : GTone},t ∈ tonesP l k → ∃ p ∈ l,t ∈ tonesS p
 | 0,t,h => by cases h
 | k + 1,t,h => by
  simp only [tonesP] at h
  rcases List.mem_append.1 h with h | h
  ·exact tone_mem h
  ·cases hg : l[k]? with
   | none => rw [hg] at h; cases h
   | some p => rw [hg] at h; exact ⟨p,List.mem_of_getElem? hg,h⟩
theorem tone_time {p : GPiece} (hv : ValidP p) (h : pieceS p = 0) {t : GTone} (ht : t ∈ tonesS p) : 0 ≤ t.from_ ∧ t.from_ < endP p := by
 unfold tonesS at ht
 obtain ⟨n,hn,rfl⟩ := List.mem_map.1 ht
 obtain ⟨j,e,s,rfl,he,_⟩ := note_mem hn
 exact on_end h (List.getElem?_eq_some_iff.1 he).1
def allAt (P : List GPiece) (t : Int) : List Int := foldE (fun _ (a : List Int) p => (.inl (a ++ atQ (stringsF p) t) : List Int ⊕ List Int)) (fun a => a) 0 P []
def sameT (T : List GTone) (k : Nat) (t : GTone) : Bool := decide (0 < k) && decide (((T[k - 1]?).map (·.from_)).getD 0 = t.from_)
noncomputable def stepD (P : List GPiece) (T : List GTone) (k : Nat) (a : List Int) (t : GTone) : List Int := bif sameT T k t then a else bif concS (allAt P t.from_) then a else a ++ [t.from_]
noncomputable def discS (P : List GPiece) (T : List GTone) : List Int := foldE (fun k (a : List Int) t => (.inl (stepD P T k a t) : List Int ⊕ List Int)) (fun a => a) 0 T []
theorem foldE_fin {α A τ : Type} (f : Nat → A → α → A) (g : A → τ) : ∀ (l : List α) (k : Nat) (a : A),foldE (fun k a y => (.inl (f k a y) : A ⊕ τ)) g k l a = g (foldE (fun k a y => (.inl (f k a y) : A ⊕ A)) (fun a => a) k l a)
 | [],_,_ => rfl
 | y :: r,k,a => by simp only [foldE]; exact foldE_fin f g r (k + 1) (f k a y)
theorem foldE_inv {α A : Type} {f : Nat → A → α → A} (I : Nat → A → Prop) {l : List α} : ∀ {k : Nat} {a : A},(∀ j y a,l[j]? = some y → I (k + j) a → I (k + j + 1) (f (k + j) a y)) → I k a → I (k + l.length) (foldE (fun k a y => (.inl (f k a y) : A ⊕ A)) (fun a => a) k l a) := by
 induction l with
 | nil => intro k a _ h; exact h
 | cons y r ih =>
  intro k a hf h
  simp only [foldE,List.length_cons]
  have h1 := hf 0 y a rfl h
  have := ih (k := k + 1) (a := f k a y) (fun j z c hz hc => by
   have := hf (j + 1) z c (by rw [List.getElem?_cons_succ]; exact hz) (by rw [show k + (j + 1) = k + 1 + j by omega]; exact hc)
   rw [show k + (j + 1) = k + 1 + j by omega] at this
   exact this) h1
  rw [show k + (r.length + 1) = k + 1 + r.length by omega]
  exact this
theorem stepD_len (P : List GPiece) (T : List GTone) (k : Nat) (a : List Int) (t : GTone) : (stepD P T k a t).length ≤ a.length + 1 := by
 unfold stepD
 cases sameT T k t <;> cases concS (allAt P t.from_) <;> simp
theorem allAt_ok {P : List GPiece} (h6 : P.length ≤ 6) (hv : ∀ p ∈ P,ValidP p) (t : Int) : (allAt P t).length ≤ 768 ∧ ∀ x ∈ allAt P t,0 ≤ x ∧ x ≤ 127 := by
 have := foldE_inv (f := fun _ (a : List Int) p => a ++ atQ (stringsF p) t) (fun k a => a.length ≤ 128 * k ∧ ∀ x ∈ a,0 ≤ x ∧ x ≤ 127) (l := P) (k := 0) (a := []) (fun j p a hp ⟨h1,h2⟩ => by
  obtain ⟨b1,b2⟩ := atQ_bounds (strings_pitch (hv p (List.mem_of_getElem? hp))) t
  refine ⟨by rw [List.length_append]; omega,fun x hx => ?_⟩
  rcases List.mem_append.1 hx with hx | hx
  ·exact h2 x hx
  ·exact b2 x hx) ⟨by simp,fun x hx => by cases hx⟩
 rw [Nat.zero_add] at this
 exact ⟨Nat.le_trans this.1 (by omega),this.2⟩
theorem gather {c : GConsort} (hs : SizeC c.pieces) (hc : checkS c.pieces = 0) {τ : Type} (A : GPiece → Option (List Int × Int)) (t : Int) (body : List Int × Int → Option ((List Int × Int) ⊕ τ)) (fin : List Int → τ) (hA : ∀ p ∈ c.pieces,A p = some (atQ (stringsF p) t,0))
  (hb : ∀ (k : Nat) p a,c.pieces[k]? = some p → a.length + (atQ (stringsF p) t).length ≤ 4194304 → body (a,(k : Int)) = some (.inl (a ++ atQ (stringsF p) t,wr ((k : Int) + 1))))
  (he : ∀ a,body (a,(c.pieces.length : Int)) = some (.inr (fin a))) : loopN body FUEL (([] : List Int),0) = some (fin (allAt c.pieces t)) := by
 obtain ⟨h1,h2,h3⟩ := check_parts hc
 have hsm : Small c.pieces := hs.1
 rw [loop_fold (fun (a : List Int) i => (a,i)) (fun _ a p => .inl (a ++ atQ (stringsF p) t)) fin c.pieces (fun k a => a.length ≤ 128 * k) [] (small_fuel hsm) (by simp)]
 ·rw [foldE_fin (fun _ (a : List Int) p => a ++ atQ (stringsF p) t) fin]; rfl
 ·intro k a p hp ha
  have hk := (List.getElem?_eq_some_iff.1 hp).1
  have hm := List.mem_of_getElem? hp
  have hb1 := (atQ_bounds (strings_pitch (valid_of (hs.2 p hm) (h3 p hm))) t).1
  refine ⟨?_,fun a' e => ?_⟩
  ·rw [hb k p a hp (by omega)]
   simp only [stepW,wrLen hsm hp]
  ·cases e
   rw [List.length_append]
   omega
 ·intro a _; exact he a
theorem f26_ok {c : GConsort} (hs : SizeC c.pieces) (hc : checkS c.pieces = 0) {T : List GTone} (hT : f60 c = some (T,0)) (hl : T.length ≤ 40000) (ht : ∀ t ∈ T,∃ p ∈ c.pieces,t ∈ tonesS p) : f26 c = some (discS c.pieces T,0) := by
 obtain ⟨h1,h2,h3⟩ := check_parts hc
 obtain ⟨E,hE⟩ := ends_all hc
 have hv : ∀ p ∈ c.pieces,ValidP p := fun p hp => valid_of (hs.2 p hp) (h3 p hp)
 have hsT : Small T := by simp only [Small]; omega
 unfold f26
 rw [hT]
 have d0 : decide ((0 : Int) ≠ 0) = false := rfl
 simp only [Option.bind_some,d0,cond_false]
 rw [loop_fold (fun (a : List Int) i => (a,i)) (fun k a t => .inl (stepD c.pieces T k a t)) (fun a => .inl a) T (fun k a => a.length ≤ k) [] (small_fuel hsT) (Nat.le_refl _)]
 ·rw [foldE_fin (τ := List Int ⊕ (List Int × Int)) (stepD c.pieces T) (fun a => Sum.inl a)]; rfl
 ·intro k a t hk ha
  have hkl := (List.getElem?_eq_some_iff.1 hk).1
  refine ⟨?_,fun a' e => by cases e; have := stepD_len c.pieces T k a t; omega⟩
  have hsame : ((bif (decide (0 < (k : Int))) then ((ix T (wr ((k : Int) - 1))).bind fun y6 => some (decide (t.from_ = y6.from_))) else (some false)) : Option Bool) = some (sameT T k t) := by
   unfold sameT
   cases k with
   | zero => rfl
   | succ m =>
    have hg : T[m]? = some (T[m]'(by omega)) := List.getElem?_eq_getElem (by omega)
    have d : decide ((0 : Int) < ((m + 1 : Nat) : Int)) = true := decide_eq_true (by omega)
    have d' : decide (0 < m + 1) = true := decide_eq_true (by omega)
    have hw : wr (((m + 1 : Nat) : Int) - 1) = (m : Int) := by rw [wr64 (by omega) (by omega)]; omega
    rw [d,d',hw,Nat.add_sub_cancel,hg,ixNat hg]
    simp only [cond_true,Option.bind_some,Option.map_some,Option.getD_some,Bool.true_and]
    exact congrArg some (decide_eq_decide.2 eq_comm)
  simp only [dltLen hk,cond_true,ixNat hk,Option.bind_some,hsame,stepD]
  cases sameT T k t with
  | true => simp only [cond_true,Option.bind_some,Sum.elim_inl,stepW,wrLen hsT hk]
  | false =>
   obtain ⟨q,hq,htq⟩ := ht t (List.mem_of_getElem? hk)
   have htime := tone_time (hv q hq) (h3 q hq) htq
   rw [hE q hq] at htime
   have hA : ∀ p ∈ c.pieces,f61 p t.from_ = some (atQ (stringsF p) t.from_,0) := fun p hp => f61_eq p t.from_ (hs.2 p hp) (h3 p hp) htime.1 (by rw [hE p hp]; exact htime.2)
   obtain ⟨a1,a2⟩ := allAt_ok h2 hv t.from_
   simp only [cond_false]
   rw [gather hs hc (fun p => f61 p t.from_) t.from_ _ (fun a => .inl a) hA]
   ·simp only [Option.bind_some,Sum.elim_inl,f62_eq _ (show (allAt c.pieces t.from_).length ≤ 4194304 by omega) a2]
    cases concS (allAt c.pieces t.from_) with
    | true => simp only [Bool.not_true,cond_false,cond_true,Option.bind_some,Sum.elim_inl,stepW,wrLen hsT hk]
    | false =>
     simp only [Bool.not_false,cond_true,cond_false]
     rw [need_one (by simp only [maxElems]; omega)]
     simp only [Option.bind_some,Sum.elim_inl,stepW,wrLen hsT hk]
   ·intro k p a hp hb
    simp only [dltLen hp,cond_true,ixNat hp,Option.bind_some,hA p (List.mem_of_getElem? hp),d0,cond_false]
    rw [need_one (by simp only [maxElems]; omega)]
    cases hq : atQ (stringsF p) t.from_ with
    | nil => simp
    | cons x r => simp
   ·intro a; simp
 ·intro a _; simp
theorem f27_ok {c : GConsort} (hs : SizeC c.pieces) (hc : checkS c.pieces = 0) {T : List GTone} (hT : f63 c = some (T,0)) (hl : T.length ≤ 40000) (ht : ∀ t ∈ T,∃ p ∈ c.pieces,t ∈ tonesS p) : f27 c = some (discS c.pieces T,0) := by
 obtain ⟨h1,h2,h3⟩ := check_parts hc
 obtain ⟨E,hE⟩ := ends_all hc
 have hv : ∀ p ∈ c.pieces,ValidP p := fun p hp => valid_of (hs.2 p hp) (h3 p hp)
 have hsT : Small T := by simp only [Small]; omega
 unfold f27
 rw [hT]
 have d0 : decide ((0 : Int) ≠ 0) = false := rfl
 simp only [Option.bind_some,d0,cond_false]
 rw [loop_fold (fun (a : List Int) i => (a,i)) (fun k a t => .inl (stepD c.pieces T k a t)) (fun a => a) T (fun k a => a.length ≤ k) [] (small_fuel hsT) (Nat.le_refl _)]
 ·rfl
 ·intro k a t hk ha
  have hkl := (List.getElem?_eq_some_iff.1 hk).1
  refine ⟨?_,fun a' e => by cases e; have := stepD_len c.pieces T k a t; omega⟩
  have hsame : ((bif (decide (0 < (k : Int))) then ((ix T (wr ((k : Int) - 1))).bind fun y6 => some (decide (y6.from_ = t.from_))) else (some false)) : Option Bool) = some (sameT T k t) := by
   unfold sameT
   cases k with
   | zero => rfl
   | succ m =>
    have hg : T[m]? = some (T[m]'(by omega)) := List.getElem?_eq_getElem (by omega)
    have d : decide ((0 : Int) < ((m + 1 : Nat) : Int)) = true := decide_eq_true (by omega)
    have d' : decide (0 < m + 1) = true := decide_eq_true (by omega)
    have hw : wr (((m + 1 : Nat) : Int) - 1) = (m : Int) := by rw [wr64 (by omega) (by omega)]; omega
    rw [d,d',hw,Nat.add_sub_cancel,hg,ixNat hg]
    simp only [cond_true,Option.bind_some,Option.map_some,Option.getD_some,Bool.true_and]
  simp only [dltLen hk,cond_true,ixNat hk,Option.bind_some,hsame,stepD]
  cases sameT T k t with
  | true => simp only [cond_true,Option.bind_some,stepW,wrLen hsT hk]
  | false =>
   obtain ⟨q,hq,htq⟩ := ht t (List.mem_of_getElem? hk)
   have htime := tone_time (hv q hq) (h3 q hq) htq
   rw [hE q hq] at htime
   have hA : ∀ p ∈ c.pieces,f64 p t.from_ = some (atQ (stringsF p) t.from_,0) := fun p hp => f64_eq p t.from_ (hs.2 p hp) (h3 p hp) htime.1 (by rw [hE p hp]; exact htime.2)
   obtain ⟨a1,a2⟩ := allAt_ok h2 hv t.from_
   simp only [cond_false]
   rw [gather hs hc (fun p => f64 p t.from_) t.from_ _ (fun a => a) hA]
   ·simp only [Option.bind_some,f65_eq _ (show Small (allAt c.pieces t.from_) by simp only [Small]; omega) a2]
    cases concS (allAt c.pieces t.from_) with
    | true => simp only [Bool.not_true,cond_false,cond_true,Option.bind_some,stepW,wrLen hsT hk]
    | false =>
     simp only [Bool.not_false,cond_true,cond_false]
     rw [need_one (by simp only [maxElems]; omega)]
     simp only [Option.bind_some,stepW,wrLen hsT hk]
   ·intro k p a hp hb
    simp only [dltLen hp,cond_true,ixNat hp,Option.bind_some,hA p (List.mem_of_getElem? hp)]
    rw [need_one (by simp only [maxElems]; omega)]
    cases hq : atQ (stringsF p) t.from_ with
    | nil => simp
    | cons x r => simp
   ·intro a; simp
 ·intro a _; simp
theorem f28_refl (l : List Int) (hs : Small l) : f28 l l = some true := by
 unfold f28
 have hd : decide ((l.length : Int) ≠ (l.length : Int)) = false := by simp
 rw [hd,cond_false,loop_none l hs]
 ·rfl
 ·intro i y hy
  have : decide (y ≠ y) = false := by simp
  simp only [dltLen hy,cond_true,ixNat hy,Option.bind_some,this,cond_false]
 ·simp
theorem disc_eq (c : GConsort) (hs : SizeC c.pieces) : ∃ r,f26 c = some r ∧ f27 c = some r ∧ Small r.1 := by
 by_cases h : checkS c.pieces = 0
 ·obtain ⟨r,a1,a2,a3⟩ := sounds_prog c hs h
  obtain ⟨q,b1,b2,b3⟩ := sounds_ref c hs h
  rw [permT_eq (b2.trans a2.symm) b3 a3] at b1
  obtain ⟨h1,h2,h3⟩ := check_parts h
  have hl := tonesP_len (l := c.pieces) (fun p hp => valid_of (hs.2 p hp) (h3 p hp)) c.pieces.length
  have hr : r.length ≤ 40000 := by have := a2.length_eq; omega
  have ht : ∀ t ∈ r,∃ p ∈ c.pieces,t ∈ tonesS p := fun t ht => tone_mem (a2.mem_iff.1 ht)
  refine ⟨_,f26_ok hs h a1 hr ht,f27_ok hs h b1 hr ht,?_⟩
  have := foldE_inv (f := stepD c.pieces r) (fun k a => a.length ≤ k) (l := r) (k := 0) (a := []) (fun j y a _ ha => by have := stepD_len c.pieces r (0 + j) a y; omega) (Nat.le_refl _)
  change (discS c.pieces r).length ≤ _ at this
  simp only [Small]
  omega
 ·have hd : decide (checkS c.pieces ≠ 0) = true := by simpa using h
  refine ⟨([],checkS c.pieces),?_,?_,by simp [Small]⟩
  ·unfold f26 f60
   rw [prog_Check c hs]
   simp only [Option.bind_some,hd,cond_true]
  ·unfold f27 f63
   rw [ref_Check c hs]
   simp only [Option.bind_some,hd,cond_true]
theorem big_ok (l : List GPiece) (hs : Small l) : ∃ b,f5 l = some b := by
 unfold f5
 rw [loop_find l (fun p => decide (60 < (p.events.length : Int)) && decide ((p.events.length : Int) ≤ 400)) (fun _ _ => true) hs]
 ·rw [findS_any]
  cases l.any _ <;> exact ⟨_,rfl⟩
 ·intro i y hy
  simp only [dltLen hy,cond_true,ixNat hy,Option.bind_some]
  cases decide (60 < (y.events.length : Int)) <;> cases decide ((y.events.length : Int) ≤ 400) <;> rfl
 ·simp
theorem f4_eq (c : GConsort) (hs : SizeC c.pieces) : f4 c = some true := by
 obtain ⟨b,hb⟩ := big_ok c.pieces hs.1
 obtain ⟨r,h1,h2,h3⟩ := disc_eq c hs
 have d : decide (r.2 = r.2) = true := by simp
 unfold f4
 simp only [hb,Option.bind_some,h1,h2,d,cond_true,f28_refl r.1 h3]
 cases b <;> rfl
end Go.Proofs.YtjjendjmakhfaaaGreat
