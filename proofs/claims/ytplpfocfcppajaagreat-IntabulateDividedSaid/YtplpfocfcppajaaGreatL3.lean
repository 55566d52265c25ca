/-
  Plain laws, part 4: the tones of a figure; picks (the statement on Adorn).
  Own work. No Go text.
-/
import Derived.Test.YtplpfocfcppajaaGreatL2
import Derived.Test.YtplpfocfcppajaaGreatV7
namespace Go.Proofs.YtplpfocfcppajaaGreat
open Go Go.Am
set_option linter.all false

/-! ### The tones of a figure -/

def unitS (t : GTone) (f : GFigure) : Int := wr (Int.tdiv (wr (t.to_ - t.from_)) (sumW f.shares))
/-- What the first k shares come to: the tones, and where the last one ends. -/
def tonesK (t : GTone) (u : Int) : List (Int × Int) → List GTone × Int → List GTone × Int
  | [], a => a
  | p :: r, a => tonesK t u r (a.1 ++ [⟨wr (t.pitch + p.1), a.2, wr (a.2 + wr (u * p.2))⟩], wr (a.2 + wr (u * p.2)))
def tonesS (t : GTone) (f : GFigure) : List GTone := (tonesK t (unitS t f) (f.moves.zip f.shares) ([], t.from_)).1

theorem tonesK_len (t : GTone) (u : Int) : ∀ (l : List (Int × Int)) (a : List GTone × Int), (tonesK t u l a).1.length = a.1.length + l.length
  | [], a => by simp [tonesK]
  | p :: r, a => by simp only [tonesK, tonesK_len t u r, List.length_append, List.length_cons, List.length_nil]; omega

theorem tonesS_len {t : GTone} {f : GFigure} (h : rightS f = true) : (tonesS t f).length = f.moves.length ∧ (tonesS t f).length ≤ 32 ∧ 1 ≤ (tonesS t f).length := by
  obtain ⟨a, b, c, _⟩ := rightS_ok h
  unfold tonesS
  rw [tonesK_len, List.length_zip, ← a]
  simp; omega

theorem tonesK_snoc (t : GTone) (u : Int) (p : Int × Int) : ∀ (l : List (Int × Int)) (a : List GTone × Int), tonesK t u (l ++ [p]) a = ((tonesK t u l a).1 ++ [⟨wr (t.pitch + p.1), (tonesK t u l a).2, wr ((tonesK t u l a).2 + wr (u * p.2))⟩], wr ((tonesK t u l a).2 + wr (u * p.2)))
  | [], a => rfl
  | q :: r, a => by simp only [List.cons_append, tonesK, tonesK_snoc t u p r]

theorem f64_eq (t : GTone) (f : GFigure) (hf : rightS f = true) : f64 t f = some (tonesS t f) := by
  obtain ⟨a, b, c, _⟩ := rightS_ok hf
  obtain ⟨s1, s2⟩ := small_shares hf
  have hs0 : sumW f.shares ≠ 0 := by have := sumW_pos hf; omega
  have hl : (f.moves.zip f.shares).length = f.moves.length := by rw [List.length_zip, ← a]; simp
  unfold f64
  rw [f95_eq f.shares s1]
  simp only [Option.bind_some, need, if_pos hs0]
  rw [loop_all (fun k => ((tonesK t (unitS t f) ((f.moves.zip f.shares).take k) ([], t.from_)).1, (tonesK t (unitS t f) ((f.moves.zip f.shares).take k) ([], t.from_)).2, (k : Int))) f.moves.length (by omega) (by rfl) (r := tonesS t f)]
  · rfl
  · intro k hk
    obtain ⟨p, hp⟩ : ∃ p, (f.moves.zip f.shares)[k]? = some p := ⟨_, List.getElem?_eq_getElem (by omega)⟩
    obtain ⟨e1, e2⟩ := zip_get hp
    have hlen : (tonesK t (unitS t f) ((f.moves.zip f.shares).take k) ([], t.from_)).1.length + 1 ≤ maxElems := by
      rw [tonesK_len, List.length_take]
      unfold maxElems
      simp only [List.length_nil]
      omega
    have hw : wr ((k : Int) + 1) = ((k + 1 : Nat) : Int) := wrNat (by omega)
    simp only [dltLen e1, cond_true, ixNat e1, ixNat e2, Option.bind_some, need, if_pos hlen, hw, take_snoc hp, tonesK_snoc]
    rfl
  · have : (f.moves.zip f.shares).take f.moves.length = f.moves.zip f.shares := List.take_of_length_le (by omega)
    simp only [this]
    simp [tonesS]

theorem f66_eq (t : GTone) (f : GFigure) (hf : rightS f = true) : f66 t f = some (tonesS t f) := by
  obtain ⟨a, b, c, _⟩ := rightS_ok hf
  obtain ⟨s1, s2⟩ := small_shares hf
  have hs0 : sumW f.shares ≠ 0 := by have := sumW_pos hf; omega
  have hl : (f.moves.zip f.shares).length = f.moves.length := by rw [List.length_zip, ← a]; simp
  unfold f66
  rw [f98_eq f s1]
  simp only [Option.bind_some, need, if_pos hs0]
  rw [loop_all (fun k => ((tonesK t (unitS t f) ((f.moves.zip f.shares).take k) ([], t.from_)).2, (tonesK t (unitS t f) ((f.moves.zip f.shares).take k) ([], t.from_)).1, (k : Int))) f.moves.length (by omega) (by rfl) (r := tonesS t f)]
  · rfl
  · intro k hk
    obtain ⟨p, hp⟩ : ∃ p, (f.moves.zip f.shares)[k]? = some p := ⟨_, List.getElem?_eq_getElem (by omega)⟩
    obtain ⟨e1, e2⟩ := zip_get hp
    have hlen : (tonesK t (unitS t f) ((f.moves.zip f.shares).take k) ([], t.from_)).1.length + 1 ≤ maxElems := by
      rw [tonesK_len, List.length_take]
      unfold maxElems
      simp only [List.length_nil]
      omega
    have hw : wr ((k : Int) + 1) = ((k + 1 : Nat) : Int) := wrNat (by omega)
    simp only [dltLen e1, cond_true, ixNat e1, ixNat e2, Option.bind_some, need, if_pos hlen, hw, take_snoc hp, tonesK_snoc]
    rfl
  · have : (f.moves.zip f.shares).take f.moves.length = f.moves.zip f.shares := List.take_of_length_le (by omega)
    simp only [this]
    simp [tonesS]

/-! ### Picks -/

def shortS (least : Int) (x : GTone) : Bool := decide (wr (x.to_ - x.from_) < least)

theorem f94_eq (l : List GTone) (least : Int) (hs : Small l) : f94 l least = some (idxF (shortS least) l) := by
  unfold f94
  rw [loop_find l (shortS least) (fun i _ => (i : Int)) hs]
  · simp only [Option.bind_some, findS_idx, idxF]
    cases l.findIdx? _ <;> simp
  · intro i y hy
    simp only [dltLen hy, cond_true, ixNat hy, Option.bind_some, f65, shortS]
    cases decide (wr (y.to_ - y.from_) < least) <;> rfl
  · simp

theorem f53_eq (l : List GTone) (least : Int) (hs : Small l) : f53 l least = some (l.any (shortS least)) := by
  unfold f53
  rw [f94_eq l least hs]
  simp only [Option.bind_some, idxF_nonneg]

def goodS (p : List GTone) (k : Nat) (t : GTone) (least : Int) (f : GFigure) : Bool := fitsS p f k && !((tonesS t f).any (shortS least))

theorem small_tones {t : GTone} {f : GFigure} (h : rightS f = true) : Small (tonesS t f) := by
  have := (tonesS_len (t := t) h).2.1
  simp only [Small]; omega

theorem f63_eq (f : GFigure) (p : List GTone) (k : Nat) (t : GTone) (least : Int) (hp : Small p) (hf : rightS f = true) (hk : k < p.length) : f63 f p (k : Int) t least = some (goodS p k t least f) := by
  unfold f63 goodS
  rw [f59_eq p f k hp hf hk]
  simp only [Option.bind_some, f64_eq t f hf, f53_eq _ least (small_tones hf)]
  cases fitsS p f k <;> rfl

theorem f62_eq (l : List GFigure) (p : List GTone) (k : Nat) (t : GTone) (least : Int) (hp : Small p) (hl : l.length ≤ 64) (hf : ∀ f ∈ l, rightS f = true) (hk : k < p.length) :
    f62 l p (k : Int) t least = some (idxF (goodS p k t least) l) := by
  have hs : Small l := by simp only [Small]; omega
  unfold f62
  rw [loop_find l (goodS p k t least) (fun i _ => (i : Int)) hs]
  · simp only [Option.bind_some, findS_idx, idxF]
    cases l.findIdx? _ <;> simp
  · intro i y hy
    simp only [dltLen hy, cond_true, ixNat hy, Option.bind_some, f63_eq y p k t least hp (hf y (List.mem_of_getElem? hy)) hk]
    cases goodS p k t least y <;> rfl
  · simp

/-- The number of the first good figure, or 0. -/
def pickS (p : List GTone) (l : List GFigure) (least : Int) (k : Nat) : Int := match p[k]? with
  | some t => match l.findIdx? (goodS p k t least) with
    | some i => ((i + 1 : Nat) : Int)
    | none => 0
  | none => 0

def adornS (p : List GTone) (l : List GFigure) (least : Int) : List Int × Int :=
  if checkS p l = 0 then (if 1 ≤ least ∧ least ≤ 262144 then ((List.range p.length).map (pickS p l least), 0) else ([], 1)) else ([], checkS p l)

theorem f29_eq (p : List GTone) (l : List GFigure) (least : Int) : f29 p l least = some (adornS p l least) := by
  unfold f29 adornS
  rw [f58_eq]
  simp only [Option.bind_some]
  by_cases hc : checkS p l = 0
  · obtain ⟨c1, c2, c3, c4⟩ := checkS_ok hc
    have hp : Small p := by simp only [Small]; omega
    have hd : decide (checkS p l ≠ 0) = false := by simpa using hc
    rw [hd, cond_false, if_pos hc, f48_eq]
    simp only [Option.bind_some]
    by_cases hb : 1 ≤ least ∧ least ≤ 262144
    · have hi : inR least 1 262144 = true := by simp [inR]; omega
      rw [if_pos hb, hi]
      simp only [Bool.not_true, cond_false]
      have n1 : (0 : Int) ≤ (p.length : Int) := Int.natCast_nonneg _
      have n2 : (p.length : Int) ≤ (maxElems : Int) := by unfold maxElems; omega
      simp only [need, if_pos n1, if_pos n2, Int.toNat_natCast]
      have st0 : ((List.range 0).map (pickS p l least) ++ List.replicate (p.length - 0) (0 : Int), ((0 : Nat) : Int)) = (List.replicate p.length 0, 0) := by simp
      rw [loop_all (fun k => ((List.range k).map (pickS p l least) ++ List.replicate (p.length - k) (0 : Int), (k : Int))) p.length (by omega) st0 (r := (List.range p.length).map (pickS p l least))]
      · rfl
      · intro k hk
        have ht : p[k]? = some p[k] := List.getElem?_eq_getElem hk
        have hw : wr ((k : Int) + 1) = ((k + 1 : Nat) : Int) := wrNat (by omega)
        have hy : ((List.range k).map (pickS p l least) ++ List.replicate (p.length - k) (0 : Int))[k]? = some 0 := by
          rw [List.getElem?_append_right (by simp), List.getElem?_replicate]
          simp only [List.length_map, List.length_range]
          rw [if_pos (by omega)]
        simp only [dltLen ht, cond_true, ixNat ht, ixNat hy, Option.bind_some, f62_eq l p k p[k] least hp c3 c4 hk, hw, Int.toNat_natCast]
        have hv : wr (1 + idxF (goodS p k p[k] least) l) = pickS p l least k := by
          unfold pickS idxF
          rw [ht]
          simp only
          cases hq : l.findIdx? (goodS p k p[k] least) with
          | none => simp only; exact wr64 (by omega) (by omega)
          | some i =>
            have hil : i < l.length := by
              obtain ⟨h, _⟩ := List.findIdx?_eq_some_iff_getElem.1 hq
              exact h
            simp only
            rw [wr64 (by omega) (by omega)]; omega
        rw [hv]
        congr 3
        have hsplit : List.replicate (p.length - k) (0 : Int) = 0 :: List.replicate (p.length - (k + 1)) 0 := by
          have : p.length - k = (p.length - (k + 1)) + 1 := by omega
          rw [this, List.replicate_succ]
        rw [hsplit, range_snoc, List.set_append_right _ _ (by simp)]
        simp
      · simp
    · have hi : inR least 1 262144 = false := by
        cases hq : inR least 1 262144 with
        | false => rfl
        | true => simp [inR] at hq; omega
      rw [if_neg hb, hi]; rfl
  · have hd : decide (checkS p l ≠ 0) = true := by simpa using hc
    rw [hd, if_neg hc]; rfl

/-- What is picked when the figures behind the first n - k have been looked at. -/
def lateS (p : List GTone) (k0 : Nat) (t : GTone) (least : Int) (l : List GFigure) (k : Nat) : Int := match (l.drop (l.length - k)).findIdx? (goodS p k0 t least) with
  | some j => (((l.length - k) + j + 1 : Nat) : Int)
  | none => 0

theorem slow_loop (q : List GTone) (least : Int) (hs : Small q) :
    loopN (σ := (Bool × Int)) (τ := Bool) (fun ((l5_13, l5_15) : (Bool × Int)) => bif (decide (l5_15 < (q.length : Int))) then (((bif l5_13 then ((ix q l5_15).bind fun y14 => some (decide (least ≤ (wr (y14.to_ - y14.from_))))) else (some false)) : Option Bool).bind fun (j6_13 : Bool) => some (.inl (j6_13, (wr (l5_15 + 1))))) else (some (.inr l5_13))) FUEL (true, 0) = some (!(q.any (shortS least))) := by
  rw [loop_all (fun k => (!((q.take k).any (shortS least)), (k : Int))) q.length hs (by rfl) (r := !(q.any (shortS least)))]
  · intro k hk
    have ht : q[k]? = some q[k] := List.getElem?_eq_getElem hk
    have hw := wrLen hs ht
    simp only [dltLen ht, cond_true, ixNat ht, Option.bind_some, hw, take_snoc ht, List.any_append, List.any_cons, List.any_nil, Bool.or_false]
    have : decide (least ≤ wr (q[k].to_ - q[k].from_)) = !(shortS least q[k]) := by
      unfold shortS
      by_cases h : wr (q[k].to_ - q[k].from_) < least
      · have h2 : ¬ least ≤ wr (q[k].to_ - q[k].from_) := by omega
        simp [h, h2]
      · have h2 : least ≤ wr (q[k].to_ - q[k].from_) := by omega
        simp [h, h2]
    rw [this]
    cases (q.take k).any (shortS least) <;> cases shortS least q[k] <;> rfl
  · simp

theorem f30_eq (p : List GTone) (l : List GFigure) (least : Int) : f30 p l least = some (adornS p l least) := by
  unfold f30 adornS
  rw [f60_eq p l]
  simp only [Option.bind_some]
  by_cases hc : checkS p l = 0
  · obtain ⟨c1, c2, c3, c4⟩ := checkS_ok hc
    have hp : Small p := by simp only [Small]; omega
    have hd : decide (checkS p l ≠ 0) = false := by simpa using hc
    rw [hd, cond_false, if_pos hc]
    simp only [orE, Option.bind_some]
    by_cases hb : 1 ≤ least ∧ least ≤ 262144
    · have hi : (decide (least < 1) || decide (262144 < least)) = false := by simp; omega
      rw [if_pos hb, hi]
      simp only [cond_false]
      have st0 : ((List.range 0).map (pickS p l least), ((0 : Nat) : Int)) = (([] : List Int), 0) := rfl
      rw [loop_all (fun k => ((List.range k).map (pickS p l least), (k : Int))) p.length (by omega) st0 (r := (List.range p.length).map (pickS p l least))]
      · rfl
      · intro k hk
        have ht : p[k]? = some p[k] := List.getElem?_eq_getElem hk
        have hw : wr ((k : Int) + 1) = ((k + 1 : Nat) : Int) := wrNat (by omega)
        have hmx : ((List.range k).map (pickS p l least)).length + 1 ≤ maxElems := by unfold maxElems; simp; omega
        simp only [dltLen ht, cond_true]
        have st1 : (lateS p k p[k] least l 0, ((l.length - 0 : Nat) : Int)) = ((0 : Int), (l.length : Int)) := by simp [lateS]
        rw [loop_all (fun j => (lateS p k p[k] least l j, ((l.length - j : Nat) : Int))) l.length (by omega) st1 (r := pickS p l least k)]
        · simp only [Option.bind_some, need, if_pos hmx, hw, range_snoc]
        · intro j hj
          have hi1 : l.length - j = (l.length - (j + 1)) + 1 := by omega
          have hlt : l.length - (j + 1) < l.length := by omega
          have hf : l[l.length - (j + 1)]? = some l[l.length - (j + 1)] := List.getElem?_eq_getElem hlt
          have hr := c4 _ (List.getElem_mem hlt)
          have hge : decide (1 ≤ ((l.length - j : Nat) : Int)) = true := by simp; omega
          have hw1 : wr (((l.length - j : Nat) : Int) - 1) = ((l.length - (j + 1) : Nat) : Int) := by rw [wr64 (by omega) (by omega)]; omega
          simp only [hge, cond_true, hw1, ixNat hf, Option.bind_some, f61_eq p _ k hp hr hk]
          have hdrop : l.drop (l.length - (j + 1)) = l[l.length - (j + 1)] :: l.drop (l.length - j) := by
            rw [List.drop_eq_getElem_cons hlt]; congr 2; omega
          have hlate : lateS p k p[k] least l (j + 1) = bif goodS p k p[k] least l[l.length - (j + 1)] then ((l.length - j : Nat) : Int) else lateS p k p[k] least l j := by
            unfold lateS
            rw [hdrop, List.findIdx?_cons]
            cases goodS p k p[k] least l[l.length - (j + 1)] with
            | true => simp; omega
            | false =>
              simp only [cond_false]
              cases (l.drop (l.length - j)).findIdx? (goodS p k p[k] least) with
              | none => simp
              | some i => simp; omega
          rw [hlate]
          unfold goodS
          cases fitsS p l[l.length - (j + 1)] k with
          | false => simp
          | true =>
            simp only [Bool.not_true, cond_false, ixNat ht, Option.bind_some, f66_eq _ _ hr, slow_loop _ least (small_tones hr), Bool.true_and]
            cases (tonesS p[k] l[l.length - (j + 1)]).any (shortS least) <;> rfl
        · have hz : l.length - l.length = 0 := Nat.sub_self _
          have hfin : lateS p k p[k] least l l.length = pickS p l least k := by
            unfold lateS pickS
            rw [hz, ht]
            simp only [List.drop_zero, Nat.zero_add]
          simp only [hz, hfin]
          simp
      · simp
    · have hi : (decide (least < 1) || decide (262144 < least)) = true := by simp; omega
      rw [if_neg hb, hi]; rfl
  · have hd : decide (checkS p l ≠ 0) = true := by simpa using hc
    rw [hd, if_neg hc]; rfl

theorem adornS_small (p : List GTone) (l : List GFigure) (least : Int) : Small (adornS p l least).1 := by
  unfold adornS
  split
  · rename_i hc
    obtain ⟨c1, _⟩ := checkS_ok hc
    split
    · simp only [Small, List.length_map, List.length_range]; omega
    · simp [Small]
  · simp [Small]

/-- **IntabulateAdorns.** -/
theorem f7_eq (p : List GTone) (l : List GFigure) (least : Int) : f7 p l least = some true := by
  unfold f7
  rw [f29_eq p l least, f30_eq p l least]
  simp [f18_refl _ (adornS_small p l least), f13]
end Go.Proofs.YtplpfocfcppajaaGreat
