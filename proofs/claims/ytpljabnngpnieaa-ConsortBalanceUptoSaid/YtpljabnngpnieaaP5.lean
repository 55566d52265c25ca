/-
  Plain laws of the player,part 10: ConsortEnds.
  Own work. No Go text.
-/
import Derived.Test.YtpljabnngpnieaaPt
import Derived.Test.YtpljabnngpnieaaP3
import Derived.Test.YtpljabnngpnieaaV5
set_option linter.all false
namespace Go.Proofs.Ytpljabnngpnieaa
open Go Go.Am
theorem min_bound (l : List Int) (h0 : 0 < l.length) (hs : l.length ≤ 100) : (∃ m,f50 l = some m ∧ ∀ (i : Nat) y,l[i]? = some y → m ≤ y) ∧ ∃ m,f51 l = some m ∧ ∀ (i : Nat) y,l[i]? = some y → y ≤ m := by
  have hd : decide ((l.length : Int) < 1) = false := by simp; omega
  have hg : l[0]? = some (l[0]'h0) := List.getElem?_eq_getElem h0
  have hg' : ix l 0 = some (l[0]'h0) := ixNat hg
  have hls : Small l := by simp only [Small]; omega
  constructor
  · unfold f50
    simp only [hd,cond_false,Option.bind_some,hg']
    obtain ⟨t,h1,h2⟩ := loop_inv (body := fun ((l2_3,l2_4) : (Int × Int)) => bif (decide (l2_4 < (l.length : Int))) then ((ix l l2_4).bind fun y4 => some (.inl ((minI l2_3 y4),(wr (l2_4 + 1))))) else (some (.inr l2_3))) (fun k (s : Int × Int) => s.2 = (k : Int) ∧ ∀ (i : Nat) y,i < k → l[i]? = some y → s.1 ≤ y) (fun t => ∀ (i : Nat) y,l[i]? = some y → t ≤ y) l.length
      (by rintro k ⟨a,b⟩ hk ⟨rfl,ha⟩
          have hgk : l[k]? = some (l[k]'hk) := List.getElem?_eq_getElem hk
          simp only [dltLen hgk,cond_true,ixNat hgk,Option.bind_some,wrLen hls hgk]
          refine ⟨_,rfl,rfl,fun i y hi hy => ?_⟩
          show minI a _ ≤ y
          unfold minI
          by_cases hik : i = k
          · subst hik
            rw [hgk] at hy
            cases hy
            split <;> omega
          · have h5 : a ≤ y := ha i y (by omega) hy
            split <;> omega)
      (by rintro ⟨a,b⟩ ⟨rfl,ha⟩; exact ⟨a,by simp,fun i y hy => ha i y (List.getElem?_eq_some_iff.1 hy).1 hy⟩) (l.length - 1) 1 FUEL (l[0]'h0,1) (by omega) (by unfold FUEL; omega)
      ⟨rfl,fun i y hi hy => by
        have : i = 0 := by omega
        subst this
        rw [hg] at hy
        cases hy
        exact Int.le_refl _⟩
    rw [h1]; exact ⟨_,rfl,h2⟩
  · unfold f51
    simp only [hd,cond_false,Option.bind_some,hg']
    obtain ⟨t,h1,h2⟩ := loop_inv (body := fun ((l2_3,l2_4) : (Int × Int)) => bif (decide (l2_4 < (l.length : Int))) then ((ix l l2_4).bind fun y4 => some (.inl ((maxI l2_3 y4),(wr (l2_4 + 1))))) else (some (.inr l2_3))) (fun k (s : Int × Int) => s.2 = (k : Int) ∧ ∀ (i : Nat) y,i < k → l[i]? = some y → y ≤ s.1) (fun t => ∀ (i : Nat) y,l[i]? = some y → y ≤ t) l.length
      (by rintro k ⟨a,b⟩ hk ⟨rfl,ha⟩
          have hgk : l[k]? = some (l[k]'hk) := List.getElem?_eq_getElem hk
          simp only [dltLen hgk,cond_true,ixNat hgk,Option.bind_some,wrLen hls hgk]
          refine ⟨_,rfl,rfl,fun i y hi hy => ?_⟩
          show y ≤ maxI a _
          unfold maxI
          by_cases hik : i = k
          · subst hik
            rw [hgk] at hy
            cases hy
            split <;> omega
          · have h5 : y ≤ a := ha i y (by omega) hy
            split <;> omega)
      (by rintro ⟨a,b⟩ ⟨rfl,ha⟩; exact ⟨a,by simp,fun i y hy => ha i y (List.getElem?_eq_some_iff.1 hy).1 hy⟩) (l.length - 1) 1 FUEL (l[0]'h0,1) (by omega) (by unfold FUEL; omega)
      ⟨rfl,fun i y hi hy => by
        have : i = 0 := by omega
        subst this
        rw [hg] at hy
        cases hy
        exact Int.le_refl _⟩
    rw [h1]; exact ⟨_,rfl,h2⟩
theorem ends_same (c : GConsort) (hs : SizeC c.pieces) (x : Int × List GCDesk) (h : f11 c = some (.inr x)) : ∀ p ∈ c.pieces,endP p = endC c.pieces := by
  obtain ⟨r,h1,h2⟩ := band_ok c.pieces hs
  have h30 : ∃ y,f30 c = some y ∧ y.2 = 0 := by
    obtain ⟨y,g1,g2⟩ := length_ok c hs
    refine ⟨y,g1,?_⟩
    unfold f11 at h
    rw [g1] at h
    simp only [Option.bind_some] at h
    by_cases hz : y.2 = 0
    · exact hz
    · have dz : decide (y.2 ≠ 0) = true := by simpa using hz
      rw [dz,cond_true] at h
      cases h
  obtain ⟨y,g1,g2⟩ := h30
  unfold f30 at g1
  rw [h1] at g1
  simp only [Option.bind_some] at g1
  by_cases hz : r.2 = 0
  · obtain ⟨k1,k2,k3,k4⟩ := h2 hz
    have dz : decide (r.2 ≠ 0) = false := by simpa using hz
    obtain ⟨⟨m1,hm1,b1⟩,m2,hm2,b2⟩ := min_bound (c.pieces.map endP) (by simp; omega) (by simp; omega)
    rw [dz,cond_false,k4,hm1,hm2] at g1
    simp only [Option.bind_some] at g1
    by_cases hmm : m1 = m2
    · subst hmm
      have key : ∀ (i : Nat) y,(c.pieces.map endP)[i]? = some y → y = m1 := fun i y hy => by
        have := b1 i y hy
        have := b2 i y hy
        omega
      have hg0 : (c.pieces.map endP)[0]? = some ((c.pieces.map endP)[0]'(by simp; omega)) := List.getElem?_eq_getElem (by simp; omega)
      have he : endC c.pieces = m1 := by
        unfold endC
        rw [hg0]
        exact key 0 _ hg0
      intro p hp
      obtain ⟨i,hi⟩ := List.getElem?_of_mem hp
      rw [he]
      exact key i _ (by rw [List.getElem?_map,hi]; rfl)
    · have dm : decide (m1 ≠ m2) = true := by simpa using hmm
      rw [dm,cond_true] at g1
      cases g1
      cases g2
  · have dz : decide (r.2 ≠ 0) = true := by simpa using hz
    rw [dz,cond_true] at g1
    cases g1
    exact absurd g2 hz
theorem notes_in {p : GPiece} (hv : ValidP p) (h39 : f39 p = some (onsS p,0)) : ∀ n ∈ notesP p,0 ≤ n.from_ ∧ n.from_ < n.to_ ∧ n.to_ ≤ endP p := by
  obtain ⟨r,h1,h2,h3⟩ := notes_spans p hv
  have d0 : decide ((0 : Int) ≠ 0) = false := rfl
  have hn : notesP p = r.1 := by
    unfold notesP f32 f54
    rw [h39]
    simp only [Option.bind_some,d0,cond_false,h1]
    rfl
  rw [hn]
  intro n hn
  obtain ⟨i,j,a3,a1,a2⟩ := h3 n hn
  obtain ⟨s,s1,s2,s3⟩ := ons_shape hv
  have hl : (onsS p).length = s.length + 1 := by rw [s1]; simp
  have hjl := (List.getElem?_eq_some_iff.1 a2).1
  have hg : (onsS p)[s.length]? = some (endP p) := by
    have h4 : (onsS p)[s.length]? = some ((onsS p)[s.length]'(by omega)) := List.getElem?_eq_getElem (by omega)
    have h5 : (onsS p).getLast? = (onsS p)[(onsS p).length - 1]? := List.getLast?_eq_getElem?
    rw [hl,Nat.add_sub_cancel,h4] at h5
    unfold endP
    rw [h5,h4]; rfl
  rw [s1] at a1 a2 hg
  refine ⟨(asc_bounds s 0 s2 i _ a1).1,asc_lt s 0 s2 i j _ _ a3 a1 a2,?_⟩
  by_cases hj : j = s.length
  · subst hj
    rw [hg] at a2
    exact Int.le_of_eq (Option.some.inj a2).symm
  · have := asc_lt s 0 s2 j s.length _ _ (by omega) a2 hg
    omega
theorem desk_notes (p : GPiece) : (deskP p).notes = notesP p := rfl
end Go.Proofs.Ytpljabnngpnieaa
