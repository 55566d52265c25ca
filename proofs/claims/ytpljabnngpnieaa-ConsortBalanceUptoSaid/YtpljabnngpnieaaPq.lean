/-
 Plain laws of the player,part 7: each note of a piece begins at one of its times and ends at a later one.
 Own work. No Go text.
-/
import Derived.Test.YtpljabnngpnieaaPn
set_option linter.all false
namespace Go.Proofs.Ytpljabnngpnieaa
open Go Go.Am
def SpanN (ons : List Int) (n : GNote) : Prop := ∃ i j : Nat,i < j ∧ ons[i]? = some n.from_ ∧ ons[j]? = some n.to_
def Spans (ons : List Int) (ns : List GNote) : Prop := ∀ n ∈ ns,SpanN ons n
def RingE (ons : List Int) (ns : List GNote) (ring : List Int) (k : Nat) (last : Int) : Prop :=
 ring.length = 15 ∧ ∀ (c : Nat) v,ring[c]? = some v → 0 ≤ v ∧ (0 < v → ∃ n i,ns[(v - 1).toNat]? = some n ∧ ons[i]? = some n.from_ ∧ (i < k ∨ (i = k ∧ (c : Int) ≤ last)))
theorem ringE_len {ons : List Int} {ns : List GNote} {ring : List Int} {k : Nat} {last : Int} (h : RingE ons ns ring k last) : Rings ring ns := by
 refine ⟨h.1,fun v hv => ?_⟩
 obtain ⟨c,hc⟩ := List.getElem?_of_mem hv
 obtain ⟨h0,h1⟩ := h.2 c v hc
 refine ⟨h0,?_⟩
 by_cases hp : 0 < v
 ·obtain ⟨n,i,hn,_⟩ := h1 hp
  have := (List.getElem?_eq_some_iff.1 hn).1
  omega
 ·omega
theorem stopE (ons : List Int) (c k : Nat) (at_ : Int) (ring : List Int) (notes : List GNote) (last : Int) (hc : c < 15) (hr : RingE ons notes ring k last) (hl : last < (c : Int)) (hat : ons[k]? = some at_) (hs : Spans ons notes) (hn : notes.length ≤ 1000000) :
  ∃ n' r',f67 (c : Int) at_ ring notes = some (n',r') ∧ n'.length = notes.length ∧ Spans ons n' ∧ RingE ons n' r' k last ∧ r'[c]? = some 0 := by
 obtain ⟨h1,h2⟩ := hr
 have hg : ring[c]? = some (ring[c]'(by omega)) := List.getElem?_eq_getElem (by omega)
 obtain ⟨v0,v1⟩ := h2 c _ hg
 have hc15 : (c : Int) < 15 := by omega
 generalize ring[c]'(by omega) = v at hg v0 v1
 unfold f67
 simp only [need,if_pos hc15,ixNat hg,Option.bind_some]
 by_cases h0 : 0 < v
 ·obtain ⟨n,i,hni,hfi,hik⟩ := v1 h0
  have hik : i < k := by rcases hik with h | h <;> omega
  have hd : decide (0 < v) = true := by simpa using h0
  have hml := (List.getElem?_eq_some_iff.1 hni).1
  have hw : wr (v - 1) = (((v - 1).toNat : Nat) : Int) := by rw [wr64 (by omega) (by omega)]; omega
  simp only [hd,cond_true,hw,ixNat hni,Option.bind_some,Int.toNat_natCast]
  refine ⟨_,_,rfl,by simp,fun m hm => ?_,⟨by simp [h1],fun c' u hu => ?_⟩,?_⟩
  ·rcases List.mem_or_eq_of_mem_set hm with hm | rfl
   ·exact hs m hm
   ·exact ⟨i,k,hik,hfi,hat⟩
  ·rw [List.getElem?_set] at hu
   split at hu
   ·split at hu
    ·cases hu; exact ⟨Int.le_refl _,fun h => absurd h (by omega)⟩
    ·cases hu
   ·obtain ⟨u0,u1⟩ := h2 c' u hu
    refine ⟨u0,fun hp => ?_⟩
    obtain ⟨m,j,q1,q2,q3⟩ := u1 hp
    by_cases he : (v - 1).toNat = (u - 1).toNat
    ·have : m = n := by rw [← he,hni] at q1; exact (Option.some.inj q1).symm
     subst this
     exact ⟨⟨m.event,m.course,m.pitch,m.from_,at_⟩,j,by rw [List.getElem?_set,if_pos he,if_pos hml],q2,q3⟩
    ·exact ⟨m,j,by rw [List.getElem?_set,if_neg he]; exact q1,q2,q3⟩
  ·rw [List.getElem?_set,if_pos rfl,if_pos (by omega)]
 ·have hd : decide (0 < v) = false := by simpa using h0
  simp only [hd,cond_false]
  have hv0 : v = 0 := by omega
  exact ⟨_,_,rfl,rfl,hs,⟨h1,h2⟩,by rw [hg,hv0]⟩
theorem ringE_next {ons : List Int} {ns : List GNote} {ring : List Int} {k : Nat} {last : Int} (h : RingE ons ns ring k last) : RingE ons ns ring (k + 1) (-1) :=
 ⟨h.1,fun c v hv => ⟨(h.2 c v hv).1,fun hp => by obtain ⟨n,i,a,b,d⟩ := (h.2 c v hv).2 hp; exact ⟨n,i,a,b,by omega⟩⟩⟩
def lastD (l : List GStop) : Nat → Int
 | 0 => -1
 | k + 1 => ((l[k]?).map (·.course)).getD 0
theorem bind_invL {σ τ A B : Type} {body : σ → Option (σ ⊕ τ)} {s0 : σ} {f : τ → Option (A ⊕ B)} {Q : A → Prop} (I : Nat → σ → Prop) (T : τ → Prop) (m : Nat) (hm : m ≤ 4194304) (h0 : I 0 s0)
  (hb : ∀ k s,k < m → I k s → ∃ s',body s = some (.inl s') ∧ I (k + 1) s') (he : ∀ s,I m s → ∃ t,body s = some (.inr t) ∧ T t) (hf : ∀ t,T t → ∃ r,f t = some (.inl r) ∧ Q r) : ∃ r,(loopN body FUEL s0).bind f = some (.inl r) ∧ Q r := by
 obtain ⟨t,h1,h2⟩ := loop_inv I T m hb he m 0 FUEL s0 (by omega) (by unfold FUEL; omega) h0
 obtain ⟨r,h3,h4⟩ := hf t h2
 exact ⟨r,by rw [h1]; exact h3,h4⟩
theorem notes_spans (p : GPiece) (hv : ValidP p) : ∃ r,f55 ⟨p,onsS p⟩ = some r ∧ r.1.length ≤ 14 * p.events.length ∧ Spans (onsS p) r.1 := by
 have hc14 := (instS_ok hv.inst).1
 have hm := hv.many
 have hol : (onsS p).length = p.events.length + 1 := by unfold onsS; rw [ons_len]; simp; omega
 have hs : Small p.events := by simp only [Small]; omega
 obtain ⟨en,hend,hge⟩ : ∃ x,f69 ⟨p,onsS p⟩ = some x ∧ (onsS p)[p.events.length]? = some x := by
  have hw : wr (((onsS p).length : Int) - 1) = (p.events.length : Int) := by rw [hol,wr64 (by omega) (by omega)]; omega
  have hg : (onsS p)[p.events.length]? = some ((onsS p)[p.events.length]'(by omega)) := List.getElem?_eq_getElem (by omega)
  unfold f69
  simp only [hw,ixNat hg,Option.bind_some]
  exact ⟨_,rfl,hg⟩
 unfold f55
 refine bind_inv (fun k (s : List GNote × List GSPress × List Int × Int) => s.2.2.2 = (k : Int) ∧ s.1.length ≤ 14 * k ∧ s.2.1.length ≤ 14 * k ∧ RingE (onsS p) s.1 s.2.2.1 k (-1) ∧ Spans (onsS p) s.1) (fun t : List GNote × List GSPress => t.1.length ≤ 14 * p.events.length ∧ Spans (onsS p) t.1) p.events.length (by omega)
  ⟨rfl,by simp,by simp,⟨by simp,fun c v hv => by
   rw [List.getElem?_replicate] at hv
   split at hv
   ·cases hv; exact ⟨Int.le_refl _,fun h => absurd h (by omega)⟩
   ·cases hv⟩,(fun n hn => by cases hn)⟩ ?_ ?_ (fun t ht => ⟨t,rfl,ht⟩)
 ·rintro k ⟨notes,presses,ring,i⟩ hk ⟨rfl,h1,h2,h3,h4⟩
  have hg : p.events[k]? = some (p.events[k]'hk) := List.getElem?_eq_getElem hk
  have hev := hv.ev k _ hg
  have hfew := stops_few hv hg
  generalize p.events[k]'hk = e at hg hev hfew
  have hgo : (onsS p)[k]? = some ((onsS p)[k]'(by omega)) := List.getElem?_eq_getElem (by omega)
  generalize (onsS p)[k]'(by omega) = at_ at hgo
  simp only at h1 h2 h3 h4
  simp only [dltLen hg,cond_true,ixNat hg,ixNat hgo,Option.bind_some,andP,lenP]
  have hrest : ∃ n' r',((bif (decide (e.stops.length = 0) && !e.tie) then ((loopN (σ := (List GNote × List Int × Int)) (τ := (List GNote × List Int)) (fun ((l4_h1,l4_h2,l4_41) : (List GNote × List Int × Int)) => bif (decide (l4_41 < 15)) then ((f67 l4_41 at_ l4_h2 l4_h1).bind fun r7 => some (.inl (r7.1,r7.2,(wr (l4_41 + 1))))) else (some (.inr (l4_h1,l4_h2)))) FUEL (notes,ring,0)).bind fun ((l4x_h1,l4x_h2) : (List GNote × List Int)) => some (l4x_h1,l4x_h2)) else (some (notes,ring))) : Option (List GNote × List Int)) = some (n',r') ∧ n'.length = notes.length ∧ RingE (onsS p) n' r' k (-1) ∧ Spans (onsS p) n' := by
   cases (decide (e.stops.length = 0) && !e.tie) with
   | false => exact ⟨notes,ring,rfl,rfl,h3,h4⟩
   | true =>
    simp only [cond_true]
    have hl := loop_inv (body := fun ((l4_h1,l4_h2,l4_41) : (List GNote × List Int × Int)) => bif (decide (l4_41 < 15)) then ((f67 l4_41 at_ l4_h2 l4_h1).bind fun r7 => some (.inl (r7.1,r7.2,(wr (l4_41 + 1))))) else (some (.inr (l4_h1,l4_h2))))
     (fun c (s : List GNote × List Int × Int) => s.2.2 = (c : Int) ∧ s.1.length = notes.length ∧ RingE (onsS p) s.1 s.2.1 k (-1) ∧ Spans (onsS p) s.1) (fun t : List GNote × List Int => t.1.length = notes.length ∧ RingE (onsS p) t.1 t.2 k (-1) ∧ Spans (onsS p) t.1) 15
     (by
      rintro c ⟨n1,r1,i1⟩ hc ⟨rfl,g1,g2,g3⟩
      obtain ⟨n',r',q1,q2,q3,q4,_⟩ := stopE (onsS p) c k at_ r1 n1 (-1) hc g2 (by omega) hgo g3 (by simp only at g1; omega)
      have hd : decide ((c : Int) < 15) = true := by simp; omega
      simp only [hd,cond_true,q1,Option.bind_some,wrNat (show c ≤ 4194304 by omega)]
      exact ⟨_,rfl,rfl,by simp only at g1 ⊢; omega,q4,q3⟩)
     (by
      rintro ⟨n1,r1,i1⟩ ⟨rfl,g1,g2,g3⟩
      exact ⟨(n1,r1),by simp,g1,g2,g3⟩) 15 0 FUEL (notes,ring,0) (by omega) (by unfold FUEL; omega) ⟨rfl,rfl,h3,h4⟩
    obtain ⟨⟨n',r'⟩,q1,q2,q3,q4⟩ := hl
    exact ⟨n',r',by rw [q1]; rfl,q2,q3,q4⟩
  obtain ⟨n2,r2,hq,hn2,hr2,hs2⟩ := hrest
  rw [hq]
  simp only [Option.bind_some]
  have hss : Small e.stops := by simp only [Small]; omega
  refine bind_invL (fun j (s : List GNote × List GSPress × List Int × Int) => s.2.2.2 = (j : Int) ∧ s.1.length ≤ 14 * k + j ∧ s.2.1.length ≤ 14 * k + j ∧ RingE (onsS p) s.1 s.2.2.1 k (lastD e.stops j) ∧ Spans (onsS p) s.1) (fun t : List GNote × List GSPress × List Int => t.1.length ≤ 14 * k + e.stops.length ∧ t.2.1.length ≤ 14 * k + e.stops.length ∧ (∃ last,RingE (onsS p) t.1 t.2.2 k last) ∧ Spans (onsS p) t.1) e.stops.length (by omega)
   ⟨rfl,by simp only; omega,by simp only; omega,hr2,hs2⟩ ?_ ?_ ?_
  ·rintro j ⟨n3,p3,r3,i3⟩ hj ⟨rfl,g1,g2,g3,g4⟩
   have hgs : e.stops[j]? = some (e.stops[j]'hj) := List.getElem?_eq_getElem hj
   have hso := hev.stops j _ hgs
   generalize e.stops[j]'hj = st at hgs hso
   simp only at g1 g2 g3 g4
   obtain ⟨c1,c2⟩ := hso.course
   have hcn : ((st.course.toNat : Nat) : Int) = st.course := by omega
   have hlast : lastD e.stops j < ((st.course.toNat : Nat) : Int) := by
    have ha := hso.after
    cases j with
    | zero => simp only [lastD]; omega
    | succ j => simp only [lastD] at ha ⊢; omega
   obtain ⟨n4,r4,q1,q2,q3,q4,q5⟩ := stopE (onsS p) st.course.toNat k at_ r3 n3 _ (by omega) g3 hlast hgo g4 (by omega)
   rw [hcn] at q1
   have hr4 := ringE_len q4
   obtain ⟨pt,hpt⟩ := at_ok p.instrument ⟨st.course,st.fret⟩ hv.inst
   have hm1 : n4.length + 1 ≤ maxElems := by unfold maxElems; omega
   have hm2 : p3.length + 1 ≤ maxElems := by unfold maxElems; omega
   have hstep : ∃ r5 x5,((bif (decide (0 < st.fret)) then ((f70 ⟨p,onsS p⟩ (k : Int) st.hold).bind fun r14 => (ix (onsS p) (wr (r14 + 1))).bind fun y15 => some (r4,y15)) else (need (st.course < 15) <| (ix r4 st.course).bind fun y17 => some ((r4.set st.course.toNat (wr ((n4.length : Int) + 1))),en))) : Option (List Int × Int)) = some (r5,x5) ∧ (∃ j',k < j' ∧ (onsS p)[j']? = some x5) ∧
     ∀ nn : GNote,nn.from_ = at_ → RingE (onsS p) (n4 ++ [nn]) r5 k st.course := by
    have hgrow : ∀ nn : GNote,RingE (onsS p) (n4 ++ [nn]) r4 k st.course := fun nn => by
     refine ⟨q4.1,fun c' u hu => ?_⟩
     obtain ⟨u0,u1⟩ := q4.2 c' u hu
     refine ⟨u0,fun hp => ?_⟩
     obtain ⟨m,i',a1,a2,a3⟩ := u1 hp
     have := (List.getElem?_eq_some_iff.1 a1).1
     exact ⟨m,i',by rw [List.getElem?_append_left this]; exact a1,a2,by omega⟩
    by_cases hf : 0 < st.fret
    ·have hd : decide (0 < st.fret) = true := by simpa using hf
     have hlb := long_bound st.course (p.events.drop (k + 1)) 0 0 (by omega) (by omega)
     have hh := hso.hold
     unfold longS at hh
     rw [List.length_drop] at hlb
     obtain ⟨r,s1,s2,s3⟩ := stay_ok p (onsS p) k st.hold hh.1 (by omega) hm
     have hw : wr ((r : Int) + 1) = ((r + 1 : Nat) : Int) := wrNat (by omega)
     have hgr : (onsS p)[r + 1]? = some ((onsS p)[r + 1]'(by omega)) := List.getElem?_eq_getElem (by omega)
     simp only [hd,cond_true,s1,Option.bind_some,hw,ixNat hgr]
     exact ⟨r4,_,rfl,⟨r + 1,by omega,hgr⟩,fun nn _ => hgrow nn⟩
    ·have hd : decide (0 < st.fret) = false := by simpa using hf
     have h15 : st.course < 15 := by omega
     have hgr' := ixNat q5
     rw [hcn] at hgr'
     have hw : wr ((n4.length : Int) + 1) = (n4.length : Int) + 1 := wr64 (by omega) (by omega)
     simp only [hd,cond_false,need,if_pos h15,hgr',Option.bind_some,hw]
     refine ⟨_,_,rfl,⟨p.events.length,hk,hge⟩,fun nn hnn => ⟨by simp [q4.1],fun c' u hu => ?_⟩⟩
     rw [List.getElem?_set] at hu
     split at hu
     ·rename_i hcc
      split at hu
      ·cases hu
       refine ⟨by omega,fun _ => ⟨nn,k,?_,by rw [hnn]; exact hgo,.inr ⟨rfl,by omega⟩⟩⟩
       have : ((n4.length : Int) + 1 - 1).toNat = n4.length := by omega
       rw [this,List.getElem?_append_right (Nat.le_refl _)]; simp
      ·cases hu
     ·exact (hgrow nn).2 c' u hu
   obtain ⟨r5,x5,w1,⟨j',w2,w3⟩,w4⟩ := hstep
   simp only [dltLen hgs,cond_true,ixNat hgs,Option.bind_some,q1,hpt,hend]
   rw [w1]
   simp only [Option.bind_some,need,if_pos hm1,if_pos hm2,wrLen hss hgs]
   refine ⟨_,rfl,rfl,by simp only [List.length_append,List.length_cons,List.length_nil]; omega,by simp only [List.length_append,List.length_cons,List.length_nil]; omega,?_,fun n hn => ?_⟩
   ·simp only [lastD,hgs,Option.map_some,Option.getD_some]
    exact w4 _ rfl
   ·rcases List.mem_append.1 hn with hn | hn
    ·exact q3 n hn
    ·rw [List.mem_singleton] at hn
     subst hn
     exact ⟨k,j',w2,hgo,w3⟩
  ·rintro ⟨n3,p3,r3,i3⟩ ⟨rfl,g1,g2,g3,g4⟩
   exact ⟨(n3,p3,r3),by simp,g1,g2,⟨_,g3⟩,g4⟩
  ·rintro ⟨n6,p6,r6⟩ ⟨z2,z3,⟨last,z4⟩,z5⟩
   simp only [wrLen hs hg]
   exact ⟨_,rfl,rfl,by simp only at z2 ⊢; omega,by simp only at z3 ⊢; omega,ringE_next z4,z5⟩
 ·rintro ⟨notes,presses,ring,i⟩ ⟨rfl,h1,h2,h3,h4⟩
  exact ⟨(notes,presses),by simp,h1,h4⟩
end Go.Proofs.Ytpljabnngpnieaa
