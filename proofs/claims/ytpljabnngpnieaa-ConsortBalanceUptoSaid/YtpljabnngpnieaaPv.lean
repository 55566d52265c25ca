/-
  Plain laws of the player,part 5: a new player; a player played to its end; two players that show the same.
  Own work. No Go text.
-/
import Derived.Test.YtpljabnngpnieaaPn
import Derived.Test.YtpljabnngpnieaaPw
import Derived.Test.YtpljabnngpnieaaV11
import Derived.Test.YtpljabnngpnieaaV16
import Derived.Test.YtpljabnngpnieaaV14
set_option linter.all false
namespace Go.Proofs.Ytpljabnngpnieaa
open Go Go.Am
theorem bind_scan {α σ τ R : Type} {body : σ → Option (σ ⊕ τ)} {s0 : σ} {f : τ → Option R} {Q : R → Prop} (st : Nat → σ) (h0 : st 0 = s0) (l : List α) (hl : Small l) (good : Nat → α → Prop) (bad : τ → Prop) (fin : τ)
    (hb : ∀ (i : Nat) y,l[i]? = some y → (body (st i) = some (.inl (st (i + 1))) ∧ good i y) ∨ ∃ e,body (st i) = some (.inr e) ∧ bad e)
    (he : body (st l.length) = some (.inr fin)) (hg : (∀ (i : Nat) y,l[i]? = some y → good i y) → ∃ r,f fin = some r ∧ Q r) (hx : ∀ e,bad e → ∃ r,f e = some r ∧ Q r) : ∃ r,(loopN body FUEL s0).bind f = some r ∧ Q r := by
  have key : ∀ (d k n : Nat),k + d = l.length → d < n → (loopN body n (st k) = some fin ∧ ∀ (i : Nat) y,k ≤ i → l[i]? = some y → good i y) ∨ ∃ e,loopN body n (st k) = some e ∧ bad e := by
    intro d
    induction d with
    | zero =>
      intro k n hk hn
      have : k = l.length := by omega
      subst this
      cases n with
      | zero => omega
      | succ n =>
        refine .inl ⟨by simp only [loopN,he],fun i y hi hy => ?_⟩
        have := (List.getElem?_eq_some_iff.1 hy).1
        omega
    | succ d ih =>
      intro k n hk hn
      cases n with
      | zero => omega
      | succ n =>
        have hgk : l[k]? = some (l[k]'(by omega)) := List.getElem?_eq_getElem (by omega)
        rcases hb k _ hgk with ⟨h1,h2⟩ | ⟨e,h1,h2⟩
        · rcases ih (k + 1) n (by omega) (by omega) with ⟨h3,h4⟩ | ⟨e,h3,h4⟩
          · refine .inl ⟨by simp only [loopN,h1]; exact h3,fun i y hi hy => ?_⟩
            by_cases hik : i = k
            · subst hik
              rw [hgk] at hy
              cases hy
              exact h2
            · exact h4 i y (by omega) hy
          · exact .inr ⟨e,by simp only [loopN,h1]; exact h3,h4⟩
        · exact .inr ⟨e,by simp only [loopN,h1],h2⟩
  subst h0
  simp only [Small] at hl
  rcases key l.length 0 FUEL (by omega) (by unfold FUEL; omega) with ⟨h1,h2⟩ | ⟨e,h1,h2⟩
  · rw [h1]; exact hg fun i y hy => h2 i y (Nat.zero_le _) hy
  · rw [h1]; exact hx e h2
def bigS (l : List GPiece) : Bool := l.any (fun p => decide (60 < p.events.length) && decide (p.events.length ≤ 400)) || decide (8 < l.length)
theorem f9_eq (l : List GPiece) (hs : Small l) : f9 l = some (bigS l) := by
  unfold f9 bigS
  rw [loop_find l (fun p => decide (60 < p.events.length) && decide (p.events.length ≤ 400)) (fun _ _ => true) hs]
  · have e8 : decide (8 < (l.length : Int)) = decide (8 < l.length) := dltN 8 _
    simp only [Option.bind_some,findS_any,e8]
    cases l.any _ <;> rfl
  · intro i p hp
    have e1 : decide (60 < (p.events.length : Int)) = decide (60 < p.events.length) := dltN 60 _
    have e2 : decide ((p.events.length : Int) ≤ 400) = decide (p.events.length ≤ 400) := by
      by_cases h : p.events.length ≤ 400
      · have : (p.events.length : Int) ≤ 400 := by omega
        simp [h,this]
      · have : ¬ (p.events.length : Int) ≤ 400 := by omega
        simp [h,this]
    simp only [dltLen hp,cond_true,ixNat hp,Option.bind_some,andP,e1,e2]
    cases (decide (60 < p.events.length) && decide (p.events.length ≤ 400)) <;> rfl
  · simp
theorem onsets_ok (p : GPiece) (hp : SmallP p) : ∃ r,f39 p = some r ∧ (r.2 = 0 → ValidP p ∧ r.1 = onsS p) := by
  obtain ⟨e,h1,h2⟩ := check_ok p hp ⟨_,icheck_eq _,fun h => (instS_ok h).1⟩
  unfold f39
  rw [h1]
  simp only [Option.bind_some]
  by_cases h0 : e = 0
  · subst h0
    obtain ⟨g1,g2,g3,g4⟩ := h2 rfl
    have d0 : decide ((0 : Int) ≠ 0) = false := rfl
    rw [icheck_eq] at g1
    have hv : ValidP p := ⟨Option.some.inj g1,g3,g4⟩
    simp only [d0,cond_false,f60,Option.bind_some,f76_eq p g3]
    exact ⟨_,rfl,fun _ => ⟨hv,rfl⟩⟩
  · have d0 : decide (e ≠ 0) = true := by simpa using h0
    rw [d0]
    exact ⟨_,rfl,fun h => absurd h h0⟩
def endP (p : GPiece) : Int := ((onsS p).getLast?).getD 0
theorem ons_shape {p : GPiece} (hv : ValidP p) : ∃ s,onsS p = 0 :: s ∧ ascF 0 s ∧ s.length = p.events.length := by
  have hm := hv.many
  obtain ⟨s,h1,h2,h3⟩ := ons_asc p.events [] 0 0 (.inr fun e he => by
    have : p.events[0]? = some e := by rw [← List.head?_eq_getElem?]; exact he
    exact (hv.ev 0 e this).first rfl) (by omega) (by omega) (by omega) (by omega)
  exact ⟨s,h1,h2,h3⟩
theorem last_ok {p : GPiece} (hv : ValidP p) : ix (onsS p) (wr (((onsS p).length : Int) - 1)) = some (endP p) ∧ 0 ≤ endP p ∧ endP p ≤ 230400 ∧ (onsS p).length ≠ 0 := by
  obtain ⟨s,h1,h2,h3⟩ := ons_shape hv
  have hm := hv.many
  have hl : (onsS p).length = s.length + 1 := by rw [h1]; simp
  have hw : wr (((onsS p).length : Int) - 1) = (s.length : Int) := by rw [hl,wr64 (by omega) (by omega)]; omega
  have hg : (onsS p)[s.length]? = some (endP p) := by
    have h4 : (onsS p)[s.length]? = some ((onsS p)[s.length]'(by omega)) := List.getElem?_eq_getElem (by omega)
    have h5 : (onsS p).getLast? = (onsS p)[(onsS p).length - 1]? := List.getLast?_eq_getElem?
    rw [hl,Nat.add_sub_cancel,h4] at h5
    unfold endP
    rw [h5,h4]; rfl
  have hb := asc_bounds s 0 h2 s.length (endP p) (by rw [← h1]; exact hg)
  refine ⟨by rw [hw]; exact ixNat hg,hb.1,by omega,by omega⟩
theorem notes_eq {p : GPiece} (hv : ValidP p) (h39 : f39 p = some (onsS p,0)) : ∃ ns,f32 p = some (ns,0) ∧ ns.length ≤ 14 * p.events.length := by
  obtain ⟨r,h1,h2⟩ := notes_ok p hv
  have d0 : decide ((0 : Int) ≠ 0) = false := rfl
  unfold f32 f54
  rw [h39]
  simp only [Option.bind_some,d0,cond_false,h1]
  exact ⟨_,rfl,h2⟩
def SizeC (l : List GPiece) : Prop := Small l ∧ ∀ p ∈ l,SmallP p
theorem band_ok (l : List GPiece) (hs : SizeC l) : ∃ r,f49 l = some r ∧ (r.2 = 0 → 0 < l.length ∧ l.length ≤ 6 ∧ (∀ (i : Nat) p,l[i]? = some p → ValidP p ∧ f39 p = some (onsS p,0)) ∧ r.1 = l.map endP) := by
  unfold f49
  rw [lenP]
  by_cases h0 : l.length = 0
  · have hd : decide (l.length = 0) = true := by simpa using h0
    rw [hd]; exact ⟨_,rfl,fun h => by cases h⟩
  · have hd : decide (l.length = 0) = false := by simpa using h0
    rw [hd,cond_false]
    by_cases h6 : 6 < l.length
    · have hd6 : decide (6 < (l.length : Int)) = true := by simp; omega
      rw [hd6]; exact ⟨_,rfl,fun h => by cases h⟩
    · have hd6 : decide (6 < (l.length : Int)) = false := by simp; omega
      rw [hd6,cond_false]
      refine bind_scan (fun i => ((l.take i).map endP,(i : Int))) (by simp) l hs.1 (fun i p => ValidP p ∧ f39 p = some (onsS p,0)) (fun e => ∃ x : List Int × Int,e = .inr x ∧ x.2 ≠ 0) (.inl (l.map endP)) ?_ ?_ ?_ ?_
      · intro i p hp
        have hil := (List.getElem?_eq_some_iff.1 hp).1
        obtain ⟨r,h1,h2⟩ := onsets_ok p (hs.2 p (List.mem_of_getElem? hp))
        simp only [dltLen hp,cond_true,ixNat hp,Option.bind_some,h1]
        by_cases hz : r.2 = 0
        · obtain ⟨hv,hr⟩ := h2 hz
          have dz : decide (r.2 ≠ 0) = false := by simpa using hz
          obtain ⟨g1,_⟩ := last_ok hv
          have hm : ((l.take i).map endP).length + 1 ≤ maxElems := by rw [List.length_map,List.length_take]; unfold maxElems; omega
          refine .inl ⟨?_,hv,?_⟩
          · simp only [dz,cond_false,hr,g1,Option.bind_some,need,if_pos hm,wrLen hs.1 hp,take_snoc hp,List.map_append,List.map_cons,List.map_nil]
          · exact congrArg some (Prod.ext hr hz)
        · have dz : decide (r.2 ≠ 0) = true := by simpa using hz
          refine .inr ⟨.inr ([],r.2),by rw [dz]; rfl,_,rfl,hz⟩
      · simp
      · intro hg
        exact ⟨_,rfl,fun _ => ⟨by omega,by omega,hg,rfl⟩⟩
      · rintro e ⟨x,rfl,hx⟩
        exact ⟨x,rfl,fun h => absurd h hx⟩
theorem min_ok (l : List Int) (h0 : 0 < l.length) (hs : l.length ≤ 100) : (∃ m,f50 l = some m) ∧ ∃ m,f51 l = some m := by
  have hd : decide ((l.length : Int) < 1) = false := by simp; omega
  have hg : l[0]? = some (l[0]'h0) := List.getElem?_eq_getElem h0
  have hg' : ix l 0 = some (l[0]'h0) := ixNat hg
  have hls : Small l := by simp only [Small]; omega
  constructor
  · unfold f50
    simp only [hd,cond_false,Option.bind_some,hg']
    obtain ⟨t,h1,_⟩ := loop_inv (body := fun ((l2_3,l2_4) : (Int × Int)) => bif (decide (l2_4 < (l.length : Int))) then ((ix l l2_4).bind fun y4 => some (.inl ((minI l2_3 y4),(wr (l2_4 + 1))))) else (some (.inr l2_3))) (fun k (s : Int × Int) => s.2 = (k : Int)) (fun _ => True) l.length
      (by rintro k ⟨a,b⟩ hk rfl
          have hgk : l[k]? = some (l[k]'hk) := List.getElem?_eq_getElem hk
          simp only [dltLen hgk,cond_true,ixNat hgk,Option.bind_some,wrLen hls hgk]
          exact ⟨_,rfl,rfl⟩)
      (by rintro ⟨a,b⟩ rfl; exact ⟨a,by simp,trivial⟩) (l.length - 1) 1 FUEL (l[0]'h0,1) (by omega) (by unfold FUEL; omega) rfl
    rw [h1]; exact ⟨_,rfl⟩
  · unfold f51
    simp only [hd,cond_false,Option.bind_some,hg']
    obtain ⟨t,h1,_⟩ := loop_inv (body := fun ((l2_3,l2_4) : (Int × Int)) => bif (decide (l2_4 < (l.length : Int))) then ((ix l l2_4).bind fun y4 => some (.inl ((maxI l2_3 y4),(wr (l2_4 + 1))))) else (some (.inr l2_3))) (fun k (s : Int × Int) => s.2 = (k : Int)) (fun _ => True) l.length
      (by rintro k ⟨a,b⟩ hk rfl
          have hgk : l[k]? = some (l[k]'hk) := List.getElem?_eq_getElem hk
          simp only [dltLen hgk,cond_true,ixNat hgk,Option.bind_some,wrLen hls hgk]
          exact ⟨_,rfl,rfl⟩)
      (by rintro ⟨a,b⟩ rfl; exact ⟨a,by simp,trivial⟩) (l.length - 1) 1 FUEL (l[0]'h0,1) (by omega) (by unfold FUEL; omega) rfl
    rw [h1]; exact ⟨_,rfl⟩
def endC (l : List GPiece) : Int := ((l.map endP)[0]?).getD 0
def ValidC (l : List GPiece) : Prop := 0 < l.length ∧ l.length ≤ 6 ∧ ∀ (i : Nat) p,l[i]? = some p → ValidP p ∧ f39 p = some (onsS p,0)
theorem length_ok (c : GConsort) (hs : SizeC c.pieces) : ∃ r,f30 c = some r ∧ (r.2 = 0 → ValidC c.pieces ∧ r.1 = endC c.pieces) := by
  obtain ⟨r,h1,h2⟩ := band_ok c.pieces hs
  unfold f30
  rw [h1]
  simp only [Option.bind_some]
  by_cases hz : r.2 = 0
  · obtain ⟨g1,g2,g3,g4⟩ := h2 hz
    have dz : decide (r.2 ≠ 0) = false := by simpa using hz
    obtain ⟨⟨m1,hm1⟩,m2,hm2⟩ := min_ok (c.pieces.map endP) (by simp; omega) (by simp; omega)
    have hg : (c.pieces.map endP)[0]? = some ((c.pieces.map endP)[0]'(by simp; omega)) := List.getElem?_eq_getElem (by simp; omega)
    have hg' : ix (c.pieces.map endP) 0 = some (endC c.pieces) := by
      unfold endC
      rw [hg]
      exact ixNat hg
    simp only [dz,cond_false,g4,hm1,hm2,Option.bind_some]
    by_cases hmm : m1 = m2
    · have dm : decide (m1 ≠ m2) = false := by simpa using hmm
      simp only [dm,cond_false,hg',Option.bind_some]
      exact ⟨_,rfl,fun _ => ⟨⟨g1,g2,g3⟩,rfl⟩⟩
    · have dm : decide (m1 ≠ m2) = true := by simpa using hmm
      rw [dm]; exact ⟨_,rfl,fun h => by cases h⟩
  · have dz : decide (r.2 ≠ 0) = true := by simpa using hz
    rw [dz]; exact ⟨_,rfl,fun h => absurd h hz⟩
def deskP (p : GPiece) : GCDesk := ⟨((f32 p).getD ([],0)).1,false,0⟩
theorem new_ok (c : GConsort) (hs : SizeC c.pieces) : ∃ r,f11 c = some r ∧ ((∃ e,r = .inl e ∧ e ≠ 0) ∨ (ValidC c.pieces ∧ r = .inr (endC c.pieces,c.pieces.map deskP))) := by
  obtain ⟨r,h1,h2⟩ := length_ok c hs
  unfold f11
  rw [h1]
  simp only [Option.bind_some]
  by_cases hz : r.2 = 0
  · obtain ⟨hv,hr⟩ := h2 hz
    have dz : decide (r.2 ≠ 0) = false := by simpa using hz
    rw [dz,cond_false]
    refine bind_scan (fun i => ((c.pieces.take i).map deskP,(i : Int))) (by simp) c.pieces hs.1 (fun _ _ => True) (fun _ => False) (.inl (c.pieces.map deskP)) ?_ ?_ ?_ ?_
    · intro i p hp
      have hil := (List.getElem?_eq_some_iff.1 hp).1
      obtain ⟨v1,v2⟩ := hv.2.2 i p hp
      obtain ⟨ns,n1,n2⟩ := notes_eq v1 v2
      have hdp : deskP p = ⟨ns,false,0⟩ := by unfold deskP; rw [n1]; rfl
      have hm : ((c.pieces.take i).map deskP).length + 1 ≤ maxElems := by have := hv.2.1; rw [List.length_map,List.length_take]; unfold maxElems; omega
      have d0 : decide ((0 : Int) ≠ 0) = false := rfl
      refine .inl ⟨?_,trivial⟩
      simp only [dltLen hp,cond_true,ixNat hp,Option.bind_some,n1,d0,cond_false,need,if_pos hm,wrLen hs.1 hp,take_snoc hp,List.map_append,List.map_cons,List.map_nil,hdp]
    · simp
    · intro _
      exact ⟨_,rfl,.inr ⟨hv,by rw [hr]⟩⟩
    · intro e he; exact he.elim
  · have dz : decide (r.2 ≠ 0) = true := by simpa using hz
    rw [dz]; exact ⟨_,rfl,.inl ⟨_,rfl,hz⟩⟩
theorem endC_ok {l : List GPiece} (hv : ValidC l) : 0 ≤ endC l ∧ endC l ≤ 230400 := by
  obtain ⟨h1,h2,h3⟩ := hv
  have hg : l[0]? = some (l[0]'h1) := List.getElem?_eq_getElem h1
  obtain ⟨_,g2,g3,_⟩ := last_ok (h3 0 _ hg).1
  have he : endC l = endP (l[0]'h1) := by unfold endC; rw [List.getElem?_map,hg]; rfl
  rw [he]; exact ⟨g2,g3⟩
def newS (l : List GPiece) : GCPlayer := ⟨⟨0⟩,0,endC l,true,l.map deskP,0,0,0,⟨[]⟩,[]⟩
theorem new_keeps {l : List GPiece} (hv : ValidC l) (hb : bigS l = false) : Keeps 0 (newS l) := by
  have he := endC_ok hv
  refine ⟨⟨Int.le_refl _,he.1,by show endC l ≤ _; omega⟩,by show (l.map deskP).length ≤ 6; rw [List.length_map]; exact hv.2.1,fun d hd => ?_,rfl,fun _ => rfl,(fun h => by cases h),(fun x hx => by cases hx),Nat.le_refl _⟩
  obtain ⟨p,hp,rfl⟩ := List.mem_map.1 (show d ∈ l.map deskP from hd)
  obtain ⟨i,hi⟩ := List.getElem?_of_mem hp
  obtain ⟨v1,v2⟩ := hv.2.2 i p hi
  obtain ⟨ns,n1,n2⟩ := notes_eq v1 v2
  have hdp : deskP p = ⟨ns,false,0⟩ := by unfold deskP; rw [n1]; rfl
  have h60 : p.events.length ≤ 60 := by
    unfold bigS at hb
    simp only [Bool.or_eq_false_iff,List.any_eq_false,Bool.and_eq_true,decide_eq_true_eq,not_and] at hb
    have h1 := hb.1 p hp
    have h2 := v1.many
    omega
  rw [hdp]
  show ns.length ≤ 1000
  omega
def er (x : GCLive) : GCLive := ⟨x.note,x.desk,0⟩
structure Alike (p q : GCPlayer) : Prop where
  now : p.now = q.now
  end_ : p.end_ = q.end_
  waiting : p.waiting = q.waiting
  desks : p.desks = q.desks
  tp : p.times = 0
  tq : q.times = 0
  live : p.sounding.l.map er = q.sounding.l.map er
end Go.Proofs.Ytpljabnngpnieaa
