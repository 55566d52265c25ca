/-
  Plain laws of the player,part 14: ConsortRepeats.
  Own work. No Go text.
-/
import Derived.Test.YtpljabnngpnieaaPs
import Derived.Test.YtpljabnngpnieaaV4
set_option linter.all false
namespace Go.Proofs.Ytpljabnngpnieaa
open Go Go.Am
theorem run_playsR {E : Int} {D : List GTake} {r : Int} {V : List Int} {C : Int} : ∀ (n m k : Nat) (p : GCPlayer),PlaysR E D r V C m k p → leftR V p ≤ n → (∃ m' k',PlaysR E D r V C m' k' (runS n p).2) ∧ doneS (runS n p).2 = true
  | 0,m,k,p,h,hl => by
    have hd : doneS p = true := by
      cases hd : doneS p with
      | true => rfl
      | false => have := (step_keepsR h.keeps hd).2.2.1; omega
    exact ⟨⟨m,k,h⟩,hd⟩
  | n + 1,m,k,p,h,hl => by
    cases hd : doneS p with
    | true =>
      have hr : runS (n + 1) p = ([],p) := by simp only [runS,hd,cond_true]
      rw [hr]
      exact ⟨⟨m,k,h⟩,hd⟩
    | false =>
      have hr : runS (n + 1) p = ((stepS p).1 :: (runS n (stepS p).2.2).1,(runS n (stepS p).2.2).2) := by simp only [runS,hd,cond_false]
      obtain ⟨m',s1⟩ := step_playsR h hd
      have hlt := (step_keepsR h.keeps hd).2.2.1
      rw [hr]
      exact run_playsR n m' (k + 1) (stepS p).2.2 s1 (by omega)
theorem end_playsR {E : Int} {D : List GTake} {r : Int} {V : List Int} {C : Int} {m k : Nat} {p : GCPlayer} (h : PlaysR E D r V C m k p) (hd : doneS p = true) : ∃ bl,p.takes = bl.flatten ∧ (bl.length : Int) = r + 1 ∧ Blocks E D bl := by
  unfold doneS at hd
  simp only [Bool.and_eq_true,Bool.not_eq_true',decide_eq_true_eq] at hd
  obtain ⟨hw,he⟩ := hd
  obtain ⟨z1,z2,z3⟩ := h.ends
  have ht : p.times = 0 := by
    by_cases h0 : 0 < p.times
    · have := h.keeps.rep h0; omega
    · have := h.keeps.times; omega
  have hm : (m : Int) = r := by have := h.pass; omega
  have hl := h.live hw
  have hs : p.sounding.l = [] := by
    cases hq : p.sounding.l with
    | nil => rfl
    | cons x r =>
      have hx : x ∈ p.sounding.l := by rw [hq]; simp
      obtain ⟨d,hd,hn⟩ := h.keeps.mem x hx
      have h1 := ((h.fine d hd).2 x.note hn).2.2
      have h2 := hl x hx
      omega
  obtain ⟨bl,cur,a1,a2,a3,a4⟩ := h.all hw
  have hf : D.filter (toF p.now) = D := by
    rw [List.filter_eq_self]
    intro t ht
    rw [← h.desks] at ht
    obtain ⟨d,hd,_,n,hn,e1,_⟩ := allT_mem ht
    have := (h.fine d hd).2 n hn
    unfold toF
    simp only [decide_eq_true_eq]
    omega
  rw [hs,hf,List.map_nil,List.append_nil] at a4
  refine ⟨bl ++ [cur],by rw [a1]; simp,by simp [a2]; omega,blocks_add a3 (by rw [a2]; exact a4)⟩
theorem block_len (N : Nat) : ∀ bl : List (List GTake),(∀ b ∈ bl,b.length = N) → bl.flatten.length = bl.length * N
  | [],_ => by simp
  | b :: r,h => by
    have h1 := block_len N r fun c hc => h c (List.mem_cons_of_mem _ hc)
    have h2 := h b (by simp)
    rw [List.flatten_cons,List.length_append,h1,h2,List.length_cons,Nat.succ_mul]
    omega
theorem block_at (N : Nat) : ∀ (bl : List (List GTake)),(∀ b ∈ bl,b.length = N) → ∀ (j : Nat) b,bl[j]? = some b → (bl.flatten.drop (j * N)).take N = b
  | [],_,j,b,hb => by simp at hb
  | c :: r,h,0,b,hb => by
    simp at hb
    subst hb
    have h2 := h c (by simp)
    rw [Nat.zero_mul,List.drop_zero,List.flatten_cons,← h2,List.take_left']
    rfl
  | c :: r,h,j + 1,b,hb => by
    have h2 := h c (by simp)
    have ih := block_at N r (fun c hc => h c (List.mem_cons_of_mem _ hc)) j b (by simpa using hb)
    have e : (j + 1) * N = c.length + j * N := by rw [h2,Nat.succ_mul]; omega
    rw [List.flatten_cons,e,List.drop_append,List.drop_eq_nil_of_le (by omega),List.nil_append,Nat.add_sub_cancel_left]
    exact ih
theorem all_wantS (s : Int) (h0 : 0 ≤ s) (h1 : s ≤ 100000000) (en : Int) (hen : en ≤ 1000000) : ∀ (l : List GPiece) (i : Nat),FineD en (l.map deskP) → (allT i (l.map deskP)).map (shiftT s) = wantI (-1) s i l
  | [],_,_ => rfl
  | p :: r,i,h => by
    have ih := all_wantS s h0 h1 en hen r (i + 1) fun d hd => h d (by simp only [List.map_cons,List.mem_cons]; exact .inr hd)
    have hp := (h (deskP p) (by simp)).2
    have hd : decide ((i : Int) = -1) = false := decide_eq_false (by omega)
    have hsil : (deskP p).silent = false := rfl
    simp only [List.map_cons,allT,wantI,List.map_append,ih,hsil,cond_false,wantP,hd,desk_notes,List.map_map]
    congr 1
    refine List.map_congr_left fun n hn => ?_
    obtain ⟨b1,b2,b3⟩ := hp n (by rw [desk_notes]; exact hn)
    show shiftT s (noteT i n) = wantN s i n
    unfold shiftT noteT wantN
    rw [wr64 (by omega) (by omega),wr64 (by omega) (by omega)]
theorem notes_mem {p : GPiece} (hv : ValidP p) (h39 : f39 p = some (onsS p,0)) : ∀ n ∈ notesP p,n.from_ ∈ onsS p ∧ n.to_ ∈ onsS p := by
  obtain ⟨r,h1,h2,h3⟩ := notes_spans p hv
  have d0 : decide ((0 : Int) ≠ 0) = false := rfl
  have hn : notesP p = r.1 := by
    unfold notesP f32 f54
    rw [h39]
    simp only [Option.bind_some,d0,cond_false,h1]
    rfl
  rw [hn]
  intro n hn
  obtain ⟨i,j,a3,a1,a2⟩ := h3 n hn
  exact ⟨List.mem_of_getElem? a1,List.mem_of_getElem? a2⟩
theorem ons_few : ∀ (l : List GPiece),(∀ p ∈ l,(onsS p).length ≤ 61) → (l.flatMap onsS).length ≤ 61 * l.length
  | [],_ => by simp
  | p :: r,h => by
    have h1 := ons_few r fun q hq => h q (List.mem_cons_of_mem _ hq)
    have h2 := h p (by simp)
    simp only [List.flatMap_cons,List.length_append,List.length_cons]
    omega
def repS (l : List GPiece) (F T t : Int) : GCPlayer := ⟨⟨0⟩,0,endC l,true,l.map deskP,F,T,t,⟨[]⟩,[]⟩
def valsR (l : List GPiece) (T : Int) : List Int := T :: endC l :: l.flatMap onsS
theorem keepsR_new (c : GConsort) (hv : ValidC c.pieces) (hb : bigS c.pieces = false) (F T t : Int) (h0 : 0 ≤ F) (h1 : F < T) (h2 : T ≤ endC c.pieces) (h3 : 0 ≤ t) (h4 : t ≤ 10) : KeepsR (valsR c.pieces T) (t * (T - F)) 0 (repS c.pieces F T t) := by
  have hk := new_keeps hv hb
  have hec := endC_ok hv
  have hmf := mul_few h3 h4 (show 0 ≤ T - F by omega) (show T - F ≤ 1000000 by omega)
  refine ⟨hk.now,hk.desks,hk.notes,⟨by simp [valsR,repS],fun d hd n hn => ?_⟩,?_,⟨h3,h4⟩,fun _ => ⟨h0,h1,h2,by show 0 < T; omega,by simp [valsR,repS]⟩,⟨by show 0 ≤ T - F; omega,by show T - F ≤ 1000000; omega⟩,fun _ => rfl,(fun h => by cases h),(fun x hx => by cases hx),Nat.le_refl _,?_,⟨hmf.1,by omega⟩⟩
  · obtain ⟨q,hq,rfl⟩ := List.mem_map.1 (show d ∈ c.pieces.map deskP from hd)
    obtain ⟨i,hi⟩ := List.getElem?_of_mem hq
    obtain ⟨v1,v2⟩ := hv.2.2 i q hi
    obtain ⟨g1,g2⟩ := notes_mem v1 v2 n (by rw [← desk_notes]; exact hn)
    unfold valsR
    exact ⟨List.mem_cons_of_mem _ (List.mem_cons_of_mem _ (List.mem_flatMap.2 ⟨q,hq,g1⟩)),List.mem_cons_of_mem _ (List.mem_cons_of_mem _ (List.mem_flatMap.2 ⟨q,hq,g2⟩))⟩
  · have := ons_few c.pieces fun q hq => by
      obtain ⟨i,hi⟩ := List.getElem?_of_mem hq
      obtain ⟨v1,v2⟩ := hv.2.2 i q hi
      obtain ⟨s,s1,s2,s3⟩ := ons_shape v1
      have h60 : q.events.length ≤ 60 := by
        unfold bigS at hb
        simp only [Bool.or_eq_false_iff,List.any_eq_false,Bool.and_eq_true,decide_eq_true_eq,not_and] at hb
        have h1 := hb.1 q hq
        have h2 := v1.many
        omega
      rw [s1,List.length_cons]
      omega
    have h6 := hv.2.1
    unfold valsR
    simp only [List.length_cons]
    omega
  · show (0 : Int) + t * (T - F) = 0 + t * (T - F)
    rfl
theorem playsR_new (c : GConsort) (hv : ValidC c.pieces) (hb : bigS c.pieces = false) (hsame : ∀ p ∈ c.pieces,endP p = endC c.pieces) (t : Int) (he : 0 < endC c.pieces) (h3 : 0 ≤ t) (h4 : t ≤ 10) :
    PlaysR (endC c.pieces) (allT 0 (c.pieces.map deskP)) t (valsR c.pieces (endC c.pieces)) (t * (endC c.pieces - 0)) 0 0 (repS c.pieces 0 (endC c.pieces) t) :=
  ⟨keepsR_new c hv hb 0 (endC c.pieces) t (Int.le_refl _) he (Int.le_refl _) h3 h4,fine_new c hv hsame,rfl,⟨rfl,rfl,rfl⟩,by show t + ((0 : Nat) : Int) = t; simp,by show (0 : Int) = 0 + ((0 : Nat) : Int) * endC c.pieces; simp,fun _ => ⟨rfl,rfl,rfl⟩,(fun h => by cases h),(fun h => by cases h)⟩
theorem f18_1_eq (p : GCPlayer) (a b t : Int) (h0 : 0 ≤ a) (h1 : a < b) (h2 : b ≤ p.end_) (h3 : 0 ≤ t) (h4 : t ≤ 100) : f18_1 p a b t = some (0,a,b,t) := by
  have d1 : decide (a < 0) = false := decide_eq_false (by omega)
  have d2 : decide (b ≤ a) = false := decide_eq_false (by omega)
  have d3 : decide (p.end_ < b) = false := decide_eq_false (by omega)
  have e1 : f40 t 0 100 = some true := by
    unfold f40
    have d1 : decide ((0 : Int) ≤ t) = true := by simpa using h3
    have d2 : decide (t ≤ 100) = true := by simpa using h4
    rw [d1,d2]; rfl
  unfold f18_1
  simp only [d1,d2,d3,e1,cond_false,Option.bind_some,Bool.not_true]
theorem f14_some (c : GConsort) (hs : SizeC c.pieces) : ∃ r,f14 c = some r := by
  unfold f14
  by_cases h0 : c.pieces.length = 0
  · have hd : decide ((c.pieces.length : Int) = 0) = true := by rw [lenP]; exact decide_eq_true h0
    rw [hd]; exact ⟨_,rfl⟩
  · have hd : decide ((c.pieces.length : Int) = 0) = false := by rw [lenP]; exact decide_eq_false h0
    have hg : c.pieces[0]? = some (c.pieces[0]'(by omega)) := List.getElem?_eq_getElem (by omega)
    have hg' : ix c.pieces 0 = some (c.pieces[0]'(by omega)) := ixNat hg
    obtain ⟨r,r1,r2⟩ := onsets_ok _ (hs.2 _ (List.mem_of_getElem? hg))
    simp only [hd,cond_false,hg',Option.bind_some,r1]
    by_cases hz : r.1.length = 0
    · have hd : decide ((r.1.length : Int) = 0) = true := by rw [lenP]; exact decide_eq_true hz
      rw [hd]; exact ⟨_,rfl⟩
    · have hd : decide ((r.1.length : Int) = 0) = false := by rw [lenP]; exact decide_eq_false hz
      by_cases hv : r.2 = 0
      · obtain ⟨v1,v2⟩ := r2 hv
        have := (last_ok v1).1
        rw [hd,cond_false,v2,this]
        exact ⟨_,rfl⟩
      · exfalso
        obtain ⟨e,k1,k2⟩ := check_ok _ (hs.2 _ (List.mem_of_getElem? hg)) ⟨_,icheck_eq _,fun h => (instS_ok h).1⟩
        unfold f39 at r1
        rw [k1] at r1
        simp only [Option.bind_some] at r1
        by_cases he : e = 0
        · have d0 : decide (e ≠ 0) = false := by simpa using he
          rw [d0,cond_false] at r1
          simp only [f60,Option.bind_some] at r1
          cases hq : f76 [0] (c.pieces[0]'(by omega)) with
          | none => rw [hq] at r1; cases r1
          | some y =>
            rw [hq] at r1
            simp only [Option.bind_some] at r1
            rw [← Option.some.inj r1] at hv
            exact hv rfl
        · have d0 : decide (e ≠ 0) = true := by simpa using he
          rw [d0,cond_true] at r1
          rw [← Option.some.inj r1] at hz
          exact hz rfl
theorem f41_big (l : List GTake) (h : l.length ≤ 4000000) : f41 l = some l := by
  unfold f41
  by_cases hz : l = []
  · subst hz; rfl
  · have hd : decide (l = []) = false := by simpa using hz
    have hm : l.length ≤ maxElems := by unfold maxElems; omega
    simp only [hd,cond_false,need,if_pos hm,Option.bind_some]
theorem f4_eq (c : GConsort) (x y z : Int) (hs : SizeC c.pieces) : f4 c x y z = some true := by
  suffices h : ∃ r,f4 c x y z = some r ∧ r = true by
    obtain ⟨r,h,rfl⟩ := h; exact h
  unfold f4
  rw [f9_eq c.pieces hs.1]
  simp only [Option.bind_some]
  cases hb : bigS c.pieces with
  | true => exact ⟨true,rfl,rfl⟩
  | false =>
    simp only [cond_false]
    obtain ⟨r,h1,h2⟩ := new_ok c hs
    have h1' := h1
    rcases h2 with ⟨e,rfl,he⟩ | ⟨hv,rfl⟩
    · have de : decide (e ≠ 0) = true := by simpa using he
      obtain ⟨w,hw⟩ := f14_some c hs
      rw [h1]
      simp only [Option.bind_some,Sum.elim_inl,hw,de,cond_true]
      exact ⟨true,rfl,rfl⟩
    · have hsame := ends_same c hs _ h1'
      have hec := endC_ok hv
      have h14 := f14_eq c hv
      have hE : endC c.pieces = endC c.pieces := rfl
      generalize hEE : endC c.pieces = E at hec h14 h1
      rw [h1]
      simp only [Option.bind_some,Sum.elim_inr,h14]
      by_cases hle : E ≤ 0
      · have dl : decide (E ≤ 0) = true := by simpa using hle
        rw [dl,cond_true]
        exact ⟨true,rfl,rfl⟩
      · have dl : decide (E ≤ 0) = false := by simpa using hle
        obtain ⟨F,F1,F2,F3⟩ := rest_ok x E (by omega) (by omega)
        have hw1 : wr (E - F) = E - F := wr64 (by omega) (by omega)
        obtain ⟨L,L1,L2,L3⟩ := rest_ok y (E - F) (by omega) (by omega)
        obtain ⟨t,T1,T2,T3⟩ := rest_ok z 6 (by omega) (by omega)
        have hw2 : wr (F + 1) = F + 1 := wr64 (by omega) (by omega)
        have hw3 : wr (F + 1 + L) = F + 1 + L := wr64 (by omega) (by omega)
        have hw4 : wr (F + 1 + L - F) = F + 1 + L - F := wr64 (by omega) (by omega)
        have hmf := mul_few T2 (show t ≤ 10 by omega) (show 0 ≤ F + 1 + L - F by omega) (show F + 1 + L - F ≤ 1000000 by omega)
        have hw5 : wr (t * (F + 1 + L - F)) = t * (F + 1 + L - F) := wr64 (by omega) (by omega)
        have hw6 : wr (E + t * (F + 1 + L - F)) = E + t * (F + 1 + L - F) := wr64 (by omega) (by omega)
        have dz : decide ((0 : Int) ≠ 0) = false := rfl
        have e1 : ∀ x,f19_1 x = some () := fun _ => rfl
        -- the first player
        have hk1 := keepsR_new c hv hb F (F + 1 + L) t F2 (by omega) (by rw [hEE]; omega) T2 (by omega)
        have w1 := whole_eqR 0 _ hk1 (by omega)
        obtain ⟨⟨k',q1⟩,q2,q3⟩ := run_keepsR 13000 0 _ hk1 (by have := left_fewR hk1; omega)
        have q4 := end_clockR q1 q2
        rw [q3] at q4
        have q4' : (runS 13000 (repS c.pieces F (F + 1 + L) t)).2.clock.ticks = E + t * (F + 1 + L - F) := by rw [q4,← hEE]; rfl
        have w1' : f16_1 (⟨(⟨0⟩ : GCClock),0,E,true,c.pieces.map deskP,F,F + 1 + L,t,(⟨([] : List GCLive)⟩ : GCShelf_live),([] : List GTake)⟩ : GCPlayer) = some ((runS 13000 (repS c.pieces F (F + 1 + L) t)).1,true,partsS (runS 13000 (repS c.pieces F (F + 1 + L) t)).2) := by rw [← hEE]; exact w1
        have g1 : f18_1 (⟨(⟨0⟩ : GCClock),0,E,true,c.pieces.map deskP,0,0,0,(⟨([] : List GCLive)⟩ : GCShelf_live),([] : List GTake)⟩ : GCPlayer) F (F + 1 + L) t = some (0,F,F + 1 + L,t) := f18_1_eq _ _ _ _ F2 (by omega) (by show F + 1 + L ≤ E; omega) T2 (by omega)
        have dk : decide (E + t * (F + 1 + L - F) ≠ E + t * (F + 1 + L - F)) = false := by simp
        simp only [dl,cond_false,F1,hw1,L1,T1,hw2,hw3,hw4,hw5,hw6,Option.bind_some,g1,dz,w1',partsS,q4',Bool.not_true,e1,dk]
        -- the second player
        have g2 : f18_1 (⟨(⟨0⟩ : GCClock),0,E,true,c.pieces.map deskP,0,0,0,(⟨([] : List GCLive)⟩ : GCShelf_live),([] : List GTake)⟩ : GCPlayer) 0 E t = some (0,0,E,t) := f18_1_eq _ _ _ _ (by omega) (by omega) (by show E ≤ E; omega) T2 (by omega)
        have hp2 := playsR_new c hv hb hsame t (by rw [hEE]; omega) T2 (by omega)
        obtain ⟨⟨m',k2,p1⟩,p2⟩ := run_playsR 13000 0 0 _ hp2 (by have := left_fewR hp2.keeps; omega)
        obtain ⟨bl,b1,b2,b3⟩ := end_playsR p1 p2
        have hfine := fine_new c hv hsame
        rw [hEE] at b3 hfine
        have w2' : f16_1 (⟨(⟨0⟩ : GCClock),0,E,true,c.pieces.map deskP,0,E,t,(⟨([] : List GCLive)⟩ : GCShelf_live),([] : List GTake)⟩ : GCPlayer) = some ((runS 13000 (repS c.pieces 0 (endC c.pieces) t)).1,true,partsS (runS 13000 (repS c.pieces 0 (endC c.pieces) t)).2) := by rw [← hEE]; exact (whole_eqR 0 _ hp2.keeps (by omega))
        simp only [g2,Option.bind_some,dz,cond_false,w2',partsS,Bool.not_true]
        generalize hq : (runS 13000 (repS c.pieces 0 (endC c.pieces) t)).2 = q at b1
        have hN : ∀ b ∈ bl,b.length = (allT 0 (c.pieces.map deskP)).length := fun b hb => by
          obtain ⟨j,hj⟩ := List.getElem?_of_mem hb
          have := (b3 j b hj).length_eq
          rw [List.length_map] at this
          exact this
        have hNf : (allT 0 (c.pieces.map deskP)).length ≤ 6000 := by
          have h6 := allT_len (c.pieces.map deskP) 0 (new_keeps hv hb).notes
          have h7 := hv.2.1
          rw [List.length_map] at h6
          omega
        generalize hNN : (allT 0 (c.pieces.map deskP)).length = N at hN hNf
        have hlen := block_len N bl hN
        rw [← b1] at hlen
        have hbl : bl.length ≤ 6 := by omega
        have hbN := Nat.mul_le_mul hbl hNf
        have htl : q.takes.length ≤ 36000 := by omega
        have h20 : ∀ a b c d e,f20_1 (⟨a,b,E,c,d,0,E,e,(⟨q.sounding.l⟩ : GCShelf_live),q.takes⟩ : GCPlayer) = some q.takes := fun a b c d e => by
          unfold f20_1
          simp only [f41_big q.takes (by omega),Option.bind_some]
        have hwt : wr (t + 1) = t + 1 := wr64 (by omega) (by omega)
        have hnt : t + 1 ≠ 0 := by omega
        have hli : ((q.takes.length : Nat) : Int) = (t + 1) * (N : Int) := by rw [hlen,Int.natCast_mul,b2]
        have hmod : Int.tmod ((q.takes.length : Nat) : Int) (t + 1) = 0 := by rw [hli]; exact Int.mul_tmod_right _ _
        have hdiv : Int.tdiv ((q.takes.length : Nat) : Int) (t + 1) = (N : Int) := by rw [hli]; exact Int.mul_tdiv_cancel_left _ hnt
        have hwN : wr (N : Int) = (N : Int) := wr64 (by omega) (by omega)
        simp only [h20,Option.bind_some,hwt,need,if_pos hnt,hmod,hdiv,hwN,dz,cond_false]
        refine bind_inv (fun k (s : Int) => s = (k : Int)) (fun t => t = .inl ()) (t + 1).toNat (by omega) rfl ?_ ?_ ?_
        · rintro j s hj rfl
          have hjt : decide ((j : Int) ≤ t) = true := by simp; omega
          have hjl : j < bl.length := by omega
          have hg : bl[j]? = some (bl[j]'hjl) := List.getElem?_eq_getElem hjl
          have hba := block_at N bl hN j _ hg
          rw [← b1] at hba
          have m1 := Nat.mul_le_mul (show j ≤ 6 by omega) hNf
          have m2 := Nat.mul_le_mul (show j + 1 ≤ bl.length by omega) (Nat.le_refl N)
          have hj1 : wr ((j : Int) + 1) = ((j + 1 : Nat) : Int) := wrNat (by omega)
          have hs1 : (j + 1) * N = j * N + N := Nat.succ_mul j N
          have c1 : wr ((j : Int) * (N : Int)) = ((j * N : Nat) : Int) := by rw [← Int.natCast_mul]; exact wr64 (by omega) (by omega)
          have c2 : wr (((j + 1 : Nat) : Int) * (N : Int)) = (((j + 1) * N : Nat) : Int) := by rw [← Int.natCast_mul]; exact wr64 (by omega) (by omega)
          have c3 := mul_few (a := (j : Int)) (by omega) (by omega) hec.1 (show E ≤ 1000000 by omega)
          have c4 : wr ((j : Int) * E) = (j : Int) * E := wr64 (by omega) (by omega)
          have i1 : (0 : Int) ≤ ((j * N : Nat) : Int) := Int.natCast_nonneg _
          have i2 : (0 : Int) ≤ (((j + 1) * N : Nat) : Int) := Int.natCast_nonneg _
          have i3 : j * N ≤ (j + 1) * N := by omega
          have i4 : (j + 1) * N ≤ q.takes.length := by omega
          have hsl : (q.takes.take ((j + 1) * N)).drop (j * N) = bl[j]'hjl := by
            rw [List.drop_take,hs1,Nat.add_sub_cancel_left]; exact hba
          have hpm : (bl[j]'hjl).Perm (wantI (-1) ((j : Int) * E) 0 c.pieces) := by
            rw [← all_wantS ((j : Int) * E) c3.1 (by omega) E (by omega) c.pieces 0 hfine]
            exact b3 j _ hg
          have hno := noted_ok c hv (bl[j]'hjl) (-1) ((j : Int) * E) (by have := hN _ (List.getElem_mem hjl); omega) hpm
          simp only [hjt,cond_true,c1,hj1,c2,c4,if_pos i1,if_pos i2,Int.toNat_natCast,if_pos i3,if_pos i4,hsl,hno,Option.bind_some,Bool.not_true,cond_false]
          exact ⟨_,rfl,rfl⟩
        · rintro s rfl
          have hjt : decide ((((t + 1).toNat : Nat) : Int) ≤ t) = false := by simp; omega
          simp only [hjt,cond_false]
          exact ⟨_,rfl,rfl⟩
        · rintro u rfl
          exact ⟨true,rfl,rfl⟩
end Go.Proofs.Ytpljabnngpnieaa
