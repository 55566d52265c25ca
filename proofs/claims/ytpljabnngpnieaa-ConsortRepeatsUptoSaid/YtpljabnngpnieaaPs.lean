/-
  Plain laws of the player,part 13: the takes of a player that repeats the whole.
  Own work. No Go text.
-/
import Derived.Test.YtpljabnngpnieaaPr
set_option linter.all false
namespace Go.Proofs.Ytpljabnngpnieaa
open Go Go.Am
def shiftT (s : Int) (t : GTake) : GTake := ⟨t.desk,t.course,t.pitch,t.from_ + s,t.to_ + s⟩
def futR (s : Int) (x : GCLive) : GTake := ⟨x.desk,x.note.course,x.note.pitch,x.began,x.note.to_ + s⟩
theorem startN_permR {p : GCPlayer} {s : Int} (ht : p.clock.ticks = p.now + s) (i : Nat) (d : GCDesk) (hz : d.since = 0) (h0 : 0 ≤ p.now) : ∀ (l : List GNote) (a : List GCLive × List GVoice),
    ((l.foldl (startN p i d) a).1.map (futR s)).Perm (a.1.map (futR s) ++ (bif d.silent then [] else ((l.map (noteT i)).filter (atF p.now)).map (shiftT s)))
  | [],a => by cases d.silent <;> simp
  | n :: r,a => by
    simp only [List.foldl_cons]
    refine (startN_permR ht i d hz h0 r (startN p i d a n)).trans ?_
    cases hs : d.silent with
    | true =>
      have : startN p i d a n = a := by unfold startN begS canS; rw [hs]; simp
      rw [this]
      exact List.Perm.refl _
    | false =>
      simp only [cond_false,List.map_cons,List.filter_cons]
      have hb : begS p.now d n = atF p.now (noteT i n) := by
        unfold begS canS atF noteT
        rw [hs,hz]
        by_cases h : n.from_ = p.now
        · have : (0 : Int) ≤ n.from_ := by omega
          simp [h,this]; omega
        · simp [h]
      unfold startN
      rw [hb]
      cases hq : atF p.now (noteT i n) with
      | false => simp
      | true =>
        simp only [cond_true,if_true,List.map_cons]
        have hfut : futR s (liveS p i n) = shiftT s (noteT i n) := by
          have : n.from_ = p.now := by unfold atF noteT at hq; simpa using hq
          unfold futR liveS shiftT noteT
          simp only
          rw [ht,this]
        have h1 := (put_perm a.1 (liveS p i n)).map (futR s)
        rw [List.map_cons,hfut] at h1
        refine (h1.append_right _).trans ?_
        rw [List.cons_append]
        exact List.perm_middle.symm
theorem startI_permR {p : GCPlayer} {s : Int} (ht : p.clock.ticks = p.now + s) (h0 : 0 ≤ p.now) : ∀ (l : List GCDesk) (i : Nat) (a : List GCLive × List GVoice),(∀ d ∈ l,d.since = 0) →
    ((foldI (startD p) i l a).1.map (futR s)).Perm (a.1.map (futR s) ++ ((allT i l).filter (atF p.now)).map (shiftT s))
  | [],i,a,_ => by simp [foldI,allT]
  | d :: r,i,a,hz => by
    simp only [foldI,allT]
    refine (startI_permR ht h0 r (i + 1) (startD p i a d) fun e he => hz e (List.mem_cons_of_mem _ he)).trans ?_
    have h1 := startN_permR ht i d (hz d (by simp)) h0 d.notes a
    rw [List.filter_append,List.map_append,← List.append_assoc]
    refine List.Perm.append_right _ ?_
    unfold startD
    refine h1.trans ?_
    cases d.silent <;> simp
def Blocks (E : Int) (D : List GTake) (bl : List (List GTake)) : Prop := ∀ (j : Nat) b,bl[j]? = some b → b.Perm (D.map (shiftT (j * E)))
theorem blocks_add {E : Int} {D : List GTake} {bl : List (List GTake)} {c : List GTake} (h : Blocks E D bl) (hc : c.Perm (D.map (shiftT (bl.length * E)))) : Blocks E D (bl ++ [c]) := by
  intro j b hb
  by_cases hj : j < bl.length
  · rw [List.getElem?_append_left hj] at hb
    exact h j b hb
  · rw [List.getElem?_append_right (by omega)] at hb
    have h0 : j - bl.length = 0 := by
      have := (List.getElem?_eq_some_iff.1 hb).1
      simp only [List.length_cons,List.length_nil] at this
      omega
    rw [h0] at hb
    have hjl : j = bl.length := by omega
    subst hjl
    simp only [List.getElem?_cons_zero,Option.some.injEq] at hb
    subst hb
    exact hc
structure PlaysR (E : Int) (D : List GTake) (r : Int) (V : List Int) (C : Int) (m k : Nat) (p : GCPlayer) : Prop where
  keeps : KeepsR V C k p
  fine : FineD E p.desks
  desks : allT 0 p.desks = D
  ends : p.end_ = E ∧ p.from_ = 0 ∧ p.to_ = E
  pass : p.times + m = r
  ticks : p.clock.ticks = p.now + m * E
  first : p.waiting = true → p.now = 0 ∧ p.takes = [] ∧ m = 0
  live : p.waiting = false → ∀ x ∈ p.sounding.l,p.now < x.note.to_
  all : p.waiting = false → ∃ bl cur,p.takes = bl.flatten ++ cur ∧ bl.length = m ∧ Blocks E D bl ∧ (cur ++ p.sounding.l.map (futR (m * E))).Perm ((D.filter (toF p.now)).map (shiftT (m * E)))
theorem move_zero {E : Int} {ds : List GCDesk} (h : FineD E ds) : moveS ds 0 = ds := by
  unfold moveS
  refine (List.map_congr_left fun d hd => ?_).trans (List.map_id ds)
  obtain ⟨n,s,c⟩ := d
  have h0 : c = 0 := (h _ hd).1
  subst h0
  rfl
theorem to_at {E : Int} {ds : List GCDesk} (h : FineD E ds) (now : Int) (h0 : 0 = now) : (allT 0 ds).filter (atF now) = (allT 0 ds).filter (toF now) := by
  refine List.filter_congr fun t ht => ?_
  obtain ⟨d,hd,_,n,hnn,e1,_⟩ := allT_mem ht
  have := (h d hd).2 n hnn
  unfold atF toF
  by_cases hq : t.from_ = now
  · simp [hq]
  · have : ¬ t.from_ ≤ now := by omega
    simp [hq,this]
theorem step_playsR {E : Int} {D : List GTake} {r : Int} {V : List Int} {C : Int} {m k : Nat} {p : GCPlayer} (h : PlaysR E D r V C m k p) (hn : doneS p = false) : ∃ m',PlaysR E D r V C m' (k + 1) (stepS p).2.2 := by
  have hk := step_keepsR h.keeps hn
  obtain ⟨n1,n2,n3⟩ := h.keeps.now
  obtain ⟨z1,z2,z3⟩ := h.ends
  have hk1 := hk.2.1
  unfold stepS at hk1 ⊢
  rw [hn,cond_false] at hk1 ⊢
  cases hw : p.waiting with
  | true =>
    rw [hw] at hk1
    simp only [cond_true] at hk1 ⊢
    obtain ⟨f1,f2,f3⟩ := h.first hw
    have hs := h.keeps.waits hw
    have htk : p.clock.ticks = p.now + (m : Int) * E := h.ticks
    have hsp := startI_permR (p := ⟨p.clock,p.now,p.end_,false,p.desks,p.from_,p.to_,p.times,p.sounding,p.takes⟩) (s := (m : Int) * E) htk n1 p.desks 0 (p.sounding.l,[]) fun d hd => (h.fine d hd).1
    have hsm := startI_at ⟨p.clock,p.now,p.end_,false,p.desks,p.from_,p.to_,p.times,p.sounding,p.takes⟩ p.desks 0 (p.sounding.l,[])
    refine ⟨m,hk1,h.fine,h.desks,h.ends,h.pass,h.ticks,(fun e => by cases e),fun _ x hx => ?_,fun _ => ⟨[],[],?_,?_,?_,?_⟩⟩
    · rcases hsm x hx with hx | ⟨d,hd,hnn,hat⟩
      · rw [hs] at hx; cases hx
      · have := (h.fine d hd).2 x.note hnn
        have hat : x.note.from_ = p.now := hat
        show p.now < _
        omega
    · exact f2
    · exact f3.symm
    · intro j b hb; simp at hb
    · show ([] ++ (startS _).1.map (futR (m * E))).Perm ((D.filter (toF p.now)).map (shiftT (m * E)))
      unfold startS
      rw [List.nil_append]
      refine hsp.trans ?_
      rw [hs]
      simp only [List.map_nil,List.nil_append]
      rw [to_at h.fine p.now f1.symm,h.desks]
  | false =>
    rw [hw] at hk1
    have hlt : p.now < p.end_ := by
      unfold doneS at hn
      rw [hw] at hn
      simp only [Bool.not_false,Bool.true_and,decide_eq_false_iff_not] at hn
      omega
    obtain ⟨t1,t2,t3,t4⟩ := next_okR h.keeps hlt
    have hmf := mul_few h.keeps.times.1 h.keeps.times.2 h.keeps.span.1 h.keeps.span.2
    have hcl := h.keeps.clock
    have hsum := h.keeps.sum
    have hw1 : wr (nextT p - p.now) = nextT p - p.now := wr64 (by omega) (by omega)
    have htk : wr (p.clock.ticks + wr (nextT p - p.now)) = nextT p + m * E := by
      rw [hw1,wr64 (by omega) (by omega)]
      have := h.ticks
      omega
    have hlive := h.live hw
    obtain ⟨bl,cur,a1,a2,a3,a4⟩ := h.all hw
    simp only [cond_false] at hk1 ⊢
    rw [htk] at hk1 ⊢
    have hD : D = allT 0 p.desks := h.desks.symm
    have hsplit := filter_split D p.now (nextT p) t1 fun t ht hq => by
      rw [hD] at ht
      obtain ⟨d,hd,hsl,n,hnn,e1,_⟩ := allT_mem ht
      have hfd := h.fine d hd
      have hcan : canS d n = true := by
        unfold canS
        rw [hsl,hfd.1]
        have := (hfd.2 n hnn).1
        simpa using this
      have := next_note hd hnn hcan (by omega)
      omega
    cases hj : (decide (0 < p.times) && decide (nextT p = p.to_)) with
    | true =>
      rw [hj] at hk1
      simp only [Bool.and_eq_true,decide_eq_true_eq] at hj
      obtain ⟨j1,j2⟩ := hj
      have htm : wr (p.times - 1) = p.times - 1 := by have := h.keeps.times; exact wr64 (by omega) (by omega)
      simp only [cond_true,htm,z2] at hk1 ⊢
      have hmv := move_zero h.fine
      rw [hmv] at hk1 ⊢
      have hE : nextT p = E := by rw [j2,z3]
      have hm1 : ((m + 1 : Nat) : Int) * E = m * E + E := by rw [Int.natCast_succ,Int.add_mul,Int.one_mul]
      have htk2 : nextT p + (m : Int) * E = 0 + ((m + 1 : Nat) : Int) * E := by rw [hm1,hE]; omega
      have hsp := startI_permR (p := ⟨⟨nextT p + m * E⟩,0,p.end_,false,p.desks,0,p.to_,p.times - 1,⟨[]⟩,p.takes ++ p.sounding.l.map (takeS (nextT p + m * E))⟩) (s := ((m + 1 : Nat) : Int) * E) htk2 (Int.le_refl _) p.desks 0 ([],[]) fun d hd => (h.fine d hd).1
      have hsm := startI_at ⟨⟨nextT p + m * E⟩,0,p.end_,false,p.desks,0,p.to_,p.times - 1,⟨[]⟩,p.takes ++ p.sounding.l.map (takeS (nextT p + m * E))⟩ p.desks 0 ([],[])
      have hall : ∀ x ∈ p.sounding.l,x.note.to_ = E := fun x hx => by
        have h1 := next_live hx (hlive x hx)
        obtain ⟨d,hd,hnn⟩ := h.keeps.mem x hx
        have := ((h.fine d hd).2 x.note hnn).2.2
        omega
      have hfull : D.filter (toF (nextT p)) = D := by
        rw [List.filter_eq_self]
        intro t ht
        rw [hD] at ht
        obtain ⟨d,hd,_,n,hnn,e1,_⟩ := allT_mem ht
        have := (h.fine d hd).2 n hnn
        unfold toF
        simp only [decide_eq_true_eq]
        omega
      have hnone : D.filter (atF (nextT p)) = [] := by
        rw [List.filter_eq_nil_iff]
        intro t ht
        rw [hD] at ht
        obtain ⟨d,hd,_,n,hnn,e1,_⟩ := allT_mem ht
        have := (h.fine d hd).2 n hnn
        unfold atF
        simp only [decide_eq_true_eq]
        omega
      rw [hfull,hnone,List.append_nil] at hsplit
      have hen : p.sounding.l.map (takeS (nextT p + m * E)) = p.sounding.l.map (futR (m * E)) := List.map_congr_left fun x hx => by
        unfold takeS futR
        rw [hall x hx,hE]
      refine ⟨m + 1,hk1,h.fine,h.desks,⟨z1,rfl,z3⟩,?_,htk2,(fun e => by cases e),fun _ x hx => ?_,fun _ => ⟨bl ++ [cur ++ p.sounding.l.map (futR (m * E))],[],?_,?_,?_,?_⟩⟩
      · have := h.pass
        show p.times - 1 + ((m + 1 : Nat) : Int) = r
        omega
      · rcases hsm x hx with hx | ⟨d,hd,hnn,hat⟩
        · cases hx
        · have := (h.fine d hd).2 x.note hnn
          have hat : x.note.from_ = 0 := hat
          show 0 < _
          omega
      · show p.takes ++ p.sounding.l.map (takeS (nextT p + m * E)) = _
        rw [hen,a1]
        simp
      · simp [a2]
      · refine blocks_add a3 ?_
        rw [a2]
        exact a4.trans (hsplit.symm.map _)
      · show ([] ++ (startS _).1.map (futR ((m + 1 : Nat) * E))).Perm ((D.filter (toF 0)).map (shiftT ((m + 1 : Nat) * E)))
        unfold startS
        rw [List.nil_append]
        refine hsp.trans ?_
        simp only [List.map_nil,List.nil_append]
        rw [to_at h.fine 0 rfl,h.desks]
    | false =>
      rw [hj] at hk1
      simp only [cond_false] at hk1 ⊢
      have hsp := startI_permR (p := ⟨⟨nextT p + m * E⟩,nextT p,p.end_,false,p.desks,p.from_,p.to_,p.times,⟨p.sounding.l.filter fun x => !atS (nextT p) x⟩,p.takes ++ (p.sounding.l.filter (atS (nextT p))).map (takeS (nextT p + m * E))⟩) (s := (m : Int) * E) rfl (by show 0 ≤ nextT p; omega) p.desks 0 (p.sounding.l.filter (fun x => !atS (nextT p) x),[]) fun d hd => (h.fine d hd).1
      have hsm := startI_at ⟨⟨nextT p + m * E⟩,nextT p,p.end_,false,p.desks,p.from_,p.to_,p.times,⟨p.sounding.l.filter fun x => !atS (nextT p) x⟩,p.takes ++ (p.sounding.l.filter (atS (nextT p))).map (takeS (nextT p + m * E))⟩ p.desks 0 (p.sounding.l.filter (fun x => !atS (nextT p) x),[])
      have hen : (p.sounding.l.filter (atS (nextT p))).map (takeS (nextT p + m * E)) = (p.sounding.l.filter (atS (nextT p))).map (futR (m * E)) := List.map_congr_left fun x hx => by
        have : x.note.to_ = nextT p := by have := (List.mem_filter.1 hx).2; unfold atS at this; simpa using this
        unfold takeS futR
        rw [this]
      refine ⟨m,hk1,h.fine,h.desks,h.ends,h.pass,rfl,(fun e => by cases e),fun _ x hx => ?_,fun _ => ⟨bl,cur ++ (p.sounding.l.filter (atS (nextT p))).map (futR (m * E)),?_,a2,a3,?_⟩⟩
      · rcases hsm x hx with hx | ⟨d,hd,hnn,hat⟩
        · obtain ⟨hx1,hx2⟩ := List.mem_filter.1 hx
          have h1 := next_live hx1 (hlive x hx1)
          have h2 : ¬ x.note.to_ = nextT p := by unfold atS at hx2; simpa using hx2
          show nextT p < _
          omega
        · have := (h.fine d hd).2 x.note hnn
          have hat : x.note.from_ = nextT p := hat
          show nextT p < _
          omega
      · show p.takes ++ (p.sounding.l.filter (atS (nextT p))).map (takeS (nextT p + m * E)) = _
        rw [hen,a1,List.append_assoc]
      · show (cur ++ (p.sounding.l.filter (atS (nextT p))).map (futR (m * E)) ++ (startS _).1.map (futR (m * E))).Perm ((D.filter (toF (nextT p))).map (shiftT (m * E)))
        unfold startS
        refine (List.Perm.append_left _ hsp).trans ?_
        refine List.Perm.trans ?_ (hsplit.symm.map (shiftT (m * E)))
        rw [List.map_append,← List.append_assoc,h.desks]
        refine List.Perm.append_right _ (List.Perm.trans ?_ a4)
        rw [List.append_assoc,← List.map_append]
        exact List.Perm.append_left _ ((List.filter_append_perm (atS (nextT p)) p.sounding.l).map (futR (m * E)))
end Go.Proofs.Ytpljabnngpnieaa
