/-
  Plain laws of the player,part 12: what is kept while a player plays with a repeat.
  Own work. No Go text.
-/
import Derived.Test.YtpljabnngpnieaaP5
import Derived.Test.YtpljabnngpnieaaV18
set_option linter.all false
namespace Go.Proofs.Ytpljabnngpnieaa
open Go Go.Am
structure KeepsR (V : List Int) (C : Int) (k : Nat) (p : GCPlayer) : Prop where
  now : 0 ≤ p.now ∧ p.now ≤ p.end_ ∧ p.end_ ≤ 1000000
  desks : p.desks.length ≤ 6
  notes : ∀ d ∈ p.desks,d.notes.length ≤ 1000
  vals : p.end_ ∈ V ∧ ∀ d ∈ p.desks,∀ n ∈ d.notes,n.from_ ∈ V ∧ n.to_ ∈ V
  few : V.length ≤ 500
  times : 0 ≤ p.times ∧ p.times ≤ 10
  rep : 0 < p.times → 0 ≤ p.from_ ∧ p.from_ < p.to_ ∧ p.to_ ≤ p.end_ ∧ p.now < p.to_ ∧ p.to_ ∈ V
  span : 0 ≤ p.to_ - p.from_ ∧ p.to_ - p.from_ ≤ 1000000
  waits : p.waiting = true → p.sounding.l = []
  live : p.waiting = false → p.sounding.l.length ≤ (fromsS p.desks).countP fun x => decide (x ≤ p.now)
  mem : ∀ x ∈ p.sounding.l,∃ d ∈ p.desks,x.note ∈ d.notes
  takes : p.takes.length ≤ 6000 * k
  clock : p.clock.ticks + p.times * (p.to_ - p.from_) = p.now + C
  sum : 0 ≤ C ∧ C ≤ 100000000
theorem live_fewR {V C k} {p : GCPlayer} (h : KeepsR V C k p) : p.sounding.l.length ≤ 6000 := by
  cases hw : p.waiting with
  | true => rw [h.waits hw]; simp
  | false =>
    have h1 := h.live hw
    have h2 := List.countP_le_length (p := fun x => decide (x ≤ p.now)) (l := fromsS p.desks)
    have h3 := froms_len p.desks h.notes
    have h4 := h.desks
    omega
theorem keepsR_roomy {V C} {k : Nat} {p : GCPlayer} (h : KeepsR V C k p) (hk : k ≤ 600000) : Roomy p :=
  ⟨by have := live_fewR h; omega,h.desks,fun d hd => by have := h.notes d hd; omega,by have := h.takes; omega⟩
theorem mul_few {a b : Int} (h1 : 0 ≤ a) (h2 : a ≤ 10) (h3 : 0 ≤ b) (h4 : b ≤ 1000000) : 0 ≤ a * b ∧ a * b ≤ 10000000 :=
  ⟨Int.mul_nonneg h1 h3,by have := Int.mul_le_mul h2 h4 h3 (by omega : (0 : Int) ≤ 10); omega⟩
theorem next_okR {V C k} {p : GCPlayer} (h : KeepsR V C k p) (hd : p.now < p.end_) : p.now < nextT p ∧ nextT p ≤ p.end_ ∧ nextT p ∈ V ∧ (0 < p.times → nextT p ≤ p.to_) := by
  have hT : ∃ T,(bif decide (0 < p.times) then laterS p.now p.end_ p.to_ else p.end_) = T ∧ p.now < T ∧ T ≤ p.end_ ∧ T ∈ V ∧ (0 < p.times → T ≤ p.to_) := by
    by_cases ht : 0 < p.times
    · have hdt : decide (0 < p.times) = true := by simpa using ht
      obtain ⟨r1,r2,r3,r4,r5⟩ := h.rep ht
      have hdn : decide (p.now < p.to_) = true := by simpa using r4
      refine ⟨p.to_,?_,r4,r3,r5,fun _ => Int.le_refl _⟩
      rw [hdt,cond_true]
      unfold laterS minI
      rw [hdn,cond_true]
      split <;> omega
    · have hdt : decide (0 < p.times) = false := by simpa using ht
      exact ⟨p.end_,by rw [hdt,cond_false],hd,Int.le_refl _,h.vals.1,fun e => absurd e ht⟩
  obtain ⟨T,hT0,t1,t2,t3,t4⟩ := hT
  unfold nextT
  rw [hT0]
  generalize hA : p.sounding.l.foldl (fun t x => laterS p.now t x.note.to_) T = A
  have hAle := fold_first (fun t (x : GCLive) => laterS p.now t x.note.to_) (fun t x => (later_le p.now t x.note.to_).1) p.sounding.l T
  rw [hA] at hAle
  have hB := fold_first (nextD p.now) (fun t d => nextD_le p.now t d) p.desks A
  have hA2 : p.now < A ∧ A ∈ V := by
    rcases later_fold (fun x : GCLive => x.note.to_) p.now p.sounding.l T with h1 | ⟨x,h1,h2,h3⟩
    · rw [hA] at h1
      subst h1
      exact ⟨t1,t3⟩
    · rw [hA] at h2
      obtain ⟨d,h4,h5⟩ := h.mem x h1
      refine ⟨by omega,?_⟩
      rw [← h2]
      exact (h.vals.2 d h4 _ h5).2
  rcases desks_fold p.now p.desks A with h1 | ⟨d,h1,n,h2,h3,h4⟩
  · rw [h1]; exact ⟨hA2.1,by omega,hA2.2,fun e => by have := t4 e; omega⟩
  · refine ⟨by omega,by omega,?_,fun e => by have := t4 e; omega⟩
    rw [← h3]
    exact (h.vals.2 d h1 n h2).1
def leftR (V : List Int) (p : GCPlayer) : Nat := V.countP (fun x => decide (p.now < x)) + p.times.toNat * (V.length + 1) + (if p.waiting then 1 else 0)
theorem left_fewR {V C k} {p : GCPlayer} (h : KeepsR V C k p) : leftR V p ≤ 5511 := by
  unfold leftR
  have h1 := List.countP_le_length (p := fun x => decide (p.now < x)) (l := V)
  have h2 := h.few
  have h3 : p.times.toNat ≤ 10 := by have := h.times; omega
  have h4 := Nat.mul_le_mul h3 (show V.length + 1 ≤ 501 by omega)
  split <;> omega
theorem step_keepsR {V C} {k : Nat} {p : GCPlayer} (h : KeepsR V C k p) (hn : doneS p = false) : (stepS p).2.1 = 0 ∧ KeepsR V C (k + 1) (stepS p).2.2 ∧ leftR V (stepS p).2.2 < leftR V p ∧ (stepS p).2.2.end_ = p.end_ ∧ (stepS p).2.2.from_ = p.from_ ∧ (stepS p).2.2.to_ = p.to_ := by
  obtain ⟨n1,n2,n3⟩ := h.now
  unfold stepS
  rw [hn,cond_false]
  cases hw : p.waiting with
  | true =>
    simp only [cond_true]
    have hs := h.waits hw
    have hst := startI_ok ⟨p.clock,p.now,p.end_,false,p.desks,p.from_,p.to_,p.times,p.sounding,p.takes⟩ p.desks 0 (p.sounding.l,[]) h.notes (by have := h.desks; rw [hs]; simp; omega)
    refine ⟨by trivial,⟨h.now,h.desks,h.notes,h.vals,h.few,h.times,h.rep,h.span,(fun e => by cases e),fun _ => ?_,fun x hx => ?_,by have := h.takes; show p.takes.length ≤ _; omega,h.clock,h.sum⟩,?_,rfl,rfl,rfl⟩
    · have := hst.1
      rw [hs] at this
      show (startS _).1.length ≤ _
      unfold startS
      have h2 := countP_eq_le (l := fromsS p.desks) (b := p.now)
      simp only [List.length_nil,Nat.zero_add] at this
      rw [hs]
      exact Nat.le_trans this h2
    · rcases hst.2 x hx with h1 | h1
      · rw [hs] at h1; cases h1
      · exact h1
    · unfold leftR
      show V.countP (fun x => decide (p.now < x)) + p.times.toNat * (V.length + 1) + 0 < _
      rw [hw]; simp
  | false =>
    have hlt : p.now < p.end_ := by
      unfold doneS at hn
      rw [hw] at hn
      simp only [Bool.not_false,Bool.true_and,decide_eq_false_iff_not] at hn
      omega
    obtain ⟨t1,t2,t3,t4⟩ := next_okR h hlt
    have hlf := live_fewR h
    have hmf := mul_few h.times.1 h.times.2 h.span.1 h.span.2
    have hcl := h.clock
    have hsum := h.sum
    have hw1 : wr (nextT p - p.now) = nextT p - p.now := wr64 (by omega) (by omega)
    have htk : wr (p.clock.ticks + wr (nextT p - p.now)) = p.clock.ticks + (nextT p - p.now) := by rw [hw1,wr64 (by omega) (by omega)]
    simp only [cond_false]
    cases hj : (decide (0 < p.times) && decide (nextT p = p.to_)) with
    | true =>
      simp only [Bool.and_eq_true,decide_eq_true_eq] at hj
      obtain ⟨j1,j2⟩ := hj
      obtain ⟨r1,r2,r3,r4,r5⟩ := h.rep j1
      have htm : wr (p.times - 1) = p.times - 1 := by have := h.times; exact wr64 (by omega) (by omega)
      simp only [cond_true,htk,htm]
      have hmn : ∀ d ∈ moveS p.desks p.from_,d.notes.length ≤ 1000 := fun d hd => by
        obtain ⟨e,he,rfl⟩ := move_mem hd
        exact h.notes e he
      have hml : (moveS p.desks p.from_).length ≤ 6 := by unfold moveS; rw [List.length_map]; exact h.desks
      have hst := startI_ok ⟨⟨p.clock.ticks + (nextT p - p.now)⟩,p.from_,p.end_,false,moveS p.desks p.from_,p.from_,p.to_,p.times - 1,⟨[]⟩,p.takes ++ p.sounding.l.map (takeS (p.clock.ticks + (nextT p - p.now)))⟩ (moveS p.desks p.from_) 0 ([],[]) hmn (by simp only [List.length_nil]; omega)
      refine ⟨by trivial,⟨⟨r1,by show p.from_ ≤ p.end_; omega,n3⟩,hml,hmn,⟨h.vals.1,fun d hd n hnn => ?_⟩,h.few,⟨by show 0 ≤ p.times - 1; omega,by have := h.times; show p.times - 1 ≤ 10; omega⟩,fun _ => ⟨r1,r2,r3,r2,r5⟩,h.span,(fun e => by cases e),fun _ => ?_,fun x hx => ?_,?_,?_,h.sum⟩,?_,rfl,rfl,rfl⟩
      · obtain ⟨e,he,rfl⟩ := move_mem hd
        exact h.vals.2 e he n hnn
      · have h1 := hst.1
        have h2 := countP_eq_le (l := fromsS (moveS p.desks p.from_)) (b := p.from_)
        show (startS _).1.length ≤ (fromsS (moveS p.desks p.from_)).countP (fun x => decide (x ≤ p.from_))
        unfold startS
        simp only [List.length_nil,Nat.zero_add] at h1
        exact Nat.le_trans h1 h2
      · rcases hst.2 x hx with h1 | h1
        · cases h1
        · exact h1
      · have := h.takes
        show (p.takes ++ p.sounding.l.map _).length ≤ _
        simp only [List.length_append,List.length_map]
        omega
      · show p.clock.ticks + (nextT p - p.now) + (p.times - 1) * (p.to_ - p.from_) = p.from_ + C
        have e : (p.times - 1) * (p.to_ - p.from_) = p.times * (p.to_ - p.from_) - (p.to_ - p.from_) := by rw [Int.sub_mul,Int.one_mul]
        rw [e]
        omega
      · unfold leftR
        rw [hw]
        show V.countP (fun x => decide (p.from_ < x)) + (p.times - 1).toNat * (V.length + 1) + 0 < V.countP (fun x => decide (p.now < x)) + p.times.toNat * (V.length + 1) + 0
        have h1 := List.countP_le_length (p := fun x => decide (p.from_ < x)) (l := V)
        have h2 : p.times.toNat = (p.times - 1).toNat + 1 := by omega
        rw [h2,Nat.add_mul]
        omega
    | false =>
      simp only [cond_false,htk]
      have hf1 := List.length_filter_le (fun x => !atS (nextT p) x) p.sounding.l
      have hf2 := List.length_filter_le (atS (nextT p)) p.sounding.l
      have hst := startI_ok ⟨⟨p.clock.ticks + (nextT p - p.now)⟩,nextT p,p.end_,false,p.desks,p.from_,p.to_,p.times,⟨p.sounding.l.filter fun x => !atS (nextT p) x⟩,p.takes ++ (p.sounding.l.filter (atS (nextT p))).map (takeS (p.clock.ticks + (nextT p - p.now)))⟩ p.desks 0 (p.sounding.l.filter (fun x => !atS (nextT p) x),[]) h.notes (by have := h.desks; simp only; omega)
      refine ⟨by trivial,⟨⟨by show 0 ≤ nextT p; omega,t2,n3⟩,h.desks,h.notes,h.vals,h.few,h.times,fun e => ?_,h.span,(fun e => by cases e),fun _ => ?_,fun x hx => ?_,?_,?_,h.sum⟩,?_,rfl,rfl,rfl⟩
      · obtain ⟨r1,r2,r3,r4,r5⟩ := h.rep e
        have h1 := t4 e
        have h2 : nextT p ≠ p.to_ := fun h2 => by
          have e' : 0 < p.times := e
          rw [h2] at hj
          simp [e'] at hj
        refine ⟨r1,r2,r3,?_,r5⟩
        show nextT p < p.to_
        omega
      · have h1 := hst.1
        have h2 := countP_le (l := fromsS p.desks) t1
        have h3 := h.live hw
        show (startS _).1.length ≤ (fromsS p.desks).countP (fun x => decide (x ≤ nextT p))
        unfold startS
        simp only at h1
        exact Nat.le_trans h1 (by omega)
      · rcases hst.2 x hx with h1 | h1
        · exact h.mem x (List.mem_filter.1 h1).1
        · exact h1
      · have := h.takes
        show (p.takes ++ (p.sounding.l.filter (atS (nextT p))).map _).length ≤ _
        simp only [List.length_append,List.length_map]
        omega
      · show p.clock.ticks + (nextT p - p.now) + p.times * (p.to_ - p.from_) = nextT p + C
        omega
      · unfold leftR
        rw [hw]
        show V.countP (fun x => decide (nextT p < x)) + p.times.toNat * (V.length + 1) + 0 < V.countP (fun x => decide (p.now < x)) + p.times.toNat * (V.length + 1) + 0
        have hq : V.countP (fun x => decide (nextT p < x)) < V.countP (fun x => decide (p.now < x)) := countP_lt t3 t1 (by omega) (by omega)
        omega
set_option maxRecDepth 200000 in
theorem whole_loopR (V : List Int) (C : Int) (E F T : Int) (fuel : Nat) : ∀ (n k : Nat) (p : GCPlayer) (fr : List GFrame) (cnt : Nat),KeepsR V C k p → p.end_ = E → p.from_ = F → p.to_ = T → leftR V p ≤ n → k + n ≤ 500000 → cnt + n < 20000 → n < fuel → fr.length ≤ cnt →
    loopN (wholeB E F T) fuel (p.clock.ticks,p.now,p.waiting,p.desks,p.times,p.sounding.l,p.takes,fr,(cnt : Int)) = some (.inr (fr ++ (runS n p).1,true,partsS (runS n p).2)) := by
  induction fuel with
  | zero => intro n k p fr cnt _ _ _ _ _ _ _ h _; omega
  | succ fuel ihf =>
    intro n k p fr cnt hk hE hF hT hn hkn hc hf hfr
    subst hE; subst hF; subst hT
    have hcd : decide ((cnt : Int) < 20000) = true := by simp; omega
    have hst : f13_1 (⟨(⟨p.clock.ticks⟩ : GCClock),p.now,p.end_,p.waiting,p.desks,p.from_,p.to_,p.times,(⟨p.sounding.l⟩ : GCShelf_live),p.takes⟩ : GCPlayer) = some (outS (stepS p)) := f13_1_eq p (keepsR_roomy hk (by omega))
    cases hd : doneS p with
    | true =>
      have hb : wholeB p.end_ p.from_ p.to_ (p.clock.ticks,p.now,p.waiting,p.desks,p.times,p.sounding.l,p.takes,fr,(cnt : Int)) = some (.inr (.inr (fr,true,partsS p))) := by
        simp only [wholeB,hcd,cond_true,hst,Option.bind_some,step_done hd,outS]
        rfl
      have hr : runS n p = ([],p) := by
        cases n with
        | zero => rfl
        | succ n => simp only [runS,hd,cond_true]
      simp only [loopN,hb,hr,List.append_nil]
    | false =>
      obtain ⟨s1,s2,s3,s4,s5,s6⟩ := step_keepsR hk hd
      cases n with
      | zero => omega
      | succ n =>
        have hm : fr.length + 1 ≤ maxElems := by unfold maxElems; omega
        have hw : wr ((cnt : Int) + 1) = ((cnt + 1 : Nat) : Int) := wrNat (by omega)
        have hb : wholeB p.end_ p.from_ p.to_ (p.clock.ticks,p.now,p.waiting,p.desks,p.times,p.sounding.l,p.takes,fr,(cnt : Int)) = some (.inl ((stepS p).2.2.clock.ticks,(stepS p).2.2.now,(stepS p).2.2.waiting,(stepS p).2.2.desks,(stepS p).2.2.times,(stepS p).2.2.sounding.l,(stepS p).2.2.takes,fr ++ [(stepS p).1],((cnt + 1 : Nat) : Int))) := by
          have d1 : decide ((0 : Int) = 92) = false := rfl
          have d2 : decide ((0 : Int) ≠ 0) = false := rfl
          simp only [wholeB,hcd,cond_true,hst,Option.bind_some,outS,s1,d1,d2,cond_false,need,if_pos hm,hw]
        have hr : runS (n + 1) p = ((stepS p).1 :: (runS n (stepS p).2.2).1,(runS n (stepS p).2.2).2) := by simp only [runS,hd,cond_false]
        have ih := ihf n (k + 1) (stepS p).2.2 (fr ++ [(stepS p).1]) (cnt + 1) s2 s4 s5 s6 (by omega) (by omega) (by omega) (by omega) (by simp; omega)
        simp only [loopN,hb,ih,hr,List.append_assoc,List.singleton_append]
theorem whole_eqR {V C} (k : Nat) (p : GCPlayer) (hk : KeepsR V C k p) (hkn : k ≤ 400000) : f16_1 p = some ((runS 13000 p).1,true,partsS (runS 13000 p).2) := by
  have h := whole_loopR V C p.end_ p.from_ p.to_ FUEL 13000 k p [] 0 hk rfl rfl rfl (by have := left_fewR hk; omega) (by omega) (by omega) (by unfold FUEL; omega) (by simp)
  unfold f16_1
  have h' : loopN (wholeB p.end_ p.from_ p.to_) FUEL (p.clock.ticks,p.now,p.waiting,p.desks,p.times,p.sounding.l,p.takes,([] : List GFrame),0) = _ := h
  unfold wholeB at h'
  rw [h']
  rfl
theorem run_keepsR {V C} : ∀ (n k : Nat) (p : GCPlayer),KeepsR V C k p → leftR V p ≤ n → (∃ k',KeepsR V C k' (runS n p).2) ∧ doneS (runS n p).2 = true ∧ (runS n p).2.end_ = p.end_
  | 0,k,p,h,hl => by
    have hd : doneS p = true := by
      cases hd : doneS p with
      | true => rfl
      | false => have := (step_keepsR h hd).2.2.1; omega
    exact ⟨⟨k,h⟩,hd,rfl⟩
  | n + 1,k,p,h,hl => by
    cases hd : doneS p with
    | true =>
      have hr : runS (n + 1) p = ([],p) := by simp only [runS,hd,cond_true]
      rw [hr]
      exact ⟨⟨k,h⟩,hd,rfl⟩
    | false =>
      have hr : runS (n + 1) p = ((stepS p).1 :: (runS n (stepS p).2.2).1,(runS n (stepS p).2.2).2) := by simp only [runS,hd,cond_false]
      obtain ⟨s1,s2,s3,s4,_⟩ := step_keepsR h hd
      obtain ⟨g1,g2,g3⟩ := run_keepsR n (k + 1) (stepS p).2.2 s2 (by omega)
      rw [hr]
      exact ⟨g1,g2,by rw [← s4]; exact g3⟩
theorem end_clockR {V C k} {p : GCPlayer} (h : KeepsR V C k p) (hd : doneS p = true) : p.clock.ticks = p.end_ + C := by
  unfold doneS at hd
  simp only [Bool.and_eq_true,Bool.not_eq_true',decide_eq_true_eq] at hd
  obtain ⟨_,he⟩ := hd
  have ht : p.times = 0 := by
    by_cases h0 : 0 < p.times
    · have := h.rep h0; omega
    · have := h.times; omega
  have hc := h.clock
  rw [ht,Int.zero_mul] at hc
  omega
end Go.Proofs.Ytpljabnngpnieaa
