/-
  Plain laws of the player, part 4: what a step keeps; how many steps there are.
  Own work. No Go text.
-/
import Derived.Test.YtpljabnngpnieaaPb
set_option linter.all false
namespace Go.Proofs.Ytpljabnngpnieaa
open Go Go.Am
theorem countP_lt {l : List Int} {a b v : Int} (hv : v ∈ l) (h1 : a < v) (h2 : ¬ b < v) (hab : a ≤ b) : l.countP (fun x => decide (b < x)) < l.countP (fun x => decide (a < x)) := by
  induction l with
  | nil => cases hv
  | cons x l ih =>
    have mono : ∀ r : List Int, r.countP (fun x => decide (b < x)) ≤ r.countP (fun x => decide (a < x)) := fun r => List.countP_mono_left fun x _ h => by simp at h ⊢; omega
    simp only [List.countP_cons]
    rcases List.mem_cons.1 hv with rfl | hv
    · have := mono l
      simp only [decide_eq_true_eq, h1, h2, if_true, if_false]
      omega
    · have := ih hv
      by_cases g1 : b < x
      · have g2 : a < x := by omega
        simp only [decide_eq_true_eq, g1, g2, if_true]; omega
      · simp only [decide_eq_true_eq, g1, if_false]
        split <;> omega
theorem countP_le {l : List Int} {a b : Int} (hab : a < b) : l.countP (fun x => decide (x ≤ a)) + l.countP (fun x => decide (x = b)) ≤ l.countP (fun x => decide (x ≤ b)) := by
  induction l with
  | nil => simp
  | cons x l ih =>
    simp only [List.countP_cons, decide_eq_true_eq]
    split <;> split <;> split <;> omega
theorem countP_eq_le {l : List Int} {b : Int} : l.countP (fun x => decide (x = b)) ≤ l.countP (fun x => decide (x ≤ b)) := List.countP_mono_left fun x _ h => by simp at h ⊢; omega
theorem later_fold {α : Type} (g : α → Int) (now : Int) : ∀ (l : List α) (t : Int), l.foldl (fun t x => laterS now t (g x)) t = t ∨ ∃ x ∈ l, g x = l.foldl (fun t x => laterS now t (g x)) t ∧ now < g x
  | [], t => .inl rfl
  | x :: r, t => by
    simp only [List.foldl_cons]
    rcases later_fold g now r (laterS now t (g x)) with h | ⟨y, h1, h2, h3⟩
    · rw [h]
      unfold laterS
      by_cases hn : now < g x
      · have hd : decide (now < g x) = true := by simpa using hn
        rw [hd, cond_true]
        unfold minI
        split
        · exact .inr ⟨x, by simp, rfl, hn⟩
        · exact .inl rfl
      · have hd : decide (now < g x) = false := by simpa using hn
        rw [hd]; exact .inl rfl
    · exact .inr ⟨y, by simp [h1], h2, h3⟩
def fromsS (ds : List GCDesk) : List Int := ds.flatMap fun d => d.notes.map (·.from_)
def valsS (p : GCPlayer) : List Int := p.end_ :: p.desks.flatMap fun d => d.notes.flatMap fun n => [n.from_, n.to_]
theorem desk_fold (now : Int) (d : GCDesk) : ∀ (l : List GNote) (t : Int), l.foldl (fun t n => bif canS d n then laterS now t n.from_ else t) t = t ∨ ∃ n ∈ l, n.from_ = l.foldl (fun t n => bif canS d n then laterS now t n.from_ else t) t ∧ now < n.from_
  | [], t => .inl rfl
  | n :: r, t => by
    simp only [List.foldl_cons]
    rcases desk_fold now d r (bif canS d n then laterS now t n.from_ else t) with h | ⟨y, h1, h2, h3⟩
    · rw [h]
      cases canS d n with
      | false => exact .inl rfl
      | true =>
        simp only [cond_true]
        unfold laterS
        by_cases hn : now < n.from_
        · have hd : decide (now < n.from_) = true := by simpa using hn
          rw [hd, cond_true]
          unfold minI
          split
          · exact .inr ⟨n, by simp, rfl, hn⟩
          · exact .inl rfl
        · have hd : decide (now < n.from_) = false := by simpa using hn
          rw [hd]; exact .inl rfl
    · exact .inr ⟨y, by simp [h1], h2, h3⟩
theorem desks_fold (now : Int) : ∀ (l : List GCDesk) (t : Int), l.foldl (nextD now) t = t ∨ ∃ d ∈ l, ∃ n ∈ d.notes, n.from_ = l.foldl (nextD now) t ∧ now < n.from_
  | [], t => .inl rfl
  | d :: r, t => by
    simp only [List.foldl_cons]
    rcases desks_fold now r (nextD now t d) with h | ⟨e, h1, n, h2, h3, h4⟩
    · rw [h]
      rcases desk_fold now d d.notes t with h5 | ⟨n, h5, h6, h7⟩
      · exact .inl h5
      · exact .inr ⟨d, by simp, n, h5, h6, h7⟩
    · exact .inr ⟨e, by simp [h1], n, h2, h3, h4⟩
structure Keeps (k : Nat) (p : GCPlayer) : Prop where
  now : 0 ≤ p.now ∧ p.now ≤ p.end_ ∧ p.end_ ≤ 1000000
  desks : p.desks.length ≤ 6
  notes : ∀ d ∈ p.desks, d.notes.length ≤ 1000
  times : p.times = 0
  waits : p.waiting = true → p.sounding.l = []
  live : p.waiting = false → p.sounding.l.length ≤ (fromsS p.desks).countP fun x => decide (x ≤ p.now)
  mem : ∀ x ∈ p.sounding.l, ∃ d ∈ p.desks, x.note ∈ d.notes
  takes : p.takes.length ≤ 6000 * k
theorem froms_len : ∀ (ds : List GCDesk), (∀ d ∈ ds, d.notes.length ≤ 1000) → (fromsS ds).length ≤ 1000 * ds.length
  | [], _ => by simp [fromsS]
  | d :: r, h => by
    have h1 := froms_len r fun e he => h e (List.mem_cons_of_mem _ he)
    have h2 := h d (by simp)
    simp only [fromsS, List.flatMap_cons, List.length_append, List.length_map, List.length_cons] at *
    omega
theorem vals_len : ∀ (ds : List GCDesk), (∀ d ∈ ds, d.notes.length ≤ 1000) → (ds.flatMap fun d => d.notes.flatMap fun n => [n.from_, n.to_]).length ≤ 2000 * ds.length
  | [], _ => by simp
  | d :: r, h => by
    have h1 := vals_len r fun e he => h e (List.mem_cons_of_mem _ he)
    have h2 := h d (by simp)
    have h3 : ∀ l : List GNote, (l.flatMap fun n => [n.from_, n.to_]).length = 2 * l.length := by
      intro l
      induction l with
      | nil => rfl
      | cons n l ih => simp only [List.flatMap_cons, List.length_append, List.length_cons, List.length_nil, ih]; omega
    simp only [List.flatMap_cons, List.length_append, List.length_cons, h3]
    omega
theorem live_few {k : Nat} {p : GCPlayer} (h : Keeps k p) : p.sounding.l.length ≤ 6000 := by
  cases hw : p.waiting with
  | true => rw [h.waits hw]; simp
  | false =>
    have h1 := h.live hw
    have h2 := List.countP_le_length (p := fun x => decide (x ≤ p.now)) (l := fromsS p.desks)
    have h3 := froms_len p.desks h.notes
    have h4 := h.desks
    omega
theorem keeps_roomy {k : Nat} {p : GCPlayer} (h : Keeps k p) (hk : k ≤ 600000) : Roomy p :=
  ⟨by have := live_few h; omega, h.desks, fun d hd => by have := h.notes d hd; omega, by have := h.takes; omega⟩
theorem next_ok {k : Nat} {p : GCPlayer} (h : Keeps k p) (hd : p.now < p.end_) : p.now < nextT p ∧ nextT p ≤ p.end_ ∧ nextT p ∈ valsS p := by
  have key : ∀ (l : List Int) (t : Int), True := fun _ _ => trivial
  have ht : (bif decide (0 < p.times) then laterS p.now p.end_ p.to_ else p.end_) = p.end_ := by rw [h.times]; rfl
  have hle1 : ∀ (l : List GCLive) (t : Int), l.foldl (fun t x => laterS p.now t x.note.to_) t ≤ t := by
    intro l
    induction l with
    | nil => intro t; exact Int.le_refl _
    | cons x l ih =>
      intro t
      have := ih (laterS p.now t x.note.to_)
      have h2 : laterS p.now t x.note.to_ ≤ t := by
        unfold laterS minI
        cases decide (p.now < x.note.to_) <;> simp <;> (try split) <;> omega
      simp only [List.foldl_cons]; omega
  have hle2 : ∀ (l : List GCDesk) (t : Int), l.foldl (nextD p.now) t ≤ t := by
    intro l
    induction l with
    | nil => intro t; exact Int.le_refl _
    | cons d l ih =>
      intro t
      have h1 := ih (nextD p.now t d)
      have h2 : nextD p.now t d ≤ t := by
        unfold nextD
        have : ∀ (r : List GNote) (t : Int), r.foldl (fun t n => bif canS d n then laterS p.now t n.from_ else t) t ≤ t := by
          intro r
          induction r with
          | nil => intro t; exact Int.le_refl _
          | cons n r ih2 =>
            intro t
            have h3 := ih2 (bif canS d n then laterS p.now t n.from_ else t)
            have h4 : (bif canS d n then laterS p.now t n.from_ else t) ≤ t := by
              cases canS d n with
              | false => exact Int.le_refl _
              | true =>
                simp only [cond_true]
                unfold laterS minI
                cases decide (p.now < n.from_) <;> simp <;> (try split) <;> omega
            simp only [List.foldl_cons]; omega
        exact this d.notes t
      simp only [List.foldl_cons]; omega
  unfold nextT
  rw [ht]
  generalize hA : p.sounding.l.foldl (fun t x => laterS p.now t x.note.to_) p.end_ = A
  have hAle := hle1 p.sounding.l p.end_
  rw [hA] at hAle
  have hB := hle2 p.desks A
  have hA2 : p.now < A ∧ A ∈ valsS p := by
    rcases later_fold (fun x : GCLive => x.note.to_) p.now p.sounding.l p.end_ with h1 | ⟨x, h1, h2, h3⟩
    · rw [hA] at h1
      subst h1
      exact ⟨hd, by simp [valsS]⟩
    · rw [hA] at h2
      obtain ⟨d, h4, h5⟩ := h.mem x h1
      refine ⟨by omega, ?_⟩
      rw [← h2]
      simp only [valsS, List.mem_cons, List.mem_flatMap]
      exact .inr ⟨d, h4, x.note, h5, by simp⟩
  rcases desks_fold p.now p.desks A with h1 | ⟨d, h1, n, h2, h3, h4⟩
  · rw [h1]; exact ⟨hA2.1, hAle, hA2.2⟩
  · refine ⟨by omega, by omega, ?_⟩
    rw [← h3]
    simp only [valsS, List.mem_cons, List.mem_flatMap]
    exact .inr ⟨d, h1, n, h2, by simp⟩
theorem put_mem {l : List GCLive} {x y : GCLive} (h : y ∈ putS l x) : y = x ∨ y ∈ l := by
  unfold putS at h
  rcases List.mem_append.1 h with h | h
  · exact .inr (List.mem_of_mem_take h)
  · rcases List.mem_cons.1 h with h | h
    · exact .inl h
    · exact .inr (List.mem_of_mem_drop h)
theorem startD_ok (p : GCPlayer) (i : Nat) (d : GCDesk) : ∀ (l : List GNote) (a : List GCLive × List GVoice), a.1.length + l.length ≤ 1000000 →
    (l.foldl (startN p i d) a).1.length ≤ a.1.length + (l.map (·.from_)).countP (fun x => decide (x = p.now)) ∧ ∀ y ∈ (l.foldl (startN p i d) a).1, y ∈ a.1 ∨ y.note ∈ l
  | [], a, _ => ⟨by simp, fun y hy => .inl hy⟩
  | n :: r, a, hl => by
    simp only [List.length_cons] at hl
    have hp := put_len a.1 (liveS p i n) (by simp only [Small]; omega)
    have hs : (startN p i d a n).1.length ≤ a.1.length + (if n.from_ = p.now then 1 else 0) ∧ ∀ y ∈ (startN p i d a n).1, y ∈ a.1 ∨ y.note = n := by
      unfold startN
      cases hb : begS p.now d n with
      | false => exact ⟨by simp only [cond_false]; omega, fun y hy => .inl hy⟩
      | true =>
        have hn : n.from_ = p.now := by
          unfold begS at hb
          simp only [Bool.and_eq_true, decide_eq_true_eq] at hb
          exact hb.1
        refine ⟨by simp only [cond_true, hp, hn, if_true]; omega, fun y hy => ?_⟩
        rcases put_mem hy with rfl | hy
        · exact .inr rfl
        · exact .inl hy
    have hle : (startN p i d a n).1.length ≤ a.1.length + 1 := by have := hs.1; split at this <;> omega
    obtain ⟨g1, g2⟩ := startD_ok p i d r (startN p i d a n) (by omega)
    simp only [List.foldl_cons, List.map_cons, List.countP_cons, decide_eq_true_eq]
    refine ⟨by have := hs.1; omega, fun y hy => ?_⟩
    rcases g2 y hy with h | h
    · rcases hs.2 y h with h | h
      · exact .inl h
      · exact .inr (by rw [h]; simp)
    · exact .inr (by simp [h])
theorem startI_ok (p : GCPlayer) : ∀ (l : List GCDesk) (i : Nat) (a : List GCLive × List GVoice), (∀ d ∈ l, d.notes.length ≤ 1000) → a.1.length + 1000 * l.length ≤ 1000000 →
    (foldI (startD p) i l a).1.length ≤ a.1.length + (fromsS l).countP (fun x => decide (x = p.now)) ∧ ∀ y ∈ (foldI (startD p) i l a).1, y ∈ a.1 ∨ ∃ d ∈ l, y.note ∈ d.notes
  | [], i, a, _, _ => ⟨by simp [foldI, fromsS], fun y hy => .inl hy⟩
  | d :: r, i, a, hd, hl => by
    have hdn := hd d (by simp)
    simp only [List.length_cons] at hl
    obtain ⟨h1, h2⟩ := startD_ok p i d d.notes a (by omega)
    have h3 : (d.notes.map (·.from_)).countP (fun x => decide (x = p.now)) ≤ 1000 := Nat.le_trans List.countP_le_length (by simp; omega)
    obtain ⟨g1, g2⟩ := startI_ok p r (i + 1) (startD p i a d) (fun e he => hd e (List.mem_cons_of_mem _ he)) (by unfold startD; omega)
    simp only [foldI]
    have hf : fromsS (d :: r) = d.notes.map (·.from_) ++ fromsS r := by simp [fromsS]
    rw [hf, List.countP_append]
    refine ⟨by unfold startD at g1 ⊢; omega, fun y hy => ?_⟩
    rcases g2 y hy with h | ⟨e, h, h'⟩
    · rcases h2 y h with h | h
      · exact .inl h
      · exact .inr ⟨d, by simp, h⟩
    · exact .inr ⟨e, by simp [h], h'⟩
def leftS (p : GCPlayer) : Nat := (valsS p).countP (fun x => decide (p.now < x)) + (if p.waiting then 1 else 0)
theorem left_few {k : Nat} {p : GCPlayer} (h : Keeps k p) : leftS p ≤ 12002 := by
  unfold leftS
  have h1 := List.countP_le_length (p := fun x => decide (p.now < x)) (l := valsS p)
  have h2 := vals_len p.desks h.notes
  have h3 := h.desks
  have h4 : (valsS p).length = (p.desks.flatMap fun d => d.notes.flatMap fun n => [n.from_, n.to_]).length + 1 := by simp only [valsS, List.length_cons]
  split <;> omega
theorem step_keeps {k : Nat} {p : GCPlayer} (h : Keeps k p) (hn : doneS p = false) : (stepS p).2.1 = 0 ∧ Keeps (k + 1) (stepS p).2.2 ∧ leftS (stepS p).2.2 < leftS p ∧ (stepS p).2.2.end_ = p.end_ ∧ (stepS p).2.2.from_ = p.from_ ∧ (stepS p).2.2.to_ = p.to_ := by
  obtain ⟨n1, n2, n3⟩ := h.now
  unfold stepS
  rw [hn, cond_false]
  cases hw : p.waiting with
  | true =>
    simp only [cond_true]
    have hs := h.waits hw
    have hst := startI_ok ⟨p.clock, p.now, p.end_, false, p.desks, p.from_, p.to_, p.times, p.sounding, p.takes⟩ p.desks 0 (p.sounding.l, []) h.notes (by have := h.desks; rw [hs]; simp; omega)
    refine ⟨by trivial, ⟨h.now, h.desks, h.notes, h.times, (fun e => by cases e), fun _ => ?_, fun x hx => ?_, by have := h.takes; show p.takes.length ≤ _; omega⟩, ?_, rfl, rfl, rfl⟩
    · have := hst.1
      rw [hs] at this
      show (startS _).1.length ≤ _
      unfold startS
      have h2 := countP_eq_le (l := fromsS p.desks) (b := p.now)
      simp only [List.length_nil, Nat.zero_add] at this
      rw [hs]
      exact Nat.le_trans this h2
    · rcases hst.2 x hx with h1 | h1
      · rw [hs] at h1; cases h1
      · exact h1
    · unfold leftS
      show (valsS p).countP (fun x => decide (p.now < x)) + 0 < _
      rw [hw]; simp
  | false =>
    have hlt : p.now < p.end_ := by
      unfold doneS at hn
      rw [hw] at hn
      simp only [Bool.not_false, Bool.true_and, decide_eq_false_iff_not] at hn
      omega
    obtain ⟨t1, t2, t3⟩ := next_ok h hlt
    have ht0 : decide (0 < p.times) = false := by rw [h.times]; rfl
    simp only [cond_false, ht0, Bool.false_and]
    have hf1 := List.length_filter_le (fun x => !atS (nextT p) x) p.sounding.l
    have hf2 := List.length_filter_le (atS (nextT p)) p.sounding.l
    have hlf := live_few h
    have hst := startI_ok ⟨⟨wr (p.clock.ticks + wr (nextT p - p.now))⟩, nextT p, p.end_, false, p.desks, p.from_, p.to_, p.times, ⟨p.sounding.l.filter fun x => !atS (nextT p) x⟩, p.takes ++ (p.sounding.l.filter (atS (nextT p))).map (takeS (wr (p.clock.ticks + wr (nextT p - p.now))))⟩ p.desks 0 (p.sounding.l.filter (fun x => !atS (nextT p) x), []) h.notes (by have := h.desks; simp only; omega)
    refine ⟨by trivial, ⟨⟨by show 0 ≤ nextT p; omega, t2, n3⟩, h.desks, h.notes, h.times, (fun e => by cases e), fun _ => ?_, fun x hx => ?_, ?_⟩, ?_, rfl, rfl, rfl⟩
    · have h1 := hst.1
      have h2 := countP_le (l := fromsS p.desks) t1
      have h3 := h.live hw
      show (startS _).1.length ≤ (fromsS p.desks).countP (fun x => decide (x ≤ nextT p))
      unfold startS
      simp only at h1
      exact Nat.le_trans h1 (by omega)
    · rcases hst.2 x hx with h1 | h1
      · exact h.mem x (List.mem_filter.1 h1).1
      · exact h1
    · have := h.takes
      show (p.takes ++ (p.sounding.l.filter (atS (nextT p))).map _).length ≤ _
      simp only [List.length_append, List.length_map]
      omega
    · unfold leftS
      rw [hw]
      show (valsS p).countP (fun x => decide (nextT p < x)) + 0 < (valsS p).countP (fun x => decide (p.now < x)) + 0
      exact countP_lt t3 t1 (by omega) (by omega)
theorem step_done {p : GCPlayer} (h : doneS p = true) : stepS p = (noFrame, 92, p) := by unfold stepS; rw [h]; rfl
end Go.Proofs.Ytpljabnngpnieaa
