/-
  Plain laws of the player, part 6: the statement on Seek.
  Own work. No Go text.
-/
import Derived.Test.YtpljabnngpnieaaPv
import Derived.Test.YtpljabnngpnieaaV3
set_option linter.all false
namespace Go.Proofs.Ytpljabnngpnieaa
open Go Go.Am
theorem rest_ok (a n : Int) (h0 : 0 < n) (h1 : n ≤ 1000000) : ∃ r, f12 a n = some r ∧ 0 ≤ r ∧ r < n := by
  have g1 := Int.tmod_lt_of_pos a h0
  have g2 := Int.lt_tmod_of_pos a h0
  have hw : wr (Int.tmod a n + n) = Int.tmod a n + n := wr64 (by omega) (by omega)
  have hn : n ≠ 0 := by omega
  unfold f12
  simp only [need, if_pos hn, hw]
  exact ⟨_, rfl, Int.tmod_nonneg _ (by omega), Int.tmod_lt_of_pos _ h0⟩
def seekS (p : GCPlayer) (t : Int) : GCPlayer := ⟨p.clock, t, p.end_, true, moveS p.desks t, p.from_, p.to_, p.times, ⟨[]⟩, p.takes ++ p.sounding.l.map (takeS p.clock.ticks)⟩
theorem f15_1_eq {k : Nat} {p : GCPlayer} (hk : Keeps k p) (hkn : k ≤ 400000) (t : Int) (h0 : 0 ≤ t) (h1 : t ≤ p.end_) :
    f15_1 p t = some (⟨t, [], p.sounding.l.map voiceS⟩, 0, t, true, moveS p.desks t, [], p.takes ++ p.sounding.l.map (takeS p.clock.ticks)) := by
  have hl := live_few hk
  have ht := hk.takes
  have e1 : f40 t 0 p.end_ = some true := by
    unfold f40
    have d1 : decide ((0 : Int) ≤ t) = true := by simpa using h0
    have d2 : decide (t ≤ p.end_) = true := by simpa using h1
    rw [d1, d2]; rfl
  unfold f15_1
  rw [e1]
  simp only [Option.bind_some, Bool.not_true, cond_false]
  rw [f35_eq p (by omega) (by omega)]
  simp only [Option.bind_some]
  rw [f37_eq _ _ (by show p.desks.length ≤ 6; exact hk.desks)]
  rfl
theorem seek_keeps {k : Nat} {p : GCPlayer} (hk : Keeps k p) (t : Int) (h0 : 0 ≤ t) (h1 : t ≤ p.end_) : Keeps (k + 1) (seekS p t) := by
  have hl := live_few hk
  have ht := hk.takes
  refine ⟨⟨h0, h1, hk.now.2.2⟩, ?_, fun d hd => ?_, hk.times, fun _ => rfl, (fun h => by cases h), (fun x hx => by cases hx), ?_⟩
  · show (moveS p.desks t).length ≤ 6
    simp only [moveS, List.length_map]; exact hk.desks
  · obtain ⟨e, he, rfl⟩ := move_mem (show d ∈ moveS p.desks t from hd)
    exact hk.notes e he
  · show (p.takes ++ p.sounding.l.map _).length ≤ _
    simp only [List.length_append, List.length_map]; omega
theorem step_desks {p : GCPlayer} (h : p.times = 0) : (stepS p).2.2.desks = p.desks := by
  have ht : decide (0 < p.times) = false := by rw [h]; rfl
  unfold stepS
  cases doneS p with
  | true => rfl
  | false =>
    cases p.waiting with
    | true => rfl
    | false => simp only [cond_false, ht, Bool.false_and]; rfl
theorem keeps_mono {k m : Nat} {p : GCPlayer} (h : Keeps k p) (hm : k ≤ m) : Keeps m p := ⟨h.now, h.desks, h.notes, h.times, h.waits, h.live, h.mem, by have := h.takes; omega⟩
theorem step_any {k : Nat} {p : GCPlayer} (h : Keeps k p) : Keeps (k + 1) (stepS p).2.2 ∧ (stepS p).2.2.end_ = p.end_ ∧ (stepS p).2.2.from_ = p.from_ ∧ (stepS p).2.2.to_ = p.to_ ∧ (stepS p).2.2.desks = p.desks := by
  cases hd : doneS p with
  | true => rw [step_done hd]; exact ⟨keeps_mono h (by omega), rfl, rfl, rfl, rfl⟩
  | false =>
    obtain ⟨_, h2, _, h4, h5, h6⟩ := step_keeps h hd
    exact ⟨h2, h4, h5, h6, step_desks h.times⟩
theorem voices_len (p : GCPlayer) : ∀ (l : List GCDesk) (i : Nat) (a : List GCLive × List GVoice), (∀ d ∈ l, d.notes.length ≤ 1000) → (foldI (startD p) i l a).2.length ≤ a.2.length + 1000 * l.length
  | [], i, a, _ => by simp [foldI]
  | d :: r, i, a, h => by
    have h1 : ∀ (l : List GNote) (a : List GCLive × List GVoice), (l.foldl (startN p i d) a).2.length ≤ a.2.length + l.length := by
      intro l
      induction l with
      | nil => intro a; simp
      | cons n l ih =>
        intro a
        have := ih (startN p i d a n)
        have h2 : (startN p i d a n).2.length ≤ a.2.length + 1 := by
          unfold startN
          cases begS p.now d n <;> simp
        simp only [List.foldl_cons, List.length_cons]; omega
    have h2 := voices_len p r (i + 1) (startD p i a d) fun e he => h e (List.mem_cons_of_mem _ he)
    have h3 := h1 d.notes a
    have h4 := h d (by simp)
    simp only [foldI, List.length_cons]
    unfold startD at h2 ⊢
    omega
def FewF (f : GFrame) : Prop := f.begin.length ≤ 6000 ∧ f.end_.length ≤ 6000
theorem step_few {k : Nat} {p : GCPlayer} (h : Keeps k p) : FewF (stepS p).1 := by
  have hl := live_few h
  have hd := h.desks
  have key : ∀ q : GCPlayer, q.desks = p.desks → (startS q).2.length ≤ 6000 := fun q hq => by
    unfold startS
    rw [hq]
    have := voices_len q p.desks 0 (q.sounding.l, []) h.notes
    simp only [List.length_nil] at this
    omega
  have ht : decide (0 < p.times) = false := by rw [h.times]; rfl
  unfold stepS
  cases doneS p with
  | true => exact ⟨by simp [noFrame], by simp [noFrame]⟩
  | false =>
    cases p.waiting with
    | true => exact ⟨key _ rfl, by simp⟩
    | false =>
      simp only [cond_false, ht, Bool.false_and]
      have hf2 := List.length_filter_le (atS (nextT p)) p.sounding.l
      exact ⟨key _ rfl, by show (List.map _ _).length ≤ _; rw [List.length_map]; omega⟩
theorem run_few : ∀ (n k : Nat) (p : GCPlayer), Keeps k p → ∀ f ∈ (runS n p).1, FewF f
  | 0, _, _, _, f, hf => by cases hf
  | n + 1, k, p, h, f, hf => by
    simp only [runS] at hf
    cases hd : doneS p with
    | true => rw [hd] at hf; cases hf
    | false =>
      rw [hd] at hf
      simp only [cond_false, List.mem_cons] at hf
      rcases hf with rfl | hf
      · exact step_few h
      · exact run_few n (k + 1) _ (step_any h).1 f hf
theorem run_len : ∀ (n k : Nat) (p : GCPlayer), (runS n p).1.length ≤ n
  | 0, _, _ => by simp [runS]
  | n + 1, k, p => by
    simp only [runS]
    cases doneS p with
    | true => simp
    | false => have := run_len n k (stepS p).2.2; simp; omega
theorem f26_refl (l : List GVoice) (h : l.length ≤ 6000) : f26 l l = some true := by
  have hs : Small l := by simp only [Small]; omega
  unfold f26
  have hd : decide ((l.length : Int) ≠ (l.length : Int)) = false := by simp
  rw [hd, cond_false, loop_none l hs]
  · rfl
  · intro i y hy
    have : eq_GVoice y y = true := by simp [eq_GVoice]
    simp only [dltLen hy, cond_true, ixNat hy, Option.bind_some, this, Bool.not_true, cond_false]
  · simp
theorem f17_refl (f : GFrame) (h : FewF f) : f17 f f = some true := by
  have hd : decide (f.time = f.time) = true := by simp
  unfold f17
  rw [hd, f26_refl _ h.1, f26_refl _ h.2]; rfl
theorem f3_eq (c : GConsort) (a1 a2 : Int) (hs : SizeC c.pieces) : f3 c a1 a2 = some true := by
  suffices h : ∃ r, f3 c a1 a2 = some r ∧ r = true by
    obtain ⟨r, h, rfl⟩ := h; exact h
  unfold f3
  rw [f9_eq c.pieces hs.1]
  simp only [Option.bind_some]
  cases hb : bigS c.pieces with
  | true => exact ⟨true, rfl, rfl⟩
  | false =>
    simp only [cond_false]
    obtain ⟨r, h1, h2⟩ := new_ok c hs
    rw [h1]
    simp only [Option.bind_some]
    rcases h2 with ⟨e, rfl, he⟩ | ⟨hv, rfl⟩
    · have de : decide (e ≠ 0) = true := by simpa using he
      simp only [Sum.elim_inl, de, cond_true]
      exact ⟨true, rfl, rfl⟩
    · simp only [Sum.elim_inr, Option.bind_some]
      obtain ⟨s, s1, s2, s3⟩ := rest_ok a1 41 (by omega) (by omega)
      rw [s1]
      simp only [Option.bind_some]
      have hec := endC_ok hv
      have hk0 := new_keeps hv hb
      refine bind_inv (fun k (x : Int × Int × Bool × List GCDesk × Int × List GCLive × List GTake × Int) => ∃ p : GCPlayer, Keeps k p ∧ p.end_ = endC c.pieces ∧ p.from_ = 0 ∧ p.to_ = 0 ∧ p.desks = c.pieces.map deskP ∧ x = (p.clock.ticks, p.now, p.waiting, p.desks, p.times, p.sounding.l, p.takes, (k : Int)))
        (fun t => ∃ p : GCPlayer, Keeps 41 p ∧ p.end_ = endC c.pieces ∧ p.from_ = 0 ∧ p.to_ = 0 ∧ p.desks = c.pieces.map deskP ∧ t = (p.clock.ticks, p.now, p.waiting, p.desks, p.times, p.sounding.l, p.takes)) s.toNat (by omega) ⟨newS c.pieces, hk0, rfl, rfl, rfl, rfl, rfl⟩ ?_ ?_ ?_
      · rintro k _ hk ⟨p, p1, p2, p3, p4, p5, rfl⟩
        have hd : decide ((k : Int) < s) = true := by simp; omega
        have hst := f13_1_eq p (keeps_roomy p1 (by omega))
        have hst' : f13_1 (⟨(⟨p.clock.ticks⟩ : GCClock), p.now, endC c.pieces, p.waiting, p.desks, 0, 0, p.times, (⟨p.sounding.l⟩ : GCShelf_live), p.takes⟩ : GCPlayer) = some (outS (stepS p)) := by
          rw [← hst, ← p2]
          congr 1
          obtain ⟨_, _, _, _, _, _, _, _, _, _⟩ := p
          simp only at p3 p4
          subst p3; subst p4; rfl
        obtain ⟨q1, q2, q3, q4, q5⟩ := step_any p1
        have hw : wr ((k : Int) + 1) = ((k + 1 : Nat) : Int) := wrNat (by omega)
        simp only [hd, cond_true, hst', Option.bind_some, outS, hw]
        exact ⟨_, rfl, (stepS p).2.2, q1, by rw [q2, p2], by rw [q3, p3], by rw [q4, p4], by rw [q5, p5], rfl⟩
      · rintro _ ⟨p, p1, p2, p3, p4, p5, rfl⟩
        have hd : decide (((s.toNat : Nat) : Int) < s) = false := by simp; omega
        simp only [hd, cond_false]
        exact ⟨_, rfl, p, keeps_mono p1 (by omega), p2, p3, p4, p5, rfl⟩
      · rintro _ ⟨p, p1, p2, p3, p4, p5, rfl⟩
        obtain ⟨⟨tk⟩, nw, en, wt, ds, fr, to, tm, ⟨sd⟩, tks⟩ := p
        simp only at p2 p3 p4 p5
        subst p2; subst p3; subst p4; subst p5
        have hw1 : wr (endC c.pieces + 1) = endC c.pieces + 1 := wr64 (by omega) (by omega)
        obtain ⟨t, t1, t2, t3⟩ := rest_ok a2 (endC c.pieces + 1) (by omega) (by omega)
        have tm0 := p1.times
        simp only at tm0
        subst tm0
        have e1 := f15_1_eq p1 (by omega) t t2 (by show t ≤ endC c.pieces; omega)
        have e2 := f15_1_eq hk0 (by omega) t t2 (by show t ≤ endC c.pieces; omega)
        have d0 : decide ((0 : Int) ≠ 0) = false := rfl
        have k1 := seek_keeps p1 t t2 (by show t ≤ endC c.pieces; omega)
        have k2 := seek_keeps hk0 t t2 (by show t ≤ endC c.pieces; omega)
        have w1 := whole_eq _ _ k1 (by omega)
        have w2 := whole_eq _ _ k2 (by omega)
        have hal : Alike (seekS ⟨⟨tk⟩, nw, endC c.pieces, wt, c.pieces.map deskP, 0, 0, 0, ⟨sd⟩, tks⟩ t) (seekS (newS c.pieces) t) := ⟨rfl, rfl, rfl, rfl, rfl, rfl, rfl⟩
        have hfr := run_er 13000 hal
        have hfew := run_few 13000 _ _ k2
        have hlen := run_len 13000 0 (seekS (newS c.pieces) t)
        have e2' : f15_1 (⟨(⟨0⟩ : GCClock), 0, endC c.pieces, true, c.pieces.map deskP, 0, 0, 0, (⟨([] : List GCLive)⟩ : GCShelf_live), ([] : List GTake)⟩ : GCPlayer) t = _ := e2
        simp only [Option.bind_some, f14_eq c hv, hw1, t1, e1, e2', d0, cond_false]
        have w1' : f16_1 (⟨(⟨tk⟩ : GCClock), t, endC c.pieces, true, moveS (c.pieces.map deskP) t, 0, 0, 0, (⟨([] : List GCLive)⟩ : GCShelf_live), tks ++ sd.map (takeS tk)⟩ : GCPlayer) = _ := w1
        have w2' : f16_1 (⟨(⟨0⟩ : GCClock), t, endC c.pieces, true, moveS (newS c.pieces).desks t, 0, 0, 0, (⟨([] : List GCLive)⟩ : GCShelf_live), (newS c.pieces).takes ++ (newS c.pieces).sounding.l.map (takeS (newS c.pieces).clock.ticks)⟩ : GCPlayer) = _ := w2
        rw [w1']
        simp only [Option.bind_some]
        rw [w2']
        simp only [Option.bind_some, Bool.not_true, cond_false, hfr]
        have dl : decide (((runS 13000 (seekS (newS c.pieces) t)).1.length : Int) ≠ ((runS 13000 (seekS (newS c.pieces) t)).1.length : Int)) = false := by simp
        simp only [dl, cond_false]
        rw [loop_none (runS 13000 (seekS (newS c.pieces) t)).1 (by simp only [Small]; omega)]
        · exact ⟨true, rfl, rfl⟩
        · intro i f hf
          simp only [dltLen hf, cond_true, ixNat hf, Option.bind_some, f17_refl f (hfew f (List.mem_of_getElem? hf)), Bool.not_true, cond_false]
        · simp
end Go.Proofs.Ytpljabnngpnieaa
