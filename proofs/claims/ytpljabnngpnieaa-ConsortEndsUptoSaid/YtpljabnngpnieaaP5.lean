/-
  Plain laws of the player, part 10: ConsortEnds.
  Own work. No Go text.
-/
import Derived.Test.YtpljabnngpnieaaPt
import Derived.Test.YtpljabnngpnieaaP3
import Derived.Test.YtpljabnngpnieaaV5
set_option linter.all false
namespace Go.Proofs.Ytpljabnngpnieaa
open Go Go.Am
theorem min_bound (l : List Int) (h0 : 0 < l.length) (hs : l.length ≤ 100) : (∃ m, f50 l = some m ∧ ∀ (i : Nat) y, l[i]? = some y → m ≤ y) ∧ ∃ m, f51 l = some m ∧ ∀ (i : Nat) y, l[i]? = some y → y ≤ m := by
  have hd : decide ((l.length : Int) < 1) = false := by simp; omega
  have hg : l[0]? = some (l[0]'h0) := List.getElem?_eq_getElem h0
  have hg' : ix l 0 = some (l[0]'h0) := ixNat hg
  have hls : Small l := by simp only [Small]; omega
  constructor
  · unfold f50
    simp only [hd, cond_false, Option.bind_some, hg']
    obtain ⟨t, h1, h2⟩ := loop_inv (body := fun ((l2_3, l2_4) : (Int × Int)) => bif (decide (l2_4 < (l.length : Int))) then ((ix l l2_4).bind fun y4 => some (.inl ((minI l2_3 y4), (wr (l2_4 + 1))))) else (some (.inr l2_3))) (fun k (s : Int × Int) => s.2 = (k : Int) ∧ ∀ (i : Nat) y, i < k → l[i]? = some y → s.1 ≤ y) (fun t => ∀ (i : Nat) y, l[i]? = some y → t ≤ y) l.length
      (by rintro k ⟨a, b⟩ hk ⟨rfl, ha⟩
          have hgk : l[k]? = some (l[k]'hk) := List.getElem?_eq_getElem hk
          simp only [dltLen hgk, cond_true, ixNat hgk, Option.bind_some, wrLen hls hgk]
          refine ⟨_, rfl, rfl, fun i y hi hy => ?_⟩
          show minI a _ ≤ y
          unfold minI
          by_cases hik : i = k
          · subst hik
            rw [hgk] at hy
            cases hy
            split <;> omega
          · have h5 : a ≤ y := ha i y (by omega) hy
            split <;> omega)
      (by rintro ⟨a, b⟩ ⟨rfl, ha⟩; exact ⟨a, by simp, fun i y hy => ha i y (List.getElem?_eq_some_iff.1 hy).1 hy⟩) (l.length - 1) 1 FUEL (l[0]'h0, 1) (by omega) (by unfold FUEL; omega)
      ⟨rfl, fun i y hi hy => by
        have : i = 0 := by omega
        subst this
        rw [hg] at hy
        cases hy
        exact Int.le_refl _⟩
    rw [h1]; exact ⟨_, rfl, h2⟩
  · unfold f51
    simp only [hd, cond_false, Option.bind_some, hg']
    obtain ⟨t, h1, h2⟩ := loop_inv (body := fun ((l2_3, l2_4) : (Int × Int)) => bif (decide (l2_4 < (l.length : Int))) then ((ix l l2_4).bind fun y4 => some (.inl ((maxI l2_3 y4), (wr (l2_4 + 1))))) else (some (.inr l2_3))) (fun k (s : Int × Int) => s.2 = (k : Int) ∧ ∀ (i : Nat) y, i < k → l[i]? = some y → y ≤ s.1) (fun t => ∀ (i : Nat) y, l[i]? = some y → y ≤ t) l.length
      (by rintro k ⟨a, b⟩ hk ⟨rfl, ha⟩
          have hgk : l[k]? = some (l[k]'hk) := List.getElem?_eq_getElem hk
          simp only [dltLen hgk, cond_true, ixNat hgk, Option.bind_some, wrLen hls hgk]
          refine ⟨_, rfl, rfl, fun i y hi hy => ?_⟩
          show y ≤ maxI a _
          unfold maxI
          by_cases hik : i = k
          · subst hik
            rw [hgk] at hy
            cases hy
            split <;> omega
          · have h5 : y ≤ a := ha i y (by omega) hy
            split <;> omega)
      (by rintro ⟨a, b⟩ ⟨rfl, ha⟩; exact ⟨a, by simp, fun i y hy => ha i y (List.getElem?_eq_some_iff.1 hy).1 hy⟩) (l.length - 1) 1 FUEL (l[0]'h0, 1) (by omega) (by unfold FUEL; omega)
      ⟨rfl, fun i y hi hy => by
        have : i = 0 := by omega
        subst this
        rw [hg] at hy
        cases hy
        exact Int.le_refl _⟩
    rw [h1]; exact ⟨_, rfl, h2⟩
theorem ends_same (c : GConsort) (hs : SizeC c.pieces) (x : Int × List GCDesk) (h : f11 c = some (.inr x)) : ∀ p ∈ c.pieces, endP p = endC c.pieces := by
  obtain ⟨r, h1, h2⟩ := band_ok c.pieces hs
  have h30 : ∃ y, f30 c = some y ∧ y.2 = 0 := by
    obtain ⟨y, g1, g2⟩ := length_ok c hs
    refine ⟨y, g1, ?_⟩
    unfold f11 at h
    rw [g1] at h
    simp only [Option.bind_some] at h
    by_cases hz : y.2 = 0
    · exact hz
    · have dz : decide (y.2 ≠ 0) = true := by simpa using hz
      rw [dz, cond_true] at h
      cases h
  obtain ⟨y, g1, g2⟩ := h30
  unfold f30 at g1
  rw [h1] at g1
  simp only [Option.bind_some] at g1
  by_cases hz : r.2 = 0
  · obtain ⟨k1, k2, k3, k4⟩ := h2 hz
    have dz : decide (r.2 ≠ 0) = false := by simpa using hz
    obtain ⟨⟨m1, hm1, b1⟩, m2, hm2, b2⟩ := min_bound (c.pieces.map endP) (by simp; omega) (by simp; omega)
    rw [dz, cond_false, k4, hm1, hm2] at g1
    simp only [Option.bind_some] at g1
    by_cases hmm : m1 = m2
    · subst hmm
      have key : ∀ (i : Nat) y, (c.pieces.map endP)[i]? = some y → y = m1 := fun i y hy => by
        have := b1 i y hy
        have := b2 i y hy
        omega
      have hg0 : (c.pieces.map endP)[0]? = some ((c.pieces.map endP)[0]'(by simp; omega)) := List.getElem?_eq_getElem (by simp; omega)
      have he : endC c.pieces = m1 := by
        unfold endC
        rw [hg0]
        exact key 0 _ hg0
      intro p hp
      obtain ⟨i, hi⟩ := List.getElem?_of_mem hp
      rw [he]
      exact key i _ (by rw [List.getElem?_map, hi]; rfl)
    · have dm : decide (m1 ≠ m2) = true := by simpa using hmm
      rw [dm, cond_true] at g1
      cases g1
      cases g2
  · have dz : decide (r.2 ≠ 0) = true := by simpa using hz
    rw [dz, cond_true] at g1
    cases g1
    exact absurd g2 hz
theorem notes_in {p : GPiece} (hv : ValidP p) (h39 : f39 p = some (onsS p, 0)) : ∀ n ∈ notesP p, 0 ≤ n.from_ ∧ n.from_ < n.to_ ∧ n.to_ ≤ endP p := by
  obtain ⟨r, h1, h2, h3⟩ := notes_spans p hv
  have d0 : decide ((0 : Int) ≠ 0) = false := rfl
  have hn : notesP p = r.1 := by
    unfold notesP f32 f54
    rw [h39]
    simp only [Option.bind_some, d0, cond_false, h1]
    rfl
  rw [hn]
  intro n hn
  obtain ⟨i, j, a3, a1, a2⟩ := h3 n hn
  obtain ⟨s, s1, s2, s3⟩ := ons_shape hv
  have hl : (onsS p).length = s.length + 1 := by rw [s1]; simp
  have hjl := (List.getElem?_eq_some_iff.1 a2).1
  have hg : (onsS p)[s.length]? = some (endP p) := by
    have h4 : (onsS p)[s.length]? = some ((onsS p)[s.length]'(by omega)) := List.getElem?_eq_getElem (by omega)
    have h5 : (onsS p).getLast? = (onsS p)[(onsS p).length - 1]? := List.getLast?_eq_getElem?
    rw [hl, Nat.add_sub_cancel, h4] at h5
    unfold endP
    rw [h5, h4]; rfl
  rw [s1] at a1 a2 hg
  refine ⟨(asc_bounds s 0 s2 i _ a1).1, asc_lt s 0 s2 i j _ _ a3 a1 a2, ?_⟩
  by_cases hj : j = s.length
  · subst hj
    rw [hg] at a2
    exact Int.le_of_eq (Option.some.inj a2).symm
  · have := asc_lt s 0 s2 j s.length _ _ (by omega) a2 hg
    omega
theorem desk_notes (p : GPiece) : (deskP p).notes = notesP p := rfl
theorem fine_new (c : GConsort) (hv : ValidC c.pieces) (hsame : ∀ p ∈ c.pieces, endP p = endC c.pieces) : FineD (endC c.pieces) (c.pieces.map deskP) := by
  intro d hd
  obtain ⟨p, hp, rfl⟩ := List.mem_map.1 hd
  refine ⟨rfl, fun n hn => ?_⟩
  obtain ⟨i, hi⟩ := List.getElem?_of_mem hp
  obtain ⟨v1, v2⟩ := hv.2.2 i p hi
  rw [← hsame p hp]
  exact notes_in v1 v2 n hn
theorem plays_new (c : GConsort) (hv : ValidC c.pieces) (hb : bigS c.pieces = false) (hsame : ∀ p ∈ c.pieces, endP p = endC c.pieces) : Plays 0 (newS c.pieces) :=
  ⟨new_keeps hv hb, fine_new c hv hsame, rfl, fun _ => ⟨rfl, rfl⟩, (fun h => by cases h), (fun h => by cases h)⟩
def upF : Int → List GFrame → Prop
  | _, [] => True
  | a, f :: r => a < f.time ∧ upF f.time r
theorem upF_idx : ∀ (l : List GFrame) (a : Int), upF a l → ∀ (i : Nat) f g, l[i]? = some f → l[i + 1]? = some g → f.time < g.time
  | [], _, _, i, f, g, h1, _ => by simp at h1
  | [x], _, _, i, f, g, _, h2 => by simp at h2
  | x :: y :: r, a, h, 0, f, g, h1, h2 => by
    simp at h1 h2
    subst h1; subst h2
    exact h.2.1
  | x :: y :: r, a, h, i + 1, f, g, h1, h2 => upF_idx (y :: r) x.time h.2 i f g (by simpa using h1) (by simpa using h2)
theorem run_plays : ∀ (n k : Nat) (p : GCPlayer), Plays k p → leftS p ≤ n → (∃ k', Plays k' (runS n p).2) ∧ doneS (runS n p).2 = true ∧ (runS n p).2.end_ = p.end_ ∧ (runS n p).2.desks = p.desks ∧ ∃ a, upF a (runS n p).1 ∧ (p.waiting = false → a = p.now)
  | 0, k, p, h, hl => by
    have hd : doneS p = true := by
      cases hd : doneS p with
      | true => rfl
      | false => have := (step_keeps h.keeps hd).2.2.1; omega
    exact ⟨⟨k, h⟩, hd, rfl, rfl, p.now, trivial, fun _ => rfl⟩
  | n + 1, k, p, h, hl => by
    cases hd : doneS p with
    | true =>
      have hr : runS (n + 1) p = ([], p) := by simp only [runS, hd, cond_true]
      rw [hr]
      exact ⟨⟨k, h⟩, hd, rfl, rfl, p.now, trivial, fun _ => rfl⟩
    | false =>
      have hr : runS (n + 1) p = ((stepS p).1 :: (runS n (stepS p).2.2).1, (runS n (stepS p).2.2).2) := by simp only [runS, hd, cond_false]
      obtain ⟨s1, s2, s3, s4⟩ := step_plays h hd
      have hlt := (step_keeps h.keeps hd).2.2.1
      obtain ⟨t1, t2, t3, t4, t5⟩ := step_any h.keeps
      obtain ⟨g1, g2, g3, g4, a, g5, g6⟩ := run_plays n (k + 1) (stepS p).2.2 s1 (by omega)
      rw [hr]
      have ha := g6 s3
      refine ⟨g1, g2, by rw [← t2]; exact g3, by rw [← t5]; exact g4, ?_⟩
      rw [ha, ← s2] at g5
      cases hw : p.waiting with
      | true => exact ⟨(stepS p).1.time - 1, ⟨by omega, g5⟩, fun e => by cases e⟩
      | false => exact ⟨p.now, ⟨by rw [s2]; exact s4 hw, g5⟩, fun _ => rfl⟩
theorem all_want (later : Int) (h0 : later = 0) (en : Int) (hen : en ≤ 1000000) : ∀ (l : List GPiece) (i : Nat), FineD en (l.map deskP) → allT i (l.map deskP) = wantI (-1) later i l
  | [], _, _ => rfl
  | p :: r, i, h => by
    have ih := all_want later h0 en hen r (i + 1) fun d hd => h d (by simp only [List.map_cons, List.mem_cons]; exact .inr hd)
    have hp := (h (deskP p) (by simp)).2
    have hd : decide ((i : Int) = -1) = false := decide_eq_false (by omega)
    have hsil : (deskP p).silent = false := rfl
    simp only [List.map_cons, allT, wantI, ih, hsil, cond_false, wantP, hd, desk_notes]
    congr 1
    refine List.map_congr_left fun n hn => ?_
    obtain ⟨b1, b2, b3⟩ := hp n (by rw [desk_notes]; exact hn)
    unfold noteT wantN
    rw [h0, Int.add_zero, Int.add_zero, wr64 (by omega) (by omega), wr64 (by omega) (by omega)]
theorem allT_len : ∀ (l : List GCDesk) (i : Nat), (∀ d ∈ l, d.notes.length ≤ 1000) → (allT i l).length ≤ 1000 * l.length
  | [], _, _ => by simp [allT]
  | d :: r, i, h => by
    have h1 := allT_len r (i + 1) fun e he => h e (List.mem_cons_of_mem _ he)
    have h2 := h d (by simp)
    simp only [allT, List.length_append, List.length_cons]
    cases d.silent with
    | true => simp only [cond_true, List.length_nil]; omega
    | false => simp only [cond_false, List.length_map]; omega
theorem end_state {k : Nat} {p : GCPlayer} (h : Plays k p) (hd : doneS p = true) : p.waiting = false ∧ p.now = p.end_ ∧ p.sounding.l = [] ∧ p.clock.ticks = p.end_ ∧ p.takes.Perm (allT 0 p.desks) ∧ p.takes.length ≤ 6000 := by
  unfold doneS at hd
  simp only [Bool.and_eq_true, Bool.not_eq_true', decide_eq_true_eq] at hd
  obtain ⟨hw, he⟩ := hd
  have hl := h.live hw
  have hs : p.sounding.l = [] := by
    cases hq : p.sounding.l with
    | nil => rfl
    | cons x r =>
      have hx : x ∈ p.sounding.l := by rw [hq]; simp
      obtain ⟨d, hd, hn⟩ := h.keeps.mem x hx
      have h1 := ((h.fine d hd).2 x.note hn).2.2
      have h2 := hl x hx
      omega
  have hall := h.all hw
  have hf : (allT 0 p.desks).filter (toF p.now) = allT 0 p.desks := by
    rw [List.filter_eq_self]
    intro t ht
    obtain ⟨d, hd, _, n, hn, e1, _⟩ := allT_mem ht
    have := (h.fine d hd).2 n hn
    unfold toF
    simp only [decide_eq_true_eq]
    omega
  rw [hs, hf] at hall
  simp only [List.map_nil, List.append_nil] at hall
  have h6 := allT_len p.desks 0 h.keeps.notes
  have h7 := h.keeps.desks
  exact ⟨hw, he, hs, by rw [h.ticks, he], hall, by rw [hall.length_eq]; omega⟩
theorem f41_eq (l : List GTake) (h : l.length ≤ 6000) : f41 l = some l := by
  unfold f41
  by_cases hz : l = []
  · subst hz; rfl
  · have hd : decide (l = []) = false := by simpa using hz
    have hm : l.length ≤ maxElems := by unfold maxElems; omega
    simp only [hd, cond_false, need, if_pos hm, Option.bind_some]
theorem f42_nil : f42_1 [] = some [] := by
  unfold f42_1
  rw [loop_all (r := ([] : List GVoice)) (fun _ => (([] : List GVoice), (0 : Int))) 0 (by omega) rfl (fun k hk => absurd hk (by omega))]
  · rfl
  · rfl
theorem bind_inv1 {σ τ R : Type} {body : σ → Option (σ ⊕ τ)} {s0 : σ} {f : τ → Option R} {Q : R → Prop} (I : Nat → σ → Prop) (T : τ → Prop) (m : Nat) (hm : m ≤ 4194304) (h1 : 1 ≤ m) (h0 : I 1 s0)
    (hb : ∀ k s, k < m → 1 ≤ k → I k s → ∃ s', body s = some (.inl s') ∧ I (k + 1) s') (he : ∀ s, I m s → ∃ t, body s = some (.inr t) ∧ T t) (hf : ∀ t, T t → ∃ r, f t = some r ∧ Q r) : ∃ r, (loopN body FUEL s0).bind f = some r ∧ Q r := by
  obtain ⟨t, g1, g2⟩ := loop_inv (fun k s => 1 ≤ k ∧ I k s) T m (fun k s hk hi => by
    obtain ⟨s', e1, e2⟩ := hb k s hk hi.1 hi.2
    exact ⟨s', e1, by omega, e2⟩) (fun s hs => he s hs.2) (m - 1) 1 FUEL s0 (by omega) (by unfold FUEL; omega) ⟨Nat.le_refl _, h0⟩
  obtain ⟨r, h3, h4⟩ := hf t g2
  exact ⟨r, by rw [g1]; exact h3, h4⟩
theorem f5_eq (c : GConsort) (hs : SizeC c.pieces) : f5 c = some true := by
  suffices h : ∃ r, f5 c = some r ∧ r = true by
    obtain ⟨r, h, rfl⟩ := h; exact h
  unfold f5
  rw [f9_eq c.pieces hs.1]
  simp only [Option.bind_some]
  cases hb : bigS c.pieces with
  | true => exact ⟨true, rfl, rfl⟩
  | false =>
    simp only [cond_false]
    obtain ⟨r, h1, h2⟩ := new_ok c hs
    have h1' := h1
    rw [h1]
    simp only [Option.bind_some]
    rcases h2 with ⟨e, rfl, he⟩ | ⟨hv, rfl⟩
    · have de : decide (e ≠ 0) = true := by simpa using he
      simp only [Sum.elim_inl, de, cond_true]
      exact ⟨true, rfl, rfl⟩
    · have hsame := ends_same c hs _ h1'
      have hpl := plays_new c hv hb hsame
      have hec := endC_ok hv
      have w := whole_eq 0 (newS c.pieces) hpl.keeps (by omega)
      obtain ⟨⟨k', q1⟩, q2, q3, q4, a, q5, _⟩ := run_plays 13000 0 (newS c.pieces) hpl (by have := left_few hpl.keeps; omega)
      have hrl := run_len 13000 0 (newS c.pieces)
      obtain ⟨u1, u2, u3, u4, u5, u6⟩ := end_state q1 q2
      have hq3 : (runS 13000 (newS c.pieces)).2.end_ = endC c.pieces := q3
      have hq4 : (runS 13000 (newS c.pieces)).2.desks = c.pieces.map deskP := q4
      rw [hq3] at u2 u4
      rw [hq4, all_want 0 rfl (endC c.pieces) (by omega) c.pieces 0 (fine_new c hv hsame)] at u5
      generalize hF : (runS 13000 (newS c.pieces)).1 = F at q5 hrl w
      generalize hq : (runS 13000 (newS c.pieces)).2 = q at u1 u2 u3 u4 u5 u6 w
      have w' : f16_1 (⟨(⟨0⟩ : GCClock), 0, endC c.pieces, true, c.pieces.map deskP, 0, 0, 0, (⟨([] : List GCLive)⟩ : GCShelf_live), ([] : List GTake)⟩ : GCPlayer) = _ := w
      simp only [Sum.elim_inr]
      rw [w']
      simp only [Option.bind_some, partsS, u1, u2, u3, u4, Bool.not_true, cond_false]
      have h22 : f22_1 (⟨(⟨endC c.pieces⟩ : GCClock), endC c.pieces, endC c.pieces, false, q.desks, 0, 0, q.times, (⟨([] : List GCLive)⟩ : GCShelf_live), q.takes⟩ : GCPlayer) = some true := by
        rw [f22_1_eq]; simp [doneS]
      have h23 : f23_1 (⟨(⟨endC c.pieces⟩ : GCClock), endC c.pieces, endC c.pieces, false, q.desks, 0, 0, q.times, (⟨([] : List GCLive)⟩ : GCShelf_live), q.takes⟩ : GCPlayer) = some [] := by
        unfold f23_1
        simp only [f42_nil, Option.bind_some]
      have h20 : f20_1 (⟨(⟨endC c.pieces⟩ : GCClock), endC c.pieces, endC c.pieces, false, q.desks, 0, 0, q.times, (⟨([] : List GCLive)⟩ : GCShelf_live), q.takes⟩ : GCPlayer) = some q.takes := by
        unfold f20_1
        simp only [f41_eq q.takes u6, Option.bind_some]
      have dn : decide (((([] : List GVoice).length : Nat) : Int) ≠ 0) = false := rfl
      rw [h22]
      simp only [Option.bind_some, Bool.not_true, cond_false]
      rw [h23]
      simp only [Option.bind_some, dn, cond_false]
      have hde : decide (endC c.pieces = endC c.pieces) = true := by simp
      have hno := noted_ok c hv q.takes (-1) 0 (by omega) u5
      have fin : ∃ r, ((((f19_1 (⟨(⟨endC c.pieces⟩ : GCClock), endC c.pieces, endC c.pieces, false, q.desks, 0, 0, q.times, (⟨([] : List GCLive)⟩ : GCShelf_live), q.takes⟩ : GCPlayer)).bind fun r37 => (f14 c).bind fun r38 => bif (decide (endC c.pieces = r38)) then ((f24_1 (⟨(⟨endC c.pieces⟩ : GCClock), endC c.pieces, endC c.pieces, false, q.desks, 0, 0, q.times, (⟨([] : List GCLive)⟩ : GCShelf_live), q.takes⟩ : GCPlayer)).bind fun r40 => (f14 c).bind fun r41 => bif (decide (endC c.pieces = r41)) then ((f20_1 (⟨(⟨endC c.pieces⟩ : GCClock), endC c.pieces, endC c.pieces, false, q.desks, 0, 0, q.times, (⟨([] : List GCLive)⟩ : GCShelf_live), q.takes⟩ : GCPlayer)).bind fun r43 => (f21 c r43 (-1) 0).bind fun r44 => bif r44 then ((f10).bind fun r46 => some r46) else (some false)) else (some false)) else (some false)) : Option Bool).bind fun (j6_2 : Bool) => some j6_2) = some r ∧ r = true := by
        have e1 : ∀ x, f19_1 x = some () := fun _ => rfl
        have e2 : ∀ x, f24_1 x = some () := fun _ => rfl
        simp only [e1, e2, Option.bind_some, f14_eq c hv, hde, cond_true]
        rw [h20]
        simp only [Option.bind_some]
        rw [hno]
        exact ⟨true, rfl, rfl⟩
      have hFs : Small F := by simp only [Small]; omega
      by_cases hF0 : F.length = 0
      · have hnil : F = [] := List.length_eq_zero_iff.1 hF0
        rw [hnil]
        exact fin
      · refine bind_inv1 (fun k (s : Int) => s = (k : Int)) (fun t => t = .inl ()) F.length (by omega) (by omega) rfl ?_ ?_ ?_
        · rintro k s hk hk1 rfl
          have hg : F[k]? = some (F[k]'hk) := List.getElem?_eq_getElem hk
          have hg1 : F[k - 1]? = some (F[k - 1]'(by omega)) := List.getElem?_eq_getElem (by omega)
          have hlt := upF_idx F a q5 (k - 1) _ _ hg1 (by rw [Nat.sub_add_cancel (by omega)]; exact hg)
          have hw1 : wr ((k : Int) - 1) = ((k - 1 : Nat) : Int) := by rw [wr64 (by omega) (by omega)]; omega
          have hdt : decide ((F[k]'hk).time ≤ (F[k - 1]'(by omega)).time) = false := by simp only [decide_eq_false_iff_not]; omega
          simp only [dltLen hg, cond_true, ixNat hg, hw1, ixNat hg1, Option.bind_some, hdt, cond_false, wrLen hFs hg]
          exact ⟨_, rfl, rfl⟩
        · rintro s rfl
          exact ⟨_, by simp, rfl⟩
        · rintro t rfl
          simp only [Sum.elim_inl]
          exact fin
end Go.Proofs.Ytpljabnngpnieaa
