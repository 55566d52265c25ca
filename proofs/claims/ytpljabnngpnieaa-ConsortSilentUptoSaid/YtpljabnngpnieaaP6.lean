/-
  Plain laws of the player, part 11: ConsortSilent.
  Own work. No Go text.
-/
import Derived.Test.YtpljabnngpnieaaP5
import Derived.Test.YtpljabnngpnieaaV6
set_option linter.all false
namespace Go.Proofs.Ytpljabnngpnieaa
open Go Go.Am
theorem f35_2_nil (p : GCPlayer) (i : Int) (h : p.sounding.l = []) : f35_2 p i = some ([], [], p.takes) := by
  have e1 : f58_2 p i = some ([], []) := by
    unfold f58_2
    rw [h]
    rw [loop_all (r := (([] : List GCLive), ([] : List GCLive))) (fun _ => (([] : List GCLive), ([] : List GCLive), (0 : Int))) 0 (by omega) rfl (fun k hk => absurd hk (by omega))]
    · rfl
    · rfl
  have e2 : f42 [] = some [] := by
    unfold f42
    rw [loop_all (r := ([] : List GVoice)) (fun _ => (([] : List GVoice), (0 : Int))) 0 (by omega) rfl (fun k hk => absurd hk (by omega))]
    · rfl
    · rfl
  unfold f35_2
  rw [e1]
  simp only [Option.bind_some, e2]
  rw [loop_all (r := p.takes) (fun _ => (p.takes, (0 : Int))) 0 (by omega) rfl (fun k hk => absurd hk (by omega))]
  · rfl
  · rfl
def muteD (l : List GPiece) (i : Nat) : List GCDesk := (l.map deskP).set i ⟨notesP (l[i]?.getD ⟨⟨[], []⟩, []⟩), true, 0⟩
theorem mute_get {l : List GPiece} {i : Nat} {p : GPiece} (hp : l[i]? = some p) {j : Nat} {d : GCDesk} (h : (muteD l i)[j]? = some d) : ∃ q, l[j]? = some q ∧ d.notes = notesP q ∧ d.silent = decide ((j : Int) = (i : Int)) ∧ d.since = 0 := by
  unfold muteD at h
  rw [hp, List.getElem?_set] at h
  by_cases hij : i = j
  · subst hij
    rw [if_pos rfl] at h
    split at h
    · cases h
      exact ⟨p, hp, rfl, by simp, rfl⟩
    · cases h
  · rw [if_neg hij, List.getElem?_map] at h
    cases hq : l[j]? with
    | none => rw [hq] at h; cases h
    | some q =>
      rw [hq] at h
      cases h
      have : decide ((j : Int) = (i : Int)) = false := by simp; omega
      exact ⟨q, rfl, rfl, by rw [this]; rfl, rfl⟩
theorem mute_mem {l : List GPiece} {i : Nat} {p : GPiece} (hp : l[i]? = some p) {d : GCDesk} (h : d ∈ muteD l i) : ∃ q ∈ l, d.notes = notesP q ∧ d.since = 0 := by
  obtain ⟨j, hj⟩ := List.getElem?_of_mem h
  obtain ⟨q, h1, h2, _, h4⟩ := mute_get hp hj
  exact ⟨q, List.mem_of_getElem? h1, h2, h4⟩
theorem all_wantG (silent : Int) (en : Int) (hen : en ≤ 1000000) : ∀ (l : List GPiece) (ds : List GCDesk) (i : Nat), ds.length = l.length →
    (∀ (j : Nat) d, ds[j]? = some d → ∃ q, l[j]? = some q ∧ d.notes = notesP q ∧ d.silent = decide (((i + j : Nat) : Int) = silent)) → FineD en ds → allT i ds = wantI silent 0 i l
  | [], [], _, _, _, _ => rfl
  | [], _ :: _, _, h, _, _ => by simp at h
  | _ :: _, [], _, h, _, _ => by simp at h
  | p :: l, d :: r, i, hlen, h, hf => by
    have ih := all_wantG silent en hen l r (i + 1) (by simpa using hlen) (fun j e he => by
      obtain ⟨q, h1, h2, h3⟩ := h (j + 1) e (by simpa using he)
      refine ⟨q, by simpa using h1, h2, ?_⟩
      rw [h3]
      have : i + (j + 1) = i + 1 + j := by omega
      rw [this]) fun e he => hf e (List.mem_cons_of_mem _ he)
    obtain ⟨q, h1, h2, h3⟩ := h 0 d rfl
    have hq : p = q := by simpa using h1
    subst hq
    rw [Nat.add_zero] at h3
    have hp := (hf d (by simp)).2
    simp only [allT, wantI, ih, wantP, h3]
    congr 1
    cases decide ((i : Int) = silent) with
    | true => rfl
    | false =>
      simp only [cond_false, ← h2]
      refine List.map_congr_left fun n hn => ?_
      obtain ⟨b1, b2, b3⟩ := hp n hn
      unfold noteT wantN
      rw [Int.add_zero, Int.add_zero, wr64 (by omega) (by omega), wr64 (by omega) (by omega)]
def quietS (l : List GPiece) (i : Nat) : GCPlayer := ⟨⟨0⟩, 0, endC l, true, muteD l i, 0, 0, 0, ⟨[]⟩, []⟩
theorem plays_quiet (c : GConsort) (hv : ValidC c.pieces) (hb : bigS c.pieces = false) (hsame : ∀ p ∈ c.pieces, endP p = endC c.pieces) (i : Nat) (p : GPiece) (hp : c.pieces[i]? = some p) : Plays 0 (quietS c.pieces i) := by
  have hk := new_keeps hv hb
  have hf := fine_new c hv hsame
  refine ⟨⟨hk.now, ?_, ?_, rfl, fun _ => rfl, (fun h => by cases h), (fun x hx => by cases hx), Nat.le_refl _⟩, ?_, rfl, fun _ => ⟨rfl, rfl⟩, (fun h => by cases h), (fun h => by cases h)⟩
  · have := hk.desks
    show (muteD c.pieces i).length ≤ 6
    unfold muteD
    rw [List.length_set]
    exact this
  · intro d hd
    obtain ⟨q, h1, h2, h3⟩ := mute_mem hp hd
    rw [h2, ← desk_notes]
    exact hk.notes _ (List.mem_map_of_mem h1)
  · intro d hd
    obtain ⟨q, h1, h2, h3⟩ := mute_mem hp hd
    have := hf _ (List.mem_map_of_mem h1)
    rw [desk_notes] at this
    refine ⟨h3, ?_⟩
    rw [h2]
    exact this.2
theorem mute_eq (l : List GPiece) (i : Nat) (p : GPiece) (hp : l[i]? = some p) (hl : l.length ≤ 6) : f25_1 (newS l) (i : Int) true = some (⟨0, [], []⟩, 0, muteD l i, [], []) := by
  have hil := (List.getElem?_eq_some_iff.1 hp).1
  have hlen : (newS l).desks.length = l.length := by show (l.map deskP).length = _; simp
  have hw : wr ((((newS l).desks.length : Nat) : Int) - 1) = (l.length : Int) - 1 := by rw [hlen, wr64 (by omega) (by omega)]
  have e1 : f40 (i : Int) 0 ((l.length : Int) - 1) = some true := by
    unfold f40
    have d1 : decide ((0 : Int) ≤ (i : Int)) = true := by simp
    have d2 : decide ((i : Int) ≤ (l.length : Int) - 1) = true := by simp; omega
    rw [d1, d2]; rfl
  have hg : (newS l).desks[i]? = some (deskP p) := by show (l.map deskP)[i]? = _; rw [List.getElem?_map, hp]; rfl
  have hg' : ix (newS l).desks (i : Int) = some (deskP p) := ixNat hg
  have hb : ((deskP p).silent == true) = false := rfl
  unfold f25_1
  rw [hw, e1]
  simp only [Option.bind_some, Bool.not_true, cond_false, cond_true, hg', hb]
  rw [f35_2_nil (newS l) _ rfl]
  simp only [Option.bind_some, Int.toNat_natCast]
  unfold muteD
  rw [hp]
  rfl
theorem f6_eq (c : GConsort) (a1 : Int) (hs : SizeC c.pieces) : f6 c a1 = some true := by
  suffices h : ∃ r, f6 c a1 = some r ∧ r = true by
    obtain ⟨r, h, rfl⟩ := h; exact h
  unfold f6
  rw [f9_eq c.pieces hs.1]
  simp only [Option.bind_some]
  cases hb : bigS c.pieces with
  | true => exact ⟨true, rfl, rfl⟩
  | false =>
    simp only [cond_false, Option.bind_some, lenP]
    by_cases h0 : c.pieces.length = 0
    · have d0 : decide (c.pieces.length = 0) = true := by simpa using h0
      rw [d0]; exact ⟨true, rfl, rfl⟩
    · have d0 : decide (c.pieces.length = 0) = false := by simpa using h0
      rw [d0, cond_false]
      obtain ⟨r, h1, h2⟩ := new_ok c hs
      have h1' := h1
      rw [h1]
      simp only [Option.bind_some]
      rcases h2 with ⟨e, rfl, he⟩ | ⟨hv, rfl⟩
      · have de : decide (e ≠ 0) = true := by simpa using he
        simp only [Sum.elim_inl, de, cond_true]
        exact ⟨true, rfl, rfl⟩
      · have hsame := ends_same c hs _ h1'
        have hec := endC_ok hv
        have hl6 := hv.2.1
        obtain ⟨s, s1, s2, s3⟩ := rest_ok a1 (c.pieces.length : Int) (by omega) (by omega)
        obtain ⟨i, rfl⟩ : ∃ i : Nat, s = (i : Int) := ⟨s.toNat, by omega⟩
        have hil : i < c.pieces.length := by omega
        have hp : c.pieces[i]? = some (c.pieces[i]'hil) := List.getElem?_eq_getElem hil
        have hpl := plays_quiet c hv hb hsame i _ hp
        have w := whole_eq 0 (quietS c.pieces i) hpl.keeps (by omega)
        obtain ⟨⟨k', q1⟩, q2, q3, q4, _⟩ := run_plays 13000 0 (quietS c.pieces i) hpl (by have := left_few hpl.keeps; omega)
        obtain ⟨u1, u2, u3, u4, u5, u6⟩ := end_state q1 q2
        have hq3 : (runS 13000 (quietS c.pieces i)).2.end_ = endC c.pieces := q3
        have hq4 : (runS 13000 (quietS c.pieces i)).2.desks = muteD c.pieces i := q4
        rw [hq3] at u2 u4
        rw [hq4, all_wantG (i : Int) (endC c.pieces) (by omega) c.pieces (muteD c.pieces i) 0 (by unfold muteD; simp) (fun j d hd => by
          obtain ⟨q, g1, g2, g3, _⟩ := mute_get hp hd
          exact ⟨q, g1, g2, by rw [g3, Nat.zero_add]⟩) hpl.fine] at u5
        generalize hF : (runS 13000 (quietS c.pieces i)).1 = F at w
        generalize hq : (runS 13000 (quietS c.pieces i)).2 = q at u1 u2 u3 u4 u5 u6 w
        have w' : f16_1 (⟨(⟨0⟩ : GCClock), 0, endC c.pieces, true, muteD c.pieces i, 0, 0, 0, (⟨([] : List GCLive)⟩ : GCShelf_live), ([] : List GTake)⟩ : GCPlayer) = _ := w
        have hm : f25_1 (⟨(⟨0⟩ : GCClock), 0, endC c.pieces, true, c.pieces.map deskP, 0, 0, 0, (⟨([] : List GCLive)⟩ : GCShelf_live), ([] : List GTake)⟩ : GCPlayer) (i : Int) true = _ := mute_eq c.pieces i _ hp hl6
        have dz : decide ((0 : Int) ≠ 0) = false := rfl
        simp only [Sum.elim_inr, s1, Option.bind_some]
        rw [hm]
        simp only [Option.bind_some, dz, cond_false]
        rw [w']
        simp only [Option.bind_some, partsS, u1, u2, u3, u4, Bool.not_true, cond_false]
        have h20 : f20_1 (⟨(⟨endC c.pieces⟩ : GCClock), endC c.pieces, endC c.pieces, false, q.desks, 0, 0, q.times, (⟨([] : List GCLive)⟩ : GCShelf_live), q.takes⟩ : GCPlayer) = some q.takes := by
          unfold f20_1
          simp only [f41_eq q.takes u6, Option.bind_some]
        have hde : decide (endC c.pieces = endC c.pieces) = true := by simp
        have hno := noted_ok c hv q.takes (i : Int) 0 (by omega) u5
        have e1 : ∀ x, f19_1 x = some () := fun _ => rfl
        rw [h20]
        simp only [Option.bind_some]
        rw [hno]
        simp only [Option.bind_some, cond_true, e1, f14_eq c hv, hde]
        exact ⟨true, rfl, rfl⟩
end Go.Proofs.Ytpljabnngpnieaa
