/-
  The logic AM, part 23: states seen otherwise: names of blocks turned, flags of slices let go, a nil slice seen as an empty block; what a loop carries; calls with a part of the state.
  Own work. No Go text.
-/
import Derived.Test.YtpljabnngpnieaaAm22
namespace Go.Am
open Go.RowKit

mutual
/-- 'Co ok π x y': what is y under the old names may be called x under the new ones ('π': the old name of a new one; 'ok': the new names that stand). -/
inductive Co (ok : Nat → Bool) (π : Nat → Nat) : AV → AV → Prop
  | c {x : AV} (h : x.clean = true) : Co ok π x x
  | s {b : Bool} {l : List AV} (h : cleanL l = true) : Co ok π (.sl false l) (.sl b l)
  | l {b : Bool} {xs ys : List AV} (h : CoL ok π xs ys) : Co ok π (.sl false xs) (.sl b ys)
  | n {id a : Nat} : Co ok π (.ms id a 0) (.sl true [])
  | mp {id id' el off : Nat} (h : ok id = true) (h' : π id = id') : Co ok π (.mp id el off) (.mp id' el off)
  | y {id id' : Nat} (h : ok id = true) (h' : π id = id') : Co ok π (.yld id) (.yld id')
  | ms {id id' a b : Nat} (h : ok id = true) (h' : π id = id') : Co ok π (.ms id a b) (.ms id' a b)
  | mc {id id' a b c : Nat} (h : ok id = true) (h' : π id = id') : Co ok π (.mc id a b c) (.mc id' a b c)
  | mf {id id' a b b' c : Nat} (h : ok id = true) (h' : π id = id') (hb : b = b') : Co ok π (.ms id a b) (.mc id' a b' c)
  | e {id id' a b b' : Nat} (h : ok id = true) (h' : π id = id') (hb : b = b') : Co ok π (.ms id a b) (.ms id' a b')
  | a {xs ys : List AV} (h : CoL ok π xs ys) : Co ok π (.agg xs) (.agg ys)
  | t {xs ys : List AV} (h : CoL ok π xs ys) : Co ok π (.tup xs) (.tup ys)
  | f {g : FuncId} {xs ys : List AV} (h : CoL ok π xs ys) : Co ok π (.fn g xs) (.fn g ys)
inductive CoL (ok : Nat → Bool) (π : Nat → Nat) : List AV → List AV → Prop
  | z : CoL ok π [] []
  | k {x y : AV} {xs ys : List AV} (h : Co ok π x y) (hs : CoL ok π xs ys) : CoL ok π (x :: xs) (y :: ys)
  | r {xs : List AV} (h : cleanL xs = true) : CoL ok π xs xs
  | p {xs ys xs' ys' : List AV} (h : CoL ok π xs ys) (h' : CoL ok π xs' ys') : CoL ok π (xs ++ xs') (ys ++ ys')
end

inductive CoB (ok : Nat → Bool) (π : Nat → Nat) : Blk → Blk → Prop
  | cells {esz : Nat} {xs ys : List AV} (h : CoL ok π xs ys) : CoB ok π (.cells esz xs) (.cells esz ys)
  | cut {esz : Nat} {xs ys zs : List AV} (h : CoL ok π xs ys) : CoB ok π (.cells esz xs) (.cells esz (ys ++ zs))
  | dfr : CoB ok π .dfr .dfr
  | loop {ks : List Nat} {xs ys : List AV} {N : Nat} {ps : List Tmp} {a b : Code} {st : LoopState} {pd : Option Code} (h : CoL ok π xs ys) : CoB ok π (.loop ⟨zipE ks xs, N, ps, a, b, st, pd⟩) (.loop ⟨zipE ks ys, N, ps, a, b, st, pd⟩)

theorem cleanL_append {a b : List AV} : cleanL (a ++ b) = (cleanL a && cleanL b) := by
  induction a with
  | nil => simp [cleanL]
  | cons x r ih => simp [cleanL, ih, Bool.and_assoc]

theorem cleanL_get {l : List AV} (h : cleanL l = true) {i : Nat} {x : AV} (hx : l[i]? = some x) : x.clean = true := cleanL_iff.1 h x (List.mem_of_getElem? hx)

section
variable {ok : Nat → Bool} {π : Nat → Nat} {G G' : Ghost}

theorem CoL.length : ∀ {xs ys : List AV}, CoL ok π xs ys → xs.length = ys.length
  | _, _, .z => rfl
  | _, _, .k _ hs => by simp [hs.length]
  | _, _, .r _ => rfl
  | _, _, .p h h' => by simp [h.length, h'.length]

theorem CoL.get : ∀ {xs ys : List AV}, CoL ok π xs ys → ∀ {i : Nat} {x : AV}, xs[i]? = some x → ∃ y, ys[i]? = some y ∧ Co ok π x y
  | _, _, .z, i, x, h => by simp at h
  | _, _, .k h0 hs, i, x, h => by
    cases i with
    | zero => simp at h; subst h; exact ⟨_, rfl, h0⟩
    | succ i => exact hs.get (by simpa using h)
  | _, _, .r hc, i, x, h => ⟨x, h, .c (cleanL_get hc h)⟩
  | _, _, .p (xs := xs) (ys := ys) (xs' := xs') (ys' := ys') h1 h2, i, x, h => by
    have hl := h1.length
    by_cases hi : i < xs.length
    · rw [List.getElem?_append_left hi] at h
      obtain ⟨y, hy, hc⟩ := h1.get h
      exact ⟨y, by rw [List.getElem?_append_left (by omega)]; exact hy, hc⟩
    · rw [List.getElem?_append_right (by omega)] at h
      obtain ⟨y, hy, hc⟩ := h2.get h
      exact ⟨y, by rw [List.getElem?_append_right (by omega), ← hl]; exact hy, hc⟩

/-- The two ghosts: what stands under a new name stood under the old one. -/
structure Seen (ok : Nat → Bool) (π : Nat → Nat) (G G' : Ghost) : Prop where
  imm : ∀ b o v, G.imm b o = some v → G'.imm b o = some v
  own : ∀ id r, ok id = true → G.own (π id) = some r → G'.own id = some r

theorem Co.cells {x y : AV} (h : Co ok π x y) : CoL ok π x.cells y.cells := by
  have one : ∀ {x y : AV}, x.cells = [x] → y.cells = [y] → Co ok π x y → CoL ok π x.cells y.cells := fun h1 h2 h => by rw [h1, h2]; exact .k h .z
  cases h with
  | c hc => exact .r (cleanL_iff.2 (clean_cells hc))
  | s hc => exact one rfl rfl (.s hc)
  | l hc => exact one rfl rfl (.l hc)
  | n => exact one rfl rfl .n
  | mp h h' => exact one rfl rfl (.mp h h')
  | y h h' => exact one rfl rfl (.y h h')
  | ms h h' => exact one rfl rfl (.ms h h')
  | mc h h' => exact one rfl rfl (.mc h h')
  | mf h h' hb => exact one rfl rfl (.mf h h' hb)
  | e h h' hb => exact one rfl rfl (.e h h' hb)
  | a h => exact h
  | t h => exact one rfl rfl (.t h)
  | f h => exact one rfl rfl (.f h)

theorem Co.scalar {x y : AV} (h : Co ok π x y) : x.scalar = y.scalar := by cases h <;> rfl

theorem CoL.flat : ∀ {xs ys : List AV}, CoL ok π xs ys → CoL ok π (flat xs) (flat ys)
  | _, _, .z => .z
  | _, _, .k h hs => by rw [flat_cons, flat_cons]; exact .p h.cells hs.flat
  | _, _, .r hc => .r (cleanL_iff.2 fun y hy => by
      rw [Go.Am.flat, List.mem_flatMap] at hy
      obtain ⟨e, he, hx⟩ := hy
      exact clean_cells (cleanL_iff.1 hc e he) y hx)
  | _, _, .p h h' => by rw [flat_append, flat_append]; exact .p h.flat h'.flat

theorem CoL.mem {xs ys : List AV} (h : CoL ok π xs ys) {x : AV} (hx : x ∈ xs) : ∃ y ∈ ys, Co ok π x y := by
  obtain ⟨i, hi, rfl⟩ := List.getElem_of_mem hx
  obtain ⟨y, hy, hc⟩ := h.get (List.getElem?_eq_getElem hi)
  exact ⟨y, List.mem_of_getElem? hy, hc⟩

theorem Co.V (hG : Seen ok π G G') {x y : AV} {v : Value} (hv : V G y v) : Co ok π x y → V G' x v := by
  induction hv generalizing x with
  | any v => intro h; cases h; exact .any _
  | bool b => intro h; cases h <;> exact .bool b
  | int k n => intro h; cases h <;> exact .int k n
  | str s => intro h; cases h <;> exact .str s
  | nilp => intro h; cases h <;> exact .nilp
  | nilf => intro h; cases h <;> exact .nilf
  | slnil full base cap hf hb =>
    intro h
    cases h with
    | c => exact .slnil full base cap hf hb
    | s => exact .slnil false base cap (fun e => by cases e) hb
    | l hl =>
      rename_i xs
      have : xs = [] := List.eq_nil_of_length_eq_zero (by simpa using hl.length)
      subst this
      exact .slnil false base cap (fun e => by cases e) hb
    | n => exact .msnil _ _ _ _ (hf rfl)
  | sl full elems b off esz cap val hcap hfull hesz hsc himm hV ih =>
    intro h
    cases h with
    | c hc => exact .sl full elems b off esz cap val hcap hfull hesz hsc (fun k hk => hG.imm _ _ _ (himm k hk)) fun k x hx => (hV k x hx).clean hG.imm (by
        have hc : cleanL elems = true := by simpa [AV.clean] using hc
        have hm : x ∈ flat elems := List.mem_of_getElem? hx
        rw [flat, List.mem_flatMap] at hm
        obtain ⟨e, he, hx⟩ := hm
        exact clean_cells (cleanL_iff.1 hc e he) x hx)
    | s hc => exact .sl false elems b off esz cap val hcap (fun e => by cases e) hesz hsc (fun k hk => hG.imm _ _ _ (himm k hk)) fun k x hx => (hV k x hx).clean hG.imm (by
        have hm : x ∈ flat elems := List.mem_of_getElem? hx
        rw [flat, List.mem_flatMap] at hm
        obtain ⟨e, he, hx⟩ := hm
        exact clean_cells (cleanL_iff.1 hc e he) x hx)
    | l hl =>
      rw [← hl.length]
      exact .sl false _ b off esz cap val (by rw [hl.length]; exact hcap) (fun e => by cases e) (fun x hx => by
          obtain ⟨y, hy, hc⟩ := hl.mem hx
          rw [hc.cells.length]; exact hesz y hy) (fun x hx => by
          obtain ⟨y, hy, hc⟩ := hl.flat.mem hx
          rw [hc.scalar]; exact hsc y hy) (fun k hk => hG.imm _ _ _ (himm k (by rw [← hl.length]; exact hk))) fun k x hx => by
          obtain ⟨y, hy, hc⟩ := hl.flat.get hx
          exact ih k y hy hc
    | n => exact .msnil _ _ _ _ (by have := hfull rfl; simpa using this)
  | ip cells b off val himm hV ih =>
    intro h
    cases h with
    | c hc => exact .ip cells b off val (fun k hk => hG.imm _ _ _ (himm k hk)) fun k x hx => (hV k x hx).clean hG.imm (cleanL_get (by simpa [AV.clean] using hc) hx)
  | mp id el off r h0 =>
    intro h
    cases h with
    | c hc => cases hc
    | mp ho hp => subst hp; exact .mp _ _ _ r (hG.own _ _ ho h0)
  | ms id start len cap r addr h0 hle hin ha =>
    intro h
    cases h with
    | c hc => cases hc
    | ms ho hp => subst hp; exact .ms _ _ _ _ r addr (hG.own _ _ ho h0) hle hin ha
    | e ho hp hb => subst hp; subst hb; exact .ms _ _ _ _ r addr (hG.own _ _ ho h0) hle hin ha
  | msnil id start cap base h0 =>
    intro h
    cases h with
    | c hc => cases hc
    | ms ho hp => exact .msnil _ _ _ _ h0
    | e ho hp hb => subst hb; exact .msnil _ _ _ _ h0
  | mc id start len cap r addr h0 hle hin ha =>
    intro h
    cases h with
    | c hc => cases hc
    | mc ho hp => subst hp; exact .mc _ _ _ _ r addr (hG.own _ _ ho h0) hle hin ha
    | mf ho hp hb => subst hp; subst hb; exact .ms _ _ _ _ r addr (hG.own _ _ ho h0) hle hin ha
  | mcnil id start base =>
    intro h
    cases h with
    | c hc => cases hc
    | mc ho hp => exact .mcnil _ _ _
    | mf ho hp hb => subst hb; exact .msnil _ _ _ _ rfl
  | fn f caps vs hlen h0 ih =>
    intro h
    cases h with
    | c hc => exact .fn f caps vs hlen fun i x y hx hy => (h0 i x y hx hy).clean hG.imm (cleanL_get (by simpa [AV.clean] using hc) hx)
    | f hl => exact .fn f _ vs (by rw [hl.length]; exact hlen) fun i x y hx hy => let ⟨z, hz, hc⟩ := hl.get hx; ih i z y hz hy hc
  | yld id r h0 =>
    intro h
    cases h with
    | c hc => cases hc
    | y ho hp => subst hp; exact .yld _ r (hG.own _ _ ho h0)
  | agg cs vs hlen h0 ih =>
    intro h
    cases h with
    | c hc => exact .agg cs vs hlen fun i x y hx hy => (h0 i x y hx hy).clean hG.imm (cleanL_get (by simpa [AV.clean] using hc) hx)
    | a hl => exact .agg _ vs (by rw [hl.length]; exact hlen) fun i x y hx hy => let ⟨z, hz, hc⟩ := hl.get hx; ih i z y hz hy hc
  | tup cs vs hlen h0 ih =>
    intro h
    cases h with
    | c hc => exact .tup cs vs hlen fun i x y hx hy => (h0 i x y hx hy).clean hG.imm (cleanL_get (by simpa [AV.clean] using hc) hx)
    | t hl => exact .tup _ vs (by rw [hl.length]; exact hlen) fun i x y hx hy => let ⟨z, hz, hc⟩ := hl.get hx; ih i z y hz hy hc

theorem CoB.holds (hG : Seen ok π G G') {b b' : Blk} {r : Reg} {o : Obj} (h : CoB ok π b b') (hh : Holds G r b' o) : Holds G' r b o := by
  cases h with
  | dfr => cases hh; exact .dfr
  | loop hl =>
    cases hh with
    | loop _ fn tmps d hsz hV =>
      refine .loop _ fn tmps d hsz fun t x hx => ?_
      have key : ∀ {ks : List Nat} {xs ys : List AV}, xs.length = ys.length → (∀ (i : Nat) (x : AV), xs[i]? = some x → ∃ y : AV, ys[i]? = some y ∧ Co ok π x y) → ∀ t x, eget (zipE ks xs) t = some x → ∃ y, eget (zipE ks ys) t = some y ∧ Co ok π x y := by
        intro ks
        induction ks with
        | nil => intro xs ys _ _ t x hx; simp [zipE, egetN, egetC] at hx
        | cons k r ih =>
          intro xs ys hlen hc t x hx
          cases xs with
          | nil => simp [zipE, egetN, egetC] at hx
          | cons x0 xs =>
            cases ys with
            | nil => simp at hlen
            | cons y0 ys =>
              simp only [zipE, egetN, egetC] at hx ⊢
              split at hx
              · rename_i e; cases hx; subst e
                obtain ⟨y, hy, hcy⟩ := hc 0 _ rfl
                simp at hy; subst hy
                exact ⟨y0, by simp, hcy⟩
              · rename_i e
                rw [if_neg e]
                exact ih (by simpa using hlen) (fun i x hx => by simpa using hc (i + 1) x (by simpa using hx)) t x hx
      obtain ⟨y, hy, hcy⟩ := key hl.length (fun i x hx => hl.get hx) t x hx
      obtain ⟨h1, h2⟩ := hV t y hy
      exact ⟨h1, hcy.V hG h2⟩
  | cells hl =>
    cases hh with
    | cells _ _ cs e hsz hesz h0 hel hsc hin hV =>
      refine .cells _ _ cs e hsz hesz h0 (fun x hx => ?_) (fun x hx => ?_) (by rw [hl.length]; exact hin) fun k x hx => ?_
      · obtain ⟨y, hy, hc⟩ := hl.mem hx
        rw [hc.cells.length]; exact hel y hy
      · obtain ⟨y, hy, hc⟩ := hl.flat.mem hx
        rw [hc.scalar]; exact hsc y hy
      · obtain ⟨y, hy, hc⟩ := hl.flat.get hx
        obtain ⟨v, hv, hV'⟩ := hV k y hy
        exact ⟨v, hv, hc.V hG hV'⟩
  | cut hl =>
    cases hh with
    | cells _ _ cs e hsz hesz h0 hel hsc hin hV =>
      refine .cells _ _ cs e hsz hesz h0 (fun x hx => ?_) (fun x hx => ?_) (Nat.le_trans (Nat.add_le_add_left (Nat.mul_le_mul_right _ (by rw [hl.length, List.length_append]; exact Nat.le_add_right _ _)) _) hin) fun k x hx => ?_
      · obtain ⟨y, hy, hc⟩ := hl.mem hx
        rw [hc.cells.length]; exact hel y (List.mem_append_left _ hy)
      · obtain ⟨y, hy, hc⟩ := hl.flat.mem hx
        rw [hc.scalar]; exact hsc y (by rw [flat_append]; exact List.mem_append_left _ hy)
      · obtain ⟨y, hy, hc⟩ := hl.flat.get hx
        obtain ⟨v, hv, hV'⟩ := hV k y (by rw [flat_append, List.getElem?_append_left (List.getElem?_eq_some_iff.1 hy).1]; exact hy)
        exact ⟨v, hv, hc.V hG hV'⟩

theorem CoB.nil {b : Blk} {esz : Nat} (h : CoB ok π b (.cells esz [])) : b = .cells esz [] := by
  generalize hb : Blk.cells esz [] = b' at h
  cases h with
  | dfr => cases hb
  | loop hl => cases hb
  | cells hl =>
    cases hb
    rename_i xs
    have : xs = [] := List.eq_nil_of_length_eq_zero (by simpa using hl.length)
    rw [this]
  | cut hl =>
    injection hb with h1 h2
    subst h1
    rename_i xs ys zs
    have h3 : ys = [] := (List.append_eq_nil_iff.1 h2.symm).1
    have : xs = [] := List.eq_nil_of_length_eq_zero (by rw [hl.length, h3]; rfl)
    rw [this, ← h2]

theorem CoL.V (hG : Seen ok π G G') {xs ys : List AV} {vs : Array Value} (h : CoL ok π xs ys) (hv : VL G ys vs) : VL G' xs vs :=
  ⟨by rw [h.length]; exact hv.1, fun i x v hx hi => let ⟨y, hy, hc⟩ := h.get hx; hc.V hG (hv.2 i y v hy hi)⟩
end

/-! ### A state seen under new names -/

def has (h : List (Nat × Blk)) (id : Nat) : Bool := (eget h id).isSome

theorem has_iff {h : List (Nat × Blk)} {id : Nat} : has h id = true ↔ ∃ b, eget h id = some b := by
  unfold has; exact Option.isSome_iff_exists

def okId (base : Nat) (h : List (Nat × Blk)) (id : Nat) : Bool := Nat.blt id base || has h id

/-- The state (S2) is the state (s) under new names; names below base stand. -/
structure IntoM (base : Nat) (π : Nat → Nat) (S2 s : St) : Prop where
  heap : ∀ id b, eget S2.heap id = some b → (∃ b', eget s.heap (π id) = some b' ∧ CoB (okId base S2.heap) π b b') ∨ (base ≤ id ∧ s.cnt ≤ π id ∧ ∃ esz, 0 < esz ∧ b = .cells esz [])
  low : ∀ id, id < base → π id = id
  inj : ∀ id id' b b', eget S2.heap id = some b → eget S2.heap id' = some b' → π id = π id' → id = id' ∨ s.cnt ≤ π id
  lt : ∀ id b, eget S2.heap id = some b → id < S2.cnt
  cb : base ≤ S2.cnt

structure IntoS (base : Nat) (π : Nat → Nat) (S2 s : St) : Prop extends IntoM base π S2 s where
  dfr : ∀ id, eget s.heap id = some .dfr → id < base ∧ eget S2.heap id = some .dfr

def ghostI (base : Nat) (π : Nat → Nat) (h : List (Nat × Blk)) (G : Ghost) : Ghost := { imm := G.imm, own := fun id => if okId base h id = true then G.own (π id) else none }

section
variable {base : Nat} {π : Nat → Nat} {S2 s s0 : St} {G G0 : Ghost} {w w0 : World}

theorem seenI : Seen (okId base S2.heap) π G (ghostI base π S2.heap G) :=
  ⟨fun _ _ _ h => h, fun id r ho hr => by simp only [ghostI, ho, if_true]; exact hr⟩

theorem okId_low {h : List (Nat × Blk)} {id : Nat} (hl : id < base) : okId base h id = true := by simp [okId, hl]

theorem okId_has {h : List (Nat × Blk)} {id : Nat} {b : Blk} (hg : eget h id = some b) : okId base h id = true := by
  simp [okId, has_iff.2 ⟨b, hg⟩]

theorem ownI {h : List (Nat × Blk)} {id : Nat} {b : Blk} (hg : eget h id = some b) : (ghostI base π h G).own id = G.own (π id) := by
  simp only [ghostI, okId_has hg, if_true]

theorem IntoM.sim (h : IntoM base π S2 s) (hs : Sim G s w) : Sim (ghostI base π S2.heap G) S2 w := by
  refine ⟨hs.imm, fun id b hg => ?_, fun id id' b b' r r' h1 h2 o1 o2 hne => ?_, fun id b r o hg ho => ?_, fun id hid => ?_, h.lt⟩
  · rw [ownI hg]
    rcases h.heap id b hg with ⟨b', hb', hc⟩ | ⟨_, hn, esz, h0, he⟩
    · rcases hs.heap _ _ hb' with ⟨r, o, e1, e2, e3⟩ | ⟨e1, esz, h0, e2⟩
      · exact .inl ⟨r, o, e1, e2, hc.holds seenI e3⟩
      · refine .inr ⟨e1, esz, h0, ?_⟩
        subst e2
        exact hc.nil
    · exact .inr ⟨hs.fresh _ hn, esz, h0, he⟩
  · rw [ownI h1] at o1
    rw [ownI h2] at o2
    rcases h.heap id b h1 with ⟨c, hc, _⟩ | ⟨_, hn, _⟩
    · rcases h.heap id' b' h2 with ⟨c', hc', _⟩ | ⟨_, hn, _⟩
      · refine hs.apart _ _ c c' r r' hc hc' o1 o2 fun e => ?_
        rcases h.inj id id' b b' h1 h2 e with e | e
        · exact hne e
        · have := hs.lt _ _ hc; omega
      · rw [hs.fresh _ hn] at o2; cases o2
    · rw [hs.fresh _ hn] at o1; cases o1
  · rw [ownI hg] at ho
    rcases h.heap id b hg with ⟨c, hc, _⟩ | ⟨_, hn, _⟩
    · exact hs.clear _ c r o hc ho
    · rw [hs.fresh _ hn] at ho; cases ho
  · have hb := h.cb
    have : okId base S2.heap id = false := by
      cases hq : okId base S2.heap id with
      | false => rfl
      | true =>
        simp only [okId, Bool.or_eq_true, Nat.blt_eq] at hq
        rcases hq with hq | hq
        · omega
        · obtain ⟨b, hb⟩ := has_iff.1 hq
          have := h.lt id b hb
          omega
    simp [ghostI, this]

theorem IntoS.ext (h : IntoS base π S2 s) (h0 : Sim G0 s0 w0) (hx : Ext G0 s0 w0 G s w) (hs : Sim G s w) (hb : s0.cnt ≤ base) : Ext G0 s0 w0 (ghostI base π S2.heap G) S2 w := by
  have lo : ∀ id, id < base → (ghostI base π S2.heap G).own id = G.own id := fun id hl => by simp only [ghostI, okId_low hl, if_true, h.low id hl]
  refine ⟨⟨hx.le.imm, fun id r ho => ?_⟩, hx.os, hx.tape, hx.output, hx.size, hx.keep, hx.immNew, fun id r ho => ?_, fun id b hg => ?_, Nat.le_trans hb h.cb, fun id hd => ?_, fun id hl ho => ?_⟩
  · have : id < s0.cnt := by
      by_cases hq : id < s0.cnt
      · exact hq
      · rw [h0.fresh id (by omega)] at ho; cases ho
    rw [lo id (by omega)]; exact hx.le.own _ _ ho
  · by_cases hl : id < base
    · rw [lo id hl] at ho; exact hx.ownNew id r ho
    · have hok : okId base S2.heap id = true := by
        cases hq : okId base S2.heap id with
        | true => rfl
        | false => simp [ghostI, hq] at ho
      have hh : has S2.heap id = true := by
        simp only [okId, Bool.or_eq_true, Nat.blt_eq] at hok
        rcases hok with hq | hq
        · exact absurd hq hl
        · exact hq
      obtain ⟨b, hg⟩ := has_iff.1 hh
      rw [ownI hg] at ho
      rcases h.heap id b hg with ⟨c, hc, _⟩ | ⟨_, hn, _⟩
      · rcases hx.ownNew _ r ho with q | q
        · rcases hx.ids _ c hc with ⟨c0, q0⟩ | q0
          · exact .inr (.inr ⟨_, c0, r, q0, q, rfl⟩)
          · rw [h0.fresh _ q0] at q; cases q
        · exact .inr q
      · rw [hs.fresh _ hn] at ho; cases ho
  · by_cases hl : id < base
    · rcases h.heap id b hg with ⟨c, hc, _⟩ | ⟨hn, _⟩
      · rw [h.low id hl] at hc; exact hx.ids id c hc
      · omega
    · exact .inr (by omega)
  · exact (h.dfr id (hx.dfr id hd)).2
  · rw [lo id (by omega)]; exact hx.stay id hl ho

theorem IntoS.defs (h : IntoS base π S2 s) : ∀ {ds : List Deferred}, Defs G s ds → Defs (ghostI base π S2.heap G) S2 ds
  | [], _ => trivial
  | _ :: _, ⟨⟨id, r, a, b, c, d⟩, hr⟩ => ⟨⟨id, r, (h.dfr id a).2, by simp only [ghostI]; rw [if_pos (okId_low (h.dfr id a).1), h.low id (h.dfr id a).1]; exact b, c, d⟩, h.defs hr⟩
end

/-- The same with the slots. -/
structure Into (base : Nat) (π : Nat → Nat) (E2 : Env) (S2 : St) (env : Env) (s : St) : Prop where
  st : IntoS base π S2 s
  env : ∀ t x, eget E2 t = some x → ∃ y, eget env t = some y ∧ Co (okId base S2.heap) π x y

section
variable {P : Program} {N : Nat} {ρ : Option Nat} {Q Q' : Exit → Env → St → Prop} {env E2 : Env} {s S2 : St} {base : Nat} {π : Nat → Nat}

theorem Into.now (h : Into base π E2 S2 env s) {G : Ghost} {a : Act} {w : World} (hρ : ∀ id, ρ = some id → id < base) (hn : Now G N ρ env s a w) : Now (ghostI base π S2.heap G) N ρ E2 S2 a w := by
  refine ⟨h.st.sim hn.sim, fun t x hx => ?_, hn.size, h.st.defs hn.defs, fun id e => ?_⟩
  · obtain ⟨y, hy, hc⟩ := h.env t x hx
    exact ⟨(hn.env t y hy).1, hc.V seenI (hn.env t y hy).2⟩
  · obtain ⟨r, hr⟩ := hn.known id e
    exact ⟨r, by simp only [ghostI]; rw [if_pos (okId_low (hρ id e)), h.st.low id (hρ id e)]; exact hr⟩

/-- From here on the state is seen so. -/
theorem awp_into {c : Code} (hρ : ∀ id, ρ = some id → id < s.cnt) (h : Into base π E2 S2 env s) (hb : s.cnt ≤ base) (hk : AWp P N ρ c Q E2 S2) : AWp P N ρ c Q env s := fun G w a hn => by
  have hn2 := h.now (fun id e => Nat.lt_of_lt_of_le (hρ id e) hb) hn
  exact AWp.later hk hn.sim hn.known (h.st.ext hn.sim (.refl _ _ _) hn.sim hb) hn2

theorem After.into {G : Ghost} {w : World} {e : Exit} {a' : Act} {w' : World} (h0 : Sim G s w) (hρ : ∀ id, ρ = some id → id < s.cnt)
    (h : After G N ρ s w (fun e env' s' => ∃ base π E2 S2, s.cnt ≤ base ∧ Into base π E2 S2 env' s' ∧ Q e E2 S2) e a' w') : After G N ρ s w Q e a' w' := by
  obtain ⟨G', env', s', hn, hx, base, π, E2, S2, hb, hi, hq⟩ := h
  exact ⟨_, E2, S2, hi.now (fun id e => Nat.lt_of_lt_of_le (hρ id e) hb) hn, hi.st.ext h0 hx hn.sim hb, hq⟩

theorem awp_post {c : Code} (hρ : ∀ id, ρ = some id → id < s.cnt) (h : AWp P N ρ c (fun e env' s' => ∃ base π E2 S2, s.cnt ≤ base ∧ Into base π E2 S2 env' s' ∧ Q e E2 S2) env s) : AWp P N ρ c Q env s := fun G w a hn =>
  wpIn_mono (h G w a hn) fun _ _ _ ha => ha.into hn.sim hρ

/-! ### Loops -/

/-- What a loop computes. -/
def loopN {σ τ : Type} (body : σ → Option (σ ⊕ τ)) : Nat → σ → Option τ
  | 0, _ => none
  | n + 1, st => match body st with
    | some (.inl st') => loopN body n st'
    | some (.inr r) => some r
    | none => none

theorem awp_loopP {x : Code} (hρ : ∀ id, ρ = some id → id < s.cnt) {σ τ : Type} (body : σ → Option (σ ⊕ τ)) {n : Nat} {st0 : σ} {res : τ} (hl : loopN body n st0 = some res) (E : σ → Env) (S : σ → St) {π0 : Nat → Nat}
    (h0 : Into s.cnt π0 (E st0) (S st0) env s)
    (round : ∀ st out, body st = some out → (∀ r, out = .inr r → r = res) → AWp P N ρ x (fun e env' s' => match e with
      | .normal => ∃ st', out = .inl st' ∧ ∃ π, Into s.cnt π (E st') (S st') env' s'
      | e => (∃ r, out = .inr r) ∧ Q e env' s') (E st) (S st)) : AWp P N ρ (.loop x) Q env s := fun G w a hn => by
  refine wpIn_loopK (fun k a' w' => ∃ G' st, loopN body k st = some res ∧ Now G' N ρ (E st) (S st) a' w' ∧ Ext G s w G' (S st) w') ?_ ⟨_, st0, hl, h0.now hρ hn, h0.st.ext hn.sim (.refl _ _ _) hn.sim (Nat.le_refl _)⟩
  rintro k a' w' ⟨G', st, hk, n', x'⟩
  cases k with
  | zero => simp [loopN] at hk
  | succ k =>
    simp only [loopN] at hk
    cases hb : body st with
    | none => simp [hb] at hk
    | some out =>
      simp only [hb] at hk
      have := round st out hb (fun r e => by subst e; exact Option.some.inj hk) G' w' a' n'
      rw [conc_le x'.le hn.known] at this
      refine wpIn_mono this ?_
      rintro e a2 w2 ⟨G2, env2, s2, n2, x2, q2⟩
      have x3 := x'.trans hn.sim x2
      cases e with
      | normal =>
        obtain ⟨st', ho, π, hi⟩ := q2
        subst ho
        exact ⟨k, Nat.lt_succ_self _, _, st', hk, hi.now hρ n2, hi.st.ext hn.sim x3 n2.sim (Nat.le_refl _)⟩
      | exit id => exact ⟨G2, env2, s2, n2, x3, q2.2⟩
      | goto l => exact ⟨G2, env2, s2, n2, x3, q2.2⟩
      | ret => exact ⟨G2, env2, s2, n2, x3, q2.2⟩
      | panic ch => exact ⟨G2, env2, s2, n2, x3, q2.2⟩
      | outgrown => exact ⟨G2, env2, s2, n2, x3, q2.2⟩
end
end Go.Am
