/-
  The logic AM, part 24: a call that is known at a small state, made in a larger one.
  Own work. No Go text.
-/
import Derived.Test.YtpljabnngpnieaaAm23
namespace Go.Am
open Go.RowKit

def okF (fr : Nat → Bool) (h : List (Nat × Blk)) (id : Nat) : Bool := has h id && !fr id

/-- How the state H0 of a contract lies in the state s: 'π': the name in s of a name of the contract; 'σ': the way back; s' is what the call leaves: what it gives (H1), and what it does not reach ('fr'). -/
structure Fits (π σ : Nat → Nat) (fr : Nat → Bool) (H0 H1 s s' : St) : Prop where
  into : ∀ id b, eget H0.heap id = some b → ∃ b', eget s.heap (π id) = some b' ∧ CoB (okId 0 H0.heap) π b b'
  inj : ∀ id id' b b', eget H0.heap id = some b → eget H0.heap id' = some b' → π id = π id' → id = id'
  lt : ∀ id b, eget H0.heap id = some b → id < H0.cnt
  out : ∀ id b, eget s'.heap id = some b → fr id = false → ∃ b', eget H1.heap (σ id) = some b' ∧ CoB (okF fr s'.heap) σ b b' ∧ (id < s.cnt → has H0.heap (σ id) = true ∧ π (σ id) = id)
  keep : ∀ id b, eget s'.heap id = some b → fr id = true → eget s.heap id = some b ∧ ∀ i b', eget H0.heap i = some b' → π i ≠ id
  inj' : ∀ id id' b b', eget s'.heap id = some b → eget s'.heap id' = some b' → fr id = false → fr id' = false → σ id = σ id' → id = id'
  lt' : ∀ id b, eget s'.heap id = some b → id < s'.cnt
  cnt : s.cnt ≤ s'.cnt
  dfr : ∀ id, eget s.heap id = some .dfr → eget s'.heap id = some .dfr

def ghostO (cnt : Nat) (σ : Nat → Nat) (h : List (Nat × Blk)) (G G' : Ghost) : Ghost := { imm := G'.imm, own := fun id => if id < cnt then G.own id else if has h id = true then G'.own (σ id) else none }

theorem acalls_frame {P : Program} {f : FuncId} {args0 args : List AV} {H0 H1 s s' : St} {v0 v : AV} {π σ : Nat → Nat} {fr : Nat → Bool} (h : ACalls P f args0 H0 fun y t => y = v0 ∧ t = H1) (hf : Fits π σ fr H0 H1 s s')
    (ha : CoL (okId 0 H0.heap) π args0 args) (hv : Co (okF fr s'.heap) σ v v0) : ACalls P f args s fun y t => y = v ∧ t = s' := fun G w vs hs hvs => by
  have hI : IntoM 0 π H0 s := ⟨fun id b hg => .inl (hf.into id b hg), fun id hl => by omega, fun id id' b b' h1 h2 e => .inl (hf.inj id id' b b' h1 h2 e), fun id b hg => hf.lt id b hg, Nat.zero_le _⟩
  have hs0 := hI.sim hs
  have own0 : ∀ {id b}, eget H0.heap id = some b → (ghostI 0 π H0.heap G).own id = G.own (π id) := fun hg => ownI hg
  have own0' : ∀ {id r}, (ghostI 0 π H0.heap G).own id = some r → ∃ b, eget H0.heap id = some b := fun {id r} ho => by
    cases hq : okId 0 H0.heap id with
    | false => simp [ghostI, hq] at ho
    | true =>
      simp only [okId, Bool.or_eq_true, Nat.blt_eq, Nat.not_lt_zero, false_or] at hq
      exact has_iff.1 hq
  have ownedUp : ∀ b, Owned (ghostI 0 π H0.heap G) H0 b → Owned G s b := fun b ⟨id, blk, r, g1, g2, g3⟩ => by
    rw [own0 g1] at g2
    obtain ⟨b', hb', _⟩ := hf.into id blk g1
    exact ⟨π id, b', r, hb', g2, g3⟩
  refine (h _ w vs hs0 (ha.V seenI hvs)).mono ?_
  rintro e w' ⟨val, G1, y, t, rfl, hV, hS, hE, rfl, rfl⟩
  have oLow : ∀ {id}, id < s.cnt → (ghostO s.cnt σ s'.heap G G1).own id = G.own id := fun hl => by simp [ghostO, hl]
  have oHigh : ∀ {id b}, ¬ id < s.cnt → eget s'.heap id = some b → (ghostO s.cnt σ s'.heap G G1).own id = G1.own (σ id) := fun {id b} hl hg => by
    simp [ghostO, hl, has_iff.2 ⟨_, hg⟩]
  -- what is derived has the region that the callee's ghost tells
  have oDer : ∀ {id b}, eget s'.heap id = some b → fr id = false → (ghostO s.cnt σ s'.heap G G1).own id = G1.own (σ id) := fun {id b} hg hfr => by
    by_cases hl : id < s.cnt
    · rw [oLow hl]
      obtain ⟨_, _, _, hq⟩ := hf.out id b hg hfr
      obtain ⟨h1, h2⟩ := hq hl
      obtain ⟨c, hc⟩ := has_iff.1 h1
      have h3 := own0 hc
      rw [h2] at h3
      cases hr : G.own id with
      | none => rw [hr] at h3; exact (hE.stay _ (hf.lt _ _ hc) h3).symm
      | some r => rw [hr] at h3; exact (hE.le.own _ _ h3).symm
    · exact oHigh hl hg
  have hle : GLe G (ghostO s.cnt σ s'.heap G G1) := ⟨fun b o v hi => hE.le.imm b o v hi, fun id r ho => by
    have : id < s.cnt := by
      by_cases hq : id < s.cnt
      · exact hq
      · rw [hs.fresh id (by omega)] at ho; cases ho
    rw [oLow this]; exact ho⟩
  have seen : Seen (okF fr s'.heap) σ G1 (ghostO s.cnt σ s'.heap G G1) := ⟨fun _ _ _ h => h, fun id r ho hr => by
    simp only [okF, Bool.and_eq_true, Bool.not_eq_true'] at ho
    obtain ⟨b, hb⟩ := has_iff.1 ho.1
    rw [oDer hb ho.2]; exact hr⟩
  -- the callee's regions and those that it does not reach
  have far : ∀ {id b r}, eget s.heap id = some b → (∀ i b', eget H0.heap i = some b' → π i ≠ id) → G.own id = some r → ¬ Owned (ghostI 0 π H0.heap G) H0 r.block := fun {id b r} hg hne ho ⟨i, b', r', g1, g2, g3⟩ => by
    rw [own0 g1] at g2
    obtain ⟨c, hc, _⟩ := hf.into i b' g1
    exact hs.apart _ _ c b r' r hc hg g2 ho (hne i b' g1) g3
  have frOwn : ∀ {id b}, eget s'.heap id = some b → fr id = true → (ghostO s.cnt σ s'.heap G G1).own id = G.own id := fun hg hfr => oLow (hs.lt _ _ (hf.keep _ _ hg hfr).1)
  have apart1 : ∀ {id id' b b' r r'}, eget s'.heap id = some b → eget s'.heap id' = some b' → fr id = false → fr id' = true → (ghostO s.cnt σ s'.heap G G1).own id = some r → (ghostO s.cnt σ s'.heap G G1).own id' = some r' → r.block ≠ r'.block :=
    fun {id id' b b' r r'} h1 h2 f1 f2 o1 o2 e => by
      rw [oDer h1 f1] at o1
      rw [frOwn h2 f2] at o2
      obtain ⟨k1, k2⟩ := hf.keep _ _ h2 f2
      have hfar := far k1 k2 o2
      rcases hE.ownNew _ _ o1 with q | q | q
      · obtain ⟨c, hc⟩ := own0' q
        exact hfar ⟨_, c, r, hc, q, e⟩
      · have := hs.own_lt k1 o2
        omega
      · rw [e] at q; exact hfar q
  refine ⟨val, ghostO s.cnt σ s'.heap G G1, v, s', rfl, hv.V seen hV, ⟨hS.imm, fun id b hg => ?_, fun id id' b b' r r' h1 h2 o1 o2 hne => ?_, fun id b r o hg ho => ?_, fun id hid => ?_, hf.lt'⟩,
    ⟨hle, hE.os, hE.tape, hE.output, hE.size, fun b hb hno => hE.keep b hb fun q => hno (ownedUp b q), fun b o u hi => ?_, fun id r ho => ?_, fun id b hg => ?_, hf.cnt, hf.dfr, fun id hl ho => by rw [oLow hl]; exact ho⟩, rfl, rfl⟩
  · cases hfr : fr id with
    | false =>
      rw [oDer hg hfr]
      obtain ⟨b', hb', hc, _⟩ := hf.out id b hg hfr
      rcases hS.heap _ _ hb' with ⟨r, o, e1, e2, e3⟩ | ⟨e1, esz, h0, e2⟩
      · exact .inl ⟨r, o, e1, e2, hc.holds seen e3⟩
      · refine .inr ⟨e1, esz, h0, ?_⟩
        subst e2
        exact hc.nil
    | true =>
      rw [frOwn hg hfr]
      obtain ⟨k1, k2⟩ := hf.keep _ _ hg hfr
      rcases hs.heap _ _ k1 with ⟨r, o, e1, e2, e3⟩ | q
      · exact .inl ⟨r, o, e1, by rw [hE.keep _ (hs.own_lt k1 e1) (far k1 k2 e1)]; exact e2, e3.mono hle⟩
      · exact .inr q
  · cases f1 : fr id with
    | false =>
      cases f2 : fr id' with
      | false =>
        rw [oDer h1 f1] at o1
        rw [oDer h2 f2] at o2
        obtain ⟨c, hc, _⟩ := hf.out id b h1 f1
        obtain ⟨c', hc', _⟩ := hf.out id' b' h2 f2
        exact hS.apart _ _ c c' r r' hc hc' o1 o2 fun e => hne (hf.inj' id id' b b' h1 h2 f1 f2 e)
      | true => exact apart1 h1 h2 f1 f2 o1 o2
    | true =>
      cases f2 : fr id' with
      | false => exact fun e => apart1 h2 h1 f2 f1 o2 o1 e.symm
      | true =>
        rw [frOwn h1 f1] at o1
        rw [frOwn h2 f2] at o2
        exact hs.apart id id' b b' r r' (hf.keep _ _ h1 f1).1 (hf.keep _ _ h2 f2).1 o1 o2 hne
  · show G1.imm r.block o = none
    cases hfr : fr id with
    | false =>
      rw [oDer hg hfr] at ho
      obtain ⟨c, hc, _⟩ := hf.out id b hg hfr
      exact hS.clear _ c r o hc ho
    | true =>
      rw [frOwn hg hfr] at ho
      obtain ⟨k1, k2⟩ := hf.keep _ _ hg hfr
      cases hi : G1.imm r.block o with
      | none => rfl
      | some u =>
        rcases hE.immNew _ _ _ hi with q | q | q
        · have q' : G.imm r.block o = some u := q
          rw [hs.clear id b r o k1 ho] at q'; cases q'
        · have := hs.own_lt k1 ho; omega
        · exact absurd q (far k1 k2 ho)
  · have hc := hf.cnt
    have hn : has s'.heap id = false := by
      cases hq : has s'.heap id with
      | false => rfl
      | true =>
        obtain ⟨b, hb⟩ := has_iff.1 hq
        have := hf.lt' id b hb
        omega
    have : ¬ id < s.cnt := by omega
    simp [ghostO, this, hn]
  · rcases hE.immNew b o u hi with q | q | q
    · exact .inl q
    · exact .inr (.inl q)
    · exact .inr (.inr (ownedUp b q))
  · by_cases hl : id < s.cnt
    · rw [oLow hl] at ho; exact .inl ho
    · have hh : has s'.heap id = true := by
        cases hq : has s'.heap id with
        | true => rfl
        | false => simp [ghostO, hl, hq] at ho
      obtain ⟨b, hb⟩ := has_iff.1 hh
      rw [oHigh hl hb] at ho
      rcases hE.ownNew _ _ ho with q | q | q
      · obtain ⟨c, hc⟩ := own0' q
        exact .inr (.inr (ownedUp _ ⟨_, c, r, hc, q, rfl⟩))
      · exact .inr (.inl q)
      · exact .inr (.inr (ownedUp _ q))
  · cases hfr : fr id with
    | false =>
      by_cases hl : id < s.cnt
      · obtain ⟨_, _, _, hq⟩ := hf.out id b hg hfr
        obtain ⟨h1, h2⟩ := hq hl
        obtain ⟨c, hc⟩ := has_iff.1 h1
        obtain ⟨b', hb', _⟩ := hf.into _ c hc
        rw [h2] at hb'
        exact .inl ⟨b', hb'⟩
      · exact .inr (by omega)
    | true => exact .inl ⟨b, (hf.keep _ _ hg hfr).1⟩


/-! ### A block of the state becomes immutable -/

mutual
inductive Fz (id : Nat) (elems : List AV) : AV → AV → Prop
  | r (x : AV) : Fz id elems x x
  | m {start len : Nat} {l : List AV} (hl : start + len ≤ elems.length) (he : (elems.drop start).take len = l) : Fz id elems (.sl false l) (.ms id start len)
  | a {xs ys : List AV} (h : FzL id elems xs ys) : Fz id elems (.agg xs) (.agg ys)
  | t {xs ys : List AV} (h : FzL id elems xs ys) : Fz id elems (.tup xs) (.tup ys)
  | f {g : FuncId} {xs ys : List AV} (h : FzL id elems xs ys) : Fz id elems (.fn g xs) (.fn g ys)
inductive FzL (id : Nat) (elems : List AV) : List AV → List AV → Prop
  | z : FzL id elems [] []
  | k {x y : AV} {xs ys : List AV} (h : Fz id elems x y) (hs : FzL id elems xs ys) : FzL id elems (x :: xs) (y :: ys)
  | r (xs : List AV) : FzL id elems xs xs
  | p {xs ys xs' ys' : List AV} (h : FzL id elems xs ys) (h' : FzL id elems xs' ys') : FzL id elems (xs ++ xs') (ys ++ ys')
end

section
variable {id : Nat} {elems : List AV} {G G' : Ghost}

theorem FzL.length : ∀ {xs ys : List AV}, FzL id elems xs ys → xs.length = ys.length
  | _, _, .z => rfl
  | _, _, .k _ hs => by simp [hs.length]
  | _, _, .r _ => rfl
  | _, _, .p h h' => by simp [h.length, h'.length]

theorem FzL.get : ∀ {xs ys : List AV}, FzL id elems xs ys → ∀ {i : Nat} {x : AV}, xs[i]? = some x → ∃ y, ys[i]? = some y ∧ Fz id elems x y
  | _, _, .z, i, x, h => by simp at h
  | _, _, .k h0 hs, i, x, h => by
    cases i with
    | zero => simp at h; subst h; exact ⟨_, rfl, h0⟩
    | succ i => exact hs.get (by simpa using h)
  | _, _, .r _, i, x, h => ⟨x, h, .r x⟩
  | _, _, .p (xs := xs) (ys := ys) (xs' := xs') (ys' := ys') h1 h2, i, x, h => by
    have hl := h1.length
    by_cases hi : i < xs.length
    · rw [List.getElem?_append_left hi] at h
      obtain ⟨y, hy, hc⟩ := h1.get h
      exact ⟨y, by rw [List.getElem?_append_left (by omega)]; exact hy, hc⟩
    · rw [List.getElem?_append_right (by omega)] at h
      obtain ⟨y, hy, hc⟩ := h2.get h
      exact ⟨y, by rw [List.getElem?_append_right (by omega), ← hl]; exact hy, hc⟩

theorem FzL.mem {xs ys : List AV} (h : FzL id elems xs ys) {x : AV} (hx : x ∈ xs) : ∃ y ∈ ys, Fz id elems x y := by
  obtain ⟨i, hi, rfl⟩ := List.getElem_of_mem hx
  obtain ⟨y, hy, hc⟩ := h.get (List.getElem?_eq_getElem hi)
  exact ⟨y, List.mem_of_getElem? hy, hc⟩

theorem Fz.cells {x y : AV} (h : Fz id elems x y) : FzL id elems x.cells y.cells := by
  cases h with
  | r => exact .r _
  | m hl he => exact .k (.m hl he) .z
  | a h => exact h
  | t h => exact .k (.t h) .z
  | f h => exact .k (.f h) .z

theorem Fz.scalar {x y : AV} (h : Fz id elems x y) : x.scalar = y.scalar := by cases h <;> rfl

theorem FzL.flat : ∀ {xs ys : List AV}, FzL id elems xs ys → FzL id elems (flat xs) (flat ys)
  | _, _, .z => .z
  | _, _, .k h hs => by rw [flat_cons, flat_cons]; exact .p h.cells hs.flat
  | _, _, .r _ => .r _
  | _, _, .p h h' => by rw [flat_append, flat_append]; exact .p h.flat h'.flat

theorem Fz.V (hle : GLe G G') (hm : ∀ start len v, start + len ≤ elems.length → V G (.ms id start len) v → V G' (.sl false ((elems.drop start).take len)) v) {x y : AV} {v : Value} (hv : V G y v) : Fz id elems x y → V G' x v := by
  induction hv generalizing x with
  | fn f caps vs hlen h0 ih =>
    intro h
    cases h with
    | r => exact (V.fn f caps vs hlen h0).mono hle
    | f hl => exact .fn f _ vs (by rw [hl.length]; exact hlen) fun i x y hx hy => let ⟨z, hz, hc⟩ := hl.get hx; ih i z y hz hy hc
  | agg cs vs hlen h0 ih =>
    intro h
    cases h with
    | r => exact (V.agg cs vs hlen h0).mono hle
    | a hl => exact .agg _ vs (by rw [hl.length]; exact hlen) fun i x y hx hy => let ⟨z, hz, hc⟩ := hl.get hx; ih i z y hz hy hc
  | tup cs vs hlen h0 ih =>
    intro h
    cases h with
    | r => exact (V.tup cs vs hlen h0).mono hle
    | t hl => exact .tup _ vs (by rw [hl.length]; exact hlen) fun i x y hx hy => let ⟨z, hz, hc⟩ := hl.get hx; ih i z y hz hy hc
  | any v => intro h; cases h; exact .any v
  | bool b => intro h; cases h; exact .bool b
  | int k n => intro h; cases h; exact .int k n
  | str s => intro h; cases h; exact .str s
  | nilp => intro h; cases h; exact .nilp
  | nilf => intro h; cases h; exact .nilf
  | slnil full base cap hf hb => intro h; cases h; exact .slnil full base cap hf hb
  | sl full elems b off esz cap val hcap hfull hesz hsc himm hV ih => intro h; cases h; exact (V.sl full elems b off esz cap val hcap hfull hesz hsc himm hV).mono hle
  | ip cells b off val himm hV ih => intro h; cases h; exact (V.ip cells b off val himm hV).mono hle
  | mp id el off r h0 => intro h; cases h; exact (V.mp id el off r h0).mono hle
  | yld id r h0 => intro h; cases h; exact (V.yld id r h0).mono hle
  | ms id start len cap r addr h0 hle' hin ha =>
    intro h
    cases h with
    | r => exact (V.ms id start len cap r addr h0 hle' hin ha).mono hle
    | m hl he => rw [← he]; exact hm _ _ _ hl (.ms _ _ _ _ _ _ h0 hle' hin ha)
  | msnil id start cap base h0 =>
    intro h
    cases h with
    | r => exact .msnil _ _ _ _ h0
    | m hl he => rw [← he]; exact hm _ _ _ hl (.msnil _ _ _ _ h0)
  | mc id start len cap r addr h0 hle' hin ha => intro h; cases h; exact (V.mc id start len cap r addr h0 hle' hin ha).mono hle
  | mcnil id start base => intro h; cases h; exact .mcnil _ _ _
end

inductive FzB (id : Nat) (elems : List AV) : Blk → Blk → Prop
  | r (b : Blk) : FzB id elems b b
  | cells {esz : Nat} {xs ys : List AV} (h : FzL id elems xs ys) : FzB id elems (.cells esz xs) (.cells esz ys)

theorem FzB.holds {id : Nat} {elems : List AV} {G G' : Ghost} (hle : GLe G G') (hm : ∀ start len v, start + len ≤ elems.length → V G (.ms id start len) v → V G' (.sl false ((elems.drop start).take len)) v)
    {b b' : Blk} {r : Reg} {o : Obj} (h : FzB id elems b b') (hh : Holds G r b' o) : Holds G' r b o := by
  cases h with
  | r => exact hh.mono hle
  | cells hl =>
    cases hh with
    | cells _ _ cs e hsz hesz h0 hel hsc hin hV =>
      refine .cells _ _ cs e hsz hesz h0 (fun x hx => ?_) (fun x hx => ?_) (by rw [hl.length]; exact hin) fun k x hx => ?_
      · obtain ⟨y, hy, hc⟩ := hl.mem hx
        rw [hc.cells.length]; exact hel y hy
      · obtain ⟨y, hy, hc⟩ := hl.flat.mem hx
        rw [hc.scalar]; exact hsc y hy
      · obtain ⟨y, hy, hc⟩ := hl.flat.get hx
        obtain ⟨v, hv, hV'⟩ := hV k y hy
        exact ⟨v, hv, hc.V hle hm hV'⟩

theorem awp_fz {P : Program} {N : Nat} {ρ : Option Nat} {Q : Exit → Env → St → Prop} {env E2 : Env} {s S2 : St} {c : Code} {id esz : Nat} {elems : List AV} (hg : eget s.heap id = some (.cells esz elems))
    (hE : ∀ t x, eget E2 t = some x → ∃ y, eget env t = some y ∧ Fz id elems x y) (hS : ∀ i b, eget S2.heap i = some b → i ≠ id ∧ ∃ b', eget s.heap i = some b' ∧ FzB id elems b b') (hc : S2.cnt = s.cnt)
    (hd : ∀ i, eget s.heap i = some .dfr → eget S2.heap i = some .dfr) (h : AWp P N ρ c Q E2 S2) : AWp P N ρ c Q env s := fun G w a hn => by
  obtain ⟨G', h1, h2, h3⟩ := freeze_ms hn.sim (start := 0) (len := 0) hg (Nat.zero_le _)
  have del : ∀ {i b}, i ≠ id → eget s.heap i = some b → eget (edel s.heap id) i = some b := fun {i b} hne hb => by
    rw [get_del, if_neg (fun e => hne e.symm)]; exact hb
  have hsim : Sim G' S2 w := ⟨h1.imm, fun i b hi => by
      obtain ⟨hne, b', hb', hf⟩ := hS i b hi
      rcases h1.heap i b' (del hne hb') with ⟨r, o, e1, e2, _⟩ | ⟨e1, sz, h0, e2⟩
      · refine .inl ⟨r, o, e1, e2, ?_⟩
        rcases hn.sim.heap i b' hb' with ⟨r', o', q1, q2, q3⟩ | ⟨q1, _, _, q2⟩
        · rw [h2.le.own _ _ q1] at e1; cases e1
          rw [e2] at q2; cases q2
          exact hf.holds h2.le h3 q3
        · rw [h2.stay i (hn.sim.lt _ _ hb') q1] at e1; cases e1
      · refine .inr ⟨e1, sz, h0, ?_⟩
        subst e2
        cases hf with
        | r => rfl
        | cells hl =>
          rename_i xs
          have : xs = [] := List.eq_nil_of_length_eq_zero (by simpa using hl.length)
          rw [this],
    fun i i' b b' r r' g1 g2 => by
      obtain ⟨n1, c1, k1, _⟩ := hS i b g1
      obtain ⟨n2, c2, k2, _⟩ := hS i' b' g2
      exact h1.apart i i' c1 c2 r r' (del n1 k1) (del n2 k2),
    fun i b r o g1 => by
      obtain ⟨n1, c1, k1, _⟩ := hS i b g1
      exact h1.clear i c1 r o (del n1 k1),
    fun i hi => h1.fresh i (by rw [hc] at hi; exact hi),
    fun i b g1 => by
      obtain ⟨n1, c1, k1, _⟩ := hS i b g1
      rw [hc]; exact hn.sim.lt i c1 k1⟩
  have hext : Ext G s w G' S2 w := ⟨h2.le, rfl, rfl, rfl, Nat.le_refl _, fun _ _ _ => rfl, h2.immNew, h2.ownNew, fun i b g1 => by
      obtain ⟨n1, c1, k1, _⟩ := hS i b g1
      exact .inl ⟨c1, k1⟩, by rw [hc]; exact Nat.le_refl _, hd, h2.stay⟩
  refine AWp.later h hn.sim hn.known hext ⟨hsim, fun t' x hx => ?_, hn.size, hn.defs.ext hext, hn.known.le h2.le⟩
  obtain ⟨y, hy, hf⟩ := hE t' x hx
  obtain ⟨q1, q2⟩ := hn.env _ _ hy
  exact ⟨q1, hf.V h2.le h3 q2⟩
end Go.Am
