/-
  The logic AM, part 27: the rules that a generated walk is made of.
  Own work. No Go text.
-/
import Derived.Test.YtpljabnngpnieaaAmO
import Derived.KernelRfl
namespace Go.Am
open Go.RowKit

/-! ### What a pure text says -/

theorem bindE {α β : Type} {o : Option α} {f : α → Option β} {r : β} (h : o.bind f = some r) : ∃ a, o = some a ∧ f a = some r := by
  cases o with
  | none => cases h
  | some a => exact ⟨a, rfl, h⟩

theorem iteE {α : Type} {b : Bool} {x y : Option α} {r : α} (h : (bif b then x else y) = some r) : (b = true ∧ x = some r) ∨ (b = false ∧ y = some r) := by
  cases b with
  | true => exact .inl ⟨rfl, h⟩
  | false => exact .inr ⟨rfl, h⟩

def need {α : Type} (p : Prop) [Decidable p] (x : Option α) : Option α := if p then x else none

theorem needE {α : Type} {p : Prop} [Decidable p] {x : Option α} {r : α} (h : need p x = some r) : p ∧ x = some r := by
  unfold need at h
  split at h
  · rename_i hp; exact ⟨hp, h⟩
  · cases h

/-- The element at an index. -/
def ix {α : Type} (l : List α) (i : Int) : Option α := if 0 ≤ i then l[i.toNat]? else none

theorem ixE {α : Type} {l : List α} {i : Int} {x : α} (h : ix l i = some x) : 0 ≤ i ∧ l[i.toNat]? = some x := by
  unfold ix at h
  split at h
  · rename_i hp; exact ⟨hp, h⟩
  · cases h

theorem ixLt {α : Type} {l : List α} {i : Int} {x : α} (h : ix l i = some x) : i < l.length := by
  obtain ⟨h0, h1⟩ := ixE h
  have := (List.getElem?_eq_some_iff.1 h1).1
  omega

def ixS (b : ByteArray) (i : Int) : Option UInt8 := if 0 ≤ i then b[i.toNat]? else none

theorem ixSE {l : ByteArray} {i : Int} {x : UInt8} (h : ixS l i = some x) : 0 ≤ i ∧ l[i.toNat]? = some x := by
  unfold ixS at h
  split at h
  · rename_i hp; exact ⟨hp, h⟩
  · cases h

theorem elimL {α β γ : Type} {f : α → Option γ} {g : β → Option γ} {a : α} {r : γ} (h : Sum.elim f g (.inl a) = some r) : f a = some r := h
theorem elimR {α β γ : Type} {f : α → Option γ} {g : β → Option γ} {a : β} {r : γ} (h : Sum.elim f g (.inr a) = some r) : g a = some r := h

theorem mapGet {α : Type} {l : List α} {i : Nat} {x : α} (e : α → AV) (h : l[i]? = some x) : (l.map e)[i]? = some (e x) := by simp [h]
theorem mapLen {α : Type} (l : List α) (e : α → AV) : (l.map e).length = l.length := by simp
theorem mapSet {α : Type} (l : List α) (e : α → AV) (i : Nat) (x : α) : (l.map e).set i (e x) = (l.set i x).map e := by rw [List.map_set]
theorem mapApp {α : Type} (l : List α) (e : α → AV) (x : α) : l.map e ++ [e x] = (l ++ [x]).map e := by simp
theorem mapApp2 {α : Type} (l m : List α) (e : α → AV) : l.map e ++ m.map e = (l ++ m).map e := by simp
theorem mapSub {α : Type} (l : List α) (e : α → AV) (a b : Nat) : ((l.map e).take b).drop a = ((l.take b).drop a).map e := by simp
theorem mapSub' {α : Type} (l : List α) (e : α → AV) (a b : Nat) : ((l.map e).drop a).take b = ((l.drop a).take b).map e := by simp
theorem mapAll {α : Type} (l : List α) (e : α → AV) : ((l.map e).drop 0).take l.length = l.map e := by
  rw [List.drop_zero, List.take_of_length_le (by simp)]

theorem fitsMap {α : Type} {P : Program} {t : TypeId} {k : Nat} (l : List α) (e : α → AV) (h : sizeT P t = some k) (he : ∀ x, (e x).cells.length = k) : fits P t (l.map e) := by
  unfold fits
  intro y hy
  cases l with
  | nil => simp at hy
  | cons x r =>
    simp only [List.map_cons, List.head?_cons, Option.mem_def, Option.some.injEq] at hy
    rw [← hy, he, h]

theorem fitsOne {P : Program} {t : TypeId} {x : AV} {r : List AV} (h : sizeT P t = some x.cells.length) : fits P t (x :: r) := by
  unfold fits
  intro y hy
  simp only [List.head?_cons, Option.mem_def, Option.some.injEq] at hy
  rw [← hy, h]

theorem fitsNil {P : Program} {t : TypeId} : fits P t [] := by
  unfold fits; intro y hy; simp at hy

theorem cleanMap {α : Type} (l : List α) (e : α → AV) (h : ∀ x, (e x).clean = true) : cleanL (l.map e) = true := by
  rw [cleanL_iff]
  intro y hy
  obtain ⟨x, _, rfl⟩ := List.mem_map.1 hy
  exact h x

/-! ### Code, by number -/

def subs : Code → List Code
  | .seq a b => .seq a b :: (subs a ++ subs b)
  | .cond o a b => .cond o a b :: (subs a ++ subs b)
  | .block i a => .block i a :: subs a
  | .loop a => .loop a :: subs a
  | .rangeFunc f p a b => .rangeFunc f p a b :: (subs a ++ subs b)
  | .scope a => .scope a :: subs a
  | c => [c]

def nthC : List Code → Nat → Code
  | [], _ => .skip
  | c :: _, 0 => c
  | _ :: r, n + 1 => nthC r n

/-! ### Pruning -/

/-- The marks of h stand in h2. -/
def keepD (h h2 : List (Nat × Blk)) : Bool := h.all fun p => !isDfr p.2 || (match eget h2 p.1 with
  | some b => isDfr b
  | none => false)

theorem keepD_iff {h h2 : List (Nat × Blk)} (hk : keepD h h2 = true) (id : Nat) (e : eget h id = some .dfr) : eget h2 id = some .dfr := by
  have := List.all_eq_true.1 hk _ (eget_mem e)
  simp only [isDfr, Bool.not_true, Bool.false_or] at this
  split at this
  · rename_i b hb
    cases b with
    | dfr => exact hb
    | cells _ _ => cases this
    | loop _ => cases this
  · cases this

/-- The slots and the blocks that are kept. -/
def prune (ks hs : List Nat) (env : Env) (s : St) : Option (Env × St) := match look env ks, (hs.foldr (fun id acc => match eget s.heap id, acc with
    | some b, some l => some ((id, b) :: l)
    | _, _ => none) (some [])) with
  | some xs, some h => bif keepD s.heap h then some (zipE ks xs, ⟨h, s.cnt⟩) else none
  | _, _ => none

theorem pruneH {s : St} : ∀ {hs : List Nat} {h : List (Nat × Blk)}, (hs.foldr (fun id acc => match eget s.heap id, acc with
    | some b, some l => some ((id, b) :: l)
    | _, _ => none) (some [])) = some h → ∀ id b, eget h id = some b → eget s.heap id = some b
  | [], h, hh, id, b, hg => by cases hh; simp [egetN, egetC] at hg
  | i :: r, h, hh, id, b, hg => by
    simp only [List.foldr_cons] at hh
    split at hh
    · rename_i b0 l h1 h2
      cases hh
      simp only [egetN, egetC] at hg
      split at hg
      · rename_i e; cases hg; rw [← e]; exact h1
      · exact pruneH h2 id b hg
    · cases hh

theorem prune_ok {P : Program} {N : Nat} {ρ : Option Nat} {Q : Exit → Env → St → Prop} {env E2 : Env} {s S2 : St} {c : Code} {ks hs : List Nat} (h : prune ks hs env s = some (E2, S2)) (hk : AWp P N ρ c Q E2 S2) : AWp P N ρ c Q env s := by
  unfold prune at h
  split at h
  · rename_i xs hp h1 h2
    cases hd : keepD s.heap hp with
    | false => simp [hd] at h
    | true =>
      simp only [hd, cond_true] at h
      cases h
      exact awp_look ks (s' := ⟨hp, s.cnt⟩) h1 (LeS.mk (pruneH h2) (Nat.le_refl _) fun id e => keepD_iff hd id e) hk
  · cases h

theorem prune_sub {env E2 : Env} {s S2 : St} {ks hs : List Nat} (h : prune ks hs env s = some (E2, S2)) : (∀ t x, eget E2 t = some x → eget env t = some x) ∧ LeS S2 s := by
  unfold prune at h
  split at h
  · rename_i xs hp h1 h2
    cases hd : keepD s.heap hp with
    | false => simp [hd] at h
    | true =>
      simp only [hd, cond_true] at h
      cases h
      exact ⟨look_get h1, LeS.mk (pruneH h2) (Nat.le_refl _) fun id e => keepD_iff hd id e⟩
  · cases h

section
variable {P : Program} {N : Nat} {ρ : Option Nat} {Q Q' : Exit → Env → St → Prop} {env E2 : Env} {s S2 : St} {c : Code}

theorem awp_sub (h : AWp P N ρ c (fun e env' s' => ∃ E2 S2, (∀ t x, eget E2 t = some x → eget env' t = some x) ∧ LeS S2 s' ∧ Q e E2 S2) env s) : AWp P N ρ c Q env s := fun G w a hn =>
  wpIn_mono (h G w a hn) fun _ _ _ ⟨G', env', s', n', x', E2, S2, he, hs, hq⟩ =>
    ⟨G', E2, S2, ⟨n'.sim.drop hs.heap hs.cnt, n'.env.sub he, n'.size, n'.defs.drop hs.dfr, n'.known⟩, x'.trans hn.sim (Ext.drop hs.heap hs.cnt hs.dfr), hq⟩

/-- Less is kept. -/
theorem awp_p (ks hids : List Nat) (E2 : Env) (S2 : St) (hp : prune ks hids env s = some (E2, S2)) (h : AWp P N ρ c Q E2 S2) : AWp P N ρ c Q env s := prune_ok hp h
end

/-- A region, by its code: what follows, the slots, the state, what must hold. -/
def xrun (P : Program) (N : Nat) (c : Code) (hs : List Hint) (ks hids : List Nat) (env : Env) (s : St) : Option (Code × Env × St × List Prop) :=
  match c with
  | .seq (.region _ ops false) y => bif guardsOk ops.toList && dstsOk N ops.toList then (match xregO P (ins ops.toList) hs env s with
    | some (e, s', o) => match prune ks hids e s' with
      | some (e2, s2) => some (y, e2, s2, o)
      | none => none
    | none => none) else none
  | _ => none

def xrun0 (P : Program) (N : Nat) (c : Code) (hs : List Hint) (ks hids : List Nat) (env : Env) (s : St) : Option (Env × St × List Prop) :=
  match c with
  | .region _ ops false => bif guardsOk ops.toList && dstsOk N ops.toList then (match xregO P (ins ops.toList) hs env s with
    | some (e, s', o) => match prune ks hids e s' with
      | some (e2, s2) => some (e2, s2, o)
      | none => none
    | none => none) else none
  | _ => none

/-- The same for a region that leaves its order open, by a plan. -/
def yrun (P : Program) (N : Nat) (c : Code) (pre : List (List Nat)) (steps : List Step) (hs : List Hint) (ks hids : List Nat) (env : Env) (s : St) : Option (Code × Env × St × List Prop) :=
  match c with
  | .seq (.region _ ops true) y => bif planB P N ops.toList pre steps && (mkD (ins ops.toList) steps).all lightD && P.follows .mixedOrders then (match xdr P (mkD (ins ops.toList) steps) hs [] env s with
    | some (e, s', o) => match prune ks hids e s' with
      | some (e2, s2) => some (y, e2, s2, o)
      | none => none
    | none => none) else none
  | _ => none

def yrun0 (P : Program) (N : Nat) (c : Code) (pre : List (List Nat)) (steps : List Step) (hs : List Hint) (ks hids : List Nat) (env : Env) (s : St) : Option (Env × St × List Prop) :=
  match c with
  | .region _ ops true => bif planB P N ops.toList pre steps && (mkD (ins ops.toList) steps).all lightD && P.follows .mixedOrders then (match xdr P (mkD (ins ops.toList) steps) hs [] env s with
    | some (e, s', o) => match prune ks hids e s' with
      | some (e2, s2) => some (e2, s2, o)
      | none => none
    | none => none) else none
  | _ => none

section
variable {P : Program} {N : Nat} {ρ : Option Nat} {Q Q' : Exit → Env → St → Prop} {env : Env} {s : St} {c : Code}

theorem run1 (y : Code) (hs : List Hint) (ks hids : List Nat) (E2 : Env) (S2 : St) (obs : List Prop) (hx : xrun P N c hs ks hids env s = some (y, E2, S2, obs)) (ho : conj obs) (h : AWp P N ρ y Q E2 S2) : AWp P N ρ c Q env s := by
  unfold xrun at hx
  split at hx
  case h_2 => cases hx
  rename_i id ops y'
  generalize hg : (guardsOk ops.toList && dstsOk N ops.toList) = g at hx
  cases g with
  | false => cases hx
  | true =>
    simp only [cond_true] at hx
    split at hx
    case h_2 => cases hx
    rename_i e s' o h1
    split at hx
    case h_2 => cases hx
    rename_i e2 s2 h2
    cases hx
    exact awp_x1 hs rfl hg h1 ho (prune_ok h2 h)

theorem run0 (hs : List Hint) (ks hids : List Nat) (E2 : Env) (S2 : St) (obs : List Prop) (hx : xrun0 P N c hs ks hids env s = some (E2, S2, obs)) (ho : conj obs) (h : Q .normal E2 S2) : AWp P N ρ c Q env s := by
  unfold xrun0 at hx
  split at hx
  case h_2 => cases hx
  rename_i id ops
  generalize hg : (guardsOk ops.toList && dstsOk N ops.toList) = g at hx
  cases g with
  | false => cases hx
  | true =>
    simp only [cond_true] at hx
    split at hx
    case h_2 => cases hx
    rename_i e s' o h1
    split at hx
    case h_2 => cases hx
    rename_i e2 s2 h2
    cases hx
    obtain ⟨p1, p2⟩ := prune_sub h2
    exact awp_sub (awp_x0 hs rfl hg h1 ho ⟨E2, S2, p1, p2, h⟩)

theorem follows_of {P : Program} {d : Departure} (h : P.follows d = true) : P.follows d = true := h

theorem yun1 (y : Code) (pre : List (List Nat)) (steps : List Step) (hs : List Hint) (ks hids : List Nat) (E2 : Env) (S2 : St) (obs : List Prop) (hx : yrun P N c pre steps hs ks hids env s = some (y, E2, S2, obs)) (ho : conj obs) (h : AWp P N ρ y Q E2 S2) : AWp P N ρ c Q env s := by
  unfold yrun at hx
  split at hx
  case h_2 => cases hx
  rename_i id ops y'
  generalize hg : (planB P N ops.toList pre steps && (mkD (ins ops.toList) steps).all lightD && P.follows .mixedOrders) = g at hx
  cases g with
  | false => cases hx
  | true =>
    simp only [cond_true] at hx
    split at hx
    case h_2 => cases hx
    rename_i e s' o h1
    split at hx
    case h_2 => cases hx
    rename_i e2 s2 h2
    cases hx
    simp only [Bool.and_eq_true] at hg
    exact awp_y1 hs rfl (planB_ok hg.1.1) hg.2 hg.1.2 h1 ho (prune_ok h2 h)

theorem yun0 (pre : List (List Nat)) (steps : List Step) (hs : List Hint) (ks hids : List Nat) (E2 : Env) (S2 : St) (obs : List Prop) (hx : yrun0 P N c pre steps hs ks hids env s = some (E2, S2, obs)) (ho : conj obs) (h : Q .normal E2 S2) : AWp P N ρ c Q env s := by
  unfold yrun0 at hx
  split at hx
  case h_2 => cases hx
  rename_i id ops
  generalize hg : (planB P N ops.toList pre steps && (mkD (ins ops.toList) steps).all lightD && P.follows .mixedOrders) = g at hx
  cases g with
  | false => cases hx
  | true =>
    simp only [cond_true] at hx
    split at hx
    case h_2 => cases hx
    rename_i e s' o h1
    split at hx
    case h_2 => cases hx
    rename_i e2 s2 h2
    cases hx
    simp only [Bool.and_eq_true] at hg
    obtain ⟨p1, p2⟩ := prune_sub h2
    exact awp_sub (awp_y0 hs rfl (planB_ok hg.1.1) hg.2 hg.1.2 h1 ho ⟨E2, S2, p1, p2, h⟩)

/-! ### Code -/

theorem run_c (t : Nat) (x y : Code) (b : Bool) (hc : c = .cond (.tmp t) x y) (ho : eget env t = some (.bool b)) (ht : b = true → AWp P N ρ x Q env s) (hf : b = false → AWp P N ρ y Q env s) : AWp P N ρ c Q env s := by
  subst hc; exact awp_cond ho ht hf

theorem run_s (x y : Code) (hc : c = .seq x y) (h : AWp P N ρ x (Then (AWp P N ρ y Q) Q) env s) : AWp P N ρ c Q env s := by subst hc; exact awp_seq h
theorem run_b (id : Nat) (x : Code) (hc : c = .block id x) (h : AWp P N ρ x (InBlock id Q) env s) : AWp P N ρ c Q env s := by subst hc; exact awp_block h
theorem run_k (hc : c = .skip) (h : Q .normal env s) : AWp P N ρ c Q env s := by subst hc; exact awp_skip h
theorem run_e (id : Nat) (hc : c = .exit id) (h : Q (.exit id) env s) : AWp P N ρ c Q env s := by subst hc; exact awp_exit h
theorem run_t (hc : c = .ret) (h : Q .ret env s) : AWp P N ρ c Q env s := by subst hc; exact awp_ret h

/-- Where ways meet: the rest is walked once. -/
theorem run_j (x y : Code) {A : Prop} (hc : c = .seq x y) (h1 : A → AWp P N ρ x (Then (AWp P N ρ y Q) Q) env s) (h2 : A) : AWp P N ρ c Q env s := by subst hc; exact awp_seq (h1 h2)
theorem run_jj {A : Prop} (h1 : A → AWp P N ρ c Q env s) (h2 : A) : AWp P N ρ c Q env s := h1 h2
end

/-! ### Names -/

def pi (L : List (Nat × Nat)) (id : Nat) : Nat := match eget L id with
  | some x => x
  | none => id

/-- L: new names and what they name: an old name, or nothing (a number that no block has). -/
def intoB (base : Nat) (L : List (Nat × Nat)) (S2 s : St) : Bool :=
  L.all (fun p => Nat.ble base p.1) && S2.heap.all (fun p => Nat.blt p.1 S2.cnt && S2.heap.all fun q => Nat.beq p.1 q.1 || !(Nat.beq (pi L p.1) (pi L q.1)) || Nat.ble s.cnt (pi L p.1)) && Nat.ble base S2.cnt && (keepD s.heap S2.heap && s.heap.all fun p => !isDfr p.2 || Nat.blt p.1 base)

inductive HCo (ok : Nat → Bool) (π : Nat → Nat) (base : Nat) (s : St) : List (Nat × Blk) → Prop
  | z : HCo ok π base s []
  | k {id : Nat} {x x' : Blk} {r : List (Nat × Blk)} (hg : eget s.heap (π id) = some x') (hc : CoB ok π x x') (hr : HCo ok π base s r) : HCo ok π base s ((id, x) :: r)
  | n {id esz : Nat} {r : List (Nat × Blk)} (h1 : Nat.ble base id = true) (h2 : Nat.ble s.cnt (π id) = true) (h3 : Nat.blt 0 esz = true) (hr : HCo ok π base s r) : HCo ok π base s ((id, .cells esz []) :: r)

theorem HCo.get {ok : Nat → Bool} {π : Nat → Nat} {base : Nat} {s : St} : ∀ {l : List (Nat × Blk)}, HCo ok π base s l → ∀ id b, eget l id = some b →
    (∃ b', eget s.heap (π id) = some b' ∧ CoB ok π b b') ∨ (base ≤ id ∧ s.cnt ≤ π id ∧ ∃ esz, 0 < esz ∧ b = .cells esz [])
  | _, .z, id, b, h => by simp [egetN, egetC] at h
  | _, .k hg hc hr, id, b, h => by
    simp only [egetN, egetC] at h
    split at h
    · rename_i e; cases h; subst e; exact .inl ⟨_, hg, hc⟩
    · exact hr.get id b h
  | _, .n h1 h2 h3 hr, id, b, h => by
    simp only [egetN, egetC] at h
    split at h
    · rename_i e; cases h; subst e; exact .inr ⟨Nat.le_of_ble_eq_true h1, Nat.le_of_ble_eq_true h2, _, by simpa [Nat.blt_eq] using h3, rfl⟩
    · exact hr.get id b h

theorem pi_low {base : Nat} {L : List (Nat × Nat)} (h : L.all (fun p => Nat.ble base p.1) = true) {id : Nat} (hl : id < base) : pi L id = id := by
  unfold pi
  cases hg : eget L id with
  | none => rfl
  | some x =>
    have := List.all_eq_true.1 h _ (eget_mem hg)
    simp only [Nat.ble_eq] at this
    omega

theorem mkIntoS {base : Nat} {L : List (Nat × Nat)} {S2 s : St} (hb : intoB base L S2 s = true) (hh : HCo (okId base S2.heap) (pi L) base s S2.heap) : IntoS base (pi L) S2 s := by
  simp only [intoB, Bool.and_eq_true] at hb
  obtain ⟨⟨⟨b1, b2⟩, b3⟩, b4⟩ := hb
  have g2 : ∀ {id b}, eget S2.heap id = some b → id < S2.cnt ∧ ∀ {id' b'}, eget S2.heap id' = some b' → id = id' ∨ pi L id ≠ pi L id' ∨ s.cnt ≤ pi L id := fun {id b} hg => by
    have := List.all_eq_true.1 b2 _ (eget_mem hg)
    simp only [Bool.and_eq_true, Nat.blt_eq] at this
    refine ⟨this.1, fun {id' b'} hg' => ?_⟩
    have := List.all_eq_true.1 this.2 _ (eget_mem hg')
    simp only [Bool.or_eq_true, Bool.not_eq_true', Nat.ble_eq] at this
    rcases this with (h | h) | h
    · exact .inl (Nat.eq_of_beq_eq_true h)
    · exact .inr (.inl fun e => by rw [e, show Nat.beq (pi L id') (pi L id') = true from Nat.beq_refl _] at h; cases h)
    · exact .inr (.inr h)
  exact ⟨⟨fun id b hg => hh.get id b hg, fun id hl => pi_low b1 hl, fun id id' b b' h1 h2 e => by
      rcases (g2 h1).2 h2 with h | h | h
      · exact .inl h
      · exact absurd e h
      · exact .inr h, fun id b hg => (g2 hg).1, Nat.le_of_ble_eq_true b3⟩, fun id e => ⟨by
      have := List.all_eq_true.1 b4.2 _ (eget_mem e)
      simpa [isDfr, Nat.blt_eq] using this, keepD_iff b4.1 id e⟩⟩

theorem mkInto {base : Nat} {L : List (Nat × Nat)} {S2 s : St} {env : Env} {ks : List Nat} {xs ys : List AV} (hb : intoB base L S2 s = true) (he : look env ks = some ys) (hc : CoL (okId base S2.heap) (pi L) xs ys)
    (hh : HCo (okId base S2.heap) (pi L) base s S2.heap) : Into base (pi L) (zipE ks xs) S2 env s := by
  refine ⟨mkIntoS hb hh, ?_⟩
  have key : ∀ {ks : List Nat} {xs ys : List AV}, look env ks = some ys → (∀ (i : Nat) (x : AV), xs[i]? = some x → ∃ y : AV, ys[i]? = some y ∧ Co (okId base S2.heap) (pi L) x y) → ∀ t x, eget (zipE ks xs) t = some x → ∃ y, eget env t = some y ∧ Co (okId base S2.heap) (pi L) x y := by
    intro ks
    induction ks with
    | nil => intro xs ys _ _ t x hx; simp [zipE, egetN, egetC] at hx
    | cons k r ih =>
      intro xs ys he hc t x hx
      cases xs with
      | nil => simp [zipE, egetN, egetC] at hx
      | cons x0 xs =>
        simp only [look] at he
        split at he
        · rename_i y0 l h1 h2
          cases he
          simp only [zipE, egetN, egetC] at hx
          split at hx
          · rename_i e; cases hx; subst e
            obtain ⟨y, hy, hcy⟩ := hc 0 _ rfl
            simp at hy; subst hy
            exact ⟨_, h1, hcy⟩
          · exact ih h2 (fun i x hx => by simpa using hc (i + 1) x (by simpa using hx)) t x hx
        · cases he
  exact key he fun i x hx => hc.get hx

section
variable {P : Program} {N : Nat} {ρ : Option Nat} {Q Q' : Exit → Env → St → Prop} {env : Env} {s : St} {c : Code}

/-- From here on the state is seen otherwise. -/
theorem run_i (base : Nat) (L : List (Nat × Nat)) (ks : List Nat) (ys : List AV) {xs : List AV} {S2 : St} (h : AWp P N ρ c Q (zipE ks xs) S2) (hρ : ∀ id, ρ = some id → id < s.cnt) (hs : Nat.ble s.cnt base = true) (hb : intoB base L S2 s = true) (he : look env ks = some ys)
    (hc : CoL (okId base S2.heap) (pi L) xs ys) (hh : HCo (okId base S2.heap) (pi L) base s S2.heap) : AWp P N ρ c Q env s :=
  awp_into hρ (mkInto hb he hc hh) (Nat.le_of_ble_eq_true hs) h

/-- A loop: what its rounds carry. -/
theorem run_l {σ τ : Type} (x : Code) (body : σ → Option (σ ⊕ τ)) {n : Nat} {st0 : σ} {res : τ} (hl : loopN body n st0 = some res) (E : σ → Env) (S : σ → St) (L : List (Nat × Nat)) (hρ : ∀ id, ρ = some id → id < s.cnt) (hcd : c = .loop x)
    (h0 : Into s.cnt (pi L) (E st0) (S st0) env s)
    (round : ∀ st out, body st = some out → (∀ r, out = .inr r → r = res) → AWp P N ρ x (fun e env' s' => match e with
      | .normal => ∃ st', out = .inl st' ∧ ∃ π, Into s.cnt π (E st') (S st') env' s'
      | e => (∃ r, out = .inr r) ∧ Q e env' s') (E st) (S st)) : AWp P N ρ c Q env s := by
  subst hcd
  exact awp_loopP hρ body hl E S h0 round

/-! ### Freezing -/

inductive HFz (id : Nat) (elems : List AV) (s : St) : List (Nat × Blk) → Prop
  | z : HFz id elems s []
  | k {i : Nat} {x x' : Blk} {r : List (Nat × Blk)} (hn : Nat.beq i id = false) (hg : eget s.heap i = some x') (hc : FzB id elems x x') (hr : HFz id elems s r) : HFz id elems s ((i, x) :: r)

theorem HFz.get {id : Nat} {elems : List AV} {s : St} : ∀ {l : List (Nat × Blk)}, HFz id elems s l → ∀ i b, eget l i = some b → i ≠ id ∧ ∃ b', eget s.heap i = some b' ∧ FzB id elems b b'
  | _, .z, id, b, h => by simp [egetN, egetC] at h
  | _, .k hn hg hc hr, i, b, h => by
    simp only [egetN, egetC] at h
    split at h
    · rename_i e; cases h; subst e
      refine ⟨fun e => ?_, _, hg, hc⟩
      subst e
      rw [show Nat.beq _ _ = true from Nat.beq_refl _] at hn
      cases hn
    · exact hr.get i b h

theorem run_z (id esz : Nat) (elems : List AV) (ks : List Nat) (ys : List AV) {xs : List AV} {S2 : St} (h : AWp P N ρ c Q (zipE ks xs) S2) (hg : eget s.heap id = some (.cells esz elems)) (he : look env ks = some ys)
    (hz : FzL id elems xs ys) (hh : HFz id elems s S2.heap) (hc : S2.cnt = s.cnt) (hd : keepD s.heap S2.heap = true) : AWp P N ρ c Q env s := by
  refine awp_fz hg ?_ hh.get hc (fun i e => keepD_iff hd i e) h
  have key : ∀ {ks : List Nat} {xs ys : List AV}, look env ks = some ys → (∀ (i : Nat) (x : AV), xs[i]? = some x → ∃ y : AV, ys[i]? = some y ∧ Fz id elems x y) → ∀ t x, eget (zipE ks xs) t = some x → ∃ y, eget env t = some y ∧ Fz id elems x y := by
    intro ks
    induction ks with
    | nil => intro xs ys _ _ t x hx; simp [zipE, egetN, egetC] at hx
    | cons k r ih =>
      intro xs ys he hc t x hx
      cases xs with
      | nil => simp [zipE, egetN, egetC] at hx
      | cons x0 xs =>
        simp only [look] at he
        split at he
        · rename_i y0 l h1 h2
          cases he
          simp only [zipE, egetN, egetC] at hx
          split at hx
          · rename_i e; cases hx; subst e
            obtain ⟨y, hy, hcy⟩ := hc 0 _ rfl
            simp at hy; subst hy
            exact ⟨_, h1, hcy⟩
          · exact ih h2 (fun i x hx => by simpa using hc (i + 1) x (by simpa using hx)) t x hx
        · cases he
  exact key he fun i x hx => hz.get hx

/-! ### Functions -/

theorem run_f {f : FuncId} {args : List AV} {K : AV → St → Prop} (N' : Nat) (rs : List ResultVar) (c : Code) (E : Env) (hf : ((P.funcs[f]?).bind fun fn => fn.body.map fun b => (fn.ntmps, fn.results.toList, b)) = some (N', rs, c)) (hE : argEnv args 0 = E)
    (hn : Nat.ble args.length N' = true) (hd : noDfr s.heap = true) (h : AWp P N' none c (FinQ P rs.toArray K) E s) : ACalls P f args s K := by
  cases hq : P.funcs[f]? with
  | none => simp [hq] at hf
  | some fn =>
    simp only [hq, Option.bind_some] at hf
    cases hb : fn.body with
    | none => simp [hb] at hf
    | some c' =>
      simp only [hb, Option.map_some, Option.some.injEq, Prod.mk.injEq] at hf
      obtain ⟨h1, h2, h3⟩ := hf
      subst h1; subst h2; subst h3; subst hE
      exact acalls_of_wp hq hb (Nat.le_of_ble_eq_true hn) (noDfr_iff hd) (by simpa using h)

theorem fin_t {rs : Array ResultVar} {K : AV → St → Prop} {x : AV} (hx : aResults P rs env s = some x) (hd : noDfr s.heap = true) (hk : K x s) : FinQ P rs K .ret env s := finS hx hd hk
theorem fin_n {rs : Array ResultVar} {K : AV → St → Prop} {x : AV} (hx : aResults P rs env s = some x) (hd : noDfr s.heap = true) (hk : K x s) : FinQ P rs K .normal env s := finN hx hd hk

theorem thenN {K : Env → St → Prop} (h : K env s) : Then K Q .normal env s := h
theorem thenE {K : Env → St → Prop} {i : Nat} (h : Q (.exit i) env s) : Then K Q (.exit i) env s := h
theorem thenR {K : Env → St → Prop} (h : Q .ret env s) : Then K Q .ret env s := h
theorem inbN {i : Nat} (h : Q .normal env s) : InBlock i Q .normal env s := h
theorem inbR {i : Nat} (h : Q .ret env s) : InBlock i Q .ret env s := h
theorem inbE {i : Nat} (h : Q .normal env s) : InBlock i Q (.exit i) env s := by simp only [InBlock, if_true]; exact h
theorem inbX {i j : Nat} (hn : Nat.beq j i = false) (h : Q (.exit j) env s) : InBlock i Q (.exit j) env s := by
  have hne : ¬ j = i := fun e => by subst e; rw [show Nat.beq _ _ = true from Nat.beq_refl _] at hn; cases hn
  simp only [InBlock, hne, if_false]; exact h

theorem APure.co {f : FuncId} {args0 args : List AV} {x : AV} {ok : Nat → Bool} {π : Nat → Nat} (h : APure P f args0 x) (hc : CoL (fun _ => false) id args0 args) : APure P f args x := fun s G w vs hs hv =>
  h s G w vs hs (hc.V ⟨fun _ _ _ h => h, fun _ _ h _ => by cases h⟩ hv)

theorem run_cT (t : Nat) (x y : Code) (b : Bool) (hb : b = true) (hc : c = .cond (.tmp t) x y) (ho : eget env t = some (.bool b)) (h : AWp P N ρ x Q env s) : AWp P N ρ c Q env s :=
  run_c t x y b hc ho (fun _ => h) (fun e => by rw [hb] at e; cases e)

theorem run_cF (t : Nat) (x y : Code) (b : Bool) (hb : b = false) (hc : c = .cond (.tmp t) x y) (ho : eget env t = some (.bool b)) (h : AWp P N ρ y Q env s) : AWp P N ρ c Q env s :=
  run_c t x y b hc ho (fun e => by rw [hb] at e; cases e) (fun _ => h)

/-- Where ways meet: the rest is walked once. -/
theorem run_jq {J : Type} (x y : Code) (E2 : J → Env) (S2 : J → St) (C : J → Prop) (hc : c = .seq x y) (h1 : (∀ j, C j → AWp P N ρ y Q (E2 j) (S2 j)) → AWp P N ρ x (Then (AWp P N ρ y Q) Q) env s)
    (h2 : ∀ j, C j → AWp P N ρ y Q (E2 j) (S2 j)) : AWp P N ρ c Q env s := by subst hc; exact awp_seq (h1 h2)
theorem run_gq {J : Type} (y : Code) (E2 : J → Env) (S2 : J → St) (C : J → Prop) (h1 : (∀ j, C j → AWp P N ρ y Q (E2 j) (S2 j)) → AWp P N ρ c Q env s) (h2 : ∀ j, C j → AWp P N ρ y Q (E2 j) (S2 j)) : AWp P N ρ c Q env s := h1 h2
theorem run_tq {J : Type} (E2 : J → Env) (S2 : J → St) (C : J → Prop) (h1 : (∀ j, C j → Q .normal (E2 j) (S2 j)) → AWp P N ρ c Q env s) (h2 : ∀ j, C j → Q .normal (E2 j) (S2 j)) : AWp P N ρ c Q env s := h1 h2
end

def shrI (x y : Int) : Int := x.fdiv (2 ^ (min y.toNat 64))
abbrev wr (x : Int) : Int := IntKind.i64.wrap x
def shlI (x y : Int) : Int := IntKind.i64.wrap (x * 2 ^ (min y.toNat 64))
def minI (x y : Int) : Int := if y < x then y else x
def maxI (x y : Int) : Int := if x < y then y else x
abbrev FUEL : Nat := 18446744073709551616

def SL {α : Type} (e : α → AV) (l : List α) : AV := .sl false (l.map e)
theorem cl_SL {α : Type} {e : α → AV} (h : ∀ x, (e x).clean = true) (l : List α) : (SL e l).clean = true := cleanMap l e h
theorem sz_SL {α : Type} {e : α → AV} (l : List α) : (SL e l).cells.length = 1 := rfl
theorem cl_i (n : Int) : (AV.i n).clean = true := rfl
theorem sz_i (n : Int) : (AV.i n).cells.length = 1 := rfl
theorem cl_int (k : IntKind) (n : Int) : (AV.int k n).clean = true := rfl
theorem sz_int (k : IntKind) (n : Int) : (AV.int k n).cells.length = 1 := rfl
theorem cl_bool (n : Bool) : (AV.bool n).clean = true := rfl
theorem sz_bool (n : Bool) : (AV.bool n).cells.length = 1 := rfl
theorem cl_str (n : ByteArray) : (AV.str n).clean = true := rfl
theorem sz_str (n : ByteArray) : (AV.str n).cells.length = 1 := rfl
theorem clK {x : AV} {xs : List AV} (h : x.clean = true) (hs : cleanL xs = true) : cleanL (x :: xs) = true := by simp [cleanL, h, hs]
theorem clZ : cleanL [] = true := rfl
theorem mLe {α : Type} (l : List α) (e : α → AV) : 0 + l.length ≤ (l.map e).length := by simp
/-- A list to which one element was added. -/
theorem appC {ok : Nat → Bool} {π : Nat → Nat} {α : Type} {l : List α} {e : α → AV} {y : α} {v : AV} (hl : ∀ x, (e x).clean = true) (h : Co ok π (e y) v) : CoL ok π ((l ++ [y]).map e) (l.map e ++ [v]) := by
  rw [List.map_append]
  exact .p (.r (cleanMap l e hl)) (.k h .z)
/-- A list of which only the head stays. -/
theorem cutT {ok : Nat → Bool} {π : Nat → Nat} {α : Type} {e : α → AV} (esz : Nat) (l : List α) (k : Nat) (hl : ∀ x, (e x).clean = true) : CoB ok π (.cells esz ((l.take k).map e)) (.cells esz (l.map e)) := by
  have : l.map e = (l.take k).map e ++ (l.drop k).map e := by rw [← List.map_append, List.take_append_drop]
  rw [this]
  exact .cut (.r (cleanMap _ e hl))

theorem cj0 : conj [] := trivial
theorem cj1 {p : Prop} (h : p) : conj [p] := h
theorem cjC {p q : Prop} {r : List Prop} (h : p) (hs : conj (q :: r)) : conj (p :: q :: r) := ⟨h, hs⟩

section
variable {α : Type} {l m : List α} (e : α → AV)
theorem mapRep (n : Nat) (e : α → AV) (x : α) : List.replicate n (e x) = (List.replicate n x).map e := by simp
theorem leMap {n : Nat} (h : n ≤ l.length) : n ≤ (l.map e).length := by simpa using h
theorem beqR (n : Nat) : (n == n) = true := by simp
theorem mapNil (h : l = []) : l.map e = [] := by rw [h]; rfl
theorem mapNe (h : l ≠ []) : l.map e ≠ [] := by simpa using h
theorem mapNeM (h : l ≠ []) : ((l.map e).drop 0).take l.length ≠ [] := by rw [mapAll]; exact mapNe e h
theorem bnd0 (h : l.length ≤ maxElems) : ([] : List AV).length + (l.map e).length ≤ maxElems := by simpa using h
theorem bnd0M (h : l.length ≤ maxElems) : ([] : List AV).length + (((l.map e).drop 0).take l.length).length ≤ maxElems := by rw [mapAll]; exact bnd0 e h
theorem len0 (l : List α) (e : α → AV) : ([] : List AV).length + (l.map e).length = l.length := by simp
theorem len0M (l : List α) (e : α → AV) : ([] : List AV).length + (((l.map e).drop 0).take l.length).length = l.length := by rw [mapAll]; exact len0 l e
theorem app0M (l : List α) (e : α → AV) : [] ++ ((l.map e).drop 0).take l.length = l.map e := by rw [mapAll]; rfl
theorem lenA (l m : List α) : l.length + m.length = (l ++ m).length := by simp
theorem appA (l m : List α) (e : α → AV) : ((l.map e).drop 0).take l.length ++ m.map e = (l ++ m).map e := by rw [mapAll, List.map_append]
theorem appR (l : List α) (e : α → AV) (v : List AV) : ((l.map e).drop 0).take l.length ++ v = l.map e ++ v := by rw [mapAll]
theorem bnd1 (h : l.length + m.length ≤ maxElems) : l.length + (m.map e).length ≤ maxElems := by simpa using h
theorem bnd1M (h : l.length + m.length ≤ maxElems) : l.length + (((m.map e).drop 0).take m.length).length ≤ maxElems := by rw [mapAll]; exact bnd1 e h
theorem len1 (l m : List α) (e : α → AV) : l.length + (m.map e).length = (l ++ m).length := by simp
theorem len1M (l m : List α) (e : α → AV) : l.length + (((m.map e).drop 0).take m.length).length = (l ++ m).length := by rw [mapAll]; exact len1 l m e
theorem app1 (l m : List α) (e : α → AV) : ((l.map e).drop 0).take l.length ++ m.map e = (l ++ m).map e := appA l m e
theorem app1M (l m : List α) (e : α → AV) : ((l.map e).drop 0).take l.length ++ ((m.map e).drop 0).take m.length = (l ++ m).map e := by rw [mapAll m, appA]
end
end Go.Am
