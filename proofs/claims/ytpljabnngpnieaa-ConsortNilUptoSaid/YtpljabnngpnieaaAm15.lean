/-
  The logic AM, part 15: functions that only compute (whatever the state), what may be forgotten, and slices that become immutable.
  Own work. No Go text.
-/
import Derived.Test.YtpljabnngpnieaaAm14
namespace Go.Am
open Go.RowKit

mutual
/-- Nothing of the state stands in a value. -/
def AV.clean : AV → Bool
  | .mp _ _ _ => false
  | .ms _ _ _ => false
  | .mc _ _ _ _ => false
  | .yld _ => false
  | .sl _ l => cleanL l
  | .agg l => cleanL l
  | .tup l => cleanL l
  | .fn _ l => cleanL l
  | .ip l => cleanL l
  | _ => true
def cleanL : List AV → Bool
  | [] => true
  | x :: r => x.clean && cleanL r
end

theorem cleanL_iff {l : List AV} : cleanL l = true ↔ ∀ x ∈ l, x.clean = true := by
  induction l with
  | nil => simp [cleanL]
  | cons x r ih => simp [cleanL, ih]

theorem clean_cells {x : AV} (h : x.clean = true) : ∀ y ∈ x.cells, y.clean = true := by
  intro y hy
  cases x <;> simp only [AV.cells, List.mem_singleton] at hy <;> first
    | (subst hy; exact h)
    | (simp only [AV.clean] at h; exact cleanL_iff.1 h y hy)

theorem V.clean {G G' : Ghost} (hi : ∀ b o v, G.imm b o = some v → G'.imm b o = some v) {x : AV} {v : Value} (h : V G x v) : x.clean = true → V G' x v := by
  induction h with
  | any v => exact fun _ => .any v
  | bool b => exact fun _ => .bool b
  | int k n => exact fun _ => .int k n
  | str s => exact fun _ => .str s
  | nilp => exact fun _ => .nilp
  | nilf => exact fun _ => .nilf
  | slnil full base cap hf hb => exact fun _ => .slnil full base cap hf hb
  | sl full elems b off esz cap val hcap hfull hesz hsc himm _ ih =>
    intro hc
    refine .sl full elems b off esz cap val hcap hfull hesz hsc (fun k hk => hi _ _ _ (himm k hk)) fun k x hx => ih k x hx ?_
    have hm := List.mem_of_getElem? hx
    rw [flat, List.mem_flatMap] at hm
    obtain ⟨y, hy, hx'⟩ := hm
    simp only [AV.clean] at hc
    exact clean_cells (cleanL_iff.1 hc y hy) x hx'
  | ip cells b off val himm _ ih =>
    intro hc
    simp only [AV.clean] at hc
    exact .ip cells b off val (fun k hk => hi _ _ _ (himm k hk)) fun k x hx => ih k x hx (cleanL_iff.1 hc x (List.mem_of_getElem? hx))
  | mp id el off r h => intro hc; cases hc
  | ms id start len cap r addr h hle hin ha => intro hc; cases hc
  | msnil id start cap base h => intro hc; cases hc
  | mc id start len cap r addr h hle hin ha => intro hc; cases hc
  | mcnil id start base => intro hc; cases hc
  | fn f caps vs hlen _ ih =>
    intro hc
    simp only [AV.clean] at hc
    exact .fn f caps vs hlen fun i x y hx hy => ih i x y hx hy (cleanL_iff.1 hc x (List.mem_of_getElem? hx))
  | yld id r h => intro hc; cases hc
  | agg cs vs hlen _ ih =>
    intro hc
    simp only [AV.clean] at hc
    exact .agg cs vs hlen fun i x y hx hy => ih i x y hx hy (cleanL_iff.1 hc x (List.mem_of_getElem? hx))
  | tup cs vs hlen _ ih =>
    intro hc
    simp only [AV.clean] at hc
    exact .tup cs vs hlen fun i x y hx hy => ih i x y hx hy (cleanL_iff.1 hc x (List.mem_of_getElem? hx))

section
variable {P : Program} {G : Ghost} {s : St} {w : World}

def St.nil : St := ⟨[], 0⟩

/-- A function that computes: its result, whatever the state, which stands. -/
def APure (P : Program) (f : FuncId) (args : List AV) (x : AV) : Prop := ∀ s, ACalls P f args s fun y s' => y = x ∧ s' = s

theorem apure {f : FuncId} {args : List AV} {x : AV} (ha : cleanL args = true) (hx : x.clean = true) (h : ACalls P f args St.nil fun y _ => y = x) : APure P f args x := fun s G w vs hs hv => by
  let G0 : Ghost := { imm := G.imm, own := fun _ => none }
  have hs0 : Sim G0 St.nil w := ⟨hs.imm, fun id b hg => by simp [St.nil, egetN, egetC] at hg, fun id _ b _ _ _ hg => by simp [St.nil, egetN, egetC] at hg, fun id b _ _ hg => by simp [St.nil, egetN, egetC] at hg, fun _ _ => rfl, fun id b hg => by simp [St.nil, egetN, egetC] at hg⟩
  have hv0 : VL G0 args vs := ⟨hv.1, fun i p q hp hq => V.clean (G := G) (G' := G0) (fun b o u (h : G.imm b o = some u) => (h : G0.imm b o = some u)) (hv.2 i p q hp hq) (cleanL_iff.1 ha p (List.mem_of_getElem? hp))⟩
  refine (h G0 w vs hs0 hv0).mono ?_
  rintro e w' ⟨v, G', y, s', rfl, hV, hS, hE, rfl⟩
  let G1 : Ghost := { imm := G'.imm, own := G.own }
  have hle : GLe G G1 := ⟨fun b o v hi => hE.le.imm b o v hi, fun _ _ h => h⟩
  have no0 : ∀ b, ¬ Owned G0 St.nil b := fun b ⟨id, blk, r, hg, _⟩ => by simp [St.nil, egetN, egetC] at hg
  refine ⟨v, G1, y, s, rfl, V.clean (G := G') (G' := G1) (fun b o u (h : G'.imm b o = some u) => (h : G1.imm b o = some u)) hV hx, ⟨hS.imm, fun id b hg => ?_, hs.apart, fun id b r o hg ho => ?_, hs.fresh, hs.lt⟩,
    ⟨hle, hE.os, hE.tape, hE.output, hE.size, fun b hb _ => hE.keep b hb (no0 b), fun b o v hi => ?_, fun _ _ h => .inl h, fun id b hg => .inl ⟨b, hg⟩, Nat.le_refl _, fun _ h => h, fun _ _ h => h⟩, rfl, rfl⟩
  · rcases hs.heap id b hg with ⟨r, o, e1, e2, e3⟩ | e
    · exact .inl ⟨r, o, e1, by rw [hE.keep _ (hs.own_lt hg e1) (no0 _)]; exact e2, e3.mono hle⟩
    · exact .inr e
  · cases hi : G1.imm r.block o with
    | none => rfl
    | some u =>
      rcases hE.immNew _ _ _ hi with h | h | h
      · rw [show G.imm r.block o = none from hs.clear id b r o hg ho] at h; cases h
      · have := hs.own_lt hg ho; omega
      · exact absurd h (no0 _)
  · rcases hE.immNew _ _ _ hi with h | h | h
    · exact .inl h
    · exact .inr (.inl h)
    · exact absurd h (no0 _)

/-- Values and states that may be seen otherwise. -/
def Turn (s : St) (x : AV) (s' : St) (x' : AV) : Prop := ∀ G w v, Sim G s w → V G x v → ∃ G', Sim G' s' w ∧ Ext G s w G' s' w ∧ V G' x' v

theorem ACalls.turn {f : FuncId} {args : List AV} {Q : AV → St → Prop} (h : ACalls P f args s fun x s' => ∃ s2 x2, Turn s' x s2 x2 ∧ Q x2 s2) : ACalls P f args s Q := fun G w vs hs hv => by
  refine (h G w vs hs hv).mono ?_
  rintro e w' ⟨v, G', x, s', rfl, hV, hS, hE, s2, x2, ht, hq⟩
  obtain ⟨G2, h1, h2, h3⟩ := ht G' w' v hS hV
  exact ⟨v, G2, x2, s2, rfl, h3, h1, hE.trans hs h2, hq⟩

theorem Turn.refl (s : St) (x : AV) : Turn s x s x := fun G w v hs hv => ⟨G, hs, .refl _ _ _, hv⟩

/-- The elements of a slice of the state, when its block becomes immutable. -/
theorem freeze_ms (hs : Sim G s w) {id start len esz : Nat} {elems : List AV} (hg : eget s.heap id = some (.cells esz elems)) (hl : start + len ≤ elems.length) :
    ∃ G', Sim G' ⟨edel s.heap id, s.cnt⟩ w ∧ Ext G s w G' ⟨edel s.heap id, s.cnt⟩ w ∧ ∀ start len v, start + len ≤ elems.length → V G (.ms id start len) v → V G' (.sl false ((elems.drop start).take len)) v := by
  rcases hs.heap id _ hg with ⟨r, o, e1, e2, e3⟩ | ⟨e1, sz, _, e2⟩
  case inr =>
    cases e2
    have hd : ∀ i b, eget (edel s.heap id) i = some b → eget s.heap i = some b := fun i b hi => by
      rw [get_del] at hi
      split at hi
      · cases hi
      · exact hi
    refine ⟨G, hs.drop hd (Nat.le_refl _), Ext.drop hd (Nat.le_refl _) fun i hi => ?_, fun start len v hl hv => ?_⟩
    · rw [get_del, if_neg (fun e => by subst e; rw [hg] at hi; cases hi)]; exact hi
    · cases hv with
      | ms _ _ _ cap r' addr ho hle hin2 haddr => rw [e1] at ho; cases ho
      | msnil _ _ cap base hc =>
        simp only [List.take_zero]
        exact .slnil _ _ _ (fun e => by cases e) (fun _ => hc)
  cases e3 with
  | cells _ _ cs ty hcs hesz h0 hel hsc hin hV =>
    subst hesz
    obtain ⟨q1, q2⟩ := hs.freeze hg e1 e2
    refine ⟨_, q1, q2, fun start len v hl hv => ?_⟩
    cases hv with
    | msnil _ _ cap base hc =>
      simp only [List.take_zero]
      exact .slnil _ _ _ (fun e => by cases e) (fun _ => hc)
    | ms _ _ _ cap r' addr ho hle hin2 haddr =>
      rw [e1] at ho; cases ho
      have hlen : ((elems.drop start).take len).length = len := by simp; omega
      have hmem : ∀ y ∈ (elems.drop start).take len, y ∈ elems := fun y hy => List.mem_of_mem_drop (List.mem_of_mem_take hy)
      by_cases hn : len = 0
      · subst hn
        simp only [List.take_zero]
        exact .slnil _ _ _ (fun e => by cases e) (fun e => by cases e)
      · rw [haddr (by omega)]
        have key := V.sl (G := G.addImm r.block cs) false ((elems.drop start).take len) r.block (r.base + start * r.esz) r.esz cap (fun k => cs.getD (r.base + start * r.esz + k) undef) (by omega) (by simp)
          (fun y hy => hel y (hmem y hy)) (fun y hy => hsc y (by
            rw [flat, List.mem_flatMap] at hy ⊢
            obtain ⟨z, hz, hy⟩ := hy
            exact ⟨z, hmem z hz, hy⟩)) (fun k hk => by
            rw [hlen] at hk
            have h1 : (start + len) * r.esz ≤ elems.length * r.esz := Nat.mul_le_mul_right _ hl
            rw [Nat.add_mul] at h1
            have hlt : r.base + start * r.esz + k < cs.size := by omega
            simp [Ghost.addImm, hlt]) (fun k y hy => by
            have hk := flat_take (n := start + len) (l := start) hel h0 (k := k) (x := y) (by
              rw [show (elems.take (start + len)).drop start = (elems.drop start).take len from by rw [List.drop_take]; congr 1; omega]
              exact hy)
            obtain ⟨u, p1, p2⟩ := hV _ y hk
            rw [Array.getD_eq_getD_getElem?, Nat.add_assoc, p1]
            exact p2.mono q2.le)
        rw [hlen] at key
        exact key

def frz0 : AV → St → AV × St
  | .ms id start len, s => match eget s.heap id with
    | some (.cells _ elems) => if start + len ≤ elems.length then (.sl false ((elems.drop start).take len), ⟨edel s.heap id, s.cnt⟩) else (.ms id start len, s)
    | _ => (.ms id start len, s)
  | x, s => (x, s)

def frzL (f : AV → St → AV × St) : List AV → St → List AV × St
  | [], s => ([], s)
  | x :: r, s => ((f x s).1 :: (frzL f r (f x s).2).1, (frzL f r (f x s).2).2)

def frz1 : AV → St → AV × St
  | .agg l, s => (.agg (frzL frz0 l s).1, (frzL frz0 l s).2)
  | x, s => frz0 x s

/-- The slices in a result become immutable. -/
def frz : AV → St → AV × St
  | .tup l, s => (.tup (frzL frz1 l s).1, (frzL frz1 l s).2)
  | x, s => frz1 x s

theorem frz0_turn (s : St) (x : AV) : Turn s x (frz0 x s).2 (frz0 x s).1 := by
  unfold frz0
  split
  · rename_i id start len
    split
    · rename_i esz elems hg
      split
      · rename_i hl
        intro G w v hs hv
        obtain ⟨G', h1, h2, h3⟩ := freeze_ms hs hg hl
        exact ⟨G', h1, h2, h3 _ _ v hl hv⟩
      · exact .refl _ _
    · exact .refl _ _
  · exact .refl _ _

theorem frzL_turn {f : AV → St → AV × St} (hf : ∀ s x, Turn s x (f x s).2 (f x s).1) : ∀ (l : List AV) (s : St) (G : Ghost) (w : World) (vs : List Value), Sim G s w → l.length = vs.length →
    (∀ (i : Nat) x y, l[i]? = some x → vs[i]? = some y → V G x y) → ∃ G', Sim G' (frzL f l s).2 w ∧ Ext G s w G' (frzL f l s).2 w ∧ (frzL f l s).1.length = vs.length ∧
      ∀ (i : Nat) x y, (frzL f l s).1[i]? = some x → vs[i]? = some y → V G' x y
  | [], s, G, w, vs, hs, hl, hV => ⟨G, hs, .refl _ _ _, hl, by simp [frzL]⟩
  | x :: r, s, G, w, vs, hs, hl, hV => by
    cases vs with
    | nil => simp at hl
    | cons v vs =>
      obtain ⟨G1, a1, a2, a3⟩ := hf s x G w v hs (hV 0 x v rfl rfl)
      obtain ⟨G2, b1, b2, b3, b4⟩ := frzL_turn hf r _ G1 w vs a1 (by simpa using hl) fun i p q hp hq => (hV (i + 1) p q (by simpa using hp) (by simpa using hq)).mono a2.le
      refine ⟨G2, b1, a2.trans hs b2, by simpa [frzL] using b3, fun i p q hp hq => ?_⟩
      cases i with
      | zero => simp [frzL] at hp hq; subst hp; subst hq; exact a3.mono b2.le
      | succ i => exact b4 i p q (by simpa [frzL] using hp) (by simpa using hq)

theorem frz1_turn (s : St) (x : AV) : Turn s x (frz1 x s).2 (frz1 x s).1 := by
  unfold frz1
  split
  · rename_i l
    intro G w v hs hv
    cases hv with
    | agg _ vs hlen hh =>
      obtain ⟨G', a, b, c, d⟩ := frzL_turn frz0_turn l s G w vs.toList hs (by simpa using hlen) fun i p q hp hq => hh i p q hp (by simpa using hq)
      exact ⟨G', a, b, .agg _ vs (by simpa using c) fun i p q hp hq => d i p q hp (by simpa using hq)⟩
  · exact frz0_turn s _

theorem frz_turn (s : St) (x : AV) : Turn s x (frz x s).2 (frz x s).1 := by
  unfold frz
  split
  · rename_i l
    intro G w v hs hv
    cases hv with
    | tup _ vs hlen hh =>
      obtain ⟨G', a, b, c, d⟩ := frzL_turn frz1_turn l s G w vs.toList hs (by simpa using hlen) fun i p q hp hq => hh i p q hp (by simpa using hq)
      exact ⟨G', a, b, .tup _ vs (by simpa using c) fun i p q hp hq => d i p q hp (by simpa using hq)⟩
  · exact frz1_turn s _

theorem ACalls.frz {f : FuncId} {args : List AV} {Q : AV → St → Prop} (h : ACalls P f args s fun x s' => Q (frz x s').1 (frz x s').2) : ACalls P f args s Q :=
  ACalls.turn (h.mono fun x s' hq => ⟨_, _, frz_turn s' x, hq⟩)

/-- A computing function, whose result's slices are its own. -/
theorem apure_frz {f : FuncId} {args : List AV} {x : AV} (ha : cleanL args = true) (hx : x.clean = true) (h : ACalls P f args St.nil fun y s => (Go.Am.frz y s).1 = x) : APure P f args x :=
  apure ha hx (ACalls.frz h)

end
end Go.Am
