/-
  The logic AM, part 8: operations are carried out as 'aop' says: append, copy, make.
  Own work. No Go text.
-/
import Derived.Test.YtpljabnngpnieaaAm7
namespace Go.Am
open Go.RowKit

section
variable {P : Program} {G : Ghost} {s s' : St} {w : World} {env : Env} {a : Act}

/-- A block of the state goes on under a new name. -/
theorem Sim.move {w' : World} (h : Sim G s w) {id : Nat} {blk blk' : Blk} {r r' : Reg} {o : Obj} (hg : eget s.heap id = some blk) (ho : G.own id = some r) (hb : r'.block = r.block)
    (hs : w'.heap.size = w.heap.size) (hos : w'.os = w.os) (ht : w'.tape = w.tape) (hout : w'.output = w.output)
    (hk : ∀ b, b ≠ r.block → w'.heap[b]? = w.heap[b]?) (hw : w'.heap[r.block]? = some o) (hh : Holds (G.put s.cnt r') r' blk' o) (hnd : blk ≠ .dfr) :
    Sim (G.put s.cnt r') ⟨(s.cnt, blk') :: edel s.heap id, s.cnt + 1⟩ w' ∧ Ext G s w (G.put s.cnt r') ⟨(s.cnt, blk') :: edel s.heap id, s.cnt + 1⟩ w' := by
  have hle : GLe G (G.put s.cnt r') := .put (h.fresh _ (Nat.le_refl _))
  have hne : id ≠ s.cnt := fun e => by rw [h.fresh id (by omega)] at ho; cases ho
  have gold : ∀ i b, eget ((s.cnt, blk') :: edel s.heap id) i = some b → (i = s.cnt ∧ b = blk') ∨ (i ≠ s.cnt ∧ i ≠ id ∧ eget s.heap i = some b) := fun i b hi => by
    simp only [egetN, egetC] at hi
    split at hi
    · cases hi; exact .inl ⟨by omega, rfl⟩
    · rename_i h1
      rw [get_del] at hi
      split at hi
      · cases hi
      · exact .inr ⟨by omega, by omega, hi⟩
  have ownNe : ∀ i, i ≠ s.cnt → (G.put s.cnt r').own i = G.own i := fun i hne => by simp [Ghost.put, hne]
  have ownEq : (G.put s.cnt r').own s.cnt = some r' := by simp [Ghost.put]
  refine ⟨⟨?_, ?_, ?_, ?_, ?_, ?_⟩, ⟨hle, hos, ht, hout, by omega, ?_, ?_, ?_, ?_, by simp, ?_, fun i hl ho' => by rw [ownNe i (by omega)]; exact ho'⟩⟩
  · intro b i v hi
    have hne : b ≠ r.block := fun e => by subst e; have h2 := h.clear id _ r i hg ho; rw [show G.imm r.block i = some v from hi] at h2; cases h2
    have := h.imm b i v hi
    rwa [World.cell?_of_block (w := w) (hk b hne)]
  · intro i b hi
    rcases gold i b hi with ⟨rfl, rfl⟩ | ⟨n1, n2, hb'⟩
    · exact .inl ⟨r', o, ownEq, by rw [hb]; exact hw, hh⟩
    · rcases h.heap i b hb' with ⟨r1, o1, e1, e2, e3⟩ | ⟨e1, e2⟩
      · exact .inl ⟨r1, o1, by rw [ownNe _ n1]; exact e1, by rw [hk _ (h.apart i id b _ r1 r hb' hg e1 ho n2)]; exact e2, e3.mono hle⟩
      · exact .inr ⟨by rw [ownNe _ n1]; exact e1, e2⟩
  · intro i i' b b' r1 r2 h1 h2 o1 o2 hne'
    rcases gold i b h1 with ⟨rfl, rfl⟩ | ⟨n1, m1, g1⟩ <;> rcases gold i' b' h2 with ⟨rfl, rfl⟩ | ⟨n2, m2, g2⟩
    · exact absurd rfl hne'
    · rw [ownEq] at o1; cases o1
      rw [ownNe _ n2] at o2
      rw [hb]; exact h.apart id i' _ b' r r2 hg g2 ho o2 (fun e => m2 e.symm)
    · rw [ownEq] at o2; cases o2
      rw [ownNe _ n1] at o1
      rw [hb]; exact h.apart i id b _ r1 r g1 hg o1 ho m1
    · rw [ownNe _ n1] at o1; rw [ownNe _ n2] at o2
      exact h.apart i i' b b' r1 r2 g1 g2 o1 o2 hne'
  · intro i b r1 j hi ho'
    rcases gold i b hi with ⟨rfl, rfl⟩ | ⟨n1, m1, g1⟩
    · rw [ownEq] at ho'; cases ho'
      rw [hb]; exact h.clear id _ r j hg ho
    · rw [ownNe _ n1] at ho'
      exact h.clear i b r1 j g1 ho'
  · intro i hi
    rw [ownNe i (by simp at hi; omega)]
    exact h.fresh i (by simp at hi; omega)
  · intro i b hi
    show i < s.cnt + 1
    rcases gold i b hi with ⟨rfl, rfl⟩ | ⟨n1, m1, g1⟩
    · omega
    · have := h.lt i b g1; omega
  · intro b hb' hn
    exact hk b fun e => hn ⟨id, blk, r, hg, ho, e.symm⟩
  · intro b o v hi; exact .inl hi
  · intro i r1 hi
    simp only [Ghost.put] at hi
    split at hi
    · cases hi; exact .inr (.inr ⟨id, blk, r, hg, ho, hb.symm⟩)
    · exact .inl hi
  · intro i b hi
    rcases gold i b hi with ⟨rfl, rfl⟩ | ⟨_, _, g⟩
    · exact .inr (Nat.le_refl _)
    · exact .inl ⟨_, g⟩
  · intro i hi
    have h1 : i ≠ s.cnt := fun e => by
      subst e
      have := h.lt s.cnt _ hi
      omega
    have h2 : i ≠ id := fun e => by subst e; rw [hg] at hi; cases hi; exact hnd rfl
    simp only [egetN, egetC]
    rw [if_neg (fun e => h1 e.symm), get_del, if_neg (fun e => h2 e.symm)]
    exact hi

/-- The cells of a list of elements, as an array. -/
theorem VL.append {xs ys : List AV} {vs us : Array Value} (h : VL G xs vs) (k : VL G ys us) : VL G (xs ++ ys) (vs ++ us) := by
  refine ⟨by simp [h.1, k.1], fun i x y hx hy => ?_⟩
  by_cases hi : i < xs.length
  · rw [List.getElem?_append_left hi] at hx
    rw [Array.getElem?_append_left (by rw [← h.1]; exact hi)] at hy
    exact h.2 i x y hx hy
  · rw [List.getElem?_append_right (by omega)] at hx
    rw [Array.getElem?_append_right (by rw [← h.1]; omega), ← h.1] at hy
    exact k.2 _ x y hx hy

/-- What there is of the first elements of a slice. -/
theorem firstCells_run (hs : Sim G s w) {e : TypeId} {x : AV} {xv : Value} (hx : V G x xv) {l : List AV} (hl : elemsOf x s = some l) {sz : Nat} (hsz : sizeT P e = some sz) (hf : fitsV P e x s) :
    (∀ y ∈ l, y.cells.length = sz) ∧ (∀ y ∈ flat l, y.scalar = true) ∧ (Builtin.lenOf xv).run P w = .ok l.length w ∧
    ∀ n, n ≤ l.length → ∃ vs, (∀ w', (∀ a, w'.cell? a = w.cell? a) → (Builtin.firstCells sz n xv).run P w' = .ok vs w') ∧ VL G (flat (l.take n)) vs := by
  have load : ∀ (b o n : Nat) (cs : List AV), There G w b o cs → n ≤ cs.length → ∃ vs, (∀ w', (∀ a, w'.cell? a = w.cell? a) → (loadCells ⟨b, o, none⟩ n).run P w' = .ok vs w') ∧ VL G (cs.take n) vs := by
    intro b o n cs ht hn
    obtain ⟨vs, e1, e2⟩ := ht.loadCells (P := P) hn
    refine ⟨vs, fun w' hw => ?_, e2⟩
    have ht' : There G w' b o cs := fun k x hx => by rw [hw]; exact ht k x hx
    obtain ⟨vs', e1', e2'⟩ := ht'.loadCells (P := P) hn
    have : vs' = vs := by
      have q : ∀ w' : World, (∀ a, w'.cell? a = w.cell? a) → (loadCells ⟨b, o, none⟩ n).run P w' = .ok ((List.range n).map fun j => (w.cell? ⟨b, o + j, none⟩).getD undef).toArray w' := fun w' hw => by
        refine run_loadCells w' _ n _ fun j hj => ?_
        rw [add_at, hw]
        obtain ⟨v, hv, _⟩ := ht j cs[j] (List.getElem?_eq_getElem (by omega))
        simp [hv]
      rw [q w' hw] at e1'; rw [q w fun _ => rfl] at e1
      cases e1; cases e1'; rfl
    rw [e1', this]
  unfold elemsOf at hl
  split at hl
  · rename_i full elems
    cases hl
    obtain ⟨base, cap, rfl, hle, _, hb, hz⟩ := V.sl_inv hx
    rcases hz with rfl | ⟨b, off, esz, val, rfl, hesz, hsc, himm, hV⟩
    · refine ⟨by simp, by simp [flat], by simp [Builtin.lenOf], fun n hn => ⟨#[], fun w' _ => ?_, by simp [flat]; exact ⟨rfl, by simp⟩⟩⟩
      have : n = 0 := by simpa using hn
      subst this
      cases base <;> simp [Builtin.firstCells, loadCells, loadCellsFrom]
    · have hall : ∀ y ∈ l, y.cells.length = sz := fun y hy => by
        have := fits_of (P := P) hf hesz (fun e => by subst e; cases hy)
        rw [hsz] at this; cases this; exact hesz y hy
      refine ⟨hall, hsc, by simp [Builtin.lenOf], fun n hn => ?_⟩
      obtain ⟨vs, e1, e2⟩ := load b off (n * sz) _ (imm_there hs hesz himm hV) (by rw [flat_length hall]; exact Nat.mul_le_mul_right _ hn)
      refine ⟨vs, fun w' hw => by simpa [Builtin.firstCells] using e1 w' hw, ?_⟩
      have : (flat l).take (n * sz) = flat (l.take n) := by
        conv => lhs; rw [← List.take_append_drop n l, flat_append]
        rw [List.take_append_of_le_length (by rw [flat_length (esz := sz) fun y hy => hall y (List.mem_of_mem_take hy)]; simp [Nat.min_eq_left hn])]
        rw [List.take_of_length_le (by rw [flat_length (esz := sz) fun y hy => hall y (List.mem_of_mem_take hy)]; simp [Nat.min_eq_left hn])]
      rwa [this] at e2
  · rename_i id start len
    split at hl
    case h_2 => cases hl
    rename_i esz elems hg
    split at hl
    case isFalse => cases hl
    rename_i hin
    cases hl
    have hf' : sizeT P e = some esz := by simpa [fitsV, hg] using hf
    rw [hsz] at hf'; cases hf'
    cases hx with
    | msnil _ _ cap base hc =>
      subst hc
      rw [List.take_zero]
      refine ⟨by simp, by simp [flat], by simp [Builtin.lenOf], fun n hn => ?_⟩
      obtain rfl : n = 0 := by simpa using hn
      refine ⟨#[], fun w' _ => ?_, by simp [flat]; exact ⟨rfl, by simp⟩⟩
      cases base <;> simp [Builtin.firstCells, loadCells, loadCellsFrom]
    | ms _ _ _ cap r addr ho hle hin2 haddr =>
      obtain ⟨o, e2, e3⟩ := hs.at hg ho
      cases e3 with
      | cells _ _ cs ty hcs hesz h0 hel hsc hin' hV =>
        subst hesz
        have hlen : ((elems.drop start).take len).length = len := by simp; omega
        have hmem : ∀ y ∈ (elems.drop start).take len, y ∈ elems := fun y hy => List.mem_of_mem_drop (List.mem_of_mem_take hy)
        refine ⟨fun y hy => hel y (hmem y hy), fun x hx => hsc x (by
          rw [flat, List.mem_flatMap] at hx ⊢
          obtain ⟨y, hy, hx⟩ := hx
          exact ⟨y, hmem y hy, hx⟩), by simp [Builtin.lenOf]; omega, fun n hn => ?_⟩
        rw [hlen] at hn
        rw [List.take_take, Nat.min_eq_left hn]
        by_cases hn0 : n = 0
        · subst hn0
          exact ⟨#[], fun w' _ => by simp [Builtin.firstCells, loadCells, loadCellsFrom], by simp [flat]; exact ⟨rfl, by simp⟩⟩
        · have ht : There G w r.block (r.base + start * r.esz) (flat (elems.drop start)) := by
            intro k x hx
            have hd : ∀ y ∈ elems.drop start, y.cells.length = r.esz := fun y hy => hel y (List.mem_of_mem_drop hy)
            have hk : (flat elems)[start * r.esz + k]? = some x := by
              have h3 := flat_take (n := elems.length) (l := start) hel h0 (k := k) (x := x) (by rw [List.take_length]; exact hx)
              exact h3
            obtain ⟨v, q1, q2⟩ := hV _ x hk
            exact ⟨v, by simp only [World.cell?, e2]; rw [Nat.add_assoc]; simpa using q1, q2⟩
          have hd : ∀ y ∈ elems.drop start, y.cells.length = r.esz := fun y hy => hel y (List.mem_of_mem_drop hy)
          obtain ⟨vs, q1, q2⟩ := load r.block (r.base + start * r.esz) (n * r.esz) _ ht (by rw [flat_length hd]; exact Nat.mul_le_mul_right _ (by simp; omega))
          refine ⟨vs, fun w' hw => by rw [haddr (by omega)]; simpa [Builtin.firstCells] using q1 w' hw, ?_⟩
          have ht2 : ∀ y ∈ (elems.drop start).take n, y.cells.length = r.esz := fun y hy => hd y (List.mem_of_mem_take hy)
          have hln : ((elems.drop start).take n).length = n := by simp; omega
          have : (flat (elems.drop start)).take (n * r.esz) = flat ((elems.drop start).take n) := by
            conv => lhs; rw [← List.take_append_drop n (elems.drop start), flat_append]
            rw [List.take_append_of_le_length (by rw [flat_length ht2, hln]; exact Nat.le_refl _)]
            rw [List.take_of_length_le (by rw [flat_length ht2, hln]; exact Nat.le_refl _)]
          rwa [this] at q2
  · cases hl

end
end Go.Am
