/-
  The logic AM, part 2: how an abstract state follows a world: a new block, a block that becomes immutable, a store, a draw, a block that is forgotten.
  Own work. No Go text.
-/
import Derived.Test.YtpljabnngpnieaaAm1
namespace Go.Am
open Go.RowKit

theorem cell_lt {w : World} {b o : Nat} {v : Value} (h : w.cell? ⟨b, o, none⟩ = some v) : b < w.heap.size := by
  unfold World.cell? at h
  split at h
  · rename_i hb; exact (Array.getElem?_eq_some_iff.1 hb).1
  · cases h

theorem Sim.imm_lt {G : Ghost} {s : St} {w : World} (h : Sim G s w) {b o : Nat} {v : Value} (hi : G.imm b o = some v) : b < w.heap.size := cell_lt (h.imm _ _ _ hi)

theorem Sim.own_lt {G : Ghost} {s : St} {w : World} (h : Sim G s w) {id : Nat} {blk : Blk} {r : Reg} (hg : eget s.heap id = some blk) (ho : G.own id = some r) : r.block < w.heap.size := by
  obtain ⟨o, e2, _⟩ := h.at hg ho
  exact (Array.getElem?_eq_some_iff.1 e2).1

/-- What is made of a world when a block is added. -/
theorem cell_push {w : World} {o : Obj} {b i : Nat} (hb : b < w.heap.size) : (w.alloc o).cell? ⟨b, i, none⟩ = w.cell? ⟨b, i, none⟩ := World.cell?_alloc_lt w o _ hb

def Ghost.put (G : Ghost) (id : Nat) (r : Reg) : Ghost := { imm := G.imm, own := fun i => if i = id then some r else G.own i }

theorem GLe.put {G : Ghost} {id : Nat} {r : Reg} (h : G.own id = none) : GLe G (G.put id r) :=
  ⟨fun _ _ _ h => h, fun i r' hi => by
    simp only [Ghost.put]
    split
    · subst_vars; rw [h] at hi; cases hi
    · exact hi⟩

/-- A new block that holds what the abstract block says, of whatever kind. -/
theorem Sim.put {G : Ghost} {s : St} {w : World} (h : Sim G s w) {o : Obj} {blk : Blk} {r : Reg} (hr : r.block = w.heap.size) (hh : Holds (G.put s.cnt r) r blk o) :
    Sim (G.put s.cnt r) ⟨(s.cnt, blk) :: s.heap, s.cnt + 1⟩ (w.alloc o) ∧ Ext G s w (G.put s.cnt r) ⟨(s.cnt, blk) :: s.heap, s.cnt + 1⟩ (w.alloc o) := by
  have hle : GLe G (G.put s.cnt r) := .put (h.fresh _ (Nat.le_refl _))
  have old : ∀ id b, eget s.heap id = some b → id ≠ s.cnt := fun id b hg e => by
    have := h.lt id b hg
    omega
  have gold : ∀ id b, eget ((s.cnt, blk) :: s.heap) id = some b → (id = s.cnt ∧ b = blk) ∨ (id ≠ s.cnt ∧ eget s.heap id = some b) := fun id b hg => by
    simp only [egetN, egetC] at hg
    split at hg
    · cases hg; exact .inl ⟨by omega, rfl⟩
    · exact .inr ⟨by omega, hg⟩
  have ownNe : ∀ id, id ≠ s.cnt → (G.put s.cnt r).own id = G.own id := fun id hne => by simp [Ghost.put, hne]
  have ownEq : (G.put s.cnt r).own s.cnt = some r := by simp [Ghost.put]
  refine ⟨⟨?_, ?_, ?_, ?_, ?_, ?_⟩, ⟨hle, rfl, rfl, rfl, by simp, ?_, ?_, ?_, ?_, by simp, fun id hg => by simp only [egetN, egetC]; rw [if_neg (fun e => old id _ hg e.symm)]; exact hg, fun id hl ho => by rw [ownNe id (by omega)]; exact ho⟩⟩
  · intro b i v hi
    have hb := h.imm_lt hi
    rw [cell_push hb]; exact h.imm b i v hi
  · intro id b hg
    rcases gold id b hg with ⟨rfl, rfl⟩ | ⟨hne, hg⟩
    · exact .inl ⟨r, o, ownEq, by rw [hr]; show (w.heap.push o)[w.heap.size]? = some o; simp, hh⟩
    · rcases h.heap id b hg with ⟨r', o', e1, e2, e3⟩ | ⟨e1, e2⟩
      · have hlt := h.own_lt hg e1
        exact .inl ⟨r', o', by rw [ownNe id hne]; exact e1, by rw [Below.heap_alloc _ _ _ hlt]; exact e2, e3.mono hle⟩
      · exact .inr ⟨by rw [ownNe id hne]; exact e1, e2⟩
  · intro id id' b b' r1 r2 h1 h2 o1 o2 hne
    rcases gold id b h1 with ⟨rfl, rfl⟩ | ⟨n1, g1⟩ <;> rcases gold id' b' h2 with ⟨rfl, rfl⟩ | ⟨n2, g2⟩
    · exact absurd rfl hne
    · rw [ownEq] at o1; cases o1
      rw [ownNe _ n2] at o2
      have := h.own_lt g2 o2
      omega
    · rw [ownEq] at o2; cases o2
      rw [ownNe _ n1] at o1
      have := h.own_lt g1 o1
      omega
    · rw [ownNe _ n1] at o1; rw [ownNe _ n2] at o2
      exact h.apart id id' b b' r1 r2 g1 g2 o1 o2 hne
  · intro id b r1 i hg ho
    rcases gold id b hg with ⟨rfl, rfl⟩ | ⟨n1, g1⟩
    · rw [ownEq] at ho; cases ho
      cases hi : G.imm r.block i with
      | none => exact hi
      | some v => have := h.imm_lt hi; omega
    · rw [ownNe _ n1] at ho
      exact h.clear id b r1 i g1 ho
  · intro id hid
    rw [ownNe id (by simp at hid; omega)]
    exact h.fresh id (by simp at hid; omega)
  · intro id b hg
    show id < s.cnt + 1
    rcases gold id b hg with ⟨rfl, rfl⟩ | ⟨hne, hg⟩
    · omega
    · have := h.lt id b hg; omega
  · intro b hb _; exact Below.heap_alloc _ _ _ hb
  · intro b i v hi; exact .inl hi
  · intro id r' hi
    simp only [Ghost.put] at hi
    split at hi
    · cases hi; exact .inr (.inl (by omega))
    · exact .inl hi
  · intro id b hg
    rcases gold id b hg with ⟨rfl, rfl⟩ | ⟨_, g⟩
    · exact .inr (Nat.le_refl _)
    · exact .inl ⟨_, g⟩

/-- Less may be said. -/
theorem Sim.drop {G : Ghost} {s s' : St} {w : World} (h : Sim G s w) (hh : ∀ id b, eget s'.heap id = some b → eget s.heap id = some b) (hc : s.cnt ≤ s'.cnt) : Sim G s' w :=
  ⟨h.imm, fun id b hg => h.heap id b (hh id b hg), fun id id' b b' r r' h1 h2 => h.apart id id' b b' r r' (hh _ _ h1) (hh _ _ h2), fun id b r o hg => h.clear id b r o (hh _ _ hg), fun id hid => h.fresh id (by omega), fun id b hg => Nat.lt_of_lt_of_le (h.lt id b (hh id b hg)) hc⟩

theorem Ext.drop {G : Ghost} {s s' : St} {w : World} (hh : ∀ id b, eget s'.heap id = some b → eget s.heap id = some b) (hc : s.cnt ≤ s'.cnt)
    (hd : ∀ id, eget s.heap id = some .dfr → eget s'.heap id = some .dfr) : Ext G s w G s' w :=
  { Ext.refl G s w with ids := fun id b hg => .inl ⟨b, hh id b hg⟩, cnt := hc, dfr := hd }

/-- A draw turns nothing. -/
theorem Sim.drew {G : Ghost} {s : St} {w : World} (h : Sim G s w) : Sim G s w.drew := ⟨h.imm, h.heap, h.apart, h.clear, h.fresh, h.lt⟩
theorem Ext.drew (G : Ghost) (s : St) (w : World) : Ext G s w G s w.drew := { Ext.refl G s w with keep := fun _ _ _ => rfl, size := Nat.le_refl _ }

/-- A new block whose cells are immutable from now on. -/
def Ghost.addImm (G : Ghost) (b : Nat) (cs : Array Value) : Ghost := { imm := fun b' o => if b' = b then cs[o]? else G.imm b' o, own := G.own }

theorem GLe.addImm {G : Ghost} {b : Nat} {cs : Array Value} (h : ∀ o v, G.imm b o = some v → cs[o]? = some v) : GLe G (G.addImm b cs) :=
  ⟨fun b' o v hi => by
    simp only [Ghost.addImm]
    split
    · subst_vars; exact h o v hi
    · exact hi, fun _ _ h => h⟩

theorem Sim.newImm {G : Ghost} {s : St} {w : World} (h : Sim G s w) (cs : Array Value) (t : TypeId) :
    Sim (G.addImm w.heap.size cs) s (w.alloc (.cells cs t)) ∧ Ext G s w (G.addImm w.heap.size cs) s (w.alloc (.cells cs t)) := by
  have hn : ∀ o v, G.imm w.heap.size o = some v → cs[o]? = some v := fun o v hi => by have := h.imm_lt hi; omega
  have hle : GLe G (G.addImm w.heap.size cs) := .addImm hn
  refine ⟨⟨?_, ?_, ?_, ?_, ?_, h.lt⟩, ⟨hle, rfl, rfl, rfl, by simp, ?_, ?_, ?_, ?_, Nat.le_refl _, fun _ h => h, fun _ _ h => h⟩⟩
  · intro b o v hi
    simp only [Ghost.addImm] at hi
    split at hi
    · subst_vars; rw [World.cell?_alloc_new]; exact hi
    · have hb := h.imm_lt hi
      rw [cell_push hb]; exact h.imm b o v hi
  · intro id b hg
    rcases h.heap id b hg with ⟨r', o', e1, e2, e3⟩ | e
    · have hlt := h.own_lt hg e1
      exact .inl ⟨r', o', e1, by rw [Below.heap_alloc _ _ _ hlt]; exact e2, e3.mono hle⟩
    · exact .inr e
  · exact h.apart
  · intro id b r o hg ho
    have hlt := h.own_lt hg ho
    simp only [Ghost.addImm]
    split
    · omega
    · exact h.clear id b r o hg ho
  · exact h.fresh
  · intro b hb _; exact Below.heap_alloc _ _ _ hb
  · intro b o v hi
    simp only [Ghost.addImm] at hi
    split at hi
    · exact .inr (.inl (by omega))
    · exact .inl hi
  · intro id r hi; exact .inl hi
  · intro id b hg; exact .inl ⟨b, hg⟩

/-- A block of the state that becomes immutable: it is no more in the state. -/
theorem Sim.freeze {G : Ghost} {s : St} {w : World} (h : Sim G s w) {id esz : Nat} {elems : List AV} {r : Reg} {cs : Array Value} {e : TypeId} (hg : eget s.heap id = some (.cells esz elems))
    (ho : G.own id = some r) (hw : w.heap[r.block]? = some (.cells cs e (0, 0))) :
    Sim (G.addImm r.block cs) ⟨edel s.heap id, s.cnt⟩ w ∧ Ext G s w (G.addImm r.block cs) ⟨edel s.heap id, s.cnt⟩ w := by
  have hle : GLe G (G.addImm r.block cs) := .addImm fun o v hi => by rw [h.clear id _ r o hg ho] at hi; cases hi
  have gd : ∀ i b, eget (edel s.heap id) i = some b → i ≠ id ∧ eget s.heap i = some b := fun i b hi => by
    rw [get_del] at hi
    split at hi
    · cases hi
    · exact ⟨by omega, hi⟩
  refine ⟨⟨?_, ?_, ?_, ?_, ?_, fun i b hi => h.lt i b (gd i b hi).2⟩, ⟨hle, rfl, rfl, rfl, Nat.le_refl _, fun _ _ _ => rfl, ?_, ?_, ?_, Nat.le_refl _, fun i hi => by rw [get_del, if_neg (fun e => by subst e; rw [hg] at hi; cases hi)]; exact hi, fun _ _ h => h⟩⟩
  · intro b o v hi
    simp only [Ghost.addImm] at hi
    split at hi
    · subst_vars; simp [World.cell?, hw, hi]
    · exact h.imm b o v hi
  · intro i b hi
    rcases h.heap i b (gd i b hi).2 with ⟨r', o', e1, e2, e3⟩ | e
    · exact .inl ⟨r', o', e1, e2, e3.mono hle⟩
    · exact .inr e
  · intro i i' b b' r1 r2 h1 h2; exact h.apart i i' b b' r1 r2 (gd _ _ h1).2 (gd _ _ h2).2
  · intro i b r1 o hi ho'
    simp only [Ghost.addImm]
    split
    · rename_i hb
      exact absurd hb (h.apart i id b _ r1 r (gd i b hi).2 hg ho' ho (gd i b hi).1)
    · exact h.clear i b r1 o (gd i b hi).2 ho'
  · exact h.fresh
  · intro b o v hi
    simp only [Ghost.addImm] at hi
    split at hi
    · exact .inr (.inr ⟨id, _, r, hg, ho, by omega⟩)
    · exact .inl hi
  · intro i r' hi; exact .inl hi
  · intro i b hi; exact .inl ⟨b, (gd i b hi).2⟩

/-- One block of the state holds something else now. -/
theorem Sim.turn {G : Ghost} {s : St} {w w' : World} (h : Sim G s w) {id : Nat} {blk blk' : Blk} {r : Reg} {o : Obj} (hg : eget s.heap id = some blk) (ho : G.own id = some r)
    (hs : w'.heap.size = w.heap.size) (hos : w'.os = w.os) (ht : w'.tape = w.tape) (hout : w'.output = w.output)
    (hk : ∀ b, b ≠ r.block → w'.heap[b]? = w.heap[b]?) (hw : w'.heap[r.block]? = some o) (hh : Holds G r blk' o) (hnd : blk ≠ .dfr) :
    Sim G ⟨eset s.heap id blk', s.cnt⟩ w' ∧ Ext G s w G ⟨eset s.heap id blk', s.cnt⟩ w' := by
  have gs : ∀ i b, eget (eset s.heap id blk') i = some b → (i = id ∧ b = blk') ∨ (i ≠ id ∧ eget s.heap i = some b) := fun i b hi => by
    rw [get_set] at hi
    split at hi
    · cases hi; exact .inl ⟨by omega, rfl⟩
    · exact .inr ⟨by omega, hi⟩
  have gs' : ∀ i b, eget (eset s.heap id blk') i = some b → ∃ b0, eget s.heap i = some b0 := fun i b hi => by
    rcases gs i b hi with ⟨rfl, _⟩ | ⟨_, hb⟩
    · exact ⟨_, hg⟩
    · exact ⟨_, hb⟩
  refine ⟨⟨?_, ?_, ?_, ?_, ?_, fun i b hi => let ⟨b0, hb0⟩ := gs' i b hi; h.lt i b0 hb0⟩, ⟨.refl G, hos, ht, hout, by omega, ?_, ?_, ?_, ?_, Nat.le_refl _, fun i hi => by rw [get_set, if_neg (fun e => by subst e; rw [hg] at hi; cases hi; exact hnd rfl)]; exact hi, fun _ _ h => h⟩⟩
  · intro b i v hi
    have hne : b ≠ r.block := fun e => by subst e; rw [h.clear id _ r i hg ho] at hi; cases hi
    have := h.imm b i v hi
    rwa [World.cell?_of_block (w := w) (hk b hne)]
  · intro i b hi
    rcases gs i b hi with ⟨rfl, rfl⟩ | ⟨hne, hb⟩
    · exact .inl ⟨r, o, ho, hw, hh⟩
    · rcases h.heap i b hb with ⟨r', o', e1, e2, e3⟩ | e
      · exact .inl ⟨r', o', e1, by rw [hk _ (h.apart i id b _ r' r hb hg e1 ho hne)]; exact e2, e3⟩
      · exact .inr e
  · intro i i' b b' r1 r2 h1 h2 o1 o2 hne
    obtain ⟨b1, g1⟩ := gs' i b h1
    obtain ⟨b2, g2⟩ := gs' i' b' h2
    exact h.apart i i' b1 b2 r1 r2 g1 g2 o1 o2 hne
  · intro i b r1 j hi ho'
    obtain ⟨b1, g1⟩ := gs' i b hi
    exact h.clear i b1 r1 j g1 ho'
  · exact h.fresh
  · intro b hb hn
    exact hk b fun e => hn ⟨id, blk, r, hg, ho, e.symm⟩
  · intro b o v hi; exact .inl hi
  · intro i r' hi; exact .inl hi
  · intro i b hi; exact .inl (gs' i b hi)

/-! ### Flat lists -/

theorem flat_nil : flat [] = [] := rfl
theorem flat_cons (x : AV) (l : List AV) : flat (x :: l) = x.cells ++ flat l := by simp [flat]
theorem flat_append (a b : List AV) : flat (a ++ b) = flat a ++ flat b := by simp [flat]

theorem flat_length {esz : Nat} {l : List AV} (h : ∀ e ∈ l, e.cells.length = esz) : (flat l).length = l.length * esz := by
  induction l with
  | nil => simp [flat]
  | cons x r ih =>
    rw [flat_cons, List.length_append, h x (by simp), ih fun e he => h e (by simp [he]), List.length_cons, Nat.add_mul]
    omega

theorem flat_at {esz : Nat} {l : List AV} (h : ∀ e ∈ l, e.cells.length = esz) {i : Nat} {e : AV} (he : l[i]? = some e) (j : Nat) (x : AV) (hx : e.cells[j]? = some x) :
    (flat l)[i * esz + j]? = some x := by
  induction l generalizing i with
  | nil => simp at he
  | cons y r ih =>
    rw [flat_cons]
    cases i with
    | zero =>
      simp at he
      subst he
      have : j < y.cells.length := (List.getElem?_eq_some_iff.1 hx).1
      rw [Nat.zero_mul, Nat.zero_add, List.getElem?_append_left this]; exact hx
    | succ i =>
      have hy := h y (by simp)
      rw [List.getElem?_append_right (by rw [hy, Nat.add_mul]; omega), hy]
      have := ih (fun e he => h e (by simp [he])) (i := i) (by simpa using he)
      rw [show (i + 1) * esz + j - esz = i * esz + j from by rw [Nat.add_mul]; omega]
      exact this

theorem flat_inv {esz : Nat} {l : List AV} (h : ∀ e ∈ l, e.cells.length = esz) (h0 : 0 < esz) {k : Nat} {x : AV} (hx : (flat l)[k]? = some x) :
    ∃ e, l[k / esz]? = some e ∧ e.cells[k % esz]? = some x := by
  have hk : k < l.length * esz := by rw [← flat_length h]; exact (List.getElem?_eq_some_iff.1 hx).1
  have hd : k / esz < l.length := Nat.div_lt_of_lt_mul (by rw [Nat.mul_comm]; exact hk)
  have he : l[k / esz]? = some l[k / esz] := List.getElem?_eq_getElem hd
  have hm : k % esz < (l[k / esz]).cells.length := by rw [h _ (List.getElem_mem hd)]; exact Nat.mod_lt _ h0
  have h2 := flat_at h he (k % esz) _ (List.getElem?_eq_getElem hm)
  rw [Nat.mul_comm, Nat.div_add_mod] at h2
  rw [hx] at h2
  exact ⟨_, he, by rw [List.getElem?_eq_getElem hm, h2]⟩

theorem VL.cells {G : Ghost} {x : AV} {v : Value} (h : V G x v) (hx : x ≠ .any) : VL G x.cells v.cells := by
  have one : ∀ {x : AV} {v : Value}, V G x v → x.cells = [x] → v.cells = #[v] → VL G x.cells v.cells := fun {x v} h hx hv => by
    rw [hx, hv]
    refine ⟨rfl, fun i a b ha hb => ?_⟩
    cases i with
    | zero => simp at ha hb; subst ha; subst hb; exact h
    | succ i => simp at ha
  cases h with
  | any => exact absurd rfl hx
  | agg cs vs hlen h => exact ⟨hlen, h⟩
  | bool b => exact one (.bool b) rfl rfl
  | int k n => exact one (.int k n) rfl rfl
  | str s => exact one (.str s) rfl rfl
  | nilp => exact one .nilp rfl rfl
  | nilf => exact one .nilf rfl rfl
  | slnil full base cap hf hb => exact one (.slnil full base cap hf hb) rfl rfl
  | sl full elems b off esz cap val hcap hfull hesz hsc himm hV => exact one (.sl full elems b off esz cap val hcap hfull hesz hsc himm hV) rfl rfl
  | ip cells b off val himm hV => exact one (.ip cells b off val himm hV) rfl rfl
  | mp id el off r h => exact one (.mp id el off r h) rfl rfl
  | ms id start len cap r addr h hle hin ha => exact one (.ms id start len cap r addr h hle hin ha) rfl rfl
  | msnil id start cap base hc => exact one (.msnil id start cap base hc) rfl rfl
  | mc id start len cap r addr h hle hin ha => exact one (.mc id start len cap r addr h hle hin ha) rfl rfl
  | mcnil id start base => exact one (.mcnil id start base) rfl rfl
  | fn f caps vs hlen h => exact one (.fn f caps vs hlen h) rfl rfl
  | yld id r h => exact one (.yld id r h) rfl rfl
  | tup cs vs hlen h => exact one (.tup cs vs hlen h) rfl rfl

theorem VL.get {G : Ghost} {cs : List AV} {vs : Array Value} (h : VL G cs vs) {k : Nat} {x : AV} (hx : cs[k]? = some x) : ∃ v, vs[k]? = some v ∧ V G x v := by
  have hk : k < vs.size := by rw [← h.1]; exact (List.getElem?_eq_some_iff.1 hx).1
  exact ⟨vs[k], Array.getElem?_eq_getElem hk, h.2 k x _ hx (Array.getElem?_eq_getElem hk)⟩

end Go.Am
