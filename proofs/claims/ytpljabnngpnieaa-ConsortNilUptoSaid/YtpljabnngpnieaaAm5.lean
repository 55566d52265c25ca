/-
  The logic AM, part 5: operations are carried out as 'aop' says: reading, writing, building.
  Own work. No Go text.
-/
import Derived.Test.YtpljabnngpnieaaAm4
namespace Go.Am
open Go.RowKit

section
variable {P : Program} {G : Ghost} {s s' : St} {w : World}

/-- A computation of the model that gives what an abstract value says. -/
def Did (P : Program) (G : Ghost) (s : St) (w : World) (sem : Sem Value) (x : AV) (s' : St) : Prop :=
  ∃ v G' w', sem.run P w = .ok v w' ∧ V G' x v ∧ Sim G' s' w' ∧ Ext G s w G' s' w'

theorem did_pure (hs : Sim G s w) {sem : Sem Value} {x : AV} {v : Value} (hr : sem.run P w = .ok v w) (hv : V G x v) : Did P G s w sem x s := ⟨v, G, w, hr, hv, hs, .refl _ _ _⟩

theorem run_info {t : TypeId} {i : TypeInfo} (h : P.info? t = some i) (w : World) : (typeInfo t).run P w = .ok i w := by simp [typeInfo, h]
theorem sizeT_info {t n : Nat} (h : sizeT P t = some n) : ∃ i, P.info? t = some i ∧ i.size = n := by
  unfold sizeT at h
  cases hi : P.info? t with
  | none => simp [hi] at h
  | some i => simp [hi] at h; exact ⟨i, rfl, h⟩
theorem bytesT_info {t n : Nat} (h : bytesT P t = some n) : ∃ i, P.info? t = some i ∧ i.bytes = n := by
  unfold bytesT at h
  cases hi : P.info? t with
  | none => simp [hi] at h
  | some i => simp [hi] at h; exact ⟨i, rfl, h⟩
theorem run_sizeT {t n : Nat} (h : sizeT P t = some n) (w : World) : (sizeOf t).run P w = .ok n w := by
  obtain ⟨i, hi, rfl⟩ := sizeT_info h
  simp [sizeOf, run_info hi]
theorem run_aggT {t : Nat} {b : Bool} (h : aggT P t = some b) (w : World) : (isAgg t).run P w = .ok b w := by
  unfold aggT at h
  cases hu : P.underlying t with
  | none => simp [hu] at h
  | some d =>
    simp only [hu, Option.map_some, Option.some.injEq] at h
    simp only [isAgg, Sem.run_bind, run_underlying hu, Result.andThen_ok]
    cases d <;> simp_all
theorem run_zeroT {t : Nat} {x : AV} (h : zeroT P t = some x) (w : World) (G : Ghost) : ∃ v, (zeroValue t).run P w = .ok v w ∧ V G x v := by
  unfold zeroT at h
  cases hi : P.info? t with
  | none => simp [hi] at h
  | some i =>
    cases hz : i.zero with
    | none => simp [hi, hz] at h
    | some v =>
      simp [hi, hz] at h
      exact ⟨v, by simp [zeroValue, run_info hi, hz], ofValue_V h⟩
theorem elemT_u {t e : Nat} (h : elemT P t = some e) : P.underlying t = some (.slice e) := by
  unfold elemT at h
  split at h <;> simp_all
theorem arrT_u {t n e : Nat} (h : arrT P t = some (n, e)) : P.underlying t = some (.array n e) := by
  unfold arrT at h
  split at h <;> simp_all
theorem strT_u {t : Nat} (h : strT P t = true) : P.underlying t = some .string := by
  unfold strT at h
  split at h <;> simp_all
theorem intT_u {t : Nat} {k : IntKind} (h : intT P t = some k) : P.underlying t = some (.int k) := by
  unfold intT at h
  split at h <;> simp_all
theorem fieldT_u {t i off n : Nat} (h : fieldT P t i = some (off, n)) : ∃ fs f, P.underlying t = some (.struct fs) ∧ fs[i]? = some f ∧ f.offset = off ∧ sizeT P f.type = some n := by
  unfold fieldT at h
  split at h
  · rename_i fs hu
    split at h
    · rename_i f hf
      split at h
      · rename_i m hm
        cases h; exact ⟨fs, f, hu, hf, rfl, hm⟩
      · cases h
    · cases h
  · cases h

/-- Cells that are there. -/
def There (G : Ghost) (w : World) (b o : Nat) (cs : List AV) : Prop := ∀ k x, cs[k]? = some x → ∃ v, w.cell? ⟨b, o + k, none⟩ = some v ∧ V G x v

theorem There.drop {b o : Nat} {cs : List AV} (h : There G w b o cs) (n : Nat) : There G w b (o + n) (cs.drop n) := fun k x hx => by
  rw [List.getElem?_drop] at hx
  have := h (n + k) x hx
  rwa [← Nat.add_assoc] at this

theorem Sim.there (hs : Sim G s w) {id el off esz : Nat} {elems : List AV} {e : AV} {r : Reg} (hg : eget s.heap id = some (.cells esz elems)) (ho : G.own id = some r) (he : elems[el]? = some e) :
    There G w r.block (r.base + el * r.esz + off) (e.cells.drop off) := by
  obtain ⟨o, e2, e3⟩ := hs.at hg ho
  cases e3 with
  | cells _ _ cs ty hsz hesz h0 hel hsc hin hV =>
    intro k x hx
    rw [List.getElem?_drop] at hx
    obtain ⟨v, hv, hx'⟩ := hV _ x (flat_at hel he (off + k) x hx)
    refine ⟨v, ?_, hx'⟩
    subst hesz
    simp only [World.cell?, e2]
    rw [show r.base + el * r.esz + off + k = r.base + (el * r.esz + (off + k)) from by omega]
    simpa using hv

theorem cellsAt_there (hs : Sim G s w) {p : AV} {pv : Value} (hp : V G p pv) {cs : List AV} (h : cellsAt s p = some cs) : ∃ b o, pv = .pointer (some ⟨b, o, none⟩) ∧ There G w b o cs := by
  cases hp with
  | mp id el off r ho =>
    simp only [cellsAt] at h
    split at h
    · rename_i esz elems hg
      split at h
      · rename_i e he
        cases h
        exact ⟨_, _, rfl, hs.there hg ho he⟩
      · cases h
    · cases h
  | ip cells b off val himm hV =>
    cases h
    refine ⟨b, off, rfl, fun k x hx => ⟨val k, hs.imm _ _ _ (himm k (List.getElem?_eq_some_iff.1 hx).1), hV k x hx⟩⟩
  | _ => simp [cellsAt] at h

theorem add_at (b o n : Nat) : (⟨b, o, none⟩ : Addr).add n = ⟨b, o + n, none⟩ := by unfold Addr.add; split <;> simp_all

theorem There.loadCells {b o n : Nat} {cs : List AV} (h : There G w b o cs) (hn : n ≤ cs.length) : ∃ vs : Array Value, (loadCells ⟨b, o, none⟩ n).run P w = .ok vs w ∧ VL G (cs.take n) vs := by
  refine ⟨((List.range n).map fun j => (w.cell? ⟨b, o + j, none⟩).getD undef).toArray, ?_, ?_⟩
  · refine run_loadCells w _ n _ fun j hj => ?_
    rw [add_at]
    have hl : j < cs.length := by omega
    obtain ⟨v, hv, _⟩ := h j cs[j] (List.getElem?_eq_getElem hl)
    simp [hv]
  · refine ⟨by simp; omega, fun i x y hx hy => ?_⟩
    have hi : i < n := by
      have := (List.getElem?_eq_some_iff.1 hx).1
      simp at this; omega
    rw [List.getElem?_take, if_pos hi] at hx
    obtain ⟨v, hv, hV⟩ := h i x hx
    simp [hi, hv] at hy
    subst hy; exact hV

theorem There.read {b o t : Nat} {cs : List AV} {x : AV} (h : There G w b o cs) (hr : readT P t cs = some x) : ∃ v, (loadVar t ⟨b, o, none⟩).run P w = .ok v w ∧ V G x v := by
  unfold readT at hr
  split at hr
  · rename_i ha
    split at hr
    · rename_i n hn
      split at hr
      · rename_i hle
        cases hr
        obtain ⟨vs, e1, e2⟩ := h.loadCells (P := P) hle
        exact ⟨.agg vs, by simp [loadVar, run_aggT ha, run_sizeT hn, e1], .agg _ _ e2.1 e2.2⟩
      · cases hr
    · cases hr
  · rename_i ha
    split at hr
    · rename_i y l
      cases hr
      obtain ⟨v, e1, e2⟩ := h 0 x rfl
      refine ⟨v, ?_, e2⟩
      simp only [Nat.add_zero] at e1
      simp [loadVar, run_aggT ha, e1]
    · cases hr
  · cases hr

theorem readT_part {t off : Nat} {cs : List AV} {vs : Array Value} {x : AV} (h : VL G cs vs) (hr : readT P t (cs.drop off) = some x) : ∃ v, (part t vs off).run P w = .ok v w ∧ V G x v := by
  unfold readT at hr
  split at hr
  · rename_i ha
    split at hr
    · rename_i n hn
      split at hr
      · rename_i hle
        cases hr
        refine ⟨.agg (vs.extract off (off + n)), by simp [part, run_aggT ha, run_sizeT hn], .agg _ _ ?_ ?_⟩
        · have := h.1
          simp at hle ⊢
          omega
        · intro i a b ha' hb
          have hi : i < n := by
            have := (List.getElem?_eq_some_iff.1 ha').1
            simp at this; omega
          rw [List.getElem?_take, if_pos hi, List.getElem?_drop] at ha'
          rw [Array.getElem?_extract] at hb
          split at hb
          · exact h.2 _ _ _ ha' hb
          · cases hb
      · cases hr
    · cases hr
  · rename_i ha
    split at hr
    · rename_i y l heq
      cases hr
      have hx : cs[off]? = some x := by
        have := congrArg (fun l : List AV => l[0]?) heq
        simpa [List.getElem?_drop] using this
      obtain ⟨v, e1, e2⟩ := h.get hx
      refine ⟨v, ?_, e2⟩
      simp [part, run_aggT ha, e1]
    · cases hr
  · cases hr

theorem load_did (hs : Sim G s w) {t : TypeId} {p x : AV} {pv : Value} (hp : V G p pv) (h : aLoad P t p s = some x) : Did P G s w (Instr.loadAt t pv) x s := by
  unfold aLoad at h
  split at h
  · rename_i cs hc
    obtain ⟨b, o, rfl, ht⟩ := cellsAt_there hs hp hc
    obtain ⟨v, e1, e2⟩ := ht.read (P := P) h
    exact did_pure hs (by simp [Instr.loadAt, Instr.sureAddr, e1]) e2
  · cases h

/-! ### New variables -/

theorem VL.length {cs : List AV} {vs : Array Value} (h : VL G cs vs) : cs.length = vs.size := h.1

theorem new_did (hs : Sim G s w) {t : TypeId} {x y : AV} {v : Value} (hv : V G x v) (h : aNew x s = some (y, s')) : Did P G s w (Instr.box t v) y s' := by
  unfold aNew at h
  split at h
  · rename_i hc
    cases h
    have hx : x ≠ .any := fun e => by subst e; simp [AV.cells, AV.scalar] at hc
    have hl := VL.cells hv hx
    obtain ⟨h1, h2⟩ := hs.put (o := .cells v.cells t) (blk := .cells x.cells.length [x]) (r := ⟨w.heap.size, 0, x.cells.length, v.cells.size⟩) rfl
      (.cells _ _ _ _ rfl rfl hc.1 (by simp) (by simpa [flat] using hc.2) (by simp [hl.1]) fun k z hz => by
        simp [flat] at hz
        obtain ⟨u, e1, e2⟩ := hl.get hz
        exact ⟨u, by simpa using e1, e2.mono (.put (hs.fresh _ (Nat.le_refl _)))⟩)
    refine ⟨.pointer (some ⟨w.heap.size, 0, none⟩), _, _, ?_, ?_, h1, h2⟩
    · simp [Instr.box, newVar, newRow]
    · have := V.mp (G := G.put s.cnt ⟨w.heap.size, 0, x.cells.length, v.cells.size⟩) s.cnt 0 0 _ (by simp [Ghost.put]; rfl)
      simpa using this
  · cases h

theorem alloc_did (hs : Sim G s w) {t : TypeId} {z y : AV} (hz : zeroT P t = some z) (h : aNew z s = some (y, s')) : Did P G s w (Instr.alloc t true (.tuple #[])) y s' := by
  obtain ⟨v, e1, e2⟩ := run_zeroT hz w G
  obtain ⟨u, G', w', e3, e4⟩ := new_did (P := P) (t := t) hs e2 h
  refine ⟨u, G', w', ?_, e4⟩
  simp only [Instr.alloc, Sem.run_bind, e1, Result.andThen_ok]
  simpa [Instr.box] using e3

/-! ### Stores -/

theorem V.oneCell {x : AV} {v : Value} (h : V G x v) (hx : x.scalar = true) : v.oneCell' = true := by
  cases h <;> simp_all [AV.scalar, Value.oneCell']

theorem list_splice_get (l : List AV) (k : Nat) (new : List AV) (i : Nat) (h : k + new.length ≤ l.length) :
    (splice l k new)[i]? = if i < k then l[i]? else if i < k + new.length then new[i - k]? else l[i]? := by
  unfold splice
  by_cases h1 : i < k
  · rw [List.getElem?_append_left (by simp; omega), if_pos h1, List.getElem?_take, if_pos h1]
  · rw [List.getElem?_append_right (by simp; omega), if_neg h1]
    simp only [List.length_take, show min k l.length = k from by omega]
    by_cases h2 : i < k + new.length
    · rw [if_pos h2, List.getElem?_append_left (by omega)]
    · rw [if_neg h2, List.getElem?_append_right (by omega), List.getElem?_drop]
      congr 1; omega

theorem splice_length (l : List AV) (k : Nat) (new : List AV) (h : k + new.length ≤ l.length) : (splice l k new).length = l.length := by
  simp [splice]; omega

theorem array_mid_get (cur : Array Value) (k : Nat) (new : List Value) (i : Nat) (h : k + new.length ≤ cur.size) :
    ((cur.toList.take k ++ new ++ cur.toList.drop (k + new.length)).toArray)[i]? = if i < k then cur[i]? else if i < k + new.length then new[i - k]? else cur[i]? := by
  simp only [List.getElem?_toArray]
  by_cases h1 : i < k
  · rw [List.append_assoc, List.getElem?_append_left (by simp; omega), if_pos h1, List.getElem?_take, if_pos h1]; simp
  · rw [List.append_assoc, List.getElem?_append_right (by simp; omega), if_neg h1]
    simp only [List.length_take, Array.length_toList, show min k cur.size = k from by omega]
    by_cases h2 : i < k + new.length
    · rw [if_pos h2, List.getElem?_append_left (by omega)]
    · rw [if_neg h2, List.getElem?_append_right (by omega), List.getElem?_drop]
      simp
      congr 1; omega

theorem reElem_cells (e : AV) (cs : List AV) (h : cs.length = e.cells.length) (hs : ∀ x ∈ cs, x.scalar = true) : (reElem e cs).cells = cs := by
  have one : e.cells = [e] → (∀ l, reElem e l = match l with | x :: _ => x | [] => .any) → (reElem e cs).cells = cs := fun h1 h2 => by
    rw [h1] at h
    match cs, h with
    | [x], _ =>
      have := hs x (by simp)
      rw [h2]
      cases x <;> simp_all [AV.cells, AV.scalar]
  cases e with
  | agg l => rfl
  | _ => exact one rfl fun _ => rfl

theorem setRow_other (w : World) (g : Nat) (cs : Array Value) (b : Nat) (h : b ≠ g) : (w.setRow g cs).heap[b]? = w.heap[b]? := by
  simp only [World.setRow, Array.getElem?_modify]
  rw [if_neg (by omega)]

/-- Cells of one block of the state are written. -/
theorem turn_row (hs : Sim G s w) {id esz : Nat} {elems elems' : List AV} {r : Reg} {cs : Array Value} {ty : TypeId} (hg : eget s.heap id = some (.cells esz elems)) (ho : G.own id = some r)
    (hw : w.heap[r.block]? = some (.cells cs ty (0, 0))) {cs' : Array Value} (hsz : cs'.size = r.size) (hesz : r.esz = esz) (h0 : 0 < esz) (hel : ∀ x ∈ elems', x.cells.length = esz)
    (hsc : ∀ x ∈ flat elems', x.scalar = true) (hin : r.base + elems'.length * esz ≤ r.size) (hV : ∀ k x, (flat elems')[k]? = some x → ∃ v, cs'[r.base + k]? = some v ∧ V G x v) :
    Sim G ⟨eset s.heap id (.cells esz elems'), s.cnt⟩ (w.setRow r.block cs') ∧ Ext G s w G ⟨eset s.heap id (.cells esz elems'), s.cnt⟩ (w.setRow r.block cs') :=
  hs.turn hg ho (by simp [World.setRow]) rfl rfl rfl (fun b hb => setRow_other w _ _ _ hb) (setRow_heap w _ cs cs' ty _ hw) (.cells esz elems' cs' ty hsz hesz h0 hel hsc hin hV) (by simp)

end
end Go.Am
