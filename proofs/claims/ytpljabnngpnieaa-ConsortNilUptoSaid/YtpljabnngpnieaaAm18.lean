/-
  The logic AM, part 18: a region that leaves its order open does in each order what it does in the one that is walked.
  Own work. No Go text.
-/
import Derived.Test.YtpljabnngpnieaaAm17
namespace Go.Am
open Go.RowKit

section
variable {P : Program} {N : Nat} {ρ : Option Nat} {l : List Oper} {pre : List (List Nat)} {steps : List Step} {K : Env → St → Prop} {env0 : Env} {G0 : Ghost} {s0 : St} {w0 : World}

def idxs (ds : List Step) : List Nat := ds.map Step.idx

/-- What an operation reads in a slot. -/
def Rd (l : List Oper) (pre : List (List Nat)) (env env0 : Env) (i t : Nat) (x : AV) : Prop :=
  (∃ u, u ∈ preI pre i ∧ dstI l u = some t ∧ eget env t = some x) ∨ ((∀ u, u < l.length → dstI l u = some t → i ∈ preI pre u) ∧ eget env0 t = some x)

/-- What a guard says. -/
def gdec : AV → Bool → Option Bool
  | .bool c, want => some (c == want)
  | .tup [], _ => some false
  | _, _ => none

def GdB (l : List Oper) (pre : List (List Nat)) (env env0 : Env) (i : Nat) (o : Oper) (b : Bool) : Prop := match o.guard with
  | none => b = true
  | some (j, want) => ∃ d x, dstI l j = some d ∧ Rd l pre env env0 i d x ∧ gdec x want = some b

/-- An operation that has been walked and not been carried out. -/
def Pend (P : Program) (l : List Oper) (pre : List (List Nat)) (steps : List Step) (env env0 : Env) (tr : List (Nat × Env × AV)) (s : St) (i : Nat) : Prop :=
  ∃ o, l[i]? = some o ∧ isLight o.op = true ∧
    ((GdB l pre env env0 i o true ∧ ∃ e v, (∀ t x, eget e t = some x → Rd l pre env env0 i t x) ∧ aop P o.op e s = some (v, s) ∧ (∀ t, o.dst = some t → eget env t = some v) ∧
        ((∃ st ∈ steps, st = .light i true) → findT tr i = some (e, v))) ∨
     (GdB l pre env env0 i o false ∧ ∀ t, o.dst = some t → eget env t = some (.tup [])))

/-- A variable that has been made ahead of its place. -/
def Early (P : Program) (l : List Oper) (G : Ghost) (s : St) (w0 w : World) (tmps : Array Value) (i : Nat) : Prop :=
  ∃ o t ty z b cs e, l[i]? = some o ∧ o.op = .alloc ty ∧ o.dst = some t ∧ zeroT P ty = some z ∧ tmps[t]? = some (.pointer (some ⟨b, 0, none⟩)) ∧ w.heap[b]? = some (.cells cs e (0, 0)) ∧
    VL G z.cells cs ∧ ¬ Owned G s b ∧ (∀ j, G.imm b j = none) ∧ w0.heap.size ≤ b

structure DInv (P : Program) (N : Nat) (ρ : Option Nat) (l : List Oper) (pre : List (List Nat)) (steps : List Step) (K : Env → St → Prop) (env0 : Env) (G0 : Ghost) (s0 : St) (w0 : World)
    (E : Nat → Prop) (ds σ : List Step) (tr : List (Nat × Env × AV)) (env : Env) (s : St) (a : Act) (w : World) (G : Ghost) : Prop where
  split : steps = ds ++ σ
  run : dws P l K σ tr env s
  sim : Sim G s w
  ext : Ext G0 s0 w0 G s w
  size : a.tmps.size = N
  defs : Defs G s a.defers
  known : Known G ρ
  lt : ∀ i, E i → i < l.length
  closed : ∀ i, E i → ∀ p ∈ preI pre i, E p
  sub : ∀ i, E i → i ∈ idxs ds ∨ (.alloc i ∈ σ ∧ Early P l G s w0 w a.tmps i)
  wait : ∀ st ∈ ds, st.waits = true → E st.idx
  s1 : ∀ t x, eget env0 t = some x → (∀ i, E i → dstI l i ≠ some t) → t < N ∧ V G x (a.tmps.getD t undef)
  s2 : ∀ i, E i → i ∈ idxs ds → ∀ t, dstI l i = some t → ∀ x, eget env t = some x → V G x (a.tmps.getD t undef)
  e0 : ∀ t, (∀ i ∈ idxs ds, dstI l i ≠ some t) → eget env t = eget env0 t
  pend : ∀ i ∈ idxs ds, ¬ E i → Pend P l pre steps env env0 tr s i
  dist : ∀ i j, E i → E j → .alloc i ∈ σ → .alloc j ∈ σ → i ≠ j → ∀ ti tj, dstI l i = some ti → dstI l j = some tj → a.tmps[ti]? ≠ a.tmps[tj]?

theorem nodup_split {ds σ : List Step} (hp : PlanOk P N l pre steps) (h : steps = ds ++ σ) {st : Step} (hm : st ∈ σ) : st.idx ∉ idxs ds := by
  have := hp.perm.2.2
  rw [h, List.map_append, List.nodup_append] at this
  exact fun hi => this.2.2 st.idx hi st.idx (List.mem_map.2 ⟨st, hm, rfl⟩) rfl

theorem plan_dst (hp : PlanOk P N l pre steps) {i j t : Nat} (hi : dstI l i = some t) (hj : dstI l j = some t) : i = j := by
  have lt : ∀ {i}, dstI l i = some t → i < l.length := fun {i} h => by
    unfold dstI at h
    cases hl : l[i]? with
    | none => simp [hl] at h
    | some o => exact (List.getElem?_eq_some_iff.1 hl).1
  exact hp.dsts i (List.mem_range.2 (lt hi)) j (List.mem_range.2 (lt hj)) t hi hj

theorem dst_lt {i t : Nat} (h : dstI l i = some t) : i < l.length := by
  unfold dstI at h
  cases hl : l[i]? with
  | none => simp [hl] at h
  | some o => exact (List.getElem?_eq_some_iff.1 hl).1

theorem dstI_some {i : Nat} {o : Oper} (h : l[i]? = some o) : dstI l i = o.dst := by simp [dstI, h]

/-- All that an operation waits for has been walked ahead of it. -/
theorem plan_linear (hp : PlanOk P N l pre steps) {ds σ : List Step} {st : Step} (h : steps = ds ++ st :: σ) : ∀ p ∈ preI pre st.idx, p ∈ idxs ds := by
  intro p hpp
  have hk : steps[ds.length]? = some st := by rw [h]; simp
  have := hp.linear ds.length (by rw [List.mem_range, h]; simp) st hk p hpp
  rw [h] at this
  simpa [idxs] using this

theorem plan_linear' (hp : PlanOk P N l pre steps) {ds σ : List Step} (h : steps = ds ++ σ) {i : Nat} (hi : i ∈ idxs ds) : ∀ p ∈ preI pre i, p ∈ idxs ds := by
  intro p hpp
  obtain ⟨st, hst, rfl⟩ := List.mem_map.1 hi
  obtain ⟨d1, d2, rfl⟩ := List.append_of_mem hst
  have := plan_linear hp (ds := d1) (σ := d2 ++ σ) (by rw [h]; simp) p hpp
  simp only [idxs, List.map_append, List.mem_append]
  exact .inl this

/-- What is read is there. -/
theorem read_ok (hp : PlanOk P N l pre steps) {E : Nat → Prop} {ds σ : List Step} {tr : List (Nat × Env × AV)} {env : Env} {s : St} {a : Act} {w : World} {G : Ghost}
    (h : DInv P N ρ l pre steps K env0 G0 s0 w0 E ds σ tr env s a w G) {i t : Nat} {x : AV} (hr : Rd l pre env env0 i t x) (hpre : ∀ p ∈ preI pre i, E p) (hd : ∀ p ∈ preI pre i, p ∈ idxs ds) (hni : ¬ E i) :
    t < N ∧ V G x (a.tmps.getD t undef) := by
  rcases hr with ⟨u, hu, hut, hx⟩ | ⟨hall, hx⟩
  · refine ⟨?_, h.s2 u (hpre u hu) (hd u hu) t hut x hx⟩
    have hl := dst_lt hut
    have := hp.dstN
    simp only [dstsOk, List.all_eq_true] at this
    obtain ⟨o, ho⟩ : ∃ o, l[u]? = some o := ⟨_, List.getElem?_eq_getElem hl⟩
    have h2 := this o (List.mem_of_getElem? ho)
    rw [dstI_some ho] at hut
    rw [hut] at h2
    simpa [okDst] using h2
  · refine h.s1 t x hx fun j hj hjt => ?_
    exact hni (h.closed j hj i (hall j (h.lt j hj) hjt))

/-- The reading of a slot in the order that is walked. -/
theorem rd_of (hp : PlanOk P N l pre steps) {E : Nat → Prop} {ds σ : List Step} {tr : List (Nat × Env × AV)} {env : Env} {s : St} {a : Act} {w : World} {G : Ghost}
    (h : DInv P N ρ l pre steps K env0 G0 s0 w0 E ds σ tr env s a w G) {i t : Nat} {x : AV} {o : Oper} (ho : l[i]? = some o) (ht : t ∈ slotsI o ++ gslot l o) (hx : eget env t = some x) (hni : i ∉ idxs ds) : Rd l pre env env0 i t x := by
  have hil := (List.getElem?_eq_some_iff.1 ho).1
  rcases hp.reads i (List.mem_range.2 hil) o ho t ht with ⟨u, hu, hut⟩ | hall
  · exact .inl ⟨u, hu, hut, hx⟩
  · refine .inr ⟨fun u hu hut => hall u (List.mem_range.2 hu) hut, ?_⟩
    rw [← h.e0 t fun j hj hjt => ?_]
    · exact hx
    · exact hni (plan_linear' hp h.split hj i (hall j (List.mem_range.2 (dst_lt hjt)) hjt))

/-- A slot is written that nobody who has been walked writes: what was read stays. -/
theorem Rd.put (hp : PlanOk P N l pre steps) {ds : List Step} {env env' : Env} {i j t : Nat} {x : AV} (hne : ∀ t, dstI l i ≠ some t → eget env' t = eget env t) (hj : ∀ p ∈ preI pre j, p ∈ idxs ds) (hi : i ∉ idxs ds)
    (h : Rd l pre env env0 j t x) : Rd l pre env' env0 j t x := by
  rcases h with ⟨u, hu, hut, hx⟩ | h
  · refine .inl ⟨u, hu, hut, ?_⟩
    rw [hne t fun hit => hi (by rw [plan_dst hp hit hut]; exact hj u hu)]
    exact hx
  · exact .inr h

theorem GdB.put (hp : PlanOk P N l pre steps) {ds : List Step} {env env' : Env} {i j : Nat} {o : Oper} {b : Bool} (hne : ∀ t, dstI l i ≠ some t → eget env' t = eget env t) (hj : ∀ p ∈ preI pre j, p ∈ idxs ds) (hi : i ∉ idxs ds)
    (h : GdB l pre env env0 j o b) : GdB l pre env' env0 j o b := by
  unfold GdB at h ⊢
  split at h
  · exact h
  · obtain ⟨d, c, h1, h2, h3⟩ := h
    exact ⟨d, c, h1, h2.put hp hne hj hi, h3⟩

theorem eget_eput (d : Option Nat) (v : AV) (env : Env) (t : Nat) : eget (eput d v env) t = if d = some t then some v else eget env t := by
  cases d with
  | none => simp [eput]
  | some d => simp only [eput, get_set, Option.some.injEq]

theorem eget_edelO (d : Option Nat) (env : Env) (t : Nat) : eget (edelO d env) t = if d = some t then none else eget env t := by
  cases d with
  | none => simp [edelO]
  | some d => simp only [edelO, get_del, Option.some.injEq]

/-- What is read of a state is read of one that says more. -/
theorem light_more {op : Op} {e : Env} {s s' : St} {v : AV} (hl : isLight op = true) (hm : ∀ id b, eget s.heap id = some b → eget s'.heap id = some b) (h : aop P op e s = some (v, s)) : aop P op e s' = some (v, s') := by
  have k : ∀ {x y : Option AV}, (∀ v, x = some v → y = some v) → ekeep x s = some (v, s) → ekeep y s' = some (v, s') := fun hxy h => by
    rw [hxy v (keep_some h).1]; rfl
  by_cases hst : stateless op = true
  · exact stateless_same hst h
  · cases op <;> simp only [isLight] at hl <;> first | (cases hl; done) | (exact absurd rfl hst) | skip
    case load t p =>
      simp only [aop] at h ⊢
      split at h
      · refine k (fun v hv => ?_) h
        unfold aLoad cellsAt at hv ⊢
        rename_i q _
        cases q <;> simp only at hv ⊢ <;> first | exact hv | skip
        rename_i id el off _
        cases hg : eget s.heap id with
        | none => simp [hg] at hv
        | some b => rw [hm id b hg]; rw [hg] at hv; exact hv
      · cases h
    case slice t x lo hi mx =>
      simp only [aop] at h ⊢
      split at h
      · refine k (fun v hv => ?_) h
        unfold aSlice at hv ⊢
        rename_i q _
        cases q <;> simp only at hv ⊢ <;> first | exact hv | skip
        · rename_i id start len _
          cases he : elemT P t with
          | none => simp [he] at hv
          | some e' =>
            rw [he] at hv
            simp only at hv ⊢
            cases hg : eget s.heap id with
            | none => simp [hg] at hv
            | some b => rw [hm id b hg]; rw [hg] at hv; exact hv
        · rename_i id start len cap _
          cases he : elemT P t with
          | none => simp [he] at hv
          | some e' =>
            rw [he] at hv
            simp only at hv ⊢
            cases hg : eget s.heap id with
            | none => simp [hg] at hv
            | some b => rw [hm id b hg]; rw [hg] at hv; exact hv
      · cases h
    case indexAddr t x i =>
      simp only [aop] at h ⊢
      split at h
      · refine k (fun v hv => ?_) h
        unfold aIndexAddr at hv ⊢
        rename_i q j _ _
        cases j <;> simp only at hv ⊢ <;> first | exact hv | skip
        cases he : elemT P t with
        | none => rw [he] at hv; exact hv
        | some e' =>
          rw [he] at hv
          simp only at hv ⊢
          cases q <;> simp only at hv ⊢ <;> first | exact hv | skip
          rename_i id start len _
          cases hg : eget s.heap id with
          | none => simp [hg] at hv
          | some b => rw [hm id b hg]; rw [hg] at hv; exact hv
      · cases h
    case call c =>
      obtain ⟨callee, args, ts⟩ := c
      cases callee with
      | value f => cases hl
      | invoke r m => cases hl
      | builtin b => cases b <;> simp only [] at hl <;> first | (cases hl; done) | (exact absurd rfl hst)

theorem new_id_more {s : St} {w : World} {G : Ghost} (hs : Sim G s w) (b : Blk) : ∀ id c, eget s.heap id = some c → eget ((s.cnt, b) :: s.heap) id = some c := fun id c hg => by
  simp only [egetN, egetC]
  rw [if_neg (fun e => by
    subst e
    have := hs.lt _ _ hg
    omega)]
  exact hg

theorem Early.later {s s' : St} {w w' : World} {G G' : Ghost} {tmps tmps' : Array Value} {i : Nat} (hs : Sim G s w) (h : Early P l G s w0 w tmps i) (hx : Ext G s w G' s' w')
    (ht : ∀ t, dstI l i = some t → tmps'[t]? = tmps[t]?) : Early P l G' s' w0 w' tmps' i := by
  obtain ⟨o, t, ty, z, b, cs, e, h1, h2, h3, h4, h5, h6, h8, h9, h10, h11⟩ := h
  have hb : b < w.heap.size := (Array.getElem?_eq_some_iff.1 h6).1
  refine ⟨o, t, ty, z, b, cs, e, h1, h2, h3, h4, ?_, ?_, h8.mono hx.le, ?_, ?_, h11⟩
  · rw [ht t (by rw [dstI_some h1]; exact h3)]; exact h5
  · rw [hx.keep b hb h9]; exact h6
  · rintro ⟨id, blk, r, q1, q2, q3⟩
    rcases hx.ownNew id r q2 with h | h | h
    · rcases hx.ids id blk q1 with ⟨b0, hb0⟩ | hge
      · exact h9 ⟨id, b0, r, hb0, h, q3⟩
      · rw [hs.fresh id hge] at h; cases h
    · omega
    · rw [q3] at h; exact h9 h
  · intro j
    cases hj : G'.imm b j with
    | none => rfl
    | some u =>
      rcases hx.immNew b j u hj with h | h | h
      · rw [h10 j] at h; cases h
      · omega
      · exact absurd h h9

/-- A block that nobody speaks of comes into the state. -/
theorem Sim.adopt {s : St} {w : World} {G : Ghost} (hs : Sim G s w) (hx : Ext G0 s0 w0 G s w) {b : Nat} {cs : Array Value} {e : TypeId} {z : AV} (hw : w.heap[b]? = some (.cells cs e (0, 0))) (hv : VL G z.cells cs)
    (hno : ¬ Owned G s b) (hi : ∀ j, G.imm b j = none) (hb : w0.heap.size ≤ b) (h0 : 0 < z.cells.length) (hsc : z.cells.all AV.scalar = true) (hd : ∀ id, eget s0.heap id = some .dfr → id ≠ s.cnt) :
    Sim (G.put s.cnt ⟨b, 0, z.cells.length, cs.size⟩) ⟨(s.cnt, .cells z.cells.length [z]) :: s.heap, s.cnt + 1⟩ w ∧
    Ext G0 s0 w0 (G.put s.cnt ⟨b, 0, z.cells.length, cs.size⟩) ⟨(s.cnt, .cells z.cells.length [z]) :: s.heap, s.cnt + 1⟩ w ∧ GLe G (G.put s.cnt ⟨b, 0, z.cells.length, cs.size⟩) := by
  have hle : GLe G (G.put s.cnt ⟨b, 0, z.cells.length, cs.size⟩) := .put (hs.fresh _ (Nat.le_refl _))
  have gold : ∀ id bb, eget ((s.cnt, Blk.cells z.cells.length [z]) :: s.heap) id = some bb → (id = s.cnt ∧ bb = .cells z.cells.length [z]) ∨ (id ≠ s.cnt ∧ eget s.heap id = some bb) := fun id bb hg => by
    simp only [egetN, egetC] at hg
    split at hg
    · cases hg; exact .inl ⟨by omega, rfl⟩
    · exact .inr ⟨by omega, hg⟩
  have ownNe : ∀ id, id ≠ s.cnt → (G.put s.cnt ⟨b, 0, z.cells.length, cs.size⟩).own id = G.own id := fun id hne => by simp [Ghost.put, hne]
  have ownEq : (G.put s.cnt ⟨b, 0, z.cells.length, cs.size⟩).own s.cnt = some ⟨b, 0, z.cells.length, cs.size⟩ := by simp [Ghost.put]
  refine ⟨⟨hs.imm, fun id bb hg => ?_, fun id id' b1 b2 r1 r2 h1 h2 o1 o2 hne => ?_, fun id bb r o hg ho => ?_, fun id hid => ?_, fun id bb hg => ?_⟩,
    ⟨hx.le.trans hle, hx.os, hx.tape, hx.output, hx.size, hx.keep, hx.immNew, fun id r h => ?_, fun id bb hg => ?_, Nat.le_trans hx.cnt (Nat.le_succ _), fun id hid => ?_, fun id hl ho => by have := hx.cnt; rw [ownNe id (by omega)]; exact hx.stay id hl ho⟩, hle⟩
  · rcases gold id bb hg with ⟨rfl, rfl⟩ | ⟨hne, hg⟩
    · exact .inl ⟨_, _, ownEq, hw, .cells _ _ _ _ rfl rfl h0 (by simp) (by simpa [flat] using hsc) (by simp [hv.1]) fun k x hx => by
        simp [flat] at hx
        obtain ⟨u, e1, e2⟩ := hv.get hx
        exact ⟨u, by simpa using e1, e2.mono hle⟩⟩
    · rcases hs.heap id bb hg with ⟨r, o, e1, e2, e3⟩ | ⟨e1, e2⟩
      · exact .inl ⟨r, o, by rw [ownNe id hne]; exact e1, e2, e3.mono hle⟩
      · exact .inr ⟨by rw [ownNe id hne]; exact e1, e2⟩
  · rcases gold id b1 h1 with ⟨rfl, rfl⟩ | ⟨n1, g1⟩ <;> rcases gold id' b2 h2 with ⟨rfl, rfl⟩ | ⟨n2, g2⟩
    · exact absurd rfl hne
    · rw [ownEq] at o1; cases o1
      rw [ownNe _ n2] at o2
      exact fun e => hno ⟨id', b2, r2, g2, o2, e.symm⟩
    · rw [ownEq] at o2; cases o2
      rw [ownNe _ n1] at o1
      exact fun e => hno ⟨id, b1, r1, g1, o1, e⟩
    · rw [ownNe _ n1] at o1; rw [ownNe _ n2] at o2
      exact hs.apart id id' b1 b2 r1 r2 g1 g2 o1 o2 hne
  · rcases gold id bb hg with ⟨rfl, rfl⟩ | ⟨n1, g1⟩
    · rw [ownEq] at ho; cases ho; exact hi o
    · rw [ownNe _ n1] at ho; exact hs.clear id bb r o g1 ho
  · rw [ownNe id (by simp at hid; omega)]; exact hs.fresh id (by simp at hid; omega)
  · show id < s.cnt + 1
    rcases gold id bb hg with ⟨rfl, rfl⟩ | ⟨_, g⟩
    · omega
    · have := hs.lt id bb g; omega
  · by_cases hid : id = s.cnt
    · subst hid; rw [ownEq] at h; cases h; exact .inr (.inl hb)
    · rw [ownNe id hid] at h; exact hx.ownNew id r h
  · rcases gold id bb hg with ⟨rfl, rfl⟩ | ⟨_, g⟩
    · exact .inr hx.cnt
    · exact hx.ids id bb g
  · simp only [egetN, egetC]
    rw [if_neg (fun e => hd id hid e.symm)]
    exact hx.dfr id hid

theorem step_idx_eq (hp : PlanOk P N l pre steps) {st st2 : Step} (h1 : st ∈ steps) (h2 : st2 ∈ steps) (h : st.idx = st2.idx) : st = st2 := by
  obtain ⟨i, hi, rfl⟩ := List.getElem_of_mem h1
  obtain ⟨j, hj, rfl⟩ := List.getElem_of_mem h2
  have hn := hp.perm.2.2
  rw [List.nodup_iff_pairwise_ne] at hn
  have hinj : i = j := by
    have h' : (steps.map Step.idx)[i]? = (steps.map Step.idx)[j]? := by simp [hi, hj, h]
    exact (List.getElem?_inj (by simpa using hi) (by rw [List.nodup_iff_pairwise_ne]; exact hn)).1 h'
  subst hinj; rfl

/-- What can be walked without waiting is walked. -/
theorem adv (hp : PlanOk P N l pre steps) (h0 : Sim G0 s0 w0) : ∀ (σ : List Step) {E : Nat → Prop} {ds : List Step} {tr : List (Nat × Env × AV)} {env : Env} {s : St} {a : Act} {w : World} {G : Ghost},
    DInv P N ρ l pre steps K env0 G0 s0 w0 E ds σ tr env s a w G →
    ∃ ds' σ' tr' env' s' G', DInv P N ρ l pre steps K env0 G0 s0 w0 E ds' σ' tr' env' s' a w G' ∧ ∀ st r, σ' = st :: r → st.waits = true ∧ ¬ E st.idx
  | [], E, ds, tr, env, s, a, w, G, h => ⟨ds, [], tr, env, s, G, h, fun _ _ e => by cases e⟩
  | st :: r, E, ds, tr, env, s, a, w, G, h => by
    have hmem : st ∈ steps := by rw [h.split]; simp
    have hlin := plan_linear hp h.split
    have hnd : st.idx ∉ idxs ds := nodup_split hp h.split (by simp)
    have hrun := h.run
    have hlt := hp.perm.1 st hmem
    obtain ⟨o, ho⟩ : ∃ o, l[st.idx]? = some o := ⟨_, List.getElem?_eq_getElem hlt⟩
    have hdst := dstI_some ho
    have hsplit' : steps = (ds ++ [st]) ++ r := by rw [h.split]; simp
    have hix : ∀ j, j ∈ idxs (ds ++ [st]) ↔ j ∈ idxs ds ∨ j = st.idx := fun j => by simp [idxs]
    cases st with
    | light i note =>
      simp only [Step.idx] at *
      simp only [dws, ho] at hrun
      have hlight : isLight o.op = true := hp.kinds _ hmem o ho
      have hnE : ¬ E i := fun hE => by
        rcases h.sub i hE with hi | ⟨hi, _⟩
        · exact hnd hi
        · have := step_idx_eq hp (st := .alloc i) (st2 := .light i note) (by rw [h.split]; simp only [List.mem_append]; exact .inr hi) hmem rfl
          cases this
      -- the new environment, and what is pending
      have go : ∀ (env' : Env) (tr' : List (Nat × Env × AV)), (∀ t, dstI l i ≠ some t → eget env' t = eget env t) → (∀ j, j ≠ i → findT tr' j = findT tr j) → dws P l K r tr' env' s →
          Pend P l pre steps env' env0 tr' s i → ∃ ds' σ' tr' env' s' G', DInv P N ρ l pre steps K env0 G0 s0 w0 E ds' σ' tr' env' s' a w G' ∧ ∀ st r, σ' = st :: r → st.waits = true ∧ ¬ E st.idx := by
        intro env' tr' hne htr hrun' hpi
        refine adv hp h0 r (ds := ds ++ [.light i note]) (tr := tr') (env := env') (s := s) (G := G) ⟨hsplit', hrun', h.sim, h.ext, h.size, h.defs, h.known, h.lt, h.closed, fun j hj => ?_, fun st2 hst hw => ?_, h.s1, fun j hj hjd t ht x hx => ?_, fun t ht => ?_, fun j hj hjE => ?_, fun i1 j1 h1 h2 h3 h4 => h.dist i1 j1 h1 h2 (by simp [h3]) (by simp [h4])⟩
        · rcases h.sub j hj with hd | ⟨hd, he⟩
          · exact .inl ((hix j).2 (.inl hd))
          · rcases List.mem_cons.1 hd with hd | hd
            · cases hd
            · exact .inr ⟨hd, he⟩
        · rcases List.mem_append.1 hst with hst | hst
          · exact h.wait st2 hst hw
          · simp at hst; subst hst; cases hw
        · rcases (hix j).1 hjd with hjd | rfl
          · rw [hne t fun hit => hnE (by rw [plan_dst hp hit ht]; exact hj)] at hx
            exact h.s2 j hj hjd t ht x hx
          · exact absurd hj hnE
        · rw [hne t fun hit => ht i ((hix i).2 (.inr rfl)) hit]
          exact h.e0 t fun j hj => ht j ((hix j).2 (.inl hj))
        · rcases (hix j).1 hj with hjd | rfl
          · obtain ⟨oj, q1, q2, q3⟩ := h.pend j hjd hjE
            have hpj : ∀ p ∈ preI pre j, p ∈ idxs ds := plan_linear' hp h.split hjd
            have hij : j ≠ i := fun e => hnd (e ▸ hjd)
            have hdj : ∀ t, oj.dst = some t → eget env' t = eget env t := fun t ht => hne t fun hit => hij (plan_dst hp (by rw [dstI_some q1]; exact ht) hit)
            refine ⟨oj, q1, q2, ?_⟩
            rcases q3 with ⟨g, e, v, p1, p2, p3, p4⟩ | ⟨g, p1⟩
            · exact .inl ⟨g.put hp hne hpj hnd, e, v, fun t x hx => (p1 t x hx).put hp hne hpj hnd, p2, fun t ht => by rw [hdj t ht]; exact p3 t ht, fun hst => by rw [htr j hij]; exact p4 hst⟩
            · exact .inr ⟨g.put hp hne hpj hnd, fun t ht => by rw [hdj t ht]; exact p1 t ht⟩
          · exact hpi
      -- carried out, or not
      have exec : (match aop P o.op (envOf (slotsI o) env) s with
          | some (v, _) => dws P l K r (if note then (i, envOf (slotsI o) env, v) :: tr else tr) (eput o.dst v env) s
          | none => False) → GdB l pre (eput o.dst .any env) env0 i o true → ∃ ds' σ' tr' env' s' G', DInv P N ρ l pre steps K env0 G0 s0 w0 E ds' σ' tr' env' s' a w G' ∧ ∀ st r, σ' = st :: r → st.waits = true ∧ ¬ E st.idx := by
        intro hx hg
        split at hx
        case h_2 => cases hx
        rename_i v s1 hv
        have hs1 := light_same hlight hv
        subst hs1
        have hne : ∀ t, dstI l i ≠ some t → eget (eput o.dst v env) t = eget env t := fun t ht => by rw [eget_eput, if_neg (by rw [← hdst]; exact ht)]
        have hne' : ∀ t, dstI l i ≠ some t → eget (eput o.dst v env) t = eget (eput o.dst .any env) t := fun t ht => by rw [hne t ht, eget_eput, if_neg (by rw [← hdst]; exact ht)]
        refine go _ _ hne (fun j hj => ?_) hx ⟨o, ho, hlight, .inl ⟨hg.put hp hne' hlin hnd, envOf (slotsI o) env, v, fun t x hx => ?_, hv, fun t ht => by rw [eget_eput, if_pos ht], fun hst => ?_⟩⟩
        · cases note
          · rfl
          · simp only [if_true, findT]; rw [if_neg (fun e => hj e.symm)]
        · obtain ⟨q1, q2⟩ := envOf_get hx
          exact (rd_of hp h ho (by simp [q1]) q2 hnd).put hp hne hlin hnd
        · obtain ⟨st, hst, rfl⟩ := hst
          have := step_idx_eq hp hst hmem rfl
          cases this
          simp [findT]
      have hins : (insOf l o).guard = match o.guard with
          | none => none
          | some (j, want) => match (l[j]?).bind (·.dst) with
            | some d => some (d, want)
            | none => some (0, want) := rfl
      unfold gdo at hrun
      rw [hins] at hrun
      cases hgd : o.guard with
      | none =>
        simp only [hgd, gws] at hrun
        exact exec hrun (by unfold GdB; rw [hgd])
      | some jw =>
        obtain ⟨j, want⟩ := jw
        have hgo := (List.all_eq_true.1 hp.grd) o (List.mem_of_getElem? ho)
        simp only [hgd] at hgo
        obtain ⟨d, hd⟩ := Option.isSome_iff_exists.1 hgo
        simp only [hgd, hd, gws] at hrun
        have hskip : ∀ x, eget env d = some x → gdec x want = some false → dws P l K r tr (eput o.dst (.tup []) env) s → ∃ ds' σ' tr' env' s' G', DInv P N ρ l pre steps K env0 G0 s0 w0 E ds' σ' tr' env' s' a w G' ∧ ∀ st r, σ' = st :: r → st.waits = true ∧ ¬ E st.idx := by
          intro x hx hgx hr2
          have hne : ∀ t, dstI l i ≠ some t → eget (eput o.dst (.tup []) env) t = eget env t := fun t ht => by rw [eget_eput, if_neg (by rw [← hdst]; exact ht)]
          refine go _ _ hne (fun _ _ => rfl) hr2 ⟨o, ho, hlight, .inr ⟨?_, fun t ht => by rw [eget_eput, if_pos ht]⟩⟩
          unfold GdB; rw [hgd]
          exact ⟨d, x, hd, (rd_of hp h ho (by simp [gslot, hgd, hd]) hx hnd).put hp hne hlin hnd, hgx⟩
        split at hrun
        case h_3 => cases hrun
        case h_2 => rename_i hb; exact hskip _ hb rfl hrun
        rename_i b hb
        have hrd : ∀ v, Rd l pre (eput o.dst v env) env0 i d (.bool b) := fun v =>
          (rd_of hp h ho (by simp [gslot, hgd, hd]) hb hnd).put hp (fun t ht => by rw [eget_eput, if_neg (by rw [← hdst]; exact ht)]) hlin hnd
        by_cases hbw : b = want
        · exact exec (hrun.1 hbw) (by
            unfold GdB; rw [hgd]
            exact ⟨d, .bool b, hd, hrd _, by simp [hbw, gdec]⟩)
        · exact hskip _ hb (by simp [gdec, hbw]) (hrun.2 (by cases b <;> cases want <;> simp_all))
    | heavy i chk =>
      by_cases hE : E i
      · exfalso
        rcases h.sub i hE with hi | ⟨hi, _⟩
        · exact hnd hi
        · have := step_idx_eq hp (st := .alloc i) (st2 := .heavy i chk) (by rw [h.split]; simp only [List.mem_append]; exact .inr hi) hmem rfl
          cases this
      · exact ⟨ds, _, tr, env, s, G, h, fun st r' e => by cases e; exact ⟨rfl, hE⟩⟩
    | alloc i =>
      by_cases hE : E i
      · -- it has been made already
        simp only [Step.idx] at *
        rcases h.sub i hE with hi | ⟨_, he⟩
        · exact absurd hi hnd
        · obtain ⟨o', t, ty, z, b, cs, e, h1, h2, h3, h4, h5, h6, h8, h9, h10, h11⟩ := he
          rw [ho] at h1; cases h1
          simp only [dws, ho, h2, aop, h4] at hrun
          unfold aNew at hrun
          split at hrun
          case h_2 => cases hrun
          rename_i v s1 hq
          split at hq
          case isFalse => cases hq
          rename_i hc
          cases hq
          obtain ⟨q1, q2, q3⟩ := h.sim.adopt h.ext h6 h8 h9 h10 h11 hc.1 hc.2 (fun id hid e => by
            subst e
            have h1 := h0.lt _ _ hid
            have h2 := h.ext.cnt
            omega)
          have hdt : dstI l i = some t := by rw [hdst]; exact h3
          have hne : ∀ t', dstI l i ≠ some t' → eget (eput o.dst (.mp s.cnt 0 0) env) t' = eget env t' := fun t' ht => by rw [eget_eput, if_neg (by rw [← hdst]; exact ht)]
          refine adv hp h0 r (ds := ds ++ [.alloc i]) ⟨hsplit', hrun, q1, q2, h.size, ?_, h.known.le q3, h.lt, h.closed, fun j hj => ?_, fun st2 hst hw => ?_, fun t' x hx hn => ?_, fun j hj hjd t' ht x hx => ?_, fun t' ht => ?_, fun j hj hjE => ?_, fun i1 j1 h1 h2 h3 h4 => h.dist i1 j1 h1 h2 (by simp [h3]) (by simp [h4])⟩
          · have : ∀ {dd : List Deferred}, Defs G s dd → Defs (G.put s.cnt ⟨b, 0, z.cells.length, cs.size⟩) ⟨(s.cnt, .cells z.cells.length [z]) :: s.heap, s.cnt + 1⟩ dd := by
              intro dd
              induction dd with
              | nil => intro _; trivial
              | cons d dd ih =>
                rintro ⟨⟨id, r', a1, a2, a3, a4⟩, hr⟩
                refine ⟨⟨id, r', ?_, q3.own _ _ a2, a3, a4⟩, ih hr⟩
                simp only [egetN, egetC]
                rw [if_neg (fun e => by subst e; rw [h.sim.fresh _ (Nat.le_refl _)] at a2; cases a2)]
                exact a1
            exact this h.defs
          · rcases h.sub j hj with hd | ⟨hd, he⟩
            · exact .inl ((hix j).2 (.inl hd))
            · rcases List.mem_cons.1 hd with hd | hd
              · cases hd; exact .inl ((hix _).2 (.inr rfl))
              · refine .inr ⟨hd, ?_⟩
                obtain ⟨oj, tj, tyj, zj, bj, csj, ej, j1, j2, j3, j4, j5, j6, j8, j9, j10, j11⟩ := he
                refine ⟨oj, tj, tyj, zj, bj, csj, ej, j1, j2, j3, j4, j5, j6, j8.mono q3, ?_, j10, j11⟩
                have hji : i ≠ j := fun e => by
                  subst e
                  exact nodup_split hp hsplit' hd ((hix _).2 (.inr rfl))
                rintro ⟨id, blk, r', g1, g2, g3⟩
                by_cases hid : id = s.cnt
                · subst hid
                  simp only [Ghost.put, if_true, Option.some.injEq] at g2
                  subst g2
                  simp only at g3
                  subst g3
                  exact h.dist i j hE hj (by simp) (by simp [hd]) hji t tj hdt (by rw [dstI_some j1]; exact j3) (by rw [h5, j5])
                · simp only [Ghost.put, if_neg hid] at g2
                  simp only [egetN, egetC] at g1
                  rw [if_neg (fun e => hid e.symm)] at g1
                  exact j9 ⟨id, blk, r', g1, g2, g3⟩
          · rcases List.mem_append.1 hst with hst | hst
            · exact h.wait st2 hst hw
            · simp at hst; subst hst; exact hE
          · obtain ⟨p1, p2⟩ := h.s1 t' x hx hn
            exact ⟨p1, p2.mono q3⟩
          · rcases (hix j).1 hjd with hjd | rfl
            · rw [hne t' fun hit => hnd (by rw [plan_dst hp hit ht]; exact hjd)] at hx
              exact (h.s2 j hj hjd t' ht x hx).mono q3
            · rw [hdt] at ht; cases ht
              rw [eget_eput, if_pos h3] at hx
              cases hx
              rw [Array.getD_eq_getD_getElem?, h5]
              have := V.mp (G := G.put s.cnt ⟨b, 0, z.cells.length, cs.size⟩) s.cnt 0 0 ⟨b, 0, z.cells.length, cs.size⟩ (by simp [Ghost.put])
              simpa using this
          · rw [hne t' fun hit => ht i ((hix i).2 (.inr rfl)) hit]
            exact h.e0 t' fun j hj => ht j ((hix j).2 (.inl hj))
          · rcases (hix j).1 hj with hjd | rfl
            · obtain ⟨oj, q4, q5, q6⟩ := h.pend j hjd hjE
              have hpj : ∀ p ∈ preI pre j, p ∈ idxs ds := plan_linear' hp h.split hjd
              have hij : j ≠ i := fun e => hnd (e ▸ hjd)
              have hdj : ∀ t, oj.dst = some t → eget (eput o.dst (.mp s.cnt 0 0) env) t = eget env t := fun t ht => hne t fun hit => hij (plan_dst hp (by rw [dstI_some q4]; exact ht) hit)
              refine ⟨oj, q4, q5, ?_⟩
              rcases q6 with ⟨g, e', v, p1, p2, p3, p4⟩ | ⟨g, p1⟩
              · exact .inl ⟨g.put hp hne hpj hnd, e', v, fun t x hx => (p1 t x hx).put hp hne hpj hnd, light_more q5 (new_id_more h.sim _) p2, fun t ht => by rw [hdj t ht]; exact p3 t ht, p4⟩
              · exact .inr ⟨g.put hp hne hpj hnd, fun t ht => by rw [hdj t ht]; exact p1 t ht⟩
            · exact absurd hE hjE
      · exact ⟨ds, _, tr, env, s, G, h, fun st r' e => by cases e; exact ⟨rfl, hE⟩⟩

end
end Go.Am
