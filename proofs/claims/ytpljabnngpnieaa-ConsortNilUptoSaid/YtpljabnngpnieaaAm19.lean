/-
  The logic AM, part 19: a region that leaves its order open: the rule.
  Own work. No Go text.
-/
import Derived.Test.YtpljabnngpnieaaAm18
namespace Go.Am
open Go.RowKit

section
variable {P : Program} {N : Nat} {ρ : Option Nat} {l : List Oper} {pre : List (List Nat)} {steps : List Step} {K : Env → St → Prop} {env0 : Env} {G0 : Ghost} {s0 : St} {w0 : World}

theorem Sim.grow {s : St} {w : World} {G : Ghost} (h : Sim G s w) (o : Obj) : Sim G s (w.alloc o) ∧ Ext G s w G s (w.alloc o) := by
  refine ⟨⟨fun b i v hi => ?_, fun id b hg => ?_, h.apart, h.clear, h.fresh, h.lt⟩, ⟨.refl G, rfl, rfl, rfl, by simp, fun b hb _ => Below.heap_alloc _ _ _ hb, fun _ _ _ h => .inl h, fun _ _ h => .inl h, fun _ _ h => .inl ⟨_, h⟩, Nat.le_refl _, fun _ h => h, fun _ _ h => h⟩⟩
  · have hb := h.imm_lt hi
    rw [cell_push hb]; exact h.imm b i v hi
  · rcases h.heap id b hg with ⟨r, o', e1, e2, e3⟩ | e
    · exact .inl ⟨r, o', e1, by rw [Below.heap_alloc _ _ _ (h.own_lt hg e1)]; exact e2, e3⟩
    · exact .inr e

theorem filt_lt {p q : Nat → Bool} : ∀ {l : List Nat}, (∀ x ∈ l, q x = true → p x = true) → ∀ {i}, i ∈ l → p i = true → q i = false → (l.filter q).length < (l.filter p).length
  | [], _, i, hi, _, _ => by cases hi
  | x :: r, h, i, hi, hp, hq => by
    have hle : ∀ {l : List Nat}, (∀ x ∈ l, q x = true → p x = true) → (l.filter q).length ≤ (l.filter p).length := fun {l} h => by
      induction l with
      | nil => simp
      | cons y t ih =>
        have ih' := ih fun z hz => h z (by simp [hz])
        simp only [List.filter_cons]
        by_cases hy : q y = true
        · rw [if_pos hy, if_pos (h y (by simp) hy)]; simpa using ih'
        · rw [if_neg hy]
          split
          · simp only [List.length_cons]; omega
          · exact ih'
    simp only [List.filter_cons]
    rcases List.mem_cons.1 hi with rfl | hi
    · rw [if_neg (by simp [hq]), if_pos hp, List.length_cons]
      have := hle (l := r) fun z hz => h z (by simp [hz])
      omega
    · have ih := filt_lt (l := r) (fun z hz => h z (by simp [hz])) hi hp hq
      by_cases hx : q x = true
      · rw [if_pos hx, if_pos (h x (by simp) hx)]; simpa using ih
      · rw [if_neg hx]
        split
        · simp only [List.length_cons]; omega
        · exact ih

theorem ofValue_ne_any {v : Value} {x : AV} (h : ofValue v = some x) : x ≠ .any := by
  unfold ofValue at h
  split at h
  · split at h
    · cases h; simp
    · cases h
  · unfold ofCell at h
    split at h <;> cases h <;> simp

theorem zeroT_ne_any {t : Nat} {x : AV} (h : zeroT P t = some x) : x ≠ .any := by
  unfold zeroT at h
  split at h
  · exact ofValue_ne_any h
  · cases h

theorem guard_val {ops : Array Oper} (hl : ops.toList = l) {E : Nat → Prop} {ds σ : List Step} {tr : List (Nat × Env × AV)} {env : Env} {s : St} {a : Act} {w : World} {G : Ghost} (hp : PlanOk P N l pre steps)
    (h : DInv P N ρ l pre steps K env0 G0 s0 w0 E ds σ tr env s a w G) {i : Nat} {o : Oper} {b : Bool} (hg : GdB l pre env env0 i o b) (hpre : ∀ p ∈ preI pre i, E p) (hd : ∀ p ∈ preI pre i, p ∈ idxs ds) (hni : ¬ E i) :
    Region.wanted o (yielded ops a.tmps) = b := by
  unfold GdB at hg
  unfold Region.wanted
  split at hg
  · rename_i hq; rw [hq]; exact hg.symm
  · rename_i j want hq
    obtain ⟨d, x, h1, h2, h3⟩ := hg
    obtain ⟨q1, q2⟩ := read_ok hp h h2 hpre hd hni
    rw [hq]
    unfold gdec at h3
    have hyy : yielded ops a.tmps j = match a.tmps.getD d undef with
        | .bool b => some b
        | _ => none := by
      unfold yielded
      have : (ops[j]?).bind (·.dst) = some d := by
        rw [← h1]; unfold dstI; rw [← hl]; simp
      rw [this]
      simp only [Option.bind_some]
      have hlt : d < a.tmps.size := by rw [h.size]; exact q1
      rw [Array.getD_eq_getD_getElem?, Array.getElem?_eq_getElem hlt, Option.getD_some]
      generalize a.tmps[d] = v
      cases v <;> rfl
    generalize a.tmps.getD d undef = v at q2 hyy
    split at h3
    · rename_i c want
      cases q2
      simp only at hyy
      simp only [hyy]
      cases h3
      cases c <;> cases want <;> rfl
    · cases q2
      simp only at hyy
      simp only [hyy]
      cases h3
      rfl
    · cases h3

theorem put_tmps {a : Act} {d : Option Nat} {v : Value} {t : Nat} (h : d ≠ some t) : (a.put d v).tmps.getD t undef = a.tmps.getD t undef ∧ (a.put d v).tmps[t]? = a.tmps[t]? := by
  cases d with
  | none => exact ⟨rfl, rfl⟩
  | some d =>
    have hne : d ≠ t := fun e => h (by rw [e])
    simp only [Act.put]
    refine ⟨?_, Array.getElem?_setIfInBounds_ne hne⟩
    rw [Array.getD_eq_getD_getElem?, Array.getElem?_setIfInBounds_ne hne, ← Array.getD_eq_getD_getElem?]

theorem put_tmps_same {a : Act} {t : Nat} {v : Value} (h : t < a.tmps.size) : (a.put (some t) v).tmps.getD t undef = v ∧ (a.put (some t) v).tmps[t]? = some v := by
  simp [Act.put, Array.getD_eq_getD_getElem?, h]

theorem put_size (a : Act) (d : Option Nat) (v : Value) : (a.put d v).tmps.size = a.tmps.size := by cases d <;> simp [Act.put]
theorem put_defers' (a : Act) (d : Option Nat) (v : Value) : (a.put d v).defers = a.defers := by cases d <;> rfl

/-- A light operation that was walked is carried out. -/
theorem done_light {E : Nat → Prop} {ds σ : List Step} {tr : List (Nat × Env × AV)} {env : Env} {s : St} {a : Act} {w w' : World} {G G' : Ghost} (hp : PlanOk P N l pre steps) (h0 : Sim G0 s0 w0)
    (h : DInv P N ρ l pre steps K env0 G0 s0 w0 E ds σ tr env s a w G) {i : Nat} {o : Oper} (ho : l[i]? = some o) (hi : i ∈ idxs ds) (hni : ¬ E i) (hpre : ∀ p ∈ preI pre i, E p) {v : Value}
    (hv : ∀ t, o.dst = some t → ∀ x, eget env t = some x → V G' x v) (hs : Sim G' s w') (hx : Ext G s w G' s w') {E' : Nat → Prop} (hE : ∀ j, E' j ↔ E j ∨ j = i) :
    DInv P N ρ l pre steps K env0 G0 s0 w0 E' ds σ tr env s (a.put o.dst v) w' G' := by
  have hdst := dstI_some ho
  refine ⟨h.split, h.run, hs, h.ext.trans h0 hx, by rw [put_size]; exact h.size, by rw [put_defers']; exact h.defs.ext hx, h.known.le hx.le, fun j hj => ?_, fun j hj p hpp => ?_, fun j hj => ?_, fun st hst hw => (hE _).2 (.inl (h.wait st hst hw)), fun t x hxx hn => ?_, fun j hj hjd t ht x hxx => ?_, h.e0, fun j hj hjE => ?_, fun i1 j1 h1 h2 h3 h4 hij t1 t2 d1 d2 => ?_⟩
  · rcases (hE j).1 hj with hj | rfl
    · exact h.lt j hj
    · exact (List.getElem?_eq_some_iff.1 ho).1
  · rcases (hE j).1 hj with hj | rfl
    · exact (hE p).2 (.inl (h.closed j hj p hpp))
    · exact (hE p).2 (.inl (hpre p hpp))
  · rcases (hE j).1 hj with hj | rfl
    · rcases h.sub j hj with hd | ⟨hd, he⟩
      · exact .inl hd
      · refine .inr ⟨hd, he.later h.sim hx fun t ht => (put_tmps fun e => ?_).2⟩
        have := plan_dst hp (by rw [hdst]; exact e) ht
        subst this; exact hni hj
    · exact .inl hi
  · have h1 : o.dst ≠ some t := fun e => hn i ((hE i).2 (.inr rfl)) (by rw [hdst]; exact e)
    rw [(put_tmps h1).1]
    obtain ⟨q1, q2⟩ := h.s1 t x hxx fun j hj => hn j ((hE j).2 (.inl hj))
    exact ⟨q1, q2.mono hx.le⟩
  · rcases (hE j).1 hj with hj | rfl
    · have h1 : o.dst ≠ some t := fun e => by
        have := plan_dst hp (by rw [hdst]; exact e) ht
        subst this; exact hni hj
      rw [(put_tmps h1).1]
      exact (h.s2 j hj hjd t ht x hxx).mono hx.le
    · rw [hdst] at ht
      have hlt : t < a.tmps.size := by
        have h2 := (List.all_eq_true.1 hp.dstN) o (List.mem_of_getElem? ho)
        rw [ht] at h2
        rw [h.size]; simpa [okDst] using h2
      rw [ht, (put_tmps_same hlt).1]
      exact hv t ht x hxx
  · exact h.pend j hj fun e => hjE ((hE j).2 (.inl e))
  · have old : ∀ {k tk}, E' k → Step.alloc k ∈ σ → dstI l k = some tk → E k ∧ (a.put o.dst v).tmps[tk]? = a.tmps[tk]? := fun {k tk} hk hkσ hkt => by
      rcases (hE k).1 hk with hk | rfl
      · refine ⟨hk, (put_tmps fun e => ?_).2⟩
        have := plan_dst hp (by rw [hdst]; exact e) hkt
        subst this; exact hni hk
      · exact absurd hi (nodup_split hp h.split hkσ)
    obtain ⟨e1, e2⟩ := old h1 h3 d1
    obtain ⟨e3, e4⟩ := old h2 h4 d2
    rw [e2, e4]
    exact h.dist i1 j1 e1 e3 h3 h4 hij t1 t2 d1 d2

/-- The operation that was waited for is carried out. -/
theorem done_wait {E : Nat → Prop} {ds r : List Step} {st : Step} {tr : List (Nat × Env × AV)} {env : Env} {s s' : St} {a : Act} {w w' : World} {G G' : Ghost} (hp : PlanOk P N l pre steps) (h0 : Sim G0 s0 w0)
    (h : DInv P N ρ l pre steps K env0 G0 s0 w0 E ds (st :: r) tr env s a w G) {o : Oper} (ho : l[st.idx]? = some o) (hni : ¬ E st.idx) (hpre : ∀ p ∈ preI pre st.idx, E p) {v : Value} {env' : Env}
    (hne : ∀ t, o.dst ≠ some t → eget env' t = eget env t) (hv : ∀ t, o.dst = some t → ∀ x, eget env' t = some x → V G' x v) (hs : Sim G' s' w') (hx : Ext G s w G' s' w')
    (hrun : dws P l K r tr env' s') (hpend : ∀ j ∈ idxs ds, ¬ E j → ∀ oj e v, l[j]? = some oj → isLight oj.op = true → aop P oj.op e s = some (v, s) → ((∃ st ∈ steps, st = .light j true) → findT tr j = some (e, v)) → j ∉ preI pre st.idx → aop P oj.op e s' = some (v, s'))
    {E' : Nat → Prop} (hE : ∀ j, E' j ↔ E j ∨ j = st.idx) :
    DInv P N ρ l pre steps K env0 G0 s0 w0 E' (ds ++ [st]) r tr env' s' (a.put o.dst v) w' G' := by
  have hdst := dstI_some ho
  have hnd : st.idx ∉ idxs ds := nodup_split hp h.split (by simp)
  have hix : ∀ j, j ∈ idxs (ds ++ [st]) ↔ j ∈ idxs ds ∨ j = st.idx := fun j => by simp [idxs]
  have hne' : ∀ t, dstI l st.idx ≠ some t → eget env' t = eget env t := fun t ht => hne t (by rw [← hdst]; exact ht)
  have hmem : st ∈ steps := by rw [h.split]; simp
  refine ⟨by rw [h.split]; simp, hrun, hs, h.ext.trans h0 hx, by rw [put_size]; exact h.size, by rw [put_defers']; exact h.defs.ext hx, h.known.le hx.le, fun j hj => ?_, fun j hj p hpp => ?_, fun j hj => ?_, fun st2 hst hw => ?_, fun t x hxx hn => ?_, fun j hj hjd t ht x hxx => ?_, fun t ht => ?_, fun j hj hjE => ?_, fun i1 j1 h1 h2 h3 h4 hij t1 t2 d1 d2 => ?_⟩
  · rcases (hE j).1 hj with hj | rfl
    · exact h.lt j hj
    · exact (List.getElem?_eq_some_iff.1 ho).1
  · rcases (hE j).1 hj with hj | rfl
    · exact (hE p).2 (.inl (h.closed j hj p hpp))
    · exact (hE p).2 (.inl (hpre p hpp))
  · rcases (hE j).1 hj with hj | rfl
    · rcases h.sub j hj with hd | ⟨hd, he⟩
      · exact .inl ((hix j).2 (.inl hd))
      · rcases List.mem_cons.1 hd with hd | hd
        · exfalso; rw [← hd] at hni; exact hni hj
        · refine .inr ⟨hd, he.later h.sim hx fun t ht => (put_tmps fun e => ?_).2⟩
          have := plan_dst hp (by rw [hdst]; exact e) ht
          subst this; exact hni hj
    · exact .inl ((hix _).2 (.inr rfl))
  · rcases List.mem_append.1 hst with hst | hst
    · exact (hE _).2 (.inl (h.wait st2 hst hw))
    · simp at hst; subst hst; exact (hE _).2 (.inr rfl)
  · have h1 : o.dst ≠ some t := fun e => hn st.idx ((hE _).2 (.inr rfl)) (by rw [hdst]; exact e)
    rw [(put_tmps h1).1]
    obtain ⟨q1, q2⟩ := h.s1 t x hxx fun j hj => hn j ((hE j).2 (.inl hj))
    exact ⟨q1, q2.mono hx.le⟩
  · rcases (hE j).1 hj with hj | rfl
    · have h1 : o.dst ≠ some t := fun e => by
        have := plan_dst hp (by rw [hdst]; exact e) ht
        subst this; exact hni hj
      rw [(put_tmps h1).1]
      rw [hne t h1] at hxx
      rcases (hix j).1 hjd with hjd | rfl
      · exact (h.s2 j hj hjd t ht x hxx).mono hx.le
      · exact absurd hj hni
    · rw [hdst] at ht
      have hlt : t < a.tmps.size := by
        have h2 := (List.all_eq_true.1 hp.dstN) o (List.mem_of_getElem? ho)
        rw [ht] at h2
        rw [h.size]; simpa [okDst] using h2
      rw [ht, (put_tmps_same hlt).1]
      exact hv t ht x hxx
  · rw [hne' t fun hit => ht st.idx ((hix _).2 (.inr rfl)) hit]
    exact h.e0 t fun j hj => ht j ((hix j).2 (.inl hj))
  · have hnE : ¬ E j := fun e => hjE ((hE j).2 (.inl e))
    rcases (hix j).1 hj with hjd | rfl
    · obtain ⟨oj, q4, q5, q6⟩ := h.pend j hjd hnE
      have hpj : ∀ p ∈ preI pre j, p ∈ idxs ds := plan_linear' hp h.split hjd
      have hij : j ≠ st.idx := fun e => hnd (e ▸ hjd)
      have hdj : ∀ t, oj.dst = some t → eget env' t = eget env t := fun t ht => hne' t fun hit => hij (plan_dst hp (by rw [dstI_some q4]; exact ht) hit)
      have hjp : j ∉ preI pre st.idx := fun e => hnE (hpre j e)
      refine ⟨oj, q4, q5, ?_⟩
      rcases q6 with ⟨g, e', v', p1, p2, p3, p4⟩ | ⟨g, p1⟩
      · exact .inl ⟨g.put hp hne' hpj hnd, e', v', fun t x hx => (p1 t x hx).put hp hne' hpj hnd, hpend j hjd hnE oj e' v' q4 q5 p2 p4 hjp, fun t ht => by rw [hdj t ht]; exact p3 t ht, p4⟩
      · exact .inr ⟨g.put hp hne' hpj hnd, fun t ht => by rw [hdj t ht]; exact p1 t ht⟩
    · exact absurd ((hE _).2 (.inr rfl)) hjE
  · have hsp : steps = (ds ++ [st]) ++ r := by rw [h.split]; simp
    have old : ∀ {k tk}, E' k → Step.alloc k ∈ r → dstI l k = some tk → E k ∧ (a.put o.dst v).tmps[tk]? = a.tmps[tk]? := fun {k tk} hk hkσ hkt => by
      rcases (hE k).1 hk with hk | rfl
      · refine ⟨hk, (put_tmps fun e => ?_).2⟩
        have := plan_dst hp (by rw [hdst]; exact e) hkt
        subst this; exact hni hk
      · exact absurd ((hix _).2 (.inr rfl)) (nodup_split (st := .alloc st.idx) hp hsp hkσ)
    obtain ⟨e1, e2⟩ := old h1 h3 d1
    obtain ⟨e3, e4⟩ := old h2 h4 d2
    rw [e2, e4]
    exact h.dist i1 j1 e1 e3 (by simp [h3]) (by simp [h4]) hij t1 t2 d1 d2

theorem draw_main {ops : Array Oper} (hl : ops.toList = l) (hp : PlanOk P N l pre steps) (h0 : Sim G0 s0 w0) {Q : Exit → Env → St → Prop} (hQ : ∀ env s, K env s → Q .normal env s) (ro : Option Nat) :
    ∀ (fuel : Nat) (listed : Array Bool) (ds σ : List Step) (tr : List (Nat × Env × AV)) (env : Env) (s : St) (a : Act) (w : World) (G : Ghost), listed.size = l.length →
      ((List.range l.length).filter fun i => !listed.getD i false).length ≤ fuel →
      DInv P N ρ l pre steps K env0 G0 s0 w0 (fun i => listed.getD i false = true) ds σ tr env s a w G → (∀ st r, σ = st :: r → st.waits = true ∧ ¬ listed.getD st.idx false = true) →
      wpAnyIn (fen ro) 0 P .any ops (After G0 N ρ s0 w0 Q) fuel listed a w := by
  have hlen : ops.size = l.length := by rw [← hl]; simp
  -- nothing is ready: all is done
  have fin : ∀ (listed : Array Bool) (ds σ : List Step) (tr : List (Nat × Env × AV)) (env : Env) (s : St) (a : Act) (w : World) (G : Ghost), listed.size = l.length →
      DInv P N ρ l pre steps K env0 G0 s0 w0 (fun i => listed.getD i false = true) ds σ tr env s a w G → (∀ st r, σ = st :: r → st.waits = true ∧ ¬ listed.getD st.idx false = true) →
      (∀ i, i < l.length → listed.getD i false = true) → After G0 N ρ s0 w0 Q .normal a w := by
    intro listed ds σ tr env s a w G hsz h hn hall
    have hσ : σ = [] := by
      cases σ with
      | nil => rfl
      | cons st r =>
        exfalso
        exact (hn st r rfl).2 (hall _ (hp.perm.1 st (by rw [h.split]; simp)))
    subst hσ
    have hin : ∀ i, i < l.length → i ∈ idxs ds := fun i hi => by
      rcases h.sub i (hall i hi) with hd | ⟨hd, _⟩
      · exact hd
      · cases hd
    refine ⟨G, env, s, ⟨h.sim, fun t x hx => ?_, h.size, h.defs, h.known⟩, h.ext, hQ _ _ h.run⟩
    by_cases hw : ∃ i, dstI l i = some t
    · obtain ⟨i, hi⟩ := hw
      have hil := dst_lt hi
      refine ⟨?_, h.s2 i (hall i hil) (hin i hil) t hi x hx⟩
      obtain ⟨o, ho⟩ : ∃ o, l[i]? = some o := ⟨_, List.getElem?_eq_getElem hil⟩
      have h2 := (List.all_eq_true.1 hp.dstN) o (List.mem_of_getElem? ho)
      rw [dstI_some ho] at hi
      rw [hi] at h2
      rw [h.size]; simpa [okDst] using h2
    · rw [h.e0 t fun i _ hi => hw ⟨i, hi⟩] at hx
      obtain ⟨q1, q2⟩ := h.s1 t x hx fun i _ hi => hw ⟨i, hi⟩
      exact ⟨by rw [h.size]; exact q1, q2⟩
  -- what is ready has all ahead of it done
  have rdy : ∀ (listed : Array Bool) (i : Nat), listed.size = l.length → i ∈ Region.ready .any ops listed → i < l.length ∧ listed.getD i false = false ∧ ∀ o, l[i]? = some o → ∀ p ∈ direct o, listed.getD p false = true := by
    intro listed i hsz hi
    unfold Region.ready at hi
    rw [List.mem_filter, List.mem_range] at hi
    obtain ⟨h1, h2⟩ := hi
    rw [hlen] at h1
    simp only [Bool.and_eq_true, Bool.not_eq_true'] at h2
    refine ⟨h1, ?_, fun o ho p hpp => ?_⟩
    · have := h2.1
      have hlt : i < listed.size := by omega
      simp only [Array.getD_eq_getD_getElem?, Array.getElem?_eq_getElem hlt, Option.getD_some] at this ⊢
      exact this
    · have h3 := h2.2
      have hoi : ops[i]? = some o := by rw [← ho, ← hl]; simp
      rw [hoi] at h3
      simp only [Option.map_some, Option.getD_some, Array.all_eq_true_iff_forall_mem, Bool.or_eq_true, Bool.not_eq_true'] at h3
      obtain ⟨e, he, rfl⟩ := List.mem_map.1 hpp
      obtain ⟨he1, he2⟩ := List.mem_filter.1 he
      rcases h3 e (by simpa using he1) with h | h
      · rw [h] at he2; cases he2
      · exact h
  -- something is ready as long as not all is done
  have some_ready : ∀ (listed : Array Bool), listed.size = l.length → Region.ready .any ops listed = [] → ∀ i, i < l.length → listed.getD i false = true := by
    intro listed hsz hr i
    induction i using Nat.strongRecOn with
    | _ i ih =>
      intro hi
      apply Classical.byContradiction
      intro hn
      have hmem : i ∈ Region.ready .any ops listed := by
        unfold Region.ready
        rw [List.mem_filter, List.mem_range]
        refine ⟨by omega, ?_⟩
        obtain ⟨o, ho⟩ : ∃ o, l[i]? = some o := ⟨_, List.getElem?_eq_getElem hi⟩
        have hoi : ops[i]? = some o := by rw [← ho, ← hl]; simp
        have hlt : i < listed.size := by omega
        simp only [Bool.and_eq_true, Bool.not_eq_true', hoi, Option.map_some, Option.getD_some, Array.all_eq_true_iff_forall_mem, Bool.or_eq_true]
        refine ⟨?_, fun e he => ?_⟩
        · simp only [Array.getD_eq_getD_getElem?, Array.getElem?_eq_getElem hlt, Option.getD_some] at hn ⊢
          simpa using hn
        · by_cases hb : Region.binds .any e = true
          · right
            have hd : e.on ∈ direct o := List.mem_map.2 ⟨e, List.mem_filter.2 ⟨by simpa using he, hb⟩, rfl⟩
            have hlt2 := (hp.edges i (List.mem_range.2 hi) o ho).1 e.on hd
            exact ih e.on hlt2 (by omega)
          · left; simpa using hb
      rw [hr] at hmem; cases hmem
  intro fuel
  induction fuel with
  | zero =>
    intro listed ds σ tr env s a w G hsz hf h hn
    have hall : ∀ i, i < l.length → listed.getD i false = true := fun i hi => by
      apply Classical.byContradiction
      intro hq
      have : 0 < ((List.range l.length).filter fun i => !listed.getD i false).length := List.length_pos_of_mem (List.mem_filter.2 ⟨List.mem_range.2 hi, by simpa using hq⟩)
      omega
    refine ⟨?_, fin listed ds σ tr env s a w G hsz h hn hall⟩
    cases hr : Region.ready .any ops listed with
    | nil => rfl
    | cons i r =>
      obtain ⟨q1, q2, _⟩ := rdy listed i hsz (by rw [hr]; simp)
      rw [hall i q1] at q2; cases q2
  | succ fuel ih =>
    intro listed ds σ tr env s a w G hsz hf h hn
    refine ⟨fun hr => fin listed ds σ tr env s a w G hsz h hn (some_ready listed hsz hr), fun i hi => ?_⟩
    obtain ⟨hil, hnl, hdir⟩ := rdy listed i hsz hi
    obtain ⟨o, ho⟩ : ∃ o, l[i]? = some o := ⟨_, List.getElem?_eq_getElem hil⟩
    have hoi : ops[i]? = some o := by rw [← ho, ← hl]; simp
    have hni : ¬ listed.getD i false = true := by rw [hnl]; simp
    have hpre : ∀ p ∈ preI pre i, listed.getD p false = true := fun p hpp => by
      obtain ⟨_, h2⟩ := hp.edges i (List.mem_range.2 hil) o ho
      rcases (h2 p hpp).2 with hd | ⟨d, hd, hpd⟩
      · exact hdir o ho p hd
      · exact h.closed d (hdir o ho d hd) p hpd
    have hsz' : (listed.setIfInBounds i true).size = l.length := by simpa using hsz
    have hlt : i < listed.size := by omega
    have hE : ∀ j, (listed.setIfInBounds i true).getD j false = true ↔ listed.getD j false = true ∨ j = i := fun j => by
      simp only [Array.getD_eq_getD_getElem?, Array.getElem?_setIfInBounds]
      by_cases hj : i = j
      · subst hj; simp [hlt]
      · rw [if_neg hj]
        constructor
        · exact .inl
        · rintro (h | h)
          · exact h
          · exact absurd h.symm hj
    have hf' : ((List.range l.length).filter fun j => !(listed.setIfInBounds i true).getD j false).length ≤ fuel := by
      have := filt_lt (p := fun j => !listed.getD j false) (q := fun j => !(listed.setIfInBounds i true).getD j false) (l := List.range l.length) (fun j _ hq => by
        simp only [Bool.not_eq_true'] at hq ⊢
        cases hb : listed.getD j false with
        | false => rfl
        | true => rw [(hE j).2 (.inl hb)] at hq; cases hq) (List.mem_range.2 hil) (by simp [hnl]) (by simp [(hE i).2 (.inr rfl)])
      omega
    -- on with the rest
    have go : ∀ {ds' σ' : List Step} {tr' : List (Nat × Env × AV)} {env' : Env} {s' : St} {a' : Act} {w' : World} {G' : Ghost},
        DInv P N ρ l pre steps K env0 G0 s0 w0 (fun j => (listed.setIfInBounds i true).getD j false = true) ds' σ' tr' env' s' a' w' G' → wpAnyIn (fen ro) 0 P .any ops (After G0 N ρ s0 w0 Q) fuel (listed.setIfInBounds i true) a' w' := by
      intro ds' σ' tr' env' s' a' w' G' h'
      obtain ⟨ds2, σ2, tr2, env2, s2, G2, h2, hn2⟩ := adv hp h0 σ' h'
      exact ih _ ds2 σ2 tr2 env2 s2 a' w' G2 hsz' hf' h2 hn2
    simp only [wpOpIn, hoi]
    have hdst := dstI_some ho
    by_cases hin : i ∈ idxs ds
    · -- it was walked already
      have hpd : ∀ p ∈ preI pre i, p ∈ idxs ds := plan_linear' hp h.split hin
      obtain ⟨o', q1, hlight, q3⟩ := h.pend i hin hni
      rw [ho] at q1; cases q1
      rcases q3 with ⟨hg, e, v, p1, p2, p3, _⟩ | ⟨hg, p1⟩
      · rw [if_pos (guard_val hl hp h hg hpre hpd hni)]
        have hve : VEnv G e a.tmps := fun t x hx => by
          obtain ⟨r1, r2⟩ := read_ok hp h (p1 t x hx) hpre hpd hni
          exact ⟨by rw [h.size]; exact r1, r2⟩
        obtain ⟨nx, u, G', w', e1, e2, e3, e4, e5⟩ := aop_sound h.sim hve o p2
        refine ⟨fun _ _ => trivial, ?_⟩
        rw [Oper.semAt_eq _ _ _ (fun c => by intro e; rw [e] at hlight; simp [isLight] at hlight), e1]
        have hd' := done_light hp h0 h ho hin hni hpre (v := u) (fun t ht x hx => by rw [p3 t ht] at hx; cases hx; exact e3) e4 e5 hE
        rcases e2 with rfl | ⟨rfl, rfl⟩
        · rw [Oper.uponIn_value]; exact go hd'
        · rw [Oper.uponIn_skip]; exact go hd'
      · rw [if_neg (by rw [guard_val hl hp h hg hpre hpd hni]; simp)]
        exact ⟨fun _ _ => trivial, go (done_light hp h0 h ho hin hni hpre (fun t ht x hx => by rw [p1 t ht] at hx; cases hx; exact .tup [] #[] rfl (by simp)) h.sim (.refl _ _ _) hE)⟩
    · -- it is waited for, or a variable ahead of its place
      have hins : i ∈ steps.map Step.idx := hp.perm.2.1 i (List.mem_range.2 hil)
      rw [h.split, List.map_append, List.mem_append] at hins
      rcases hins with hins | hins
      · exact absurd hins hin
      · cases σ with
        | nil => cases hins
        | cons st r =>
          obtain ⟨hw, hnst⟩ := hn st r rfl
          by_cases his : i = st.idx
          · subst his
            have hmem : st ∈ steps := by rw [h.split]; simp
            have hpd : ∀ p ∈ preI pre st.idx, p ∈ idxs ds := plan_linear hp h.split
            have hrun := h.run
            have hrd : ∀ t ∈ slotsI o ++ gslot l o, ∀ x, eget env t = some x → t < N ∧ V G x (a.tmps.getD t undef) := fun t ht x hx => read_ok hp h (rd_of hp h ho ht hx hin) hpre hpd hni
            cases st with
            | light _ _ => cases hw
            | heavy i chk =>
              simp only [Step.idx] at *
              simp only [dws, ho] at hrun
              unfold gdo at hrun
              have hnow : Now G N ρ (envOf (slotsI o) env) s a w := ⟨h.sim, fun t x hx => by
                obtain ⟨m1, m2⟩ := envOf_get hx
                obtain ⟨r1, r2⟩ := hrd t (by simp [m1]) x m2
                exact ⟨by rw [h.size]; exact r1, r2⟩, h.size, h.defs, h.known⟩
              have exec : ows P o.op (fun v s' => chkAll P l tr s' chk ∧ dws P l K r tr (eput o.dst v env) s') (envOf (slotsI o) env) s → o.wpIn (fen ro) 0 P a w (wpAnyIn (fen ro) 0 P .any ops (After G0 N ρ s0 w0 Q) fuel (listed.setIfInBounds i true)) (After G0 N ρ s0 w0 Q) := by
                intro hows
                refine owp_sound (K := fun v s' => chkAll P l tr s' chk ∧ dws P l K r tr (eput o.dst v env) s') hows hnow ro ?_
                intro v G' x s' w' hv hs hx ⟨hc, hr⟩
                refine go (done_wait (st := .heavy i chk) hp h0 h ho hni hpre (env' := eput o.dst x env) (fun t ht => by rw [eget_eput, if_neg ht]) (fun t ht y hy => by rw [eget_eput, if_pos ht] at hy; cases hy; exact hv) hs hx hr (fun j hj hjE oj e u q1 q2 q3 q4 q5 => ?_) hE)
                by_cases hst : stateless oj.op = true
                · exact stateless_same hst q3
                · have hk : steps[ds.length]? = some (.heavy i chk) := by rw [h.split]; simp
                  have hck := hp.checks ds.length (by rw [List.mem_range, h.split]; simp) _ hk
                  simp only at hck
                  obtain ⟨stj, hstj, rfl⟩ := List.mem_map.1 hj
                  have hstj' : stj ∈ steps.take ds.length := by rw [h.split]; simpa using hstj
                  have h3 := hck stj hstj'
                  cases stj with
                  | light j note =>
                    simp only at h3
                    rcases h3 oj q1 with h4 | h4 | ⟨rfl, h4⟩
                    · exact absurd h4 hst
                    · exact absurd h4 q5
                    · exact chkAll_mem hc j h4 (q4 ⟨_, List.mem_of_mem_take hstj', rfl⟩) q1
                  | heavy j c => exact absurd (h.wait _ hstj rfl) hjE
                  | alloc j => exact absurd (h.wait _ hstj rfl) hjE
              have hinsg : (insOf l o).guard = match o.guard with
                  | none => none
                  | some (j, want) => match (l[j]?).bind (·.dst) with
                    | some d => some (d, want)
                    | none => some (0, want) := rfl
              rw [hinsg] at hrun
              cases hgd : o.guard with
              | none =>
                simp only [hgd, gws] at hrun
                rw [if_pos (by simp [Region.wanted, hgd])]
                exact exec hrun
              | some jw =>
                obtain ⟨j, want⟩ := jw
                have hgo := (List.all_eq_true.1 hp.grd) o (List.mem_of_getElem? ho)
                simp only [hgd] at hgo
                obtain ⟨d, hd⟩ := Option.isSome_iff_exists.1 hgo
                simp only [hgd, hd, gws] at hrun
                have hskip : ∀ x, eget env d = some x → gdec x want = some false → dws P l K r tr (eput o.dst (.tup []) env) s → _ := fun x hx hgx hr2 => by
                  have hgb : GdB l pre env env0 i o false := by
                    unfold GdB; rw [hgd]
                    exact ⟨d, x, hd, rd_of hp h ho (by simp [gslot, hgd, hd]) hx hin, hgx⟩
                  have hwant := guard_val hl hp h hgb hpre hpd hni
                  exact (by
                    rw [if_neg (by rw [hwant]; simp)]
                    exact ⟨fun _ _ => trivial, go (done_wait (st := .heavy i chk) hp h0 h ho hni hpre (env' := eput o.dst (.tup []) env) (fun t ht => by rw [eget_eput, if_neg ht]) (fun t ht y hy => by rw [eget_eput, if_pos ht] at hy; cases hy; exact .tup [] #[] rfl (by simp)) h.sim (.refl _ _ _) hr2 (fun j hj hjE oj e u q1 q2 q3 q4 q5 => q3) hE)⟩ : if Region.wanted o (yielded ops a.tmps) = true then o.wpIn (fen ro) 0 P a w (wpAnyIn (fen ro) 0 P .any ops (After G0 N ρ s0 w0 Q) fuel (listed.setIfInBounds i true)) (After G0 N ρ s0 w0 Q) else (∀ f, o.about P w a.eval = some f → (fen ro).fn f) ∧ wpAnyIn (fen ro) 0 P .any ops (After G0 N ρ s0 w0 Q) fuel (listed.setIfInBounds i true) (a.put o.dst undef) w)
                split at hrun
                case h_3 => cases hrun
                case h_2 => rename_i hb; exact hskip _ hb rfl hrun
                rename_i b hb
                have hgb : GdB l pre env env0 i o (b == want) := by
                  unfold GdB; rw [hgd]
                  exact ⟨d, .bool b, hd, rd_of hp h ho (by simp [gslot, hgd, hd]) hb hin, rfl⟩
                have hwant := guard_val hl hp h hgb hpre hpd hni
                by_cases hbw : b = want
                · rw [if_pos (by rw [hwant]; simp [hbw])]
                  exact exec (hrun.1 hbw)
                · exact hskip _ hb (by simp [gdec, hbw]) (hrun.2 (by cases b <;> cases want <;> simp_all))
            | alloc i =>
              simp only [Step.idx] at *
              simp only [dws, ho] at hrun
              obtain ⟨k1, k2, k3⟩ := hp.kinds _ hmem o ho
              rw [if_pos (by simp [Region.wanted, k2])]
              split at hrun
              case h_2 => cases hrun
              rename_i v s' hv
              obtain ⟨nx, u, G', w', e1, e2, e3, e4, e5⟩ := aop_sound (a := a) h.sim (env := []) (fun t x hx => by simp [egetN, egetC] at hx) o hv
              have hmore : ∀ id b, eget s.heap id = some b → eget s'.heap id = some b := by
                cases hop : o.op with
                | alloc t =>
                  rw [hop] at hv
                  simp only [aop] at hv
                  split at hv
                  · unfold aNew at hv
                    split at hv
                    · cases hv; exact new_id_more h.sim _
                    · cases hv
                  · cases hv
                | _ => rw [hop] at k1; exact k1.elim
              refine ⟨fun _ _ => trivial, ?_⟩
              rw [Oper.semAt_eq _ _ _ (fun c => by intro e; rw [e] at k1; exact k1.elim), e1]
              have hd' := done_wait (st := .alloc i) hp h0 h ho hni hpre (v := u) (env' := eput o.dst v env) (fun t ht => by rw [eget_eput, if_neg ht]) (fun t ht y hy => by rw [eget_eput, if_pos ht] at hy; cases hy; exact e3) e4 e5 hrun
                (fun j hj hjE oj e u q1 q2 q3 q4 q5 => light_more q2 hmore q3) hE
              rcases e2 with rfl | ⟨rfl, rfl⟩
              · rw [Oper.uponIn_value]; exact go hd'
              · rw [Oper.uponIn_skip]; exact go hd'
          · -- a variable ahead of its place
            have hir : i ∈ r.map Step.idx := by
              rcases List.mem_cons.1 hins with h | h
              · exact absurd h his
              · exact h
            obtain ⟨st2, hst2, rfl⟩ := List.mem_map.1 hir
            have hk : steps[ds.length]? = some st := by rw [h.split]; simp
            have hws := hp.waits ds.length (by rw [List.mem_range, h.split]; simp) st hk hw st2 (by rw [h.split]; simpa using hst2)
            rcases hws with ha | hpr
            · cases st2 with
              | light _ _ => cases ha
              | heavy _ _ => cases ha
              | alloc i =>
                simp only [Step.idx] at *
                have hmem : Step.alloc i ∈ steps := by rw [h.split]; simp [hst2]
                obtain ⟨k1, k2, k3⟩ := hp.kinds _ hmem o ho
                rw [if_pos (by simp [Region.wanted, k2])]
                obtain ⟨t, ht⟩ := Option.isSome_iff_exists.1 k3
                cases hop : o.op with
                | alloc ty =>
                  rw [hop] at k1
                  simp only at k1
                  obtain ⟨z, hz⟩ := Option.isSome_iff_exists.1 k1
                  obtain ⟨zv, hzr, hzV⟩ := run_zeroT hz w G
                  have hzl := VL.cells hzV (zeroT_ne_any hz)
                  obtain ⟨g1, g2⟩ := h.sim.grow (.cells zv.cells ty)
                  refine ⟨fun _ _ => trivial, ?_⟩
                  have hexec : (execOp a.eval o).run P w = .ok (.value (.pointer (some ⟨w.heap.size, 0, none⟩))) (w.alloc (.cells zv.cells ty)) := by
                    simp [execOp, hop, Instr.alloc, hzr, newVar, newRow]
                  rw [Oper.semAt_eq _ _ _ (fun c => by rw [hop]; simp), hexec, Oper.uponIn_value]
                  have htl : t < a.tmps.size := by
                    have h2 := (List.all_eq_true.1 hp.dstN) o (List.mem_of_getElem? ho)
                    rw [ht] at h2
                    rw [h.size]; simpa [okDst] using h2
                  refine go (ds' := ds) (σ' := st :: r) (tr' := tr) (env' := env) (s' := s) (G' := G) ⟨h.split, h.run, g1, h.ext.trans h0 g2, by rw [put_size]; exact h.size, by rw [put_defers']; exact h.defs, h.known, fun j hj => ?_, fun j hj p hpp => ?_, fun j hj => ?_, fun st3 hst hw => (hE _).2 (.inl (h.wait st3 hst hw)), fun t' x hxx hnn => ?_, fun j hj hjd t' ht' x hxx => ?_, h.e0, fun j hj hjE => ?_, fun i1 j1 h1 h2 h3 h4 hij t1 t2 d1 d2 => ?_⟩
                  · rcases (hE j).1 hj with hj | rfl
                    · exact h.lt j hj
                    · exact hil
                  · rcases (hE j).1 hj with hj | rfl
                    · exact (hE p).2 (.inl (h.closed j hj p hpp))
                    · exact (hE p).2 (.inl (hpre p hpp))
                  · rcases (hE j).1 hj with hj | rfl
                    · rcases h.sub j hj with hd | ⟨hd, he⟩
                      · exact .inl hd
                      · refine .inr ⟨hd, he.later h.sim g2 fun t' ht' => (put_tmps fun e => ?_).2⟩
                        have := plan_dst hp (by rw [hdst]; exact e) ht'
                        subst this; exact hni hj
                    · refine .inr ⟨by simp [hst2], o, t, ty, z, w.heap.size, zv.cells, ty, ho, hop, ht, hz, ?_, ?_, hzl, ?_, fun j => ?_, h.ext.size⟩
                      · rw [ht]; exact (put_tmps_same htl).2
                      · show (w.heap.push _)[w.heap.size]? = _; simp
                      · rintro ⟨id, blk, r', q1, q2, q3⟩
                        have := h.sim.own_lt q1 q2
                        omega
                      · cases hj : G.imm w.heap.size j with
                        | none => rfl
                        | some u => have := h.sim.imm_lt hj; omega
                  · have h1 : o.dst ≠ some t' := fun e => hnn i ((hE i).2 (.inr rfl)) (by rw [hdst]; exact e)
                    rw [(put_tmps h1).1]
                    exact h.s1 t' x hxx fun j hj => hnn j ((hE j).2 (.inl hj))
                  · rcases (hE j).1 hj with hj | rfl
                    · have h1 : o.dst ≠ some t' := fun e => by
                        have := plan_dst hp (by rw [hdst]; exact e) ht'
                        subst this; exact hni hj
                      rw [(put_tmps h1).1]
                      exact h.s2 j hj hjd t' ht' x hxx
                    · exact absurd hjd hin
                  · exact h.pend j hj fun e => hjE ((hE j).2 (.inl e))
                  · have hit : dstI l i = some t := by rw [hdst]; exact ht
                    have hnew : (a.put o.dst (.pointer (some ⟨w.heap.size, 0, none⟩))).tmps[t]? = some (.pointer (some ⟨w.heap.size, 0, none⟩)) := by rw [ht]; exact (put_tmps_same htl).2
                    have old : ∀ {k tk}, listed.getD k false = true → Step.alloc k ∈ st :: r → dstI l k = some tk → (a.put o.dst (.pointer (some ⟨w.heap.size, 0, none⟩))).tmps[tk]? = a.tmps[tk]? ∧ a.tmps[tk]? ≠ some (.pointer (some ⟨w.heap.size, 0, none⟩)) := fun {k tk} hk hkσ hkt => by
                      refine ⟨(put_tmps fun e => ?_).2, ?_⟩
                      · have := plan_dst hp (by rw [hdst]; exact e) hkt
                        subst this; exact hni hk
                      · rcases h.sub k hk with hd | ⟨_, he⟩
                        · exact absurd hd (nodup_split hp h.split hkσ)
                        · obtain ⟨ok, tk', tyk, zk, bk, csk, ek, k1, k2, k3, k4, k5, k6, _⟩ := he
                          have : tk' = tk := by rw [dstI_some k1, k3] at hkt; exact Option.some.inj hkt
                          subst this
                          rw [k5]
                          intro e
                          cases e
                          rw [Array.getElem?_eq_none (Nat.le_refl _)] at k6
                          cases k6
                    rcases (hE i1).1 h1 with g1 | g1 <;> rcases (hE j1).1 h2 with g2 | g2
                    · rw [(old g1 h3 d1).1, (old g2 h4 d2).1]
                      exact h.dist i1 j1 g1 g2 h3 h4 hij t1 t2 d1 d2
                    · subst g2
                      rw [hit] at d2; cases d2
                      rw [(old g1 h3 d1).1, hnew]
                      exact (old g1 h3 d1).2
                    · subst g1
                      rw [hit] at d1; cases d1
                      rw [(old g2 h4 d2).1, hnew]
                      exact fun e => (old g2 h4 d2).2 e.symm
                    · exact absurd (g1.trans g2.symm) hij
                | _ => rw [hop] at k1; exact k1.elim
            · exact absurd (hpre _ hpr) hnst

/-- **A region that leaves its order open**, by the one order that is walked. -/
theorem awp_draw {id : Nat} {ops : Array Oper} {Q : Exit → Env → St → Prop} {env : Env} {s : St} (pre : List (List Nat)) (steps : List Step) (l : List Oper) (hl : ops.toList = l) (hm : P.follows .mixedOrders = true) (hp : PlanOk P N l pre steps)
    (h : dws P l (fun env s => Q .normal env s) steps [] env s) : AWp P N ρ (.region id ops true) Q env s := fun G w a hn => by
  refine wpIn_region_any hm ?_
  have hsz : ops.size = l.length := by rw [← hl]; simp
  have hd : DInv P N ρ l pre steps (fun env s => Q .normal env s) env G s w (fun i => (Array.replicate ops.size false).getD i false = true) [] steps [] env s a { w with drawn := w.drawn + 1 } G := by
    have hno : ∀ i, ¬ (Array.replicate ops.size false).getD i false = true := fun i => by
      simp only [Array.getD_eq_getD_getElem?, Array.getElem?_replicate]
      split <;> simp
    exact ⟨rfl, h, hn.sim.drew, Ext.drew G s w, hn.size, hn.defs, hn.known, fun i hi => absurd hi (hno i), fun i hi => absurd hi (hno i), fun i hi => absurd hi (hno i), (fun st hst => by cases hst),
      (fun t x hx _ => by have := hn.env t x hx; rw [hn.size] at this; exact this), fun i hi => absurd hi (hno i), fun t _ => rfl, (fun i hi => by cases hi), fun i _ hi => absurd hi (hno i)⟩
  obtain ⟨ds', σ', tr', env', s', G', h', hn'⟩ := adv hp hn.sim steps hd
  exact draw_main hl hp hn.sim (fun _ _ h => h) _ ops.size _ ds' σ' tr' env' s' a _ G' (by simp [hsz]) (by rw [hsz]; exact Nat.le_trans (List.length_filter_le _ _) (by simp)) h' hn'

end
end Go.Am
