/-
  The logic AM, part 14: regions, calls, functions.
  Own work. No Go text.
-/
import Derived.Test.YtpljabnngpnieaaAm13
namespace Go.Am
open Go.RowKit

section
variable {P : Program} {N : Nat} {ρ : Option Nat} {Q : Exit → Env → St → Prop} {env : Env} {s : St} {G : Ghost} {a : Act} {w : World}

theorem Now.put {G' : Ghost} {s' : St} {w' : World} {x : AV} {v : Value} {d : Option Nat} (h : Now G N ρ env s a w) (hd : okDst N d = true) (hv : V G' x v) (hs : Sim G' s' w') (hx : Ext G s w G' s' w') :
    Now G' N ρ (eput d x env) s' (a.put d v) w' := by
  refine ⟨hs, ?_, ?_, ?_, h.known.le hx.le⟩
  · intro t y hy
    cases d with
    | none => exact (h.env.mono hx.le) t y hy
    | some d =>
      simp only [okDst, decide_eq_true_eq] at hd
      have hlt : d < a.tmps.size := by rw [h.size]; exact hd
      simp only [Go.Am.eput, get_set] at hy
      simp only [Act.put, Array.size_setIfInBounds]
      split at hy
      · rename_i he; subst he; cases hy
        exact ⟨hlt, by simp [Array.getD_eq_getD_getElem?, hlt]; exact hv⟩
      · rename_i he
        obtain ⟨e1, e2⟩ := (h.env.mono hx.le) t y hy
        refine ⟨e1, ?_⟩
        rw [Array.getD_eq_getD_getElem?, Array.getElem?_setIfInBounds_ne he, ← Array.getD_eq_getD_getElem?]
        exact e2
  · cases d <;> simp [Act.put, h.size]
  · cases d <;> exact h.defs.ext hx

theorem callOf_eq {op : Op} {f : Operand} {l : List Operand} (h : callOf op = some (f, l)) : ∃ args ts, op = .call ⟨.value f, args, ts⟩ ∧ l = args.toList := by
  unfold callOf at h
  split at h
  · cases h; exact ⟨_, _, rfl, rfl⟩
  · cases h

theorem owp_sound {o : Oper} {K : AV → St → Prop} {next : Act → World → Prop} {R : Exit → Act → World → Prop} (h : owp P o K env s) (hn : Now G N ρ env s a w) (ro : Option Nat)
    (hK : ∀ v G' x s' w', V G' x v → Sim G' s' w' → Ext G s w G' s' w' → K x s' → next (a.put o.dst v) w') : o.wpIn (fen ro) 0 P a w next R := by
  refine ⟨fun _ _ => trivial, ?_⟩
  unfold owp at h
  split at h
  · rename_i f args hc
    obtain ⟨arr, ts, hop, rfl⟩ := callOf_eq hc
    have hsem : o.semAt (fen ro).round a.eval = execOp a.eval o := Oper.semAt_eq _ _ _ (fun c => by rw [hop]; simp)
    rw [hsem]
    split at h
    · rename_i g caps l hf hl
      obtain ⟨he, hcall⟩ := h
      have hfv := oper_V hn.env hf
      have hlv := opers_VL hn.env hl
      generalize hq : a.eval f = fv at hfv
      cases hfv with
      | fn _ _ vs h1 h2 =>
        unfold enters at he
        split at he
        case h_2 => cases he
        rename_i fn hfn
        simp only [Bool.and_eq_true, bne_iff_ne, ne_eq] at he
        have hbody : ¬ fn.body = none := by cases hb : fn.body <;> simp [hb] at he ⊢
        have hrun : (execOp a.eval o).run P w = .ok (.enter g (arr.map a.eval ++ vs)) w := by
          simp [execOp, hop, resolve, Deferred.ofValue, hq, invoke, callFunc, hfn, he.1, hbody]
        rw [hrun, Oper.uponIn_enter]
        refine ⟨(fun h => by cases h), ?_⟩
        exact (callsIn_fen (hcall G w _ hn.sim (hlv.append ⟨h1, h2⟩))).mono fun e w' ⟨v, G', x, s', e1, e2, e3, e4, e5⟩ => by subst e1; exact hK v G' x s' w' e2 e3 e4 e5
    · rename_i id l hf hl
      have hfv := oper_V hn.env hf
      have hlv := opers_VL hn.env hl
      generalize hq : a.eval f = fv at hfv
      cases hfv with
      | yld _ r ho =>
        obtain ⟨fn, tmps, assign, body, y1, y2⟩ := h ro G w r _ hn.sim ho hlv
        have hrun : (execOp a.eval o).run P w = .ok (.round r.block fn tmps assign body) w := by
          simp [execOp, hop, resolve, Deferred.ofValue, hq, invoke, y1]
        rw [hrun, Oper.uponIn_round]
        refine ⟨(fun h => by cases h), ?_⟩
        exact y2.mono fun e w' ⟨v, G', x, s', e1, e2, e3, e4, e5⟩ => by subst e1; exact hK v G' x s' w' e2 e3 e4 e5
    · cases h
  · split at h
    case h_2 => cases h
    rename_i x s' hx
    have hsem : o.semAt (fen ro).round a.eval = execOp a.eval o := Oper.semAt_eq _ _ _ (fun c => by
      intro e; rw [e] at hx; simp [aop] at hx)
    rw [hsem]
    obtain ⟨nx, v, G', w', e1, e2, e3, e4, e5⟩ := aop_sound hn.sim hn.env o hx
    rw [e1]
    rcases e2 with rfl | ⟨rfl, rfl⟩
    · rw [Oper.uponIn_value]; exact hK v G' x s' w' e3 e4 e5 h
    · rw [Oper.uponIn_skip]; exact hK undef G' x s' w' e3 e4 e5 h

theorem gwp_sound {ops : Array Oper} {o : Oper} {A B : Prop} (h : gwp ops o env A B) (hv : VEnv G env a.tmps) :
    (Region.wanted o (yielded ops a.tmps) = true ∧ A) ∨ (Region.wanted o (yielded ops a.tmps) = false ∧ B) := by
  unfold gwp at h
  unfold Region.wanted
  split at h
  · rename_i hg; exact .inl ⟨by simp [hg], h⟩
  · rename_i j want hg
    split at h
    case h_2 => cases h
    rename_i d hd
    split at h
    · rename_i b hb
      obtain ⟨e1, e2⟩ := hv d _ hb
      have hy : yielded ops a.tmps j = some b := by
        unfold yielded
        rw [hd]
        simp only [Option.bind_some]
        rw [Array.getD_eq_getD_getElem?, Array.getElem?_eq_getElem e1, Option.getD_some] at e2
        rw [Array.getElem?_eq_getElem e1]
        generalize a.tmps[d] = v at e2
        cases e2; rfl
      rw [hg]
      simp only [hy]
      by_cases hbw : b = want
      · exact .inl ⟨by simp [hbw], h.1 hbw⟩
      · exact .inr ⟨by simp [hbw], h.2 (by cases b <;> cases want <;> simp_all)⟩
    · rename_i hb
      obtain ⟨e1, e2⟩ := hv d _ hb
      have hy : yielded ops a.tmps j = none := by
        unfold yielded
        rw [hd]
        simp only [Option.bind_some]
        rw [Array.getD_eq_getD_getElem?, Array.getElem?_eq_getElem e1, Option.getD_some] at e2
        rw [Array.getElem?_eq_getElem e1]
        generalize a.tmps[d] = v at e2
        cases e2; rfl
      rw [hg]
      simp only [hy]
      exact .inr ⟨by simp, h⟩
    · cases h

theorem rwp_sound {ops : Array Oper} {G0 : Ghost} {s0 : St} {w0 : World} (h0 : Sim G0 s0 w0) (ro : Option Nat) : ∀ (l : List Oper) (k : Nat) (env : Env) (s : St) (G : Ghost) (a : Act) (w : World), ops.toList.drop k = l →
    Now G N ρ env s a w → Ext G0 s0 w0 G s w → rwp P N ops (fun env s => Q .normal env s) l env s → wpOpsIn (fen ro) 0 P ops (After G0 N ρ s0 w0 Q) (List.range' k l.length) a w
  | [], k, env, s, G, a, w, _, hn, hx, h => ⟨G, env, s, hn, hx, h⟩
  | o :: r, k, env, s, G, a, w, hl, hn, hx, h => by
    have ho : ops[k]? = some o := by
      have := congrArg (fun l : List Oper => l[0]?) hl
      simpa [List.getElem?_drop] using this
    have hr : ops.toList.drop (k + 1) = r := by rw [← List.drop_drop, hl]; rfl
    obtain ⟨hd, h⟩ := h
    rw [List.length_cons, List.range'_succ]
    simp only [wpOpsIn, ho]
    rcases gwp_sound h hn.env with ⟨hw, h⟩ | ⟨hw, h⟩
    · rw [if_pos hw]
      exact owp_sound h hn ro fun v G' x s' w' hv hs he hk => rwp_sound h0 ro r (k + 1) _ _ G' _ w' hr (hn.put hd hv hs he) (hx.trans h0 he) hk
    · rw [if_neg (by simp [hw])]
      exact ⟨fun _ _ => trivial, rwp_sound h0 ro r (k + 1) _ _ G _ w hr (hn.put hd (.tup [] #[] rfl (by simp)) hn.sim (.refl _ _ _)) hx h⟩

theorem awp_region {id : Nat} {ops : Array Oper} (h : rwp P N ops (fun env s => Q .normal env s) ops.toList env s) : AWp P N ρ (.region id ops false) Q env s := fun G w a hn => by
  refine wpIn_region ?_
  rw [List.range_eq_range']
  exact rwp_sound hn.sim _ ops.toList 0 env s G a w rfl hn (.refl _ _ _) h

/-! ### Functions -/

/-- The results of a function, as abstract values. -/
def aRes (P : Program) (env : Env) (s : St) : ResultVar → Option AV
  | .tmp t => eget env t
  | .cell t ty => match eget env t with
    | some p => aLoad P ty p s
    | none => none

def aResL (P : Program) (env : Env) (s : St) : List ResultVar → Option (List AV)
  | [] => some []
  | r :: l => match aRes P env s r, aResL P env s l with
    | some x, some xs => some (x :: xs)
    | _, _ => none

def aResults (P : Program) (rs : Array ResultVar) (env : Env) (s : St) : Option AV := match aResL P env s rs.toList with
  | some [x] => some x
  | some l => some (.tup l)
  | none => none

/-- One result. -/
def resOf (tmps : Array Value) (r : ResultVar) : Sem Value := match r with
  | .tmp t => pure (tmps.getD t undef)
  | .cell a t => do loadVar t (← asAddr (tmps.getD a undef))

theorem aResL_V (hs : Sim G s w) {w2 : World} (hw : ∀ a, w2.cell? a = w.cell? a) {tmps : Array Value} (he : VEnv G env tmps) : ∀ {l : List ResultVar} {xs : List AV}, aResL P env s l = some xs →
    ∃ vs : List Value, (l.mapM (resOf tmps)).run P w2 = .ok vs w2 ∧ VL G xs vs.toArray
  | [], xs, h => by simp [aResL] at h; subst h; exact ⟨[], rfl, rfl, by simp⟩
  | r :: l, xs, h => by
    simp only [aResL] at h
    split at h
    case h_2 => cases h
    rename_i x ys hx hys
    cases h
    obtain ⟨vs, e1, e2⟩ := aResL_V hs hw he hys
    have one : ∃ v, (resOf tmps r).run P w2 = .ok v w2 ∧ V G x v := by
      cases r with
      | tmp t => exact ⟨_, rfl, (he t x hx).2⟩
      | cell t ty =>
        simp only [aRes] at hx
        split at hx
        case h_2 => cases hx
        rename_i p hp
        unfold aLoad at hx
        split at hx
        case h_2 => cases hx
        rename_i cs hcs
        obtain ⟨b, o, hpv, ht⟩ := cellsAt_there hs (he t p hp).2 hcs
        have ht2 : There G w2 b o cs := fun k x hx => by rw [hw]; exact ht k x hx
        obtain ⟨v, r1, r2⟩ := ht2.read (P := P) hx
        exact ⟨v, by simp [resOf, hpv, asAddr, r1], r2⟩
    obtain ⟨v, o1, o2⟩ := one
    refine ⟨v :: vs, by simp [List.mapM_cons, o1, e1], by simpa using e2.1, fun i p q hp hq => ?_⟩
    cases i with
    | zero => simp at hp hq; subst hp; subst hq; exact o2
    | succ i => exact e2.2 i p q (by simpa using hp) (by simpa using hq)

theorem aResults_V (hs : Sim G s w) {w2 : World} (hw : ∀ a, w2.cell? a = w.cell? a) {tmps : Array Value} (he : VEnv G env tmps) {fn : Func} {x : AV} (h : aResults P fn.results env s = some x) :
    ∃ v, (results fn tmps).run P w2 = .ok v w2 ∧ V G x v := by
  unfold aResults at h
  have key : ∀ xs, aResL P env s fn.results.toList = some xs → ∃ vs : List Value, (results fn tmps).run P w2 = .ok (if h : vs.toArray.size = 1 then vs.toArray[0] else .tuple vs.toArray) w2 ∧ VL G xs vs.toArray := by
    intro xs hxs
    obtain ⟨vs, e1, e2⟩ := aResL_V (P := P) hs hw he hxs
    refine ⟨vs, ?_, e2⟩
    have hr : results fn tmps = (do let vs ← fn.results.mapM (resOf tmps); pure (if h : vs.size = 1 then vs[0] else .tuple vs)) := by
      unfold results
      congr 1
    rw [hr, Sem.run_bind, Array.mapM_eq_mapM_toList, Sem.run_map, e1]
    try rfl
  split at h
  · rename_i y hy
    cases h
    obtain ⟨vs, e1, e2⟩ := key _ hy
    have hl : vs.length = 1 := by simpa using e2.1.symm
    match vs, hl with
    | [v], _ => exact ⟨v, by simpa using e1, e2.2 0 x v rfl rfl⟩
  · rename_i l hl hne
    cases h
    obtain ⟨vs, e1, e2⟩ := key _ hne
    have hlen : ¬ vs.toArray.size = 1 := fun hh => by
      rw [← e2.1] at hh
      match l, hh with
      | [y], _ => exact hl y rfl
    rw [dif_neg hlen] at e1
    exact ⟨_, e1, .tup _ _ e2.1 e2.2⟩
  · cases h

/-- A state that says no more than another one, and nothing of marks. -/
def Less (s' s : St) : Prop := (∀ id b, eget s'.heap id = some b → eget s.heap id = some b ∧ b ≠ .dfr) ∧ s.cnt ≤ s'.cnt

/-- What the end of a function's body must be. -/
def FinQ (P : Program) (rs : Array ResultVar) (K : AV → St → Prop) : Exit → Env → St → Prop
  | .normal, env, s | .ret, env, s => ∃ x s', aResults P rs env s = some x ∧ Less s' s ∧ K x s'
  | _, _, _ => False

def argEnv (l : List AV) : Nat → Env
  | k => match l with
    | [] => []
    | x :: r => (k, x) :: argEnv r (k + 1)

theorem get_argEnv : ∀ (l : List AV) (k t : Nat) (x : AV), eget (argEnv l k) t = some x → k ≤ t ∧ l[t - k]? = some x
  | [], k, t, x, h => by simp [argEnv, egetN, egetC] at h
  | y :: r, k, t, x, h => by
    simp only [argEnv, egetN, egetC] at h
    split at h
    · rename_i he; subst he; cases h; simp
    · obtain ⟨h1, h2⟩ := get_argEnv r (k + 1) t x h
      refine ⟨by omega, ?_⟩
      rw [show t - k = (t - (k + 1)) + 1 from by omega]
      simpa using h2

/-- The marks of an activation have been taken up. -/
structure Shut (G : Ghost) (s : St) (w w' : World) : Prop where
  size : w'.heap.size = w.heap.size
  os : w'.os = w.os
  tape : w'.tape = w.tape
  output : w'.output = w.output
  heap : ∀ b : Nat, w'.heap[b]? = w.heap[b]? ∨ ((∃ x, w.heap[b]? = some (.deferred x)) ∧ (∃ y, w'.heap[b]? = some (.deferred y)) ∧ ∃ id r, eget s.heap id = some .dfr ∧ G.own id = some r ∧ r.block = b)

theorem Shut.refl (G : Ghost) (s : St) (w : World) : Shut G s w w := ⟨rfl, rfl, rfl, rfl, fun _ => .inl rfl⟩

theorem Shut.cell {w' : World} (h : Shut G s w w') (x : Addr) : w'.cell? x = w.cell? x := by
  rcases h.heap x.block with e | ⟨⟨y, e1⟩, ⟨z, e2⟩, _⟩
  · exact World.cell?_of_block (w := w) e
  · simp [World.cell?, e1, e2]

theorem leaves_marks {F : Fence} {fn : Func} {tmps : Array Value} {R : Ending → World → Prop} : ∀ (ds : List Deferred) (s : St) (w : World), Sim G s w → Defs G s ds →
    (∀ w', Shut G s w w' → ∃ v, (results fn tmps).run P w' = .ok v w' ∧ R (.returned v) w') → LeavesInM F 0 P fn tmps R ds .returning w
  | [], s, w, hs, _, h => by
    obtain ⟨v, h1, h2⟩ := h w (.refl _ _ _)
    exact ⟨v, h1, h2⟩
  | d :: ds, s, w, hs, ⟨⟨id, r, hg, ho, ht, hne⟩, hr⟩, h => by
    obtain ⟨o, e2, e3⟩ := hs.at hg ho
    cases e3
    refine ⟨by simp, .inl ⟨r.block, { w with heap := w.heap.setIfInBounds r.block (.deferred none) }, ht, ?_, ?_⟩⟩
    · simp [Instr.takeDeferred, getObj, setObj, Sem.run, e2]
    · have hlt : r.block < w.heap.size := (Array.getElem?_eq_some_iff.1 e2).1
      have gd : ∀ i b, eget (edel s.heap id) i = some b → i ≠ id ∧ eget s.heap i = some b := fun i b hi => by
        rw [get_del] at hi
        split at hi
        · cases hi
        · exact ⟨by omega, hi⟩
      have hk : ∀ b, b ≠ r.block → (w.heap.setIfInBounds r.block (.deferred none))[b]? = w.heap[b]? := fun b hb => Array.getElem?_setIfInBounds_ne (fun e => hb e.symm)
      refine leaves_marks ds ⟨edel s.heap id, s.cnt⟩ _ ?_ ?_ ?_
      · refine ⟨fun b o v hi => ?_, fun i b hi => ?_, fun i i' b b' r1 r2 h1 h2 => hs.apart i i' b b' r1 r2 (gd _ _ h1).2 (gd _ _ h2).2, fun i b r1 o hi ho' => hs.clear i b r1 o (gd _ _ hi).2 ho', hs.fresh, fun i b hi => hs.lt i b (gd _ _ hi).2⟩
        · have hb : b ≠ r.block := fun e => by subst e; rw [hs.clear id _ r o hg ho] at hi; cases hi
          have := hs.imm b o v hi
          rwa [World.cell?_of_block (w := w) (hk b hb)]
        · obtain ⟨hne', hg'⟩ := gd i b hi
          rcases hs.heap i b hg' with ⟨r1, o1, q1, q2, q3⟩ | e
          · exact .inl ⟨r1, o1, q1, by rw [hk _ (hs.apart i id b _ r1 r hg' hg q1 ho hne')]; exact q2, q3⟩
          · exact .inr e
      · have aux : ∀ (l : List Deferred), (∀ d' ∈ l, ∀ b, d'.target = .collected b → b ≠ r.block) → Defs G s l → Defs G ⟨edel s.heap id, s.cnt⟩ l := by
          intro l
          induction l with
          | nil => intro _ _; trivial
          | cons d' l ih =>
            intro hall ⟨⟨i, r1, a1, a2, a3, a4⟩, hrest⟩
            refine ⟨⟨i, r1, ?_, a2, a3, a4⟩, ih (fun d'' hd => hall d'' (by simp [hd])) hrest⟩
            have hb := hall d' (by simp) r1.block a3
            show eget (edel s.heap id) i = some .dfr
            rw [get_del, if_neg (fun e => by subst e; rw [ho] at a2; cases a2; exact hb rfl)]
            exact a1
        exact aux ds hne hr
      · intro w' hsh
        refine h w' ⟨by rw [hsh.size]; simp, hsh.os, hsh.tape, hsh.output, fun b => ?_⟩
        by_cases hb : b = r.block
        · subst hb
          refine .inr ⟨⟨_, e2⟩, ?_, id, r, hg, ho, rfl⟩
          rcases hsh.heap r.block with e | ⟨_, e, _⟩
          · exact ⟨none, by rw [e]; simp [hlt]⟩
          · exact e
        · rcases hsh.heap b with e | ⟨⟨x, q1⟩, q2, i, r1, q3, q4, q5⟩
          · exact .inl (e.trans (hk b hb))
          · exact .inr ⟨⟨x, by rw [← hk b hb]; exact q1⟩, q2, i, r1, (gd i _ q3).2, q4, q5⟩

theorem acalls_of_wp {f : FuncId} {fn : Func} {c : Code} {args : List AV} {K : AV → St → Prop} (hf : P.funcs[f]? = some fn) (hb : fn.body = some c) (hn : args.length ≤ fn.ntmps)
    (hdfr : ∀ id, eget s.heap id ≠ some .dfr) (h : AWp P fn.ntmps none c (FinQ P fn.results K) (argEnv args 0) s) : ACalls P f args s K := fun G w vs hs hv => by
  refine callsIn_wide (n := 0) |>.1 ?_
  refine callsIn_of_wp_marks hf hb trivial ?_
  have hnow : Now G fn.ntmps none (argEnv args 0) s { tmps := vs ++ Array.replicate (fn.ntmps - vs.size) undef, defers := [] } w := by
    refine ⟨hs, fun t x hx => ?_, ?_, trivial, fun id e => by cases e⟩
    · obtain ⟨_, h2⟩ := get_argEnv args 0 t x hx
      simp only [Nat.sub_zero] at h2
      obtain ⟨v, e1, e2⟩ := hv.get h2
      have hlt : t < vs.size := (Array.getElem?_eq_some_iff.1 e1).1
      refine ⟨by simp; omega, ?_⟩
      rw [Array.getD_eq_getD_getElem?, Array.getElem?_append_left hlt, e1]
      exact e2
    · have := hv.1
      simp; omega
  have := h G w _ hnow
  refine wpIn_mono this ?_
  rintro e a' w' ⟨G', env', s', n', x', q'⟩
  have fin : (∃ x s2, aResults P fn.results env' s' = some x ∧ Less s2 s' ∧ K x s2) → LeavesInM Fence.wide 0 P fn a'.tmps (Gave G s w K) a'.defers .returning w' := by
    rintro ⟨x, s2, hx, hl, hk⟩
    refine leaves_marks a'.defers s' w' n'.sim n'.defs fun w2 hsh => ?_
    obtain ⟨v, hv2, hV2⟩ := aResults_V (P := P) n'.sim hsh.cell n'.env hx
    have hs' := n'.sim
    refine ⟨v, hv2, v, G', x, s2, rfl, hV2, ⟨?_, ?_, ?_, ?_, ?_, ?_⟩, ⟨x'.le, hsh.os.trans x'.os, hsh.tape.trans x'.tape, hsh.output.trans x'.output, by rw [hsh.size]; exact x'.size, ?_, x'.immNew, x'.ownNew, ?_, Nat.le_trans x'.cnt hl.2, ?_, x'.stay⟩, hk⟩
    · intro b o u hi; rw [hsh.cell]; exact hs'.imm b o u hi
    · intro id b hg
      obtain ⟨hg', hne⟩ := hl.1 id b hg
      rcases hs'.heap id b hg' with ⟨r, o, e1, e2, e3⟩ | e
      case inr => exact .inr e
      refine .inl ⟨r, o, e1, ?_, e3⟩
      rcases hsh.heap r.block with e | ⟨⟨y, q1⟩, _, _⟩
      · rw [e]; exact e2
      · rw [e2] at q1; cases q1
        cases e3
        exact absurd rfl hne
    · intro id id' b b' r r' h1 h2; exact hs'.apart id id' b b' r r' (hl.1 _ _ h1).1 (hl.1 _ _ h2).1
    · intro id b r o hg; exact hs'.clear id b r o (hl.1 _ _ hg).1
    · intro id hid; exact hs'.fresh id (Nat.le_trans hl.2 hid)
    · intro id b hg; exact Nat.lt_of_lt_of_le (hs'.lt id b (hl.1 id b hg).1) hl.2
    · intro b hb hno
      rcases hsh.heap b with e | ⟨_, _, id, r, q1, q2, q3⟩
      · rw [e]; exact x'.keep b hb hno
      · exfalso
        rcases x'.ownNew id r q2 with h | h | h
        · rcases x'.ids id _ q1 with ⟨b0, hb0⟩ | hge
          · exact hno ⟨id, b0, r, hb0, h, q3⟩
          · rw [hs.fresh id hge] at h; cases h
        · omega
        · rw [q3] at h; exact hno h
    · intro id b hg; exact x'.ids id b (hl.1 _ _ hg).1
    · intro id hid; exact absurd hid (hdfr id)
  cases e with
  | normal => exact fin q'
  | ret => exact fin q'
  | exit id => exact q'.elim
  | goto l => exact q'.elim
  | panic ch => exact q'.elim
  | outgrown => exact q'.elim

end
end Go.Am
