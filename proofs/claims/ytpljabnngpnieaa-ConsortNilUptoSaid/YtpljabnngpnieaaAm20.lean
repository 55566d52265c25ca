/-
  The logic AM, part 20: a range over a function.
  Own work. No Go text.
-/
import Derived.RangeFuncNested
import Derived.Test.YtpljabnngpnieaaAm19
namespace Go.Am
open Go.RowKit

/-- A block that was laid aside for a while. -/
theorem Sim.readd {G G' : Ghost} {s s' : St} {w w' : World} {id : Nat} {blk : Blk} (h : Sim G ⟨(id, blk) :: s.heap, s.cnt⟩ w) (hid : id < s.cnt) (hno : eget s.heap id = none)
    (h' : Sim G' s' w') (x : Ext G s w G' s' w') : Sim G' ⟨(id, blk) :: s'.heap, s'.cnt⟩ w' ∧ Ext G ⟨(id, blk) :: s.heap, s.cnt⟩ w G' ⟨(id, blk) :: s'.heap, s'.cnt⟩ w' := by
  have hno' : eget s'.heap id = none := by
    cases hq : eget s'.heap id with
    | none => rfl
    | some b =>
      rcases x.ids id b hq with ⟨b0, e⟩ | e
      · rw [hno] at e; cases e
      · omega
  have hself : eget ((id, blk) :: s.heap) id = some blk := by simp [egetN, egetC]
  rcases h.heap id blk hself with ⟨r, o, e1, e2, e3⟩ | ⟨en, em⟩
  case inr =>
    have gold : ∀ {l : List (Nat × Blk)} i b, eget ((id, blk) :: l) i = some b → (i = id ∧ b = blk) ∨ (i ≠ id ∧ eget l i = some b) := fun i b hg => by
      simp only [egetN, egetC] at hg
      split at hg
      · cases hg; exact .inl ⟨by omega, rfl⟩
      · exact .inr ⟨by omega, hg⟩
    have up : ∀ i b, eget s.heap i = some b → eget ((id, blk) :: s.heap) i = some b := fun i b hg => by
      have : id ≠ i := fun e => by subst e; rw [hno] at hg; cases hg
      simp [egetN, egetC, this, hg]
    have en' := x.stay id hid en
    have ownUp : ∀ b, Owned G s b → Owned G ⟨(id, blk) :: s.heap, s.cnt⟩ b := fun b ⟨i, b', r', g1, g2, g3⟩ => ⟨i, b', r', up i b' g1, g2, g3⟩
    refine ⟨⟨h'.imm, ?_, ?_, ?_, h'.fresh, ?_⟩, ⟨x.le, x.os, x.tape, x.output, x.size, ?_, ?_, ?_, ?_, x.cnt, ?_, x.stay⟩⟩
    · intro i b hg
      rcases gold i b hg with ⟨rfl, rfl⟩ | ⟨_, hg⟩
      · exact .inr ⟨en', em⟩
      · exact h'.heap i b hg
    · intro i i' b b' r1 r2 h1 h2 o1 o2 hne
      rcases gold i b h1 with ⟨rfl, rfl⟩ | ⟨n1, g1⟩ <;> rcases gold i' b' h2 with ⟨rfl, rfl⟩ | ⟨n2, g2⟩
      · exact absurd rfl hne
      · rw [en'] at o1; cases o1
      · rw [en'] at o2; cases o2
      · exact h'.apart i i' b b' r1 r2 g1 g2 o1 o2 hne
    · intro i b r1 j hg ho
      rcases gold i b hg with ⟨rfl, rfl⟩ | ⟨_, hg⟩
      · rw [en'] at ho; cases ho
      · exact h'.clear i b r1 j hg ho
    · intro i b hg
      show i < s'.cnt
      rcases gold i b hg with ⟨rfl, rfl⟩ | ⟨_, hg⟩
      · exact Nat.lt_of_lt_of_le hid x.cnt
      · exact h'.lt i b hg
    · intro b hb hn
      exact x.keep b hb fun e => hn (ownUp b e)
    · intro b o v hi
      rcases x.immNew b o v hi with g | g | g
      · exact .inl g
      · exact .inr (.inl g)
      · exact .inr (.inr (ownUp b g))
    · intro i r' hi
      rcases x.ownNew i r' hi with g | g | g
      · exact .inl g
      · exact .inr (.inl g)
      · exact .inr (.inr (ownUp _ g))
    · intro i b hg
      rcases gold i b hg with ⟨rfl, rfl⟩ | ⟨_, hg⟩
      · exact .inl ⟨b, hself⟩
      · rcases x.ids i b hg with ⟨b0, g⟩ | g
        · exact .inl ⟨b0, up i b0 g⟩
        · exact .inr g
    · intro i hi
      rcases gold i .dfr hi with ⟨rfl, hb⟩ | ⟨n, g⟩
      · simp [egetN, egetC, ← hb]
      · have := x.dfr i g
        simp only [egetN, egetC]
        rw [if_neg (fun e => n e.symm)]
        exact this
  have hlt : r.block < w.heap.size := h.own_lt hself e1
  have gold : ∀ {l : List (Nat × Blk)} i b, eget ((id, blk) :: l) i = some b → (i = id ∧ b = blk) ∨ (i ≠ id ∧ eget l i = some b) := fun i b hg => by
    simp only [egetN, egetC] at hg
    split at hg
    · cases hg; exact .inl ⟨by omega, rfl⟩
    · exact .inr ⟨by omega, hg⟩
  have up : ∀ i b, eget s.heap i = some b → eget ((id, blk) :: s.heap) i = some b := fun i b hg => by
    have : id ≠ i := fun e => by subst e; rw [hno] at hg; cases hg
    simp [egetN, egetC, this, hg]
  have notown : ¬ Owned G s r.block := by
    rintro ⟨i, b, r', g1, g2, g3⟩
    have hne : i ≠ id := fun e => by subst e; rw [hno] at g1; cases g1
    exact h.apart i id b blk r' r (up i b g1) hself g2 e1 hne g3
  have ownUp : ∀ b, Owned G s b → Owned G ⟨(id, blk) :: s.heap, s.cnt⟩ b := fun b ⟨i, b', r', g1, g2, g3⟩ => ⟨i, b', r', up i b' g1, g2, g3⟩
  have far : ∀ i b r', eget s'.heap i = some b → G'.own i = some r' → r'.block ≠ r.block := fun i b r' g1 g2 e => by
    rcases x.ownNew i r' g2 with g | g | g
    · rcases x.ids i b g1 with ⟨b0, g0⟩ | g0
      · exact notown ⟨i, b0, r', g0, g, e⟩
      · have := h.fresh i g0
        rw [this] at g; cases g
    · omega
    · rw [e] at g; exact notown g
  refine ⟨⟨h'.imm, ?_, ?_, ?_, h'.fresh, ?_⟩, ⟨x.le, x.os, x.tape, x.output, x.size, ?_, ?_, ?_, ?_, x.cnt, ?_, x.stay⟩⟩
  · intro i b hg
    rcases gold i b hg with ⟨rfl, rfl⟩ | ⟨_, hg⟩
    · exact .inl ⟨r, o, x.le.own _ _ e1, by rw [x.keep _ hlt notown]; exact e2, e3.mono x.le⟩
    · exact h'.heap i b hg
  · intro i i' b b' r1 r2 h1 h2 o1 o2 hne
    rcases gold i b h1 with ⟨rfl, rfl⟩ | ⟨n1, g1⟩ <;> rcases gold i' b' h2 with ⟨rfl, rfl⟩ | ⟨n2, g2⟩
    · exact absurd rfl hne
    · rw [x.le.own _ _ e1] at o1; cases o1
      exact fun e => far i' b' r2 g2 o2 e.symm
    · rw [x.le.own _ _ e1] at o2; cases o2
      exact far i b r1 g1 o1
    · exact h'.apart i i' b b' r1 r2 g1 g2 o1 o2 hne
  · intro i b r1 j hg ho
    rcases gold i b hg with ⟨rfl, rfl⟩ | ⟨_, hg⟩
    · rw [x.le.own _ _ e1] at ho; cases ho
      cases hq : G'.imm r.block j with
      | none => rfl
      | some v =>
        rcases x.immNew _ _ _ hq with g | g | g
        · rw [h.clear i b r j hself e1] at g; cases g
        · omega
        · exact absurd g notown
    · exact h'.clear i b r1 j hg ho
  · intro i b hg
    show i < s'.cnt
    rcases gold i b hg with ⟨rfl, rfl⟩ | ⟨_, hg⟩
    · exact Nat.lt_of_lt_of_le hid x.cnt
    · exact h'.lt i b hg
  · intro b hb hn
    exact x.keep b hb fun e => hn (ownUp b e)
  · intro b o v hi
    rcases x.immNew b o v hi with g | g | g
    · exact .inl g
    · exact .inr (.inl g)
    · exact .inr (.inr (ownUp b g))
  · intro i r' hi
    rcases x.ownNew i r' hi with g | g | g
    · exact .inl g
    · exact .inr (.inl g)
    · exact .inr (.inr (ownUp _ g))
  · intro i b hg
    rcases gold i b hg with ⟨rfl, rfl⟩ | ⟨_, hg⟩
    · exact .inl ⟨b, hself⟩
    · rcases x.ids i b hg with ⟨b0, g⟩ | g
      · exact .inl ⟨b0, up i b0 g⟩
      · exact .inr g
  · intro i hi
    rcases gold i .dfr hi with ⟨rfl, hb⟩ | ⟨n, g⟩
    · simp [egetN, egetC, ← hb]
    · have := x.dfr i g
      simp only [egetN, egetC]
      rw [if_neg (fun e => n e.symm)]
      exact this

def putParams : List Tmp → List AV → Env → Env
  | t :: ts, x :: xs, env => putParams ts xs (eset env t x)
  | _, _, env => env

def setLoop (s : St) (id : Nat) (l : ALoop) : St := ⟨eset s.heap id (.loop l), s.cnt⟩

section
variable {P : Program} {N : Nat} {ρ : Option Nat} {Q : Exit → Env → St → Prop} {env : Env} {s : St}

theorem VEnv.set {G : Ghost} {tmps : Array Value} (h : VEnv G env tmps) {t : Nat} {x : AV} {v : Value} (ht : t < tmps.size) (hv : V G x v) : VEnv G (eset env t x) (tmps.setIfInBounds t v) := fun u y hy => by
  rw [get_set] at hy
  split at hy
  · rename_i he; subst he; cases hy
    exact ⟨by simpa using ht, by simp [Array.getD_eq_getD_getElem?, ht]; exact hv⟩
  · rename_i he
    obtain ⟨e1, e2⟩ := h u y hy
    refine ⟨by simpa using e1, ?_⟩
    rw [Array.getD_eq_getD_getElem?, Array.getElem?_setIfInBounds_ne he, ← Array.getD_eq_getD_getElem?]
    exact e2

theorem VEnv.params {G : Ghost} : ∀ (ts : List Tmp) (xs : List AV) (vs : List Value) (env : Env) (tmps : Array Value), VEnv G env tmps → (∀ t ∈ ts, t < tmps.size) → xs.length = vs.length →
    (∀ (i : Nat) x y, xs[i]? = some x → vs[i]? = some y → V G x y) → VEnv G (putParams ts xs env) ((ts.zip vs).foldl (fun tmps (t, a) => tmps.setIfInBounds t a) tmps)
  | [], xs, vs, env, tmps, h, _, _, _ => by simpa [putParams] using h
  | t :: ts, [], [], env, tmps, h, _, _, _ => by simpa [putParams] using h
  | t :: ts, x :: xs, v :: vs, env, tmps, h, ht, hl, hv => by
    simp only [putParams, List.zip_cons_cons, List.foldl_cons]
    refine VEnv.params ts xs vs _ _ (h.set (ht t (by simp)) (hv 0 x v rfl rfl)) (fun u hu => by simpa using ht u (by simp [hu])) (by simpa using hl) (fun i a b ha hb => hv (i + 1) a b (by simpa using ha) (by simpa using hb))
  | t :: ts, x :: xs, [], env, tmps, h, _, hl, _ => by simp at hl
  | t :: ts, [], v :: vs, env, tmps, h, _, hl, _ => by simp at hl

theorem params_size : ∀ (ts : List Tmp) (vs : List Value) (tmps : Array Value), ((ts.zip vs).foldl (fun tmps (t, a) => tmps.setIfInBounds t a) tmps).size = tmps.size
  | [], vs, tmps => by simp
  | t :: ts, [], tmps => by simp
  | t :: ts, v :: vs, tmps => by simp only [List.zip_cons_cons, List.foldl_cons]; rw [params_size ts vs]; simp

/-- How a round's body may be left. -/
def RoundQ (id : Nat) (Q : AV → St → Prop) : Exit → Env → St → Prop
  | .normal, _, s => ∃ l, eget s.heap id = some (.loop l) ∧ Q (.bool true) (setLoop s id { l with state := .ready, pending := none })
  | .ret, _, s => ∃ l, eget s.heap id = some (.loop l) ∧ Q (.bool false) (setLoop s id { l with state := .done, pending := some .ret })
  | .exit i, _, s => ∃ l, eget s.heap id = some (.loop l) ∧ Q (.bool false) (setLoop s id { l with state := .done, pending := some (.exit i) })
  | _, _, _ => False

theorem loop_at {G : Ghost} {w : World} (h : Sim G s w) {id : Nat} {l : ALoop} {r : Reg} (hg : eget s.heap id = some (.loop l)) (ho : G.own id = some r) :
    ∃ fn tmps d, w.heap[r.block]? = some (.loop { state := l.state, pending := l.pending, fn := fn, tmps := tmps, params := l.params.toArray, assign := l.assign, body := l.body, defers := d }) ∧ tmps.size = l.ntmps ∧ VEnv G l.env tmps := by
  obtain ⟨o, e2, e3⟩ := h.at hg ho
  cases e3 with
  | loop _ fn tmps d hsz hV => exact ⟨fn, tmps, d, e2, hsz, hV⟩

/-- The record turns. -/
theorem loop_turn {G : Ghost} {w : World} (h : Sim G s w) {id : Nat} {l l' : ALoop} {r : Reg} {fn : FuncId} {tmps : Array Value} {d : Nat} (hg : eget s.heap id = some (.loop l)) (ho : G.own id = some r)
    (hw : w.heap[r.block]? = some (.loop { state := l.state, pending := l.pending, fn := fn, tmps := tmps, params := l.params.toArray, assign := l.assign, body := l.body, defers := d }))
    (hsz : tmps.size = l.ntmps) (hV : VEnv G l.env tmps) (hl : l' = { l with state := l'.state, pending := l'.pending }) :
    Sim G (setLoop s id l') (w.putObj r.block (.loop { state := l'.state, pending := l'.pending, fn := fn, tmps := tmps, params := l.params.toArray, assign := l.assign, body := l.body, defers := d })) ∧
    Ext G s w G (setLoop s id l') (w.putObj r.block (.loop { state := l'.state, pending := l'.pending, fn := fn, tmps := tmps, params := l.params.toArray, assign := l.assign, body := l.body, defers := d })) := by
  refine h.turn (o := .loop { state := l'.state, pending := l'.pending, fn := fn, tmps := tmps, params := l.params.toArray, assign := l.assign, body := l.body, defers := d }) hg ho (by simp) rfl rfl rfl
    (fun b hb => World.putObj_heap_other hb) (World.putObj_heap_same (Array.getElem?_eq_some_iff.1 hw).1) ?_ (by simp)
  rw [hl]
  exact .loop _ fn tmps d hsz hV

/-- A round, met where yield is called. -/
theorem ayield {id : Nat} {args : List AV} {K : AV → St → Prop} {l : ALoop} (hg : eget s.heap id = some (.loop l)) (hlen : args.length = l.params.length) (hpar : (l.params.all fun t => decide (t < l.ntmps)) = true)
    (h : AWp P l.ntmps (some id) l.assign (Then (fun env1 s1 => ∃ l1, eget s1.heap id = some (.loop l1) ∧ l1.state = .ready ∧
      AWp P l.ntmps (some id) l.body (RoundQ id K) env1 (setLoop s1 id { l1 with state := .busy })) (fun _ _ _ => False)) (putParams l.params args l.env) s) : AYield P id args s K := by
  intro o G w r vs hs ho hv
  obtain ⟨fn, tmps, d, hw, hsz, hV⟩ := loop_at hs hg ho
  refine ⟨fn, _, l.assign, l.body, run_yield hw (by have := hv.1; simp; omega), roundIn_of_wpIn trivial ?_⟩
  have hknown : Known G (some id) := fun i e => by cases e; exact ⟨r, ho⟩
  have hconc : conc G (some id) = some r.block := by simp [conc, ho]
  have hfold : ((l.params.toArray.zip vs).foldl (fun tmps (t, a) => tmps.setIfInBounds t a) tmps) = ((l.params.zip vs.toList).foldl (fun tmps (t, a) => tmps.setIfInBounds t a) tmps) := by
    rw [← Array.foldl_toList, Array.toList_zip]
  have hpar' : ∀ t ∈ l.params, t < l.ntmps := fun t ht => by simpa using List.all_eq_true.1 hpar t ht
  have hnow : Now G l.ntmps (some id) (putParams l.params args l.env) s { tmps := (l.params.toArray.zip vs).foldl (fun tmps (t, a) => tmps.setIfInBounds t a) tmps, defers := [] } w := by
    rw [hfold]
    exact ⟨hs, hV.params l.params args vs.toList l.env tmps (fun t ht => by rw [hsz]; exact hpar' t ht) (by simpa using hv.1) (fun i x y hx hy => hv.2 i x y hx (by simpa using hy)), by rw [params_size, hsz], trivial, hknown⟩
  have h1 := h G w _ hnow
  rw [hconc] at h1
  refine wpIn_mono h1 ?_
  rintro e a1 w1 ⟨G1, env1, s1, n1, x1, q1⟩
  cases e with
  | normal =>
    obtain ⟨l1, g1, hr1, hb⟩ := q1
    have ho1 := x1.le.own _ _ ho
    obtain ⟨fn1, tmps1, d1, hw1, hsz1, hV1⟩ := loop_at n1.sim g1 ho1
    obtain ⟨t1, t2⟩ := loop_turn n1.sim (l' := { l1 with state := .busy }) g1 ho1 hw1 hsz1 hV1 rfl
    refine ⟨_, run_beginRound hw1 hr1, ?_⟩
    have n2 : Now G1 l.ntmps (some id) env1 (setLoop s1 id { l1 with state := .busy }) a1 _ := ⟨t1, n1.env, n1.size, n1.defs.ext t2, n1.known⟩
    have h2 := hb G1 _ a1 n2
    have hconc1 : conc G1 (some id) = some r.block := by simp [conc, ho1]
    rw [hconc1] at h2
    refine wpIn_mono h2 ?_
    rintro e a3 w3 ⟨G3, env3, s3, n3, x3, q3⟩
    have ho3 := x3.le.own _ _ ho1
    have x03 := (x1.trans hs t2).trans hs x3
    have fin : ∀ (jump : Option Code) (l3 : ALoop) (g3 : eget s3.heap id = some (.loop l3)), K (.bool jump.isNone) (setLoop s3 id { l3 with state := if jump.isNone then .ready else .done, pending := jump }) →
        ∃ v w', (Instr.endRound r.block jump).run P w3 = .ok v w' ∧ Gave G s w K (.returned v) w' := by
      intro jump l3 g3 hk
      obtain ⟨fn3, tmps3, d3, hw3, hsz3, hV3⟩ := loop_at n3.sim g3 ho3
      obtain ⟨u1, u2⟩ := loop_turn n3.sim (l' := { l3 with state := if jump.isNone then .ready else .done, pending := jump }) g3 ho3 hw3 hsz3 hV3 rfl
      exact ⟨_, _, run_endRound jump hw3, .bool jump.isNone, G3, _, _, rfl, .bool _, u1, x03.trans hs u2, hk⟩
    cases e with
    | normal => obtain ⟨l3, g3, hk⟩ := q3; exact fin none l3 g3 hk
    | ret => obtain ⟨l3, g3, hk⟩ := q3; exact fin (some .ret) l3 g3 hk
    | exit i => obtain ⟨l3, g3, hk⟩ := q3; exact fin (some (.exit i)) l3 g3 hk
    | goto t => exact q3.elim
    | panic ch => exact q3.elim
    | outgrown => exact q3.elim
  | exit id => exact q1.elim
  | goto t => exact q1.elim
  | ret => exact q1.elim
  | panic ch => exact q1.elim
  | outgrown => exact q1.elim

theorem defs_lt {G : Ghost} {w : World} (h : Sim G s w) : ∀ {ds : List Deferred}, Defs G s ds → ∀ d ∈ ds, ∀ b, d.target = .collected b → b < w.heap.size
  | [], _, d, hd, _, _ => by cases hd
  | e :: ds, ⟨⟨id, r, a, b, c, _⟩, hr⟩, d, hd, x, hx => by
    rcases List.mem_cons.1 hd with rfl | hd
    · rw [c] at hx; cases hx; exact h.own_lt a b
    · exact defs_lt h hr d hd x hx

/-- What lies behind a loop over a function: its record is given up. -/
def LoopEnd (P : Program) (N : Nat) (ρ : Option Nat) (Q : Exit → Env → St → Prop) (env : Env) (id : Nat) (marks : List (Nat × Blk)) (s : St) : Prop :=
  ∃ l, eget s.heap id = some (.loop l) ∧ l.state ≠ .busy ∧ (match l.pending with
    | none => Q .normal env ⟨marks ++ edel s.heap id, s.cnt⟩
    | some c => AWp P N ρ c Q env ⟨marks ++ edel s.heap id, s.cnt⟩)

theorem fn_run {g : Nat} (he : enters P g = true) : ∀ (args : Array Value) (w : World), (callFunc g args).run P w = .ok (.enter g args) w := fun args w => by
  unfold enters at he
  split at he
  case h_2 => cases he
  rename_i fn hfn
  simp only [Bool.and_eq_true, bne_iff_ne, ne_eq] at he
  have hbody : ¬ fn.body = none := by cases hb : fn.body <;> simp [hb] at he ⊢
  simp [callFunc, hfn, he.1, hbody]

theorem awp_rangeFunc {g : Operand} {ps : Array Tmp} {assign body : Code} {gf : FuncId} {caps : List AV} (hg : oper env g = some (.fn gf caps)) (he : enters P gf = true)
    (h : ACalls P gf (.yld (s.cnt + 1) :: caps) ⟨(s.cnt + 1, .loop ⟨env, N, ps.toList, assign, body, .ready, none⟩) :: s.heap, s.cnt + 2⟩
      (fun _ s' => LoopEnd P N none Q env (s.cnt + 1) [(s.cnt, .dfr)] s')) : AWp P N none (.rangeFunc g ps assign body) Q env s := fun G w a hn => by
  refine wpIn_rangeFunc fun fn _ => ?_
  have hfv := oper_V hn.env hg
  generalize hq : a.eval g = fv at hfv
  cases hfv with
  | fn _ _ vs hv1 hv2 =>
    have hs := hn.sim
    have hnoc : eget s.heap s.cnt = none := by
      cases hc : eget s.heap s.cnt with
      | none => rfl
      | some b => exact absurd (hs.lt _ _ hc) (by omega)
    obtain ⟨p1, p2⟩ := hs.put (o := .deferred (some [])) (blk := .dfr) (r := ⟨w.heap.size, 0, 0, 0⟩) rfl .dfr
    have hvl : VEnv (Ghost.put G s.cnt ⟨w.heap.size, 0, 0, 0⟩) env a.tmps := hn.env.mono p2.le
    obtain ⟨p3, p4⟩ := p1.put (o := .loop { state := .ready, pending := none, fn := fn, tmps := a.tmps, params := ps, assign := assign, body := body, defers := w.heap.size })
      (blk := .loop ⟨env, N, ps.toList, assign, body, .ready, none⟩) (r := ⟨w.heap.size + 1, 0, 0, 0⟩) (by simp)
      (by
        have := Holds.loop (G := Ghost.put (Ghost.put G s.cnt ⟨w.heap.size, 0, 0, 0⟩) (s.cnt + 1) ⟨w.heap.size + 1, 0, 0, 0⟩) (r := ⟨w.heap.size + 1, 0, 0, 0⟩) ⟨env, N, ps.toList, assign, body, .ready, none⟩ fn a.tmps w.heap.size hn.size (hvl.mono (.put (p1.fresh _ (Nat.le_refl _))))
        simpa using this)
    generalize hG2 : Ghost.put (Ghost.put G s.cnt ⟨w.heap.size, 0, 0, 0⟩) (s.cnt + 1) ⟨w.heap.size + 1, 0, 0, 0⟩ = G2 at p3 p4
    have ownL : G2.own (s.cnt + 1) = some ⟨w.heap.size + 1, 0, 0, 0⟩ := by rw [← hG2]; simp [Ghost.put]
    have ownD : G2.own s.cnt = some ⟨w.heap.size, 0, 0, 0⟩ := by rw [← hG2]; simp [Ghost.put]
    generalize hw2 : (w.alloc (.deferred (some []))).alloc (.loop { state := .ready, pending := none, fn := fn, tmps := a.tmps, params := ps, assign := assign, body := body, defers := w.heap.size }) = w2 at p3 p4
    have x02 := p2.trans hs p4
    -- the mark is laid aside
    have hsw : ∀ i, eget ((s.cnt, Blk.dfr) :: (s.cnt + 1, Blk.loop ⟨env, N, ps.toList, assign, body, .ready, none⟩) :: s.heap) i = eget ((s.cnt + 1, Blk.loop ⟨env, N, ps.toList, assign, body, .ready, none⟩) :: (s.cnt, Blk.dfr) :: s.heap) i := fun i => by
      simp only [egetN, egetC]
      by_cases h1 : s.cnt = i
      · rw [if_pos h1, if_neg (by omega), if_pos h1]
      · rw [if_neg h1, if_neg h1]
    have p5 : Sim G2 ⟨(s.cnt, .dfr) :: (s.cnt + 1, .loop ⟨env, N, ps.toList, assign, body, .ready, none⟩) :: s.heap, s.cnt + 2⟩ w2 := p3.drop (fun i b hb => by rw [← hsw]; exact hb) (Nat.le_refl _)
    have p6 : Sim G2 ⟨(s.cnt + 1, .loop ⟨env, N, ps.toList, assign, body, .ready, none⟩) :: s.heap, s.cnt + 2⟩ w2 := p5.drop (fun i b hb => by
      simp only [egetN, egetC] at hb ⊢
      by_cases h1 : s.cnt = i
      · subst h1; rw [if_neg (by omega), hnoc] at hb; cases hb
      · rw [if_neg h1]; exact hb) (Nat.le_refl _)
    have hev : (a.eval g) = .func (.func gf) #[] vs := hq
    refine ⟨w.heap.size + 1, [{ target := .collected w.heap.size, args := #[] }], w2, { target := .fn (.func gf) vs, args := #[.func (.yield (w.heap.size + 1)) #[] #[]] }, w2, gf,
      #[.func (.yield (w.heap.size + 1)) #[] #[]] ++ vs, w2, ?_, ?_, fun _ _ => trivial, ?_, (fun h => by cases h), ?_⟩
    · rw [← hw2]
      exact run_enterLoop_outer _ _ _ _ _
    · simp only [resolve, hev]
      simp [go_sem]
    · simp [invoke, go_sem, fn_run he]
    · have hargs : VL G2 (.yld (s.cnt + 1) :: caps) (#[.func (.yield (w.heap.size + 1)) #[] #[]] ++ vs) := by
        have l1 : VL G2 [.yld (s.cnt + 1)] #[.func (.yield (w.heap.size + 1)) #[] #[]] := ⟨rfl, fun i x y hx hy => by
          cases i with
          | zero => simp at hx hy; subst hx; subst hy; exact .yld _ _ ownL
          | succ i => simp at hx⟩
        exact l1.append (VL.mono x02.le ⟨hv1, hv2⟩)
      refine (callsIn_fen (h G2 w2 _ p6 hargs)).mono ?_
      rintro e w3 ⟨v, G3, x, s3, rfl, hV3, hs3, hx3, l, g3, hst, hpost⟩
      obtain ⟨q1, q2⟩ := p5.readd (s := ⟨(s.cnt + 1, .loop ⟨env, N, ps.toList, assign, body, .ready, none⟩) :: s.heap, s.cnt + 2⟩) (by simp) (by simp [egetN, egetC, hnoc]) hs3 hx3
      have ownL3 := hx3.le.own _ _ ownL
      have g3' : eget ((s.cnt, Blk.dfr) :: s3.heap) (s.cnt + 1) = some (.loop l) := by simp [egetN, egetC, g3]
      obtain ⟨fn3, tmps3, d3, hw3, hsz3, hVE3⟩ := loop_at q1 g3' ownL3
      obtain ⟨u1, u2⟩ := loop_turn q1 (l' := { l with state := .exhausted }) g3' ownL3 hw3 hsz3 hVE3 rfl
      have x05 : Ext G2 ⟨(s.cnt + 1, .loop ⟨env, N, ps.toList, assign, body, .ready, none⟩) :: (s.cnt, .dfr) :: s.heap, s.cnt + 2⟩ w2 G2 ⟨(s.cnt, .dfr) :: (s.cnt + 1, .loop ⟨env, N, ps.toList, assign, body, .ready, none⟩) :: s.heap, s.cnt + 2⟩ w2 :=
        Ext.drop (fun i b hb => by rw [← hsw]; exact hb) (Nat.le_refl _) (fun i hi => by rw [hsw]; exact hi)
      have xall : Ext G s w G3 _ _ := ((x02.trans hs x05).trans hs q2).trans hs u2
      have dropH : ∀ i b, eget ([(s.cnt, Blk.dfr)] ++ edel s3.heap (s.cnt + 1)) i = some b → eget (setLoop ⟨(s.cnt, .dfr) :: s3.heap, s3.cnt⟩ (s.cnt + 1) { l with state := .exhausted }).heap i = some b := fun i b hb => by
        simp only [List.cons_append, List.nil_append, egetN, egetC] at hb
        simp only [setLoop, get_set]
        by_cases h1 : s.cnt = i
        · subst h1; rw [if_neg (by omega)]; simpa [egetN, egetC] using hb
        · rw [if_neg h1, get_del] at hb
          split at hb
          · cases hb
          · rename_i h2; rw [if_neg h2]; simp only [egetN, egetC]; rw [if_neg h1]; exact hb
      have dropD : ∀ i, eget (setLoop ⟨(s.cnt, .dfr) :: s3.heap, s3.cnt⟩ (s.cnt + 1) { l with state := .exhausted }).heap i = some .dfr → eget ([(s.cnt, Blk.dfr)] ++ edel s3.heap (s.cnt + 1)) i = some .dfr := fun i hi => by
        simp only [setLoop, get_set] at hi
        split at hi
        · cases hi
        · rename_i h2
          simp only [List.cons_append, List.nil_append, egetN, egetC] at hi ⊢
          split
          · rfl
          · rename_i h1; rw [if_neg h1] at hi; rw [get_del, if_neg h2]; exact hi
      have n4 : Now G3 N none env ⟨[(s.cnt, .dfr)] ++ edel s3.heap (s.cnt + 1), s3.cnt⟩ { a with defers := { target := .collected w.heap.size, args := #[] } :: a.defers } (w3.putObj (w.heap.size + 1) (.loop { state := .exhausted, pending := l.pending, fn := fn3, tmps := tmps3, params := l.params.toArray, assign := l.assign, body := l.body, defers := d3 })) := by
        refine ⟨u1.drop dropH (Nat.le_refl _), hn.env.mono xall.le, hn.size, ⟨⟨s.cnt, ⟨w.heap.size, 0, 0, 0⟩, by simp [egetN, egetC], hx3.le.own _ _ ownD, rfl, fun d' hd' b hb => ?_⟩, ?_⟩, fun i e => by cases e⟩
        · have := defs_lt hs hn.defs d' hd' b hb
          show b ≠ w.heap.size
          omega
        · exact (hn.defs.ext xall).drop dropD
      have xfin : Ext G s w G3 ⟨[(s.cnt, .dfr)] ++ edel s3.heap (s.cnt + 1), s3.cnt⟩ _ := xall.trans hs (Ext.drop dropH (Nat.le_refl _) dropD)
      refine ⟨l.pending, _, run_endLoop hw3 hst, ?_⟩
      cases hpe : l.pending with
      | none =>
        simp only [hpe] at hpost
        rw [hpe] at n4 xfin
        exact ⟨G3, env, _, n4, xfin, hpost⟩
      | some c =>
        simp only [hpe] at hpost
        rw [hpe] at n4 xfin
        exact AWp.later hpost hs hn.known xfin n4

/-- A loop over a function within a round of another one. -/
theorem awp_rangeFuncN {id0 : Nat} {l0 : ALoop} (hl0 : eget s.heap id0 = some (.loop l0)) {g : Operand} {ps : Array Tmp} {assign body : Code} {gf : FuncId} {caps : List AV} (hg : oper env g = some (.fn gf caps)) (he : enters P gf = true)
    (h : ACalls P gf (.yld s.cnt :: caps) ⟨(s.cnt, .loop ⟨env, N, ps.toList, assign, body, .ready, none⟩) :: s.heap, s.cnt + 1⟩
      (fun _ s' => LoopEnd P N (some id0) Q env s.cnt [] s')) : AWp P N (some id0) (.rangeFunc g ps assign body) Q env s := fun G w a hn => by
  refine wpIn_rangeFunc fun fn _ => ?_
  have hfv := oper_V hn.env hg
  generalize hq : a.eval g = fv at hfv
  cases hfv with
  | fn _ _ vs hv1 hv2 =>
    have hs := hn.sim
    obtain ⟨r0, hr0⟩ := hn.known id0 rfl
    obtain ⟨fn0, tmps0, d0, hw0, _, _⟩ := loop_at hs hl0 hr0
    obtain ⟨p3, p4⟩ := hs.put (o := .loop { state := .ready, pending := none, fn := fn, tmps := a.tmps, params := ps, assign := assign, body := body, defers := d0 })
      (blk := .loop ⟨env, N, ps.toList, assign, body, .ready, none⟩) (r := ⟨w.heap.size, 0, 0, 0⟩) rfl
      (by
        have := Holds.loop (G := Ghost.put G s.cnt ⟨w.heap.size, 0, 0, 0⟩) (r := ⟨w.heap.size, 0, 0, 0⟩) ⟨env, N, ps.toList, assign, body, .ready, none⟩ fn a.tmps d0 hn.size (hn.env.mono (.put (hs.fresh _ (Nat.le_refl _))))
        simpa using this)
    generalize hG2 : Ghost.put G s.cnt ⟨w.heap.size, 0, 0, 0⟩ = G2 at p3 p4
    have ownL : G2.own s.cnt = some ⟨w.heap.size, 0, 0, 0⟩ := by rw [← hG2]; simp [Ghost.put]
    generalize hw2 : w.alloc (.loop { state := .ready, pending := none, fn := fn, tmps := a.tmps, params := ps, assign := assign, body := body, defers := d0 }) = w2 at p3 p4
    have hev : (a.eval g) = .func (.func gf) #[] vs := hq
    refine ⟨w.heap.size, [], w2, { target := .fn (.func gf) vs, args := #[.func (.yield w.heap.size) #[] #[]] }, w2, gf,
      #[.func (.yield w.heap.size) #[] #[]] ++ vs, w2, ?_, ?_, fun _ _ => trivial, ?_, (fun h => by cases h), ?_⟩
    · rw [← hw2, show (fen (conc G (some id0))).round = some r0.block from by simp [fen, conc, hr0]]
      exact run_enterLoop_inner hw0 _ _ _ _ _
    · simp only [resolve, hev]
      simp [go_sem]
    · simp [invoke, go_sem, fn_run he]
    · have hargs : VL G2 (.yld s.cnt :: caps) (#[.func (.yield w.heap.size) #[] #[]] ++ vs) := by
        have l1 : VL G2 [.yld s.cnt] #[.func (.yield w.heap.size) #[] #[]] := ⟨rfl, fun i x y hx hy => by
          cases i with
          | zero => simp at hx hy; subst hx; subst hy; exact .yld _ _ ownL
          | succ i => simp at hx⟩
        exact l1.append (VL.mono p4.le ⟨hv1, hv2⟩)
      refine (callsIn_fen (h G2 w2 _ p3 hargs)).mono ?_
      rintro e w3 ⟨v, G3, x, s3, rfl, hV3, hs3, hx3, l, g3, hst, hpost⟩
      have ownL3 := hx3.le.own _ _ ownL
      obtain ⟨fn3, tmps3, d3, hw3, hsz3, hVE3⟩ := loop_at hs3 g3 ownL3
      obtain ⟨u1, u2⟩ := loop_turn hs3 (l' := { l with state := .exhausted }) g3 ownL3 hw3 hsz3 hVE3 rfl
      have xall : Ext G s w G3 _ _ := (p4.trans hs hx3).trans hs u2
      have dropH : ∀ i b, eget ([] ++ edel s3.heap s.cnt) i = some b → eget (setLoop s3 s.cnt { l with state := .exhausted }).heap i = some b := fun i b hb => by
        simp only [List.nil_append, get_del] at hb
        simp only [setLoop, get_set]
        split at hb
        · cases hb
        · rename_i h2; rw [if_neg h2]; exact hb
      have dropD : ∀ i, eget (setLoop s3 s.cnt { l with state := .exhausted }).heap i = some .dfr → eget ([] ++ edel s3.heap s.cnt) i = some .dfr := fun i hi => by
        simp only [setLoop, get_set] at hi
        split at hi
        · cases hi
        · rename_i h2
          simp only [List.nil_append]
          rw [get_del, if_neg h2]; exact hi
      have xfin : Ext G s w G3 ⟨[] ++ edel s3.heap s.cnt, s3.cnt⟩ _ := xall.trans hs (Ext.drop dropH (Nat.le_refl _) dropD)
      have n4 : Now G3 N (some id0) env ⟨[] ++ edel s3.heap s.cnt, s3.cnt⟩ { a with defers := [] ++ a.defers } (w3.putObj w.heap.size (.loop { state := .exhausted, pending := l.pending, fn := fn3, tmps := tmps3, params := l.params.toArray, assign := l.assign, body := l.body, defers := d3 })) :=
        ⟨u1.drop dropH (Nat.le_refl _), hn.env.mono xall.le, hn.size, by simpa using (hn.defs.ext xall).drop dropD, hn.known.le xall.le⟩
      refine ⟨l.pending, _, run_endLoop hw3 hst, ?_⟩
      cases hpe : l.pending with
      | none =>
        simp only [hpe] at hpost
        rw [hpe] at n4 xfin
        exact ⟨G3, env, _, n4, xfin, hpost⟩
      | some c =>
        simp only [hpe] at hpost
        rw [hpe] at n4 xfin
        exact AWp.later hpost hs hn.known xfin n4

end
end Go.Am
