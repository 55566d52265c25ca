/-
  The logic AM, part 13: every operation that is no call of a Go function is carried out as 'aop' says.
  Own work. No Go text.
-/
import Derived.Test.YtpljabnngpnieaaAm12
namespace Go.Am
open Go.RowKit

section
variable {P : Program} {G : Ghost} {s s' : St} {w : World} {env : Env} {a : Act}

/-- What an operation comes to. -/
def DidN (P : Program) (G : Ghost) (s : St) (w : World) (sem : Sem Next) (x : AV) (s' : St) : Prop :=
  ∃ nx v G' w', sem.run P w = .ok nx w' ∧ (nx = .value v ∨ (nx = .skip ∧ v = undef)) ∧ V G' x v ∧ Sim G' s' w' ∧ Ext G s w G' s' w'

theorem Did.next {sem : Sem Value} {x : AV} (h : Did P G s w sem x s') : DidN P G s w (do pure (.value (← sem))) x s' := by
  obtain ⟨v, G', w', e1, e2, e3, e4⟩ := h
  exact ⟨.value v, v, G', w', by simp [e1], .inl rfl, e2, e3, e4⟩

theorem keep_some {v : Option AV} {x : AV} (h : ekeep v s = some (x, s')) : v = some x ∧ s' = s := by
  unfold ekeep at h
  split at h
  · cases h; exact ⟨rfl, rfl⟩
  · cases h

theorem did_val (hs : Sim G s w) {x : AV} {v : Value} (hv : V G x v) : DidN P G s w (pure (.value v)) x s := ⟨.value v, v, G, w, rfl, .inl rfl, hv, hs, .refl _ _ _⟩

theorem aLen_did (hs : Sim G s w) {t ty : TypeId} {ts : Array TypeId} (ht : ts[0]? = some t) {x y : AV} {xv : Value} (hx : V G x xv) (h : aLen P t x = some y) : Did P G s w (Builtin.len_ ts ty #[xv]) y s := by
  unfold aLen at h
  split at h
  · split at h
    case isFalse => cases h
    rename_i hel
    cases h
    obtain ⟨e, hel⟩ := Option.isSome_iff_exists.1 hel
    cases hx
    all_goals exact did_pure hs (v := goInt _) (by simp [Builtin.len_, ht, run_underlying (elemT_u hel)]) (.int _ _)
  · split at h
    case isFalse => cases h
    rename_i hel
    cases h
    obtain ⟨e, hel⟩ := Option.isSome_iff_exists.1 hel
    obtain ⟨base, cap, rfl, _⟩ := V.sl_inv hx
    exact did_pure hs (v := goInt _) (by simp [Builtin.len_, ht, run_underlying (elemT_u hel)]) (.int _ _)
  · split at h
    case isFalse => cases h
    rename_i hel
    cases h
    obtain ⟨e, hel⟩ := Option.isSome_iff_exists.1 hel
    cases hx
    all_goals exact did_pure hs (v := goInt _) (by simp [Builtin.len_, ht, run_underlying (elemT_u hel)]) (.int _ _)
  · split at h
    case isFalse => cases h
    rename_i hst
    cases h
    cases hx
    exact did_pure hs (v := goInt _) (by simp [Builtin.len_, ht, run_underlying (strT_u hst)]) (.int _ _)
  · split at h
    case h_2 => cases h
    rename_i n e hel
    cases h
    refine did_pure hs (v := goInt n) ?_ (.int _ _)
    cases xv <;> simp [Builtin.len_, ht, run_underlying (arrT_u hel)]

theorem aCap_did (hs : Sim G s w) {t ty : TypeId} {ts : Array TypeId} (ht : ts[0]? = some t) {x y : AV} {xv : Value} (hx : V G x xv) (h : aCap P t x = some y) : Did P G s w (Builtin.cap_ ts ty #[xv]) y s := by
  unfold aCap at h
  split at h
  case h_3 => cases h
  · split at h
    case isFalse => cases h
    rename_i hel
    cases h
    obtain ⟨e, hel⟩ := Option.isSome_iff_exists.1 hel
    cases hx
    all_goals exact did_pure hs (v := goInt _) (by simp [Builtin.cap_, ht, run_underlying (elemT_u hel)]) (.int _ _)
  · split at h
    case isFalse => cases h
    rename_i hel
    cases h
    obtain ⟨e, hel⟩ := Option.isSome_iff_exists.1 hel
    cases hx with
    | slnil _ base cap hf hb =>
      rw [hf rfl]
      exact did_pure hs (v := goInt 0) (by simp [Builtin.cap_, ht, run_underlying (elemT_u hel)]) (.int _ _)
    | sl _ _ b off esz cap val hcap hfull hesz hsc himm hV =>
      rw [hfull rfl]
      exact did_pure hs (v := goInt _) (by simp [Builtin.cap_, ht, run_underlying (elemT_u hel)]) (.int _ _)

theorem aFold_run {f : AV → AV → Option AV} {g : Value → Value → Sem Value} (hf : ∀ x y z xv yv, V G x xv → V G y yv → f x y = some z → ∃ v, (g xv yv).run P w = .ok v w ∧ V G z v) :
    ∀ {l : List AV} {lv : List Value} {x z : AV} {xv : Value}, l.length = lv.length → (∀ (i : Nat) p q, l[i]? = some p → lv[i]? = some q → V G p q) → V G x xv → aFold f x l = some z →
      ∃ v, (lv.foldlM g xv).run P w = .ok v w ∧ V G z v
  | [], lv, x, z, xv, hl, hV, hx, h => by
    cases lv with
    | nil => cases h; exact ⟨xv, rfl, hx⟩
    | cons _ _ => simp at hl
  | y :: r, lv, x, z, xv, hl, hV, hx, h => by
    cases lv with
    | nil => simp at hl
    | cons yv rv =>
      simp only [aFold] at h
      split at h
      case h_2 => cases h
      rename_i u hu
      obtain ⟨v, e1, e2⟩ := hf x y u xv yv hx (hV 0 y yv rfl rfl) hu
      obtain ⟨v', f1, f2⟩ := aFold_run hf (l := r) (lv := rv) (by simpa using hl) (fun i p q hp hq => hV (i + 1) p q (by simpa using hp) (by simpa using hq)) e2 h
      exact ⟨v', by simp [List.foldlM_cons, e1, f1], f2⟩

theorem opers_two (he : VEnv G env a.tmps) {l : Array Operand} {x y : AV} (h : opers env l.toList = some [x, y]) : ∃ o1 o2, l = #[o1, o2] ∧ V G x (a.eval o1) ∧ V G y (a.eval o2) := by
  obtain ⟨ls⟩ := l
  obtain ⟨e1, e2⟩ := opers_V he h
  match ls, e1 with
  | [o1, o2], _ => exact ⟨o1, o2, rfl, e2 0 _ _ rfl rfl, e2 1 _ _ rfl rfl⟩
theorem opers_one (he : VEnv G env a.tmps) {l : Array Operand} {x : AV} (h : opers env l.toList = some [x]) : ∃ o1, l = #[o1] ∧ V G x (a.eval o1) := by
  obtain ⟨ls⟩ := l
  obtain ⟨e1, e2⟩ := opers_V he h
  match ls, e1 with
  | [o1], _ => exact ⟨o1, rfl, e2 0 _ _ rfl rfl⟩

theorem append_types {ts : Array TypeId} {t u ty : TypeId} {args : Array Value} (h0 : ts[0]? = some t) (h1 : ts[1]? = some u) : Builtin.append_ ts ty args = Builtin.append_ #[t, u] ty args := by
  unfold Builtin.append_; simp [h0, h1]
theorem copy_types {ts : Array TypeId} {t ty : TypeId} {args : Array Value} (h0 : ts[0]? = some t) : Builtin.copy_ ts ty args = Builtin.copy_ #[t, t] ty args := by
  unfold Builtin.copy_; simp [h0]

theorem append_slice_did (hs : Sim G s w) {t u ty e : TypeId} {x y z : AV} {xv yv : Value} (hx : V G x xv) (hy : V G y yv) {new : List AV} (he : elemT P t = some e) (hn : elemsOf y s = some new) (hf : fitsV P e y s)
    (hu : (elemT P u).isSome = true) (h : aAppend P t x new s = some (z, s')) : Did P G s w (Builtin.append_ #[t, u] ty #[xv, yv]) z s' := by
  obtain ⟨d, hu⟩ := Option.isSome_iff_exists.1 hu
  have hsome : ∃ sz, sizeT P e = some sz := by
    unfold aAppend at h
    rw [he] at h
    simp only at h
    split at h
    · rename_i sz _ hsz _; exact ⟨sz, hsz⟩
    · cases h
  obtain ⟨sz, hsz⟩ := hsome
  obtain ⟨f1, f2, f3, f4⟩ := firstCells_run (P := P) hs hy hn hsz hf
  obtain ⟨vs, g1, g2⟩ := f4 new.length (Nat.le_refl _)
  rw [List.take_length] at g2
  refine append_did hs hx he (fun sz' hsz' => ?_) f2 g2 h
  rw [hsz] at hsz'; cases hsz'
  refine ⟨f1, .inl ⟨⟨d, elemT_u hu⟩, fun w' => ?_, g1⟩⟩
  -- the length does not hang on the world
  have : (Builtin.lenOf yv).run P w = .ok new.length w := f3
  cases yv <;> simp [Builtin.lenOf] at this ⊢ <;> exact this

theorem append_make_did (hs : Sim G s w) {t u ty e : TypeId} {x z zz : AV} {k : IntKind} {n : Int} {xv : Value} (hx : V G x xv) (he : elemT P t = some e) (hz : zeroT P e = some zz) (h0 : 0 ≤ n) (h1 : n ≤ (maxElems : Int))
    (hu : (intT P u).isSome = true) (hsz : sizeT P e = some zz.cells.length) (hsc : zz.cells.all AV.scalar = true) (h : aAppend P t x (List.replicate n.toNat zz) s = some (z, s')) :
    Did P G s w (Builtin.append_ #[t, u] ty #[xv, .int k n]) z s' := by
  obtain ⟨k', hu⟩ := Option.isSome_iff_exists.1 hu
  have hrun : ∃ zv, (∀ w', (zeroValue e).run P w' = .ok zv w') ∧ V G zz zv := by
    unfold zeroT at hz
    cases hi : P.info? e with
    | none => simp [hi] at hz
    | some i =>
      cases hzz : i.zero with
      | none => simp [hi, hzz] at hz
      | some v =>
        simp [hi, hzz] at hz
        exact ⟨v, fun w' => by simp [zeroValue, run_info hi, hzz], ofValue_V hz⟩
  obtain ⟨zv, hzr, hzV⟩ := hrun
  have hzl := VL.cells hzV (not_any hsc)
  refine append_did hs hx he (news := if n.toNat * zz.cells.length = 0 then #[] else Builtin.zeroCells zv.cells n.toNat) (fun sz' hsz' => ?_) (fun y hy => ?_) ⟨?_, fun i p q hp hq => ?_⟩ h
  · rw [hsz] at hsz'; cases hsz'
    refine ⟨fun y hy => by rw [List.eq_of_mem_replicate hy], .inr ⟨k', k, n, intT_u hu, rfl, h0, h1, by simp, zv, hzr, by simp⟩⟩
  · rw [flat, List.mem_flatMap] at hy
    obtain ⟨q, hq, hy⟩ := hy
    rw [List.eq_of_mem_replicate hq] at hy
    exact scal_of_all hsc y hy
  · rw [flat_length (esz := zz.cells.length) fun y hy => by rw [List.eq_of_mem_replicate hy]]
    rw [List.length_replicate]
    split
    · rename_i hn; rw [hn]; rfl
    · rw [size_zeroCells, ← hzl.1]
  · have hpos : 0 < zz.cells.length := by
      rcases Nat.eq_zero_or_pos zz.cells.length with h | h
      · exfalso
        have hl : (flat (List.replicate n.toNat zz)).length = 0 := by
          rw [flat_length (esz := zz.cells.length) fun y hy => by rw [List.eq_of_mem_replicate hy]]; rw [h]; simp
        rw [List.eq_nil_of_length_eq_zero hl] at hp
        simp at hp
      · exact h
    obtain ⟨p1, p2⟩ := flat_replicate _ _ hpos hp
    rw [if_neg (by omega)] at hq
    obtain ⟨v, r1, r2⟩ := hzl.get p2
    have hlt : i < n.toNat * zv.cells.size := by rw [← hzl.1]; exact p1
    have hzs : zv.cells.size = zz.cells.length := hzl.1.symm
    have hb2 : zv.cells[i % zv.cells.size]! = v := by rw [Array.getElem!_eq_getD, Array.getD_eq_getD_getElem?, hzs, r1]; rfl
    simp [Builtin.zeroCells, hlt, hb2] at hq
    subst hq; exact r2

theorem aop_sound (hs : Sim G s w) (he : VEnv G env a.tmps) (o : Oper) {x : AV} (h : aop P o.op env s = some (x, s')) : DidN P G s w (execOp a.eval o) x s' := by
  unfold aop at h
  obtain ⟨dst, op, type, pos, after, guard⟩ := o
  simp only at h
  split at h
  · -- move
    obtain ⟨h1, rfl⟩ := keep_some h
    exact did_val hs (oper_V he h1)
  · obtain ⟨h1, rfl⟩ := keep_some h
    exact did_val hs (oper_V he h1)
  · -- pick
    rename_i c oa ob
    split at h
    case h_2 => cases h
    rename_i b hc
    have hv := oper_V he hc
    generalize hq : a.eval c = cv at hv
    cases hv
    cases b
    · simp only [Bool.false_eq_true, if_false] at h
      obtain ⟨h1, rfl⟩ := keep_some h
      exact ⟨.value (a.eval ob), _, G, w, by simp [execOp, hq, asBool], .inl rfl, oper_V he h1, hs, .refl _ _ _⟩
    · simp only [if_true] at h
      obtain ⟨h1, rfl⟩ := keep_some h
      exact ⟨.value (a.eval oa), _, G, w, by simp [execOp, hq, asBool], .inl rfl, oper_V he h1, hs, .refl _ _ _⟩
  · split at h
    case h_2 => cases h
    rename_i z hz
    exact (alloc_did hs hz h).next
  · split at h
    case h_2 => cases h
    rename_i v hv
    exact (new_did hs (oper_V he hv) h).next
  · split at h
    case h_2 => cases h
    rename_i l hl
    obtain ⟨h1, rfl⟩ := keep_some h
    exact (build_did hs he hl h1).next
  · split at h
    case h_2 => cases h
    rename_i l hl
    obtain ⟨h1, rfl⟩ := keep_some h
    exact (buildSlice_did hs he hl h1).next
  · split at h
    case h_2 => cases h
    rename_i p hp
    obtain ⟨h1, rfl⟩ := keep_some h
    exact (load_did hs (oper_V he hp) h1).next
  · split at h
    case h_2 => cases h
    rename_i p y hp hy
    split at h
    case h_2 => cases h
    rename_i s2 hst
    cases h
    obtain ⟨w', e1, e2, e3⟩ := store_did hs (oper_V he hp) (oper_V he hy) hst
    exact ⟨.skip, undef, G, w', by simp [execOp, e1], .inr ⟨rfl, rfl⟩, .any _, e2, e3⟩
  · -- nilCheck
    rename_i ox
    split at h
    · rename_i hq
      cases h
      have hv := oper_V he hq
      generalize hqq : a.eval ox = cv at hv
      cases hv with
      | mp id el off r ho => exact ⟨.value _, _, G, w, by simp only [execOp, hqq]; rfl, .inl rfl, .mp _ _ _ r ho, hs, .refl _ _ _⟩
    · rename_i hq
      cases h
      have hv := oper_V he hq
      generalize hqq : a.eval ox = cv at hv
      have hv' := hv
      cases hv with
      | ip cells b off val h1 h2 => exact ⟨.value _, _, G, w, by simp only [execOp, hqq]; rfl, .inl rfl, hv', hs, .refl _ _ _⟩
    · rename_i hq
      cases h
      have hv := oper_V he hq
      generalize hqq : a.eval ox = cv at hv
      have hv' := hv
      cases hv with
      | fn f caps vs h1 h2 => exact ⟨.value _, _, G, w, by simp only [execOp, hqq]; rfl, .inl rfl, hv', hs, .refl _ _ _⟩
    · cases h
  · -- binOp
    split at h
    case h_2 => cases h
    rename_i y z hy hz
    obtain ⟨h1, rfl⟩ := keep_some h
    obtain ⟨v, e1, e2⟩ := aBin_run (ox := _) (oy := _) (oper_V he hy) (oper_V he hz) h1
    exact (did_pure hs e1 e2).next
  · split at h
    case h_2 => cases h
    rename_i y hy
    obtain ⟨h1, rfl⟩ := keep_some h
    have hv := oper_V he hy
    unfold aUn at h1
    split at h1
    · cases h1
      generalize hq : a.eval _ = cv at hv
      cases hv
      exact ⟨_, _, G, w, by simp only [execOp, hq, Op.unary, Sem.run_bind, Sem.run_pure, Result.andThen_ok], .inl rfl, .bool _, hs, .refl _ _ _⟩
    · cases h1
      generalize hq : a.eval _ = cv at hv
      cases hv
      exact ⟨_, _, G, w, by simp only [execOp, hq, Op.unary, Op.intArith, Sem.run_bind, Sem.run_pure, Result.andThen_ok], .inl rfl, .int _ _, hs, .refl _ _ _⟩
    · cases h1
  · -- convert
    split at h
    case h_2 => cases h
    rename_i y hy
    obtain ⟨h1, rfl⟩ := keep_some h
    have hv := oper_V he hy
    unfold aConvert at h1
    split at h1
    · split at h1
      case isFalse => cases h1
      rename_i hsrc
      split at h1
      case h_2 => cases h1
      rename_i k hk
      cases h1
      obtain ⟨d, hd⟩ := Option.isSome_iff_exists.1 hsrc
      generalize hq : a.eval _ = cv at hv
      cases hv
      exact ⟨_, _, G, w, by simp [execOp, hq, convert, run_underlying hd, run_underlying (intT_u hk), Conv.intToInt], .inl rfl, .int _ _, hs, .refl _ _ _⟩
    · split at h1
      case isFalse => cases h1
      rename_i hsrc
      cases h1
      obtain ⟨d, hd⟩ := Option.isSome_iff_exists.1 hsrc.1
      generalize hq : a.eval _ = cv at hv
      cases hv
      exact ⟨_, _, G, w, by simp [execOp, hq, convert, run_underlying hd, run_underlying (strT_u hsrc.2)], .inl rfl, .str _, hs, .refl _ _ _⟩
    · cases h1
  · -- makeFunc
    rename_i f first caps
    split at h
    case isFalse => cases h
    rename_i hf
    split at h
    case h_2 => cases h
    rename_i l hl
    cases h
    have hfe : first = #[] := Array.eq_empty_of_size_eq_zero hf
    subst hfe
    have hvl := opers_VL he hl
    exact ⟨.value (.func (.func f) #[] (caps.map a.eval)), _, G, w, by simp [execOp, Instr.makeFunc], .inl rfl, .fn f l _ hvl.1 hvl.2, hs, .refl _ _ _⟩
  · split at h
    case h_2 => cases h
    rename_i y hy
    obtain ⟨h1, rfl⟩ := keep_some h
    exact (slice_did hs he (oper_V he hy) h1).next
  · split at h
    case h_2 => cases h
    rename_i y hy
    obtain ⟨h1, rfl⟩ := keep_some h
    exact (fieldAddr_did hs (oper_V he hy) h1).next
  · split at h
    case h_2 => cases h
    rename_i y hy
    obtain ⟨h1, rfl⟩ := keep_some h
    exact (field_did hs (oper_V he hy) h1).next
  · split at h
    case h_2 => cases h
    rename_i y z hy hz
    obtain ⟨h1, rfl⟩ := keep_some h
    exact (indexAddr_did hs (oper_V he hy) (oper_V he hz) h1).next
  · split at h
    case h_2 => cases h
    rename_i y z hy hz
    obtain ⟨h1, rfl⟩ := keep_some h
    exact (index_did hs (oper_V he hy) (oper_V he hz) h1).next
  · -- extract
    split at h
    case h_2 => cases h
    rename_i vs hy
    obtain ⟨h1, rfl⟩ := keep_some h
    have hv := oper_V he hy
    generalize hq : a.eval _ = cv at hv
    cases hv with
    | tup _ us hl hh =>
      obtain ⟨v, e1, e2⟩ := VL.get ⟨hl, hh⟩ h1
      exact ⟨.value v, v, G, w, by simp [execOp, hq, Instr.extract, e1], .inl rfl, e2, hs, .refl _ _ _⟩
  · split at h
    case h_2 => cases h
    rename_i y z hy hz
    exact (make_did hs (oper_V he hy) (oper_V he hz) h).next
  · -- call
    rename_i c
    obtain ⟨callee, args, argTypes⟩ := c
    simp only at h
    split at h
    · -- len
      split at h
      case h_2 => cases h
      rename_i y t hy ht
      obtain ⟨h1, rfl⟩ := keep_some h
      obtain ⟨o1, rfl, v1⟩ := opers_one he hy
      have := (aLen_did (ty := type) hs ht v1 h1).next
      simpa [execOp, resolve, invoke, builtin] using this
    · -- append
      split at h
      case h_2 => cases h
      rename_i y z t u hy ht hu
      obtain ⟨o1, o2, rfl, v1, v2⟩ := opers_two he hy
      have goal : ∀ x, Did P G s w (Builtin.append_ #[t, u] type #[a.eval o1, a.eval o2]) x s' →
          DidN P G s w (execOp a.eval ⟨dst, .call ⟨.builtin .append, #[o1, o2], argTypes⟩, type, pos, after, guard⟩) x s' := fun x hd => by
        rw [← append_types ht hu] at hd
        simpa [execOp, resolve, invoke, builtin] using hd.next
      refine goal _ ?_
      split at h
      · rename_i k n
        split at h
        case h_2 => cases h
        rename_i e hel
        split at h
        case h_2 => cases h
        rename_i zz hz
        split at h
        case isFalse => cases h
        rename_i hc
        generalize a.eval o2 = cv at v2
        cases v2
        exact append_make_did hs v1 hel hz hc.1 hc.2.1 hc.2.2.1 hc.2.2.2.1 hc.2.2.2.2 h
      · split at h
        case h_2 => cases h
        rename_i e new hel hn
        split at h
        case isFalse => cases h
        rename_i hc
        exact append_slice_did hs v1 v2 hel hn hc.1 hc.2 h
    · -- copy
      split at h
      case h_2 => cases h
      rename_i y z t hy ht
      obtain ⟨o1, o2, rfl, v1, v2⟩ := opers_two he hy
      split at h
      · have hd := copyM_did (u := t) (ty := type) hs v1 v2 h
        rw [← copy_types ht] at hd
        simpa [execOp, resolve, invoke, builtin] using hd.next
      · split at h
        case h_2 => cases h
        rename_i e new hel hn
        split at h
        case isFalse => cases h
        rename_i hf
        have hd := copy_did (u := t) (ty := type) hs v1 v2 hel hn hf h
        rw [← copy_types ht] at hd
        simpa [execOp, resolve, invoke, builtin] using hd.next
    · -- cap
      split at h
      case h_2 => cases h
      rename_i y t hy ht
      obtain ⟨h1, rfl⟩ := keep_some h
      obtain ⟨o1, rfl, v1⟩ := opers_one he hy
      have := (aCap_did (ty := type) hs ht v1 h1).next
      simpa [execOp, resolve, invoke, builtin] using this
    · -- clear
      split at h
      case h_2 => cases h
      rename_i y t hy ht
      obtain ⟨o1, rfl, v1⟩ := opers_one he hy
      have := (clear_did (ty := type) hs ht v1 h).next
      simpa [execOp, resolve, invoke, builtin] using this
    · -- min
      split at h
      case h_2 => cases h
      rename_i y r hy
      obtain ⟨h1, rfl⟩ := keep_some h
      obtain ⟨e1, e2⟩ := opers_V he hy
      obtain ⟨ls⟩ := args
      cases ls with
      | nil => simp at e1
      | cons o1 rest =>
        obtain ⟨v, f1, f2⟩ := aFold_run (P := P) (w := w) (g := Builtin.min2) (fun p q z pv qv hp hq hz => by
          cases p <;> simp only [aMin] at hz <;> first | (cases hz; done) | skip
          cases q <;> simp only [] at hz <;> first | (cases hz; done) | skip
          split at hz
          · rename_i hk; subst hk; cases hz; cases hp; cases hq; exact ⟨_, rfl, .int _ _⟩
          · cases hz) (l := r) (lv := rest.map a.eval) (by simpa using e1) (fun i p q hp hq => e2 (i + 1) p q (by simpa using hp) (by simpa using hq)) (e2 0 y _ rfl rfl) h1
        refine ⟨.value v, v, G, w, ?_, .inl rfl, f2, hs, .refl _ _ _⟩
        simp [execOp, resolve, invoke, builtin, Builtin.min_, f1]
    · -- max
      split at h
      case h_2 => cases h
      rename_i y r hy
      obtain ⟨h1, rfl⟩ := keep_some h
      obtain ⟨e1, e2⟩ := opers_V he hy
      obtain ⟨ls⟩ := args
      cases ls with
      | nil => simp at e1
      | cons o1 rest =>
        obtain ⟨v, f1, f2⟩ := aFold_run (P := P) (w := w) (g := Builtin.max2) (fun p q z pv qv hp hq hz => by
          cases p <;> simp only [aMax] at hz <;> first | (cases hz; done) | skip
          cases q <;> simp only [] at hz <;> first | (cases hz; done) | skip
          split at hz
          · rename_i hk; subst hk; cases hz; cases hp; cases hq; exact ⟨_, rfl, .int _ _⟩
          · cases hz) (l := r) (lv := rest.map a.eval) (by simpa using e1) (fun i p q hp hq => e2 (i + 1) p q (by simpa using hp) (by simpa using hq)) (e2 0 y _ rfl rfl) h1
        refine ⟨.value v, v, G, w, ?_, .inl rfl, f2, hs, .refl _ _ _⟩
        simp [execOp, resolve, invoke, builtin, Builtin.max_, f1]
    · cases h
  · cases h

end
end Go.Am
