/-
  The logic AM, E: rules of which generated walks are made.
  Own work. No Go text.
-/
import Derived.Test.YtodkhgjhodmeoaaGreatAm26
import Derived.WalkSpells
import Derived.KernelRfl
import Derived.Laws.Externs
set_option linter.all false
section
namespace Go.Am
open Go.RowKit
def bOwn (P : Program) (op : Op) (env : Env) (s : St) : Option (AV × St) := match op with
  | .buildSlice t len parts => match aParts env parts.toList with
    | some l => match aBuildSlice P t len l, elemT P t with
      | some _, some e => match sizeT P e with
        | some sz => some (.ms s.cnt 0 l.length, ⟨(s.cnt, .cells sz (l.map (·.2))) :: s.heap, s.cnt + 1⟩)
        | none => none
      | _, _ => none
    | none => none
  | _ => none
section
variable {P : Program} {G : Ghost} {s s' : St} {w : World} {env : Env} {a : Act}
theorem buildOwn_did (hs : Sim G s w) (he : VEnv G env a.tmps) {t len : Nat} {parts : Array (Nat × Operand)} {l : List (Nat × AV)} {x : AV} {e0 sz0 : Nat} (hl : aParts env parts.toList = some l) (h : aBuildSlice P t len l = some x) (he0 : elemT P t = some e0) (hs0 : sizeT P e0 = some sz0) :
    Did P G s w (Instr.buildSlice t len (parts.map fun (i, x) => (i, a.eval x))) (.ms s.cnt 0 l.length) ⟨(s.cnt, .cells sz0 (l.map (·.2))) :: s.heap, s.cnt + 1⟩ := by
  have hp := aParts_V he hl
  unfold aBuildSlice at h
  split at h
  case h_2 => cases h
  rename_i e hu
  split at h
  case h_2 => cases h
  rename_i sz z hsz hz
  split at h
  case isFalse => cases h
  rename_i hc
  obtain ⟨rfl, h2, h3, h4, h5, h6⟩ := hc
  cases h
  obtain ⟨zv, hzr, hzV⟩ := run_zeroT hz w G
  -- the zero cells
  let zc : Array Value := if l.length * sz = 0 then #[] else zv.cells
  let c0 : Array Value := (Array.range (l.length * sz)).map (zc[· % zc.size]!)
  have hc0 : VL G (List.replicate (l.length * sz) AV.any) c0 := ⟨by simp [c0], fun i x y hx _ => by
    rw [List.getElem?_replicate] at hx
    split at hx
    · cases hx; exact .any _
    · cases hx⟩
  have hfl := fill_slice (sz := sz) (st := 0) (cells := List.replicate (l.length * sz) AV.any) h2 h3 (by simp)
  simp only [Nat.zero_mul, List.take_zero, List.nil_append] at hfl
  obtain ⟨ov, f1, f2⟩ := fill_VL (place' := fun i => some (i * sz, sz)) (fun i q hq => hq) hc0 hp hfl
  have hall : ∀ y ∈ l.map (·.2), y.cells.length = sz := fun y hy => by
    obtain ⟨p, hp, rfl⟩ := List.mem_map.1 hy
    exact (h3 p hp).1
  have hlen : ov.size = l.length * sz := by rw [← f2.1, flat_length hall]; simp
  rw [hu] at he0
  have he1 := Option.some.inj he0
  subst he1
  rw [hsz] at hs0
  have hs1 := Option.some.inj hs0
  subst hs1
  have hrun : (Instr.buildSlice t l.length (parts.map fun (i, x) => (i, a.eval x))).run P w = .ok (.slice (some ⟨w.heap.size, 0, none⟩) l.length l.length) (w.alloc (.cells ov e)) := by
    have h4' : ¬ (2 ^ 24 < l.length * sz) := by omega
    have h4'' : ¬ (16777216 < l.length * sz) := by omega
    simp only [Instr.buildSlice, Sem.run_bind, run_underlying (elemT_u hu), run_sizeT hsz, Result.andThen_ok, gt_iff_lt, if_neg h4', Array.toList_map]
    have hf1 : Instr.fill (fun i => some (i * sz, sz)) c0 (parts.toList.map fun p => (p.1, a.eval p.2)) = some ov := f1
    by_cases hN : l.length * sz = 0
    · rw [if_pos hN]
      simp only [c0, zc, if_pos hN] at hf1
      simp only [pure_bind, hf1]
      simp [newRow]
    · rw [if_neg hN]
      simp only [c0, zc, if_neg hN] at hf1
      simp only [Sem.run_bind, hzr, Result.andThen_ok, Sem.run_pure, hf1]
      simp [newRow]
  have hmem : ∀ k y, (flat (l.map (·.2)))[k]? = some y → ∃ v, ov[k]? = some v ∧ V G y v := fun k y hk => f2.get hk
  obtain ⟨q1, q2⟩ := hs.put (o := .cells ov e) (blk := .cells sz (l.map (·.2))) (r := ⟨w.heap.size, 0, sz, ov.size⟩) rfl
    (.cells _ _ _ _ rfl rfl h5 hall (fun y hy => by
      rw [flat, List.mem_flatMap] at hy
      obtain ⟨q, hq, hy⟩ := hy
      obtain ⟨p, hp, rfl⟩ := List.mem_map.1 hq
      exact scal_of_all (h3 p hp).2 y hy) (by rw [hlen]; simp) fun k y hk => by
      obtain ⟨v, e1, e2⟩ := hmem k y hk
      exact ⟨v, by simpa using e1, e2.mono (.put (hs.fresh _ (Nat.le_refl _)))⟩)
  refine ⟨_, _, _, hrun, ?_, q1, q2⟩
  exact .ms s.cnt 0 _ _ ⟨w.heap.size, 0, sz, ov.size⟩ 0 (by simp [Ghost.put]) (Nat.le_refl _) (by rw [hlen]; simp) (fun _ => by simp)
theorem bOwn_did (hs : Sim G s w) (he : VEnv G env a.tmps) (o : Oper) {x : AV} (h : bOwn P o.op env s = some (x, s')) : DidN P G s w (execOp a.eval o) x s' := by
  unfold bOwn at h
  obtain ⟨dst, op, type, pos, after, guard⟩ := o
  simp only at h
  split at h
  case h_2 => cases h
  rename_i t len parts
  split at h
  case h_2 => cases h
  rename_i l hl
  split at h
  case h_2 => cases h
  rename_i y e hb he0
  split at h
  case h_2 => cases h
  rename_i sz hsz
  cases h
  exact (buildOwn_did hs he hl hb he0 hsz).next
theorem bOwn_call {o : Oper} {r : AV × St} (h : bOwn P o.op env s = some r) : ∃ t len parts, o.op = .buildSlice t len parts := by
  unfold bOwn at h
  split at h
  · rename_i hq; exact ⟨_, _, _, hq⟩
  · cases h
end
section
variable {P : Program} {N : Nat} {ρ : Option Nat} {Q : Exit → Env → St → Prop} {env : Env} {s : St} {a : Act} {G : Ghost} {w : World}
def AExt (P : Program) (g : FuncId) (args : List AV) (s : St) (v : AV) : Prop := ∀ G w vs, Sim G s w → VL G args vs → ∃ val, (callFunc g vs).run P w = .ok (.value val) w ∧ V G v val
def xExt (P : Program) (op : Op) (env : Env) (s : St) (v : AV) : Prop := ∃ f args g caps l, callOf op = some (f, args) ∧ oper env f = some (.fn g caps) ∧ opers env args = some l ∧ AExt P g (l ++ caps) s v
def owpO (P : Program) (o : Oper) (K : AV → St → Prop) (env : Env) (s : St) : Prop := owp P o K env s ∨ (∃ v s', bOwn P o.op env s = some (v, s') ∧ K v s') ∨ ∃ v, xExt P o.op env s v ∧ K v s
theorem owpO_sound {o : Oper} {K : AV → St → Prop} {next : Act → World → Prop} {R : Exit → Act → World → Prop} (h : owpO P o K env s) (hn : Now G N ρ env s a w) (ro : Option Nat)
    (hK : ∀ v G' x s' w', V G' x v → Sim G' s' w' → Ext G s w G' s' w' → K x s' → next (a.put o.dst v) w') : o.wpIn (fen ro) 0 P a w next R := by
  rcases h with h | ⟨x, s', hx, hk⟩ | ⟨x, ⟨f, args, g, caps, l, hc, hf, hl, hx⟩, hk⟩
  · exact owp_sound h hn ro hK
  case inr.inr =>
    refine ⟨fun _ _ => trivial, ?_⟩
    obtain ⟨arr, ts, hop, rfl⟩ := callOf_eq hc
    have hsem : o.semAt (fen ro).round a.eval = execOp a.eval o := Oper.semAt_eq _ _ _ (fun c => by rw [hop]; simp)
    rw [hsem]
    have hfv := oper_V hn.env hf
    have hlv := opers_VL hn.env hl
    generalize hq : a.eval f = fv at hfv
    cases hfv with
    | fn _ _ vs h1 h2 =>
      obtain ⟨val, e1, e2⟩ := hx G w _ hn.sim (hlv.append ⟨h1, h2⟩)
      have hrun : (execOp a.eval o).run P w = .ok (.value val) w := by
        simp [execOp, hop, resolve, Deferred.ofValue, hq, invoke, e1]
      rw [hrun, Oper.uponIn_value]
      exact hK val G x s w e2 hn.sim (.refl _ _ _) hk
  · refine ⟨fun _ _ => trivial, ?_⟩
    obtain ⟨t, len, parts, hop⟩ := bOwn_call hx
    have hsem : o.semAt (fen ro).round a.eval = execOp a.eval o := Oper.semAt_eq _ _ _ (fun c => by rw [hop]; simp)
    rw [hsem]
    obtain ⟨nx, v, G', w', e1, e2, e3, e4, e5⟩ := bOwn_did hn.sim hn.env o hx
    rw [e1]
    rcases e2 with rfl | ⟨rfl, rfl⟩
    · rw [Oper.uponIn_value]; exact hK v G' x s' w' e3 e4 e5 hk
    · rw [Oper.uponIn_skip]; exact hK undef G' x s' w' e3 e4 e5 hk
def rwpO (P : Program) (N : Nat) (ops : Array Oper) (K : Env → St → Prop) : List Oper → Env → St → Prop
  | [], env, s => K env s
  | o :: r, env, s => okDst N o.dst = true ∧ gwp ops o env (owpO P o (fun v s' => rwpO P N ops K r (eput o.dst v env) s') env s) (rwpO P N ops K r (eput o.dst (.tup []) env) s)
theorem rwpO_sound {ops : Array Oper} {G0 : Ghost} {s0 : St} {w0 : World} (h0 : Sim G0 s0 w0) (ro : Option Nat) : ∀ (l : List Oper) (k : Nat) (env : Env) (s : St) (G : Ghost) (a : Act) (w : World), ops.toList.drop k = l →
    Now G N ρ env s a w → Ext G0 s0 w0 G s w → rwpO P N ops (fun env s => Q .normal env s) l env s → wpOpsIn (fen ro) 0 P ops (After G0 N ρ s0 w0 Q) (List.range' k l.length) a w
  | [], k, env, s, G, a, w, _, hn, hx, h => ⟨G, env, s, hn, hx, h⟩
  | o :: r, k, env, s, G, a, w, hl, hn, hx, h => by
    have ho : ops[k]? = some o := by
      have := congrArg (fun l : List Oper => l[0]?) hl
      simpa [List.getElem?_drop] using this
    have hr : ops.toList.drop (k + 1) = r := by rw [← List.drop_drop, hl]; rfl
    obtain ⟨hd, h⟩ := h
    rw [List.length_cons, List.range'_succ]
    simp only [wpOpsIn, ho]
    rcases gwp_sound h hn.env with ⟨hw, h⟩ | ⟨hw, h⟩
    · rw [if_pos hw]
      exact owpO_sound h hn ro fun v G' x s' w' hv hs he hk => rwpO_sound h0 ro r (k + 1) _ _ G' _ w' hr (hn.put hd hv hs he) (hx.trans h0 he) hk
    · rw [if_neg (by simp [hw])]
      exact ⟨fun _ _ => trivial, rwpO_sound h0 ro r (k + 1) _ _ G _ w hr (hn.put hd (.tup [] #[] rfl (by simp)) hn.sim (.refl _ _ _)) hx h⟩
theorem awp_regionO {id : Nat} {ops : Array Oper} (h : rwpO P N ops (fun env s => Q .normal env s) ops.toList env s) : AWp P N ρ (.region id ops false) Q env s := fun G w a hn => by
  refine wpIn_region ?_
  rw [List.range_eq_range']
  exact rwpO_sound hn.sim _ ops.toList 0 env s G a w rfl hn (.refl _ _ _) h
def owsO (P : Program) (op : Op) (K : AV → St → Prop) (env : Env) (s : St) : Prop := ows P op K env s ∨ (∃ v s', bOwn P op env s = some (v, s') ∧ K v s') ∨ ∃ v, xExt P op env s v ∧ K v s
def rwsO (P : Program) (K : Env → St → Prop) : List Ins → Env → St → Prop
  | [], env, s => K env s
  | i :: r, env, s => gws i.guard env (owsO P i.op (fun v s' => rwsO P K r (eput i.dst v env) s') env s) (rwsO P K r (eput i.dst (.tup []) env) s)
theorem rwpO_of_rwsO {ops : Array Oper} {K : Env → St → Prop} (hg : guardsOk ops.toList = true) : ∀ {l : List Oper} {env : Env} {s : St}, (∀ o ∈ l, o ∈ ops.toList) → dstsOk N l = true →
    rwsO P K (l.map (insOf ops.toList)) env s → rwpO P N ops K l env s
  | [], _, _, _, _, h => h
  | o :: r, env, s, hm, hd, h => by
    simp only [dstsOk, List.all_cons, Bool.and_eq_true] at hd
    have ih : ∀ {env : Env} {s : St}, rwsO P K (r.map (insOf ops.toList)) env s → rwpO P N ops K r env s := rwpO_of_rwsO hg (fun o ho => hm o (by simp [ho])) hd.2
    refine ⟨hd.1, ?_⟩
    simp only [List.map_cons, rwsO] at h
    have howp : ∀ {env : Env} {s : St}, owsO P o.op (fun v s' => rwsO P K (r.map (insOf ops.toList)) (eput o.dst v env) s') env s → owpO P o (fun v s' => rwpO P N ops K r (eput o.dst v env) s') env s := by
      intro env s h
      rcases h with h | ⟨v, s', hx, hk⟩ | ⟨v, hx, hk⟩
      case inr.inl => exact .inr (.inl ⟨v, s', hx, ih hk⟩)
      case inr.inr => exact .inr (.inr ⟨v, hx, ih hk⟩)
      refine .inl ?_
      unfold ows at h
      unfold owp
      split at h
      · rename_i f args hc
        simp only [hc]
        split at h
        · rename_i g caps l h1 h2
          simp only [h1, h2]
          exact ⟨h.1, h.2.mono fun _ _ hk => ih hk⟩
        · rename_i id l h1 h2
          simp only [h1, h2]
          exact h.mono fun _ _ hk => ih hk
        · cases h
      · rename_i hc
        simp only [hc]
        split at h
        · rename_i v s' hx
          simp only [hx]
          exact ih h
        · cases h
    have hgo := (List.all_eq_true.1 hg) o (hm o (by simp))
    unfold gwp
    unfold insOf gws at h
    cases hq : o.guard with
    | none => simp only [hq] at h ⊢; exact howp h
    | some jw =>
      obtain ⟨j, want⟩ := jw
      simp only [hq] at h hgo ⊢
      obtain ⟨d, hd'⟩ := Option.isSome_iff_exists.1 hgo
      rw [show ops[j]? = ops.toList[j]? from by simp]
      rw [hd'] at h ⊢
      simp only at h ⊢
      split at h
      · rename_i b hb
        simp only [hb]
        exact ⟨fun e => howp (h.1 e), fun e => ih (h.2 e)⟩
      · rename_i hb
        simp only [hb]
        exact ih h
      · cases h
theorem awp_regO {id : Nat} {ops : Array Oper} {K : Env → St → Prop} (l : List Oper) (hl : ops.toList = l) (hg : guardsOk l = true) (hd : dstsOk N l = true) (h : rwsO P (fun env s => Q .normal env s) (ins l) env s) :
    AWp P N ρ (.region id ops false) Q env s := by
  subst hl
  exact awp_regionO (rwpO_of_rwsO hg (fun _ h => h) hd h)
theorem awp_srO {c y : Code} {id : Nat} {ops : Array Oper} (l : List Oper) (hc : c = .seq (.region id ops false) y) (hl : ops.toList = l) (hg : guardsOk l = true) (hd : dstsOk N l = true)
    (h : rwsO P (AWp P N ρ y Q) (ins l) env s) : AWp P N ρ c Q env s := by
  subst hc; subst hl
  exact awp_seq (awp_regionO (rwpO_of_rwsO hg (fun _ h => h) hd h))
def xstepO (P : Program) (h : Hint) (op : Op) (env : Env) (s : St) : XR := bif Nat.beq h.k 3 then (match bOwn P op env s with
  | some (_, ⟨(id, .cells sz xs) :: r, c⟩) => some (.ms id 0 h.n, ⟨(id, .cells sz h.l) :: r, c⟩, [xs = h.l, xs.length = h.n])
  | _ => none) else bif Nat.beq h.k 6 then (match callOf op with
    | some (f, args) => match oper env f, opers env args, h.c with
      | some (.fn g caps), some l, some (v, _) => some (v, s, [AExt P g (l ++ caps) s v])
      | _, _, _ => none
    | none => none) else xstep P h op env s
theorem xstepO_ok {h : Hint} {op : Op} {env : Env} {s s' : St} {v : AV} {obs : List Prop} {K : AV → St → Prop} (hx : xstepO P h op env s = some (v, s', obs)) (ho : conj obs) (hk : K v s') : owsO P op K env s := by
  unfold xstepO at hx
  cases hq : Nat.beq h.k 3 with
  | false =>
    rw [hq] at hx
    simp only [cond_false] at hx
    cases h6 : Nat.beq h.k 6 with
    | false => rw [h6] at hx; exact .inl (xstep_ok hx ho hk)
    | true =>
      rw [h6] at hx
      simp only [cond_true] at hx
      split at hx
      case h_2 => cases hx
      rename_i f args hc
      split at hx
      case h_2 => cases hx
      rename_i g caps l v0 s0 h1 h2 h3
      cases hx
      exact .inr (.inr ⟨_, ⟨f, args, g, caps, l, hc, h1, h2, ho⟩, hk⟩)
  | true =>
    rw [hq] at hx
    simp only [cond_true] at hx
    split at hx
    case h_2 => cases hx
    rename_i v0 id sz xs r c hb
    cases hx
    obtain ⟨h1, h2⟩ := ho
    simp only [conj] at h2
    refine .inr (.inl ⟨_, _, hb, ?_⟩)
    have : v0 = .ms id 0 xs.length := by
      unfold bOwn at hb
      split at hb
      case h_2 => cases hb
      split at hb
      case h_2 => cases hb
      split at hb
      case h_2 => cases hb
      split at hb
      case h_2 => cases hb
      cases hb
      simp
    subst this
    rw [h2, h1]; exact hk
def xregO (P : Program) : List Ins → List Hint → Env → St → Option (Env × St × List Prop)
  | [], _, env, s => some (env, s, [])
  | i :: r, hs, env, s => match i.guard with
    | none => match xstepO P (hd hs) i.op env s with
      | some (v, s', o) => match xregO P r hs.tail (eput i.dst v env) s' with
        | some (e2, s2, o2) => some (e2, s2, o ++ o2)
        | none => none
      | none => none
    | some (d, want) => match eget env d with
      | some (.bool b) => bif (hd hs).g then (match xstepO P (hd hs) i.op env s with
          | some (v, s', o) => match xregO P r hs.tail (eput i.dst v env) s' with
            | some (e2, s2, o2) => some (e2, s2, (b = want) :: (o ++ o2))
            | none => none
          | none => none) else match xregO P r hs.tail (eput i.dst (.tup []) env) s with
            | some (e2, s2, o2) => some (e2, s2, (b = !want) :: o2)
            | none => none
      | some (.tup []) => xregO P r hs.tail (eput i.dst (.tup []) env) s
      | _ => none
theorem xregO_ok {K : Env → St → Prop} : ∀ {l : List Ins} {hs : List Hint} {env e2 : Env} {s s2 : St} {obs : List Prop}, xregO P l hs env s = some (e2, s2, obs) → conj obs → K e2 s2 → rwsO P K l env s
  | [], _, env, e2, s, s2, obs, h, _, hk => by cases h; exact hk
  | i :: r, hs, env, e2, s, s2, obs, h, ho, hk => by
    have ne : ∀ b w : Bool, b = w → ¬ b = !w := by decide
    have ne' : ∀ b w : Bool, (b = !w) → ¬ b = w := by decide
    unfold xregO at h
    unfold rwsO gws
    split at h
    · rename_i hg
      simp only [hg]
      split at h
      case h_2 => cases h
      rename_i v s' o h1
      split at h
      case h_2 => cases h
      rename_i e3 s3 o3 h2
      cases h
      obtain ⟨a1, a2⟩ := conj_append.1 ho
      exact xstepO_ok h1 a1 (xregO_ok h2 a2 hk)
    · rename_i d want hg
      simp only [hg]
      split at h
      · rename_i b hb
        simp only [hb]
        generalize hq : (hd hs).g = q at h
        cases q with
        | true =>
          simp only [cond_true] at h
          split at h
          case h_2 => cases h
          rename_i v s' o h1
          split at h
          case h_2 => cases h
          rename_i e3 s3 o3 h2
          cases h
          obtain ⟨a0, a1⟩ := conj_cons.1 ho
          obtain ⟨a1, a2⟩ := conj_append.1 a1
          exact ⟨fun _ => xstepO_ok h1 a1 (xregO_ok h2 a2 hk), fun e => absurd e (ne _ _ a0)⟩
        | false =>
          simp only [cond_false] at h
          split at h
          case h_2 => cases h
          rename_i e3 s3 o3 h2
          cases h
          obtain ⟨a0, a1⟩ := conj_cons.1 ho
          exact ⟨fun e => absurd e (ne' _ _ a0), fun _ => xregO_ok h2 a1 hk⟩
      · rename_i hb
        simp only [hb]
        exact xregO_ok h ho hk
      · cases h
def nilish : AV → Prop
  | .sl _ l => l = []
  | .ms _ _ n => n = 0
  | _ => False
def isNilCmp (P : Program) (op : Op) (env : Env) : Option AV := match op with
  | .binOp .eql t x (.const (.slice none 0 0)) _ => match elemT P t, oper env x with
    | some _, some (.sl b l) => some (.sl b l)
    | some _, some (.ms i a n) => some (.ms i a n)
    | _, _ => none
  | _ => none
theorem nil_did {o : Oper} {x : AV} (hn : Now G N ρ env s a w) (h : isNilCmp P o.op env = some x) : ∃ b : Bool, (b = true → nilish x) ∧ (execOp a.eval o).run P w = .ok (.value (.bool b)) w := by
  unfold isNilCmp at h
  obtain ⟨dst, op, type, pos, after, guard⟩ := o
  simp only at h
  split at h
  case h_2 => cases h
  rename_i t y yt
  have key : ∀ {base : Option Addr} {n cap : Nat} {b : Bool}, a.eval y = .slice base n cap → (binOp .eql t (.slice base n cap) (.slice none 0 0)).run P w = .ok (.bool b) w →
      (execOp a.eval ⟨dst, .binOp .eql t y (.const (.slice none 0 0)) yt, type, pos, after, guard⟩).run P w = .ok (.value (.bool b)) w := fun {base n cap b} hq hr => by
    have hc : a.eval (.const (.slice none 0 0)) = .slice none 0 0 := rfl
    have hg := run_eqGuard (P := P) (w := w) (op := .eql) (t := t) (x := y) (y := .const (.slice none 0 0)) (xv := .slice base n cap) (yv := .slice none 0 0) (.inr ⟨by simp, by simp⟩)
    simp only [execOp, hq, hc]
    simp [hg, hr]
  split at h
  · rename_i e full l he hy
    cases h
    have hv := oper_V hn.env hy
    generalize hq : a.eval y = v at hv
    obtain ⟨base, cap, rfl, _, _, hb, hz⟩ := V.sl_inv hv
    refine ⟨base.isNone, fun e => ?_, ?_⟩
    · rcases hz with hz | ⟨b, off, esz, val, hz, _⟩
      · exact hz
      · subst hz; cases e
    · have := Lib.run_eql_slice_nil (P := P) w t e base l.length cap 0 0 (elemT_u he)
      exact key hq this
  · rename_i e id st n he hy
    cases h
    have hv := oper_V hn.env hy
    generalize hq : a.eval y = v at hv
    cases hv with
    | ms _ _ _ cap r addr ho hle hin ha =>
      refine ⟨false, fun e => (by cases e), ?_⟩
      have := Lib.run_eql_slice_nil (P := P) w t e (some ⟨r.block, addr, none⟩) n cap 0 0 (elemT_u he)
      exact key hq this
    | msnil _ _ cap base hc =>
      refine ⟨base.isNone, fun _ => rfl, ?_⟩
      have := Lib.run_eql_slice_nil (P := P) w t e base 0 cap 0 0 (elemT_u he)
      exact key hq this
  · cases h
theorem run_nil {c y : Code} {id : Nat} {ops : Array Oper} {o1 o2 : Oper} {x v : AV} (hc : c = .seq (.region id ops false) y) (hops : ops.toList = [o1, o2]) (h1 : aop P o1.op env s = some (v, s)) (hl1 : callOf o1.op = none) (hd : okDst N o1.dst = true ∧ okDst N o2.dst = true)
    (hg : o1.guard = none ∧ o2.guard = none) (hx : isNilCmp P o2.op (eput o1.dst v env) = some x)
    (h : ∀ b : Bool, (b = true → nilish x) → AWp P N ρ y Q (eput o2.dst (.bool b) (eput o1.dst v env)) s) : AWp P N ρ c Q env s := by
  subst hc
  refine awp_seq fun G w a hn => wpIn_region ?_
  have hsz : ops.size = 2 := by rw [← Array.length_toList, hops]; rfl
  have e0 : ops[0]? = some o1 := by rw [← Array.getElem?_toList, hops]; rfl
  have e1 : ops[1]? = some o2 := by rw [← Array.getElem?_toList, hops]; rfl
  rw [hsz]
  show wpOpsIn _ 0 P ops _ [0, 1] a w
  simp only [wpOpsIn, e0]
  rw [if_pos (by simp [Region.wanted, hg.1])]
  refine owp_sound (K := fun v' s' => v' = v ∧ s' = s) ?_ hn _ ?_
  · unfold owp
    simp only [hl1, h1]
    exact ⟨trivial, trivial⟩
  rintro v1 G1 x1 s1 w1 hv1 hs1 hx1 ⟨rfl, rfl⟩
  have hn1 := hn.put hd.1 hv1 hs1 hx1
  simp only [e1]
  rw [if_pos (by simp [Region.wanted, hg.2])]
  refine ⟨fun _ _ => trivial, ?_⟩
  have hop2 : ∀ c, o2.op ≠ .defer c := fun c e => by rw [e] at hx; simp [isNilCmp] at hx
  have hsem : o2.semAt (fen (conc G ρ)).round (a.put o1.dst v1).eval = execOp (a.put o1.dst v1).eval o2 := Oper.semAt_eq _ _ _ (fun c => by
    intro e; exact hop2 c e)
  rw [hsem]
  obtain ⟨b, hb, hrun⟩ := nil_did hn1 hx
  rw [hrun, Oper.uponIn_value]
  have hn2 := hn1.put (d := o2.dst) hd.2 (V.bool b) hn1.sim (.refl _ _ _)
  exact ⟨G1, _, s1, hn2, hx1, h b hb⟩
def nilRun (P : Program) (N : Nat) (c : Code) (env : Env) (s : St) : Option (Code × Option Nat × Env × AV) := match c with
  | .seq (.region _ ops false) y => match ops.toList with
    | [o1, o2] => bif o1.guard.isNone && o2.guard.isNone && okDst N o1.dst && okDst N o2.dst && isLight o1.op && (callOf o1.op).isNone then
        match aop P o1.op env s with
        | some (v, _) => match isNilCmp P o2.op (eput o1.dst v env) with
          | some x => some (y, o2.dst, eput o1.dst v env, x)
          | none => none
        | none => none
      else none
    | _ => none
  | _ => none
theorem run_nl {c : Code} (y : Code) (d : Option Nat) (E1 : Env) (x : AV) (hx : nilRun P N c env s = some (y, d, E1, x)) (h : ∀ b : Bool, (b = true → nilish x) → AWp P N ρ y Q (eput d (.bool b) E1) s) : AWp P N ρ c Q env s := by
  unfold nilRun at hx
  split at hx
  case h_2 => cases hx
  rename_i id ops y'
  split at hx
  case h_2 => cases hx
  rename_i o1 o2 hops
  generalize hq : (o1.guard.isNone && o2.guard.isNone && okDst N o1.dst && okDst N o2.dst && isLight o1.op && (callOf o1.op).isNone) = q at hx
  cases q with
  | false => cases hx
  | true =>
    simp only [Bool.and_eq_true, Option.isNone_iff_eq_none] at hq
    simp only [cond_true] at hx
    split at hx
    case h_2 => cases hx
    rename_i v s1 hv
    split at hx
    case h_2 => cases hx
    rename_i x0 hx0
    cases hx
    have := light_same hq.1.2 hv
    subst this
    exact run_nil rfl hops hv hq.2 ⟨hq.1.1.1.2, hq.1.1.2⟩ ⟨hq.1.1.1.1.1, hq.1.1.1.1.2⟩ hx0 h
theorem nilMs {α : Type} {l : List α} {i : Nat} (h : nilish (.ms i 0 l.length)) : l = [] := by simpa [nilish] using h
theorem awp_x1 (hs : List Hint) {y : Code} {id : Nat} {ops : Array Oper} {c : Code} {E2 : Env} {S2 : St} {obs : List Prop} (hc : c = .seq (.region id ops false) y) (hg : (guardsOk ops.toList && dstsOk N ops.toList) = true)
    (hx : xregO P (ins ops.toList) hs env s = some (E2, S2, obs)) (ho : conj obs) (h : AWp P N ρ y Q E2 S2) : AWp P N ρ c Q env s := by
  simp only [Bool.and_eq_true] at hg
  exact awp_srO ops.toList hc rfl hg.1 hg.2 (xregO_ok hx ho h)
theorem awp_x0 (hs : List Hint) {id : Nat} {ops : Array Oper} {c : Code} {E2 : Env} {S2 : St} {obs : List Prop} (hc : c = .region id ops false) (hg : (guardsOk ops.toList && dstsOk N ops.toList) = true)
    (hx : xregO P (ins ops.toList) hs env s = some (E2, S2, obs)) (ho : conj obs) (h : Q .normal E2 S2) : AWp P N ρ c Q env s := by
  subst hc
  simp only [Bool.and_eq_true] at hg
  exact awp_regO (K := fun env s => Q .normal env s) ops.toList rfl hg.1 hg.2 (xregO_ok hx ho h)
end
end Go.Am
end
section
namespace Go.Am
open Go.RowKit
theorem bindE {α β : Type} {o : Option α} {f : α → Option β} {r : β} (h : o.bind f = some r) : ∃ a, o = some a ∧ f a = some r := by
  cases o with
  | none => cases h
  | some a => exact ⟨a, rfl, h⟩
theorem iteE {α : Type} {b : Bool} {x y : Option α} {r : α} (h : (bif b then x else y) = some r) : (b = true ∧ x = some r) ∨ (b = false ∧ y = some r) := by
  cases b with
  | true => exact .inl ⟨rfl, h⟩
  | false => exact .inr ⟨rfl, h⟩
def need {α : Type} (p : Prop) [Decidable p] (x : Option α) : Option α := if p then x else none
theorem needE {α : Type} {p : Prop} [Decidable p] {x : Option α} {r : α} (h : need p x = some r) : p ∧ x = some r := by
  unfold need at h
  split at h
  · rename_i hp; exact ⟨hp, h⟩
  · cases h
def ix {α : Type} (l : List α) (i : Int) : Option α := if 0 ≤ i then l[i.toNat]? else none
theorem ixE {α : Type} {l : List α} {i : Int} {x : α} (h : ix l i = some x) : 0 ≤ i ∧ l[i.toNat]? = some x := by
  unfold ix at h
  split at h
  · rename_i hp; exact ⟨hp, h⟩
  · cases h
theorem ixLt {α : Type} {l : List α} {i : Int} {x : α} (h : ix l i = some x) : i < l.length := by
  obtain ⟨h0, h1⟩ := ixE h
  have := (List.getElem?_eq_some_iff.1 h1).1
  omega
theorem elimL {α β γ : Type} {f : α → Option γ} {g : β → Option γ} {a : α} {r : γ} (h : Sum.elim f g (.inl a) = some r) : f a = some r := h
theorem elimR {α β γ : Type} {f : α → Option γ} {g : β → Option γ} {a : β} {r : γ} (h : Sum.elim f g (.inr a) = some r) : g a = some r := h
theorem mapGet {α : Type} {l : List α} {i : Nat} {x : α} (e : α → AV) (h : l[i]? = some x) : (l.map e)[i]? = some (e x) := by simp [h]
theorem mapLen {α : Type} (l : List α) (e : α → AV) : (l.map e).length = l.length := by simp
theorem mapSet {α : Type} (l : List α) (e : α → AV) (i : Nat) (x : α) : (l.map e).set i (e x) = (l.set i x).map e := by rw [List.map_set]
theorem mapSub {α : Type} (l : List α) (e : α → AV) (a b : Nat) : ((l.map e).take b).drop a = ((l.take b).drop a).map e := by simp
theorem mapAll {α : Type} (l : List α) (e : α → AV) : ((l.map e).drop 0).take l.length = l.map e := by
  rw [List.drop_zero, List.take_of_length_le (by simp)]
theorem fitsMap {α : Type} {P : Program} {t : TypeId} {k : Nat} (l : List α) (e : α → AV) (h : sizeT P t = some k) (he : ∀ x, (e x).cells.length = k) : fits P t (l.map e) := by
  unfold fits
  intro y hy
  cases l with
  | nil => simp at hy
  | cons x r =>
    simp only [List.map_cons, List.head?_cons, Option.mem_def, Option.some.injEq] at hy
    rw [← hy, he, h]
theorem fitsOne {P : Program} {t : TypeId} {x : AV} {r : List AV} (h : sizeT P t = some x.cells.length) : fits P t (x :: r) := by
  unfold fits
  intro y hy
  simp only [List.head?_cons, Option.mem_def, Option.some.injEq] at hy
  rw [← hy, h]
theorem fitsNil {P : Program} {t : TypeId} : fits P t [] := by
  unfold fits; intro y hy; simp at hy
theorem cleanMap {α : Type} (l : List α) (e : α → AV) (h : ∀ x, (e x).clean = true) : cleanL (l.map e) = true := by
  rw [cleanL_iff]
  intro y hy
  obtain ⟨x, _, rfl⟩ := List.mem_map.1 hy
  exact h x
def subs : Code → List Code
  | .seq a b => .seq a b :: (subs a ++ subs b)
  | .cond o a b => .cond o a b :: (subs a ++ subs b)
  | .block i a => .block i a :: subs a
  | .loop a => .loop a :: subs a
  | .rangeFunc f p a b => .rangeFunc f p a b :: (subs a ++ subs b)
  | .scope a => .scope a :: subs a
  | c => [c]
def nthC : List Code → Nat → Code
  | [], _ => .skip
  | c :: _, 0 => c
  | _ :: r, n + 1 => nthC r n
def keepD (h h2 : List (Nat × Blk)) : Bool := h.all fun p => !isDfr p.2 || (match eget h2 p.1 with
  | some b => isDfr b
  | none => false)
theorem keepD_iff {h h2 : List (Nat × Blk)} (hk : keepD h h2 = true) (id : Nat) (e : eget h id = some .dfr) : eget h2 id = some .dfr := by
  have := List.all_eq_true.1 hk _ (eget_mem e)
  simp only [isDfr, Bool.not_true, Bool.false_or] at this
  split at this
  · rename_i b hb
    cases b with
    | dfr => exact hb
    | cells _ _ => cases this
    | loop _ => cases this
  · cases this
def prune (ks hs : List Nat) (env : Env) (s : St) : Option (Env × St) := match look env ks, (hs.foldr (fun id acc => match eget s.heap id, acc with
    | some b, some l => some ((id, b) :: l)
    | _, _ => none) (some [])) with
  | some xs, some h => bif keepD s.heap h then some (zipE ks xs, ⟨h, s.cnt⟩) else none
  | _, _ => none
theorem pruneH {s : St} : ∀ {hs : List Nat} {h : List (Nat × Blk)}, (hs.foldr (fun id acc => match eget s.heap id, acc with
    | some b, some l => some ((id, b) :: l)
    | _, _ => none) (some [])) = some h → ∀ id b, eget h id = some b → eget s.heap id = some b
  | [], h, hh, id, b, hg => by cases hh; simp [egetN, egetC] at hg
  | i :: r, h, hh, id, b, hg => by
    simp only [List.foldr_cons] at hh
    split at hh
    · rename_i b0 l h1 h2
      cases hh
      simp only [egetN, egetC] at hg
      split at hg
      · rename_i e; cases hg; rw [← e]; exact h1
      · exact pruneH h2 id b hg
    · cases hh
theorem prune_ok {P : Program} {N : Nat} {ρ : Option Nat} {Q : Exit → Env → St → Prop} {env E2 : Env} {s S2 : St} {c : Code} {ks hs : List Nat} (h : prune ks hs env s = some (E2, S2)) (hk : AWp P N ρ c Q E2 S2) : AWp P N ρ c Q env s := by
  unfold prune at h
  split at h
  · rename_i xs hp h1 h2
    cases hd : keepD s.heap hp with
    | false => simp [hd] at h
    | true =>
      simp only [hd, cond_true] at h
      cases h
      exact awp_look ks (s' := ⟨hp, s.cnt⟩) h1 (LeS.mk (pruneH h2) (Nat.le_refl _) fun id e => keepD_iff hd id e) hk
  · cases h
theorem prune_sub {env E2 : Env} {s S2 : St} {ks hs : List Nat} (h : prune ks hs env s = some (E2, S2)) : (∀ t x, eget E2 t = some x → eget env t = some x) ∧ LeS S2 s := by
  unfold prune at h
  split at h
  · rename_i xs hp h1 h2
    cases hd : keepD s.heap hp with
    | false => simp [hd] at h
    | true =>
      simp only [hd, cond_true] at h
      cases h
      exact ⟨look_get h1, LeS.mk (pruneH h2) (Nat.le_refl _) fun id e => keepD_iff hd id e⟩
  · cases h
section
variable {P : Program} {N : Nat} {ρ : Option Nat} {Q Q' : Exit → Env → St → Prop} {env E2 : Env} {s S2 : St} {c : Code}
theorem awp_sub (h : AWp P N ρ c (fun e env' s' => ∃ E2 S2, (∀ t x, eget E2 t = some x → eget env' t = some x) ∧ LeS S2 s' ∧ Q e E2 S2) env s) : AWp P N ρ c Q env s := fun G w a hn =>
  wpIn_mono (h G w a hn) fun _ _ _ ⟨G', env', s', n', x', E2, S2, he, hs, hq⟩ =>
    ⟨G', E2, S2, ⟨n'.sim.drop hs.heap hs.cnt, n'.env.sub he, n'.size, n'.defs.drop hs.dfr, n'.known⟩, x'.trans hn.sim (Ext.drop hs.heap hs.cnt hs.dfr), hq⟩
theorem awp_p (ks hids : List Nat) (E2 : Env) (S2 : St) (hp : prune ks hids env s = some (E2, S2)) (h : AWp P N ρ c Q E2 S2) : AWp P N ρ c Q env s := prune_ok hp h
end
def xrun (P : Program) (N : Nat) (c : Code) (hs : List Hint) (ks hids : List Nat) (env : Env) (s : St) : Option (Code × Env × St × List Prop) :=
  match c with
  | .seq (.region _ ops false) y => bif guardsOk ops.toList && dstsOk N ops.toList then (match xregO P (ins ops.toList) hs env s with
    | some (e, s', o) => match prune ks hids e s' with
      | some (e2, s2) => some (y, e2, s2, o)
      | none => none
    | none => none) else none
  | _ => none
def xrun0 (P : Program) (N : Nat) (c : Code) (hs : List Hint) (ks hids : List Nat) (env : Env) (s : St) : Option (Env × St × List Prop) :=
  match c with
  | .region _ ops false => bif guardsOk ops.toList && dstsOk N ops.toList then (match xregO P (ins ops.toList) hs env s with
    | some (e, s', o) => match prune ks hids e s' with
      | some (e2, s2) => some (e2, s2, o)
      | none => none
    | none => none) else none
  | _ => none
def yrun (P : Program) (N : Nat) (c : Code) (pre : List (List Nat)) (steps : List Step) (hs : List Hint) (ks hids : List Nat) (env : Env) (s : St) : Option (Code × Env × St × List Prop) :=
  match c with
  | .seq (.region _ ops true) y => bif planB P N ops.toList pre steps && (mkD (ins ops.toList) steps).all lightD && P.follows .mixedOrders then (match xdr P (mkD (ins ops.toList) steps) hs [] env s with
    | some (e, s', o) => match prune ks hids e s' with
      | some (e2, s2) => some (y, e2, s2, o)
      | none => none
    | none => none) else none
  | _ => none
section
variable {P : Program} {N : Nat} {ρ : Option Nat} {Q Q' : Exit → Env → St → Prop} {env : Env} {s : St} {c : Code}
theorem run1 (y : Code) (hs : List Hint) (ks hids : List Nat) (E2 : Env) (S2 : St) (obs : List Prop) (hx : xrun P N c hs ks hids env s = some (y, E2, S2, obs)) (ho : conj obs) (h : AWp P N ρ y Q E2 S2) : AWp P N ρ c Q env s := by
  unfold xrun at hx
  split at hx
  case h_2 => cases hx
  rename_i id ops y'
  generalize hg : (guardsOk ops.toList && dstsOk N ops.toList) = g at hx
  cases g with
  | false => cases hx
  | true =>
    simp only [cond_true] at hx
    split at hx
    case h_2 => cases hx
    rename_i e s' o h1
    split at hx
    case h_2 => cases hx
    rename_i e2 s2 h2
    cases hx
    exact awp_x1 hs rfl hg h1 ho (prune_ok h2 h)
theorem run0 (hs : List Hint) (ks hids : List Nat) (E2 : Env) (S2 : St) (obs : List Prop) (hx : xrun0 P N c hs ks hids env s = some (E2, S2, obs)) (ho : conj obs) (h : Q .normal E2 S2) : AWp P N ρ c Q env s := by
  unfold xrun0 at hx
  split at hx
  case h_2 => cases hx
  rename_i id ops
  generalize hg : (guardsOk ops.toList && dstsOk N ops.toList) = g at hx
  cases g with
  | false => cases hx
  | true =>
    simp only [cond_true] at hx
    split at hx
    case h_2 => cases hx
    rename_i e s' o h1
    split at hx
    case h_2 => cases hx
    rename_i e2 s2 h2
    cases hx
    obtain ⟨p1, p2⟩ := prune_sub h2
    exact awp_sub (awp_x0 hs rfl hg h1 ho ⟨E2, S2, p1, p2, h⟩)
theorem yun1 (y : Code) (pre : List (List Nat)) (steps : List Step) (hs : List Hint) (ks hids : List Nat) (E2 : Env) (S2 : St) (obs : List Prop) (hx : yrun P N c pre steps hs ks hids env s = some (y, E2, S2, obs)) (ho : conj obs) (h : AWp P N ρ y Q E2 S2) : AWp P N ρ c Q env s := by
  unfold yrun at hx
  split at hx
  case h_2 => cases hx
  rename_i id ops y'
  generalize hg : (planB P N ops.toList pre steps && (mkD (ins ops.toList) steps).all lightD && P.follows .mixedOrders) = g at hx
  cases g with
  | false => cases hx
  | true =>
    simp only [cond_true] at hx
    split at hx
    case h_2 => cases hx
    rename_i e s' o h1
    split at hx
    case h_2 => cases hx
    rename_i e2 s2 h2
    cases hx
    simp only [Bool.and_eq_true] at hg
    exact awp_y1 hs rfl (planB_ok hg.1.1) hg.2 hg.1.2 h1 ho (prune_ok h2 h)
theorem run1z (y : Code) (hs : List Hint) (ks : List Nat) (xs : List AV) (S2 : St) (obs : List Prop) (hx : xrun P N c hs ks (S2.heap.map (·.1)) env s = some (y, zipE ks xs, S2, obs)) (ho : conj obs) (h : AWp P N ρ y Q (zipE ks xs) S2) : AWp P N ρ c Q env s := run1 y hs ks _ _ S2 obs hx ho h
theorem run0z (hs : List Hint) (ks : List Nat) (xs : List AV) (S2 : St) (obs : List Prop) (hx : xrun0 P N c hs ks (S2.heap.map (·.1)) env s = some (zipE ks xs, S2, obs)) (ho : conj obs) (h : Q .normal (zipE ks xs) S2) : AWp P N ρ c Q env s := run0 hs ks _ _ S2 obs hx ho h
theorem yun1z (y : Code) (pre : List (List Nat)) (steps : List Step) (hs : List Hint) (ks : List Nat) (xs : List AV) (S2 : St) (obs : List Prop) (hx : yrun P N c pre steps hs ks (S2.heap.map (·.1)) env s = some (y, zipE ks xs, S2, obs)) (ho : conj obs) (h : AWp P N ρ y Q (zipE ks xs) S2) : AWp P N ρ c Q env s := yun1 y pre steps hs ks _ _ S2 obs hx ho h
theorem run_c (t : Nat) (x y : Code) (b : Bool) (hc : c = .cond (.tmp t) x y) (ho : eget env t = some (.bool b)) (ht : b = true → AWp P N ρ x Q env s) (hf : b = false → AWp P N ρ y Q env s) : AWp P N ρ c Q env s := by
  subst hc; exact awp_cond ho ht hf
theorem run_s (x y : Code) (hc : c = .seq x y) (h : AWp P N ρ x (Then (AWp P N ρ y Q) Q) env s) : AWp P N ρ c Q env s := by subst hc; exact awp_seq h
theorem run_b (id : Nat) (x : Code) (hc : c = .block id x) (h : AWp P N ρ x (InBlock id Q) env s) : AWp P N ρ c Q env s := by subst hc; exact awp_block h
theorem run_k (hc : c = .skip) (h : Q .normal env s) : AWp P N ρ c Q env s := by subst hc; exact awp_skip h
theorem run_e (id : Nat) (hc : c = .exit id) (h : Q (.exit id) env s) : AWp P N ρ c Q env s := by subst hc; exact awp_exit h
theorem run_t (hc : c = .ret) (h : Q .ret env s) : AWp P N ρ c Q env s := by subst hc; exact awp_ret h
end
def pi (L : List (Nat × Nat)) (id : Nat) : Nat := match eget L id with
  | some x => x
  | none => id
def intoB (base : Nat) (L : List (Nat × Nat)) (S2 s : St) : Bool :=
  L.all (fun p => Nat.ble base p.1) && S2.heap.all (fun p => Nat.blt p.1 S2.cnt && S2.heap.all fun q => Nat.beq p.1 q.1 || !(Nat.beq (pi L p.1) (pi L q.1)) || Nat.ble s.cnt (pi L p.1)) && Nat.ble base S2.cnt && (keepD s.heap S2.heap && s.heap.all fun p => !isDfr p.2 || Nat.blt p.1 base)
inductive HCo (ok : Nat → Bool) (π : Nat → Nat) (base : Nat) (s : St) : List (Nat × Blk) → Prop
  | z : HCo ok π base s []
  | k {id : Nat} {x x' : Blk} {r : List (Nat × Blk)} (hg : eget s.heap (π id) = some x') (hc : CoB ok π x x') (hr : HCo ok π base s r) : HCo ok π base s ((id, x) :: r)
  | n {id esz : Nat} {r : List (Nat × Blk)} (h1 : Nat.ble base id = true) (h2 : Nat.ble s.cnt (π id) = true) (h3 : Nat.blt 0 esz = true) (hr : HCo ok π base s r) : HCo ok π base s ((id, .cells esz []) :: r)
theorem HCo.get {ok : Nat → Bool} {π : Nat → Nat} {base : Nat} {s : St} : ∀ {l : List (Nat × Blk)}, HCo ok π base s l → ∀ id b, eget l id = some b →
    (∃ b', eget s.heap (π id) = some b' ∧ CoB ok π b b') ∨ (base ≤ id ∧ s.cnt ≤ π id ∧ ∃ esz, 0 < esz ∧ b = .cells esz [])
  | _, .z, id, b, h => by simp [egetN, egetC] at h
  | _, .k hg hc hr, id, b, h => by
    simp only [egetN, egetC] at h
    split at h
    · rename_i e; cases h; subst e; exact .inl ⟨_, hg, hc⟩
    · exact hr.get id b h
  | _, .n h1 h2 h3 hr, id, b, h => by
    simp only [egetN, egetC] at h
    split at h
    · rename_i e; cases h; subst e; exact .inr ⟨Nat.le_of_ble_eq_true h1, Nat.le_of_ble_eq_true h2, _, by simpa [Nat.blt_eq] using h3, rfl⟩
    · exact hr.get id b h
theorem pi_low {base : Nat} {L : List (Nat × Nat)} (h : L.all (fun p => Nat.ble base p.1) = true) {id : Nat} (hl : id < base) : pi L id = id := by
  unfold pi
  cases hg : eget L id with
  | none => rfl
  | some x =>
    have := List.all_eq_true.1 h _ (eget_mem hg)
    simp only [Nat.ble_eq] at this
    omega
theorem mkIntoS {base : Nat} {L : List (Nat × Nat)} {S2 s : St} (hb : intoB base L S2 s = true) (hh : HCo (okId base S2.heap) (pi L) base s S2.heap) : IntoS base (pi L) S2 s := by
  simp only [intoB, Bool.and_eq_true] at hb
  obtain ⟨⟨⟨b1, b2⟩, b3⟩, b4⟩ := hb
  have g2 : ∀ {id b}, eget S2.heap id = some b → id < S2.cnt ∧ ∀ {id' b'}, eget S2.heap id' = some b' → id = id' ∨ pi L id ≠ pi L id' ∨ s.cnt ≤ pi L id := fun {id b} hg => by
    have := List.all_eq_true.1 b2 _ (eget_mem hg)
    simp only [Bool.and_eq_true, Nat.blt_eq] at this
    refine ⟨this.1, fun {id' b'} hg' => ?_⟩
    have := List.all_eq_true.1 this.2 _ (eget_mem hg')
    simp only [Bool.or_eq_true, Bool.not_eq_true', Nat.ble_eq] at this
    rcases this with (h | h) | h
    · exact .inl (Nat.eq_of_beq_eq_true h)
    · exact .inr (.inl fun e => by rw [e, show Nat.beq (pi L id') (pi L id') = true from Nat.beq_refl _] at h; cases h)
    · exact .inr (.inr h)
  exact ⟨⟨fun id b hg => hh.get id b hg, fun id hl => pi_low b1 hl, fun id id' b b' h1 h2 e => by
      rcases (g2 h1).2 h2 with h | h | h
      · exact .inl h
      · exact absurd e h
      · exact .inr h, fun id b hg => (g2 hg).1, Nat.le_of_ble_eq_true b3⟩, fun id e => ⟨by
      have := List.all_eq_true.1 b4.2 _ (eget_mem e)
      simpa [isDfr, Nat.blt_eq] using this, keepD_iff b4.1 id e⟩⟩
theorem mkInto {base : Nat} {L : List (Nat × Nat)} {S2 s : St} {env : Env} {ks : List Nat} {xs ys : List AV} (hb : intoB base L S2 s = true) (he : look env ks = some ys) (hc : CoL (okId base S2.heap) (pi L) xs ys)
    (hh : HCo (okId base S2.heap) (pi L) base s S2.heap) : Into base (pi L) (zipE ks xs) S2 env s := by
  refine ⟨mkIntoS hb hh, ?_⟩
  have key : ∀ {ks : List Nat} {xs ys : List AV}, look env ks = some ys → (∀ (i : Nat) (x : AV), xs[i]? = some x → ∃ y : AV, ys[i]? = some y ∧ Co (okId base S2.heap) (pi L) x y) → ∀ t x, eget (zipE ks xs) t = some x → ∃ y, eget env t = some y ∧ Co (okId base S2.heap) (pi L) x y := by
    intro ks
    induction ks with
    | nil => intro xs ys _ _ t x hx; simp [zipE, egetN, egetC] at hx
    | cons k r ih =>
      intro xs ys he hc t x hx
      cases xs with
      | nil => simp [zipE, egetN, egetC] at hx
      | cons x0 xs =>
        simp only [look] at he
        split at he
        · rename_i y0 l h1 h2
          cases he
          simp only [zipE, egetN, egetC] at hx
          split at hx
          · rename_i e; cases hx; subst e
            obtain ⟨y, hy, hcy⟩ := hc 0 _ rfl
            simp at hy; subst hy
            exact ⟨_, h1, hcy⟩
          · exact ih h2 (fun i x hx => by simpa using hc (i + 1) x (by simpa using hx)) t x hx
        · cases he
  exact key he fun i x hx => hc.get hx
section
variable {P : Program} {N : Nat} {ρ : Option Nat} {Q Q' : Exit → Env → St → Prop} {env : Env} {s : St} {c : Code}
theorem run_i (base : Nat) (L : List (Nat × Nat)) (ks : List Nat) (ys : List AV) {xs : List AV} {S2 : St} (h : AWp P N ρ c Q (zipE ks xs) S2) (hρ : ∀ id, ρ = some id → id < s.cnt) (hs : Nat.ble s.cnt base = true) (hb : intoB base L S2 s = true) (he : look env ks = some ys)
    (hc : CoL (okId base S2.heap) (pi L) xs ys) (hh : HCo (okId base S2.heap) (pi L) base s S2.heap) : AWp P N ρ c Q env s :=
  awp_into hρ (mkInto hb he hc hh) (Nat.le_of_ble_eq_true hs) h
theorem run_l {σ τ : Type} (x : Code) (body : σ → Option (σ ⊕ τ)) {n : Nat} {st0 : σ} {res : τ} (hl : loopN body n st0 = some res) (E : σ → Env) (S : σ → St) (L : List (Nat × Nat)) (hρ : ∀ id, ρ = some id → id < s.cnt) (hcd : c = .loop x)
    (h0 : Into s.cnt (pi L) (E st0) (S st0) env s)
    (round : ∀ st out, body st = some out → (∀ r, out = .inr r → r = res) → AWp P N ρ x (fun e env' s' => match e with
      | .normal => ∃ st', out = .inl st' ∧ ∃ π, Into s.cnt π (E st') (S st') env' s'
      | e => (∃ r, out = .inr r) ∧ Q e env' s') (E st) (S st)) : AWp P N ρ c Q env s := by
  subst hcd
  exact awp_loopP hρ body hl E S h0 round
inductive HFz (id : Nat) (elems : List AV) (s : St) : List (Nat × Blk) → Prop
  | z : HFz id elems s []
  | k {i : Nat} {x x' : Blk} {r : List (Nat × Blk)} (hn : Nat.beq i id = false) (hg : eget s.heap i = some x') (hc : FzB id elems x x') (hr : HFz id elems s r) : HFz id elems s ((i, x) :: r)
theorem HFz.get {id : Nat} {elems : List AV} {s : St} : ∀ {l : List (Nat × Blk)}, HFz id elems s l → ∀ i b, eget l i = some b → i ≠ id ∧ ∃ b', eget s.heap i = some b' ∧ FzB id elems b b'
  | _, .z, id, b, h => by simp [egetN, egetC] at h
  | _, .k hn hg hc hr, i, b, h => by
    simp only [egetN, egetC] at h
    split at h
    · rename_i e; cases h; subst e
      refine ⟨fun e => ?_, _, hg, hc⟩
      subst e
      rw [show Nat.beq _ _ = true from Nat.beq_refl _] at hn
      cases hn
    · exact hr.get i b h
theorem run_z (id esz : Nat) (elems : List AV) (ks : List Nat) (ys : List AV) {xs : List AV} {S2 : St} (h : AWp P N ρ c Q (zipE ks xs) S2) (hg : eget s.heap id = some (.cells esz elems)) (he : look env ks = some ys)
    (hz : FzL id elems xs ys) (hh : HFz id elems s S2.heap) (hc : S2.cnt = s.cnt) (hd : keepD s.heap S2.heap = true) : AWp P N ρ c Q env s := by
  refine awp_fz hg ?_ hh.get hc (fun i e => keepD_iff hd i e) h
  have key : ∀ {ks : List Nat} {xs ys : List AV}, look env ks = some ys → (∀ (i : Nat) (x : AV), xs[i]? = some x → ∃ y : AV, ys[i]? = some y ∧ Fz id elems x y) → ∀ t x, eget (zipE ks xs) t = some x → ∃ y, eget env t = some y ∧ Fz id elems x y := by
    intro ks
    induction ks with
    | nil => intro xs ys _ _ t x hx; simp [zipE, egetN, egetC] at hx
    | cons k r ih =>
      intro xs ys he hc t x hx
      cases xs with
      | nil => simp [zipE, egetN, egetC] at hx
      | cons x0 xs =>
        simp only [look] at he
        split at he
        · rename_i y0 l h1 h2
          cases he
          simp only [zipE, egetN, egetC] at hx
          split at hx
          · rename_i e; cases hx; subst e
            obtain ⟨y, hy, hcy⟩ := hc 0 _ rfl
            simp at hy; subst hy
            exact ⟨_, h1, hcy⟩
          · exact ih h2 (fun i x hx => by simpa using hc (i + 1) x (by simpa using hx)) t x hx
        · cases he
  exact key he fun i x hx => hz.get hx
theorem run_f {f : FuncId} {args : List AV} {K : AV → St → Prop} (N' : Nat) (rs : List ResultVar) (c : Code) (E : Env) (hf : ((P.funcs[f]?).bind fun fn => fn.body.map fun b => (fn.ntmps, fn.results.toList, b)) = some (N', rs, c)) (hE : argEnv args 0 = E)
    (hn : Nat.ble args.length N' = true) (hd : noDfr s.heap = true) (h : AWp P N' none c (FinQ P rs.toArray K) E s) : ACalls P f args s K := by
  cases hq : P.funcs[f]? with
  | none => simp [hq] at hf
  | some fn =>
    simp only [hq, Option.bind_some] at hf
    cases hb : fn.body with
    | none => simp [hb] at hf
    | some c' =>
      simp only [hb, Option.map_some, Option.some.injEq, Prod.mk.injEq] at hf
      obtain ⟨h1, h2, h3⟩ := hf
      subst h1; subst h2; subst h3; subst hE
      exact acalls_of_wp hq hb (Nat.le_of_ble_eq_true hn) (noDfr_iff hd) (by simpa using h)
theorem thenN {K : Env → St → Prop} (h : K env s) : Then K Q .normal env s := h
theorem thenE {K : Env → St → Prop} {i : Nat} (h : Q (.exit i) env s) : Then K Q (.exit i) env s := h
theorem thenR {K : Env → St → Prop} (h : Q .ret env s) : Then K Q .ret env s := h
theorem inbN {i : Nat} (h : Q .normal env s) : InBlock i Q .normal env s := h
theorem inbR {i : Nat} (h : Q .ret env s) : InBlock i Q .ret env s := h
theorem inbE {i : Nat} (h : Q .normal env s) : InBlock i Q (.exit i) env s := by simp only [InBlock, if_true]; exact h
theorem APure.co {f : FuncId} {args0 args : List AV} {x : AV} {ok : Nat → Bool} {π : Nat → Nat} (h : APure P f args0 x) (hc : CoL (fun _ => false) id args0 args) : APure P f args x := fun s G w vs hs hv =>
  h s G w vs hs (hc.V ⟨fun _ _ _ h => h, fun _ _ h _ => by cases h⟩ hv)
theorem run_cT (t : Nat) (x y : Code) (b : Bool) (hb : b = true) (hc : c = .cond (.tmp t) x y) (ho : eget env t = some (.bool b)) (h : AWp P N ρ x Q env s) : AWp P N ρ c Q env s :=
  run_c t x y b hc ho (fun _ => h) (fun e => by rw [hb] at e; cases e)
theorem run_cF (t : Nat) (x y : Code) (b : Bool) (hb : b = false) (hc : c = .cond (.tmp t) x y) (ho : eget env t = some (.bool b)) (h : AWp P N ρ y Q env s) : AWp P N ρ c Q env s :=
  run_c t x y b hc ho (fun e => by rw [hb] at e; cases e) (fun _ => h)
theorem run_jq {J : Type} (x y : Code) (E2 : J → Env) (S2 : J → St) (C : J → Prop) (hc : c = .seq x y) (h1 : (∀ j, C j → AWp P N ρ y Q (E2 j) (S2 j)) → AWp P N ρ x (Then (AWp P N ρ y Q) Q) env s)
    (h2 : ∀ j, C j → AWp P N ρ y Q (E2 j) (S2 j)) : AWp P N ρ c Q env s := by subst hc; exact awp_seq (h1 h2)
theorem run_gq {J : Type} (y : Code) (E2 : J → Env) (S2 : J → St) (C : J → Prop) (h1 : (∀ j, C j → AWp P N ρ y Q (E2 j) (S2 j)) → AWp P N ρ c Q env s) (h2 : ∀ j, C j → AWp P N ρ y Q (E2 j) (S2 j)) : AWp P N ρ c Q env s := h1 h2
theorem run_tq {J : Type} (E2 : J → Env) (S2 : J → St) (C : J → Prop) (h1 : (∀ j, C j → Q .normal (E2 j) (S2 j)) → AWp P N ρ c Q env s) (h2 : ∀ j, C j → Q .normal (E2 j) (S2 j)) : AWp P N ρ c Q env s := h1 h2
end
abbrev wr (x : Int) : Int := IntKind.i64.wrap x
abbrev FUEL : Nat := 18446744073709551616
def SL {α : Type} (e : α → AV) (l : List α) : AV := .sl false (l.map e)
theorem cl_SL {α : Type} {e : α → AV} (h : ∀ x, (e x).clean = true) (l : List α) : (SL e l).clean = true := cleanMap l e h
theorem sz_SL {α : Type} {e : α → AV} (l : List α) : (SL e l).cells.length = 1 := rfl
theorem cl_i (n : Int) : (AV.i n).clean = true := rfl
theorem clK {x : AV} {xs : List AV} (h : x.clean = true) (hs : cleanL xs = true) : cleanL (x :: xs) = true := by simp [cleanL, h, hs]
theorem clZ : cleanL [] = true := rfl
theorem mLe {α : Type} (l : List α) (e : α → AV) : 0 + l.length ≤ (l.map e).length := by simp
theorem cutT {ok : Nat → Bool} {π : Nat → Nat} {α : Type} {e : α → AV} (esz : Nat) (l : List α) (k : Nat) (hl : ∀ x, (e x).clean = true) : CoB ok π (.cells esz ((l.take k).map e)) (.cells esz (l.map e)) := by
  have : l.map e = (l.take k).map e ++ (l.drop k).map e := by rw [← List.map_append, List.take_append_drop]
  rw [this]
  exact .cut (.r (cleanMap _ e hl))
theorem cj0 : conj [] := trivial
theorem cj1 {p : Prop} (h : p) : conj [p] := h
theorem cjC {p q : Prop} {r : List Prop} (h : p) (hs : conj (q :: r)) : conj (p :: q :: r) := ⟨h, hs⟩
section
variable {α : Type} {l m : List α} (e : α → AV)
theorem mapRep (n : Nat) (e : α → AV) (x : α) : List.replicate n (e x) = (List.replicate n x).map e := by simp
theorem leMap {n : Nat} (h : n ≤ l.length) : n ≤ (l.map e).length := by simpa using h
theorem mapNil (h : l = []) : l.map e = [] := by rw [h]; rfl
theorem mapNe (h : l ≠ []) : l.map e ≠ [] := by simpa using h
theorem mapNeM (h : l ≠ []) : ((l.map e).drop 0).take l.length ≠ [] := by rw [mapAll]; exact mapNe e h
theorem bnd0 (h : l.length ≤ maxElems) : ([] : List AV).length + (l.map e).length ≤ maxElems := by simpa using h
theorem bnd0M (h : l.length ≤ maxElems) : ([] : List AV).length + (((l.map e).drop 0).take l.length).length ≤ maxElems := by rw [mapAll]; exact bnd0 e h
theorem len0 (l : List α) (e : α → AV) : ([] : List AV).length + (l.map e).length = l.length := by simp
theorem len0M (l : List α) (e : α → AV) : ([] : List AV).length + (((l.map e).drop 0).take l.length).length = l.length := by rw [mapAll]; exact len0 l e
theorem app0M (l : List α) (e : α → AV) : [] ++ ((l.map e).drop 0).take l.length = l.map e := by rw [mapAll]; rfl
theorem lenA (l m : List α) : l.length + m.length = (l ++ m).length := by simp
theorem appA (l m : List α) (e : α → AV) : ((l.map e).drop 0).take l.length ++ m.map e = (l ++ m).map e := by rw [mapAll, List.map_append]
theorem bnd1 (h : l.length + m.length ≤ maxElems) : l.length + (m.map e).length ≤ maxElems := by simpa using h
theorem len1 (l m : List α) (e : α → AV) : l.length + (m.map e).length = (l ++ m).length := by simp
theorem app1 (l m : List α) (e : α → AV) : ((l.map e).drop 0).take l.length ++ m.map e = (l ++ m).map e := appA l m e
end
end Go.Am
end
section
namespace Go.Am
open Go.RowKit
def fitsB (Lp Ls : List (Nat × Nat)) (fr : List Nat) (H0 H1 s s' : St) : Bool :=
  H0.heap.all (fun p => Nat.blt p.1 H0.cnt && H0.heap.all fun q => Nat.beq p.1 q.1 || !(Nat.beq (pi Lp p.1) (pi Lp q.1))) &&
  s'.heap.all (fun p => Nat.blt p.1 s'.cnt && bif memB p.1 fr then H0.heap.all (fun q => !(Nat.beq (pi Lp q.1) p.1)) else
    (Nat.ble s.cnt p.1 || (has H0.heap (pi Ls p.1) && Nat.beq (pi Lp (pi Ls p.1)) p.1)) && s'.heap.all fun q => memB q.1 fr || Nat.beq p.1 q.1 || !(Nat.beq (pi Ls p.1) (pi Ls q.1))) &&
  Nat.ble s.cnt s'.cnt && keepD s.heap s'.heap
inductive HIn (ok : Nat → Bool) (π : Nat → Nat) (s : St) : List (Nat × Blk) → Prop
  | z : HIn ok π s []
  | k {id : Nat} {x x' : Blk} {r : List (Nat × Blk)} (hg : eget s.heap (π id) = some x') (hc : CoB ok π x x') (hr : HIn ok π s r) : HIn ok π s ((id, x) :: r)
theorem HIn.get {ok : Nat → Bool} {π : Nat → Nat} {s : St} : ∀ {l : List (Nat × Blk)}, HIn ok π s l → ∀ id b, eget l id = some b → ∃ b', eget s.heap (π id) = some b' ∧ CoB ok π b b'
  | _, .z, id, b, h => by simp [egetN, egetC] at h
  | _, .k hg hc hr, id, b, h => by
    simp only [egetN, egetC] at h
    split at h
    · rename_i e; cases h; subst e; exact ⟨_, hg, hc⟩
    · exact hr.get id b h
inductive HOut (ok : Nat → Bool) (σ : Nat → Nat) (fr : List Nat) (H1 s : St) : List (Nat × Blk) → Prop
  | z : HOut ok σ fr H1 s []
  | d {id : Nat} {x x' : Blk} {r : List (Nat × Blk)} (hm : memB id fr = false) (hg : eget H1.heap (σ id) = some x') (hc : CoB ok σ x x') (hr : HOut ok σ fr H1 s r) : HOut ok σ fr H1 s ((id, x) :: r)
  | f {id : Nat} {x : Blk} {r : List (Nat × Blk)} (hm : memB id fr = true) (hg : eget s.heap id = some x) (hr : HOut ok σ fr H1 s r) : HOut ok σ fr H1 s ((id, x) :: r)
theorem HOut.getD {ok : Nat → Bool} {σ : Nat → Nat} {fr : List Nat} {H1 s : St} : ∀ {l : List (Nat × Blk)}, HOut ok σ fr H1 s l → ∀ id b, eget l id = some b → memB id fr = false → ∃ b', eget H1.heap (σ id) = some b' ∧ CoB ok σ b b'
  | _, .z, id, b, h, _ => by simp [egetN, egetC] at h
  | _, .d hm hg hc hr, id, b, h, hn => by
    simp only [egetN, egetC] at h
    split at h
    · rename_i e; cases h; subst e; exact ⟨_, hg, hc⟩
    · exact hr.getD id b h hn
  | _, .f hm hg hr, id, b, h, hn => by
    simp only [egetN, egetC] at h
    split at h
    · rename_i e; subst e; rw [hm] at hn; cases hn
    · exact hr.getD id b h hn
theorem HOut.getF {ok : Nat → Bool} {σ : Nat → Nat} {fr : List Nat} {H1 s : St} : ∀ {l : List (Nat × Blk)}, HOut ok σ fr H1 s l → ∀ id b, eget l id = some b → memB id fr = true → eget s.heap id = some b
  | _, .z, id, b, h, _ => by simp [egetN, egetC] at h
  | _, .d hm hg hc hr, id, b, h, hn => by
    simp only [egetN, egetC] at h
    split at h
    · rename_i e; subst e; rw [hm] at hn; cases hn
    · exact hr.getF id b h hn
  | _, .f hm hg hr, id, b, h, hn => by
    simp only [egetN, egetC] at h
    split at h
    · rename_i e; cases h; subst e; exact hg
    · exact hr.getF id b h hn
theorem mkFits {Lp Ls : List (Nat × Nat)} {fr : List Nat} {H0 H1 s s' : St} (hb : fitsB Lp Ls fr H0 H1 s s' = true) (hi : HIn (okId 0 H0.heap) (pi Lp) s H0.heap)
    (ho : HOut (okF (fun id => memB id fr) s'.heap) (pi Ls) fr H1 s s'.heap) : Fits (pi Lp) (pi Ls) (fun id => memB id fr) H0 H1 s s' := by
  simp only [fitsB, Bool.and_eq_true] at hb
  obtain ⟨⟨⟨b1, b2⟩, b3⟩, b4⟩ := hb
  have k1 : ∀ {id b}, eget H0.heap id = some b → id < H0.cnt ∧ ∀ {id' b'}, eget H0.heap id' = some b' → id = id' ∨ pi Lp id ≠ pi Lp id' := fun {id b} hg => by
    have := List.all_eq_true.1 b1 _ (eget_mem hg)
    simp only [Bool.and_eq_true, Nat.blt_eq] at this
    refine ⟨this.1, fun {id' b'} hg' => ?_⟩
    have := List.all_eq_true.1 this.2 _ (eget_mem hg')
    simp only [Bool.or_eq_true, Bool.not_eq_true'] at this
    rcases this with h | h
    · exact .inl (Nat.eq_of_beq_eq_true h)
    · exact .inr fun e => by rw [e, show Nat.beq (pi Lp id') (pi Lp id') = true from Nat.beq_refl _] at h; cases h
  have k2 : ∀ {id b}, eget s'.heap id = some b → id < s'.cnt ∧ (bif memB id fr then H0.heap.all (fun q => !(Nat.beq (pi Lp q.1) id)) else
    (Nat.ble s.cnt id || (has H0.heap (pi Ls id) && Nat.beq (pi Lp (pi Ls id)) id)) && s'.heap.all fun q => memB q.1 fr || Nat.beq id q.1 || !(Nat.beq (pi Ls id) (pi Ls q.1))) = true := fun {id b} hg => by
    have := List.all_eq_true.1 b2 _ (eget_mem hg)
    simp only [Bool.and_eq_true, Nat.blt_eq] at this
    exact this
  refine ⟨fun id b hg => hi.get id b hg, fun id id' b b' h1 h2 e => ?_, fun id b hg => (k1 hg).1, fun id b hg hf => ?_, fun id b hg hf => ?_, fun id id' b b' h1 h2 f1 f2 e => ?_, fun id b hg => (k2 hg).1, Nat.le_of_ble_eq_true b3, fun id e => keepD_iff b4 id e⟩
  · rcases (k1 h1).2 h2 with h | h
    · exact h
    · exact absurd e h
  · obtain ⟨b', q1, q2⟩ := ho.getD id b hg hf
    refine ⟨b', q1, q2, fun hl => ?_⟩
    have := (k2 hg).2
    simp only [hf, cond_false, Bool.and_eq_true, Bool.or_eq_true, Nat.ble_eq] at this
    rcases this.1 with h | h
    · omega
    · exact ⟨h.1, Nat.eq_of_beq_eq_true h.2⟩
  · refine ⟨ho.getF id b hg hf, fun i b' hi' e => ?_⟩
    have := (k2 hg).2
    simp only [hf, cond_true] at this
    have := List.all_eq_true.1 this _ (eget_mem hi')
    simp only [Bool.not_eq_true'] at this
    rw [e, show Nat.beq id id = true from Nat.beq_refl _] at this; cases this
  · have := (k2 h1).2
    simp only [f1, cond_false, Bool.and_eq_true] at this
    have := List.all_eq_true.1 this.2 _ (eget_mem h2)
    simp only [f2, Bool.false_or, Bool.or_eq_true, Bool.not_eq_true'] at this
    rcases this with h | h
    · exact Nat.eq_of_beq_eq_true h
    · rw [e, show Nat.beq (pi Ls id') (pi Ls id') = true from Nat.beq_refl _] at h; cases h
theorem callF {P : Program} {f : FuncId} {args0 : List AV} {H0 H1 : St} {v0 : AV} (h : ACalls P f args0 H0 fun y t => y = v0 ∧ t = H1) (Lp Ls : List (Nat × Nat)) (fr : List Nat) (args : List AV) (s : St) (v : AV) (s' : St)
    (hb : fitsB Lp Ls fr H0 H1 s s' = true) (ha : CoL (okId 0 H0.heap) (pi Lp) args0 args) (hv : Co (okF (fun id => memB id fr) s'.heap) (pi Ls) v v0) (hi : HIn (okId 0 H0.heap) (pi Lp) s H0.heap)
    (ho : HOut (okF (fun id => memB id fr) s'.heap) (pi Ls) fr H1 s s'.heap) : ACalls P f args s fun y t => y = v ∧ t = s' := acalls_frame h (mkFits hb hi ho) ha hv
section
variable {α : Type} {l : List α} {i : Int} {x : α} (e : α → AV)
end
def keepB (hs : List Nat) (s : St) : Option St := match (hs.foldr (fun id acc => match eget s.heap id, acc with
    | some b, some l => some ((id, b) :: l)
    | _, _ => none) (some [])) with
  | some h => some ⟨h, s.cnt⟩
  | none => none
theorem fin_p {P : Program} {rs : Array ResultVar} {K : AV → St → Prop} {env : Env} {s : St} {x : AV} (hids : List Nat) (s' : St) (hx : aResults P rs env s = some x) (hp : keepB hids s = some s') (hd : noDfr s'.heap = true) (hk : K x s') : FinQ P rs K .ret env s := by
  unfold keepB at hp
  split at hp
  · rename_i h hh
    cases hp
    exact ⟨x, ⟨h, s.cnt⟩, hx, ⟨fun id b hg => ⟨pruneH hh id b hg, fun e => noDfr_iff hd id (by rw [hg, e])⟩, Nat.le_refl _⟩, hk⟩
  · cases hp
theorem fin_q {P : Program} {rs : Array ResultVar} {K : AV → St → Prop} {env : Env} {s : St} {x : AV} (hids : List Nat) (s' : St) (hx : aResults P rs env s = some x) (hp : keepB hids s = some s') (hd : noDfr s'.heap = true) (hk : K x s') : FinQ P rs K .normal env s :=
  fin_p (P := P) hids s' hx hp hd hk
theorem fin_r {P : Program} {rs : Array ResultVar} {K : AV → St → Prop} {env : Env} {s : St} {x : AV} (hx : aResults P rs env s = some x) (hk : K x ⟨[], s.cnt⟩) : FinQ P rs K .ret env s :=
  ⟨x, ⟨[], s.cnt⟩, hx, ⟨fun id b hg => by simp [egetN, egetC] at hg, Nat.le_refl _⟩, hk⟩
section
variable {P : Program} {N : Nat} {ρ : Option Nat} {Q : Exit → Env → St → Prop} {env : Env} {s : St} {c : Code}
end
def insL {α : Type} (l : List α) (i : Int) (v : List α) : Option (List α) :=
  if v.length = 1 ∧ 0 ≤ i ∧ i ≤ l.length ∧ l.length + v.length ≤ maxElems then some (l.take i.toNat ++ (v ++ l.drop i.toNat)) else none
section
variable {α : Type} {l : List α} {a n : Nat} (e : α → AV)
theorem mapNilM (h : l = []) : ((l.map e).drop 0).take l.length = [] := by subst h; rfl
end
end Go.Am
end
section
namespace Go.Am
open Go.RowKit
theorem acalls_cap {P : Program} {f : FuncId} {id n : Nat} {args : List AV} {s : St} {Q : AV → St → Prop} (h : ∀ c, n ≤ c → ACalls P f (.mc id 0 n c :: args) s Q) : ACalls P f (.ms id 0 n :: args) s Q := fun G w vs hs hv => by
  have h0 : 0 < vs.size := by rw [← hv.1]; simp
  have hx := hv.2 0 _ _ rfl (Array.getElem?_eq_getElem h0)
  have turn : ∀ c, V G (.mc id 0 n c) vs[0] → VL G (.mc id 0 n c :: args) vs := fun c hc => ⟨by simpa using hv.1, fun i x y hi hy => by
    cases i with
    | zero => simp at hi; subst hi; rw [Array.getElem?_eq_getElem h0] at hy; cases hy; exact hc
    | succ i => exact hv.2 (i + 1) x y (by simpa using hi) hy⟩
  generalize vs[0] = v at hx turn
  cases hx with
  | ms _ _ _ cap r addr ho hle hin ha => exact h cap hle G w vs hs (turn cap (.mc _ _ _ _ r addr ho hle hin ha))
  | msnil _ _ cap base hc => subst hc; exact h 0 (Nat.le_refl _) G w vs hs (turn 0 (.mcnil _ _ _))
section
variable {α : Type}
theorem copyEq (l l' : List α) (a b n k : Nat) (e : α → AV) : (l.map e).take a ++ (((l'.map e).drop b).take n ++ (l.map e).drop k) = (l.take a ++ ((l'.drop b).take n ++ l.drop k)).map e := by simp [List.map_take, List.map_drop]
theorem copyEqS (l v : List α) (a n k : Nat) (e : α → AV) : (l.map e).take a ++ ((v.map e).take n ++ (l.map e).drop k) = (l.take a ++ (v.take n ++ l.drop k)).map e := by simp [List.map_take, List.map_drop]
theorem copyMin (v : List α) (n : Nat) (e : α → AV) : min (v.map e).length n = min v.length n := by simp
theorem zAppLen (l : List α) (a n m : Nat) (z : α) (h : a + n ≤ l.length) : n + m = ((l.drop a).take n ++ List.replicate m z).length := by simp; omega
theorem zAppEq (l : List α) (a n m : Nat) (z : α) (e : α → AV) : ((l.map e).drop a).take n ++ List.replicate m (e z) = ((l.drop a).take n ++ List.replicate m z).map e := by simp [List.map_take, List.map_drop]
end
theorem ext_overlaps {P : Program} {f : FuncId} {fn : Func} {tS tR e : TypeId} (hf : P.funcs[f]? = some fn) (hname : (fn.name == "runtime.NumGoroutine") = false) (hb : fn.body.isNone = true) (hn : Extern.findNext fn = none)
    (he : Extern.find fn = some (Extern.SlicesOverlaps.overlaps #[tS, tS] #[tR])) (ht : elemT P tS = some e) {sz : Nat} (hz : sizeT P e = some sz) (s : St) (b : Bool) (l : List AV) (hfit : fits P e l) (id st n c esz : Nat) (elems : List AV) (hg : eget s.heap id = some (.cells esz elems)) :
    AExt P f [.sl b l, .mc id st n c] s (.bool false) := fun G w vs hs hv => by
  obtain ⟨v0, v1, rfl⟩ : ∃ v0 v1, vs = #[v0, v1] := by
    obtain ⟨vs⟩ := vs
    match vs, hv.1 with
    | [v0, v1], _ => exact ⟨v0, v1, rfl⟩
  have h0 := hv.2 0 _ _ rfl rfl
  have h1 := hv.2 1 _ _ rfl rfl
  refine ⟨.bool false, ?_, .bool false⟩
  rw [run_callFunc_extern hf hname hb hn he]
  suffices q : (Extern.SlicesOverlaps.overlaps #[tS, tS] #[tR] #[v0, v1]).run P w = .ok (.bool false) w by rw [q]; rfl
  obtain ⟨base, cap, rfl, hle, _, _, hz0⟩ := V.sl_inv h0
  obtain ⟨ch, w2, run0⟩ : ∃ ch w2, ∀ (A B : Option Addr) (la ca lb cb : Nat), (Extern.SlicesOverlaps.overlaps #[tS, tS] #[tR] #[.slice A la ca, .slice B lb cb]).run P w = (Sem.run P (α := Value) (do
        let some t := (#[tS, tS] : Array TypeId)[0]? | stuck "x"
        let .slice elem ← underlying t | stuck w2
        let size ← sizeOf elem
        match A, B with
        | some a, some b =>
          if la = 0 ∨ lb = 0 ∨ size = 0 then pure (Value.bool false)
          else if a.block != b.block && (← frozen a) && (← frozen b) then unsupported .addressObserved
          else do
            if a.block != b.block then do
              noView a; noView b
              if ← mayBeOne a b then return Value.bool ((← choose ch) == 1)
            pure (Value.bool (a.block == b.block && a.off < b.off + lb * size && b.off < a.off + la * size))
        | _, _ => pure (Value.bool false)) w) := ⟨_, _, fun _ _ _ _ _ _ => rfl⟩
  have run : ∀ (A B : Option Addr) (la ca lb cb : Nat), (Extern.SlicesOverlaps.overlaps #[tS, tS] #[tR] #[.slice A la ca, .slice B lb cb]).run P w = (Sem.run P (α := Value) (do
      match A, B with
      | some a, some b =>
        if la = 0 ∨ lb = 0 ∨ sz = 0 then pure (Value.bool false)
        else if a.block != b.block && (← frozen a) && (← frozen b) then unsupported .addressObserved
        else do
          if a.block != b.block then do
            noView a; noView b
            if ← mayBeOne a b then return Value.bool ((← choose ch) == 1)
          pure (Value.bool (a.block == b.block && a.off < b.off + lb * sz && b.off < a.off + la * sz))
      | _, _ => pure (Value.bool false)) w) := fun A B la ca lb cb => by
    rw [run0]
    simp [run_underlying (elemT_u ht), run_sizeT hz]
  have zero : ∀ (A B : Option Addr) (la ca lb cb : Nat), (la = 0 ∨ lb = 0) → (Extern.SlicesOverlaps.overlaps #[tS, tS] #[tR] #[.slice A la ca, .slice B lb cb]).run P w = .ok (.bool false) w := fun A B la ca lb cb h => by
    rw [run]
    cases A with
    | none => rfl
    | some A =>
      cases B with
      | none => rfl
      | some B =>
        have h' : la = 0 ∨ lb = 0 ∨ sz = 0 := by omega
        simp [h']
  cases h1 with
  | mcnil _ _ base1 => exact zero _ _ _ _ _ _ (.inr rfl)
  | mc _ _ _ _ r addr ho hle1 hin haddr =>
    rcases hz0 with rfl | ⟨bk, off, esz', val, rfl, hesz, hsc, himm, hV⟩
    · exact zero _ _ _ _ _ _ (.inl rfl)
    · by_cases hl0 : l.length = 0 ∨ n = 0
      · exact zero _ _ _ _ _ _ hl0
      · by_cases hs0 : sz = 0
        · rw [run]; simp [hs0]
        · obtain ⟨o, e2, e3⟩ := hs.at hg ho
          cases e3 with
          | cells _ _ cs ty hcs hesz0 hp hel hscE hin' hVE =>
            have hne : l ≠ [] := fun e => by subst e; simp at hl0
            have hsz := fits_of (P := P) hfit hesz hne
            rw [hz] at hsz; cases hsz
            have him := himm 0 (Nat.mul_pos (by omega) (by omega))
            have hcell := hs.imm _ _ _ him
            have hbk : bk ≠ r.block := fun e => by
              rw [e, hs.clear _ _ _ _ hg ho] at him; cases him
            have hsa : ∃ tA kA, w.shape? bk = some (tA, kA + 1) := by
              unfold World.cell? at hcell
              simp only at hcell
              split at hcell
              · rename_i cc ta fr hh
                rw [if_neg (by simp)] at hcell
                have hlt : 0 < cc.size := Nat.lt_of_le_of_lt (Nat.zero_le _) (Array.getElem?_eq_some_iff.1 hcell).1
                exact ⟨ta, cc.size - 1, by rw [Nat.sub_add_cancel hlt]; simp [World.shape?, hh]⟩
              · cases hcell
            obtain ⟨tA, kA, hsa⟩ := hsa
            have hsb : w.shape? r.block = some (ty, cs.size) := by simp [World.shape?, e2]
            have hfb : ∀ o, w.frozen? ⟨r.block, o, none⟩ = false := fun o => by simp [World.frozen?, e2]
            have hkB : cs.size ≠ 0 := by
              rw [hcs]
              have : 0 < (st + c) * r.esz := Nat.mul_pos (by omega) (by omega)
              omega
            generalize cs.size = kB at hsb hkB
            cases kB with
            | zero => exact absurd rfl hkB
            | succ kB =>
              rw [run]
              have hl0' : ¬ (l.length = 0 ∨ n = 0 ∨ sz = 0) := by omega
              have hnb : (bk != r.block) = true := by simpa using hbk
              have hnb' : (bk == r.block) = false := by simpa using hbk
              cases hfa : w.frozen? ⟨bk, off, none⟩ <;> cases hfe : w.frozen? { block := bk, off := kA + 1 } <;>
                simp [hl0', hnb, hnb', frozen, noView, viewAt, mayBeOne, stringish, shape, Sem.run, hsa, hsb, hfb, hfa, hfe]
end Go.Am
end
