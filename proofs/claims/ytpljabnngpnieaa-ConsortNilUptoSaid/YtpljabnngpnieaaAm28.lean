/-
  The logic AM, part 28: calls of functions that reach into the state; arrays.
  Own work. No Go text.
-/
import Derived.Test.YtpljabnngpnieaaAm27
namespace Go.Am
open Go.RowKit

def fitsB (Lp Ls : List (Nat × Nat)) (fr : List Nat) (H0 H1 s s' : St) : Bool :=
  H0.heap.all (fun p => Nat.blt p.1 H0.cnt && H0.heap.all fun q => Nat.beq p.1 q.1 || !(Nat.beq (pi Lp p.1) (pi Lp q.1))) &&
  s'.heap.all (fun p => Nat.blt p.1 s'.cnt && bif memB p.1 fr then H0.heap.all (fun q => !(Nat.beq (pi Lp q.1) p.1)) else
    (Nat.ble s.cnt p.1 || (has H0.heap (pi Ls p.1) && Nat.beq (pi Lp (pi Ls p.1)) p.1)) && s'.heap.all fun q => memB q.1 fr || Nat.beq p.1 q.1 || !(Nat.beq (pi Ls p.1) (pi Ls q.1))) &&
  Nat.ble s.cnt s'.cnt && keepD s.heap s'.heap

inductive HIn (ok : Nat → Bool) (π : Nat → Nat) (s : St) : List (Nat × Blk) → Prop
  | z : HIn ok π s []
  | k {id : Nat} {x x' : Blk} {r : List (Nat × Blk)} (hg : eget s.heap (π id) = some x') (hc : CoB ok π x x') (hr : HIn ok π s r) : HIn ok π s ((id, x) :: r)

theorem HIn.get {ok : Nat → Bool} {π : Nat → Nat} {s : St} : ∀ {l : List (Nat × Blk)}, HIn ok π s l → ∀ id b, eget l id = some b → ∃ b', eget s.heap (π id) = some b' ∧ CoB ok π b b'
  | _, .z, id, b, h => by simp [egetN, egetC] at h
  | _, .k hg hc hr, id, b, h => by
    simp only [egetN, egetC] at h
    split at h
    · rename_i e; cases h; subst e; exact ⟨_, hg, hc⟩
    · exact hr.get id b h

inductive HOut (ok : Nat → Bool) (σ : Nat → Nat) (fr : List Nat) (H1 s : St) : List (Nat × Blk) → Prop
  | z : HOut ok σ fr H1 s []
  | d {id : Nat} {x x' : Blk} {r : List (Nat × Blk)} (hm : memB id fr = false) (hg : eget H1.heap (σ id) = some x') (hc : CoB ok σ x x') (hr : HOut ok σ fr H1 s r) : HOut ok σ fr H1 s ((id, x) :: r)
  | f {id : Nat} {x : Blk} {r : List (Nat × Blk)} (hm : memB id fr = true) (hg : eget s.heap id = some x) (hr : HOut ok σ fr H1 s r) : HOut ok σ fr H1 s ((id, x) :: r)

theorem HOut.getD {ok : Nat → Bool} {σ : Nat → Nat} {fr : List Nat} {H1 s : St} : ∀ {l : List (Nat × Blk)}, HOut ok σ fr H1 s l → ∀ id b, eget l id = some b → memB id fr = false → ∃ b', eget H1.heap (σ id) = some b' ∧ CoB ok σ b b'
  | _, .z, id, b, h, _ => by simp [egetN, egetC] at h
  | _, .d hm hg hc hr, id, b, h, hn => by
    simp only [egetN, egetC] at h
    split at h
    · rename_i e; cases h; subst e; exact ⟨_, hg, hc⟩
    · exact hr.getD id b h hn
  | _, .f hm hg hr, id, b, h, hn => by
    simp only [egetN, egetC] at h
    split at h
    · rename_i e; subst e; rw [hm] at hn; cases hn
    · exact hr.getD id b h hn

theorem HOut.getF {ok : Nat → Bool} {σ : Nat → Nat} {fr : List Nat} {H1 s : St} : ∀ {l : List (Nat × Blk)}, HOut ok σ fr H1 s l → ∀ id b, eget l id = some b → memB id fr = true → eget s.heap id = some b
  | _, .z, id, b, h, _ => by simp [egetN, egetC] at h
  | _, .d hm hg hc hr, id, b, h, hn => by
    simp only [egetN, egetC] at h
    split at h
    · rename_i e; subst e; rw [hm] at hn; cases hn
    · exact hr.getF id b h hn
  | _, .f hm hg hr, id, b, h, hn => by
    simp only [egetN, egetC] at h
    split at h
    · rename_i e; cases h; subst e; exact hg
    · exact hr.getF id b h hn

theorem mkFits {Lp Ls : List (Nat × Nat)} {fr : List Nat} {H0 H1 s s' : St} (hb : fitsB Lp Ls fr H0 H1 s s' = true) (hi : HIn (okId 0 H0.heap) (pi Lp) s H0.heap)
    (ho : HOut (okF (fun id => memB id fr) s'.heap) (pi Ls) fr H1 s s'.heap) : Fits (pi Lp) (pi Ls) (fun id => memB id fr) H0 H1 s s' := by
  simp only [fitsB, Bool.and_eq_true] at hb
  obtain ⟨⟨⟨b1, b2⟩, b3⟩, b4⟩ := hb
  have k1 : ∀ {id b}, eget H0.heap id = some b → id < H0.cnt ∧ ∀ {id' b'}, eget H0.heap id' = some b' → id = id' ∨ pi Lp id ≠ pi Lp id' := fun {id b} hg => by
    have := List.all_eq_true.1 b1 _ (eget_mem hg)
    simp only [Bool.and_eq_true, Nat.blt_eq] at this
    refine ⟨this.1, fun {id' b'} hg' => ?_⟩
    have := List.all_eq_true.1 this.2 _ (eget_mem hg')
    simp only [Bool.or_eq_true, Bool.not_eq_true'] at this
    rcases this with h | h
    · exact .inl (Nat.eq_of_beq_eq_true h)
    · exact .inr fun e => by rw [e, show Nat.beq (pi Lp id') (pi Lp id') = true from Nat.beq_refl _] at h; cases h
  have k2 : ∀ {id b}, eget s'.heap id = some b → id < s'.cnt ∧ (bif memB id fr then H0.heap.all (fun q => !(Nat.beq (pi Lp q.1) id)) else
    (Nat.ble s.cnt id || (has H0.heap (pi Ls id) && Nat.beq (pi Lp (pi Ls id)) id)) && s'.heap.all fun q => memB q.1 fr || Nat.beq id q.1 || !(Nat.beq (pi Ls id) (pi Ls q.1))) = true := fun {id b} hg => by
    have := List.all_eq_true.1 b2 _ (eget_mem hg)
    simp only [Bool.and_eq_true, Nat.blt_eq] at this
    exact this
  refine ⟨fun id b hg => hi.get id b hg, fun id id' b b' h1 h2 e => ?_, fun id b hg => (k1 hg).1, fun id b hg hf => ?_, fun id b hg hf => ?_, fun id id' b b' h1 h2 f1 f2 e => ?_, fun id b hg => (k2 hg).1, Nat.le_of_ble_eq_true b3, fun id e => keepD_iff b4 id e⟩
  · rcases (k1 h1).2 h2 with h | h
    · exact h
    · exact absurd e h
  · obtain ⟨b', q1, q2⟩ := ho.getD id b hg hf
    refine ⟨b', q1, q2, fun hl => ?_⟩
    have := (k2 hg).2
    simp only [hf, cond_false, Bool.and_eq_true, Bool.or_eq_true, Nat.ble_eq] at this
    rcases this.1 with h | h
    · omega
    · exact ⟨h.1, Nat.eq_of_beq_eq_true h.2⟩
  · refine ⟨ho.getF id b hg hf, fun i b' hi' e => ?_⟩
    have := (k2 hg).2
    simp only [hf, cond_true] at this
    have := List.all_eq_true.1 this _ (eget_mem hi')
    simp only [Bool.not_eq_true'] at this
    rw [e, show Nat.beq id id = true from Nat.beq_refl _] at this; cases this
  · have := (k2 h1).2
    simp only [f1, cond_false, Bool.and_eq_true] at this
    have := List.all_eq_true.1 this.2 _ (eget_mem h2)
    simp only [f2, Bool.false_or, Bool.or_eq_true, Bool.not_eq_true'] at this
    rcases this with h | h
    · exact Nat.eq_of_beq_eq_true h
    · rw [e, show Nat.beq (pi Ls id') (pi Ls id') = true from Nat.beq_refl _] at h; cases h

/-- A call that reaches into the state. -/
theorem callF {P : Program} {f : FuncId} {args0 : List AV} {H0 H1 : St} {v0 : AV} (h : ACalls P f args0 H0 fun y t => y = v0 ∧ t = H1) (Lp Ls : List (Nat × Nat)) (fr : List Nat) (args : List AV) (s : St) (v : AV) (s' : St)
    (hb : fitsB Lp Ls fr H0 H1 s s' = true) (ha : CoL (okId 0 H0.heap) (pi Lp) args0 args) (hv : Co (okF (fun id => memB id fr) s'.heap) (pi Ls) v v0) (hi : HIn (okId 0 H0.heap) (pi Lp) s H0.heap)
    (ho : HOut (okF (fun id => memB id fr) s'.heap) (pi Ls) fr H1 s s'.heap) : ACalls P f args s fun y t => y = v ∧ t = s' := acalls_frame h (mkFits hb hi ho) ha hv

/-! ### Arrays -/

section
variable {α : Type} {l : List α} {i : Int} {x : α} (e : α → AV)
theorem vecOff (n : Nat) : 0 + n * 1 = n := by omega
theorem vecLe (h : ix l i = some x) : i.toNat + 1 ≤ (l.map e).length := by
  have h1 := ixLt h
  have h0 := (ixE h).1
  simp; omega
theorem vecSet (h : ix l i = some x) (v : α) : [AV.agg (l.map e)].set 0 (reElem (.agg (l.map e)) (splice (l.map e) i.toNat [e v])) = [.agg ((l.set i.toNat v).map e)] := by
  have h1 := ixLt h
  have h0 := (ixE h).1
  simp only [reElem, List.set_cons_zero, List.cons.injEq, AV.agg.injEq, and_true, splice, List.length_cons, List.length_nil, List.map_set]
  rw [List.set_eq_take_append_cons_drop, if_pos (by simp; omega)]
  simp
end

/-- The blocks that are kept, no marks among them. -/
def keepB (hs : List Nat) (s : St) : Option St := match (hs.foldr (fun id acc => match eget s.heap id, acc with
    | some b, some l => some ((id, b) :: l)
    | _, _ => none) (some [])) with
  | some h => some ⟨h, s.cnt⟩
  | none => none

/-- The end of a function, with a part of the state let go. -/
theorem fin_p {P : Program} {rs : Array ResultVar} {K : AV → St → Prop} {env : Env} {s : St} {x : AV} (hids : List Nat) (s' : St) (hx : aResults P rs env s = some x) (hp : keepB hids s = some s') (hd : noDfr s'.heap = true) (hk : K x s') : FinQ P rs K .ret env s := by
  unfold keepB at hp
  split at hp
  · rename_i h hh
    cases hp
    exact ⟨x, ⟨h, s.cnt⟩, hx, ⟨fun id b hg => ⟨pruneH hh id b hg, fun e => noDfr_iff hd id (by rw [hg, e])⟩, Nat.le_refl _⟩, hk⟩
  · cases hp
theorem fin_q {P : Program} {rs : Array ResultVar} {K : AV → St → Prop} {env : Env} {s : St} {x : AV} (hids : List Nat) (s' : St) (hx : aResults P rs env s = some x) (hp : keepB hids s = some s') (hd : noDfr s'.heap = true) (hk : K x s') : FinQ P rs K .normal env s :=
  fin_p (P := P) hids s' hx hp hd hk

/-- The end of a function of which only the result is told. -/
theorem fin_r {P : Program} {rs : Array ResultVar} {K : AV → St → Prop} {env : Env} {s : St} {x : AV} (hx : aResults P rs env s = some x) (hk : K x ⟨[], s.cnt⟩) : FinQ P rs K .ret env s :=
  ⟨x, ⟨[], s.cnt⟩, hx, ⟨fun id b hg => by simp [egetN, egetC] at hg, Nat.le_refl _⟩, hk⟩
theorem fin_s {P : Program} {rs : Array ResultVar} {K : AV → St → Prop} {env : Env} {s : St} {x : AV} (hx : aResults P rs env s = some x) (hk : K x ⟨[], s.cnt⟩) : FinQ P rs K .normal env s := fin_r hx hk

/-! ### Loops over functions -/

section
variable {P : Program} {N : Nat} {ρ : Option Nat} {Q : Exit → Env → St → Prop} {env : Env} {s : St} {c : Code}

/-- A round, met where yield is called: the record's code, walked. -/
theorem run_y {id : Nat} {args : List AV} {v : AV} {s' : St} (l : ALoop) (E : Env) (hg : eget s.heap id = some (.loop l)) (hr : (Nat.beq args.length l.params.length && l.params.all fun t => decide (t < l.ntmps)) = true) (hE : putParams l.params args l.env = E)
    (h : AWp P l.ntmps (some id) l.assign (Then (fun env1 s1 => ∃ l1, eget s1.heap id = some (.loop l1) ∧ l1.state = .ready ∧
      AWp P l.ntmps (some id) l.body (RoundQ id fun y t => y = v ∧ t = s') env1 (setLoop s1 id { l1 with state := .busy })) (fun _ _ _ => False)) E s) : AYield P id args s fun y t => y = v ∧ t = s' := by
  simp only [Bool.and_eq_true, Nat.beq_eq] at hr
  subst hE
  exact ayield hg hr.1 hr.2 h

/-- A loop over a function: what the function does is told; s': behind it. -/
theorem run_rf {g : Operand} {ps : List Tmp} {assign body : Code} {gf : FuncId} {caps : List AV} {v : AV} {s' : St} (hcd : c = .rangeFunc g ps.toArray assign body) (hg : oper env g = some (.fn gf caps)) (he : enters P gf = true)
    (h : ACalls P gf (.yld (s.cnt + 1) :: caps) ⟨(s.cnt + 1, .loop ⟨env, N, ps, assign, body, .ready, none⟩) :: s.heap, s.cnt + 2⟩ fun y t => y = v ∧ t = s')
    (l : ALoop) (hl : eget s'.heap (s.cnt + 1) = some (.loop l)) (hb : l.state ≠ .busy) (hp : l.pending = none) (hq : Q .normal env ⟨(s.cnt, .dfr) :: edel s'.heap (s.cnt + 1), s'.cnt⟩) : AWp P N none c Q env s := by
  subst hcd
  refine awp_rangeFunc hg he ((by simpa using h : ACalls P gf (.yld (s.cnt + 1) :: caps) ⟨(s.cnt + 1, .loop ⟨env, N, ps.toArray.toList, assign, body, .ready, none⟩) :: s.heap, s.cnt + 2⟩ fun y t => y = v ∧ t = s').mono ?_)
  rintro y t ⟨_, rfl⟩
  refine ⟨l, hl, hb, ?_⟩
  rw [hp]
  exact hq
end

/-- What slices.Insert gives back. -/
def insL {α : Type} (l : List α) (i : Int) (v : List α) : Option (List α) :=
  if v.length = 1 ∧ 0 ≤ i ∧ i ≤ l.length ∧ l.length + v.length ≤ maxElems then some (l.take i.toNat ++ (v ++ l.drop i.toNat)) else none

section
variable {α : Type} {l : List α} {a n : Nat} (e : α → AV)
theorem mapNilM (h : l = []) : ((l.map e).drop 0).take l.length = [] := by subst h; rfl
theorem mapNilP (h : (l.drop a).take n = []) : ((l.map e).drop a).take n = [] := by rw [mapSub', h]; rfl
theorem mapNeP (h : (l.drop a).take n ≠ []) : ((l.map e).drop a).take n ≠ [] := by rw [mapSub']; exact mapNe e h
theorem bndI (l m : List α) (e : α → AV) {k : Nat} (h : l.length + k ≤ maxElems) (hk : k = m.length := by rfl) : (l.map e).length + (m.map e).length ≤ maxElems := by simp; omega
theorem lenI (l m : List α) (e : α → AV) : (l.map e).length + (m.map e).length = (l ++ m).length := by simp
theorem bndIM (l m : List α) (e : α → AV) {k : Nat} (h : l.length + k ≤ maxElems) (hk : k = m.length := by rfl) : (l.map e).length + (((m.map e).drop 0).take m.length).length ≤ maxElems := by simp; omega
theorem lenIM (l m : List α) (e : α → AV) : (l.map e).length + (((m.map e).drop 0).take m.length).length = (l ++ m).length := by simp
theorem appIM (l m : List α) (e : α → AV) : l.map e ++ ((m.map e).drop 0).take m.length = (l ++ m).map e := by
  rw [List.drop_zero, List.take_of_length_le (by simp), List.map_append]
theorem bndIP (l : List α) (m : List α) (b k : Nat) (e : α → AV) (h : l.length + ((m.drop b).take k).length ≤ maxElems) : (l.map e).length + (((m.map e).drop b).take k).length ≤ maxElems := by rw [mapSub']; simpa using h
theorem lenIP (l m : List α) (b k : Nat) (e : α → AV) : (l.map e).length + (((m.map e).drop b).take k).length = (l ++ (m.drop b).take k).length := by rw [mapSub']; simp
theorem appIP (l m : List α) (b k : Nat) (e : α → AV) : l.map e ++ ((m.map e).drop b).take k = (l ++ (m.drop b).take k).map e := by rw [mapSub', List.map_append]
theorem bndPS (m : List α) (e : α → AV) {k n : Nat} (h : n + k ≤ maxElems) (hk : k = m.length := by rfl) : n + (m.map e).length ≤ maxElems := by simp; omega
theorem lenPS (l : List α) (a n : Nat) (m : List α) (e : α → AV) (h : a + n ≤ l.length) : n + (m.map e).length = ((l.drop a).take n ++ m).length := by simp; omega
theorem appPS (l : List α) (a n : Nat) (m : List α) (e : α → AV) : ((l.map e).drop a).take n ++ m.map e = ((l.drop a).take n ++ m).map e := by rw [mapSub', List.map_append]
theorem bndPW (m : List α) (e : α → AV) {k n : Nat} (h : n + k ≤ maxElems) (hk : k = m.length := by rfl) : n + (((m.map e).drop 0).take m.length).length ≤ maxElems := by simp; omega
theorem lenPW (l : List α) (a n : Nat) (m : List α) (e : α → AV) (h : a + n ≤ l.length) : n + (((m.map e).drop 0).take m.length).length = ((l.drop a).take n ++ m).length := by simp; omega
theorem appPW (l : List α) (a n : Nat) (m : List α) (e : α → AV) : ((l.map e).drop a).take n ++ ((m.map e).drop 0).take m.length = ((l.drop a).take n ++ m).map e := by
  have h : ((m.map e).drop 0).take m.length = m.map e := by rw [List.drop_zero, List.take_of_length_le (by simp)]
  rw [mapSub', h, List.map_append]
theorem bndPP (l : List α) (a n : Nat) (e : α → AV) {k : Nat} (h : k + ((l.drop a).take n).length ≤ maxElems) : k + (((l.map e).drop a).take n).length ≤ maxElems := by rw [mapSub']; simpa using h
theorem lenPP (l : List α) (a n : Nat) (m : List α) (b k : Nat) (e : α → AV) (h : a + n ≤ l.length) : n + (((m.map e).drop b).take k).length = ((l.drop a).take n ++ (m.drop b).take k).length := by rw [mapSub']; simp; omega
theorem appPP (l : List α) (a n : Nat) (m : List α) (b k : Nat) (e : α → AV) : ((l.map e).drop a).take n ++ ((m.map e).drop b).take k = ((l.drop a).take n ++ (m.drop b).take k).map e := by rw [mapSub', mapSub', List.map_append]
end
end Go.Am
