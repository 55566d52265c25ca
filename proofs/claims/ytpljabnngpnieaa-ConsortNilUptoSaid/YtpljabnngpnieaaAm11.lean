/-
  The logic AM, part 11: operations are carried out as 'aop' says: build, arithmetic, comparison; all of them together.
  Own work. No Go text.
-/
import Derived.Test.YtpljabnngpnieaaAm10
namespace Go.Am
open Go.RowKit

section
variable {P : Program} {G : Ghost} {s s' : St} {w : World} {env : Env} {a : Act}

theorem setAll_get (off : Nat) : ∀ (vs : List Value) (st : Nat) (cs : Array Value) (i : Nat), off + st + vs.length ≤ cs.size →
    (((vs.zipIdx st).foldl (fun cs (x : Value × Nat) => cs.setIfInBounds (off + x.2) x.1) cs))[i]? = if i < off + st then cs[i]? else if i < off + st + vs.length then vs[i - (off + st)]? else cs[i]?
  | [], st, cs, i, h => by
    simp only [List.zipIdx_nil, List.foldl_nil, List.length_nil, Nat.add_zero]
    split
    · rfl
    · rfl
  | v :: r, st, cs, i, h => by
    simp only [List.zipIdx_cons, List.foldl_cons, List.length_cons] at h ⊢
    rw [setAll_get off r (st + 1) _ i (by simp; omega), Array.getElem?_setIfInBounds]
    by_cases h1 : i < off + st
    · simp only [if_neg (show ¬ off + st = i from by omega)]
      rw [if_pos (by omega), if_pos h1]
    · by_cases h2 : off + st = i
      · subst h2
        rw [if_pos (by omega), if_pos rfl, if_pos (by omega), if_neg (by omega), if_pos (by omega)]
        simp
      · simp only [if_neg h2]
        rw [if_neg (by omega), if_neg h1]
        by_cases h3 : i < off + st + (r.length + 1)
        · rw [if_pos (by omega), if_pos h3, show i - (off + st) = (i - (off + (st + 1))) + 1 from by omega]
          simp
        · rw [if_neg (by omega), if_neg h3]

theorem setAll_size (off : Nat) : ∀ (vs : List Value) (st : Nat) (cs : Array Value), ((vs.zipIdx st).foldl (fun cs (x : Value × Nat) => cs.setIfInBounds (off + x.2) x.1) cs).size = cs.size
  | [], st, cs => rfl
  | v :: r, st, cs => by simp only [List.zipIdx_cons, List.foldl_cons]; rw [setAll_size off r]; simp

theorem fill_VL {place place' : Nat → Option (Nat × Nat)} (hp : ∀ i q, place i = some q → place' i = some q) : ∀ {parts : List (Nat × AV)} {parts' : List (Nat × Value)} {cells l : List AV} {cv : Array Value},
    VL G cells cv → (parts.length = parts'.length ∧ ∀ (i : Nat) p q, parts[i]? = some p → parts'[i]? = some q → p.1 = q.1 ∧ V G p.2 q.2) → aFill place cells parts = some l →
    ∃ out, Instr.fill place' cv parts' = some out ∧ VL G l out
  | [], parts', cells, l, cv, hv, hpp, h => by
    cases parts' with
    | nil => cases h; exact ⟨cv, rfl, hv⟩
    | cons _ _ => simp at hpp
  | (i, x) :: r, parts', cells, l, cv, hv, hpp, h => by
    cases parts' with
    | nil => simp at hpp
    | cons q r' =>
      obtain ⟨j, v⟩ := q
      obtain ⟨hlen, hpp⟩ := hpp
      obtain ⟨rfl, hxv⟩ : i = j ∧ V G x v := hpp 0 (i, x) (j, v) rfl rfl
      simp only [aFill] at h
      split at h
      case h_2 => cases h
      rename_i off n hpl
      split at h
      case isFalse => cases h
      rename_i hc
      obtain ⟨h1, h2, h3⟩ := hc
      have hl := VL.cells hxv (not_any h2)
      have hvs : v.cells.size = n := by rw [← hl.1, h1]
      have hcs : cv.size = cells.length := hv.1.symm
      simp only [Instr.fill, hp i _ hpl]
      rw [if_neg (by simp [hvs]; omega)]
      refine fill_VL hp ?_ ⟨by simpa using hlen, fun k p q hk hq => hpp (k + 1) p q (by simpa using hk) (by simpa using hq)⟩ h
      have e : (v.cells.zipIdx.foldl (fun cs (x : Value × Nat) => cs.setIfInBounds (off + x.2) x.1) cv) = ((v.cells.toList.zipIdx 0).foldl (fun cs (x : Value × Nat) => cs.setIfInBounds (off + x.2) x.1) cv) := by
        rw [← Array.foldl_toList, Array.toList_zipIdx]
      refine ⟨?_, fun k y u hk hu => ?_⟩
      · rw [splice_length _ _ _ (by omega)]
        show cells.length = (v.cells.zipIdx.foldl (fun cs (x : Value × Nat) => cs.setIfInBounds (off + x.2) x.1) cv).size
        rw [e, setAll_size, hcs]
      · rw [list_splice_get _ _ _ _ (by omega)] at hk
        change (v.cells.zipIdx.foldl (fun cs (x : Value × Nat) => cs.setIfInBounds (off + x.2) x.1) cv)[k]? = some u at hu
        rw [e, setAll_get _ _ _ _ _ (by simp [hvs]; omega)] at hu
        simp only [Nat.add_zero, Array.length_toList, hvs, h1] at hu hk
        split at hk
        · rename_i c; rw [if_pos c] at hu; exact hv.2 k y u hk hu
        · rename_i c
          rw [if_neg c] at hu
          split at hk
          · rename_i c2; rw [if_pos c2] at hu; exact hl.2 _ y u hk (by simpa using hu)
          · rename_i c2; rw [if_neg c2] at hu; exact hv.2 k y u hk hu

theorem aParts_V (he : VEnv G env a.tmps) : ∀ {l : List (Nat × Operand)} {xs : List (Nat × AV)}, aParts env l = some xs →
    xs.length = (l.map fun p => (p.1, a.eval p.2)).length ∧ ∀ (i : Nat) p q, xs[i]? = some p → (l.map fun p => (p.1, a.eval p.2))[i]? = some q → p.1 = q.1 ∧ V G p.2 q.2
  | [], xs, h => by simp [aParts] at h; subst h; simp
  | (j, o) :: r, xs, h => by
    simp only [aParts] at h
    split at h
    · rename_i x l h1 h2
      cases h
      obtain ⟨e1, e2⟩ := aParts_V he h2
      refine ⟨by simpa using e1, fun i p q hp hq => ?_⟩
      cases i with
      | zero => simp at hp hq; subst hp; subst hq; exact ⟨rfl, oper_V he h1⟩
      | succ i => exact e2 i p q (by simpa using hp) (by simpa using hq)
    · cases h

theorem run_mapM_sizes (w : World) : ∀ (fs : List Field), (fs.all fun f => (sizeT P f.type).isSome) = true →
    (fs.mapM fun f => Functor.map (Prod.mk f.offset) (sizeOf f.type)).run P w = .ok (fs.map fun f => (f.offset, (sizeT P f.type).getD 0)) w
  | [], _ => rfl
  | f :: r, h => by
    simp only [List.all_cons, Bool.and_eq_true] at h
    cases hq : sizeT P f.type with
    | none => rw [hq] at h; cases h.1
    | some n =>
      have ih := run_mapM_sizes w r h.2
      simp only [List.mapM_cons, Sem.run_bind, Sem.run_map, run_sizeT hq, Result.andThen_ok, ih, Sem.run_pure, List.map_cons, hq, Option.getD_some]

theorem build_did (hs : Sim G s w) (he : VEnv G env a.tmps) {t : Nat} {parts : Array (Nat × Operand)} {l : List (Nat × AV)} {x : AV} (hl : aParts env parts.toList = some l) (h : aBuild P t l = some x) :
    Did P G s w (Instr.build t (parts.map fun (i, x) => (i, a.eval x))) x s := by
  have hp := aParts_V he hl
  unfold aBuild at h
  split at h
  case h_2 => cases h
  rename_i cs hz
  obtain ⟨zv, hzr, hzV⟩ := run_zeroT hz w G
  have hzl := VL.cells hzV (by simp)
  split at h
  · rename_i hst
    split at h
    case h_2 => cases h
    rename_i out hout
    cases h
    unfold structT at hst
    split at hst
    case h_2 => cases hst
    rename_i fs hu
    have hm := run_mapM_sizes w fs.toList hst
    obtain ⟨ov, f1, f2⟩ := fill_VL (place' := fun i => ((fs.toList.map fun (f : Field) => (f.offset, (sizeT P f.type).getD 0)).toArray)[i]?) (fun i q hq => by
      obtain ⟨off, n⟩ := q
      obtain ⟨fs', f, hu', hfi, hoff, hn⟩ := fieldT_u hq
      rw [hu] at hu'; cases hu'
      simp only [List.getElem?_toArray, List.getElem?_map, Array.getElem?_toList, hfi, Option.map_some, hoff, hn, Option.getD_some]) hzl hp hout
    refine did_pure hs (v := .agg ov) ?_ (.agg _ _ f2.1 f2.2)
    simp only [Instr.build, Sem.run_bind, hzr, Result.andThen_ok, run_underlying hu, Array.mapM_eq_mapM_toList, Sem.run_map]
    have hmm : (fs.toList.mapM fun (f : Field) => do pure (f.offset, ← sizeOf f.type)).run P w = .ok (fs.toList.map fun (f : Field) => (f.offset, (sizeT P f.type).getD 0)) w := hm
    simp only [hmm, Result.andThen_ok, Array.toList_map]
    have hf1 : Instr.fill (fun i => ((fs.toList.map fun (f : Field) => (f.offset, (sizeT P f.type).getD 0)).toArray)[i]?) zv.cells (parts.toList.map fun p => (p.1, a.eval p.2)) = some ov := f1
    simp only [hf1]
    rfl
  · split at h
    case h_2 => cases h
    rename_i m e hu
    split at h
    case h_2 => cases h
    rename_i sz hsz
    split at h
    case h_2 => cases h
    rename_i out hout
    cases h
    obtain ⟨ov, f1, f2⟩ := fill_VL (place' := fun i => some (i * sz, sz)) (fun i q hq => hq) hzl hp hout
    refine did_pure hs (v := .agg ov) ?_ (.agg _ _ f2.1 f2.2)
    simp only [Instr.build, Sem.run_bind, hzr, Result.andThen_ok, run_underlying (arrT_u hu), run_sizeT hsz, Array.toList_map]
    have hf1 : Instr.fill (fun i => some (i * sz, sz)) zv.cells (parts.toList.map fun p => (p.1, a.eval p.2)) = some ov := f1
    simp only [hf1]
    rfl

end
end Go.Am
