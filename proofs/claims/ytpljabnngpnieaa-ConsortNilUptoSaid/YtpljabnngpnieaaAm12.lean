/-
  The logic AM, part 12: the rest of the operations, and all of them together.
  Own work. No Go text.
-/
import Derived.Test.YtpljabnngpnieaaAm11
namespace Go.Am
open Go.RowKit

section
variable {P : Program} {G : Ghost} {s s' : St} {w : World} {env : Env} {a : Act}

theorem numbered_get : ∀ {l : List (Nat × AV)} {i : Nat}, numbered l i = true → ∀ k p, l[k]? = some p → p.1 = i + k
  | [], _, _, k, p, h => by simp at h
  | (j, x) :: r, i, hn, k, p, h => by
    simp only [numbered, Bool.and_eq_true, beq_iff_eq] at hn
    cases k with
    | zero => simp at h; subst h; exact hn.1
    | succ k =>
      have := numbered_get hn.2 k p (by simpa using h)
      omega

/-- The parts of a slice, laid one behind the other. -/
theorem fill_slice {sz : Nat} : ∀ {parts : List (Nat × AV)} {st : Nat} {cells : List AV}, numbered parts st = true → (∀ p ∈ parts, p.2.cells.length = sz ∧ p.2.cells.all AV.scalar = true) →
    cells.length = (st + parts.length) * sz → aFill (fun i => some (i * sz, sz)) cells parts = some (cells.take (st * sz) ++ flat (parts.map (·.2)))
  | [], st, cells, _, _, hl => by
    simp only [List.length_nil, Nat.add_zero] at hl
    simp only [aFill, List.map_nil, flat_nil, List.append_nil]
    rw [List.take_of_length_le (Nat.le_of_eq hl)]
  | (j, x) :: r, st, cells, hn, hp, hl => by
    simp only [numbered, Bool.and_eq_true, beq_iff_eq] at hn
    obtain ⟨rfl, hn⟩ := hn
    obtain ⟨h1, h2⟩ := hp (j, x) (by simp)
    simp only [] at h1 h2
    have hle : j * sz + sz ≤ cells.length := by
      rw [hl, List.length_cons, ← Nat.succ_mul]
      exact Nat.mul_le_mul_right _ (by omega)
    simp only [aFill, h1, h2, hle, and_self, if_true]
    have hsl : (splice cells (j * sz) x.cells).length = cells.length := splice_length _ _ _ (by omega)
    rw [fill_slice hn (fun p hp' => hp p (by simp [hp'])) (by rw [hsl, hl, List.length_cons]; congr 1; omega)]
    congr 1
    rw [List.map_cons, flat_cons, ← List.append_assoc]
    congr 1
    rw [Nat.add_mul, Nat.one_mul]
    unfold splice
    rw [← List.append_assoc, List.take_append_of_le_length (by simp [h1]; omega)]
    rw [List.take_of_length_le (by simp [h1]; omega)]

theorem buildSlice_did (hs : Sim G s w) (he : VEnv G env a.tmps) {t len : Nat} {parts : Array (Nat × Operand)} {l : List (Nat × AV)} {x : AV} (hl : aParts env parts.toList = some l) (h : aBuildSlice P t len l = some x) :
    Did P G s w (Instr.buildSlice t len (parts.map fun (i, x) => (i, a.eval x))) x s := by
  have hp := aParts_V he hl
  unfold aBuildSlice at h
  split at h
  case h_2 => cases h
  rename_i e hu
  split at h
  case h_2 => cases h
  rename_i sz z hsz hz
  split at h
  case isFalse => cases h
  rename_i hc
  obtain ⟨rfl, h2, h3, h4, h5, h6⟩ := hc
  cases h
  obtain ⟨zv, hzr, hzV⟩ := run_zeroT hz w G
  -- the zero cells
  let zc : Array Value := if l.length * sz = 0 then #[] else zv.cells
  let c0 : Array Value := (Array.range (l.length * sz)).map (zc[· % zc.size]!)
  have hc0 : VL G (List.replicate (l.length * sz) AV.any) c0 := ⟨by simp [c0], fun i x y hx _ => by
    rw [List.getElem?_replicate] at hx
    split at hx
    · cases hx; exact .any _
    · cases hx⟩
  have hfl := fill_slice (sz := sz) (st := 0) (cells := List.replicate (l.length * sz) AV.any) h2 h3 (by simp)
  simp only [Nat.zero_mul, List.take_zero, List.nil_append] at hfl
  obtain ⟨ov, f1, f2⟩ := fill_VL (place' := fun i => some (i * sz, sz)) (fun i q hq => hq) hc0 hp hfl
  have hall : ∀ y ∈ l.map (·.2), y.cells.length = sz := fun y hy => by
    obtain ⟨p, hp, rfl⟩ := List.mem_map.1 hy
    exact (h3 p hp).1
  have hlen : ov.size = l.length * sz := by rw [← f2.1, flat_length hall]; simp
  obtain ⟨q1, q2⟩ := hs.newImm ov e
  have hrun : (Instr.buildSlice t l.length (parts.map fun (i, x) => (i, a.eval x))).run P w = .ok (.slice (some ⟨w.heap.size, 0, none⟩) l.length l.length) (w.alloc (.cells ov e)) := by
    have h4' : ¬ (2 ^ 24 < l.length * sz) := by omega
    have h4'' : ¬ (16777216 < l.length * sz) := by omega
    simp only [Instr.buildSlice, Sem.run_bind, run_underlying (elemT_u hu), run_sizeT hsz, Result.andThen_ok, gt_iff_lt, if_neg h4', Array.toList_map]
    have hf1 : Instr.fill (fun i => some (i * sz, sz)) c0 (parts.toList.map fun p => (p.1, a.eval p.2)) = some ov := f1
    by_cases hN : l.length * sz = 0
    · rw [if_pos hN]
      simp only [c0, zc, if_pos hN] at hf1
      simp only [pure_bind, hf1]
      simp [newRow]
    · rw [if_neg hN]
      simp only [c0, zc, if_neg hN] at hf1
      simp only [Sem.run_bind, hzr, Result.andThen_ok, Sem.run_pure, hf1]
      simp [newRow]
  refine ⟨_, _, _, hrun, ?_, q1, q2⟩
  have hle := q2.le
  have hmem : ∀ k y, (flat (l.map (·.2)))[k]? = some y → ∃ v, ov[k]? = some v ∧ V G y v := fun k y hk => f2.get hk
  have key := V.sl (G := G.addImm w.heap.size ov) true (l.map (·.2)) w.heap.size 0 sz l.length (fun k => ov.getD k undef) (by simp) (by simp) hall
    (fun y hy => by
      rw [flat, List.mem_flatMap] at hy
      obtain ⟨q, hq, hy⟩ := hy
      obtain ⟨p, hp, rfl⟩ := List.mem_map.1 hq
      exact scal_of_all (h3 p hp).2 y hy)
    (fun k hk => by
      have hk' : k < ov.size := by rw [hlen]; simpa using hk
      simp [Ghost.addImm, hk'])
    (fun k y hk => by
      obtain ⟨v, e1, e2⟩ := hmem k y hk
      simp only [Array.getD_eq_getD_getElem?, e1, Option.getD_some]
      exact e2.mono hle)
  simpa using key

/-! ### Arithmetic and comparison -/

theorem aInt_run {op : BinOp} {k : IntKind} {x y : Int} {z : AV} (hop : op ≠ .shl) (hop' : op ≠ .shr) (h : aInt op k x y = some z) (t : TypeId) :
    ∃ v, (binOp op t (.int k x) (.int k y)).run P w = .ok v w ∧ V G z v := by
  cases op <;> simp only [aInt] at h <;> first
    | (cases h; done)
    | (exact absurd rfl hop)
    | (exact absurd rfl hop')
    | (cases h; exact ⟨_, by simp [binOp, Op.intArith], .int _ _⟩)
    | (cases h; exact ⟨_, by simp only [binOp, ne_eq, not_true_eq_false, if_false, Op.intCmp, Sem.run_pure]; rfl, by
        have : ∀ b c : Bool, b = c → V G (.bool b) (.bool c) := fun b c e => by subst e; exact .bool b
        apply this
        first | rfl | (rw [Bool.eq_iff_iff]; simp)⟩)
    | (split at h
       · cases h
       · rename_i hy; cases h; exact ⟨_, by simp [binOp, Op.intDiv, hy], .int _ _⟩)

theorem aShift_run {op : BinOp} {k k' : IntKind} {x y : Int} {z : AV} (hop : op = .shl ∨ op = .shr) (h : aInt op k x y = some z) (t : TypeId) :
    ∃ v, (binOp op t (.int k x) (.int k' y)).run P w = .ok v w ∧ V G z v := by
  rcases hop with rfl | rfl <;> simp only [aInt] at h <;> (split at h) <;> first
    | (cases h; done)
    | (rename_i hy; cases h; exact ⟨_, by simp [binOp, Op.shift, hy], .int _ _⟩)

theorem aEq_run : ∀ (d : Nat) (t : TypeId) (x y : AV) (xv yv : Value) (b : Bool) (n : Nat), V G x xv → V G y yv → aEq P d t x y = some b → d ≤ n → (Op.equalIn n t xv yv).run P w = .ok b w := by
  intro d
  induction d with
  | zero => intro t x y xv yv b n _ _ h; simp [aEq] at h
  | succ d ih =>
    intro t x y xv yv b n hx hy h hn
    obtain ⟨n, rfl⟩ : ∃ m, n = m + 1 := ⟨n - 1, by omega⟩
    simp only [aEq] at h
    split at h
    · rename_i hu; cases h; cases hx; cases hy; simp [Op.equalIn, run_underlying hu]
    · rename_i hu
      split at h
      · rename_i hk; subst hk; cases h; cases hx; cases hy
        simp only [Op.equalIn, Sem.run_bind, run_underlying hu, Result.andThen_ok, if_true, Sem.run_pure]
        congr 1
      · cases h
    · rename_i hu; cases h; cases hx; cases hy
      simp [Op.equalIn, run_underlying hu, beq_toListBytes]
    · rename_i hu; cases h; cases hx; cases hy; simp [Op.equalIn, run_underlying hu]
    · rename_i hu; cases h; cases hx; cases hy; simp [Op.equalIn, run_underlying hu]
    · rename_i hu; cases h; cases hx; cases hy; simp [Op.equalIn, run_underlying hu]
    · rename_i hu; cases h; cases hx; cases hy; simp [Op.equalIn, run_underlying hu]
    · rename_i hu; cases h; cases hx; cases hy; simp [Op.equalIn, run_underlying hu]
    · rename_i hu; cases h; cases hx; cases hy; simp [Op.equalIn, run_underlying hu]
    · rename_i fs xs0 ys0 hu
      split at h
      · cases h
      · rename_i hst
        cases hx with
        | agg xs xvs hxl hxh =>
          cases hy with
          | agg ys yvs hyl hyh =>
            have hfo : P.fieldsOf t = fs := by simp [Program.fieldsOf, hu]
            rw [run_equalIn_struct w n t xvs yvs (by rw [hfo]; exact hu) (by simpa using hst), hfo]
            clear hu hfo
            generalize fs.toList = l at h
            induction l generalizing b with
            | nil => simp only [aEqFields] at h; cases h; simp [Op.eqFields]
            | cons f r ihl =>
              simp only [aEqFields] at h
              split at h
              · cases h
              · rename_i hname
                split at h
                case h_2 => cases h
                rename_i p q hp hq
                split at h
                case h_2 => cases h
                rename_i b1 b2 hb1 hb2
                cases h
                obtain ⟨pv, p1, p2⟩ := readT_part (P := P) (w := w) ⟨hxl, hxh⟩ hp
                obtain ⟨qv, q1, q2⟩ := readT_part (P := P) (w := w) ⟨hyl, hyh⟩ hq
                have e1 := ih f.type p q pv qv b1 n p2 q2 hb1 (by omega)
                have e2 := ihl b2 hb2
                simp only [Op.eqFields, ne_eq, hname, not_false_eq_true, if_true, Sem.run_bind, p1, q1, e1, Result.andThen_ok]
                cases b1
                · simp
                · simpa using e2
    · cases h

theorem run_eqGuard {op : BinOp} {t : TypeId} {x y : Operand} {xv yv : Value} (h : (∃ cs ds, xv = .agg cs ∧ yv = .agg ds ∧ P.eqGuardType P.depth t = false) ∨ (xv ≠ .nilIface ∧ ∀ cs, xv ≠ .agg cs)) :
    (eqGuard op t x y xv yv).run P w = .ok () w := by
  rcases h with ⟨cs, ds, rfl, rfl, hg⟩ | ⟨h1, h2⟩
  · cases op <;> simp [eqGuard, hg]
  · cases xv <;> first
      | exact absurd rfl h1
      | exact absurd rfl (h2 _)
      | (cases op <;> simp [eqGuard])

theorem V.not_nilIface {x : AV} {v : Value} (h : V G x v) (hx : x ≠ .any) : v ≠ .nilIface := by cases h <;> simp_all

theorem aBin_run {op : BinOp} {t : TypeId} {ox oy : Operand} {x y z : AV} {xv yv : Value} (hx : V G x xv) (hy : V G y yv) (h : aBin P op t x y = some z) :
    ∃ v, (do eqGuard op t ox oy xv yv; binOp op t xv yv : Sem Value).run P w = .ok v w ∧ V G z v := by
  have guard : ∀ {xv yv : Value}, (xv ≠ .nilIface ∧ ∀ cs, xv ≠ .agg cs) → ∀ {v : Value}, (binOp op t xv yv).run P w = .ok v w → (do eqGuard op t ox oy xv yv; binOp op t xv yv : Sem Value).run P w = .ok v w := by
    intro xv yv hg v hv
    rw [Sem.run_bind, run_eqGuard (.inr hg), Result.andThen_ok, hv]
  unfold aBin at h
  split at h
  · cases hx; cases hy
    split at h
    · obtain ⟨v, e1, e2⟩ := aShift_run (P := P) (G := G) (w := w) (.inl rfl) h t
      exact ⟨v, guard ⟨by simp, by simp⟩ e1, e2⟩
    · obtain ⟨v, e1, e2⟩ := aShift_run (P := P) (G := G) (w := w) (.inr rfl) h t
      exact ⟨v, guard ⟨by simp, by simp⟩ e1, e2⟩
    · rename_i h1 h2
      split at h
      · rename_i hk; subst hk
        obtain ⟨v, e1, e2⟩ := aInt_run (P := P) (G := G) (w := w) (fun e => h1 e) (fun e => h2 e) h t
        exact ⟨v, guard ⟨by simp, by simp⟩ e1, e2⟩
      · cases h
  · cases hx; cases hy
    have hb : ∀ {b c : Bool}, b = c → V G (.bool b) (.bool c) := fun e => by subst e; exact .bool _
    split at h
    · split at h
      · rename_i hsz
        cases h
        refine ⟨_, guard ⟨by simp, by simp⟩ ?_, .str _⟩
        unfold maxLen at hsz
        simp only [binOp, Op.stringOp]
        have hm : IntKind.i64.max = 9223372036854775807 := by decide
        rw [hm, if_neg (by omega)]
        rfl
      · cases h
    · cases h; exact ⟨_, guard ⟨by simp, by simp⟩ (by simp only [binOp, Op.stringOp]; rfl), .bool _⟩
    · cases h; exact ⟨_, guard ⟨by simp, by simp⟩ (by simp only [binOp, Op.stringOp]; rfl), .bool _⟩
    · cases h; exact ⟨_, guard ⟨by simp, by simp⟩ (by simp only [binOp, Op.stringOp]; rfl), .bool _⟩
    · cases h; exact ⟨_, guard ⟨by simp, by simp⟩ (by simp only [binOp, Op.stringOp]; rfl), .bool _⟩
    · cases h; exact ⟨_, guard ⟨by simp, by simp⟩ (by simp only [binOp, Op.stringOp]; rfl), .bool _⟩
    · cases h; exact ⟨_, guard ⟨by simp, by simp⟩ (by simp only [binOp, Op.stringOp]; rfl), .bool _⟩
    · cases h
  · rename_i n1 n2
    split at h
    · cases h
    · rename_i hg
      have main : ∀ b, aEq P 8 t x y = some b → (eqGuard op t ox oy xv yv).run P w = .ok () w ∧ (Op.equal t xv yv).run P w = .ok b w ∧
          (op = .eql → (binOp op t xv yv).run P w = .ok (.bool b) w) ∧ (op = .neq → (binOp op t xv yv).run P w = .ok (.bool !b) w) := by
        intro b hb
        have he : (Op.equal t xv yv).run P w = .ok b w := aEq_run 8 t x y xv yv b Op.maxDepth hx hy hb (by decide)
        have hsh : (∃ cs ds, xv = .agg cs ∧ yv = .agg ds) ∨ (xv ≠ .nilIface ∧ ∀ cs, xv ≠ .agg cs) := by
          simp only [aEq] at hb
          split at hb <;> first
            | (cases hb; done)
            | (cases hx; cases hy; exact .inl ⟨_, _, rfl, rfl⟩)
            | (cases hx; exact .inr ⟨by simp, by simp⟩)
        refine ⟨run_eqGuard ?_, he, fun e => ?_, fun e => ?_⟩
        · rcases hsh with ⟨cs, ds, e1, e2⟩ | h'
          · exact .inl ⟨cs, ds, e1, e2, by simpa using hg⟩
          · exact .inr h'
        · subst e
          simp only [aEq] at hb
          split at hb <;> first
            | (exact (n1 _ _ _ _ rfl rfl).elim)
            | (exact (n2 _ _ rfl rfl).elim)
            | (cases hb; done)
            | (cases hx; cases hy; simp only [binOp, Sem.run_bind, he, Result.andThen_ok, Sem.run_pure])
        · subst e
          simp only [aEq] at hb
          split at hb <;> first
            | (exact (n1 _ _ _ _ rfl rfl).elim)
            | (exact (n2 _ _ rfl rfl).elim)
            | (cases hb; done)
            | (cases hx; cases hy; simp only [binOp, Sem.run_bind, he, Result.andThen_ok, Sem.run_pure])
      split at h
      · split at h
        · rename_i b hb
          cases h
          obtain ⟨m1, m2, m3, m4⟩ := main b hb
          exact ⟨.bool b, by rw [Sem.run_bind, m1, Result.andThen_ok, m3 rfl], .bool _⟩
        · cases h
      · split at h
        · rename_i b hb
          cases h
          obtain ⟨m1, m2, m3, m4⟩ := main b hb
          exact ⟨.bool !b, by rw [Sem.run_bind, m1, Result.andThen_ok, m4 rfl], .bool _⟩
        · cases h
      · cases h

end
end Go.Am
