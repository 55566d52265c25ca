/-
  The logic AM, part 7: operations are carried out as 'aop' says: slices, append, copy, make, build.
  Own work. No Go text.
-/
import Derived.Test.YtpljabnngpnieaaAm6
import Derived.Laws.Append
namespace Go.Am
open Go.RowKit

section
variable {P : Program} {G : Ghost} {s s' : St} {w : World} {env : Env} {a : Act}

theorem aBound_run (he : VEnv G env a.tmps) {x : Option Operand} {d l : Nat} (h : aBound env x d = some l) :
    (x = none ∧ l = d) ∨ ∃ k n, x.map a.eval = some (.int k n) ∧ 0 ≤ n ∧ n.toNat = l := by
  unfold aBound at h
  split at h
  · cases h; exact .inl ⟨rfl, rfl⟩
  · rename_i o
    split at h
    · rename_i k n ho
      split at h
      · rename_i hn
        cases h
        have hv := oper_V he ho
        generalize hq : a.eval o = v at hv
        cases hv
        exact .inr ⟨k, n, by simp [hq], hn, rfl⟩
      · cases h
    · cases h

theorem run_bound {k : IntKind} {n : Int} {y : Nat} {c : BoundsCode} (h0 : 0 ≤ n) (hy : n.toNat ≤ y) (w : World) : (Instr.sliceBound (.int k n) y c).run P w = .ok n.toNat w := by
  have : n ≤ (y : Int) := by omega
  simp [Instr.sliceBound, asIntOf, h0, this]

/-- The three bounds of a slice. -/
theorem run_bounds (he : VEnv G env a.tmps) {lo hi mx : Option Operand} {isS : Bool} {len cap l h m : Nat} (hl : aBound env lo 0 = some l) (hh : aBound env hi len = some h)
    (hm : (mx = none ∧ m = cap) ∨ (mx.isSome = true ∧ hi.isSome = true ∧ aBound env mx cap = some m)) (h1 : l ≤ h) (h2 : h ≤ m) (h3 : m ≤ cap) (h4 : mx = none → h ≤ cap) :
    (Instr.sliceBounds isS len cap (lo.map a.eval) (hi.map a.eval) (mx.map a.eval)).run P w = .ok (l, h, m) w := by
  unfold Instr.sliceBounds
  rcases hm with ⟨rfl, rfl⟩ | ⟨m1, m2, m3⟩
  · rcases aBound_run he hl with ⟨rfl, rfl⟩ | ⟨k1, n1, e1, p1, rfl⟩ <;> rcases aBound_run he hh with ⟨rfl, rfl⟩ | ⟨k2, n2, e2, p2, rfl⟩
    · simp
    · simp [e2, run_bound p2 (h4 rfl)]
    · simp [e1, run_bound p1 h1]
    · simp [e1, e2, run_bound p1 h1, run_bound p2 (h4 rfl)]
  · rcases aBound_run he m3 with ⟨rfl, _⟩ | ⟨k3, n3, e3, p3, rfl⟩
    · cases m1
    · rcases aBound_run he hl with ⟨rfl, rfl⟩ | ⟨k1, n1, e1, p1, rfl⟩ <;> rcases aBound_run he hh with ⟨rfl, rfl⟩ | ⟨k2, n2, e2, p2, rfl⟩
      · cases m2
      · simp [e2, e3, run_bound p2 h2, run_bound p3 h3]
      · cases m2
      · simp [e1, e2, e3, run_bound p1 h1, run_bound p2 h2, run_bound p3 h3]

theorem flat_take {elems : List AV} (n : Nat) {x : AV} {esz : Nat} (hesz : ∀ e ∈ elems, e.cells.length = esz) (h0 : 0 < esz) {k l : Nat} (hx : (flat ((elems.take n).drop l))[k]? = some x) :
    (flat elems)[l * esz + k]? = some x := by
  have hes' : ∀ e ∈ (elems.take n).drop l, e.cells.length = esz := fun e he => hesz e (List.mem_of_mem_take (List.mem_of_mem_drop he))
  obtain ⟨e, he, hk⟩ := flat_inv hes' h0 hx
  rw [List.getElem?_drop, List.getElem?_take] at he
  split at he
  · have := flat_at hesz he _ _ hk
    rw [show (l + k / esz) * esz + k % esz = l * esz + k from by rw [Nat.add_mul, Nat.add_assoc]; congr 1; rw [Nat.mul_comm]; exact Nat.div_add_mod k esz] at this
    exact this
  · cases he

theorem fits_of {e : TypeId} {elems : List AV} {esz : Nat} (hf : ∀ y ∈ elems.head?, sizeT P e = some y.cells.length) (hesz : ∀ x ∈ elems, x.cells.length = esz) (hne : elems ≠ []) : sizeT P e = some esz := by
  cases elems with
  | nil => exact absurd rfl hne
  | cons x r => rw [hf x (by simp), hesz x (by simp)]

theorem slice_sl (hs : Sim G s w) (he : VEnv G env a.tmps) {t e : TypeId} {full full' : Bool} {elems : List AV} {pv : Value} (hp : V G (.sl full elems) pv) (hu : elemT P t = some e)
    {lo hi mx : Option Operand} {l h : Nat} (hl : aBound env lo 0 = some l) (hh : aBound env hi elems.length = some h) (h1 : l ≤ h) (h2 : h ≤ elems.length)
    (hf : ∀ y ∈ elems.head?, sizeT P e = some y.cells.length) (hsz : (sizeT P e).isSome = true)
    (hm : (mx = none ∧ full' = (full && h == elems.length)) ∨ ∃ m, mx.isSome = true ∧ hi.isSome = true ∧ (∀ d, aBound env mx d = some m) ∧ h ≤ m ∧ m ≤ elems.length ∧ full' = (m == h)) :
    Did P G s w (Instr.sliceAt t pv (lo.map a.eval) (hi.map a.eval) (mx.map a.eval)) (.sl full' ((elems.take h).drop l)) s := by
  obtain ⟨base, cap, rfl, hle, hfull, hb, hz⟩ := V.sl_inv hp
  obtain ⟨m, hbounds, hml, hmc, hfl⟩ : ∃ m, (Instr.sliceBounds true elems.length cap (lo.map a.eval) (hi.map a.eval) (mx.map a.eval)).run P w = .ok (l, h, m) w ∧ h ≤ m ∧ m ≤ cap ∧ (full' = true → m = h) := by
    rcases hm with ⟨rfl, rfl⟩ | ⟨m, m1, m2, m3, m4, m5, rfl⟩
    · refine ⟨cap, run_bounds he hl hh (.inl ⟨rfl, rfl⟩) h1 (by omega) (Nat.le_refl _) (fun _ => by omega), by omega, Nat.le_refl _, fun e => ?_⟩
      simp only [Bool.and_eq_true, beq_iff_eq] at e
      rw [hfull e.1, e.2]
    · exact ⟨m, run_bounds he hl hh (.inr ⟨m1, m2, m3 _⟩) h1 m4 (by omega) (fun e => by subst e; cases m1), m4, by omega, fun e => by simpa using e⟩
  have hlen : ((elems.take h).drop l).length = h - l := by simp; omega
  cases hq : sizeT P e with
  | none => rw [hq] at hsz; cases hsz
  | some sz =>
    have run : (Instr.sliceAt t (.slice base elems.length cap) (lo.map a.eval) (hi.map a.eval) (mx.map a.eval)).run P w =
        .ok (.slice (if m = l then base else base.map (·.add (l * sz))) (h - l) (m - l)) w := by
      simp [Instr.sliceAt, Instr.slice, run_underlying (elemT_u hu), hbounds, run_sizeT hq]
    refine did_pure hs run ?_
    by_cases hne : h = l
    · subst hne
      have : (elems.take h).drop h = [] := List.eq_nil_of_length_eq_zero (by omega)
      rw [this, Nat.sub_self]
      exact .slnil _ _ _ (fun e => by have := hfl e; omega) (fun e => by
        split at e
        · omega
        · cases base with
          | none => have := hb rfl; omega
          | some a => cases e)
    · rcases hz with rfl | ⟨b, off, esz, val, rfl, hesz, hsc, himm, hV⟩
      · simp at h2; omega
      · have hne' : elems ≠ [] := fun e => by subst e; simp at h2; omega
        have hsz' := fits_of hf hesz hne'
        rw [hq] at hsz'; cases hsz'
        rw [if_neg (by omega), ← hlen]
        have h0 : 0 < sz ∨ sz = 0 := by omega
        simp only [Option.map_some, add_at]
        refine .sl _ _ b _ sz _ (fun k => val (l * sz + k)) (by rw [hlen]; omega) (fun e => by rw [hlen, hfl e]) (fun x hx => hesz x (List.mem_of_mem_take (List.mem_of_mem_drop hx)))
          (fun x hx => hsc x (by
            rw [flat, List.mem_flatMap] at hx ⊢
            obtain ⟨y, hy, hx⟩ := hx
            exact ⟨y, List.mem_of_mem_take (List.mem_of_mem_drop hy), hx⟩)) (fun k hk => ?_) fun k x hx => ?_
        · rw [Nat.add_assoc]
          refine himm _ ?_
          rw [hlen] at hk
          have : l * sz + (h - l) * sz ≤ elems.length * sz := by rw [← Nat.add_mul]; exact Nat.mul_le_mul_right _ (by omega)
          omega
        · rcases h0 with h0 | h0
          · exact hV _ x (flat_take h hesz h0 hx)
          · exfalso
            have : (flat ((elems.take h).drop l)).length = 0 := by
              rw [flat_length (esz := sz) fun x hx => hesz x (List.mem_of_mem_take (List.mem_of_mem_drop hx)), h0]; simp
            rw [List.eq_nil_of_length_eq_zero this] at hx
            simp at hx

theorem slice_did (hs : Sim G s w) (he : VEnv G env a.tmps) {t : TypeId} {p x : AV} {pv : Value} {lo hi mx : Option Operand} (hp : V G p pv) (h : aSlice P t p env lo hi mx s = some x) :
    Did P G s w (Instr.sliceAt t pv (lo.map a.eval) (hi.map a.eval) (mx.map a.eval)) x s := by
  unfold aSlice at h
  split at h
  · rename_i b
    split at h
    case isFalse => cases h
    rename_i hc
    split at h
    case h_2 => cases h
    rename_i l h' hl hh
    split at h
    case isFalse => cases h
    rename_i hlh
    cases h
    cases hp
    obtain ⟨hc1, hc2⟩ := hc
    cases mx with
    | some _ => cases hc2
    | none =>
      have hb := run_bounds (P := P) (w := w) (isS := false) (cap := b.size) he hl hh (.inl ⟨rfl, rfl⟩) hlh.1 hlh.2 (Nat.le_refl _) (fun _ => hlh.2)
      refine did_pure hs (v := .string (b.extract l h')) ?_ (.str _)
      simp only [Option.map_none] at hb
      simp [Instr.sliceAt, Instr.slice, run_underlying (strT_u hc1), hb]
  · rename_i full elems
    split at h
    case h_2 => cases h
    rename_i e hu
    split at h
    · rename_i l h' hl hh
      split at h
      case isFalse => cases h
      rename_i hc
      cases h
      exact slice_sl hs he hp hu hl hh hc.1 hc.2.1 hc.2.2.1 hc.2.2.2 (.inl ⟨rfl, rfl⟩)
    · rename_i l h' m0 hl hh
      split at h
      case h_2 => cases h
      rename_i m hm
      split at h
      case isFalse => cases h
      rename_i hc
      cases h
      exact slice_sl hs he hp hu hl hh hc.1 (by omega) hc.2.2.2.2.1 hc.2.2.2.2.2 (.inr ⟨m, rfl, hc.2.2.2.1, fun d => by simpa [aBound] using hm, hc.2.1, hc.2.2.1, rfl⟩)
    · cases h
  · rename_i id start len
    split at h
    case h_2 => cases h
    rename_i e hu
    split at h
    case h_2 => cases h
    rename_i esz elems hg
    have main : ∀ {l h' : Nat}, aBound env lo 0 = some l → aBound env hi len = some h' → l ≤ h' → h' ≤ len → sizeT P e = some esz →
        ((mx = none) ∨ ∃ m, mx.isSome = true ∧ hi.isSome = true ∧ (∀ d, aBound env mx d = some m) ∧ h' ≤ m ∧ m ≤ len) →
        Did P G s w (Instr.sliceAt t pv (lo.map a.eval) (hi.map a.eval) (mx.map a.eval)) (.ms id (start + l) (h' - l)) s := by
      intro l h' hl hh h1 h2 hsz hm
      cases hp with
      | msnil _ _ cap base hc =>
        subst hc
        obtain rfl : h' = 0 := by omega
        obtain rfl : l = 0 := by omega
        have hbounds : (Instr.sliceBounds true 0 0 (lo.map a.eval) (hi.map a.eval) (mx.map a.eval)).run P w = .ok (0, 0, 0) w := by
          rcases hm with rfl | ⟨m, m1, m2, m3, m4, m5⟩
          · exact run_bounds he hl hh (.inl ⟨rfl, rfl⟩) h1 (Nat.le_refl _) (Nat.le_refl _) (fun _ => Nat.le_refl _)
          · obtain rfl : m = 0 := by omega
            exact run_bounds he hl hh (.inr ⟨m1, m2, m3 _⟩) h1 m4 (Nat.le_refl _) (fun e => by subst e; cases m1)
        exact did_pure hs (v := .slice base 0 0) (by simp [Instr.sliceAt, Instr.slice, run_underlying (elemT_u hu), hbounds, run_sizeT hsz]) (.msnil _ _ _ _ rfl)
      | ms _ _ _ cap r addr ho hle hin haddr =>
        obtain ⟨o, e2, e3⟩ := hs.at hg ho
        cases e3 with
        | cells _ _ cs ty hcs hesz h0 hel hsc hin' hV =>
          obtain ⟨m, hbounds, hml, hmc⟩ : ∃ m, (Instr.sliceBounds true len cap (lo.map a.eval) (hi.map a.eval) (mx.map a.eval)).run P w = .ok (l, h', m) w ∧ h' ≤ m ∧ m ≤ cap := by
            rcases hm with rfl | ⟨m, m1, m2, m3, m4, m5⟩
            · exact ⟨cap, run_bounds he hl hh (.inl ⟨rfl, rfl⟩) h1 (by omega) (Nat.le_refl _) (fun _ => by omega), by omega, Nat.le_refl _⟩
            · exact ⟨m, run_bounds he hl hh (.inr ⟨m1, m2, m3 _⟩) h1 m4 (by omega) (fun e => by subst e; cases m1), m4, by omega⟩
          subst hesz
          have run : (Instr.sliceAt t (.slice (some ⟨r.block, addr, none⟩) len cap) (lo.map a.eval) (hi.map a.eval) (mx.map a.eval)).run P w =
              .ok (.slice (some ⟨r.block, if m = l then addr else addr + l * r.esz, none⟩) (h' - l) (m - l)) w := by
            simp [Instr.sliceAt, Instr.slice, run_underlying (elemT_u hu), hbounds, run_sizeT hsz, add_at]
            split <;> rfl
          refine did_pure hs run (.ms _ _ _ _ r _ ho (by omega) ?_ fun hpos => ?_)
          · refine Nat.le_trans ?_ hin
            exact Nat.add_le_add_left (Nat.mul_le_mul_right _ (by omega)) _
          · rw [if_neg (by omega), haddr (by omega), Nat.add_mul, Nat.add_assoc]
    split at h
    · rename_i l h' hl hh
      split at h
      case isFalse => cases h
      rename_i hc
      cases h
      exact main hl hh hc.1 hc.2.1 hc.2.2 (.inl rfl)
    · rename_i l h' m0 hl hh
      split at h
      case h_2 => cases h
      rename_i m hm
      split at h
      case isFalse => cases h
      rename_i hc
      cases h
      exact main hl hh hc.1 (by omega) hc.2.2.2.2 (.inr ⟨m, rfl, hc.2.2.2.1, fun d => by simpa [aBound] using hm, hc.2.1, hc.2.2.1⟩)
    · cases h
  · rename_i id start len cap
    split at h
    case h_2 => cases h
    rename_i e hu
    split at h
    case h_2 => cases h
    rename_i esz elems hg
    split at h
    case h_2 => cases h
    rename_i l h' hl hh
    split at h
    case isFalse => cases h
    rename_i hc
    obtain ⟨h1, h2, hsz⟩ := hc
    cases h
    cases hp with
    | mcnil _ _ base =>
      obtain rfl : h' = 0 := by omega
      obtain rfl : l = 0 := by omega
      have hbounds := run_bounds (P := P) (w := w) (isS := true) (len := 0) (cap := 0) (mx := none) he hl hh (.inl ⟨rfl, rfl⟩) h1 (Nat.le_refl _) (Nat.le_refl _) (fun _ => Nat.le_refl _)
      simp only [Option.map_none] at hbounds
      exact did_pure hs (v := .slice base 0 0) (by simp [Instr.sliceAt, Instr.slice, run_underlying (elemT_u hu), hbounds, run_sizeT hsz]) (.mcnil _ _ _)
    | mc _ _ _ _ r addr ho hle hin haddr =>
      obtain ⟨o, e2, e3⟩ := hs.at hg ho
      cases e3 with
      | cells _ _ cs ty hcs hesz h0 hel hsc hin' hV =>
        have hbounds := run_bounds (P := P) (w := w) (isS := true) (len := len) (cap := cap) (mx := none) he hl hh (.inl ⟨rfl, rfl⟩) h1 h2 (Nat.le_refl _) (fun _ => h2)
        simp only [Option.map_none] at hbounds
        subst hesz
        have run : (Instr.sliceAt t (.slice (some ⟨r.block, addr, none⟩) len cap) (lo.map a.eval) (hi.map a.eval) none).run P w =
            .ok (.slice (some ⟨r.block, if cap = l then addr else addr + l * r.esz, none⟩) (h' - l) (cap - l)) w := by
          simp [Instr.sliceAt, Instr.slice, run_underlying (elemT_u hu), hbounds, run_sizeT hsz, add_at]
          split <;> rfl
        refine did_pure hs run (.mc _ _ _ _ r _ ho (by omega) ?_ fun hpos => ?_)
        · refine Nat.le_trans ?_ hin
          exact Nat.add_le_add_left (Nat.mul_le_mul_right _ (by omega)) _
        · rw [if_neg (by omega), haddr (by omega), Nat.add_mul, Nat.add_assoc]
  · cases h

end
end Go.Am
