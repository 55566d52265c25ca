/-
  The logic AM, part 6: operations are carried out as 'aop' says: stores, addresses, slices, appending.
  Own work. No Go text.
-/
import Derived.Test.YtpljabnngpnieaaAm5
namespace Go.Am
open Go.RowKit

section
variable {P : Program} {G : Ghost} {s s' : St} {w : World}

theorem scal_of_all {l : List AV} (h : l.all AV.scalar = true) : ∀ x ∈ l, x.scalar = true := by simpa using h

theorem not_any {x : AV} (h : x.cells.all AV.scalar = true) : x ≠ .any := fun e => by subst e; simp [AV.cells, AV.scalar] at h

theorem VL.oneCells {cs : List AV} {vs : Array Value} (h : VL G cs vs) (hs : ∀ x ∈ cs, x.scalar = true) : ∀ v ∈ vs.toList, v.oneCell' = true := by
  intro v hv
  obtain ⟨i, hi, rfl⟩ := List.getElem_of_mem hv
  have hi' : i < cs.length := by rw [h.1]; simpa using hi
  exact (h.2 i cs[i] _ (List.getElem?_eq_getElem hi') (by simp)).oneCell (hs _ (List.getElem_mem hi'))

theorem div_mod_lt {k e m : Nat} (h0 : 0 < m) (h : k / m = e) : e * m ≤ k ∧ k < e * m + m ∧ k % m = k - e * m := by
  subst h
  have h1 := Nat.div_add_mod k m
  have h2 := Nat.mod_lt k h0
  rw [Nat.mul_comm] at h1
  omega

theorem set_elem {elems : List AV} {el : Nat} {e : AV} (y : AV) {i : Nat} {z : AV} (he : elems[el]? = some e) (h : (elems.set el y)[i]? = some z) : (i = el ∧ z = y) ∨ (i ≠ el ∧ elems[i]? = some z) := by
  rw [List.getElem?_set] at h
  have hl := (List.getElem?_eq_some_iff.1 he).1
  split at h
  · rename_i hi
    subst hi
    cases h; exact .inl ⟨rfl, rfl⟩
  · rename_i hi
    exact .inr ⟨fun e => hi e.symm, h⟩

theorem store_did (hs : Sim G s w) {t : TypeId} {p x : AV} {pv v : Value} (hp : V G p pv) (hx : V G x v) (h : aStore P t p x s = some s') :
    ∃ w', (Instr.storeAt t pv v).run P w = .ok () w' ∧ Sim G s' w' ∧ Ext G s w G s' w' := by
  unfold aStore at h
  split at h
  case h_2 => cases h
  rename_i id el off
  split at h
  case h_2 => cases h
  rename_i esz elems hg
  split at h
  case h_2 => cases h
  rename_i e he
  split at h
  case isFalse => cases h
  rename_i hc
  obtain ⟨hsz, hle, hall⟩ := hc
  cases h
  cases hp with
  | mp _ _ _ r ho =>
    have hl := VL.cells hx (not_any hall)
    have hsc0 := scal_of_all hall
    obtain ⟨o, e2, e3⟩ := hs.at hg ho
    cases e3 with
    | cells _ _ cs ty hcs hesz h0 hel hsc hin hV =>
      have helt : el < elems.length := (List.getElem?_eq_some_iff.1 he).1
      have hecl : e.cells.length = esz := hel e (List.mem_of_getElem? he)
      have hmul : (el + 1) * esz ≤ elems.length * esz := Nat.mul_le_mul_right _ helt
      rw [Nat.add_mul] at hmul
      have hlen : v.cells.toList.length = x.cells.length := by simp [hl.1]
      have hfit : r.base + el * esz + off + 0 + v.cells.toList.length ≤ cs.size := by rw [hlen, hcs]; omega
      have hrun := run_storeCells_at P r.block (r.base + el * esz + off) ty v.cells.toList 0 cs w e2 hfit (hl.oneCells hsc0)
      simp only [Nat.add_zero] at hrun hfit
      have hsp : (splice e.cells off x.cells).length = e.cells.length := splice_length _ _ _ (by omega)
      have hspsc : ∀ z ∈ splice e.cells off x.cells, z.scalar = true := by
        intro z hz
        simp only [splice, List.mem_append] at hz
        have hec : ∀ z ∈ e.cells, z.scalar = true := fun z hz => hsc z (by rw [flat, List.mem_flatMap]; exact ⟨e, List.mem_of_getElem? he, hz⟩)
        rcases hz with hz | hz | hz
        · exact hec z (List.mem_of_mem_take hz)
        · exact hsc0 z hz
        · exact hec z (List.mem_of_mem_drop hz)
      have hre := reElem_cells e (splice e.cells off x.cells) hsp hspsc
      have hel' : ∀ y ∈ elems.set el (reElem e (splice e.cells off x.cells)), y.cells.length = esz := by
        intro y hy
        rcases List.mem_or_eq_of_mem_set hy with hy | rfl
        · exact hel y hy
        · rw [hre, hsp, hecl]
      have hgetNew : ∀ k z, (flat (elems.set el (reElem e (splice e.cells off x.cells))))[k]? = some z →
          ∃ u, ((cs.toList.take (r.base + el * esz + off) ++ v.cells.toList ++ cs.toList.drop (r.base + el * esz + off + v.cells.toList.length)).toArray)[r.base + k]? = some u ∧ V G z u := by
        intro k z hz
        obtain ⟨y, hy, hyz⟩ := flat_inv hel' h0 hz
        rw [array_mid_get _ _ _ _ hfit, hlen]
        rcases set_elem _ he hy with ⟨hi, rfl⟩ | ⟨hi, hy'⟩
        · obtain ⟨m1, m2, m3⟩ := div_mod_lt h0 hi
          rw [hre, list_splice_get _ _ _ _ (by omega), m3] at hyz
          by_cases c1 : r.base + k < r.base + el * esz + off
          · rw [if_pos c1]
            rw [if_pos (by omega)] at hyz
            have := flat_at hel he (k - el * esz) z hyz
            rw [show el * esz + (k - el * esz) = k from by omega] at this
            exact hV k z this
          · rw [if_neg c1]
            rw [if_neg (by omega)] at hyz
            by_cases c2 : r.base + k < r.base + el * esz + off + x.cells.length
            · rw [if_pos c2]
              rw [if_pos (by omega)] at hyz
              obtain ⟨u, e1, e2⟩ := hl.get hyz
              refine ⟨u, ?_, e2⟩
              rw [show r.base + k - (r.base + el * esz + off) = k - el * esz - off from by omega]
              simpa using e1
            · rw [if_neg c2]
              rw [if_neg (by omega)] at hyz
              have := flat_at hel he (k - el * esz) z hyz
              rw [show el * esz + (k - el * esz) = k from by omega] at this
              exact hV k z this
        · have hk := flat_at hel hy' (k % esz) z hyz
          rw [Nat.mul_comm, Nat.div_add_mod] at hk
          have hne : ¬ (el * esz + off ≤ k ∧ k < el * esz + off + x.cells.length) := fun ⟨a, b⟩ => hi (by
            have : k / esz = el := Nat.div_eq_of_lt_le (by omega) (by rw [Nat.add_mul]; omega)
            exact this)
          by_cases c1 : r.base + k < r.base + el * esz + off
          · rw [if_pos c1]; exact hV k z hk
          · rw [if_neg c1, if_neg (by omega)]; exact hV k z hk
      have hscNew : ∀ z ∈ flat (elems.set el (reElem e (splice e.cells off x.cells))), z.scalar = true := by
        intro z hz
        rw [flat, List.mem_flatMap] at hz
        obtain ⟨y, hy, hz⟩ := hz
        rcases List.mem_or_eq_of_mem_set hy with hy | rfl
        · exact hsc z (by rw [flat, List.mem_flatMap]; exact ⟨y, hy, hz⟩)
        · rw [hre] at hz; exact hspsc z hz
      obtain ⟨q1, q2⟩ := turn_row hs hg ho e2 (cs' := (cs.toList.take (r.base + el * esz + off) ++ v.cells.toList ++ cs.toList.drop (r.base + el * esz + off + v.cells.toList.length)).toArray)
        (by simp only [List.size_toArray, List.length_append, List.length_take, List.length_drop, Array.length_toList] at hfit ⊢; omega) hesz h0 hel' hscNew (by simpa using hin) hgetNew
      refine ⟨_, ?_, q1, q2⟩
      subst hesz
      have hsz2 : (sizeOf t).run P w = .ok v.cells.size w := by rw [run_sizeT hsz, hl.1]
      simp [Instr.storeAt, Instr.sureAddr, storeVar, hsz2, hrun]

/-! ### Addresses -/

theorem fieldAddr_did {t : TypeId} {p x : AV} {i : Nat} {pv : Value} (hs : Sim G s w) (hp : V G p pv) (h : aField P t p i = some x) : Did P G s w (Instr.fieldAt t pv i) x s := by
  unfold aField at h
  split at h
  case h_2 => cases h
  rename_i off n hf
  obtain ⟨fs, f, hu, hfi, hoff, hn⟩ := fieldT_u hf
  split at h
  · cases h
  · rename_i hn0
    have run : ∀ b o, pv = .pointer (some ⟨b, o, none⟩) → (Instr.fieldAt t pv i).run P w = .ok (.pointer (some ⟨b, o + off, none⟩)) w := fun b o e => by
      subst e
      simp [Instr.fieldAt, run_underlying hu, hfi, Instr.sureAddr, fieldPlace, run_sizeT hn, hn0, add_at, hoff]
    split at h
    · cases h
      cases hp with
      | mp id el o r ho => exact did_pure hs (run _ _ rfl) (by rw [Nat.add_assoc]; exact .mp _ _ _ r ho)
    · cases h
      cases hp with
      | ip cells b o val himm hV =>
        refine did_pure hs (run _ _ rfl) (.ip _ b (o + off) (fun k => val (off + k)) (fun k hk => ?_) fun k x hx => ?_)
        · rw [Nat.add_assoc]; exact himm _ (by simp at hk; omega)
        · rw [List.getElem?_drop] at hx; exact hV _ x hx
    · cases h

theorem field_did {t : TypeId} {p x : AV} {i : Nat} {pv : Value} (hs : Sim G s w) (hp : V G p pv) (h : aFieldV P t p i = some x) : Did P G s w (Instr.field t pv i) x s := by
  unfold aFieldV at h
  split at h
  case h_2 => cases h
  rename_i off n ft hf hft
  obtain ⟨fs, f, hu, hfi, hoff, hn⟩ := fieldT_u hf
  have hft' : f.type = ft := by
    unfold ftypeT at hft
    rw [hu] at hft
    simp [hfi] at hft
    exact hft
  unfold aPart at h
  split at h
  case h_2 => cases h
  rename_i cs
  cases hp with
  | agg _ vs hlen hh =>
    subst hoff; subst hft'
    obtain ⟨v, e1, e2⟩ := readT_part (P := P) (w := w) ⟨hlen, hh⟩ h
    exact did_pure hs (by simp [Instr.field, run_underlying hu, hfi, asAgg, e1]) e2

theorem V.sl_inv {full : Bool} {elems : List AV} {v : Value} (h : V G (.sl full elems) v) : ∃ base cap, v = .slice base elems.length cap ∧ elems.length ≤ cap ∧ (full = true → cap = elems.length) ∧
    (base = none → cap = 0) ∧ (elems = [] ∨ ∃ (b off esz : Nat) (val : Nat → Value), base = some ⟨b, off, none⟩ ∧ (∀ e ∈ elems, e.cells.length = esz) ∧ (∀ x ∈ flat elems, x.scalar = true) ∧
      (∀ k, k < elems.length * esz → G.imm b (off + k) = some (val k)) ∧ ∀ k x, (flat elems)[k]? = some x → V G x (val k)) := by
  cases h with
  | slnil full base cap hf hb => exact ⟨base, cap, rfl, Nat.zero_le _, fun e => hf e, hb, .inl rfl⟩
  | sl _ _ b off esz cap val hcap hfull hesz hsc himm hV => exact ⟨_, cap, rfl, hcap, hfull, (fun e => by cases e), .inr ⟨b, off, esz, val, rfl, hesz, hsc, himm, hV⟩⟩

/-- The elements of an immutable slice lie one behind the other. -/
theorem imm_there (hs : Sim G s w) {elems : List AV} {b off esz : Nat} {val : Nat → Value} (hesz : ∀ e ∈ elems, e.cells.length = esz) (himm : ∀ k, k < elems.length * esz → G.imm b (off + k) = some (val k))
    (hV : ∀ k x, (flat elems)[k]? = some x → V G x (val k)) : There G w b off (flat elems) := fun k x hx => by
  have hk : k < elems.length * esz := by rw [← flat_length hesz]; exact (List.getElem?_eq_some_iff.1 hx).1
  exact ⟨val k, hs.imm _ _ _ (himm k hk), hV k x hx⟩

theorem indexAddr_did {t : TypeId} {p i x : AV} {pv iv : Value} (hs : Sim G s w) (hp : V G p pv) (hi : V G i iv) (h : aIndexAddr P t p i s = some x) : Did P G s w (Instr.indexAt t pv iv) x s := by
  unfold aIndexAddr at h
  split at h
  case h_2 => cases h
  rename_i kd n
  cases hi
  split at h
  · rename_i e he
    have hu := elemT_u he
    split at h
    · rename_i full elems
      split at h
      case isFalse => cases h
      rename_i hn
      split at h
      case h_2 => cases h
      rename_i y hy
      split at h
      case isFalse => cases h
      rename_i hsz
      cases h
      obtain ⟨base, cap, rfl, hle, _, _, hz⟩ := V.sl_inv hp
      have hlt : n.toNat < elems.length := (List.getElem?_eq_some_iff.1 hy).1
      rcases hz with rfl | ⟨b, off, esz, val, rfl, hesz, _, himm, hV⟩
      · simp at hy
      · have hye : y.cells.length = esz := hesz y (List.mem_of_getElem? hy)
        have hnl : n < (elems.length : Int) := by omega
        have hmul : (n.toNat + 1) * esz ≤ elems.length * esz := Nat.mul_le_mul_right _ hlt
        rw [Nat.add_mul] at hmul
        refine did_pure hs (v := .pointer (some ⟨b, off + n.toNat * esz, none⟩)) ?_ (.ip _ _ _ (fun k => val (n.toNat * esz + k)) (fun k hk => ?_) fun k z hz => ?_)
        · rw [hye] at hsz
          simp [Instr.indexAt, asIntOf, run_underlying hu, hn, hnl, run_sizeT hsz, add_at]
        · rw [Nat.add_assoc]; exact himm _ (by omega)
        · exact hV _ z (flat_at hesz hy k z hz)
    · rename_i id start len
      split at h
      case h_2 => cases h
      rename_i esz elems hg
      split at h
      case isFalse => cases h
      rename_i hc
      obtain ⟨h1, h2, h3⟩ := hc
      cases h
      cases hp with
      | msnil _ _ _ _ _ => omega
      | ms _ _ _ cap r addr ho hle hin haddr =>
        obtain ⟨o, e2, e3⟩ := hs.at hg ho
        cases e3 with
        | cells _ _ cs ty hcs hesz h0 hel hsc hin' hV =>
          have hcap : 0 < cap := by omega
          rw [haddr hcap]
          refine did_pure hs (v := .pointer (some ⟨r.block, r.base + (start + n.toNat) * r.esz + 0, none⟩)) ?_ (.mp _ _ _ r ho)
          subst hesz
          simp [Instr.indexAt, asIntOf, run_underlying hu, h1, h2, run_sizeT h3, add_at, Nat.add_mul, Nat.add_assoc]
    · cases h
  · split at h
    case h_2 => cases h
    rename_i m e he
    have hu := arrT_u he
    split at h
    case h_2 => cases h
    rename_i sz hsz
    split at h
    case isFalse => cases h
    rename_i hc
    obtain ⟨h1, h2⟩ := hc
    have run : ∀ b o, pv = .pointer (some ⟨b, o, none⟩) → (Instr.indexAt t pv (.int kd n)).run P w = .ok (.pointer (some ⟨b, o + n.toNat * sz, none⟩)) w := fun b o e => by
      subst e
      simp [Instr.indexAt, asIntOf, run_underlying hu, Instr.sureAddr, h1, h2, run_sizeT hsz, add_at]
    split at h
    · cases h
      cases hp with
      | mp id el o r ho => exact did_pure hs (run _ _ rfl) (by rw [Nat.add_assoc]; exact .mp _ _ _ r ho)
    · cases h
      cases hp with
      | ip cells b o val himm hV =>
        refine did_pure hs (run _ _ rfl) (.ip _ b _ (fun k => val (n.toNat * sz + k)) (fun k hk => ?_) fun k x hx => ?_)
        · rw [Nat.add_assoc]; exact himm _ (by simp at hk; omega)
        · rw [List.getElem?_drop] at hx; exact hV _ x hx
    · cases h

theorem index_did {t : TypeId} {p i x : AV} {pv iv : Value} (hs : Sim G s w) (hp : V G p pv) (hi : V G i iv) (h : aIndex P t p i = some x) : Did P G s w (Instr.index t pv iv) x s := by
  unfold aIndex at h
  split at h
  case h_2 => cases h
  rename_i kd n
  cases hi
  split at h
  · rename_i b
    split at h
    case isFalse => cases h
    rename_i hc
    split at h
    case h_2 => cases h
    rename_i c hb
    cases h
    cases hp
    exact did_pure hs (by simp [Instr.index, asIntOf, run_underlying (strT_u hc.1), hc.2, hb]) (.int _ _)
  · rename_i cs
    split at h
    case h_2 => cases h
    rename_i m e he
    have hu := arrT_u he
    split at h
    case h_2 => cases h
    rename_i sz hsz
    split at h
    case isFalse => cases h
    rename_i hc
    cases hp with
    | agg _ vs hlen hh =>
      obtain ⟨v, e1, e2⟩ := readT_part (P := P) (w := w) ⟨hlen, hh⟩ h
      exact did_pure hs (by simp [Instr.index, asIntOf, run_underlying hu, hc, run_sizeT hsz, e1]) e2
  · cases h

end
end Go.Am
