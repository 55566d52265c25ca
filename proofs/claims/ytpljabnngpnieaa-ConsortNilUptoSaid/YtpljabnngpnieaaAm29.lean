/-
  The logic AM, part 29: the capacity of a slice made known; slices.overlaps.
  Own work. No Go text.
-/
import Derived.Test.YtpljabnngpnieaaAm28
import Derived.Laws.Externs
namespace Go.Am
open Go.RowKit

theorem acalls_cap {P : Program} {f : FuncId} {id n : Nat} {args : List AV} {s : St} {Q : AV → St → Prop} (h : ∀ c, n ≤ c → ACalls P f (.mc id 0 n c :: args) s Q) : ACalls P f (.ms id 0 n :: args) s Q := fun G w vs hs hv => by
  have h0 : 0 < vs.size := by rw [← hv.1]; simp
  have hx := hv.2 0 _ _ rfl (Array.getElem?_eq_getElem h0)
  have turn : ∀ c, V G (.mc id 0 n c) vs[0] → VL G (.mc id 0 n c :: args) vs := fun c hc => ⟨by simpa using hv.1, fun i x y hi hy => by
    cases i with
    | zero => simp at hi; subst hi; rw [Array.getElem?_eq_getElem h0] at hy; cases hy; exact hc
    | succ i => exact hv.2 (i + 1) x y (by simpa using hi) hy⟩
  generalize vs[0] = v at hx turn
  cases hx with
  | ms _ _ _ cap r addr ho hle hin ha => exact h cap hle G w vs hs (turn cap (.mc _ _ _ _ r addr ho hle hin ha))
  | msnil _ _ cap base hc => subst hc; exact h 0 (Nat.le_refl _) G w vs hs (turn 0 (.mcnil _ _ _))

section
variable {α : Type}
theorem copyEq (l l' : List α) (a b n k : Nat) (e : α → AV) : (l.map e).take a ++ (((l'.map e).drop b).take n ++ (l.map e).drop k) = (l.take a ++ ((l'.drop b).take n ++ l.drop k)).map e := by simp [List.map_take, List.map_drop]
theorem copyEqS (l v : List α) (a n k : Nat) (e : α → AV) : (l.map e).take a ++ ((v.map e).take n ++ (l.map e).drop k) = (l.take a ++ (v.take n ++ l.drop k)).map e := by simp [List.map_take, List.map_drop]
theorem copyMin (v : List α) (n : Nat) (e : α → AV) : min (v.map e).length n = min v.length n := by simp
theorem zAppLen (l : List α) (a n m : Nat) (z : α) (h : a + n ≤ l.length) : n + m = ((l.drop a).take n ++ List.replicate m z).length := by simp; omega
theorem zAppEq (l : List α) (a n m : Nat) (z : α) (e : α → AV) : ((l.map e).drop a).take n ++ List.replicate m (e z) = ((l.drop a).take n ++ List.replicate m z).map e := by simp [List.map_take, List.map_drop]
end

/-- slices.overlaps at an immutable slice and a block of one's own. -/
theorem ext_overlaps {P : Program} {f : FuncId} {fn : Func} {tS tR e : TypeId} (hf : P.funcs[f]? = some fn) (hname : (fn.name == "runtime.NumGoroutine") = false) (hb : fn.body.isNone = true) (hn : Extern.findNext fn = none)
    (he : Extern.find fn = some (Extern.SlicesOverlaps.overlaps #[tS, tS] #[tR])) (ht : elemT P tS = some e) {sz : Nat} (hz : sizeT P e = some sz) (s : St) (b : Bool) (l : List AV) (hfit : fits P e l) (id st n c esz : Nat) (elems : List AV) (hg : eget s.heap id = some (.cells esz elems)) :
    AExt P f [.sl b l, .mc id st n c] s (.bool false) := fun G w vs hs hv => by
  obtain ⟨v0, v1, rfl⟩ : ∃ v0 v1, vs = #[v0, v1] := by
    obtain ⟨vs⟩ := vs
    match vs, hv.1 with
    | [v0, v1], _ => exact ⟨v0, v1, rfl⟩
  have h0 := hv.2 0 _ _ rfl rfl
  have h1 := hv.2 1 _ _ rfl rfl
  refine ⟨.bool false, ?_, .bool false⟩
  rw [run_callFunc_extern hf hname hb hn he]
  suffices q : (Extern.SlicesOverlaps.overlaps #[tS, tS] #[tR] #[v0, v1]).run P w = .ok (.bool false) w by rw [q]; rfl
  obtain ⟨base, cap, rfl, hle, _, _, hz0⟩ := V.sl_inv h0
  have run : ∀ (A B : Option Addr) (la ca lb cb : Nat), (Extern.SlicesOverlaps.overlaps #[tS, tS] #[tR] #[.slice A la ca, .slice B lb cb]).run P w = (Sem.run P (α := Value) (do
      match A, B with
      | some a, some b =>
        if la = 0 ∨ lb = 0 ∨ sz = 0 then pure (Value.bool false)
        else if a.block != b.block && (← frozen a) && (← frozen b) then unsupported .addressObserved
        else do
          if a.block != b.block then do
            noView a; noView b
            if ← mayBeOne a b then return Value.bool ((← choose (.extern "sameAddr.stringBytes" 2)) == 1)
          pure (Value.bool (a.block == b.block && a.off < b.off + lb * sz && b.off < a.off + la * sz))
      | _, _ => pure (Value.bool false)) w) := fun A B la ca lb cb => by
    change Sem.run P (α := Value) (do
      let some t := (#[tS, tS] : Array TypeId)[0]? | stuck "slices.overlaps: no parameter types"
      let .slice elem ← underlying t | stuck "slices.overlaps: slice type expected"
      let size ← sizeOf elem
      match A, B with
      | some a, some b =>
        if la = 0 ∨ lb = 0 ∨ size = 0 then pure (Value.bool false)
        else if a.block != b.block && (← frozen a) && (← frozen b) then unsupported .addressObserved
        else do
          if a.block != b.block then do
            noView a; noView b
            if ← mayBeOne a b then return Value.bool ((← choose (.extern "sameAddr.stringBytes" 2)) == 1)
          pure (Value.bool (a.block == b.block && a.off < b.off + lb * size && b.off < a.off + la * size))
      | _, _ => pure (Value.bool false)) w = _
    simp [run_underlying (elemT_u ht), run_sizeT hz]
  have zero : ∀ (A B : Option Addr) (la ca lb cb : Nat), (la = 0 ∨ lb = 0) → (Extern.SlicesOverlaps.overlaps #[tS, tS] #[tR] #[.slice A la ca, .slice B lb cb]).run P w = .ok (.bool false) w := fun A B la ca lb cb h => by
    rw [run]
    cases A with
    | none => rfl
    | some A =>
      cases B with
      | none => rfl
      | some B =>
        have h' : la = 0 ∨ lb = 0 ∨ sz = 0 := by omega
        simp [h']
  cases h1 with
  | mcnil _ _ base1 => exact zero _ _ _ _ _ _ (.inr rfl)
  | mc _ _ _ _ r addr ho hle1 hin haddr =>
    rcases hz0 with rfl | ⟨bk, off, esz', val, rfl, hesz, hsc, himm, hV⟩
    · exact zero _ _ _ _ _ _ (.inl rfl)
    · by_cases hl0 : l.length = 0 ∨ n = 0
      · exact zero _ _ _ _ _ _ hl0
      · by_cases hs0 : sz = 0
        · rw [run]; simp [hs0]
        · obtain ⟨o, e2, e3⟩ := hs.at hg ho
          cases e3 with
          | cells _ _ cs ty hcs hesz0 hp hel hscE hin' hVE =>
            have hne : l ≠ [] := fun e => by subst e; simp at hl0
            have hsz := fits_of (P := P) hfit hesz hne
            rw [hz] at hsz; cases hsz
            have him := himm 0 (Nat.mul_pos (by omega) (by omega))
            have hcell := hs.imm _ _ _ him
            have hbk : bk ≠ r.block := fun e => by
              rw [e, hs.clear _ _ _ _ hg ho] at him; cases him
            have hsa : ∃ tA kA, w.shape? bk = some (tA, kA + 1) := by
              unfold World.cell? at hcell
              simp only at hcell
              split at hcell
              · rename_i cc ta fr hh
                rw [if_neg (by simp)] at hcell
                have hlt : 0 < cc.size := Nat.lt_of_le_of_lt (Nat.zero_le _) (Array.getElem?_eq_some_iff.1 hcell).1
                exact ⟨ta, cc.size - 1, by rw [Nat.sub_add_cancel hlt]; simp [World.shape?, hh]⟩
              · cases hcell
            obtain ⟨tA, kA, hsa⟩ := hsa
            have hsb : w.shape? r.block = some (ty, cs.size) := by simp [World.shape?, e2]
            have hfb : ∀ o, w.frozen? ⟨r.block, o, none⟩ = false := fun o => by simp [World.frozen?, e2]
            have hkB : cs.size ≠ 0 := by
              rw [hcs]
              have : 0 < (st + c) * r.esz := Nat.mul_pos (by omega) (by omega)
              omega
            generalize cs.size = kB at hsb hkB
            cases kB with
            | zero => exact absurd rfl hkB
            | succ kB =>
              rw [run]
              have hl0' : ¬ (l.length = 0 ∨ n = 0 ∨ sz = 0) := by omega
              have hnb : (bk != r.block) = true := by simpa using hbk
              have hnb' : (bk == r.block) = false := by simpa using hbk
              cases hfa : w.frozen? ⟨bk, off, none⟩ <;> cases hfe : w.frozen? { block := bk, off := kA + 1 } <;>
                simp [hl0', hnb, hnb', frozen, noView, viewAt, mayBeOne, stringish, shape, Sem.run, hsa, hsb, hfb, hfa, hfe]
end Go.Am
