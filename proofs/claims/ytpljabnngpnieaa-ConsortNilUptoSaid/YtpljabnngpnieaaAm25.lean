/-
  The logic AM, part 25: operations carried out by a program that the kernel runs: what it cannot decide it is told (a hint), and what must hold for that it gives back.
  Own work. No Go text.
-/
import Derived.Test.YtpljabnngpnieaaAm24
namespace Go.Am
open Go.RowKit

structure Hint where
  k : Nat := 0
  g : Bool := true
  b : Bool := false
  x : AV := .any
  l : List AV := []
  n : Nat := 0
  m : Nat := 0
  p : Nat := 0
  q : Nat := 0
  r : Nat := 0
  u : UInt8 := 0
  c : Option (AV × St) := none

def conj : List Prop → Prop
  | [] => True
  | [p] => p
  | p :: q :: r => p ∧ conj (q :: r)

theorem conj_cons {p : Prop} {r : List Prop} : conj (p :: r) ↔ p ∧ conj r := by
  cases r with
  | nil => simp [conj]
  | cons q r => simp [conj]

theorem conj_append {a b : List Prop} : conj (a ++ b) ↔ conj a ∧ conj b := by
  induction a with
  | nil => simp [conj]
  | cons p r ih => rw [List.cons_append, conj_cons, conj_cons, ih, and_assoc]

abbrev XR := Option (AV × St × List Prop)

def plain (r : Option (AV × St)) : XR := match r with
  | some (v, s) => some (v, s, [])
  | none => none

def eqLen (o : Option Nat) (n : Nat) : Bool := match o with
  | some k => Nat.beq k n
  | none => false

theorem eqLen_iff {o : Option Nat} {n : Nat} : eqLen o n = true ↔ o = some n := by
  unfold eqLen
  cases o with
  | none => simp
  | some k => simp [Nat.beq_eq]

def xIdx (P : Program) (h : Hint) (t : TypeId) (x i : AV) (s : St) : XR := match i with
  | .int _ n => match elemT P t with
    | some e => match x with
      | .sl _ elems => bif eqLen (sizeT P e) h.x.cells.length then some (.ip h.x.cells, s, [0 ≤ n, elems[n.toNat]? = some h.x]) else none
      | .ms id start len => match eget s.heap id with
        | some (.cells esz _) => bif eqLen (sizeT P e) esz then some (.mp id h.n 0, s, [0 ≤ n, n < len, start + n.toNat = h.n]) else none
        | _ => none
      | _ => none
    | none => match arrT P t with
      | some (m, e) => match sizeT P e with
        | some sz => match x with
          | .mp id el off => some (.mp id el h.n, s, [0 ≤ n, n < m, off + n.toNat * sz = h.n])
          | .ip cells => some (.ip h.l, s, [0 ≤ n, n < m, cells.drop (n.toNat * sz) = h.l])
          | _ => none
        | none => none
      | none => none
  | _ => none

theorem xIdx_ok {P : Program} {h : Hint} {t : TypeId} {x i v : AV} {s s' : St} {obs : List Prop} (hx : xIdx P h t x i s = some (v, s', obs)) (ho : conj obs) : aIndexAddr P t x i s = some v ∧ s' = s := by
  unfold xIdx at hx
  split at hx
  case h_2 => cases hx
  unfold aIndexAddr
  split at hx
  · rename_i e he
    simp only [he]
    split at hx
    · cases hq : eqLen (sizeT P e) h.x.cells.length with
      | false => simp [hq] at hx
      | true =>
        simp only [hq, cond_true] at hx
        cases hx
        obtain ⟨h1, h2⟩ := ho
        simp only [conj] at h2
        simp [h1, h2, eqLen_iff.1 hq]
    · split at hx
      case h_2 => cases hx
      rename_i esz _ hg
      cases hq : eqLen (sizeT P e) esz with
      | false => simp [hq] at hx
      | true =>
        simp only [hq, cond_true] at hx
        cases hx
        obtain ⟨h1, h2, h3⟩ := ho
        simp only [conj] at h3
        simp [h1, h2, h3, eqLen_iff.1 hq, hg]
    · cases hx
  · rename_i he
    simp only [he]
    split at hx
    case h_2 => cases hx
    rename_i m e ha
    simp only [ha]
    split at hx
    case h_2 => cases hx
    rename_i sz hsz
    simp only [hsz]
    split at hx
    · cases hx
      obtain ⟨h1, h2, h3⟩ := ho
      simp only [conj] at h3
      simp [h1, h2, h3]
    · cases hx
      obtain ⟨h1, h2, h3⟩ := ho
      simp only [conj] at h3
      simp [h1, h2, h3]
    · cases hx

/-- k = 1: the element is told; k = 2: the cell. -/
def xLoad (P : Program) (h : Hint) (t : TypeId) (p : AV) (s : St) : XR := match p with
  | .mp id el off => match eget s.heap id with
    | some (.cells _ elems) => bif Nat.beq h.k 1 then (match readT P t (h.x.cells.drop off) with
        | some v => some (v, s, [elems[el]? = some h.x])
        | none => none) else match elems[el]?, aggT P t with
        | some e, some false => some (h.x, s, [e.cells[off]? = some h.x])
        | _, _ => none
    | _ => none
  | .ip cells => match aggT P t with
    | some false => some (h.x, s, [cells.head? = some h.x])
    | _ => none
  | _ => none

theorem readT_drop {P : Program} {t : TypeId} {cs : List AV} {off : Nat} {x : AV} (ht : aggT P t = some false) (h : cs[off]? = some x) : readT P t (cs.drop off) = some x := by
  unfold readT
  simp only [ht]
  have : cs.drop off = x :: cs.drop (off + 1) := by
    obtain ⟨hl, he⟩ := List.getElem?_eq_some_iff.1 h
    rw [List.drop_eq_getElem_cons hl, he]
  rw [this]

theorem xLoad_ok {P : Program} {h : Hint} {t : TypeId} {p v : AV} {s s' : St} {obs : List Prop} (hx : xLoad P h t p s = some (v, s', obs)) (ho : conj obs) : aLoad P t p s = some v ∧ s' = s := by
  unfold xLoad at hx
  unfold aLoad
  split at hx
  · split at hx
    case h_2 => cases hx
    rename_i id el off _ esz elems hg
    cases hk : Nat.beq h.k 1 with
    | true =>
      simp only [hk, cond_true] at hx
      split at hx
      case h_2 => cases hx
      rename_i v0 hr
      cases hx
      have ho : elems[el]? = some h.x := ho
      simp [cellsAt, hg, ho, hr]
    | false =>
      simp only [hk, cond_false] at hx
      split at hx
      case h_2 => cases hx
      rename_i e he ht
      cases hx
      have ho : e.cells[off]? = some h.x := ho
      simp [cellsAt, hg, he, readT_drop ht ho]
  · rename_i cells
    split at hx
    case h_2 => cases hx
    rename_i ht
    cases hx
    have ho : cells.head? = some h.x := ho
    have := readT_drop (cs := cells) (off := 0) ht (by rw [← ho]; cases cells <;> rfl)
    simpa [cellsAt] using this
  · cases hx

def xStore (P : Program) (h : Hint) (t : TypeId) (p v : AV) (s : St) : XR := match p with
  | .mp id el off => match eget s.heap id with
    | some (.cells esz elems) => bif eqLen (sizeT P t) v.cells.length && v.cells.all AV.scalar then
        some (.any, ⟨eset s.heap id (.cells esz h.l), s.cnt⟩, [elems[el]? = some h.x, off + v.cells.length ≤ h.x.cells.length, elems.set el (reElem h.x (splice h.x.cells off v.cells)) = h.l]) else none
    | _ => none
  | _ => none

theorem xStore_ok {P : Program} {h : Hint} {t : TypeId} {p x v : AV} {s s' : St} {obs : List Prop} (hx : xStore P h t p x s = some (v, s', obs)) (ho : conj obs) : aStore P t p x s = some s' ∧ v = .any := by
  unfold xStore at hx
  split at hx
  case h_2 => cases hx
  rename_i id el off
  split at hx
  case h_2 => cases hx
  rename_i esz elems hg
  cases hq : eqLen (sizeT P t) x.cells.length && x.cells.all AV.scalar with
  | false => simp [hq] at hx
  | true =>
    simp only [hq, cond_true] at hx
    cases hx
    obtain ⟨h1, h2, h3⟩ := ho
    simp only [Bool.and_eq_true] at hq
    unfold aStore
    simp only [hg, h1]
    simp only [conj] at h3
    rw [if_pos ⟨eqLen_iff.1 hq.1, h2, hq.2⟩, h3]
    exact ⟨rfl, trivial⟩

def xLen (P : Program) (h : Hint) (t : TypeId) (x : AV) (s : St) : XR := match x with
  | .sl _ elems => bif (elemT P t).isSome then some (.int .i64 h.n, s, [elems.length = h.n]) else none
  | _ => none

theorem xLen_ok {P : Program} {h : Hint} {t : TypeId} {x v : AV} {s s' : St} {obs : List Prop} (hx : xLen P h t x s = some (v, s', obs)) (ho : conj obs) : aLen P t x = some v ∧ s' = s := by
  unfold xLen at hx
  split at hx
  case h_2 => cases hx
  rename_i fl elems
  cases hq : (elemT P t).isSome with
  | false => simp [hq] at hx
  | true =>
    simp only [hq, cond_true] at hx
    cases hx
    have ho : elems.length = h.n := ho
    simp [aLen, hq, ho]

/-- What an append adds. -/
def xNew (P : Program) (e : TypeId) (u : TypeId) (y : AV) (s : St) : Option (List AV × List Prop) := match y with
  | .sl _ l => bif (elemT P u).isSome then some (l, [fits P e l]) else none
  | .ms id start len => match eget s.heap id with
    | some (.cells esz elems) => bif eqLen (sizeT P e) esz && (elemT P u).isSome then some ((elems.drop start).take len, [start + len ≤ elems.length]) else none
    | _ => none
  | _ => none

/-- k = 1: something is added; k = 2: nothing. -/
def xAppend (P : Program) (h : Hint) (t u : TypeId) (x y : AV) (s : St) : XR := match elemT P t with
  | some e => match sizeT P e, bytesT P e with
    | some sz, some by_ => bif Nat.blt 0 sz && Nat.ble by_ 4096 && zeroOk P e sz then
        match xNew P e u y s with
        | some (new, o) => bif Nat.beq h.k 2 then (match x with
            | .sl _ _ => some (x, s, (new = []) :: o)
            | .ms _ _ _ => some (x, s, (new = []) :: o)
            | _ => none) else
          match x with
          | .sl full elems => some (.ms s.cnt 0 h.n, ⟨(s.cnt, .cells sz h.l) :: s.heap, s.cnt + 1⟩, (new ≠ []) :: (full = true) :: (elems.length + new.length ≤ maxElems) :: (fits P e elems) :: (elems.length + new.length = h.n) :: (elems ++ new = h.l) :: o)
          | .ms id start len => match eget s.heap id with
            | some (.cells esz elems) => bif Nat.beq esz sz then some (.ms s.cnt 0 h.n, ⟨(s.cnt, .cells sz h.l) :: edel s.heap id, s.cnt + 1⟩,
                (new ≠ []) :: (start + len ≤ elems.length) :: (len + new.length ≤ maxElems) :: (len + new.length = h.n) :: ((elems.drop start).take len ++ new = h.l) :: o) else none
            | _ => none
          | _ => none
        | none => none
      else none
    | _, _ => none
  | none => none

theorem xNew_ok {P : Program} {e u : TypeId} {y : AV} {s : St} {l : List AV} {o : List Prop} (h : xNew P e u y s = some (l, o)) (ho : conj o) : elemsOf y s = some l ∧ fitsV P e y s ∧ (elemT P u).isSome = true ∧ y.isInt = false := by
  unfold xNew at h
  split at h
  · rename_i fl elems
    cases hq : (elemT P u).isSome with
    | false => simp [hq] at h
    | true =>
      simp only [hq, cond_true] at h
      cases h
      exact ⟨rfl, ho, rfl, rfl⟩
  · split at h
    case h_2 => cases h
    rename_i esz elems hg
    cases hq : eqLen (sizeT P e) esz && (elemT P u).isSome with
    | false => simp [hq] at h
    | true =>
      simp only [hq, cond_true] at h
      cases h
      simp only [Bool.and_eq_true] at hq
      have ho : _ ≤ _ := ho
      exact ⟨by simp [elemsOf, hg, ho], by simp [fitsV, hg, eqLen_iff.1 hq.1], hq.2, rfl⟩
  · cases h

theorem xAppend_ok {P : Program} {h : Hint} {t u : TypeId} {x y v : AV} {s s' : St} {obs : List Prop} (hx : xAppend P h t u x y s = some (v, s', obs)) (ho : conj obs) :
    ∃ e new, elemT P t = some e ∧ elemsOf y s = some new ∧ fitsV P e y s ∧ (elemT P u).isSome = true ∧ y.isInt = false ∧ aAppend P t x new s = some (v, s') := by
  unfold xAppend at hx
  split at hx
  case h_2 => cases hx
  rename_i e he
  split at hx
  case h_2 => cases hx
  rename_i sz by_ hsz hby
  cases hq : Nat.blt 0 sz && Nat.ble by_ 4096 && zeroOk P e sz with
  | false => simp [hq] at hx
  | true =>
    simp only [hq, cond_true] at hx
    simp only [Bool.and_eq_true, Nat.blt_eq, Nat.ble_eq] at hq
    split at hx
    case h_2 => cases hx
    rename_i new o hn
    cases hk : Nat.beq h.k 2 with
    | true =>
      simp only [hk, cond_true] at hx
      split at hx
      case h_3 => cases hx
      all_goals
        cases hx
        obtain ⟨h1, h2⟩ := conj_cons.1 ho
        obtain ⟨n1, n2, n3, n4⟩ := xNew_ok hn h2
        refine ⟨e, new, he, n1, n2, n3, n4, ?_⟩
        subst h1
        unfold aAppend
        simp only [he, hsz, hby]
        rw [if_pos ⟨hq.1.1, hq.1.2, hq.2⟩]
        simp
    | false =>
      simp only [hk, cond_false] at hx
      split at hx
      · cases hx
        obtain ⟨h1, h2, h3, h4, h5, h6, h7⟩ := by simpa only [conj_cons] using ho
        obtain ⟨n1, n2, n3, n4⟩ := xNew_ok hn h7
        refine ⟨e, new, he, n1, n2, n3, n4, ?_⟩
        unfold aAppend
        simp only [he, hsz, hby]
        rw [if_pos ⟨hq.1.1, hq.1.2, hq.2⟩, if_neg h1, if_pos ⟨h2, h3, h4⟩, h5, h6]
      · split at hx
        case h_2 => cases hx
        rename_i esz elems hg
        cases hz : Nat.beq esz sz with
        | false => simp [hz] at hx
        | true =>
          simp only [hz, cond_true] at hx
          cases hx
          obtain ⟨h1, h2, h3, h4, h5, h7⟩ := by simpa only [conj_cons] using ho
          obtain ⟨n1, n2, n3, n4⟩ := xNew_ok hn h7
          refine ⟨e, new, he, n1, n2, n3, n4, ?_⟩
          unfold aAppend
          simp only [he, hsz, hby, hg]
          rw [if_pos ⟨hq.1.1, hq.1.2, hq.2⟩, if_neg h1, if_pos ⟨Nat.eq_of_beq_eq_true hz, h2, h3⟩, h4, h5]
      · cases hx
end Go.Am
