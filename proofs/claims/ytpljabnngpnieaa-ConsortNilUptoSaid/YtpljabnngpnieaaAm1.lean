/-
  Abstract values and states (the logic AM, part 1): what an abstract value says of a Go value, what an abstract state says of a world, and how a world may have grown.
  Own work. No Go text.
-/
import Derived.RangeFuncLeaves
import Derived.OrdersIn
import Derived.Laws.Cells
import Derived.Laws.CopyRow
import Derived.Laws.World
import Derived.RowKit3
import Derived.Below
namespace Go.Am
open Go.RowKit

inductive AV where
  | bool (b : Bool)
  | int (k : IntKind) (n : Int)
  | str (s : ByteArray)
  | nilp
  | nilf
  | sl (full : Bool) (elems : List AV)
  | ip (cells : List AV)
  | mp (id el off : Nat)
  | ms (id start len : Nat)
  | mc (id start len cap : Nat)
  | fn (f : FuncId) (caps : List AV)
  | yld (id : Nat)
  | agg (cells : List AV)
  | tup (vs : List AV)
  | any
  deriving Inhabited

abbrev AV.i (n : Int) : AV := .int .i64 n

def AV.cells : AV → List AV
  | .agg cs => cs
  | v => [v]

def AV.isAgg : AV → Bool
  | .agg _ => true
  | _ => false

/-- A value of one cell. -/
def AV.scalar : AV → Bool
  | .agg _ | .tup _ | .any => false
  | _ => true

def flat (l : List AV) : List AV := l.flatMap AV.cells

structure Reg where
  block : Nat
  base : Nat
  esz : Nat
  size : Nat

structure Ghost where
  imm : Nat → Nat → Option Value
  own : Nat → Option Reg

inductive V (G : Ghost) : AV → Value → Prop
  | any (v : Value) : V G .any v
  | bool (b : Bool) : V G (.bool b) (.bool b)
  | int (k : IntKind) (n : Int) : V G (.int k n) (.int k n)
  | str (s : ByteArray) : V G (.str s) (.string s)
  | nilp : V G .nilp (.pointer none)
  | nilf : V G .nilf .nilFunc
  | slnil (full : Bool) (base : Option Addr) (cap : Nat) (hf : full = true → cap = 0) (hb : base = none → cap = 0) : V G (.sl full []) (.slice base 0 cap)
  | sl (full : Bool) (elems : List AV) (b off esz cap : Nat) (val : Nat → Value) (hcap : elems.length ≤ cap) (hfull : full = true → cap = elems.length)
      (hesz : ∀ e ∈ elems, e.cells.length = esz) (hsc : ∀ x ∈ flat elems, x.scalar = true) (himm : ∀ k, k < elems.length * esz → G.imm b (off + k) = some (val k))
      (hV : ∀ k x, (flat elems)[k]? = some x → V G x (val k)) : V G (.sl full elems) (.slice (some ⟨b, off, none⟩) elems.length cap)
  | ip (cells : List AV) (b off : Nat) (val : Nat → Value) (himm : ∀ k, k < cells.length → G.imm b (off + k) = some (val k))
      (hV : ∀ k x, cells[k]? = some x → V G x (val k)) : V G (.ip cells) (.pointer (some ⟨b, off, none⟩))
  | mp (id el off : Nat) (r : Reg) (h : G.own id = some r) : V G (.mp id el off) (.pointer (some ⟨r.block, r.base + el * r.esz + off, none⟩))
  | ms (id start len cap : Nat) (r : Reg) (addr : Nat) (h : G.own id = some r) (hle : len ≤ cap) (hin : r.base + (start + cap) * r.esz ≤ r.size)
      (haddr : 0 < cap → addr = r.base + start * r.esz) : V G (.ms id start len) (.slice (some ⟨r.block, addr, none⟩) len cap)
  | msnil (id start cap : Nat) (base : Option Addr) (hc : cap = 0) : V G (.ms id start 0) (.slice base 0 cap)
  | mc (id start len cap : Nat) (r : Reg) (addr : Nat) (h : G.own id = some r) (hle : len ≤ cap) (hin : r.base + (start + cap) * r.esz ≤ r.size)
      (haddr : 0 < cap → addr = r.base + start * r.esz) : V G (.mc id start len cap) (.slice (some ⟨r.block, addr, none⟩) len cap)
  | mcnil (id start : Nat) (base : Option Addr) : V G (.mc id start 0 0) (.slice base 0 0)
  | fn (f : FuncId) (caps : List AV) (vs : Array Value) (hlen : caps.length = vs.size) (h : ∀ (i : Nat) x y, caps[i]? = some x → vs[i]? = some y → V G x y) :
      V G (.fn f caps) (.func (.func f) #[] vs)
  | yld (id : Nat) (r : Reg) (h : G.own id = some r) : V G (.yld id) (.func (.yield r.block) #[] #[])
  | agg (cs : List AV) (vs : Array Value) (hlen : cs.length = vs.size) (h : ∀ (i : Nat) x y, cs[i]? = some x → vs[i]? = some y → V G x y) : V G (.agg cs) (.agg vs)
  | tup (cs : List AV) (vs : Array Value) (hlen : cs.length = vs.size) (h : ∀ (i : Nat) x y, cs[i]? = some x → vs[i]? = some y → V G x y) : V G (.tup cs) (.tuple vs)

/-- A list of abstract values against an array of values. -/
def VL (G : Ghost) (cs : List AV) (vs : Array Value) : Prop := cs.length = vs.size ∧ ∀ (i : Nat) x y, cs[i]? = some x → vs[i]? = some y → V G x y

structure GLe (G G' : Ghost) : Prop where
  imm : ∀ b o v, G.imm b o = some v → G'.imm b o = some v
  own : ∀ id r, G.own id = some r → G'.own id = some r

theorem GLe.refl (G : Ghost) : GLe G G := ⟨fun _ _ _ h => h, fun _ _ h => h⟩
theorem GLe.trans {A B C : Ghost} (h : GLe A B) (k : GLe B C) : GLe A C := ⟨fun _ _ _ x => k.imm _ _ _ (h.imm _ _ _ x), fun _ _ x => k.own _ _ (h.own _ _ x)⟩

theorem V.mono {G G' : Ghost} (hG : GLe G G') {x : AV} {v : Value} (h : V G x v) : V G' x v := by
  induction h with
  | any v => exact .any v
  | bool b => exact .bool b
  | int k n => exact .int k n
  | str s => exact .str s
  | nilp => exact .nilp
  | nilf => exact .nilf
  | slnil full base cap hf hb => exact .slnil full base cap hf hb
  | sl full elems b off esz cap val hcap hfull hesz hsc himm _ ih => exact .sl full elems b off esz cap val hcap hfull hesz hsc (fun k hk => hG.imm _ _ _ (himm k hk)) ih
  | ip cells b off val himm _ ih => exact .ip cells b off val (fun k hk => hG.imm _ _ _ (himm k hk)) ih
  | mp id el off r h => exact .mp id el off r (hG.own _ _ h)
  | ms id start len cap r addr h hle hin ha => exact .ms id start len cap r addr (hG.own _ _ h) hle hin ha
  | msnil id start cap base hc => exact .msnil id start cap base hc
  | mc id start len cap r addr h hle hin ha => exact .mc id start len cap r addr (hG.own _ _ h) hle hin ha
  | mcnil id start base => exact .mcnil id start base
  | fn f caps vs hlen _ ih => exact .fn f caps vs hlen ih
  | yld id r h => exact .yld id r (hG.own _ _ h)
  | agg cs vs hlen _ ih => exact .agg cs vs hlen ih
  | tup cs vs hlen _ ih => exact .tup cs vs hlen ih

theorem VL.mono {G G' : Ghost} (hG : GLe G G') {cs : List AV} {vs : Array Value} (h : VL G cs vs) : VL G' cs vs := ⟨h.1, fun i x y hx hy => (h.2 i x y hx hy).mono hG⟩

/-! ### The abstract state -/

abbrev Env := List (Nat × AV)

def eget {β : Type} : List (Nat × β) → Nat → Option β
  | [], _ => none
  | (k, x) :: r, i => bif Nat.beq k i then some x else eget r i

def eset {β : Type} : List (Nat × β) → Nat → β → List (Nat × β)
  | [], i, x => [(i, x)]
  | (k, y) :: r, i, x => bif Nat.beq k i then (i, x) :: r else (k, y) :: eset r i x

theorem beqIf {α : Type} (k i : Nat) (x y : α) : (bif Nat.beq k i then x else y) = if k = i then x else y := by
  by_cases h : k = i
  · subst h; rw [if_pos rfl, show Nat.beq k k = true from Nat.beq_refl k]; rfl
  · rw [if_neg h]
    have : Nat.beq k i = false := by
      cases hb : Nat.beq k i with
      | false => rfl
      | true => exact absurd (Nat.eq_of_beq_eq_true hb) h
    rw [this]; rfl
theorem egetN {β : Type} (i : Nat) : eget ([] : List (Nat × β)) i = none := rfl
theorem egetC {β : Type} (k : Nat) (x : β) (r : List (Nat × β)) (i : Nat) : eget ((k, x) :: r) i = if k = i then some x else eget r i := beqIf k i _ _
theorem esetN {β : Type} (i : Nat) (x : β) : eset [] i x = [(i, x)] := rfl
theorem esetC {β : Type} (k : Nat) (y : β) (r : List (Nat × β)) (i : Nat) (x : β) : eset ((k, y) :: r) i x = if k = i then (i, x) :: r else (k, y) :: eset r i x := beqIf k i _ _

def edel {β : Type} : List (Nat × β) → Nat → List (Nat × β)
  | [], _ => []
  | (k, y) :: r, i => if k = i then edel r i else (k, y) :: edel r i

theorem get_set {β : Type} (l : List (Nat × β)) (i j : Nat) (x : β) : eget (eset l i x) j = if i = j then some x else eget l j := by
  induction l with
  | nil => simp [esetN, esetC, egetN, egetC]
  | cons a r ih =>
    obtain ⟨k, y⟩ := a
    simp only [esetN, esetC, egetN, egetC]
    split
    · rename_i h; subst h; simp only [egetN, egetC]; split <;> rfl
    · rename_i h; simp only [egetN, egetC, ih]; split
      · rename_i h2; subst h2; rw [if_neg (by omega)]
      · rfl

theorem get_del {β : Type} (l : List (Nat × β)) (i j : Nat) : eget (edel l i) j = if i = j then none else eget l j := by
  induction l with
  | nil => simp [edel, egetN, egetC]
  | cons a r ih =>
    obtain ⟨k, y⟩ := a
    simp only [edel]
    split
    · rename_i h; subst h; simp only [egetN, egetC, ih]; split <;> rfl
    · rename_i h; simp only [egetN, egetC, ih]; split
      · rename_i h2; subst h2; rw [if_neg (by omega)]
      · rfl

/-- A loop over a function: what its rounds begin with. -/
structure ALoop where
  env : Env
  ntmps : Nat
  params : List Tmp
  assign : Code
  body : Code
  state : LoopState
  pending : Option Code

inductive Blk where
  | cells (esz : Nat) (elems : List AV)
  | loop (l : ALoop)
  | dfr

structure St where
  heap : List (Nat × Blk)
  cnt : Nat

def VEnv (G : Ghost) (env : Env) (tmps : Array Value) : Prop := ∀ t x, eget env t = some x → t < tmps.size ∧ V G x (tmps.getD t undef)

theorem VEnv.mono {G G' : Ghost} (hG : GLe G G') {env : Env} {tmps : Array Value} (h : VEnv G env tmps) : VEnv G' env tmps := fun t x hx => ⟨(h t x hx).1, (h t x hx).2.mono hG⟩

/-- What a block of the world holds, by what the abstract state says of it. -/
inductive Holds (G : Ghost) (r : Reg) : Blk → Obj → Prop
  | cells (esz : Nat) (elems : List AV) (cs : Array Value) (e : TypeId) (hsz : cs.size = r.size) (hesz : r.esz = esz) (h0 : 0 < esz)
      (hel : ∀ x ∈ elems, x.cells.length = esz) (hsc : ∀ x ∈ flat elems, x.scalar = true) (hin : r.base + elems.length * esz ≤ r.size)
      (hV : ∀ k x, (flat elems)[k]? = some x → ∃ v, cs[r.base + k]? = some v ∧ V G x v) : Holds G r (.cells esz elems) (.cells cs e (0, 0))
  | loop (l : ALoop) (fn : FuncId) (tmps : Array Value) (d : Nat) (hsz : tmps.size = l.ntmps) (hV : VEnv G l.env tmps) :
      Holds G r (.loop l) (.loop { state := l.state, pending := l.pending, fn := fn, tmps := tmps, params := l.params.toArray, assign := l.assign, body := l.body, defers := d })
  | dfr : Holds G r .dfr (.deferred (some []))

theorem Holds.mono {G G' : Ghost} (hG : GLe G G') {r : Reg} {b : Blk} {o : Obj} (h : Holds G r b o) : Holds G' r b o := by
  cases h with
  | cells esz elems cs e hsz hesz h0 hel hsc hin hV => exact .cells esz elems cs e hsz hesz h0 hel hsc hin fun k x hx => let ⟨v, a, b⟩ := hV k x hx; ⟨v, a, b.mono hG⟩
  | loop l fn tmps d hsz hV => exact .loop l fn tmps d hsz (hV.mono hG)
  | dfr => exact .dfr

def Owned (G : Ghost) (s : St) (b : Nat) : Prop := ∃ id blk r, eget s.heap id = some blk ∧ G.own id = some r ∧ r.block = b

structure Sim (G : Ghost) (s : St) (w : World) : Prop where
  imm : ∀ b o v, G.imm b o = some v → w.cell? ⟨b, o, none⟩ = some v
  heap : ∀ id blk, eget s.heap id = some blk → (∃ r o, G.own id = some r ∧ w.heap[r.block]? = some o ∧ Holds G r blk o) ∨ (G.own id = none ∧ ∃ esz, 0 < esz ∧ blk = .cells esz [])
  apart : ∀ id id' blk blk' r r', eget s.heap id = some blk → eget s.heap id' = some blk' → G.own id = some r → G.own id' = some r' → id ≠ id' → r.block ≠ r'.block
  clear : ∀ id blk r o, eget s.heap id = some blk → G.own id = some r → G.imm r.block o = none
  fresh : ∀ id, s.cnt ≤ id → G.own id = none
  lt : ∀ id blk, eget s.heap id = some blk → id < s.cnt

theorem Sim.at {G : Ghost} {s : St} {w : World} (h : Sim G s w) {id : Nat} {blk : Blk} {r : Reg} (hg : eget s.heap id = some blk) (ho : G.own id = some r) : ∃ o, w.heap[r.block]? = some o ∧ Holds G r blk o := by
  rcases h.heap id blk hg with ⟨r', o, e1, e2, e3⟩ | ⟨e, _⟩
  · rw [ho] at e1; cases e1; exact ⟨o, e2, e3⟩
  · rw [ho] at e; cases e

structure Ext (G : Ghost) (s : St) (w : World) (G' : Ghost) (s' : St) (w' : World) : Prop where
  le : GLe G G'
  os : w'.os = w.os
  tape : w'.tape = w.tape
  output : w'.output = w.output
  size : w.heap.size ≤ w'.heap.size
  keep : ∀ b, b < w.heap.size → ¬ Owned G s b → w'.heap[b]? = w.heap[b]?
  immNew : ∀ b o v, G'.imm b o = some v → G.imm b o = some v ∨ w.heap.size ≤ b ∨ Owned G s b
  ownNew : ∀ id r, G'.own id = some r → G.own id = some r ∨ (w.heap.size ≤ r.block ∨ Owned G s r.block)
  ids : ∀ id blk, eget s'.heap id = some blk → (∃ blk0, eget s.heap id = some blk0) ∨ s.cnt ≤ id
  cnt : s.cnt ≤ s'.cnt
  dfr : ∀ id, eget s.heap id = some .dfr → eget s'.heap id = some .dfr
  stay : ∀ id, id < s.cnt → G.own id = none → G'.own id = none

theorem Ext.refl (G : Ghost) (s : St) (w : World) : Ext G s w G s w :=
  ⟨.refl G, rfl, rfl, rfl, Nat.le_refl _, fun _ _ _ => rfl, fun _ _ _ h => .inl h, fun _ _ h => .inl h, fun _ _ h => .inl ⟨_, h⟩, Nat.le_refl _, fun _ h => h, fun _ _ h => h⟩

theorem Ext.trans {G0 G1 G2 : Ghost} {s0 s1 s2 : St} {w0 w1 w2 : World} (h0 : Sim G0 s0 w0) (a : Ext G0 s0 w0 G1 s1 w1) (b : Ext G1 s1 w1 G2 s2 w2) :
    Ext G0 s0 w0 G2 s2 w2 := by
  have own : ∀ x, Owned G1 s1 x → w0.heap.size ≤ x ∨ Owned G0 s0 x := by
    rintro x ⟨id, blk, r, hg, ho, rfl⟩
    rcases a.ownNew id r ho with h | h
    · rcases a.ids id blk hg with ⟨blk0, hb⟩ | hge
      · exact .inr ⟨id, blk0, r, hb, h, rfl⟩
      · rw [h0.fresh id hge] at h; cases h
    · exact h
  refine ⟨a.le.trans b.le, b.os.trans a.os, b.tape.trans a.tape, b.output.trans a.output, Nat.le_trans a.size b.size, ?_, ?_, ?_, ?_, Nat.le_trans a.cnt b.cnt, fun id h => b.dfr id (a.dfr id h), fun id hl h => b.stay id (Nat.lt_of_lt_of_le hl a.cnt) (a.stay id hl h)⟩
  · intro x hx hn
    rw [b.keep x (Nat.lt_of_lt_of_le hx a.size) (fun h => (own x h).elim (fun h => by omega) hn)]
    exact a.keep x hx hn
  · intro x o v h
    rcases b.immNew x o v h with h | h | h
    · exact a.immNew x o v h
    · exact .inr (.inl (Nat.le_trans a.size h))
    · exact .inr (own x h)
  · intro id r h
    rcases b.ownNew id r h with h | h | h
    · exact a.ownNew id r h
    · exact .inr (.inl (Nat.le_trans a.size h))
    · exact .inr (own _ h)
  · intro id blk h
    rcases b.ids id blk h with ⟨blk1, h⟩ | h
    · exact a.ids id blk1 h
    · exact .inr (Nat.le_trans a.cnt h)

end Go.Am
