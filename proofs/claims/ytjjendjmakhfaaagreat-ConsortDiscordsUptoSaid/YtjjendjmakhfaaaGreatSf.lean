/-
  slices.SortFunc at lists of structs of ints: from the shelf's contract.
  Own work. No Go text.
-/
import Derived.Test.YtjjendjmakhfaaaGreatSe
import Derived.Shelf.SlSortCmp.NoneTotal
set_option linter.all false
namespace Go.Am
open Go.RowKit Go.Sort
section
variable {α : Type} [Inhabited α]
def encI (c : α → List Int) (x : α) : List Value := (c x).map (.int .i64)
theorem flatC_len {c : α → List Int} {k : Nat} (hk : ∀ x, (c x).length = k) (l : List α) : (l.flatMap c).length = l.length * k := by
  induction l with
  | nil => simp
  | cons x l ih =>
    rw [List.flatMap_cons, List.length_append, hk, ih, List.length_cons, Nat.add_mul]
    omega
theorem flatC_get {c : α → List Int} {k : Nat} (h0 : 0 < k) (hk : ∀ x, (c x).length = k) : ∀ (l : List α) (t : Nat), t < l.length * k → (l.flatMap c)[t]? = (l[t / k]?).bind fun x => (c x)[t % k]?
  | [], t, h => by simp at h
  | x :: l, t, h => by
    rw [List.flatMap_cons]
    by_cases ht : t < k
    · rw [List.getElem?_append_left (by rw [hk]; exact ht), Nat.div_eq_of_lt ht, Nat.mod_eq_of_lt ht]
      rfl
    · obtain ⟨u, rfl⟩ : ∃ u, t = u + k := ⟨t - k, by omega⟩
      have hu : u < l.length * k := by
        rw [List.length_cons, Nat.add_mul] at h
        omega
      rw [List.getElem?_append_right (by rw [hk]; omega), hk, Nat.add_sub_cancel, flatC_get h0 hk l u hu, Nat.add_div_right u h0, Nat.add_mod_right]
      rfl
theorem flatK_ints {c : α → List Int} {k : Nat} (h0 : 0 < k) (hk : ∀ x, (c x).length = k) (l : List α) : flatK (encI c) k l.toArray = ((l.flatMap c).map (Value.int .i64)).toArray := by
  have hl : (flatK (encI c) k l.toArray).size = l.length * k := by simp
  refine ext_get! (by simp [flatC_len hk]) fun t ht => ?_
  have ht' : t < l.length * k := by rw [hl] at ht; exact ht
  have h1 : t / k < l.length := Nat.div_lt_of_lt_mul (by rw [Nat.mul_comm]; exact ht')
  have h2 : t % k < k := Nat.mod_lt _ h0
  rw [get_flatK _ _ _ t (by simpa using ht')]
  have h3 : l.toArray[t / k]! = l[t / k] := by rw [getElem!_pos _ _ (by simpa using h1)]; simp
  have h4 := flatC_get h0 hk l t ht'
  rw [List.getElem?_eq_getElem h1, Option.bind_some] at h4
  have h5 : t % k < (c l[t / k]).length := by rw [hk]; exact h2
  rw [List.getElem?_eq_getElem h5] at h4
  rw [h3]
  have h6 : t < ((l.flatMap c).map (Value.int .i64)).toArray.size := by simp [flatC_len hk]; exact ht'
  rw [getElem!_pos _ t h6]
  obtain ⟨h7, h8⟩ := List.getElem?_eq_some_iff.1 h4
  unfold encI
  rw [getElem!_pos _ _ (by simpa using h5)]
  simp [h8]
theorem flat_cells {c : α → List Int} {E : α → AV} (hE : ∀ x, E x = .agg ((c x).map AV.i)) (l : List α) : flat (l.map E) = (l.flatMap c).map AV.i := by
  unfold flat
  induction l with
  | nil => rfl
  | cons x l ih =>
    simp only [List.map_cons, List.flatMap_cons, ih, List.map_append]
    rw [hE]
    rfl
theorem structs_at {c : α → List Int} {k : Nat} {E : α → AV} (hE : ∀ x, E x = .agg ((c x).map AV.i)) (hk : ∀ x, (c x).length = k) {G : Ghost} {s : St} {w : World} (hs : Sim G s w) {id : Nat} {l : List α} {r : Reg}
    (hg : eget s.heap id = some (.cells k (l.map E))) (ho : G.own id = some r) :
    ∃ cs e, w.heap[r.block]? = some (.cells cs e (0, 0)) ∧ cs.size = r.size ∧ r.esz = k ∧ r.base + l.length * k ≤ r.size ∧ ∀ j x, (l.flatMap c)[j]? = some x → cs[r.base + j]? = some (.int .i64 x) := by
  obtain ⟨o, h1, h2⟩ := hs.at hg ho
  generalize hb : Blk.cells k (l.map E) = b at h2
  cases h2 with
  | cells esz elems cs e hsz hesz h0 hel hsc hin hV =>
    injection hb with hb1 hb2
    subst hb1; subst hb2
    refine ⟨cs, e, h1, hsz, hesz, by simpa using hin, fun j x hj => ?_⟩
    obtain ⟨v, h3, h4⟩ := hV j (AV.i x) (by rw [flat_cells hE, List.getElem?_map, hj]; rfl)
    cases h4
    exact h3
  | loop => cases hb
  | dfr => cases hb
theorem holds_structs {c : α → List Int} {k : Nat} {E : α → AV} (hE : ∀ x, E x = .agg ((c x).map AV.i)) (h0 : 0 < k) (hk : ∀ x, (c x).length = k) {G : Ghost} {r : Reg} {cs : Array Value} {e : TypeId} {l : List α} (hsz : cs.size = r.size) (hesz : r.esz = k)
    (hin : r.base + l.length * k ≤ r.size) (hV : ∀ j x, (l.flatMap c)[j]? = some x → cs[r.base + j]? = some (.int .i64 x)) :
    Holds G r (.cells k (l.map E)) (.cells cs e (0, 0)) :=
  .cells k (l.map E) cs e hsz hesz h0
    (fun x hx => by
      obtain ⟨y, _, rfl⟩ := List.mem_map.1 hx
      rw [hE]
      show ((c y).map AV.i).length = k
      rw [List.length_map, hk])
    (fun x hx => by
      rw [flat_cells hE] at hx
      obtain ⟨y, _, rfl⟩ := List.mem_map.1 hx
      rfl) (by simpa using hin)
    (fun j x hj => by
      rw [flat_cells hE, List.getElem?_map] at hj
      obtain ⟨y, h1, rfl⟩ := Option.map_eq_some_iff.1 hj
      exact ⟨_, hV j y h1, .int _ _⟩)
theorem holds_id {w : World} {b off : Nat} {l : List Int} (h : Go.Sort.Holds (Value.int .i64) w b off l.toArray) : Go.Sort.Holds id w b off (l.map (Value.int .i64)).toArray := by
  intro j hj
  have hj' : j < l.length := by simpa using hj
  have h1 := h j (by simpa using hj')
  have e1 : (l.map (Value.int .i64)).toArray[j]! = .int .i64 l[j] := by rw [getElem!_pos _ j hj]; simp
  have e2 : l.toArray[j]! = l[j] := by rw [getElem!_pos _ j (by simpa using hj')]; simp
  rw [e2] at h1
  rw [e1]
  exact h1
theorem put_id {off : Nat} {cs : Array Value} {d : List Int} (hin : off + d.length ≤ cs.size) : ∀ k x, d[k]? = some x → (Go.Sort.putCells id off (d.map (Value.int .i64)).toArray cs)[off + k]? = some (.int .i64 x) := by
  intro k x hk
  have hkl := (List.getElem?_eq_some_iff.1 hk).1
  unfold Go.Sort.putCells
  rw [Array.getElem?_mapIdx, Array.getElem?_eq_getElem (by omega), Option.map_some, if_pos ⟨by omega, by simp; omega⟩]
  have : off + k - off = k := by omega
  rw [this, getElem!_pos _ k (by simpa using hkl)]
  obtain ⟨h1, h2⟩ := List.getElem?_eq_some_iff.1 hk
  simp [h2]
end
theorem grown_of_ext {G G' : Ghost} {s : St} {w w' : World} (h : Ext G St.nil w G' s w') : ∃ q os, w' = grow (w.drewN q) os := by
  refine ⟨w'.drawn - w.drawn, w'.heap.extract w.heap.size w'.heap.size, ?_⟩
  have h1 : w'.heap = w.heap ++ w'.heap.extract w.heap.size w'.heap.size := by
    apply Array.ext_getElem?
    intro b
    by_cases hb : b < w.heap.size
    · rw [Array.getElem?_append_left hb]
      exact h.keep b hb fun ⟨id, blk, r, hg, _⟩ => by simp [St.nil, egetN, egetC] at hg
    · rw [Array.getElem?_append_right (by omega), Array.getElem?_extract]
      have := h.size
      split
      · congr 1; omega
      · rename_i hn
        exact Array.getElem?_eq_none (by omega)
  have h2 := h.drawn
  have h3 := h.os
  have h4 := h.tape
  have h5 := h.output
  cases w with
  | mk a1 a2 a3 a4 a5 =>
    cases w' with
    | mk b1 b2 b3 b4 b5 =>
      simp only [] at h1 h2 h3 h4 h5
      unfold grow World.drewN
      simp only [World.mk.injEq]
      exact ⟨h1, h4, by omega, h3, h5⟩
theorem sim_none (w : World) : Sim ⟨fun _ _ => none, fun _ => none⟩ St.nil w :=
  ⟨fun _ _ _ h => (by cases h), fun id b hg => by simp [St.nil, egetN, egetC] at hg, fun id _ b _ _ _ hg => by simp [St.nil, egetN, egetC] at hg, fun id b _ _ hg => by simp [St.nil, egetN, egetC] at hg, fun _ _ => rfl, fun id b hg => by simp [St.nil, egetN, egetC] at hg⟩
section
variable {α : Type} [Inhabited α]
theorem V_ints {G : Ghost} (l : List Int) : V G (.agg (l.map AV.i)) (.agg (l.map (Value.int .i64)).toArray) :=
  .agg _ _ (by simp) fun i x y hx hy => by
    rw [List.getElem?_map] at hx
    obtain ⟨a, h1, rfl⟩ := Option.map_eq_some_iff.1 hx
    simp [h1] at hy
    subst hy
    exact .int _ _
noncomputable def sortF {α : Type} (fg : α → α → Option Int) (l : List α) : Option (List α) :=
  open Classical in
  if (∀ x y, fg x y ≠ none) ∧ SWO (Go.Proofs.ltOf fun x y => (fg x y).getD 0) ∧ (∀ x y, Go.Proofs.ltOf (fun x y => (fg x y).getD 0) x y = false → Go.Proofs.ltOf (fun x y => (fg x y).getD 0) y x = false → x = y) ∧ l.length ≤ 4194304
  then some (l.mergeSort fun x y => !(Go.Proofs.ltOf (fun x y => (fg x y).getD 0) y x)) else none
theorem sortF_len {α : Type} {fg : α → α → Option Int} {l r : List α} (h : sortF fg l = some r) : r.length = l.length := by
  unfold sortF at h
  split at h
  · cases h; exact List.length_mergeSort l
  · cases h
theorem callsF_of_pure {P : Program} {g : FuncId} {c : α → List Int} {E : α → AV} (hE : ∀ x, E x = .agg ((c x).map AV.i)) {x y : α} {r : Int} (h : APure P g [E x, E y] (.i r)) (w : World) :
    Calls P g #[.agg (encI c x).toArray, .agg (encI c y).toArray] w fun e w' => e = .returned (.int .i64 r) ∧ ∃ q os, w' = grow (w.drewN q) os := by
  refine (h St.nil _ w _ (sim_none w) ⟨rfl, fun i p q hp hq => ?_⟩).mono ?_
  · rcases i with _ | _ | i
    · simp at hp hq; subst hp; subst hq; rw [hE]; exact V_ints _
    · simp at hp hq; subst hp; subst hq; rw [hE]; exact V_ints _
    · simp at hp
  · rintro e w' ⟨v, G', y', s', rfl, hV, hS, hX, rfl, rfl⟩
    cases hV
    exact ⟨rfl, grown_of_ext hX⟩
end
theorem sortf_calls {α : Type} {P : Program} {ρ : Go.Shelf.Ren} (L : Go.Proofs.SlLaysF0.n6 P ρ) {k : Nat} (h0 : 0 < k) (aE : ∀ w, (isAgg (ρ.t 24)).run P w = .ok true w) (zE : ∀ w, (Go.sizeOf (ρ.t 24)).run P w = .ok k w)
    {E : α → AV} (c : α → List Int) (hE : ∀ x, E x = .agg ((c x).map AV.i)) (hk : ∀ x, (c x).length = k) {g : FuncId} {gf : Func} {gc : Code} (hgf : P.funcs[g]? = some gf) (hgn : (gf.name == "runtime.NumGoroutine") = false) (hgb : gf.body = some gc)
    {fg : α → α → Option Int} (hg : ∀ x y r, fg x y = some r → APure P g [E x, E y] (.i r)) (l r : List α) (h : sortF fg l = some r) :
    ACalls P (ρ.f 6) [.ms 0 0 l.length, .fn g []] ⟨[(0, .cells k (l.map E))], 1⟩ fun y t => y = .tup [] ∧ t = ⟨[(0, .cells k (r.map E))], 1⟩ := by
  have hlen := sortF_len h
  unfold sortF at h
  split at h
  case isFalse => cases h
  rename_i hc
  obtain ⟨htot, hO, hT, hmax⟩ := hc
  cases h
  generalize hcf : (fun x y => (fg x y).getD 0) = cf at hO hT hlen ⊢
  intro G w vs hs hv
  obtain ⟨hsz, hvv⟩ := hv
  rcases vs with ⟨_ | ⟨v, _ | ⟨v2, _ | ⟨_, _⟩⟩⟩⟩ <;> simp at hsz
  have hv2 := hvv 1 _ v2 rfl rfl
  cases hv2 with
  | fn _ _ cvs hcl hch =>
  have hcv : cvs = #[] := Array.eq_empty_of_size_eq_zero (by simpa using hcl.symm)
  subst hcv
  by_cases hl : 0 < l.length
  · haveI : Inhabited α := ⟨l[0]⟩
    obtain ⟨rg, cap, ho, rfl, hle, hcap⟩ := ms_at hs (hvv 0 _ v rfl rfl) hl
    obtain ⟨cs, e, a1, a2, a3, a4, a5⟩ := structs_at hE hk hs (id := 0) (l := l) rfl ho
    have hlt := hs.own_lt (id := 0) rfl ho
    have hH : HoldsK (encI c) k w rg.block rg.base l.toArray := by
      unfold HoldsK
      rw [flatK_ints h0 hk]
      exact holds_id (row_ints a1 a5)
    refine (Go.Proofs.AnyQ.slices_SortFunc_total L k aE zE (encI c) (fun x => by simp [encI, hk]) (fun x v hv => by
      obtain ⟨y, _, rfl⟩ := List.mem_map.1 hv
      rfl) cf hO g #[] rg.block rg.base cap l.toArray w (Go.Proofs.enters_of hgf hgn hgb) (fun m os dk hdk x y => ?_) hH hlt (by simp; omega) hT).mono ?_
    · obtain ⟨rr, hrr⟩ : ∃ rr, fg x y = some rr := Option.ne_none_iff_exists'.1 (htot x y)
      have := callsF_of_pure hE (hg x y rr hrr) (Go.Proofs.sortWorldK (encI c) k w rg.block rg.base m dk os)
      have hq : cf x y = rr := by rw [← hcf]; simp [hrr]
      rw [hq]
      simpa using this
    · rintro e' w' ⟨rfl, n, os, rfl⟩
      have hsl : (l.mergeSort fun x y => !(Go.Proofs.ltOf cf) y x).length = l.length := hlen
      have hrem := remade_sim hs (id := 0) (b1 := .cells k ((l.mergeSort fun x y => !(Go.Proofs.ltOf cf) y x).map E)) rfl ho (by intro h; cases h) n
        (Go.Sort.putCells id rg.base (((l.mergeSort fun x y => !(Go.Proofs.ltOf cf) y x).flatMap c).map (Value.int .i64)).toArray) os (fun o hoo => by
          rw [a1] at hoo; cases hoo
          refine holds_structs hE h0 hk (by simp [Go.Sort.putCells, a2]) a3 (by rw [hsl]; exact a4) (put_id (by rw [flatC_len hk, hsl, a2]; exact a4)))
      have hw : remade w n rg.block (Go.Sort.putCells id rg.base (((l.mergeSort fun x y => !(Go.Proofs.ltOf cf) y x).flatMap c).map (Value.int .i64)).toArray) os = Go.Proofs.sortWorldK (encI c) k w rg.block rg.base n (l.mergeSort fun x y => !(Go.Proofs.ltOf cf) y x).toArray os := by
        unfold Go.Proofs.sortWorldK putRowK
        rw [flatK_ints h0 hk]
        rfl
      show Gave G _ w _ _ (Go.Proofs.sortWorldK (encI c) k w rg.block rg.base n (l.mergeSort fun x y => !(Go.Proofs.ltOf cf) y x).toArray os)
      rw [← hw]
      exact ⟨.tuple #[], G, .tup [], _, rfl, .tup [] #[] rfl (fun i x y hx => by simp at hx), hrem.1, hrem.2, rfl, rfl⟩
  · have hl0 : l = [] := List.length_eq_zero_iff.1 (by omega)
    subst hl0
    obtain ⟨p, cap, rfl⟩ : ∃ p cap, v = .slice p 0 cap := by
      have := hvv 0 _ v rfl rfl
      generalize hx : AV.ms 0 0 ([] : List α).length = x at this
      cases this with
      | ms id' start len cap r addr ho hle hin haddr => injection hx with e1 e2 e3; subst e3; exact ⟨_, _, rfl⟩
      | msnil id' start cap base hc => exact ⟨_, _, rfl⟩
      | _ => cases hx
    refine (Go.Proofs.AnyF.slices_SortFunc_none L p cap _ w).mono ?_
    rintro e' w' ⟨rfl, rfl⟩
    refine ⟨.tuple #[], G, .tup [], _, rfl, .tup [] #[] rfl (fun i x y hx => by simp at hx), hs, .refl _ _ _, rfl, ?_⟩
    simp
end Go.Am
