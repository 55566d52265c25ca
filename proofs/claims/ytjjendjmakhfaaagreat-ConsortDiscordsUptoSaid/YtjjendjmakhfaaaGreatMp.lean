/-
 sound.pitchesAt in the logic: the pitches of the notes that sound at a time,sorted,each once.
 Own work. No Go text.
-/
import Derived.Test.YtjjendjmakhfaaaGreatMw
import Derived.Test.YtjjendjmakhfaaaGreatLay
import Derived.Test.YtjjendjmakhfaaaGreatDm
import Derived.Shelf.Slices.In.SortNone
set_option linter.all false
namespace Go.Proofs.YtjjendjmakhfaaaGreat
open Go Go.Am Go.RowKit
def insA (x : Int) : List Int → List Int
 | [] => [x]
 | y :: r => if x < y then x :: y :: r else if x = y then y :: r else y :: insA x r
theorem mem_insA {x z : Int} : ∀ {l : List Int},z ∈ insA x l ↔ z = x ∨ z ∈ l
 | [] => by simp [insA]
 | y :: r => by
  unfold insA
  split
  ·simp
  ·split
   ·rename_i h
    subst h
    simp
   ·simp only [List.mem_cons,mem_insA (l := r)]
    constructor
    ·rintro (h | h | h)
     ·exact .inr (.inl h)
     ·exact .inl h
     ·exact .inr (.inr h)
    ·rintro (h | h | h)
     ·exact .inr (.inl h)
     ·exact .inl h
     ·exact .inr (.inr h)
theorem asc_insA {x : Int} : ∀ {l : List Int},l.Pairwise (· < ·) → (insA x l).Pairwise (· < ·)
 | [],_ => by simp [insA]
 | y :: r,h => by
  obtain ⟨h1,h2⟩ := List.pairwise_cons.1 h
  unfold insA
  split
  ·rename_i h3
   exact List.pairwise_cons.2 ⟨fun z hz => by
    rcases List.mem_cons.1 hz with e | e
    ·omega
    ·have := h1 z e
     omega,h⟩
  ·split
   ·exact h
   ·refine List.pairwise_cons.2 ⟨fun z hz => ?_,asc_insA h2⟩
    rcases mem_insA.1 hz with e | e
    ·omega
    ·exact h1 z e
def pitchS {α : Type} (p f u : α → Int) (l : List α) (t : Int) : List Int := ((l.filter fun x => decide (f x ≤ t) && decide (t < u x)).map p).foldr insA []
theorem asc_fold : ∀ (l : List Int),(l.foldr insA []).Pairwise (· < ·)
 | [] => .nil
 | x :: r => asc_insA (asc_fold r)
theorem mem_fold {z : Int} : ∀ {l : List Int},z ∈ l.foldr insA [] ↔ z ∈ l
 | [] => by simp
 | x :: r => by simp only [List.foldr_cons,mem_insA,mem_fold (l := r),List.mem_cons]
theorem pitchS_asc {α : Type} (p f u : α → Int) (l : List α) (t : Int) : (pitchS p f u l t).Pairwise (· < ·) := asc_fold _
theorem mem_pitchS {α : Type} {p f u : α → Int} {l : List α} {t x : Int} : x ∈ pitchS p f u l t ↔ ∃ n ∈ l,p n = x ∧ f n ≤ t ∧ t < u n := by
 unfold pitchS
 rw [mem_fold,List.mem_map]
 constructor
 ·rintro ⟨n,h1,h2⟩
  obtain ⟨h3,h4⟩ := List.mem_filter.1 h1
  simp only [Bool.and_eq_true,decide_eq_true_eq] at h4
  exact ⟨n,h3,h2,h4⟩
 ·rintro ⟨n,h1,h2,h3,h4⟩
  exact ⟨n,List.mem_filter.2 ⟨h1,by simp [h3,h4]⟩,h2⟩
theorem sort_nil (w : World) : Calls Tryz.prog 95 #[.slice none 0 0] w fun e w' => e = .returned (.tuple #[]) ∧ Below w.heap.size w w' ∧ w.drawn ≤ w'.drawn :=
 (Go.Proofs.Any.slices_Sort_int_none lay_sort none 0 w).mono (by rintro e w' ⟨h,rfl⟩; exact ⟨h,Below.refl _ _,Nat.le_refl _⟩)
theorem sort_row (blk cap : Nat) (zs : List Int) (w : World) (h1 : Go.Sort.Holds (Value.int .i64) w blk 0 zs.toArray) (h2 : blk < w.heap.size) (h3 : zs.length < 4611686018427387904) :
  Calls Tryz.prog 95 #[.slice (some ⟨blk,0,none⟩) zs.length cap] w fun e w' => e = .returned (.tuple #[]) ∧ ∃ n os,w' = Go.Sort.grow (Go.Sort.putRow (Value.int .i64) (Go.Sort.ahead w n) blk 0 (zs.mergeSort fun x y => decide (x ≤ y)).toArray) os :=
 Go.Proofs.Any.slices_Sort_int lay_sort blk 0 cap zs w h1 h2 h3
theorem fresh_imm {G : Ghost} {s : St} {w w' : World} (h : Sim G s w) (hb : Below w.heap.size w w') (hd : w.drawn ≤ w'.drawn) {b : Nat} {cs : Array Value} {e : TypeId} (hge : w.heap.size ≤ b) (hw : w'.heap[b]? = some (.cells cs e (0,0))) :
  Sim (G.addImm b cs) s w' ∧ Ext G s w (G.addImm b cs) s w' := by
 have hn : ∀ o v,G.imm b o = some v → cs[o]? = some v := fun o v hi => by have := h.imm_lt hi; omega
 have hle : GLe G (G.addImm b cs) := .addImm hn
 refine ⟨⟨?_,?_,h.apart,?_,h.fresh,h.lt⟩,⟨hle,hb.os,hb.tape,hb.output,hb.size,fun i hi _ => hb.block i hi,?_,fun id r hi => .inl hi,fun id blk hg => .inl ⟨blk,hg⟩,Nat.le_refl _,fun _ h => h,fun _ _ h => h,hd⟩⟩
 ·intro b' o v hi
  simp only [Ghost.addImm] at hi
  split at hi
  ·subst_vars
   simp [World.cell?,hw,hi]
  ·have hlt := h.imm_lt hi
   have := h.imm b' o v hi
   rw [World.cell?_of_block (a := ⟨b',o,none⟩) (hb.block b' hlt)]
   exact this
 ·intro id blk hg
  rcases h.heap id blk hg with ⟨r',o',e1,e2,e3⟩ | e
  ·have hlt := h.own_lt hg e1
   exact .inl ⟨r',o',e1,by rw [hb.block _ hlt]; exact e2,e3.mono hle⟩
  ·exact .inr e
 ·intro id blk r o hg ho
  have hlt := h.own_lt hg ho
  simp only [Ghost.addImm]
  split
  ·omega
  ·exact h.clear id blk r o hg ho
 ·intro b' o v hi
  simp only [Ghost.addImm] at hi
  split at hi
  ·exact .inr (.inl (by omega))
  ·exact .inl hi
section
variable {α : Type} {E : α → AV} {e c p f u : α → Int}
theorem flat5 (hE : ∀ x,E x = .agg [.i (e x),.i (c x),.i (p x),.i (f x),.i (u x)]) : ∀ (l : List α) (j : Nat) (x : α),l[j]? = some x → ∀ (m : Nat) (y : AV),([.i (e x),.i (c x),.i (p x),.i (f x),.i (u x)] : List AV)[m]? = some y → (flat (l.map E))[j * 5 + m]? = some y
 | [],j,x,h => by simp at h
 | z :: r,j,x,h => by
  intro m y hm
  have hf : flat ((z :: r).map E) = [.i (e z),.i (c z),.i (p z),.i (f z),.i (u z)] ++ flat (r.map E) := by simp [flat,hE,AV.cells]
  rw [hf]
  cases j with
  | zero =>
   simp only [List.getElem?_cons_zero,Option.some.injEq] at h
   subst h
   have := (List.getElem?_eq_some_iff.1 hm).1
   rw [Nat.zero_mul,Nat.zero_add,List.getElem?_append_left this]
   exact hm
  | succ j =>
   rw [List.getElem?_cons_succ] at h
   have := flat5 hE r j x h m y hm
   rw [List.getElem?_append_right (by simp; omega)]
   have e2 : (j + 1) * 5 + m - ([.i (e z),.i (c z),.i (p z),.i (f z),.i (u z)] : List AV).length = j * 5 + m := by simp; omega
   rw [e2]
   exact this
theorem asc_eq {α : Type} {p f u : α → Int} {l : List α} {t : Int} {xs : List Int} (hn : xs.Nodup) (hm : ∀ x,x ∈ xs ↔ ∃ j,j < l.length ∧ ((l[j]?).map p).getD 0 = x ∧ ((l[j]?).map f).getD 0 ≤ t ∧ t < ((l[j]?).map u).getD 0) :
  (xs.mergeSort fun x y => decide (x ≤ y)) = pitchS p f u l t :=
 asc_extI (sortI_strict hn) (pitchS_asc p f u l t) fun x => by
  rw [mem_pitchS]
  have h1 : x ∈ sortI xs ↔ x ∈ xs := (sortI_perm xs).mem_iff
  refine (show x ∈ (xs.mergeSort fun x y => decide (x ≤ y)) ↔ x ∈ xs from h1).trans ((hm x).trans ?_)
  constructor
  ·rintro ⟨j,hj,h2,h3,h4⟩
   have hg : l[j]? = some l[j] := List.getElem?_eq_getElem hj
   rw [hg] at h2 h3 h4
   exact ⟨_,List.getElem_mem hj,h2,h3,h4⟩
  ·rintro ⟨n,hn,h2,h3,h4⟩
   obtain ⟨j,hj⟩ := List.getElem?_of_mem hn
   exact ⟨j,(List.getElem?_eq_some_iff.1 hj).1,by rw [hj]; exact h2,by rw [hj]; exact h3,by rw [hj]; exact h4⟩
theorem pitches_ok (E : α → AV) (e c p f u : α → Int) (hE : ∀ x,E x = .agg [.i (e x),.i (c x),.i (p x),.i (f x),.i (u x)]) (l : List α) (t : Int) (hl : l.length ≤ 4194304) (hr : ∀ x ∈ l,0 ≤ p x ∧ p x ≤ 1000) :
  APure Tryz.prog 94 [.sl false (l.map E),.i t] (.sl false ((pitchS p f u l t).map AV.i)) := by
 refine apure ?_ ?_ ?_
 ·exact clK (cl_SL (fun x => by rw [hE]; rfl) l) (clK rfl clZ)
 ·exact cl_SL (fun _ => rfl) _
 intro G w vs hs hv
 obtain ⟨hsz,hvv⟩ := hv
 rcases vs with ⟨_ | ⟨v,_ | ⟨v2,_ | ⟨_,_⟩⟩⟩⟩ <;> simp at hsz
 have e2 := hvv 1 _ v2 rfl rfl
 cases e2
 obtain ⟨base,cap,rfl,_,_,_,h1⟩ := (hvv 0 _ v rfl rfl).sl_inv
 rw [List.length_map]
 by_cases hl0 : l = []
 ·subst hl0
  refine (pitches_none base cap t w sort_nil).mono ?_
  rintro e' w' ⟨rfl,hb,hd⟩
  have hx : pitchS p f u ([] : List α) t = [] := rfl
  obtain ⟨q1,q2⟩ : Sim G St.nil w' ∧ Ext G St.nil w G St.nil w' := by
   refine ⟨⟨fun b o v hi => ?_,fun id blk hg => by simp [St.nil,egetN] at hg,fun id _ b _ _ _ hg => by simp [St.nil,egetN] at hg,fun id b _ _ hg => by simp [St.nil,egetN] at hg,hs.fresh,fun id b hg => by simp [St.nil,egetN] at hg⟩,⟨.refl G,hb.os,hb.tape,hb.output,hb.size,fun i hi _ => hb.block i hi,fun _ _ _ h => .inl h,fun _ _ h => .inl h,fun id blk hg => .inl ⟨blk,hg⟩,Nat.le_refl _,fun _ h => h,fun _ _ h => h,hd⟩⟩
   have hlt := hs.imm_lt hi
   rw [World.cell?_of_block (a := ⟨b,o,none⟩) (hb.block b hlt)]
   exact hs.imm b o v hi
  exact ⟨_,G,.sl false [],St.nil,rfl,.slnil false none 0 (fun h => by cases h) (fun _ => rfl),q1,q2,by rw [hx]; rfl⟩
 rcases h1 with h0 | ⟨b,off,esz,val,rfl,hesz,hsc,himm,hV⟩
 ·exact absurd (by simpa using h0) hl0
 have h5 : l.length * 5 ≤ (l.map E).length * esz := by
  rw [List.length_map]
  cases l with
  | nil => simp
  | cons z r =>
   have := hesz (E z) (by simp)
   rw [hE] at this
   simp only [AV.cells,List.length_cons,List.length_nil] at this
   exact Nat.mul_le_mul_left _ (by omega)
 have cell : ∀ (j : Nat) (x : α),l[j]? = some x → ∀ (m : Nat) (y : Int),([.i (e x),.i (c x),.i (p x),.i (f x),.i (u x)] : List AV)[m]? = some (.i y) → b < w.heap.size ∧ w.cell? ⟨b,off + (j * 5 + m),none⟩ = some (.int .i64 y) := by
  intro j x hx m y hm
  have hj := (List.getElem?_eq_some_iff.1 hx).1
  have hm5 := (List.getElem?_eq_some_iff.1 hm).1
  simp only [List.length_cons,List.length_nil] at hm5
  have h1 := hV _ _ (flat5 hE l j x hx m _ hm)
  have h2 := himm (j * 5 + m) (by omega)
  generalize val (j * 5 + m) = q at h1 h2
  cases h1
  exact ⟨hs.imm_lt h2,hs.imm _ _ _ h2⟩
 have get : ∀ j : Nat,j < l.length → ∃ x,l[j]? = some x := fun j hj => ⟨_,List.getElem?_eq_getElem hj⟩
 have hb0 : b < w.heap.size := by
  obtain ⟨x,hx⟩ := get 0 (by cases l with | nil => exact absurd rfl hl0 | cons z r => simp)
  exact (cell 0 x hx 0 _ rfl).1
 have hwf : ∀ j : Nat,(Lit.int .i64 (((l[j]?).map p).getD 0)).wf = true := by
  intro j
  have : 0 ≤ ((l[j]?).map p).getD 0 ∧ ((l[j]?).map p).getD 0 ≤ 1000 := by
   cases hx : l[j]? with
   | none => simp
   | some x => simpa using hr x (List.mem_of_getElem? hx)
  have e1 : IntKind.i64.min = -9223372036854775808 := by decide
  have e2 : IntKind.i64.max = 9223372036854775807 := by decide
  simp only [Lit.wf,e1,e2,Bool.and_eq_true,decide_eq_true_eq]
  omega
 refine (pitches_walk b off l.length cap (fun j => ((l[j]?).map e).getD 0) (fun j => ((l[j]?).map c).getD 0) (fun j => ((l[j]?).map p).getD 0) (fun j => ((l[j]?).map f).getD 0) (fun j => ((l[j]?).map u).getD 0) t w hl hb0 hwf
  (fun j hj => by obtain ⟨x,hx⟩ := get j hj; simp only [hx,Option.map_some,Option.getD_some]; exact (cell j x hx 0 _ rfl).2)
  (fun j hj => by obtain ⟨x,hx⟩ := get j hj; simp only [hx,Option.map_some,Option.getD_some]; exact (cell j x hx 1 _ rfl).2)
  (fun j hj => by obtain ⟨x,hx⟩ := get j hj; simp only [hx,Option.map_some,Option.getD_some]; exact (cell j x hx 2 _ rfl).2)
  (fun j hj => by obtain ⟨x,hx⟩ := get j hj; simp only [hx,Option.map_some,Option.getD_some]; exact (cell j x hx 3 _ rfl).2)
  (fun j hj => by obtain ⟨x,hx⟩ := get j hj; simp only [hx,Option.map_some,Option.getD_some]; exact (cell j x hx 4 _ rfl).2)
  sort_nil sort_row).mono ?_
 rintro e' w' ⟨v,xs,rfl,hnd,hmem,hxl,hrow,hbel,hdr⟩
 have hps := asc_eq (p := p) (f := f) (u := u) (l := l) (t := t) hnd hmem
 rw [hps] at hrow
 have hlen : xs.length = (pitchS p f u l t).length := by rw [← hps]; exact (List.length_mergeSort xs).symm
 rcases hrow.2 with ⟨rfl,hx0⟩ | ⟨g,cp,cur,rfl,hg,hblk,hle,hmx,hcs,htk⟩
 ·have hnil : pitchS p f u l t = [] := List.eq_nil_of_length_eq_zero (by omega)
  have hs0 : Sim G St.nil w := ⟨hs.imm,fun id blk hg => by simp [St.nil,egetN] at hg,fun id _ b _ _ _ hg => by simp [St.nil,egetN] at hg,fun id b _ _ hg => by simp [St.nil,egetN] at hg,hs.fresh,fun id b hg => by simp [St.nil,egetN] at hg⟩
  obtain ⟨q1,q2⟩ : Sim G St.nil w' ∧ Ext G St.nil w G St.nil w' := by
   refine ⟨⟨fun b o v hi => ?_,fun id blk hg => by simp [St.nil,egetN] at hg,fun id _ b _ _ _ hg => by simp [St.nil,egetN] at hg,fun id b _ _ hg => by simp [St.nil,egetN] at hg,hs.fresh,fun id b hg => by simp [St.nil,egetN] at hg⟩,⟨.refl G,hbel.os,hbel.tape,hbel.output,hbel.size,fun i hi _ => hbel.block i hi,fun _ _ _ h => .inl h,fun _ _ h => .inl h,fun id blk hg => .inl ⟨blk,hg⟩,Nat.le_refl _,fun _ h => h,fun _ _ h => h,hdr⟩⟩
   have hlt := hs.imm_lt hi
   rw [World.cell?_of_block (a := ⟨b,o,none⟩) (hbel.block b hlt)]
   exact hs.imm b o v hi
  exact ⟨_,G,.sl false [],St.nil,rfl,.slnil false none 0 (fun h => by cases h) (fun _ => rfl),q1,q2,by rw [hnil]; rfl⟩
 ·obtain ⟨q1,q2⟩ := fresh_imm hs hbel hdr hg hblk
  rw [Nat.mul_one] at htk
  have hV2 : V (G.addImm g cur) (.sl false ((pitchS p f u l t).map AV.i)) (.slice (some ⟨g,0,none⟩) ((pitchS p f u l t).map AV.i).length cp) := by
   have hget : ∀ (k : Nat) (x : Int),(pitchS p f u l t)[k]? = some x → cur[k]? = some (Value.int .i64 x) := by
    intro k x hk
    have hk' := (List.getElem?_eq_some_iff.1 hk).1
    have h1 : (cur.toList.take xs.length)[k]? = ((pitchS p f u l t).map (Value.int .i64))[k]? := by rw [htk]
    rw [List.getElem?_take_of_lt (by omega),List.getElem?_map,hk] at h1
    rw [← Array.getElem?_toList]
    exact h1
   have hfl : flat ((pitchS p f u l t).map AV.i) = (pitchS p f u l t).map AV.i := by
    generalize pitchS p f u l t = q
    induction q with
    | nil => rfl
    | cons y r ih => simp only [List.map_cons,flat,List.flatMap_cons,AV.cells] at ih ⊢; rw [ih]; rfl
   refine .sl false _ g 0 1 cp (fun k => (cur[k]?).getD undef) (by rw [List.length_map]; omega) (fun h => by cases h) (fun y hy => ?_) (fun y hy => ?_) (fun k hk => ?_) (fun k y hk => ?_)
   ·obtain ⟨z,_,rfl⟩ := List.mem_map.1 hy; rfl
   ·rw [hfl] at hy
    obtain ⟨z,_,rfl⟩ := List.mem_map.1 hy; rfl
   ·rw [List.length_map,Nat.mul_one] at hk
    have hx := hget k _ (List.getElem?_eq_getElem hk)
    simp only [Ghost.addImm,if_pos,Nat.zero_add,hx,Option.getD_some]
   ·rw [hfl,List.getElem?_map] at hk
    cases hx : (pitchS p f u l t)[k]? with
    | none => rw [hx] at hk; cases hk
    | some z =>
     rw [hx] at hk
     cases hk
     simp only [hget k z hx,Option.getD_some]
     exact V.int _ _
  rw [List.length_map,← hlen] at hV2
  exact ⟨_,_,_,_,rfl,hV2,q1,q2,rfl⟩
end
end Go.Proofs.YtjjendjmakhfaaaGreat
