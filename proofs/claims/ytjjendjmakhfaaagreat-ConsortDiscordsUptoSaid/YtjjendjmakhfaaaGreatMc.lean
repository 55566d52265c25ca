/-
 sound.Concordant: walked in the kit's own way; and in the logic.
 Own work. No Go text.
-/
import Derived.Test.YtjjendjmakhfaaaGreatMp
import Derived.Deep.OwnRows
import Derived.Laws.CopyRow
set_option linter.all false
set_option maxHeartbeats 6400000
set_option maxRecDepth 100000
namespace Go.Proofs.YtjjendjmakhfaaaGreat
open Go Go.RowKit Go.Maps Go.Am
theorem n62 : Tryz.f62.ntmps = 52 := by kernel_rfl
def noBad (s : List Int) (i j : Nat) : Prop := ∀ x y,s[i]? = some x → s[j]? = some y → bad1 (cls x y) = false ∧ (i = 0 → bad2 (cls x y) = false)
theorem made_len (n : Nat) : (madeCells #[Value.int .i64 0] n).size = n := by simp [madeCells]
theorem made_copy (w : World) (l : List Int) (ad : Addr) (cap : Nat) (hcl : ∀ (j : Nat) (x : Int),l[j]? = some x → w.cell? (ad.add j) = some (.int .i64 x)) (hbw : 0 < l.length → ad.block < w.heap.size) :
  ∃ w1 : World,(Builtin.copy_ #[54,54] 3 #[.slice (some ⟨w.heap.size,0,none⟩) l.length l.length,.slice (some ad) l.length cap]).run Tryz.prog (w.alloc (.cells (madeCells #[Value.int .i64 0] l.length) 3)) = .ok (goInt l.length) w1 ∧
   w1.heap[w.heap.size]? = some (.cells (l.map (Value.int .i64)).toArray 3 (0,0)) ∧ Below w.heap.size w w1 ∧ w.drawn ≤ w1.drawn ∧ w.heap.size < w1.heap.size := by
 obtain ⟨i0,hi,hz0,hz1,hz2⟩ := info_parts i3
 have hg1 : (w.alloc (.cells (madeCells #[Value.int .i64 0] l.length) 3)).heap[w.heap.size]? = some (.cells (madeCells #[Value.int .i64 0] l.length) 3 (0,0)) := (MapKept.heap_alloc w _).1
 have hms := made_len l.length
 have hcp := run_copy_row (P := Tryz.prog) (w.alloc (.cells (madeCells #[Value.int .i64 0] l.length) 3)) 54 54 3 3 w.heap.size 0 l.length l.length ad l.length cap (madeCells #[Value.int .i64 0] l.length) 3 (l.map (Value.int .i64)) u54 (by rw [hi]; simp [hz1]) hg1 (by simp) (by
   intro j v hv
   rw [List.getElem?_map] at hv
   cases hx : l[j]? with
   | none => rw [hx] at hv; cases hv
   | some x =>
    rw [hx] at hv
    cases hv
    have hj := (List.getElem?_eq_some_iff.1 hx).1
    have e : (ad.add j).block = ad.block := by unfold Addr.add; split <;> rfl
    rw [World.cell?_of_block (w := w) (w' := w.alloc (.cells (madeCells #[Value.int .i64 0] l.length) 3)) (a := ad.add j) (by rw [e]; exact (MapKept.heap_alloc w (.cells (madeCells #[Value.int .i64 0] l.length) 3)).2 ad.block (hbw (by omega)))]
    exact hcl j x hx) (by simp [hms]) (by
   intro v hv
   obtain ⟨x,_,rfl⟩ := List.mem_map.1 hv
   rfl)
 have e1 : ((madeCells #[Value.int .i64 0] l.length).toList.take 0 ++ l.map (Value.int .i64) ++ (madeCells #[Value.int .i64 0] l.length).toList.drop (0 + (l.map (Value.int .i64)).length)).toArray = (l.map (Value.int .i64)).toArray := by
  rw [List.take_zero,List.nil_append,List.drop_eq_nil_of_le (by simp [hms]),List.append_nil]
 rw [e1,List.length_map] at hcp
 refine ⟨_,hcp,by simp only [World.setRow,Array.getElem?_modify,if_pos,hg1,Option.map_some],?_,Nat.le_refl w.drawn,?_⟩
 ·have b1 := (Below.refl w.heap.size w).alloc (Nat.le_refl _) (.cells (madeCells #[Value.int .i64 0] l.length) 3)
  exact ⟨b1.os,b1.tape,b1.output,by have := b1.size; simpa [World.setRow] using this,fun k hk => by rw [setRow_other _ _ _ _ (by omega)]; exact b1.block k hk⟩
 ·simp [World.setRow]
theorem sort_cells (w w1 : World) (l : List Int) (hl : l.length ≤ 4194304) (hb1 : w1.heap[w.heap.size]? = some (.cells (l.map (Value.int .i64)).toArray 3 (0,0))) (hbel : Below w.heap.size w w1) (hdr : w.drawn ≤ w1.drawn) :
  Calls Tryz.prog 95 #[.slice (some ⟨w.heap.size,0,none⟩) l.length l.length] w1 fun e w' => e = .returned (.tuple #[]) ∧ (∀ (j : Nat) (x : Int),(sortI l)[j]? = some x → w'.cell? ⟨w.heap.size,j,none⟩ = some (.int .i64 x)) ∧ Below w.heap.size w w' ∧ w.drawn ≤ w'.drawn := by
 have htk : (l.map (Value.int .i64)).toArray.toList.take l.length = l.map (Value.int .i64) := by rw [List.take_of_length_le (by simp)]
 refine (sort_row w.heap.size l.length l w1 (holds_of_blockI hb1 htk) (Array.getElem?_eq_some_iff.1 hb1).1 (by omega)).mono ?_
 rintro e w' ⟨rfl,m,os,rfl⟩
 have hl3 : (l.mergeSort fun x y => decide (x ≤ y)).length = l.length := List.length_mergeSort l
 have hown3 := ownsRow_sortedI (base := w.heap.size) (n := m) (os := os) (cap := l.length) hl3 (Nat.le_refl _) hb1 (Nat.le_refl _) (by unfold maxLen; omega) (by simp)
 have hg3 := grownBy_sortedI (w := w1) (g := w.heap.size) (n := m) (os := os) (l.mergeSort fun x y => decide (x ≤ y)).toArray
 refine ⟨rfl,fun j x hx => ?_,hbel.grown hg3 hbel.size (fun j hj => by cases hj; exact Nat.le_refl _),Nat.le_trans hdr (Nat.le_add_right _ _)⟩
 have hj := (List.getElem?_eq_some_iff.1 hx).1
 have hs : (sortI l).length = l.length := hl3
 rw [hown3.cellAt j (by omega),List.getElem?_map]
 show ((sortI l)[j]?).map _ = _
 rw [hx]
 rfl
theorem u64_cls {a b : Int} (h0 : 0 ≤ a) (h1 : a ≤ b) (h2 : b ≤ 1000) : (IntKind.u64.wrap (IntKind.u64.wrap b - IntKind.u64.wrap a)).tmod 12 = cls a b := by
 have e : ∀ x : Int,0 ≤ x → x ≤ 1000 → IntKind.u64.wrap x = x := fun x h1 h2 => by
  simp [IntKind.wrap,IntKind.signed,IntKind.bits]
  omega
 rw [e b (by omega) h2,e a h0 (by omega),e (b - a) (by omega) (by omega),Int.tmod_eq_emod_of_nonneg (by omega)]
 rfl
theorem disc_k {S : List Int} {i j : Nat} {x y c : Int} (hij : i < j) (hx : S[i]? = some x) (hy : S[j]? = some y) (hc : c = cls x y) (h : bad1 c = true ∨ (i = 0 ∧ bad2 c = true)) : DiscP S := ⟨i,j,x,y,hij,hx,hy,by rw [← hc]; exact h⟩
theorem noBad_k {S : List Int} {i j : Nat} {x y c : Int} (hx : S[i]? = some x) (hy : S[j]? = some y) (hc : c = cls x y) (h1 : bad1 c = false) (h2 : i = 0 → bad2 c = false) : noBad S i j := by
 intro a b ha hb
 rw [hx] at ha
 rw [hy] at hb
 cases ha
 cases hb
 rw [← hc]
 exact ⟨h1,h2⟩
theorem disc_not {S : List Int} {n : Nat} (hn : S.length = n) (h : ∀ i j,i < n → i < j → noBad S i j) : ¬ DiscP S := by
 rintro ⟨i,j,x,y,hij,hx,hy,hb⟩
 have hi := (List.getElem?_eq_some_iff.1 hx).1
 obtain ⟨h1,h2⟩ := h i j (by omega) hij x y hx hy
 rcases hb with hb | ⟨h0,hb⟩
 ·rw [h1] at hb; cases hb
 ·rw [h2 h0] at hb; cases hb
theorem conc_walk (ad : Addr) (cap : Nat) (l : List Int) (w : World) (hlen : l.length ≤ 4194304) (hr : ∀ x ∈ l,0 ≤ x ∧ x ≤ 1000) (hcl : ∀ (j : Nat) (x : Int),l[j]? = some x → w.cell? (ad.add j) = some (.int .i64 x)) (hbw : 0 < l.length → ad.block < w.heap.size) :
  Calls Tryz.prog 62 #[.slice (some ad) l.length cap] w fun e w' => ∃ r : Bool,e = .returned (.bool r) ∧ (r = true ↔ ¬ DiscP (sortI l)) ∧ Below w.heap.size w w' ∧ w.drawn ≤ w'.drawn := by
 obtain ⟨i0,hi,hz0,hz1,hz2⟩ := info_parts i3
 have hmk := run_make_row (P := Tryz.prog) 54 3 i0 (.int .i64 0) u54 hi hz0 hz1 rfl .i64 .i64 l.length (by rw [hz2]; omega) (by omega) w
 obtain ⟨w1,hcp,hb1,hbel1,hdr1,hlt1⟩ := made_copy w l ad cap hcl hbw
 have hcall := sort_cells w w1 l hlen hb1 hbel1 hdr1
 have hsl : (sortI l).length = l.length := List.length_mergeSort l
 have hsr : ∀ (j : Nat) (x : Int),(sortI l)[j]? = some x → 0 ≤ x ∧ x ≤ 1000 := fun j x h => hr x ((sortI_perm l).mem_iff.1 (List.mem_of_getElem? h))
 have hsa := sortI_asc l
 obtain ⟨X,hX⟩ : ∃ X : Nat → Int,∀ j,j < l.length → (sortI l)[j]? = some (X j) := ⟨fun j => ((sortI l)[j]?).getD 0,fun j hj => by simp only [List.getElem?_eq_getElem (show j < (sortI l).length by omega),Option.getD_some]⟩
 generalize hS : sortI l = S at *
 generalize hn : l.length = n at *
 generalize hw0 : w.heap.size = g at *
 go_enter Tryz.func62,n62
 go_wp2_with (first
  | (go_at_call 95; refine hcall.mono ?_; rintro e w3 ⟨rfl,hc3,hbel3,hdr3⟩)
  | go_in)
 have hcX : ∀ j,j < n → w3.cell? ⟨g,j,none⟩ = some (.int .i64 (X j)) := fun j hj => hc3 j _ (hX j hj)
 have hXa : ∀ i j,i ≤ j → j < n → X i ≤ X j := fun i j hij hj => by
  by_cases e : i = j
  ·subst e; exact Int.le_refl _
  ·obtain ⟨q1,q2⟩ := List.getElem?_eq_some_iff.1 (hX i (by omega))
   obtain ⟨q3,q4⟩ := List.getElem?_eq_some_iff.1 (hX j hj)
   have := List.pairwise_iff_getElem.1 hsa i j q1 q3 (by omega)
   omega
 have hXr : ∀ j,j < n → 0 ≤ X j ∧ X j ≤ 1000 := fun j hj => hsr j _ (hX j hj)
 clear hc3 hsr hsa
 go_loopw [19] (fun i wr => wr = w3 ∧ ∃ k : Nat,k ≤ n ∧ i = .int .i64 k ∧ ∀ i' j,i' < k → i' < j → noBad S i' j)
  (fun i _ => n - (intOf i).toNat)
 case atStart => exact ⟨rfl,0,Nat.zero_le _,rfl,fun i' j h => by omega⟩
 case round =>
  obtain ⟨rfl,k,hk,rfl,hnb⟩ := hrel
  have g0 : k < n → wr.cell? ⟨g,k,none⟩ = some (.int .i64 (X k)) := fun h => hcX k h
  go_wp2
  · -- the last one
   have e : n = k + 1 := by assumption
   subst e
   go_loopw [29] (fun i wr2 => wr2 = wr ∧ i = .int .i64 0) (fun _ _ => 0)
   case atStart => exact ⟨rfl,rfl⟩
   case round =>
    obtain ⟨rfl,rfl⟩ := hrel
    go_wp2
    push_cast
    refine ⟨⟨_,_,_,_,_,_,⟨k + 1,Nat.le_refl _,rfl,fun i' j h1 h2 => ?_⟩,rfl,rfl,rfl,rfl,rfl,by go_num⟩,by simp [intOf]⟩
    by_cases h3 : i' < k
    ·exact hnb i' j h3 h2
    ·intro a c ha hc
     have := (List.getElem?_eq_some_iff.1 hc).1
     omega
  ·have hkn : k < n := by assumption
   go_loopw [29] (fun i wr2 => wr2 = wr ∧ ∃ m : Nat,m ≤ n - (k + 1) ∧ i = .int .i64 m ∧ ∀ j,k < j → j < k + 1 + m → noBad S k j)
    (fun i _ => n - (intOf i).toNat)
   case atStart => exact ⟨rfl,0,Nat.zero_le _,rfl,fun j h1 h2 => by omega⟩
   case round =>
    obtain ⟨rfl,m,hm,rfl,hnb2⟩ := hrel
    have q0 : m < n - (k + 1) → wr.cell? ⟨g,k + 1 + m,none⟩ = some (.int .i64 (X (k + 1 + m))) := fun h => hcX _ (by omega)
    have hcl : m < n - (k + 1) → (IntKind.u64.wrap (IntKind.u64.wrap (X (k + 1 + m)) - IntKind.u64.wrap (X k))).tmod 12 = cls (X k) (X (k + 1 + m)) := fun h => u64_cls (hXr k hkn).1 (hXa _ _ (by omega) (by omega)) (hXr _ (by omega)).2
    have hret : ∀ c : Int,m < n - (k + 1) → c = cls (X k) (X (k + 1 + m)) → (bad1 c = true ∨ (k = 0 ∧ bad2 c = true)) → DiscP S := fun c h hc hb => disc_k (by omega) (hX k hkn) (hX (k + 1 + m) (by omega)) hc hb
    have hgo : ∀ c : Int,m < n - (k + 1) → c = cls (X k) (X (k + 1 + m)) → bad1 c = false → (k = 0 → bad2 c = false) → ∀ j,k < j → j < k + 1 + (m + 1) → noBad S k j := fun c h hc h1 h2 j h3 h4 => by
     by_cases e : j = k + 1 + m
     ·subst e; exact noBad_k (hX k hkn) (hX (k + 1 + m) (by omega)) hc h1 h2
     ·exact hnb2 j h3 (by omega)
    clear hcX hXa hXr hX
    generalize hC : (IntKind.u64.wrap (IntKind.u64.wrap (X (k + 1 + m)) - IntKind.u64.wrap (X k))).tmod 12 = C at hcl
    have hC2 : (IntKind.u64.wrap (IntKind.u64.wrap (X (k + 1 + m)) - IntKind.u64.wrap (X k))).tmod 12 = C := hC
    go_wp2
    all_goals (try simp only [hC2,beq_iff_eq,beq_eq_false_iff_ne] at *)
    ·go_ret
     exact ⟨false,rfl,⟨fun h => (by cases h),fun h => absurd (hret _ (by assumption) rfl (.inl (by unfold bad1; simp [*]))) h⟩,hbel3,hdr3⟩
    ·go_ret
     exact ⟨false,rfl,⟨fun h => (by cases h),fun h => absurd (hret _ (by assumption) rfl (.inl (by unfold bad1; simp [*]))) h⟩,hbel3,hdr3⟩
    ·go_ret
     exact ⟨false,rfl,⟨fun h => (by cases h),fun h => absurd (hret _ (by assumption) rfl (.inl (by unfold bad1; simp [*]))) h⟩,hbel3,hdr3⟩
    ·go_ret
     exact ⟨false,rfl,⟨fun h => (by cases h),fun h => absurd (hret _ (by assumption) rfl (.inl (by unfold bad1; simp [*]))) h⟩,hbel3,hdr3⟩
    ·go_ret
     exact ⟨false,rfl,⟨fun h => (by cases h),fun h => absurd (hret _ (by assumption) rfl (.inr ⟨by omega,by unfold bad2; simp [*]⟩)) h⟩,hbel3,hdr3⟩
    ·exact ⟨⟨trivial,m + 1,by omega,by go_num,hgo _ (by assumption) rfl (by unfold bad1; simp [*]) (fun h0 => by first | (exfalso; omega) | (unfold bad2; simp only [Bool.or_eq_false_iff,decide_eq_false_iff_not]; exact ⟨by assumption,by assumption⟩))⟩,by simp [intOf]; omega⟩
    ·go_ret
     exact ⟨false,rfl,⟨fun h => (by cases h),fun h => absurd (hret _ (by assumption) rfl (.inr ⟨by omega,by unfold bad2; simp [*]⟩)) h⟩,hbel3,hdr3⟩
    ·exact ⟨⟨trivial,m + 1,by omega,by go_num,hgo _ (by assumption) rfl (by unfold bad1; simp [*]) (fun h0 => by first | (exfalso; omega) | (unfold bad2; simp only [Bool.or_eq_false_iff,decide_eq_false_iff_not]; exact ⟨by assumption,by assumption⟩))⟩,by simp [intOf]; omega⟩
    ·exact ⟨⟨trivial,m + 1,by omega,by go_num,hgo _ (by assumption) rfl (by unfold bad1; simp [*]) (fun h0 => by first | (exfalso; omega) | (unfold bad2; simp only [Bool.or_eq_false_iff,decide_eq_false_iff_not]; exact ⟨by assumption,by assumption⟩))⟩,by simp [intOf]; omega⟩
    ·refine ⟨⟨trivial,k + 1,by omega,by go_num,fun i' j h1 h2 => ?_⟩,by simp [intOf]; omega⟩
     by_cases h3 : i' < k
     ·exact hnb i' j h3 h2
     ·have e : i' = k := by omega
      subst e
      by_cases h4 : j < n
      ·exact hnb2 j h2 (by omega)
      ·intro a c ha hc
       have := (List.getElem?_eq_some_iff.1 hc).1
       omega
  · -- no discord
   go_ret
   exact ⟨true,rfl,⟨fun _ => disc_not hsl (fun i j h1 h2 => hnb i j (by omega) h2),fun _ => rfl⟩,hbel3,hdr3⟩
theorem conc_none (w : World) : Calls Tryz.prog 62 #[.slice none 0 0] w fun e w' => e = .returned (.bool true) ∧ Below w.heap.size w w' ∧ w.drawn ≤ w'.drawn := by
 obtain ⟨i0,hi,hz0,hz1,hz2⟩ := info_parts i3
 have hmk : (Instr.makeSlice 54 (.int .i64 0) (.int .i64 0)).run Tryz.prog w = .ok (.slice (some ⟨w.heap.size,0,none⟩) 0 0) (w.alloc (.cells (madeCells #[Value.int .i64 0] 0) 3)) := run_make_row (P := Tryz.prog) 54 3 i0 (.int .i64 0) u54 hi hz0 hz1 rfl .i64 .i64 0 (by omega) (by omega) w
 have hcp := run_copy_nil (P := Tryz.prog) (w.alloc (.cells (madeCells #[Value.int .i64 0] 0) 3)) 54 54 3 3 ⟨w.heap.size,0,none⟩ 0 0 u54 (by rw [hi]; rfl)
 have hcall := sort_row w.heap.size 0 [] (w.alloc (.cells (madeCells #[Value.int .i64 0] 0) 3)) (fun j hj => by simp at hj) (by simp) (by simp)
 have hb1 := (Below.refl w.heap.size w).alloc (Nat.le_refl _) (.cells (madeCells #[Value.int .i64 0] 0) 3)
 have hcall2 : Calls Tryz.prog 95 #[.slice (some ⟨w.heap.size,0,none⟩) 0 0] (w.alloc (.cells (madeCells #[Value.int .i64 0] 0) 3)) fun e w' => e = .returned (.tuple #[]) ∧ Below w.heap.size w w' ∧ w.drawn ≤ w'.drawn := hcall.mono (by
  rintro e w' ⟨rfl,m,os,rfl⟩
  exact ⟨rfl,hb1.grown (grownBy_sortedI _) hb1.size (fun j hj => by cases hj; exact Nat.le_refl _),Nat.le_add_right _ _⟩)
 go_enter Tryz.func62,n62
 go_wp2_with (first
  | (go_at_call 95; refine hcall2.mono ?_; rintro e w3 ⟨rfl,hbel3,hdr3⟩)
  | go_in)
 refine wp_loop_rounds 1 ?_
 rw [rounds_succ]
 go_wp2
 go_ret
 exact ⟨rfl,hbel3,hdr3⟩
noncomputable def concS (l : List Int) : Bool := @decide (¬ DiscP (sortI l)) (Classical.propDecidable _)
theorem concS_iff {l : List Int} : concS l = true ↔ ¬ DiscP (sortI l) := by
 unfold concS
 exact @decide_eq_true_iff _ (Classical.propDecidable _)
theorem concS_eq {l : List Int} {r : Bool} (h : r = true ↔ ¬ DiscP (sortI l)) : concS l = r := by
 cases r with
 | true => exact concS_iff.2 (h.1 rfl)
 | false =>
  cases hc : concS l with
  | false => rfl
  | true => exact absurd (h.2 (concS_iff.1 hc)) (by decide)
theorem same_world {G : Ghost} {w w' : World} (hs : Sim G St.nil w) (hb : Below w.heap.size w w') (hd : w.drawn ≤ w'.drawn) : Sim G St.nil w' ∧ Ext G St.nil w G St.nil w' := by
 refine ⟨⟨fun b o v hi => ?_,fun id blk hg => by simp [St.nil,egetN] at hg,fun id _ b _ _ _ hg => by simp [St.nil,egetN] at hg,fun id b _ _ hg => by simp [St.nil,egetN] at hg,hs.fresh,fun id b hg => by simp [St.nil,egetN] at hg⟩,⟨.refl G,hb.os,hb.tape,hb.output,hb.size,fun i hi _ => hb.block i hi,fun _ _ _ h => .inl h,fun _ _ h => .inl h,fun id blk hg => .inl ⟨blk,hg⟩,Nat.le_refl _,fun _ h => h,fun _ _ h => h,hd⟩⟩
 have hlt := hs.imm_lt hi
 rw [World.cell?_of_block (a := ⟨b,o,none⟩) (hb.block b hlt)]
 exact hs.imm b o v hi
theorem flatI (l : List Int) : flat (l.map AV.i) = l.map AV.i := by
 induction l with
 | nil => rfl
 | cons y r ih => simp only [List.map_cons,flat,List.flatMap_cons,AV.cells] at ih ⊢; rw [ih]; rfl
theorem conc_ok (l : List Int) (hl : l.length ≤ 4194304) (hr : ∀ x ∈ l,0 ≤ x ∧ x ≤ 1000) : APure Tryz.prog 62 [.sl false (l.map AV.i)] (.bool (concS l)) := by
 refine apure (clK (cl_SL (fun _ => rfl) l) clZ) rfl ?_
 intro G w vs hs hv
 obtain ⟨hsz,hvv⟩ := hv
 rcases vs with ⟨_ | ⟨v,_ | ⟨_,_⟩⟩⟩ <;> simp at hsz
 obtain ⟨base,cap,rfl,_,_,hbn,h1⟩ := (hvv 0 _ v rfl rfl).sl_inv
 rw [List.length_map]
 cases base with
 | none =>
  have hl0 : l = [] := by
   rcases h1 with h0 | ⟨b,off,esz,val,hh,_⟩
   ·simpa using h0
   ·cases hh
  subst hl0
  have hc0 := hbn rfl
  subst hc0
  refine (conc_none w).mono ?_
  rintro e' w' ⟨rfl,hb,hd⟩
  obtain ⟨q1,q2⟩ := same_world hs hb hd
  have hx : concS [] = true := concS_iff.2 (by
   rintro ⟨i,j,x,y,_,hx,_⟩
   have : sortI [] = [] := by simp [sortI]
   rw [this] at hx
   simp at hx)
  exact ⟨_,G,.bool true,St.nil,rfl,.bool true,q1,q2,by rw [hx]⟩
 | some ad =>
  rcases Nat.eq_zero_or_pos l.length with h0 | hpos
  ·have hl0 : l = [] := List.eq_nil_of_length_eq_zero h0
   subst hl0
   refine (conc_walk ad cap [] w hl hr (fun j x hx => by simp at hx) (fun h => by simp at h)).mono ?_
   rintro e' w' ⟨r,rfl,hiff,hb,hd⟩
   obtain ⟨q1,q2⟩ := same_world hs hb hd
   exact ⟨_,G,.bool r,St.nil,rfl,.bool r,q1,q2,by rw [concS_eq hiff]⟩
  ·rcases h1 with h0 | ⟨b,off,esz,val,hh,hesz,hsc,himm,hV⟩
   ·simp only [List.map_eq_nil_iff] at h0
    subst h0
    simp at hpos
   cases hh
   have h5 : l.length ≤ (l.map AV.i).length * esz := by
    rw [List.length_map]
    cases l with
    | nil => simp
    | cons z r =>
     have := hesz (AV.i z) (by simp)
     simp only [AV.cells,List.length_cons,List.length_nil] at this
     subst this
     omega
   have cell : ∀ (j : Nat) (x : Int),l[j]? = some x → b < w.heap.size ∧ w.cell? ⟨b,off + j,none⟩ = some (.int .i64 x) := by
    intro j x hx
    have hj := (List.getElem?_eq_some_iff.1 hx).1
    have h1 := hV j (.i x) (by rw [flatI,List.getElem?_map,hx]; rfl)
    have h2 := himm j (by omega)
    generalize val j = q at h1 h2
    cases h1
    exact ⟨hs.imm_lt h2,hs.imm _ _ _ h2⟩
   refine (conc_walk ⟨b,off,none⟩ cap l w hl hr (fun j x hx => by rw [show (⟨b,off,none⟩ : Addr).add j = ⟨b,off + j,none⟩ by simp [Addr.add]]; exact (cell j x hx).2) (fun _ => by
    obtain ⟨x,hx⟩ : ∃ x,l[0]? = some x := ⟨_,List.getElem?_eq_getElem hpos⟩
    exact (cell 0 x hx).1)).mono ?_
   rintro e' w' ⟨r,rfl,hiff,hb,hd⟩
   obtain ⟨q1,q2⟩ := same_world hs hb hd
   have hx : concS l = r := concS_eq hiff
   exact ⟨_,G,.bool r,St.nil,rfl,.bool r,q1,q2,by rw [hx]⟩
end Go.Proofs.YtjjendjmakhfaaaGreat
