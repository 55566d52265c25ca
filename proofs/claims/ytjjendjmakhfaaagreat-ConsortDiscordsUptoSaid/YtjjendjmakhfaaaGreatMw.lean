/-
 sound.pitchesAt: the one function with a map. It is walked in the kit's own way.
 Own work. No Go text.
-/
import Derived.Test.YtjjendjmakhfaaaGreatDr
import Derived.Test.YtjjendjmakhfaaaGreatChecked
import Derived.Maps.RangeWalk
import Derived.Maps.AppendAt
import Derived.WalkKit
import Derived.Sort.OwnSortedInts
set_option linter.all false
set_option maxHeartbeats 6400000
set_option maxRecDepth 100000
namespace Go.Proofs.YtjjendjmakhfaaaGreat
open Go Go.RowKit Go.Maps Go.Am
theorem u181 : Tryz.prog.underlying 181 = some (.map 3 3) := by kernel_rfl
theorem u3 : Tryz.prog.underlying 3 = some (.int .i64) := by kernel_rfl
theorem u54 : Tryz.prog.underlying 54 = some (.slice 3) := by kernel_rfl
theorem key3 : Keyed Tryz.prog 3 := int_keyed u3
theorem zero3 (w : World) : (zeroValue 3).run Tryz.prog w = .ok (.int .i64 0) w := by kernel_rfl
theorem i3 : (Tryz.prog.info? 3).map (fun i => (i.zero,i.size,i.bytes)) = some (some (.int .i64 0),1,8) := by kernel_rfl
theorem n94 : Tryz.f94.ntmps = 46 := by kernel_rfl
def intE (v : Value) : Option (DataW Unit × List MemPlace) := match v with
 | .int .i64 _ => some (.nil,[])
 | _ => none
theorem intE_inv {v : Value} {y : DataW Unit × List MemPlace} (h : intE v = some y) : ∃ c : Int,v = .int .i64 c := by
 unfold intE at h
 split at h
 ·exact ⟨_,rfl⟩
 ·cases h
section
variable (w : World) {ops : Array Oper} {rest : List Oper} {o : Oper} {a : Act} {Q : Exit → Act → World → Prop}
theorem pt_lookup (hg : o.guard = none) (m x : Operand) (hop : o.op = Op.lookup 181 m x false) (b n : Nat) (D : DataW Unit) (hm : a.eval m = .map (some b)) (hown : w.ownsMap Tryz.prog 3 intE b n D)
  (key : Int) (hwf : (Lit.int .i64 key).wf = true) (hx : a.eval x = .int .i64 key) (hK : ∀ c : Int,wpList Tryz.prog ops Q rest (a.put o.dst (.int .i64 c)) w) : wpList Tryz.prog ops Q (o :: rest) a w := by
 refine wpList_plain hg fun K' hK' => ?_
 obtain ⟨v,ps,hrun,hv⟩ := hown.lookup key3 u181 (zero3 w) (zd := .nil) (zp := []) rfl (keyOf_int_mk u3 hwf)
 obtain ⟨c,rfl⟩ := intE_inv hv
 unfold Oper.wp
 simp [execOp,hop,hm,hx,hrun,Result.andThen]
 exact hK' _ _ (hK c)
theorem pt_update (hg : o.guard = none) (m x v : Operand) (hop : o.op = Op.mapUpdate 181 m x v) (b n : Nat) (D : DataW Unit) (hm : a.eval m = .map (some b)) (hown : w.ownsMap Tryz.prog 3 intE b n D) (hn : n < maxLen)
  (key : Int) (hwf : (Lit.int .i64 key).wf = true) (hx : a.eval x = .int .i64 key) (c : Int) (hv : a.eval v = .int .i64 c)
  (hK : ∀ w',w'.ownsMap Tryz.prog 3 intE b (n + 1) (D.put (.int .i64 key) .nil) → w.grownBy w' (some b) → w.drawn ≤ w'.drawn → wpList Tryz.prog ops Q rest (a.put o.dst undef) w') : wpList Tryz.prog ops Q (o :: rest) a w := by
 refine wpList_plain hg fun K' hK' => ?_
 obtain ⟨w',hrun,r1,r2⟩ := hown.update (val := .int .i64 c) (d := .nil) (ps := []) key3 u181 hn (keyOf_int_mk u3 hwf) rfl
 unfold Oper.wp
 simp [execOp,hop,hm,hx,hv,hrun,Result.andThen]
 exact hK' _ _ (hK w' r1 r2 (run_drawn _ _ _ _ hrun))
theorem pt_range (hg : o.guard = none) (m : Operand) (hop : o.op = Op.range 181 m) (b n : Nat) (D : DataW Unit) (hm : a.eval m = .map (some b)) (hown : w.ownsMap Tryz.prog 3 intE b n D)
  (hK : ∀ w',w'.ranges Tryz.prog 3 intE b w.heap.size n D (Maps.has D) (Maps.size D) → w.grownBy w' none → w'.heap.size = w.heap.size + 1 → w.drawn ≤ w'.drawn → wpList Tryz.prog ops Q rest (a.put o.dst (.pointer (some ⟨w.heap.size,0,none⟩))) w') :
  wpList Tryz.prog ops Q (o :: rest) a w := by
 refine wpList_plain hg fun K' hK' => ?_
 obtain ⟨w',hrun,r1,r2,r3⟩ := hown.range key3 u181
 unfold Oper.wp
 simp [execOp,hop,hm,hrun,Result.andThen]
 exact hK' _ _ (hK w' r1 r2 r3 (run_drawn _ _ _ _ hrun))
theorem pt_next (hg : o.guard = none) (it : Operand) (hop : o.op = Op.next it false) (b r n : Nat) (D : DataW Unit) (left : Lit → Bool) (cnt : Nat) (hit : a.eval it = .pointer (some ⟨r,0,none⟩)) (h : w.ranges Tryz.prog 3 intE b r n D left cnt)
  (hDone : (∀ kl,left kl = false) → wpList Tryz.prog ops Q rest (a.put o.dst (.tuple #[.bool false])) w)
  (hMore : ∀ (x c : Int) (w' : World) (cnt' : Nat),Maps.has D (.int .i64 x) = true → left (.int .i64 x) = true → w'.ranges Tryz.prog 3 intE b r n D (fun z => left z && !z.sameKey (.int .i64 x)) cnt' → cnt' < cnt → w.grownBy w' (some r) → w'.heap.size = w.heap.size → w.drawn ≤ w'.drawn →
   (Instr.entry (.pointer (some ⟨r,0,none⟩))).run Tryz.prog w' = .ok (.tuple #[.int .i64 x,.int .i64 c]) w' → wpList Tryz.prog ops Q rest (a.put o.dst (.tuple #[.bool true,.int .i64 x,.int .i64 c])) w') : wpList Tryz.prog ops Q (o :: rest) a w := by
 refine wpList_plain hg fun K' hK' => ?_
 unfold Oper.wp
 rcases h.next key3 o.type with ⟨h0,hl,hrun⟩ | ⟨key,v,kl,y,w',cnt',hkey,hlk,hv,hat,hrun,hrg,hlt,hgr,hsz,hen⟩
 ·simp [execOp,hop,hit,hrun,Result.andThen]
  exact hK' _ _ (hDone hl)
 ·obtain ⟨x,rfl,rfl,_⟩ := Maps.keyOf_int_inv u3 hkey
  obtain ⟨c,rfl⟩ := intE_inv hv
  simp [execOp,hop,hit,hrun,Result.andThen]
  exact hK' _ _ (hMore x c w' cnt' (Maps.has_true_of_atKey hat) hlk hrg hlt hgr hsz (run_drawn _ _ _ _ hrun) hen)
theorem pt_append (hgd : o.guard = none) (s x : Operand) (ho : o.op = .call { callee := .builtin .append,args := #[s,x],argTypes := #[54,54] }) (base : Nat) (v : Value) (n : Nat) (xs : List Value) (hs : a.eval s = v) (hown : w.ownsRow base 3 1 v n xs)
  (ad : Addr) (c : Nat) (u : Int) (hx : a.eval x = .slice (some ad) 1 c) (hu : w.cell? (ad.add 0) = some (.int .i64 u)) (hn : n ≤ 4194304) (hbase : base ≤ w.heap.size)
  (h : ∀ v' w',w'.ownsRow base 3 1 v' (n + 1) (xs ++ [.int .i64 u]) → w.grownBy w' v.ownBlock → w.drawn ≤ w'.drawn → wpList Tryz.prog ops Q rest (a.put o.dst v') w') : wpList Tryz.prog ops Q (o :: rest) a w := by
 obtain ⟨i0,hi,hz0,hz1,hz2⟩ := info_parts i3
 refine wpList_plain hgd fun K' hK' => ?_
 obtain ⟨v',w',hr,h2,h3,h4⟩ := run_append_own (P := Tryz.prog) w base 54 o.type 3 i0 (.int .i64 0) 1 8 u54 hi hz0 hz1 hz2 rfl (by decide) v n xs hown ad 1 c [.int .i64 u] (by simp) (by
  intro j y hj
  cases j with
  | zero => cases hj; exact hu
  | succ j => cases hj) (by intro y hy; simp at hy; subst hy; rfl) (by unfold maxLen; omega) (by omega) hbase
 unfold Oper.wp execOp
 simp only [ho,resolve,invoke,builtin,Sem.run_bind,Sem.run_pure,Result.andThen_ok,List.map_toArray,List.map_cons,List.map_nil,hs,hx,hr]
 exact hK' _ _ (h v' w' h2 h3 (run_drawn _ _ _ _ hr))
end
def Seen (pi fr to : Nat → Int) (t : Int) (k : Nat) (D : DataW Unit) : Prop := IsMap D ∧ ∀ x : Int,Maps.has D (.int .i64 x) = true ↔ ∃ j,j < k ∧ pi j = x ∧ fr j ≤ t ∧ t < to j
theorem Seen.skip {pi fr to : Nat → Int} {t : Int} {k : Nat} {D : DataW Unit} (h : Seen pi fr to t k D) (hn : ¬ (fr k ≤ t ∧ t < to k)) : Seen pi fr to t (k + 1) D := by
 refine ⟨h.1,fun x => (h.2 x).trans ⟨fun ⟨j,h1,h2⟩ => ⟨j,by omega,h2⟩,fun ⟨j,h1,h2,h3⟩ => ?_⟩⟩
 by_cases e : j = k
 ·subst e; exact absurd h3 hn
 ·exact ⟨j,by omega,h2,h3⟩
theorem Seen.put {pi fr to : Nat → Int} {t : Int} {k : Nat} {D : DataW Unit} (h : Seen pi fr to t k D) (h1 : fr k ≤ t) (h2 : t < to k) : Seen pi fr to t (k + 1) (D.put (.int .i64 (pi k)) .nil) := by
 refine ⟨?_,fun x => ?_⟩
 ·obtain ⟨es,rfl⟩ := h.1
  exact ⟨_,rfl⟩
 ·by_cases e : x = pi k
  ·subst e
   rw [Maps.has_put_same h.1 (by simp [WideAt.IsKeyLit])]
   exact ⟨fun _ => ⟨k,by omega,rfl,h1,h2⟩,fun _ => rfl⟩
  ·rw [Maps.has_put_other (by intro e2; cases e2; exact e rfl),h.2 x]
   refine ⟨fun ⟨j,h3,h4⟩ => ⟨j,by omega,h4⟩,fun ⟨j,h3,h4,h5⟩ => ?_⟩
   by_cases e3 : j = k
   ·subst e3; exact absurd h4.symm e
   ·exact ⟨j,by omega,h4,h5⟩
structure Came (D : DataW Unit) (left : Lit → Bool) (xs : List Int) : Prop where
 nd : xs.Nodup
 mem : ∀ x : Int,x ∈ xs ↔ Maps.has D (.int .i64 x) = true ∧ left (.int .i64 x) = false
theorem Came.nil (D : DataW Unit) : Came D (Maps.has D) [] := ⟨List.nodup_nil,fun x => ⟨fun h => absurd h (List.not_mem_nil),fun h => absurd (h.1.symm.trans h.2) (by decide)⟩⟩
theorem Came.put {D : DataW Unit} {left : Lit → Bool} {xs : List Int} (h : Came D left xs) {x : Int} (hx : Maps.has D (.int .i64 x) = true) (hl : left (.int .i64 x) = true) : Came D (fun z => left z && !z.sameKey (.int .i64 x)) (xs ++ [x]) := by
 refine ⟨List.nodup_append.2 ⟨h.nd,by simp,fun a ha b hb e => ?_⟩,fun y => ?_⟩
 ·simp only [List.mem_cons,List.not_mem_nil,or_false] at hb
  have e2 : a = x := e.trans hb
  rw [e2] at ha
  have := ((h.mem x).1 ha).2
  rw [hl] at this
  cases this
 ·rw [List.mem_append,h.mem y]
  simp only [List.mem_cons,List.not_mem_nil,or_false]
  by_cases e : y = x
  ·subst e
   have : (Lit.int IntKind.i64 y).sameKey (.int .i64 y) = true := WideAt.sameKey_self (by simp [WideAt.IsKeyLit])
   rw [this]
   simp [hx]
  ·have : (Lit.int IntKind.i64 y).sameKey (.int .i64 x) = false := by
    cases hs : (Lit.int IntKind.i64 y).sameKey (.int .i64 x) with
    | false => rfl
    | true => have := WideAt.sameKey_eq hs; cases this; exact absurd rfl e
   rw [this]
   simp [e]
theorem size_le {w : World} {b n : Nat} {D : DataW Unit} (h : w.ownsMap Tryz.prog 3 intE b n D) : Maps.size D ≤ n := by
 obtain ⟨es,clock,hb,F,hs,rfl⟩ := h
 simp only [Maps.size,length_sorted,List.length_map,Array.length_toList]
 exact hs
theorem pitches_walk (b off len cap : Nat) (ev co pi fr to : Nat → Int) (t : Int) (w : World) (hlen : len ≤ 4194304) (hb : b < w.heap.size)
  (hw : ∀ j,(Lit.int .i64 (pi j)).wf = true)
  (hc0 : ∀ j,j < len → w.cell? ⟨b,off + j * 5,none⟩ = some (.int .i64 (ev j)))
  (hc1 : ∀ j,j < len → w.cell? ⟨b,off + j * 5 + 1,none⟩ = some (.int .i64 (co j)))
  (hc2 : ∀ j,j < len → w.cell? ⟨b,off + j * 5 + 2,none⟩ = some (.int .i64 (pi j)))
  (hc3 : ∀ j,j < len → w.cell? ⟨b,off + j * 5 + 3,none⟩ = some (.int .i64 (fr j)))
  (hc4 : ∀ j,j < len → w.cell? ⟨b,off + j * 5 + 4,none⟩ = some (.int .i64 (to j)))
  (hs0 : ∀ w : World,Calls Tryz.prog 95 #[.slice none 0 0] w fun e w' => e = .returned (.tuple #[]) ∧ Below w.heap.size w w' ∧ w.drawn ≤ w'.drawn)
  (hs1 : ∀ (blk cap : Nat) (zs : List Int) (w : World),Go.Sort.Holds (Value.int .i64) w blk 0 zs.toArray → blk < w.heap.size → zs.length < 4611686018427387904 →
   Calls Tryz.prog 95 #[.slice (some ⟨blk,0,none⟩) zs.length cap] w fun e w' => e = .returned (.tuple #[]) ∧ ∃ n os,w' = Go.Sort.grow (Go.Sort.putRow (Value.int .i64) (Go.Sort.ahead w n) blk 0 (zs.mergeSort fun x y => decide (x ≤ y)).toArray) os) :
  Calls Tryz.prog 94 #[.slice (some ⟨b,off,none⟩) len cap,.int .i64 t] w fun e w' => ∃ (v : Value) (xs : List Int),e = .returned v ∧ xs.Nodup ∧ (∀ x,x ∈ xs ↔ ∃ j,j < len ∧ pi j = x ∧ fr j ≤ t ∧ t < to j) ∧ xs.length ≤ len ∧
   w'.ownsRow w.heap.size 3 1 v xs.length ((xs.mergeSort fun x y => decide (x ≤ y)).map (Value.int .i64)) ∧ Below w.heap.size w w' ∧ w.drawn ≤ w'.drawn := by
 have hmm := @run_makeMap Tryz.prog
 go_enter Tryz.func94,n94
 go_wp2
 go_loopw [13] (fun i wr => ∃ (k n : Nat) (D : DataW Unit),k ≤ len ∧ n ≤ k ∧ i = .int .i64 k ∧ wr.ownsMap Tryz.prog 3 intE w.heap.size n D ∧ Seen pi fr to t k D ∧ Below w.heap.size w wr ∧ w.drawn ≤ wr.drawn)
  (fun i _ => len - (intOf i).toNat)
 case atStart =>
  exact ⟨0,0,.map [],Nat.zero_le _,Nat.le_refl _,rfl,World.ownsMap_made _ _ _ _,⟨⟨[],rfl⟩,fun x => by simp [Maps.has]⟩,(Below.refl _ _).alloc (Nat.le_refl _) _,Nat.le_refl _⟩
 case round =>
  obtain ⟨k,n,D,hk,hn,rfl,hown,hseen,hbel,hdr⟩ := hrel
  have g0 : k < len → wr.cell? ⟨b,off + k * 5,none⟩ = some (.int .i64 (ev k)) := fun h => (hbel.cell (by exact hb)).trans (hc0 k h)
  have g1 : k < len → wr.cell? ⟨b,off + k * 5 + 1,none⟩ = some (.int .i64 (co k)) := fun h => (hbel.cell (by exact hb)).trans (hc1 k h)
  have g2 : k < len → wr.cell? ⟨b,off + k * 5 + 2,none⟩ = some (.int .i64 (pi k)) := fun h => (hbel.cell (by exact hb)).trans (hc2 k h)
  have g3 : k < len → wr.cell? ⟨b,off + k * 5 + 3,none⟩ = some (.int .i64 (fr k)) := fun h => (hbel.cell (by exact hb)).trans (hc3 k h)
  have g4 : k < len → wr.cell? ⟨b,off + k * 5 + 4,none⟩ = some (.int .i64 (to k)) := fun h => (hbel.cell (by exact hb)).trans (hc4 k h)
  have hsz := hbel.size
  have hmlt := hown.lt
  go_wp2_with (first
   | (at_lookup; refine pt_lookup _ rfl _ _ rfl w.heap.size n D rfl (hown.alloc _) (pi k) (hw k) rfl ?_; intro c)
   | (at_mapUpdate; refine pt_update _ rfl _ _ _ rfl w.heap.size n D rfl (hown.alloc _) (by unfold maxLen; omega) (pi k) (hw k) rfl _ rfl ?_; intro w1 hown1 hgrow1 hdr1)
   | (at_range; refine pt_range _ rfl _ rfl w.heap.size n D rfl hown ?_; intro w0 hrg0 hg0 hs0' hdr0)
   | go_in)
  · -- a note that sounds
   have h1 : fr k ≤ t := by assumption
   have h2 : t < to k := by assumption
   have hb1 := (hbel.alloc hsz (.cells #[Value.int .i64 (ev k),Value.int .i64 (co k),Value.int .i64 (pi k),Value.int .i64 (fr k),Value.int .i64 (to k)] 74)).grown hgrow1 (by simp; omega) (fun j hj => by cases hj; exact Nat.le_refl _)
   refine ⟨⟨k + 1,n + 1,_,by omega,by omega,by go_num,hown1,hseen.put h1 h2,hb1,Nat.le_trans hdr hdr1⟩,by simp [intOf]; omega⟩
  · -- one that has ended
   have h2 : ¬ t < to k := by omega
   exact ⟨⟨k + 1,n,D,by omega,by omega,by go_num,hown.alloc _,hseen.skip (fun h => h2 h.2),hbel.alloc hsz _,hdr⟩,by simp [intOf]; omega⟩
  ·have h2 : ¬ fr k ≤ t := by omega
   exact ⟨⟨k + 1,n,D,by omega,by omega,by go_num,hown.alloc _,hseen.skip (fun h => h2 h.1),hbel.alloc hsz _,hdr⟩,by simp [intOf]; omega⟩
  ·have hkl : k = len := by omega
   subst hkl
   go_frame
   simp only [Nat.lt_irrefl,decide_false]
   have hgb0 := hbel.grown hg0 hsz (fun j hj => by cases hj)
   have hszD := size_le hown
   clear hown hmlt g0 g1 g2 g3 g4
   generalize hR : wr.heap.size = R at *
   go_loopw [8] (fun v wr2 => ∃ (left : Lit → Bool) (cnt : Nat) (xs : List Int),wr2.ranges Tryz.prog 3 intE w.heap.size R n D left cnt ∧ wr2.ownsRow (R + 1) 3 1 v xs.length (xs.map (Value.int .i64)) ∧ Came D left xs ∧ xs.length + cnt ≤ k ∧
     Below w.heap.size w wr2 ∧ w.drawn ≤ wr2.drawn ∧ R + 1 ≤ wr2.heap.size)
    (fun _ wr2 => wr2.rangeLeft w.heap.size R)
   case atStart =>
    exact ⟨_,_,[],hrg0,World.ownsRow_nil _ _ _ _,Came.nil D,by simp only [List.length_nil]; omega,hgb0,Nat.le_trans hdr hdr0,by omega⟩
   case round =>
    obtain ⟨left,cnt,xs,hrg,hrow,hcame,hcnt,hbel2,hdr2,hsz2⟩ := hrel
    have hmR : w.heap.size < R := by have := hrg.owns.lt; have := hrg.ne; omega
    go_wp2_with (first
     | (at_next; refine pt_next _ rfl _ rfl w.heap.size R n D left cnt rfl hrg ?_ ?_)
     | go_in)
    · -- nothing is left
     intro hl0
     rcases hrow.2 with ⟨rfl,hn0⟩ | ⟨g,cp,cur,rfl,hg,hblk,hle,hmx,hcs,htk⟩
     ·have hx0 : xs = [] := List.eq_nil_of_length_eq_zero hn0
      subst hx0
      go_wp2_with (first
       | (go_at_call 95; refine (hs0 _).mono ?_; rintro e w' ⟨rfl,hb3,hd3⟩)
       | go_in)
      go_ret
      exact ⟨.slice none 0 0,[],rfl,List.nodup_nil,fun x => ⟨fun h => absurd h List.not_mem_nil,fun h => (hcame.mem x).2 ⟨(hseen.2 x).2 h,hl0 _⟩⟩,Nat.zero_le _,by simpa using World.ownsRow_nil w' w.heap.size 3 1,hbel2.trans (hb3.mono hbel2.size),Nat.le_trans hdr2 hd3⟩
     ·have hholds := holds_of_blockI hblk (ss := xs) (by rw [Nat.mul_one] at htk; exact htk)
      have hlt3 := (Array.getElem?_eq_some_iff.1 hblk).1
      have hcall := hs1 g cp xs wr hholds hlt3 (by omega)
      go_wp2_with (first
       | (go_at_call 95; refine hcall.mono ?_; rintro e w' ⟨rfl,m,os,hw'⟩)
       | go_in)
      go_ret
      have hl3 : (xs.mergeSort fun x y => decide (x ≤ y)).length = xs.length := List.length_mergeSort xs
      have hown3 := ownsRow_sortedI (n := m) (os := os) hl3 (show w.heap.size ≤ g by omega) hblk hle hmx hcs
      have hg3 := grownBy_sortedI (w := wr) (g := g) (n := m) (os := os) (xs.mergeSort fun x y => decide (x ≤ y)).toArray
      refine ⟨.slice (some ⟨g,0,none⟩) xs.length cp,xs,rfl,hcame.nd,fun x => ⟨fun h => (hseen.2 x).1 ((hcame.mem x).1 h).1,fun h => (hcame.mem x).2 ⟨(hseen.2 x).2 h,hl0 _⟩⟩,by omega,hown3,hbel2.grown hg3 hbel2.size (fun j hj => by cases hj; omega),?_⟩
      exact Nat.le_trans hdr2 (Nat.le_add_right _ _)
    · -- a key
     intro x c w1 cnt1 hhas hlx hrg1 hlt1 hg1 hs1' hdr1 hen
     have hrow1 := hrow.kept hg1 (by
      cases hv : u8.ownBlock with
      | none => exact .inl rfl
      | some g => exact .inr (by have := (hrow.lt g hv).1; intro e; cases e; omega))
     go_wp2_with (first
      | (at_builtin; refine pt_append _ rfl _ _ rfl (R + 1) u8 xs.length (xs.map (Value.int .i64)) rfl (hrow1.alloc _) ⟨wr.heap.size,0,none⟩ 1 x rfl (by rw [← hs1']; exact cell_one_new _ _ _ 0 _ rfl) (by omega) (by simp; omega) ?_; intro v' w2 hrow2 hg2 hdr3)
      | go_in)
     have hne := hrg.ne
     have hv8 : ∀ g,u8.ownBlock = some g → R + 1 ≤ g := fun g hg => (hrow.lt g hg).1
     have hrg2 := (hrg1.alloc (.cells #[Value.int .i64 x] 3)).kept hg2 (by intro e; have := hv8 _ e.symm; omega) (by intro e; have := hv8 _ e.symm; omega)
     have hszg := hg2.size
     simp only [World.size_alloc] at hszg
     go_roundw
     case rel =>
      refine ⟨_,cnt1,xs ++ [x],hrg2,by simpa using hrow2,hcame.put hhas hlx,by simp only [List.length_append,List.length_cons,List.length_nil]; omega,?_,Nat.le_trans hdr2 (Nat.le_trans hdr1 hdr3),by omega⟩
      have b1 := hbel2.grown hg1 hbel2.size (fun j hj => by cases hj; omega)
      have b2 := b1.alloc b1.size (.cells #[Value.int .i64 x] 3)
      exact b2.grown hg2 b2.size (fun j hj => by have := hv8 _ hj; omega)
     case measure =>
      rw [hrg.left_eq,hrg2.left_eq]
      exact hlt1
theorem pitches_none (a : Option Addr) (cap : Nat) (t : Int) (w : World)
  (hs0 : ∀ w : World,Calls Tryz.prog 95 #[.slice none 0 0] w fun e w' => e = .returned (.tuple #[]) ∧ Below w.heap.size w w' ∧ w.drawn ≤ w'.drawn) :
  Calls Tryz.prog 94 #[.slice a 0 cap,.int .i64 t] w fun e w' => e = .returned (.slice none 0 0) ∧ Below w.heap.size w w' ∧ w.drawn ≤ w'.drawn := by
 have hmm := @run_makeMap Tryz.prog
 have hown := World.ownsMap_made (H := Unit) w Tryz.prog 3 intE
 go_enter Tryz.func94,n94
 go_wp2
 refine wp_loop_rounds 1 ?_
 rw [rounds_succ]
 go_wp2_with (first
  | (at_range; refine pt_range _ rfl _ rfl w.heap.size 0 (.map []) rfl hown ?_; intro w0 hrg0 hg0 hs0' hdr0)
  | go_in)
 go_frame
 refine wp_loop_rounds 1 ?_
 rw [rounds_succ]
 have hb0 := ((Below.refl w.heap.size w).alloc (Nat.le_refl _) (.map #[] 0)).grown hg0 (by simp) (fun j hj => by cases hj)
 go_wp2_with (first
  | (at_next; refine pt_next _ rfl _ rfl w.heap.size _ 0 (.map []) _ _ rfl hrg0 ?_ (fun x c w' cnt' hhas => by simp [Maps.has] at hhas))
  | go_in)
 intro _
 go_wp2_with (first
  | (go_at_call 95; refine (hs0 _).mono ?_; rintro e w' ⟨rfl,hb3,hd3⟩)
  | go_in)
 go_ret
 exact ⟨rfl,hb0.trans (hb3.mono hb0.size),Nat.le_trans hdr0 hd3⟩
end Go.Proofs.YtjjendjmakhfaaaGreat
