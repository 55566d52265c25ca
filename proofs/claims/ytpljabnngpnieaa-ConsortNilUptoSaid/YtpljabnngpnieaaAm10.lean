/-
  The logic AM, part 10: operations are carried out as 'aop' says: copy, make, build, arithmetic.
  Own work. No Go text.
-/
import Derived.Test.YtpljabnngpnieaaAm9
import Derived.Laws.StructEq
namespace Go.Am
open Go.RowKit

section
variable {P : Program} {G : Ghost} {s s' : St} {w : World} {env : Env} {a : Act}

theorem copy_core (hs : Sim G s w) {t u ty e : Nat} {yv : Value} {y : AV} (hy : V G y yv) {new : List AV} (he : elemT P t = some e) (hel : elemsOf y s = some new) (hf : fitsV P e y s)
    {id start len cap esz addr : Nat} {elems : List AV} {r : Reg} (hg : eget s.heap id = some (.cells esz elems)) (hsz : sizeT P e = some esz) (hin0 : start ≤ elems.length)
    (ho : G.own id = some r) (hle : len ≤ cap) (hin : r.base + (start + cap) * r.esz ≤ r.size) (haddr : 0 < cap → addr = r.base + start * r.esz) :
    Did P G s w (Builtin.copy_ #[t, u] ty #[.slice (some ⟨r.block, addr, none⟩) len cap, yv]) (.int .i64 (min new.length len : Nat)) ⟨eset s.heap id (.cells esz (elems.take start ++ (new.take (min new.length len) ++ elems.drop (start + min new.length len)))), s.cnt⟩ := by
  have ht := elemT_u he
  obtain ⟨o, e2, e3⟩ := hs.at hg ho
  cases e3 with
  | cells _ _ cs te hcs hesz h0 hle0 hscE hin' hV =>
    subst hesz
    obtain ⟨f1, f2, f3, f4⟩ := firstCells_run (P := P) hs hy hel hsz hf
    have hnn : Nat.min new.length len ≤ new.length := Nat.min_le_left _ _
    obtain ⟨vs, g1, g2⟩ := f4 (Nat.min new.length len) hnn
    have hn2 : Nat.min new.length len ≤ len := Nat.min_le_right _ _
    have hmin : min new.length len = Nat.min new.length len := rfl
    have htl : (new.take (Nat.min new.length len)).length = Nat.min new.length len := by rw [List.length_take]; exact Nat.min_eq_left hnn
    have hfl : ∀ y ∈ new.take (Nat.min new.length len), y.cells.length = r.esz := fun y hy => f1 y (List.mem_of_mem_take hy)
    have hvs : vs.size = Nat.min new.length len * r.esz := by rw [← g2.1, flat_length hfl, htl]
    have hscN : ∀ y ∈ flat (new.take (Nat.min new.length len)), y.scalar = true := fun y hy => f2 y (by
      rw [flat, List.mem_flatMap] at hy ⊢
      obtain ⟨q, hq, hy⟩ := hy
      exact ⟨q, List.mem_of_mem_take hq, hy⟩)
    rw [hmin]
    generalize hn : Nat.min new.length len = n at *
    by_cases hn0 : n = 0
    · subst hn0
      have : vs = #[] := Array.eq_empty_of_size_eq_zero (by simpa using hvs)
      subst this
      have hid : elems.take start ++ (new.take 0 ++ elems.drop (start + 0)) = elems := by simp
      rw [hid]
      have hset : ∀ i b, eget (eset s.heap id (.cells r.esz elems)) i = some b → eget s.heap i = some b := fun i b hi => by
        rw [get_set] at hi
        split at hi
        · rename_i hq; subst hq; rw [hg]; exact hi
        · exact hi
      refine ⟨_, G, w, ?_, V.int .i64 ((0 : Nat) : Int), hs.drop hset (Nat.le_refl _), Ext.drop hset (Nat.le_refl _) fun i hi => ?_⟩
      · simp [Builtin.copy_, run_underlying ht, f3, run_sizeT hsz, hn, g1 w (fun _ => rfl), storeCells, goInt]
      · rw [get_set]; split
        · rename_i hq; subst hq; rw [hg] at hi; exact hi
        · exact hi
    · have had := haddr (by omega)
      subst had
      have hfit : r.base + start * r.esz + vs.toList.length ≤ cs.size := by
        simp only [Array.length_toList]
        rw [hvs, hcs, Nat.add_assoc, ← Nat.add_mul]
        exact Nat.le_trans (Nat.add_le_add_left (Nat.mul_le_mul_right _ (by omega)) _) hin
      have hrun := run_storeCells_at P r.block (r.base + start * r.esz) te vs.toList 0 cs w e2 (by simpa using hfit) (g2.oneCells hscN)
      simp only [Nat.add_zero] at hrun
      have hel' : ∀ y ∈ elems.take start ++ (new.take n ++ elems.drop (start + n)), y.cells.length = r.esz := fun y hy => by
        simp only [List.mem_append] at hy
        rcases hy with hy | hy | hy
        · exact hle0 y (List.mem_of_mem_take hy)
        · exact hfl y hy
        · exact hle0 y (List.mem_of_mem_drop hy)
      have hfs : (flat (elems.take start)).length = start * r.esz := by
        rw [flat_length (esz := r.esz) fun y hy => hle0 y (List.mem_of_mem_take hy)]; congr 1; simp; omega
      have hfn : (flat (new.take n)).length = n * r.esz := by rw [flat_length hfl, htl]
      obtain ⟨q1, q2⟩ := turn_row hs hg ho e2 (elems' := elems.take start ++ (new.take n ++ elems.drop (start + n))) (cs' := (cs.toList.take (r.base + start * r.esz) ++ vs.toList ++ cs.toList.drop (r.base + start * r.esz + vs.toList.length)).toArray)
        (by simp only [List.size_toArray, List.length_append, List.length_take, List.length_drop, Array.length_toList] at hfit ⊢; omega) rfl h0 hel' (fun y hy => by
          rw [flat_append, flat_append] at hy
          simp only [List.mem_append] at hy
          have q : ∀ (l : List AV), (∀ z ∈ l, z ∈ elems) → ∀ y ∈ flat l, y.scalar = true := fun l hl y hy => hscE y (by
            rw [flat, List.mem_flatMap] at hy ⊢
            obtain ⟨z, hz, hy⟩ := hy
            exact ⟨z, hl z hz, hy⟩)
          rcases hy with hy | hy | hy
          · exact q _ (fun z hz => List.mem_of_mem_take hz) y hy
          · exact hscN y hy
          · exact q _ (fun z hz => List.mem_of_mem_drop hz) y hy)
        (by
          have q : (elems.take start ++ (new.take n ++ elems.drop (start + n))).length = max elems.length (start + n) := by simp [htl]; omega
          rw [q]
          rcases Nat.le_total elems.length (start + n) with c | c
          · rw [Nat.max_eq_right c]; exact Nat.le_trans (Nat.add_le_add_left (Nat.mul_le_mul_right _ (by omega)) _) hin
          · rw [Nat.max_eq_left c]; exact hin') fun k y hk => by
          rw [flat_append, flat_append] at hk
          rw [array_mid_get _ _ _ _ hfit]
          by_cases c1 : k < start * r.esz
          · rw [if_pos (by omega)]
            rw [List.getElem?_append_left (by omega)] at hk
            have hk' := flat_take (n := start) (l := 0) hle0 h0 (k := k) (x := y) (by simpa using hk)
            simpa using hV _ y (by simpa using hk')
          · rw [if_neg (by omega)]
            rw [List.getElem?_append_right (by omega), hfs] at hk
            by_cases c2 : k < start * r.esz + n * r.esz
            · rw [if_pos (by simp only [Array.length_toList]; omega)]
              rw [List.getElem?_append_left (by omega)] at hk
              obtain ⟨v, p1, p2⟩ := g2.get hk
              refine ⟨v, ?_, p2⟩
              rw [show r.base + k - (r.base + start * r.esz) = k - start * r.esz from by omega]
              simpa using p1
            · rw [if_neg (by simp only [Array.length_toList]; omega)]
              rw [List.getElem?_append_right (by omega), hfn] at hk
              have hk' := flat_take (n := elems.length) (l := start + n) hle0 h0 (k := k - start * r.esz - n * r.esz) (x := y) (by rw [List.take_length]; exact hk)
              rw [show (start + n) * r.esz + (k - start * r.esz - n * r.esz) = k from by rw [Nat.add_mul]; omega] at hk'
              exact hV k y hk'
      refine ⟨_, G, _, ?_, V.int .i64 (n : Int), q1, q2⟩
      simp [Builtin.copy_, run_underlying ht, f3, run_sizeT hsz, hn, g1 w (fun _ => rfl), hrun, goInt]

theorem copy_did (hs : Sim G s w) {t u ty e : Nat} {x z : AV} {xv yv : Value} (hx : V G x xv) {y : AV} (hy : V G y yv) {new : List AV} (he : elemT P t = some e) (hel : elemsOf y s = some new) (hf : fitsV P e y s)
    (h : aCopy P t x new s = some (z, s')) : Did P G s w (Builtin.copy_ #[t, u] ty #[xv, yv]) z s' := by
  unfold aCopy at h
  rw [he] at h
  simp only at h
  have ht := elemT_u he
  split at h
  · rename_i id start len
    split at h
    case h_2 => cases h
    rename_i esz elems hg
    split at h
    case isFalse => cases h
    rename_i hc
    obtain ⟨hsz, hin0⟩ := hc
    cases h
    cases hx with
    | msnil _ _ cap base hc =>
      subst hc
      have hid : elems.take start ++ (new.take (min new.length 0) ++ elems.drop (start + min new.length 0)) = elems := by simp
      rw [hid]
      have hset : ∀ i b, eget (eset s.heap id (.cells esz elems)) i = some b → eget s.heap i = some b := fun i b hi => by
        rw [get_set] at hi
        split at hi
        · rename_i hq; subst hq; rw [hg]; exact hi
        · exact hi
      obtain ⟨f1, f2, f3, f4⟩ := firstCells_run (P := P) hs hy hel hsz hf
      obtain ⟨vs, g1, g2⟩ := f4 0 (Nat.zero_le _)
      have hvs : vs = #[] := Array.eq_empty_of_size_eq_zero (by rw [← g2.1]; simp [flat])
      subst hvs
      refine ⟨_, G, w, ?_, by simpa using V.int .i64 ((0 : Nat) : Int), hs.drop hset (Nat.le_refl _), Ext.drop hset (Nat.le_refl _) fun i hi => ?_⟩
      · cases base <;> simp [Builtin.copy_, run_underlying ht, f3, run_sizeT hsz, g1 w (fun _ => rfl), storeCells, goInt]
      · rw [get_set]; split
        · rename_i hq; subst hq; rw [hg] at hi; exact hi
        · exact hi
    | ms _ _ _ cap r addr ho hle hin haddr => exact copy_core hs hy he hel hf hg hsz (by omega) ho hle hin haddr
  · rename_i id start len cap
    split at h
    case h_2 => cases h
    rename_i esz elems hg
    split at h
    case isFalse => cases h
    rename_i hc
    obtain ⟨hsz, hin0⟩ := hc
    cases h
    cases hx with
    | mcnil _ _ base =>
      have hid : elems.take start ++ (new.take (min new.length 0) ++ elems.drop (start + min new.length 0)) = elems := by simp
      rw [hid]
      have hset : ∀ i b, eget (eset s.heap id (.cells esz elems)) i = some b → eget s.heap i = some b := fun i b hi => by
        rw [get_set] at hi
        split at hi
        · rename_i hq; subst hq; rw [hg]; exact hi
        · exact hi
      obtain ⟨f1, f2, f3, f4⟩ := firstCells_run (P := P) hs hy hel hsz hf
      obtain ⟨vs, g1, g2⟩ := f4 0 (Nat.zero_le _)
      have hvs : vs = #[] := Array.eq_empty_of_size_eq_zero (by rw [← g2.1]; simp [flat])
      subst hvs
      refine ⟨_, G, w, ?_, by simpa using V.int .i64 ((0 : Nat) : Int), hs.drop hset (Nat.le_refl _), Ext.drop hset (Nat.le_refl _) fun i hi => ?_⟩
      · cases base <;> simp [Builtin.copy_, run_underlying ht, f3, run_sizeT hsz, g1 w (fun _ => rfl), storeCells, goInt]
      · rw [get_set]; split
        · rename_i hq; subst hq; rw [hg] at hi; exact hi
        · exact hi
    | mc _ _ _ _ r addr ho hle hin haddr => exact copy_core hs hy he hel hf hg hsz hin0 ho hle hin haddr
  · rename_i full elems
    split at h
    case isFalse => cases h
    rename_i hc
    cases h
    obtain ⟨base, cap, rfl, hle, _, _, _⟩ := V.sl_inv hx
    cases hq : sizeT P e with
    | none => rw [hq] at hc; cases hc.2
    | some sz =>
      obtain ⟨f1, f2, f3, f4⟩ := firstCells_run (P := P) hs hy hel hq hf
      obtain ⟨vs, g1, g2⟩ := f4 0 (Nat.zero_le _)
      have hvs : vs = #[] := Array.eq_empty_of_size_eq_zero (by rw [← g2.1]; simp [flat])
      subst hvs
      have hn : Nat.min new.length elems.length = 0 := hc.1
      refine did_pure hs (v := goInt 0) ?_ (.int _ _)
      cases base <;> simp [Builtin.copy_, run_underlying ht, f3, run_sizeT hq, hn, g1 w (fun _ => rfl), storeCells, goInt]
  · cases h

theorem lenS_val {x : AV} {v : Value} {n : Nat} (hx : V G x v) (h : lenS x = some n) : ∃ base cap, v = .slice base n cap := by
  cases hx <;> cases h <;> exact ⟨_, _, rfl⟩

theorem copyM_did (hs : Sim G s w) {t u ty : Nat} {x z : AV} {xv yv : Value} (hx : V G x xv) {id start len cap : Nat} (hy : V G (.mc id start len cap) yv)
    (h : aCopyM P t x id start len s = some (z, s')) : Did P G s w (Builtin.copy_ #[t, u] ty #[xv, yv]) z s' := by
  unfold aCopyM at h
  split at h
  case h_2 => cases h
  rename_i e esz elems n he hg hn
  split at h
  case isFalse => cases h
  rename_i hc
  obtain ⟨hsz, hin⟩ := hc
  obtain ⟨base, c, rfl⟩ := lenS_val hx hn
  have trim : ∀ b m, yv = .slice b len m → V G (.ms id start (min len n)) (.slice b (min len n) m) → Did P G s w (Builtin.copy_ #[t, u] ty #[.slice base n c, yv]) z s' := fun b m hb hv => by
    have hd := copy_did (u := u) (ty := ty) hs hx hv he (new := (elems.drop start).take (min len n)) (by simp [elemsOf, hg, hin]) (by simp [fitsV, hg, hsz]) h
    have e1 : Nat.min (min len n) n = Nat.min len n := by show min (min len n) n = min len n; omega
    obtain ⟨v, G', w', h1, h2⟩ := hd
    refine ⟨v, G', w', ?_, h2⟩
    subst hb
    rw [← h1]
    simp only [Builtin.copy_, Builtin.lenOf]
    simp [run_underlying (elemT_u he), run_sizeT hsz, e1]
    cases b <;> simp [Builtin.firstCells]
  cases hy with
  | mcnil _ _ b =>
    refine trim b 0 rfl ?_
    rw [Nat.zero_min]
    exact .msnil _ _ _ _ rfl
  | mc _ _ _ _ r addr ho hle hin2 haddr => exact trim _ _ rfl (.ms _ _ _ _ r addr ho (by omega) hin2 haddr)

theorem flat_replicate (n : Nat) (z : AV) {k : Nat} {x : AV} (h0 : 0 < z.cells.length) (h : (flat (List.replicate n z))[k]? = some x) : k < n * z.cells.length ∧ z.cells[k % z.cells.length]? = some x := by
  have hall : ∀ y ∈ List.replicate n z, y.cells.length = z.cells.length := fun y hy => by rw [List.eq_of_mem_replicate hy]
  have hk : k < n * z.cells.length := by
    have := (List.getElem?_eq_some_iff.1 h).1
    rwa [flat_length hall, List.length_replicate] at this
  obtain ⟨e, he, hx⟩ := flat_inv hall h0 h
  rw [List.getElem?_replicate] at he
  split at he
  · cases he; exact ⟨hk, hx⟩
  · cases he

theorem make_did (hs : Sim G s w) {t : Nat} {l c z : AV} {lv cv : Value} (hl : V G l lv) (hcv : V G c cv) (h : aMake P t l c s = some (z, s')) : Did P G s w (Instr.makeSlice t lv cv) z s' := by
  unfold aMake at h
  split at h
  case h_2 => cases h
  rename_i k1 n k2 m e he
  cases hl; cases hcv
  split at h
  case h_2 => cases h
  rename_i sz by_ zz hsz hby hz
  split at h
  case isFalse => cases h
  rename_i hc
  obtain ⟨h1, h2, h3, h4, h5, h6, h7⟩ := hc
  cases h
  have ht := elemT_u he
  obtain ⟨i, hi, rfl⟩ := sizeT_info hsz
  obtain ⟨i', hi', rfl⟩ := bytesT_info hby
  rw [hi] at hi'; cases hi'
  obtain ⟨zv, hzv, hzV⟩ := run_zeroT hz w G
  have hzl := VL.cells hzV (not_any h6)
  have h3' := h3
  unfold maxElems at h3'
  have w1 : IntKind.i64.wrap n = n := wrap_id h1 (by omega)
  have w2 : IntKind.i64.wrap m = m := wrap_id (by omega) h3
  have hb : ¬ (281474976710656 < (i.bytes : Int) * m) := by
    have h6 : (i.bytes : Int) * m ≤ 4096 * m := Int.mul_le_mul_of_nonneg_right (by omega) (by omega)
    omega
  have n1 : ¬ (m < 0) := by omega
  have n2 : ¬ (n < 0) := by omega
  have n3 : ¬ (m < n) := by omega
  have hzs : zv.cells.size = i.size := by rw [← hzl.1, h5]
  obtain ⟨q1, q2⟩ := hs.put (o := .cells ((Array.range (m.toNat * i.size)).map (fun j => (if m.toNat * i.size = 0 then #[] else zv.cells)[j % (if m.toNat * i.size = 0 then #[] else zv.cells).size]!)) e)
    (blk := .cells i.size (List.replicate n.toNat zz)) (r := ⟨w.heap.size, 0, i.size, m.toNat * i.size⟩) rfl
    (.cells _ _ _ _ (by simp) rfl h4 (fun y hy => by rw [List.eq_of_mem_replicate hy]; exact h5) (fun y hy => by
        rw [flat, List.mem_flatMap] at hy
        obtain ⟨q, hq, hy⟩ := hy
        rw [List.eq_of_mem_replicate hq] at hy
        exact scal_of_all h6 y hy) (by simp only [Nat.zero_add, List.length_replicate]; exact Nat.mul_le_mul_right _ (by omega)) fun k y hk => by
        obtain ⟨p1, p2⟩ := flat_replicate _ _ (by omega) hk
        have hlt : k < m.toNat * i.size := by
          rw [h5] at p1
          exact Nat.lt_of_lt_of_le p1 (Nat.mul_le_mul_right _ (by omega))
        obtain ⟨v, r1, r2⟩ := hzl.get p2
        refine ⟨v, ?_, r2.mono (.put (hs.fresh _ (Nat.le_refl _)))⟩
        rw [if_neg (by omega)]
        rw [h5] at r1
        have hb2 : zv.cells[k % i.size]! = v := by rw [Array.getElem!_eq_getD, Array.getD_eq_getD_getElem?, r1]; rfl
        simp [hlt, hzs, hb2])
  refine ⟨.slice (some ⟨w.heap.size, 0, none⟩) n.toNat m.toNat, _, _, ?_, ?_, q1, q2⟩
  · by_cases hN : m.toNat * i.size = 0
    · have hN' : m.toNat = 0 ∨ i.size = 0 := Nat.mul_eq_zero.1 hN
      have hm0 : m = 0 := by omega
      have hn0 : n = 0 := by omega
      subst hm0; subst hn0
      simp [Instr.makeSlice, run_underlying ht, asInt, asIntOf, run_info hi, w1, sizeOf, newRow]
    · simp only [if_neg hN]
      have hN' : ¬ (m.toNat = 0 ∨ i.size = 0) := fun h => hN (Nat.mul_eq_zero.2 h)
      have hm0 : ¬ (m ≤ 0 ∨ i.size = 0) := by omega
      have hb' : ¬ (281474976710656 < (i.bytes : Int) * m) := hb
      simp [Instr.makeSlice, run_underlying ht, asInt, asIntOf, run_info hi, w1, w2, n1, n2, n3, hb', sizeOf, newRow, hN, hzv]
  · exact .ms s.cnt 0 _ _ ⟨w.heap.size, 0, i.size, m.toNat * i.size⟩ 0 (by simp [Ghost.put]) (by omega) (by simp) (fun _ => by simp)

/-- Cells are stored in a row that is one's own. -/
theorem store_core (hs : Sim G s w) {id start len cap esz : Nat} {elems new : List AV} {r : Reg} {vs : Array Value} (hg : eget s.heap id = some (.cells esz elems)) (ho : G.own id = some r) (hle : len ≤ cap)
    (hin : r.base + (start + cap) * r.esz ≤ r.size) (hin0 : start ≤ elems.length) (hnl : new.length = len) (hfl : ∀ y ∈ new, y.cells.length = esz) (hscN : ∀ y ∈ flat new, y.scalar = true) (g2 : VL G (flat new) vs) :
    ∃ w', (storeCells ⟨r.block, r.base + start * r.esz, none⟩ vs.toList 0).run P w = .ok () w' ∧ Sim G ⟨eset s.heap id (.cells esz (elems.take start ++ (new ++ elems.drop (start + len)))), s.cnt⟩ w' ∧
      Ext G s w G ⟨eset s.heap id (.cells esz (elems.take start ++ (new ++ elems.drop (start + len)))), s.cnt⟩ w' := by
  obtain ⟨o, e2, e3⟩ := hs.at hg ho
  cases e3 with
  | cells _ _ cs te hcs hesz h0 hle0 hscE hin' hV =>
    subst hesz
    have hvs : vs.size = len * r.esz := by rw [← g2.1, flat_length hfl, hnl]
    have hfit : r.base + start * r.esz + vs.toList.length ≤ cs.size := by
      simp only [Array.length_toList]
      rw [hvs, hcs, Nat.add_assoc, ← Nat.add_mul]
      exact Nat.le_trans (Nat.add_le_add_left (Nat.mul_le_mul_right _ (by omega)) _) hin
    have hrun := run_storeCells_at P r.block (r.base + start * r.esz) te vs.toList 0 cs w e2 (by simpa using hfit) (g2.oneCells hscN)
    simp only [Nat.add_zero] at hrun
    have hel' : ∀ y ∈ elems.take start ++ (new ++ elems.drop (start + len)), y.cells.length = r.esz := fun y hy => by
      simp only [List.mem_append] at hy
      rcases hy with hy | hy | hy
      · exact hle0 y (List.mem_of_mem_take hy)
      · exact hfl y hy
      · exact hle0 y (List.mem_of_mem_drop hy)
    have hfs : (flat (elems.take start)).length = start * r.esz := by
      rw [flat_length (esz := r.esz) fun y hy => hle0 y (List.mem_of_mem_take hy)]; congr 1; simp; omega
    have hfn : (flat new).length = len * r.esz := by rw [flat_length hfl, hnl]
    obtain ⟨q1, q2⟩ := turn_row hs hg ho e2 (elems' := elems.take start ++ (new ++ elems.drop (start + len))) (cs' := (cs.toList.take (r.base + start * r.esz) ++ vs.toList ++ cs.toList.drop (r.base + start * r.esz + vs.toList.length)).toArray)
      (by simp only [List.size_toArray, List.length_append, List.length_take, List.length_drop, Array.length_toList] at hfit ⊢; omega) rfl h0 hel' (fun y hy => by
        rw [flat_append, flat_append] at hy
        simp only [List.mem_append] at hy
        have q : ∀ (l : List AV), (∀ z ∈ l, z ∈ elems) → ∀ y ∈ flat l, y.scalar = true := fun l hl y hy => hscE y (by
          rw [flat, List.mem_flatMap] at hy ⊢
          obtain ⟨z, hz, hy⟩ := hy
          exact ⟨z, hl z hz, hy⟩)
        rcases hy with hy | hy | hy
        · exact q _ (fun z hz => List.mem_of_mem_take hz) y hy
        · exact hscN y hy
        · exact q _ (fun z hz => List.mem_of_mem_drop hz) y hy)
      (by
        have q : (elems.take start ++ (new ++ elems.drop (start + len))).length = max elems.length (start + len) := by simp [hnl]; omega
        rw [q]
        rcases Nat.le_total elems.length (start + len) with c | c
        · rw [Nat.max_eq_right c]; exact Nat.le_trans (Nat.add_le_add_left (Nat.mul_le_mul_right _ (by omega)) _) hin
        · rw [Nat.max_eq_left c]; exact hin') fun k y hk => by
        rw [flat_append, flat_append] at hk
        rw [array_mid_get _ _ _ _ hfit]
        by_cases c1 : k < start * r.esz
        · rw [if_pos (by omega)]
          rw [List.getElem?_append_left (by omega)] at hk
          have hk' := flat_take (n := start) (l := 0) hle0 h0 (k := k) (x := y) (by simpa using hk)
          simpa using hV _ y (by simpa using hk')
        · rw [if_neg (by omega)]
          rw [List.getElem?_append_right (by omega), hfs] at hk
          by_cases c2 : k < start * r.esz + len * r.esz
          · rw [if_pos (by simp only [Array.length_toList]; omega)]
            rw [List.getElem?_append_left (by omega)] at hk
            obtain ⟨v, p1, p2⟩ := g2.get hk
            refine ⟨v, ?_, p2⟩
            rw [show r.base + k - (r.base + start * r.esz) = k - start * r.esz from by omega]
            simpa using p1
          · rw [if_neg (by simp only [Array.length_toList]; omega)]
            rw [List.getElem?_append_right (by omega), hfn] at hk
            have hk' := flat_take (n := elems.length) (l := start + len) hle0 h0 (k := k - start * r.esz - len * r.esz) (x := y) (by rw [List.take_length]; exact hk)
            rw [show (start + len) * r.esz + (k - start * r.esz - len * r.esz) = k from by rw [Nat.add_mul]; omega] at hk'
            exact hV k y hk'
    exact ⟨_, hrun, q1, q2⟩

theorem clear_did (hs : Sim G s w) {t ty : Nat} {x z : AV} {xv : Value} {ts : Array TypeId} (ht0 : ts[0]? = some t) (hx : V G x xv) (h : aClear P t x s = some (z, s')) : Did P G s w (Builtin.clear_ ts ty #[xv]) z s' := by
  unfold aClear at h
  split at h
  case h_2 => cases h
  rename_i e id start len he
  have ht := elemT_u he
  split at h
  case h_2 => cases h
  rename_i esz elems zz hg hz
  split at h
  case isFalse => cases h
  rename_i hc
  obtain ⟨hsz, hzl, hzs, hin0⟩ := hc
  cases h
  have nothing : len = 0 → Sim G ⟨eset s.heap id (.cells esz (elems.take start ++ (List.replicate len zz ++ elems.drop (start + len)))), s.cnt⟩ w ∧ Ext G s w G ⟨eset s.heap id (.cells esz (elems.take start ++ (List.replicate len zz ++ elems.drop (start + len)))), s.cnt⟩ w := fun h0 => by
    subst h0
    have hid : elems.take start ++ (List.replicate 0 zz ++ elems.drop (start + 0)) = elems := by simp
    rw [hid]
    have hset : ∀ i b, eget (eset s.heap id (.cells esz elems)) i = some b → eget s.heap i = some b := fun i b hi => by
      rw [get_set] at hi
      split at hi
      · rename_i hq; subst hq; rw [hg]; exact hi
      · exact hi
    refine ⟨hs.drop hset (Nat.le_refl _), Ext.drop hset (Nat.le_refl _) fun i hi => ?_⟩
    rw [get_set]; split
    · rename_i hq; subst hq; rw [hg] at hi; exact hi
    · exact hi
  have hunit : V G (.tup []) (.tuple #[]) := .tup [] #[] rfl (by simp)
  cases hx with
  | msnil _ _ cap base hc =>
    obtain ⟨q1, q2⟩ := nothing rfl
    refine ⟨_, G, w, ?_, hunit, q1, q2⟩
    cases base <;> simp [Builtin.clear_, ht0, run_underlying ht]
  | ms _ _ _ cap r addr ho hle hin haddr =>
    by_cases h0 : len = 0
    · obtain ⟨q1, q2⟩ := nothing h0
      refine ⟨_, G, w, ?_, hunit, q1, q2⟩
      subst h0
      simp [Builtin.clear_, ht0, run_underlying ht]
    · have had := haddr (by omega)
      subst had
      obtain ⟨zv, hzv, hzV⟩ := run_zeroT hz w G
      have hzl' := VL.cells hzV (not_any hzs)
      have hzsz : zv.cells.size = esz := by rw [← hzl'.1, hzl]
      have hpos : 0 < esz := by
        obtain ⟨o, _, e3⟩ := hs.at hg ho
        cases e3 with
        | cells _ _ _ _ _ _ h0 => exact h0
      have hvl : VL G (flat (List.replicate len zz)) (Builtin.zeroCells zv.cells len) := by
        have hall : ∀ y ∈ List.replicate len zz, y.cells.length = esz := fun y hy => by rw [List.eq_of_mem_replicate hy]; exact hzl
        refine ⟨by rw [flat_length hall]; simp [Builtin.zeroCells, hzsz], fun k x y hk hy => ?_⟩
        obtain ⟨p1, p2⟩ := flat_replicate len zz (by omega) hk
        obtain ⟨v, r1, r2⟩ := hzl'.get p2
        have hb2 : zv.cells[k % esz]! = v := by rw [Array.getElem!_eq_getD, Array.getD_eq_getD_getElem?, ← hzl, r1]; rfl
        rw [hzl] at p1
        simp only [Builtin.zeroCells, Array.getElem?_map, hzsz] at hy
        rw [Array.getElem?_eq_getElem (by simpa using p1)] at hy
        simp only [Array.getElem_range, Option.map_some, Option.some.injEq] at hy
        rw [← hy, hb2]
        exact r2
      obtain ⟨w', q0, q1, q2⟩ := store_core (P := P) hs hg ho hle hin (by omega) (List.length_replicate) (fun y hy => by rw [List.eq_of_mem_replicate hy]; exact hzl) (fun y hy => by
        rw [flat, List.mem_flatMap] at hy
        obtain ⟨q, hq, hy⟩ := hy
        rw [List.eq_of_mem_replicate hq] at hy
        exact scal_of_all hzs y hy) hvl
      refine ⟨_, G, w', ?_, hunit, q1, q2⟩
      obtain ⟨n, rfl⟩ : ∃ n, len = n + 1 := ⟨len - 1, by omega⟩
      simp [Builtin.clear_, ht0, run_underlying ht, hzv, q0]

end
end Go.Am
