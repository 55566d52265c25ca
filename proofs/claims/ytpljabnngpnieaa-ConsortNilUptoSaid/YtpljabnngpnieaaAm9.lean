/-
  The logic AM, part 9: append, copy and make are carried out as 'aop' says.
  Own work. No Go text.
-/
import Derived.Test.YtpljabnngpnieaaAm8
import Derived.Laws.AppendOwn
namespace Go.Am
open Go.RowKit

section
variable {P : Program} {G : Ghost} {s s' : St} {w : World} {env : Env} {a : Act}

/-- Where the cells come from that are appended: a slice, or a number of zero values. -/
def Src (P : Program) (w : World) (u e : TypeId) (xv : Value) (size n : Nat) (news : Array Value) : Prop :=
  ((∃ d, P.underlying u = some (.slice d)) ∧ (∀ w', (Builtin.lenOf xv).run P w' = .ok n w') ∧ ∀ w', (∀ a, w'.cell? a = w.cell? a) → (Builtin.firstCells size n xv).run P w' = .ok news w') ∨
  (∃ k k' m, P.underlying u = some (.int k) ∧ xv = .int k' m ∧ 0 ≤ m ∧ m ≤ (maxElems : Int) ∧ n = m.toNat ∧ ∃ z, (∀ w', (zeroValue e).run P w' = .ok z w') ∧ news = if n * size = 0 then #[] else Builtin.zeroCells z.cells n)

theorem wrap_id {m : Int} (h0 : 0 ≤ m) (h1 : m ≤ (maxElems : Int)) : IntKind.i64.wrap m = m := by
  unfold maxElems at h1
  simp only [IntKind.wrap, IntKind.bits, IntKind.signed]
  have : m % (2 ^ 64 : Int) = m := Int.emod_eq_of_lt h0 (by omega)
  simp only [this, Bool.true_and, decide_eq_true_eq]
  rw [if_neg (by omega)]

theorem run_append_in {t u e size by_ n : Nat} {xv : Value} {news : Array Value} (ht : P.underlying t = some (.slice e)) (hsz : sizeT P e = some size) (hby : bytesT P e = some by_) (hb : by_ ≤ 4096)
    (hsrc : Src P w u e xv size n news) {ad : Addr} {sLen sCap ty : Nat} (hroom : sLen + n ≤ sCap) {w' : World} (hst : (storeCells (ad.add (sLen * size)) news.toList).run P w = .ok () w') :
    (Builtin.append_ #[t, u] ty #[.slice (some ad) sLen sCap, xv]).run P w = .ok (.slice (some ad) (sLen + n) sCap) w' := by
  obtain ⟨i, hi, rfl⟩ := sizeT_info hsz
  obtain ⟨i', hi', rfl⟩ := bytesT_info hby
  rw [hi] at hi'; cases hi'
  rcases hsrc with ⟨⟨d, hu⟩, h1, h2⟩ | ⟨k, k', m, hu, rfl, h0, h1, rfl, z, hz, rfl⟩
  · simp [Builtin.append_, run_underlying ht, run_underlying hu, sizeOf, run_info hi, h1, hroom, h2 w (fun _ => rfl), hst]
  · have h2 : ¬ (m < 0) := by omega
    have h3 : ¬ (281474976710656 < m * (i.bytes : Int)) := by
      have h6 : m * (i.bytes : Int) ≤ m * 4096 := Int.mul_le_mul_of_nonneg_left (by omega) h0
      unfold maxElems at h1
      omega
    by_cases hn : m.toNat * i.size = 0
    · rw [if_pos hn] at hst
      simp [Builtin.append_, run_underlying ht, run_underlying hu, sizeOf, run_info hi, asInt, asIntOf, wrap_id h0 h1, h2, h3, hroom, hst]
      exact fun h => absurd hn h
    · rw [if_neg hn] at hst
      simp [Builtin.append_, run_underlying ht, run_underlying hu, sizeOf, run_info hi, asInt, asIntOf, wrap_id h0 h1, h2, h3, hroom, hz, hst]
      exact fun h => absurd h hn

theorem run_append_out {t u e size by_ n : Nat} {xv : Value} {news olds : Array Value} (ht : P.underlying t = some (.slice e)) (hsz : sizeT P e = some size) (hby : bytesT P e = some by_) (hb : by_ ≤ 4096)
    (hsrc : Src P w u e xv size n news) {base : Option Addr} {sLen sCap ty : Nat} (hroom : sCap < sLen + n) (hmax : sLen + n ≤ maxElems) {z : Value} (hz : ∀ w', (zeroValue e).run P w' = .ok z w')
    (hold : ∀ w', (∀ a, w'.cell? a = w.cell? a) → (Builtin.firstCells size sLen (.slice base sLen sCap)).run P w' = .ok olds w') :
    (Builtin.append_ #[t, u] ty #[.slice base sLen sCap, xv]).run P w =
      .ok (.slice (some ⟨w.heap.size, 0, none⟩) (sLen + n) (grownCap w (sLen + n) sCap e))
        (w.drew.alloc (.cells (olds ++ news ++ Builtin.zeroCells z.cells (grownCap w (sLen + n) sCap e - (sLen + n))) e)) := by
  obtain ⟨i, hi, rfl⟩ := sizeT_info hsz
  obtain ⟨i', hi', rfl⟩ := bytesT_info hby
  rw [hi] at hi'; cases hi'
  have hn : ¬ (sLen + n ≤ sCap) := by omega
  have hmax' := hmax
  unfold maxElems at hmax'
  have h63' : ¬ (9223372036854775807 < ((sLen : Int) + (n : Int))) := by omega
  have hfit : Builtin.nextslicecap (sLen + n) sCap * i.bytes ≤ 281474976710656 := growslice_fits hroom (by
    have : (sLen + n) * i.bytes ≤ (sLen + n) * 4096 := Nat.mul_le_mul_left _ hb
    omega)
  have h48' : ¬ (281474976710656 < Builtin.nextslicecap (sLen + n) sCap * i.bytes) := by omega
  have hold' := hold w.drew (fun _ => rfl)
  rcases hsrc with ⟨⟨d, hu⟩, h1, h2⟩ | ⟨k, k', m, hu, rfl, hm0, h1, rfl, z', hz', rfl⟩
  · have h2' := h2 w.drew (fun _ => rfl)
    simp [Builtin.append_, run_underlying ht, run_underlying hu, sizeOf, run_info hi, h1, hn, h63', h48', Question.forced, hold', h2', hz, newRow, grownCap]
  · have h2 : ¬ (m < 0) := by omega
    have h3 : ¬ (281474976710656 < m * (i.bytes : Int)) := by
      have h6 : m * (i.bytes : Int) ≤ m * 4096 := Int.mul_le_mul_of_nonneg_left (by omega) hm0
      unfold maxElems at h1
      omega
    have hc : ((sLen : Int) + (m.toNat : Int)) = sLen + m := by omega
    have hzz : z' = z := by have q := hz w; rw [hz' w] at q; cases q; rfl
    subst hzz
    have hmm : max m 0 = m := by omega
    by_cases hn : m.toNat * i.size = 0
    · have hn' : m.toNat = 0 ∨ i.size = 0 := Nat.mul_eq_zero.1 hn
      have hn'' : m ≤ 0 ∨ i.size = 0 := by omega
      simp only [hc] at h63'
      simp [Builtin.append_, run_underlying ht, run_underlying hu, sizeOf, run_info hi, asInt, asIntOf, wrap_id hm0 h1, h2, h3, *, h48', Question.forced, hold', hz, newRow, grownCap]
    · have hn' : ¬ (m.toNat = 0 ∨ i.size = 0) := fun h => hn (Nat.mul_eq_zero.2 h)
      have hn'' : ¬ (m ≤ 0 ∨ i.size = 0) := by omega
      simp only [hc] at h63'
      simp [Builtin.append_, run_underlying ht, run_underlying hu, sizeOf, run_info hi, asInt, asIntOf, wrap_id hm0 h1, h2, h3, *, h48', Question.forced, hold', hz, hz', newRow, grownCap]

theorem run_append_none {t u e size by_ : Nat} {xv : Value} (ht : P.underlying t = some (.slice e)) (hsz : sizeT P e = some size) (hby : bytesT P e = some by_)
    (hsrc : Src P w u e xv size 0 #[]) {ty : Nat} : (Builtin.append_ #[t, u] ty #[.slice none 0 0, xv]).run P w = .ok (.slice none 0 0) w := by
  obtain ⟨i, hi, rfl⟩ := sizeT_info hsz
  rcases hsrc with ⟨⟨d, hu⟩, h1, h2⟩ | ⟨k, k', m, hu, rfl, h0, h1, hm, z, hz, hnews⟩
  · simp [Builtin.append_, run_underlying ht, run_underlying hu, sizeOf, run_info hi, h1, h2 w (fun _ => rfl)]
  · have hm' : m = 0 := by omega
    subst hm'
    have hw0 : IntKind.i64.wrap 0 = 0 := wrap_id (by omega) (by unfold maxElems; omega)
    simp [Builtin.append_, run_underlying ht, run_underlying hu, sizeOf, run_info hi, asInt, asIntOf, hw0]

theorem zeroOk_run {e sz : Nat} (h : zeroOk P e sz = true) : ∃ z, (∀ w', (zeroValue e).run P w' = .ok z w') ∧ z.cells.size = sz := by
  unfold zeroOk at h
  split at h
  · rename_i x hx
    simp only [Bool.and_eq_true, beq_iff_eq] at h
    unfold zeroT at hx
    cases hi : P.info? e with
    | none => simp [hi] at hx
    | some i =>
      cases hz : i.zero with
      | none => simp [hi, hz] at hx
      | some v =>
        simp [hi, hz] at hx
        have hv : V ⟨fun _ _ => none, fun _ => none⟩ x v := ofValue_V hx
        exact ⟨v, fun w' => by simp [zeroValue, run_info hi, hz], by rw [← (VL.cells hv (not_any h.2)).1, h.1]⟩
  · cases h

theorem append_did (hs : Sim G s w) {t u ty e : Nat} {x z : AV} {xv yv : Value} (hx : V G x xv) {new : List AV} {news : Array Value} (he : elemT P t = some e)
    (hsrc : ∀ sz, sizeT P e = some sz → (∀ y ∈ new, y.cells.length = sz) ∧ Src P w u e yv sz new.length news) (hsc : ∀ y ∈ flat new, y.scalar = true) (hnews : VL G (flat new) news)
    (h : aAppend P t x new s = some (z, s')) : Did P G s w (Builtin.append_ #[t, u] ty #[xv, yv]) z s' := by
  unfold aAppend at h
  rw [he] at h
  simp only at h
  split at h
  case h_2 => cases h
  rename_i sz by_ hsz hby
  split at h
  case isFalse => cases h
  rename_i hc
  obtain ⟨h0, hb, hz⟩ := hc
  obtain ⟨hnsz, hsrc⟩ := hsrc sz hsz
  obtain ⟨zv, hzv, hzsz⟩ := zeroOk_run hz
  have ht := elemT_u he
  have hnl : news.size = new.length * sz := by rw [← hnews.1, flat_length hnsz]
  -- nothing to append
  have nothing : new = [] → ∀ {base : Option Addr} {sLen sCap : Nat}, xv = .slice base sLen sCap → sLen ≤ sCap → (base = none → sCap = 0) → (Builtin.append_ #[t, u] ty #[xv, yv]).run P w = .ok xv w := by
    intro hn base sLen sCap hxv hle hbn
    subst hn
    subst hxv
    have hne : news = #[] := by
      apply Array.eq_empty_of_size_eq_zero
      simpa using hnl
    subst hne
    cases base with
    | none =>
      have := hbn rfl
      subst this
      obtain rfl : sLen = 0 := by omega
      exact run_append_none ht hsz hby hsrc
    | some ad => exact run_append_in ht hsz hby hb hsrc (by simpa using hle) (by simp [storeCells])
  -- a new block
  have grow : ∀ {base : Option Addr} {sLen sCap : Nat} {olds : Array Value} {old : List AV}, sCap < sLen + new.length → sLen + new.length ≤ maxElems → old.length = sLen → (∀ y ∈ old, y.cells.length = sz) → (∀ y ∈ flat old, y.scalar = true) →
      VL G (flat old) olds → (∀ w', (∀ a, w'.cell? a = w.cell? a) → (Builtin.firstCells sz sLen (.slice base sLen sCap)).run P w' = .ok olds w') →
      ∃ v w', (Builtin.append_ #[t, u] ty #[.slice base sLen sCap, yv]).run P w = .ok v w' ∧ ∃ G', V G' (.ms s.cnt 0 (sLen + new.length)) v ∧
        Sim G' ⟨(s.cnt, .cells sz (old ++ new)) :: s.heap, s.cnt + 1⟩ w' ∧ Ext G s w G' ⟨(s.cnt, .cells sz (old ++ new)) :: s.heap, s.cnt + 1⟩ w' := by
    intro base sLen sCap olds old hroom hmax hol hosz hosc holds hrun
    have hrun' := run_append_out (w := w) (ty := ty) ht hsz hby hb hsrc hroom hmax hzv hrun
    have hvl := holds.append hnews
    have hge := grownCap_ge w (sLen + new.length) sCap e
    generalize grownCap w (sLen + new.length) sCap e = nc at hrun' hge
    have hcs : (olds ++ news ++ Builtin.zeroCells zv.cells (nc - (sLen + new.length))).size = nc * sz := by
      have h1 : olds.size = sLen * sz := by rw [← holds.1, flat_length hosz, hol]
      simp only [Array.size_append, size_zeroCells, hzsz, h1, hnl]
      rw [← Nat.add_mul, ← Nat.add_mul]
      congr 1; omega
    obtain ⟨q1, q2⟩ := hs.drew.put (o := .cells (olds ++ news ++ Builtin.zeroCells zv.cells (nc - (sLen + new.length))) e) (blk := .cells sz (old ++ new)) (r := ⟨w.heap.size, 0, sz, nc * sz⟩) rfl
      (.cells _ _ _ _ hcs rfl h0 (fun y hy => by
          rcases List.mem_append.1 hy with hy | hy
          · exact hosz y hy
          · exact hnsz y hy) (fun y hy => by
          rw [flat_append] at hy
          rcases List.mem_append.1 hy with hy | hy
          · exact hosc y hy
          · exact hsc y hy) (by simp only [Nat.zero_add, List.length_append, hol]; exact Nat.mul_le_mul_right _ hge) fun k y hy => by
          rw [flat_append] at hy
          obtain ⟨v, e1, e2⟩ := hvl.get hy
          refine ⟨v, ?_, e2.mono (.put (hs.fresh _ (Nat.le_refl _)))⟩
          have hlt : k < (olds ++ news).size := (Array.getElem?_eq_some_iff.1 e1).1
          rw [Nat.zero_add, Array.getElem?_append_left hlt]; exact e1)
    refine ⟨_, _, hrun', _, ?_, q1, (Ext.drew G s w).trans hs q2⟩
    exact .ms s.cnt 0 _ _ ⟨w.heap.size, 0, sz, nc * sz⟩ 0 (by simp [Ghost.put]) hge (by simp) (fun _ => by simp)
  split at h
  · rename_i full elems
    obtain ⟨base, cap, rfl, hle, hfull, hbn, hzz⟩ := V.sl_inv hx
    split at h
    · rename_i hn
      cases h
      exact did_pure hs (nothing hn rfl hle hbn) hx
    · rename_i hn
      split at h
      case isFalse => cases h
      rename_i hc
      obtain ⟨rfl, hmax, hfit⟩ := hc
      cases h
      have hpos : 0 < new.length := List.length_pos_iff.2 hn
      obtain ⟨f1, f2, f3, f4⟩ := firstCells_run (P := P) (e := e) hs hx (l := elems) rfl hsz hfit
      obtain ⟨vs, g1, g2⟩ := f4 elems.length (Nat.le_refl _)
      rw [List.take_length] at g2
      obtain ⟨v, w', e1, G', e2, e3, e4⟩ := grow (sCap := cap) (by rw [hfull rfl]; omega) hmax rfl f1 f2 g2 g1
      exact ⟨v, G', w', e1, e2, e3, e4⟩
  · rename_i id start len
    have hx0 := hx
    cases hx with
    | msnil _ _ cap base hc =>
      subst hc
      split at h
      · rename_i hn
        cases h
        exact did_pure hs (nothing hn rfl (Nat.le_refl _) (fun _ => rfl)) (.msnil _ _ _ _ rfl)
      · rename_i hn
        split at h
        case h_2 => cases h
        rename_i esz elems hg
        split at h
        case isFalse => cases h
        rename_i hc
        obtain ⟨rfl, hlen, hmax⟩ := hc
        cases h
        have hpos : 0 < new.length := List.length_pos_iff.2 hn
        have hel0 : elemsOf (.ms id start 0) s = some ((elems.drop start).take 0) := by simp [elemsOf, hg]; simpa using hlen
        obtain ⟨f1, f2, f3, f4⟩ := firstCells_run (P := P) (e := e) hs hx0 hel0 hsz (by simp [fitsV, hg, hsz])
        obtain ⟨vs, g1, g2⟩ := f4 0 (by omega)
        rw [List.take_of_length_le (by simp)] at g2
        obtain ⟨v, w', e1, G', e2', e3, e4⟩ := grow (base := base) (sCap := 0) (by omega) hmax (by simp) f1 f2 g2 g1
        have hsub : ∀ i b, eget ((s.cnt, Blk.cells esz ((elems.drop start).take 0 ++ new)) :: edel s.heap id) i = some b → eget ((s.cnt, Blk.cells esz ((elems.drop start).take 0 ++ new)) :: s.heap) i = some b := fun i b hi => by
          simp only [egetN, egetC] at hi ⊢
          split at hi
          · rename_i hq; rw [if_pos hq]; exact hi
          · rename_i hq
            rw [if_neg hq]
            rw [get_del] at hi
            split at hi
            · cases hi
            · exact hi
        refine ⟨v, G', w', e1, e2', e3.drop hsub (Nat.le_refl _), e4.trans hs (Ext.drop hsub (Nat.le_refl _) fun i hi => ?_)⟩
        simp only [egetN, egetC] at hi ⊢
        split at hi
        · cases hi
        · rename_i hq
          rw [if_neg hq, get_del, if_neg (fun e => by subst e; rw [hg] at hi; cases hi)]
          exact hi
    | ms _ _ _ cap r addr ho hle hin haddr =>
      split at h
      · rename_i hn
        cases h
        exact did_pure hs (nothing hn rfl hle (fun e => by cases e)) (.ms _ _ _ cap r addr ho hle hin haddr)
      · rename_i hn
        split at h
        case h_2 => cases h
        rename_i esz elems hg
        split at h
        case isFalse => cases h
        rename_i hc
        obtain ⟨rfl, hlen, hmax⟩ := hc
        cases h
        have hpos : 0 < new.length := List.length_pos_iff.2 hn
        obtain ⟨o, e2, e3⟩ := hs.at hg ho
        cases e3 with
        | cells _ _ cs te hcs hesz h0' hel hscE hin' hV =>
          subst hesz
          have hel0 : elemsOf (.ms id start len) s = some ((elems.drop start).take len) := by simp [elemsOf, hg, hlen]
          obtain ⟨f1, f2, f3, f4⟩ := firstCells_run (P := P) (e := e) hs hx0 hel0 hsz (by simp [fitsV, hg, hsz])
          have hol : ((elems.drop start).take len).length = len := by simp; omega
          by_cases hroom : len + new.length ≤ cap
          · -- in place
            have had := haddr (by omega)
            subst had
            have hstart : start * r.esz + len * r.esz + new.length * r.esz ≤ (start + cap) * r.esz := by
              rw [← Nat.add_mul, ← Nat.add_mul]; exact Nat.mul_le_mul_right _ (by omega)
            have hfit : r.base + start * r.esz + len * r.esz + news.toList.length ≤ cs.size := by
              simp only [Array.length_toList]; rw [hnl, hcs]; omega
            have hrun := run_storeCells_at P r.block (r.base + start * r.esz + len * r.esz) te news.toList 0 cs w e2 (by simpa using hfit) (hnews.oneCells hsc)
            simp only [Nat.add_zero] at hrun
            have hA := run_append_in (w := w) (ty := ty) (ad := ⟨r.block, r.base + start * r.esz, none⟩) (sLen := len) (sCap := cap) ht hsz hby hb hsrc hroom (by rw [add_at]; exact hrun)
            have hfl : (flat ((elems.drop start).take len)).length = len * r.esz := by rw [flat_length f1, hol]
            obtain ⟨q1, q2⟩ := Sim.move (w' := w.setRow r.block (cs.toList.take (r.base + start * r.esz + len * r.esz) ++ news.toList ++ cs.toList.drop (r.base + start * r.esz + len * r.esz + news.toList.length)).toArray)
              (blk' := .cells r.esz ((elems.drop start).take len ++ new)) (r' := ⟨r.block, r.base + start * r.esz, r.esz, r.size⟩) hs hg ho rfl (by simp [World.setRow]) rfl rfl rfl
              (fun b hb => setRow_other w _ _ _ hb) (setRow_heap w _ cs _ te _ e2)
              (.cells _ _ _ _ (by simp only [List.size_toArray, List.length_append, List.length_take, List.length_drop, Array.length_toList] at hfit ⊢; omega) rfl h0 (fun y hy => by
                  rcases List.mem_append.1 hy with hy | hy
                  · exact f1 y hy
                  · exact hnsz y hy) (fun y hy => by
                  rw [flat_append] at hy
                  rcases List.mem_append.1 hy with hy | hy
                  · exact f2 y hy
                  · exact hsc y hy) (by rw [List.length_append, hol, Nat.add_mul]; show r.base + start * r.esz + _ ≤ r.size; omega) fun k y hy => by
                  have hle2 : GLe G (G.put s.cnt ⟨r.block, r.base + start * r.esz, r.esz, r.size⟩) := .put (hs.fresh _ (Nat.le_refl _))
                  show ∃ v, _[r.base + start * r.esz + k]? = some v ∧ _
                  rw [flat_append] at hy
                  rw [array_mid_get _ _ _ _ hfit]
                  by_cases hk : k < len * r.esz
                  · rw [if_pos (by omega)]
                    rw [List.getElem?_append_left (by omega)] at hy
                    have hy' : (flat (((elems.take (start + len))).drop start))[k]? = some y := by
                      rw [show (elems.take (start + len)).drop start = (elems.drop start).take len from by rw [List.drop_take]; congr 1; omega]
                      exact hy
                    have hk' := flat_take (n := start + len) hel h0 hy'
                    obtain ⟨v, q1, q2⟩ := hV _ y hk'
                    exact ⟨v, by rw [Nat.add_assoc]; exact q1, q2.mono hle2⟩
                  · rw [if_neg (by omega)]
                    rw [List.getElem?_append_right (by omega), hfl] at hy
                    obtain ⟨v, q1, q2⟩ := hnews.get hy
                    have hlt : k - len * r.esz < news.size := (Array.getElem?_eq_some_iff.1 q1).1
                    rw [if_pos (by simp only [Array.length_toList]; omega)]
                    refine ⟨v, ?_, q2.mono hle2⟩
                    rw [show r.base + start * r.esz + k - (r.base + start * r.esz + len * r.esz) = k - len * r.esz from by omega]
                    simpa using q1) (by simp)
            refine ⟨_, _, _, hA, ?_, q1, q2⟩
            exact .ms s.cnt 0 _ cap ⟨r.block, r.base + start * r.esz, r.esz, r.size⟩ _ (by simp [Ghost.put]) hroom
              (by show r.base + start * r.esz + (0 + cap) * r.esz ≤ r.size; rw [Nat.zero_add, Nat.add_assoc, ← Nat.add_mul]; exact hin) (fun _ => by simp)
          · -- a new block
            obtain ⟨vs, g1, g2⟩ := f4 len (by omega)
            rw [List.take_of_length_le (by omega)] at g2
            obtain ⟨v, w', e1, G', e2', e3, e4⟩ := grow (base := some ⟨r.block, addr, none⟩) (sCap := cap) (by omega) hmax hol f1 f2 g2 g1
            have hsub : ∀ i b, eget ((s.cnt, Blk.cells r.esz ((elems.drop start).take len ++ new)) :: edel s.heap id) i = some b → eget ((s.cnt, Blk.cells r.esz ((elems.drop start).take len ++ new)) :: s.heap) i = some b := fun i b hi => by
              simp only [egetN, egetC] at hi ⊢
              split at hi
              · rename_i hq; rw [if_pos hq]; exact hi
              · rename_i hq
                rw [if_neg hq]
                rw [get_del] at hi
                split at hi
                · cases hi
                · exact hi
            refine ⟨v, G', w', e1, e2', e3.drop hsub (Nat.le_refl _), e4.trans hs (Ext.drop hsub (Nat.le_refl _) fun i hi => ?_)⟩
            simp only [egetN, egetC] at hi ⊢
            split at hi
            · cases hi
            · rename_i hq
              rw [if_neg hq, get_del, if_neg (fun e => by subst e; rw [hg] at hi; cases hi)]
              exact hi
  · rename_i id start len cap
    split at h
    case h_2 => cases h
    rename_i esz elems hg
    split at h
    case isFalse => cases h
    rename_i hc
    obtain ⟨hn, rfl, hlen, hroom, hmax⟩ := hc
    cases h
    have hel0 : elemsOf (.ms id start len) s = some ((elems.drop start).take len) := by simp [elemsOf, hg, hlen]
    have hol : ((elems.drop start).take len).length = len := by simp; omega
    have fin : ∀ {base : Option Addr}, V G (.ms id start len) (.slice base len cap) → xv = .slice base len cap → Did P G s w (Builtin.append_ #[t, u] ty #[xv, yv]) (.ms s.cnt 0 (len + new.length)) ⟨(s.cnt, .cells esz ((elems.drop start).take len ++ new)) :: s.heap, s.cnt + 1⟩ := by
      intro base hx0 hxv
      subst hxv
      obtain ⟨f1, f2, f3, f4⟩ := firstCells_run (P := P) (e := e) hs hx0 hel0 hsz (by simp [fitsV, hg, hsz])
      obtain ⟨vs, g1, g2⟩ := f4 len (by omega)
      rw [List.take_of_length_le (by omega)] at g2
      obtain ⟨v, w', e1, G', e2', e3, e4⟩ := grow (base := base) (sCap := cap) hroom hmax hol f1 f2 g2 g1
      exact ⟨v, G', w', e1, e2', e3, e4⟩
    cases hx with
    | mcnil _ _ base => exact fin (.msnil _ _ _ _ rfl) rfl
    | mc _ _ _ _ r addr ho hle hin haddr => exact fin (.ms _ _ _ _ r addr ho hle hin haddr) rfl
  · cases h

end
end Go.Am
