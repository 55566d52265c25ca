/-
  The logic AM,B: soundness of the other operations.
  Own work. No Go text.
-/
import Derived.Test.YthjapedbgmjhmaaGreatAmA
import Derived.Laws.AppendOwn
import Derived.Laws.StructEq
set_option linter.all false
section
namespace Go.Am
open Go.RowKit
section
variable {P : Program} {G : Ghost} {s s' : St} {w : World} {env : Env} {a : Act}
def Src (P : Program) (w : World) (u e : TypeId) (xv : Value) (size n : Nat) (news : Array Value) : Prop :=
  ((∃ d,P.underlying u = some (.slice d)) ∧ (∀ w',(Builtin.lenOf xv).run P w' = .ok n w') ∧ ∀ w',(∀ a,w'.cell? a = w.cell? a) → (Builtin.firstCells size n xv).run P w' = .ok news w') ∨
  (∃ k k' m,P.underlying u = some (.int k) ∧ xv = .int k' m ∧ 0 ≤ m ∧ m ≤ (maxElems : Int) ∧ n = m.toNat ∧ ∃ z,(∀ w',(zeroValue e).run P w' = .ok z w') ∧ news = if n * size = 0 then #[] else Builtin.zeroCells z.cells n)
theorem wrap_id {m : Int} (h0 : 0 ≤ m) (h1 : m ≤ (maxElems : Int)) : IntKind.i64.wrap m = m := by
  unfold maxElems at h1
  simp only [IntKind.wrap,IntKind.bits,IntKind.signed]
  have : m % (2 ^ 64 : Int) = m := Int.emod_eq_of_lt h0 (by omega)
  simp only [this,Bool.true_and,decide_eq_true_eq]
  rw [if_neg (by omega)]
theorem run_append_in {t u e size by_ n : Nat} {xv : Value} {news : Array Value} (ht : P.underlying t = some (.slice e)) (hsz : sizeT P e = some size) (hby : bytesT P e = some by_) (hb : by_ ≤ 4096)
    (hsrc : Src P w u e xv size n news) {ad : Addr} {sLen sCap ty : Nat} (hroom : sLen + n ≤ sCap) {w' : World} (hst : (storeCells (ad.add (sLen * size)) news.toList).run P w = .ok () w') :
    (Builtin.append_ #[t,u] ty #[.slice (some ad) sLen sCap,xv]).run P w = .ok (.slice (some ad) (sLen + n) sCap) w' := by
  obtain ⟨i,hi,rfl⟩ := sizeT_info hsz
  obtain ⟨i',hi',rfl⟩ := bytesT_info hby
  rw [hi] at hi'; cases hi'
  rcases hsrc with ⟨⟨d,hu⟩,h1,h2⟩ | ⟨k,k',m,hu,rfl,h0,h1,rfl,z,hz,rfl⟩
  · simp [Builtin.append_,run_underlying ht,run_underlying hu,sizeOf,run_info hi,h1,hroom,h2 w (fun _ => rfl),hst]
  · have h2 : ¬ (m < 0) := by omega
    have h3 : ¬ (281474976710656 < m * (i.bytes : Int)) := by
      have h6 : m * (i.bytes : Int) ≤ m * 4096 := Int.mul_le_mul_of_nonneg_left (by omega) h0
      unfold maxElems at h1
      omega
    by_cases hn : m.toNat * i.size = 0
    · rw [if_pos hn] at hst
      simp [Builtin.append_,run_underlying ht,run_underlying hu,sizeOf,run_info hi,asInt,asIntOf,wrap_id h0 h1,h2,h3,hroom,hst]
      exact fun h => absurd hn h
    · rw [if_neg hn] at hst
      simp [Builtin.append_,run_underlying ht,run_underlying hu,sizeOf,run_info hi,asInt,asIntOf,wrap_id h0 h1,h2,h3,hroom,hz,hst]
      exact fun h => absurd h hn
theorem run_append_out {t u e size by_ n : Nat} {xv : Value} {news olds : Array Value} (ht : P.underlying t = some (.slice e)) (hsz : sizeT P e = some size) (hby : bytesT P e = some by_) (hb : by_ ≤ 4096)
    (hsrc : Src P w u e xv size n news) {base : Option Addr} {sLen sCap ty : Nat} (hroom : sCap < sLen + n) (hmax : sLen + n ≤ maxElems) {z : Value} (hz : ∀ w',(zeroValue e).run P w' = .ok z w')
    (hold : ∀ w',(∀ a,w'.cell? a = w.cell? a) → (Builtin.firstCells size sLen (.slice base sLen sCap)).run P w' = .ok olds w') :
    (Builtin.append_ #[t,u] ty #[.slice base sLen sCap,xv]).run P w =
      .ok (.slice (some ⟨w.heap.size,0,none⟩) (sLen + n) (grownCap w (sLen + n) sCap e))
        (w.drew.alloc (.cells (olds ++ news ++ Builtin.zeroCells z.cells (grownCap w (sLen + n) sCap e - (sLen + n))) e)) := by
  obtain ⟨i,hi,rfl⟩ := sizeT_info hsz
  obtain ⟨i',hi',rfl⟩ := bytesT_info hby
  rw [hi] at hi'; cases hi'
  have hn : ¬ (sLen + n ≤ sCap) := by omega
  have hmax' := hmax
  unfold maxElems at hmax'
  have h63' : ¬ (9223372036854775807 < ((sLen : Int) + (n : Int))) := by omega
  have hfit : Builtin.nextslicecap (sLen + n) sCap * i.bytes ≤ 281474976710656 := growslice_fits hroom (by
    have : (sLen + n) * i.bytes ≤ (sLen + n) * 4096 := Nat.mul_le_mul_left _ hb
    omega)
  have h48' : ¬ (281474976710656 < Builtin.nextslicecap (sLen + n) sCap * i.bytes) := by omega
  have hold' := hold w.drew (fun _ => rfl)
  rcases hsrc with ⟨⟨d,hu⟩,h1,h2⟩ | ⟨k,k',m,hu,rfl,hm0,h1,rfl,z',hz',rfl⟩
  · have h2' := h2 w.drew (fun _ => rfl)
    simp [Builtin.append_,run_underlying ht,run_underlying hu,sizeOf,run_info hi,h1,hn,h63',h48',Question.forced,hold',h2',hz,newRow,grownCap]
  · have h2 : ¬ (m < 0) := by omega
    have h3 : ¬ (281474976710656 < m * (i.bytes : Int)) := by
      have h6 : m * (i.bytes : Int) ≤ m * 4096 := Int.mul_le_mul_of_nonneg_left (by omega) hm0
      unfold maxElems at h1
      omega
    have hc : ((sLen : Int) + (m.toNat : Int)) = sLen + m := by omega
    have hzz : z' = z := by have q := hz w; rw [hz' w] at q; cases q; rfl
    subst hzz
    have hmm : max m 0 = m := by omega
    by_cases hn : m.toNat * i.size = 0
    · have hn' : m.toNat = 0 ∨ i.size = 0 := Nat.mul_eq_zero.1 hn
      have hn'' : m ≤ 0 ∨ i.size = 0 := by omega
      simp only [hc] at h63'
      simp [Builtin.append_,run_underlying ht,run_underlying hu,sizeOf,run_info hi,asInt,asIntOf,wrap_id hm0 h1,h2,h3, *,h48',Question.forced,hold',hz,newRow,grownCap]
    · have hn' : ¬ (m.toNat = 0 ∨ i.size = 0) := fun h => hn (Nat.mul_eq_zero.2 h)
      have hn'' : ¬ (m ≤ 0 ∨ i.size = 0) := by omega
      simp only [hc] at h63'
      simp [Builtin.append_,run_underlying ht,run_underlying hu,sizeOf,run_info hi,asInt,asIntOf,wrap_id hm0 h1,h2,h3, *,h48',Question.forced,hold',hz,hz',newRow,grownCap]
theorem run_append_none {t u e size by_ : Nat} {xv : Value} (ht : P.underlying t = some (.slice e)) (hsz : sizeT P e = some size) (hby : bytesT P e = some by_)
    (hsrc : Src P w u e xv size 0 #[]) {ty : Nat} : (Builtin.append_ #[t,u] ty #[.slice none 0 0,xv]).run P w = .ok (.slice none 0 0) w := by
  obtain ⟨i,hi,rfl⟩ := sizeT_info hsz
  rcases hsrc with ⟨⟨d,hu⟩,h1,h2⟩ | ⟨k,k',m,hu,rfl,h0,h1,hm,z,hz,hnews⟩
  · simp [Builtin.append_,run_underlying ht,run_underlying hu,sizeOf,run_info hi,h1,h2 w (fun _ => rfl)]
  · have hm' : m = 0 := by omega
    subst hm'
    have hw0 : IntKind.i64.wrap 0 = 0 := wrap_id (by omega) (by unfold maxElems; omega)
    simp [Builtin.append_,run_underlying ht,run_underlying hu,sizeOf,run_info hi,asInt,asIntOf,hw0]
theorem zeroOk_run {e sz : Nat} (h : zeroOk P e sz = true) : ∃ z,(∀ w',(zeroValue e).run P w' = .ok z w') ∧ z.cells.size = sz := by
  unfold zeroOk at h
  split at h
  · rename_i x hx
    simp only [Bool.and_eq_true,beq_iff_eq] at h
    unfold zeroT at hx
    cases hi : P.info? e with
    | none => simp [hi] at hx
    | some i =>
      cases hz : i.zero with
      | none => simp [hi,hz] at hx
      | some v =>
        simp [hi,hz] at hx
        have hv : V ⟨fun _ _ => none,fun _ => none⟩ x v := ofValue_V hx
        exact ⟨v,fun w' => by simp [zeroValue,run_info hi,hz],by rw [← (VL.cells hv (not_any h.2)).1,h.1]⟩
  · cases h
theorem append_did (hs : Sim G s w) {t u ty e : Nat} {x z : AV} {xv yv : Value} (hx : V G x xv) {new : List AV} {news : Array Value} (he : elemT P t = some e)
    (hsrc : ∀ sz,sizeT P e = some sz → (∀ y ∈ new,y.cells.length = sz) ∧ Src P w u e yv sz new.length news) (hsc : ∀ y ∈ flat new,y.scalar = true) (hnews : VL G (flat new) news)
    (h : aAppend P t x new s = some (z,s')) : Did P G s w (Builtin.append_ #[t,u] ty #[xv,yv]) z s' := by
  unfold aAppend at h
  rw [he] at h
  simp only at h
  split at h
  case h_2 => cases h
  rename_i sz by_ hsz hby
  split at h
  case isFalse => cases h
  rename_i hc
  obtain ⟨h0,hb,hz⟩ := hc
  obtain ⟨hnsz,hsrc⟩ := hsrc sz hsz
  obtain ⟨zv,hzv,hzsz⟩ := zeroOk_run hz
  have ht := elemT_u he
  have hnl : news.size = new.length * sz := by rw [← hnews.1,flat_length hnsz]
  -- nothing to append
  have nothing : new = [] → ∀ {base : Option Addr} {sLen sCap : Nat},xv = .slice base sLen sCap → sLen ≤ sCap → (base = none → sCap = 0) → (Builtin.append_ #[t,u] ty #[xv,yv]).run P w = .ok xv w := by
    intro hn base sLen sCap hxv hle hbn
    subst hn
    subst hxv
    have hne : news = #[] := by
      apply Array.eq_empty_of_size_eq_zero
      simpa using hnl
    subst hne
    cases base with
    | none =>
      have := hbn rfl
      subst this
      obtain rfl : sLen = 0 := by omega
      exact run_append_none ht hsz hby hsrc
    | some ad => exact run_append_in ht hsz hby hb hsrc (by simpa using hle) (by simp [storeCells])
  -- a new block
  have grow : ∀ {base : Option Addr} {sLen sCap : Nat} {olds : Array Value} {old : List AV},sCap < sLen + new.length → sLen + new.length ≤ maxElems → old.length = sLen → (∀ y ∈ old,y.cells.length = sz) → (∀ y ∈ flat old,y.scalar = true) →
      VL G (flat old) olds → (∀ w',(∀ a,w'.cell? a = w.cell? a) → (Builtin.firstCells sz sLen (.slice base sLen sCap)).run P w' = .ok olds w') →
      ∃ v w',(Builtin.append_ #[t,u] ty #[.slice base sLen sCap,yv]).run P w = .ok v w' ∧ ∃ G',V G' (.ms s.cnt 0 (sLen + new.length)) v ∧
        Sim G' ⟨(s.cnt,.cells sz (old ++ new)) :: s.heap,s.cnt + 1⟩ w' ∧ Ext G s w G' ⟨(s.cnt,.cells sz (old ++ new)) :: s.heap,s.cnt + 1⟩ w' := by
    intro base sLen sCap olds old hroom hmax hol hosz hosc holds hrun
    have hrun' := run_append_out (w := w) (ty := ty) ht hsz hby hb hsrc hroom hmax hzv hrun
    have hvl := holds.append hnews
    have hge := grownCap_ge w (sLen + new.length) sCap e
    generalize grownCap w (sLen + new.length) sCap e = nc at hrun' hge
    have hcs : (olds ++ news ++ Builtin.zeroCells zv.cells (nc - (sLen + new.length))).size = nc * sz := by
      have h1 : olds.size = sLen * sz := by rw [← holds.1,flat_length hosz,hol]
      simp only [Array.size_append,size_zeroCells,hzsz,h1,hnl]
      rw [← Nat.add_mul,← Nat.add_mul]
      congr 1; omega
    obtain ⟨q1,q2⟩ := hs.drew.put (o := .cells (olds ++ news ++ Builtin.zeroCells zv.cells (nc - (sLen + new.length))) e) (blk := .cells sz (old ++ new)) (r := ⟨w.heap.size,0,sz,nc * sz⟩) rfl
      (.cells _ _ _ _ hcs rfl h0 (fun y hy => by
          rcases List.mem_append.1 hy with hy | hy
          · exact hosz y hy
          · exact hnsz y hy) (fun y hy => by
          rw [flat_append] at hy
          rcases List.mem_append.1 hy with hy | hy
          · exact hosc y hy
          · exact hsc y hy) (by simp only [Nat.zero_add,List.length_append,hol]; exact Nat.mul_le_mul_right _ hge) fun k y hy => by
          rw [flat_append] at hy
          obtain ⟨v,e1,e2⟩ := hvl.get hy
          refine ⟨v,?_,e2.mono (.put (hs.fresh _ (Nat.le_refl _)))⟩
          have hlt : k < (olds ++ news).size := (Array.getElem?_eq_some_iff.1 e1).1
          rw [Nat.zero_add,Array.getElem?_append_left hlt]; exact e1)
    refine ⟨_,_,hrun',_,?_,q1,(Ext.drew G s w).trans hs q2⟩
    exact .ms s.cnt 0 _ _ ⟨w.heap.size,0,sz,nc * sz⟩ 0 (by simp [Ghost.put]) hge (by simp) (fun _ => by simp)
  split at h
  · rename_i full elems
    obtain ⟨base,cap,rfl,hle,hfull,hbn,hzz⟩ := V.sl_inv hx
    split at h
    · rename_i hn
      cases h
      exact did_pure hs (nothing hn rfl hle hbn) hx
    · rename_i hn
      split at h
      case isFalse => cases h
      rename_i hc
      obtain ⟨rfl,hmax,hfit⟩ := hc
      cases h
      have hpos : 0 < new.length := List.length_pos_iff.2 hn
      obtain ⟨f1,f2,f3,f4⟩ := firstCells_run (P := P) (e := e) hs hx (l := elems) rfl hsz hfit
      obtain ⟨vs,g1,g2⟩ := f4 elems.length (Nat.le_refl _)
      rw [List.take_length] at g2
      obtain ⟨v,w',e1,G',e2,e3,e4⟩ := grow (sCap := cap) (by rw [hfull rfl]; omega) hmax rfl f1 f2 g2 g1
      exact ⟨v,G',w',e1,e2,e3,e4⟩
  · rename_i id start len
    have hx0 := hx
    cases hx with
    | msnil _ _ cap base hc =>
      subst hc
      split at h
      · rename_i hn
        cases h
        exact did_pure hs (nothing hn rfl (Nat.le_refl _) (fun _ => rfl)) (.msnil _ _ _ _ rfl)
      · rename_i hn
        split at h
        case h_2 => cases h
        rename_i esz elems hg
        split at h
        case isFalse => cases h
        rename_i hc
        obtain ⟨rfl,hlen,hmax⟩ := hc
        cases h
        have hpos : 0 < new.length := List.length_pos_iff.2 hn
        have hel0 : elemsOf (.ms id start 0) s = some ((elems.drop start).take 0) := by simp [elemsOf,hg]; simpa using hlen
        obtain ⟨f1,f2,f3,f4⟩ := firstCells_run (P := P) (e := e) hs hx0 hel0 hsz (by simp [fitsV,hg,hsz])
        obtain ⟨vs,g1,g2⟩ := f4 0 (by omega)
        rw [List.take_of_length_le (by simp)] at g2
        obtain ⟨v,w',e1,G',e2',e3,e4⟩ := grow (base := base) (sCap := 0) (by omega) hmax (by simp) f1 f2 g2 g1
        have hsub : ∀ i b,eget ((s.cnt,Blk.cells esz ((elems.drop start).take 0 ++ new)) :: edel s.heap id) i = some b → eget ((s.cnt,Blk.cells esz ((elems.drop start).take 0 ++ new)) :: s.heap) i = some b := fun i b hi => by
          simp only [egetN,egetC] at hi ⊢
          split at hi
          · rename_i hq; rw [if_pos hq]; exact hi
          · rename_i hq
            rw [if_neg hq]
            rw [get_del] at hi
            split at hi
            · cases hi
            · exact hi
        refine ⟨v,G',w',e1,e2',e3.drop hsub (Nat.le_refl _),e4.trans hs (Ext.drop hsub (Nat.le_refl _) fun i hi => ?_)⟩
        simp only [egetN,egetC] at hi ⊢
        split at hi
        · cases hi
        · rename_i hq
          rw [if_neg hq,get_del,if_neg (fun e => by subst e; rw [hg] at hi; cases hi)]
          exact hi
    | ms _ _ _ cap r addr ho hle hin haddr =>
      split at h
      · rename_i hn
        cases h
        exact did_pure hs (nothing hn rfl hle (fun e => by cases e)) (.ms _ _ _ cap r addr ho hle hin haddr)
      · rename_i hn
        split at h
        case h_2 => cases h
        rename_i esz elems hg
        split at h
        case isFalse => cases h
        rename_i hc
        obtain ⟨rfl,hlen,hmax⟩ := hc
        cases h
        have hpos : 0 < new.length := List.length_pos_iff.2 hn
        obtain ⟨o,e2,e3⟩ := hs.at hg ho
        cases e3 with
        | cells _ _ cs te hcs hesz h0' hel hscE hin' hV =>
          subst hesz
          have hel0 : elemsOf (.ms id start len) s = some ((elems.drop start).take len) := by simp [elemsOf,hg,hlen]
          obtain ⟨f1,f2,f3,f4⟩ := firstCells_run (P := P) (e := e) hs hx0 hel0 hsz (by simp [fitsV,hg,hsz])
          have hol : ((elems.drop start).take len).length = len := by simp; omega
          by_cases hroom : len + new.length ≤ cap
          · -- in place
            have had := haddr (by omega)
            subst had
            have hstart : start * r.esz + len * r.esz + new.length * r.esz ≤ (start + cap) * r.esz := by
              rw [← Nat.add_mul,← Nat.add_mul]; exact Nat.mul_le_mul_right _ (by omega)
            have hfit : r.base + start * r.esz + len * r.esz + news.toList.length ≤ cs.size := by
              simp only [Array.length_toList]; rw [hnl,hcs]; omega
            have hrun := run_storeCells_at P r.block (r.base + start * r.esz + len * r.esz) te news.toList 0 cs w e2 (by simpa using hfit) (hnews.oneCells hsc)
            simp only [Nat.add_zero] at hrun
            have hA := run_append_in (w := w) (ty := ty) (ad := ⟨r.block,r.base + start * r.esz,none⟩) (sLen := len) (sCap := cap) ht hsz hby hb hsrc hroom (by rw [add_at]; exact hrun)
            have hfl : (flat ((elems.drop start).take len)).length = len * r.esz := by rw [flat_length f1,hol]
            obtain ⟨q1,q2⟩ := Sim.move (w' := w.setRow r.block (cs.toList.take (r.base + start * r.esz + len * r.esz) ++ news.toList ++ cs.toList.drop (r.base + start * r.esz + len * r.esz + news.toList.length)).toArray)
              (blk' := .cells r.esz ((elems.drop start).take len ++ new)) (r' := ⟨r.block,r.base + start * r.esz,r.esz,r.size⟩) hs hg ho rfl (by simp [World.setRow]) rfl rfl rfl
              (fun b hb => setRow_other w _ _ _ hb) (setRow_heap w _ cs _ te _ e2)
              (.cells _ _ _ _ (by simp only [List.size_toArray,List.length_append,List.length_take,List.length_drop,Array.length_toList] at hfit ⊢; omega) rfl h0 (fun y hy => by
                  rcases List.mem_append.1 hy with hy | hy
                  · exact f1 y hy
                  · exact hnsz y hy) (fun y hy => by
                  rw [flat_append] at hy
                  rcases List.mem_append.1 hy with hy | hy
                  · exact f2 y hy
                  · exact hsc y hy) (by rw [List.length_append,hol,Nat.add_mul]; show r.base + start * r.esz + _ ≤ r.size; omega) fun k y hy => by
                  have hle2 : GLe G (G.put s.cnt ⟨r.block,r.base + start * r.esz,r.esz,r.size⟩) := .put (hs.fresh _ (Nat.le_refl _))
                  show ∃ v,_[r.base + start * r.esz + k]? = some v ∧ _
                  rw [flat_append] at hy
                  rw [array_mid_get _ _ _ _ hfit]
                  by_cases hk : k < len * r.esz
                  · rw [if_pos (by omega)]
                    rw [List.getElem?_append_left (by omega)] at hy
                    have hy' : (flat (((elems.take (start + len))).drop start))[k]? = some y := by
                      rw [show (elems.take (start + len)).drop start = (elems.drop start).take len from by rw [List.drop_take]; congr 1; omega]
                      exact hy
                    have hk' := flat_take (n := start + len) hel h0 hy'
                    obtain ⟨v,q1,q2⟩ := hV _ y hk'
                    exact ⟨v,by rw [Nat.add_assoc]; exact q1,q2.mono hle2⟩
                  · rw [if_neg (by omega)]
                    rw [List.getElem?_append_right (by omega),hfl] at hy
                    obtain ⟨v,q1,q2⟩ := hnews.get hy
                    have hlt : k - len * r.esz < news.size := (Array.getElem?_eq_some_iff.1 q1).1
                    rw [if_pos (by simp only [Array.length_toList]; omega)]
                    refine ⟨v,?_,q2.mono hle2⟩
                    rw [show r.base + start * r.esz + k - (r.base + start * r.esz + len * r.esz) = k - len * r.esz from by omega]
                    simpa using q1) (by simp)
            refine ⟨_,_,_,hA,?_,q1,q2⟩
            exact .ms s.cnt 0 _ cap ⟨r.block,r.base + start * r.esz,r.esz,r.size⟩ _ (by simp [Ghost.put]) hroom
              (by show r.base + start * r.esz + (0 + cap) * r.esz ≤ r.size; rw [Nat.zero_add,Nat.add_assoc,← Nat.add_mul]; exact hin) (fun _ => by simp)
          · -- a new block
            obtain ⟨vs,g1,g2⟩ := f4 len (by omega)
            rw [List.take_of_length_le (by omega)] at g2
            obtain ⟨v,w',e1,G',e2',e3,e4⟩ := grow (base := some ⟨r.block,addr,none⟩) (sCap := cap) (by omega) hmax hol f1 f2 g2 g1
            have hsub : ∀ i b,eget ((s.cnt,Blk.cells r.esz ((elems.drop start).take len ++ new)) :: edel s.heap id) i = some b → eget ((s.cnt,Blk.cells r.esz ((elems.drop start).take len ++ new)) :: s.heap) i = some b := fun i b hi => by
              simp only [egetN,egetC] at hi ⊢
              split at hi
              · rename_i hq; rw [if_pos hq]; exact hi
              · rename_i hq
                rw [if_neg hq]
                rw [get_del] at hi
                split at hi
                · cases hi
                · exact hi
            refine ⟨v,G',w',e1,e2',e3.drop hsub (Nat.le_refl _),e4.trans hs (Ext.drop hsub (Nat.le_refl _) fun i hi => ?_)⟩
            simp only [egetN,egetC] at hi ⊢
            split at hi
            · cases hi
            · rename_i hq
              rw [if_neg hq,get_del,if_neg (fun e => by subst e; rw [hg] at hi; cases hi)]
              exact hi
  · rename_i id start len cap
    split at h
    case h_2 => cases h
    rename_i esz elems hg
    split at h
    case isFalse => cases h
    rename_i hc
    obtain ⟨hn,rfl,hlen,hroom,hmax⟩ := hc
    cases h
    have hel0 : elemsOf (.ms id start len) s = some ((elems.drop start).take len) := by simp [elemsOf,hg,hlen]
    have hol : ((elems.drop start).take len).length = len := by simp; omega
    have fin : ∀ {base : Option Addr},V G (.ms id start len) (.slice base len cap) → xv = .slice base len cap → Did P G s w (Builtin.append_ #[t,u] ty #[xv,yv]) (.ms s.cnt 0 (len + new.length)) ⟨(s.cnt,.cells esz ((elems.drop start).take len ++ new)) :: s.heap,s.cnt + 1⟩ := by
      intro base hx0 hxv
      subst hxv
      obtain ⟨f1,f2,f3,f4⟩ := firstCells_run (P := P) (e := e) hs hx0 hel0 hsz (by simp [fitsV,hg,hsz])
      obtain ⟨vs,g1,g2⟩ := f4 len (by omega)
      rw [List.take_of_length_le (by omega)] at g2
      obtain ⟨v,w',e1,G',e2',e3,e4⟩ := grow (base := base) (sCap := cap) hroom hmax hol f1 f2 g2 g1
      exact ⟨v,G',w',e1,e2',e3,e4⟩
    cases hx with
    | mcnil _ _ base => exact fin (.msnil _ _ _ _ rfl) rfl
    | mc _ _ _ _ r addr ho hle hin haddr => exact fin (.ms _ _ _ _ r addr ho hle hin haddr) rfl
  · cases h
end
end Go.Am
end
section
namespace Go.Am
open Go.RowKit
section
variable {P : Program} {G : Ghost} {s s' : St} {w : World} {env : Env} {a : Act}
theorem copy_core (hs : Sim G s w) {t u ty e : Nat} {yv : Value} {y : AV} (hy : V G y yv) {new : List AV} (he : elemT P t = some e) (hel : elemsOf y s = some new) (hf : fitsV P e y s)
    {id start len cap esz addr : Nat} {elems : List AV} {r : Reg} (hg : eget s.heap id = some (.cells esz elems)) (hsz : sizeT P e = some esz) (hin0 : start ≤ elems.length)
    (ho : G.own id = some r) (hle : len ≤ cap) (hin : r.base + (start + cap) * r.esz ≤ r.size) (haddr : 0 < cap → addr = r.base + start * r.esz) :
    Did P G s w (Builtin.copy_ #[t,u] ty #[.slice (some ⟨r.block,addr,none⟩) len cap,yv]) (.int .i64 (min new.length len : Nat)) ⟨eset s.heap id (.cells esz (elems.take start ++ (new.take (min new.length len) ++ elems.drop (start + min new.length len)))),s.cnt⟩ := by
  have ht := elemT_u he
  obtain ⟨o,e2,e3⟩ := hs.at hg ho
  cases e3 with
  | cells _ _ cs te hcs hesz h0 hle0 hscE hin' hV =>
    subst hesz
    obtain ⟨f1,f2,f3,f4⟩ := firstCells_run (P := P) hs hy hel hsz hf
    have hnn : Nat.min new.length len ≤ new.length := Nat.min_le_left _ _
    obtain ⟨vs,g1,g2⟩ := f4 (Nat.min new.length len) hnn
    have hn2 : Nat.min new.length len ≤ len := Nat.min_le_right _ _
    have hmin : min new.length len = Nat.min new.length len := rfl
    have htl : (new.take (Nat.min new.length len)).length = Nat.min new.length len := by rw [List.length_take]; exact Nat.min_eq_left hnn
    have hfl : ∀ y ∈ new.take (Nat.min new.length len),y.cells.length = r.esz := fun y hy => f1 y (List.mem_of_mem_take hy)
    have hvs : vs.size = Nat.min new.length len * r.esz := by rw [← g2.1,flat_length hfl,htl]
    have hscN : ∀ y ∈ flat (new.take (Nat.min new.length len)),y.scalar = true := fun y hy => f2 y (by
      rw [flat,List.mem_flatMap] at hy ⊢
      obtain ⟨q,hq,hy⟩ := hy
      exact ⟨q,List.mem_of_mem_take hq,hy⟩)
    rw [hmin]
    generalize hn : Nat.min new.length len = n at *
    by_cases hn0 : n = 0
    · subst hn0
      have : vs = #[] := Array.eq_empty_of_size_eq_zero (by simpa using hvs)
      subst this
      have hid : elems.take start ++ (new.take 0 ++ elems.drop (start + 0)) = elems := by simp
      rw [hid]
      have hset : ∀ i b,eget (eset s.heap id (.cells r.esz elems)) i = some b → eget s.heap i = some b := fun i b hi => by
        rw [get_set] at hi
        split at hi
        · rename_i hq; subst hq; rw [hg]; exact hi
        · exact hi
      refine ⟨_,G,w,?_,V.int .i64 ((0 : Nat) : Int),hs.drop hset (Nat.le_refl _),Ext.drop hset (Nat.le_refl _) fun i hi => ?_⟩
      · simp [Builtin.copy_,run_underlying ht,f3,run_sizeT hsz,hn,g1 w (fun _ => rfl),storeCells,goInt]
      · rw [get_set]; split
        · rename_i hq; subst hq; rw [hg] at hi; exact hi
        · exact hi
    · have had := haddr (by omega)
      subst had
      have hfit : r.base + start * r.esz + vs.toList.length ≤ cs.size := by
        simp only [Array.length_toList]
        rw [hvs,hcs,Nat.add_assoc,← Nat.add_mul]
        exact Nat.le_trans (Nat.add_le_add_left (Nat.mul_le_mul_right _ (by omega)) _) hin
      have hrun := run_storeCells_at P r.block (r.base + start * r.esz) te vs.toList 0 cs w e2 (by simpa using hfit) (g2.oneCells hscN)
      simp only [Nat.add_zero] at hrun
      have hel' : ∀ y ∈ elems.take start ++ (new.take n ++ elems.drop (start + n)),y.cells.length = r.esz := fun y hy => by
        simp only [List.mem_append] at hy
        rcases hy with hy | hy | hy
        · exact hle0 y (List.mem_of_mem_take hy)
        · exact hfl y hy
        · exact hle0 y (List.mem_of_mem_drop hy)
      have hfs : (flat (elems.take start)).length = start * r.esz := by
        rw [flat_length (esz := r.esz) fun y hy => hle0 y (List.mem_of_mem_take hy)]; congr 1; simp; omega
      have hfn : (flat (new.take n)).length = n * r.esz := by rw [flat_length hfl,htl]
      obtain ⟨q1,q2⟩ := turn_row hs hg ho e2 (elems' := elems.take start ++ (new.take n ++ elems.drop (start + n))) (cs' := (cs.toList.take (r.base + start * r.esz) ++ vs.toList ++ cs.toList.drop (r.base + start * r.esz + vs.toList.length)).toArray)
        (by simp only [List.size_toArray,List.length_append,List.length_take,List.length_drop,Array.length_toList] at hfit ⊢; omega) rfl h0 hel' (fun y hy => by
          rw [flat_append,flat_append] at hy
          simp only [List.mem_append] at hy
          have q : ∀ (l : List AV),(∀ z ∈ l,z ∈ elems) → ∀ y ∈ flat l,y.scalar = true := fun l hl y hy => hscE y (by
            rw [flat,List.mem_flatMap] at hy ⊢
            obtain ⟨z,hz,hy⟩ := hy
            exact ⟨z,hl z hz,hy⟩)
          rcases hy with hy | hy | hy
          · exact q _ (fun z hz => List.mem_of_mem_take hz) y hy
          · exact hscN y hy
          · exact q _ (fun z hz => List.mem_of_mem_drop hz) y hy)
        (by
          have q : (elems.take start ++ (new.take n ++ elems.drop (start + n))).length = max elems.length (start + n) := by simp [htl]; omega
          rw [q]
          rcases Nat.le_total elems.length (start + n) with c | c
          · rw [Nat.max_eq_right c]; exact Nat.le_trans (Nat.add_le_add_left (Nat.mul_le_mul_right _ (by omega)) _) hin
          · rw [Nat.max_eq_left c]; exact hin') fun k y hk => by
          rw [flat_append,flat_append] at hk
          rw [array_mid_get _ _ _ _ hfit]
          by_cases c1 : k < start * r.esz
          · rw [if_pos (by omega)]
            rw [List.getElem?_append_left (by omega)] at hk
            have hk' := flat_take (n := start) (l := 0) hle0 h0 (k := k) (x := y) (by simpa using hk)
            simpa using hV _ y (by simpa using hk')
          · rw [if_neg (by omega)]
            rw [List.getElem?_append_right (by omega),hfs] at hk
            by_cases c2 : k < start * r.esz + n * r.esz
            · rw [if_pos (by simp only [Array.length_toList]; omega)]
              rw [List.getElem?_append_left (by omega)] at hk
              obtain ⟨v,p1,p2⟩ := g2.get hk
              refine ⟨v,?_,p2⟩
              rw [show r.base + k - (r.base + start * r.esz) = k - start * r.esz from by omega]
              simpa using p1
            · rw [if_neg (by simp only [Array.length_toList]; omega)]
              rw [List.getElem?_append_right (by omega),hfn] at hk
              have hk' := flat_take (n := elems.length) (l := start + n) hle0 h0 (k := k - start * r.esz - n * r.esz) (x := y) (by rw [List.take_length]; exact hk)
              rw [show (start + n) * r.esz + (k - start * r.esz - n * r.esz) = k from by rw [Nat.add_mul]; omega] at hk'
              exact hV k y hk'
      refine ⟨_,G,_,?_,V.int .i64 (n : Int),q1,q2⟩
      simp [Builtin.copy_,run_underlying ht,f3,run_sizeT hsz,hn,g1 w (fun _ => rfl),hrun,goInt]
theorem copy_did (hs : Sim G s w) {t u ty e : Nat} {x z : AV} {xv yv : Value} (hx : V G x xv) {y : AV} (hy : V G y yv) {new : List AV} (he : elemT P t = some e) (hel : elemsOf y s = some new) (hf : fitsV P e y s)
    (h : aCopy P t x new s = some (z,s')) : Did P G s w (Builtin.copy_ #[t,u] ty #[xv,yv]) z s' := by
  unfold aCopy at h
  rw [he] at h
  simp only at h
  have ht := elemT_u he
  split at h
  · rename_i id start len
    split at h
    case h_2 => cases h
    rename_i esz elems hg
    split at h
    case isFalse => cases h
    rename_i hc
    obtain ⟨hsz,hin0⟩ := hc
    cases h
    cases hx with
    | msnil _ _ cap base hc =>
      subst hc
      have hid : elems.take start ++ (new.take (min new.length 0) ++ elems.drop (start + min new.length 0)) = elems := by simp
      rw [hid]
      have hset : ∀ i b,eget (eset s.heap id (.cells esz elems)) i = some b → eget s.heap i = some b := fun i b hi => by
        rw [get_set] at hi
        split at hi
        · rename_i hq; subst hq; rw [hg]; exact hi
        · exact hi
      obtain ⟨f1,f2,f3,f4⟩ := firstCells_run (P := P) hs hy hel hsz hf
      obtain ⟨vs,g1,g2⟩ := f4 0 (Nat.zero_le _)
      have hvs : vs = #[] := Array.eq_empty_of_size_eq_zero (by rw [← g2.1]; simp [flat])
      subst hvs
      refine ⟨_,G,w,?_,by simpa using V.int .i64 ((0 : Nat) : Int),hs.drop hset (Nat.le_refl _),Ext.drop hset (Nat.le_refl _) fun i hi => ?_⟩
      · cases base <;> simp [Builtin.copy_,run_underlying ht,f3,run_sizeT hsz,g1 w (fun _ => rfl),storeCells,goInt]
      · rw [get_set]; split
        · rename_i hq; subst hq; rw [hg] at hi; exact hi
        · exact hi
    | ms _ _ _ cap r addr ho hle hin haddr => exact copy_core hs hy he hel hf hg hsz (by omega) ho hle hin haddr
  · rename_i id start len cap
    split at h
    case h_2 => cases h
    rename_i esz elems hg
    split at h
    case isFalse => cases h
    rename_i hc
    obtain ⟨hsz,hin0⟩ := hc
    cases h
    cases hx with
    | mcnil _ _ base =>
      have hid : elems.take start ++ (new.take (min new.length 0) ++ elems.drop (start + min new.length 0)) = elems := by simp
      rw [hid]
      have hset : ∀ i b,eget (eset s.heap id (.cells esz elems)) i = some b → eget s.heap i = some b := fun i b hi => by
        rw [get_set] at hi
        split at hi
        · rename_i hq; subst hq; rw [hg]; exact hi
        · exact hi
      obtain ⟨f1,f2,f3,f4⟩ := firstCells_run (P := P) hs hy hel hsz hf
      obtain ⟨vs,g1,g2⟩ := f4 0 (Nat.zero_le _)
      have hvs : vs = #[] := Array.eq_empty_of_size_eq_zero (by rw [← g2.1]; simp [flat])
      subst hvs
      refine ⟨_,G,w,?_,by simpa using V.int .i64 ((0 : Nat) : Int),hs.drop hset (Nat.le_refl _),Ext.drop hset (Nat.le_refl _) fun i hi => ?_⟩
      · cases base <;> simp [Builtin.copy_,run_underlying ht,f3,run_sizeT hsz,g1 w (fun _ => rfl),storeCells,goInt]
      · rw [get_set]; split
        · rename_i hq; subst hq; rw [hg] at hi; exact hi
        · exact hi
    | mc _ _ _ _ r addr ho hle hin haddr => exact copy_core hs hy he hel hf hg hsz hin0 ho hle hin haddr
  · rename_i full elems
    split at h
    case isFalse => cases h
    rename_i hc
    cases h
    obtain ⟨base,cap,rfl,hle,_,_,_⟩ := V.sl_inv hx
    cases hq : sizeT P e with
    | none => rw [hq] at hc; cases hc.2
    | some sz =>
      obtain ⟨f1,f2,f3,f4⟩ := firstCells_run (P := P) hs hy hel hq hf
      obtain ⟨vs,g1,g2⟩ := f4 0 (Nat.zero_le _)
      have hvs : vs = #[] := Array.eq_empty_of_size_eq_zero (by rw [← g2.1]; simp [flat])
      subst hvs
      have hn : Nat.min new.length elems.length = 0 := hc.1
      refine did_pure hs (v := goInt 0) ?_ (.int _ _)
      cases base <;> simp [Builtin.copy_,run_underlying ht,f3,run_sizeT hq,hn,g1 w (fun _ => rfl),storeCells,goInt]
  · cases h
theorem lenS_val {x : AV} {v : Value} {n : Nat} (hx : V G x v) (h : lenS x = some n) : ∃ base cap,v = .slice base n cap := by
  cases hx <;> cases h <;> exact ⟨_,_,rfl⟩
theorem copyM_did (hs : Sim G s w) {t u ty : Nat} {x z : AV} {xv yv : Value} (hx : V G x xv) {id start len cap : Nat} (hy : V G (.mc id start len cap) yv)
    (h : aCopyM P t x id start len s = some (z,s')) : Did P G s w (Builtin.copy_ #[t,u] ty #[xv,yv]) z s' := by
  unfold aCopyM at h
  split at h
  case h_2 => cases h
  rename_i e esz elems n he hg hn
  split at h
  case isFalse => cases h
  rename_i hc
  obtain ⟨hsz,hin⟩ := hc
  obtain ⟨base,c,rfl⟩ := lenS_val hx hn
  have trim : ∀ b m,yv = .slice b len m → V G (.ms id start (min len n)) (.slice b (min len n) m) → Did P G s w (Builtin.copy_ #[t,u] ty #[.slice base n c,yv]) z s' := fun b m hb hv => by
    have hd := copy_did (u := u) (ty := ty) hs hx hv he (new := (elems.drop start).take (min len n)) (by simp [elemsOf,hg,hin]) (by simp [fitsV,hg,hsz]) h
    have e1 : Nat.min (min len n) n = Nat.min len n := by show min (min len n) n = min len n; omega
    obtain ⟨v,G',w',h1,h2⟩ := hd
    refine ⟨v,G',w',?_,h2⟩
    subst hb
    rw [← h1]
    simp only [Builtin.copy_,Builtin.lenOf]
    simp [run_underlying (elemT_u he),run_sizeT hsz,e1]
    cases b <;> simp [Builtin.firstCells]
  cases hy with
  | mcnil _ _ b =>
    refine trim b 0 rfl ?_
    rw [Nat.zero_min]
    exact .msnil _ _ _ _ rfl
  | mc _ _ _ _ r addr ho hle hin2 haddr => exact trim _ _ rfl (.ms _ _ _ _ r addr ho (by omega) hin2 haddr)
theorem flat_replicate (n : Nat) (z : AV) {k : Nat} {x : AV} (h0 : 0 < z.cells.length) (h : (flat (List.replicate n z))[k]? = some x) : k < n * z.cells.length ∧ z.cells[k % z.cells.length]? = some x := by
  have hall : ∀ y ∈ List.replicate n z,y.cells.length = z.cells.length := fun y hy => by rw [List.eq_of_mem_replicate hy]
  have hk : k < n * z.cells.length := by
    have := (List.getElem?_eq_some_iff.1 h).1
    rwa [flat_length hall,List.length_replicate] at this
  obtain ⟨e,he,hx⟩ := flat_inv hall h0 h
  rw [List.getElem?_replicate] at he
  split at he
  · cases he; exact ⟨hk,hx⟩
  · cases he
theorem make_did (hs : Sim G s w) {t : Nat} {l c z : AV} {lv cv : Value} (hl : V G l lv) (hcv : V G c cv) (h : aMake P t l c s = some (z,s')) : Did P G s w (Instr.makeSlice t lv cv) z s' := by
  unfold aMake at h
  split at h
  case h_2 => cases h
  rename_i k1 n k2 m e he
  cases hl; cases hcv
  split at h
  case h_2 => cases h
  rename_i sz by_ zz hsz hby hz
  split at h
  case isFalse => cases h
  rename_i hc
  obtain ⟨h1,h2,h3,h4,h5,h6,h7⟩ := hc
  cases h
  have ht := elemT_u he
  obtain ⟨i,hi,rfl⟩ := sizeT_info hsz
  obtain ⟨i',hi',rfl⟩ := bytesT_info hby
  rw [hi] at hi'; cases hi'
  obtain ⟨zv,hzv,hzV⟩ := run_zeroT hz w G
  have hzl := VL.cells hzV (not_any h6)
  have h3' := h3
  unfold maxElems at h3'
  have w1 : IntKind.i64.wrap n = n := wrap_id h1 (by omega)
  have w2 : IntKind.i64.wrap m = m := wrap_id (by omega) h3
  have hb : ¬ (281474976710656 < (i.bytes : Int) * m) := by
    have h6 : (i.bytes : Int) * m ≤ 4096 * m := Int.mul_le_mul_of_nonneg_right (by omega) (by omega)
    omega
  have n1 : ¬ (m < 0) := by omega
  have n2 : ¬ (n < 0) := by omega
  have n3 : ¬ (m < n) := by omega
  have hzs : zv.cells.size = i.size := by rw [← hzl.1,h5]
  obtain ⟨q1,q2⟩ := hs.put (o := .cells ((Array.range (m.toNat * i.size)).map (fun j => (if m.toNat * i.size = 0 then #[] else zv.cells)[j % (if m.toNat * i.size = 0 then #[] else zv.cells).size]!)) e)
    (blk := .cells i.size (List.replicate n.toNat zz)) (r := ⟨w.heap.size,0,i.size,m.toNat * i.size⟩) rfl
    (.cells _ _ _ _ (by simp) rfl h4 (fun y hy => by rw [List.eq_of_mem_replicate hy]; exact h5) (fun y hy => by
        rw [flat,List.mem_flatMap] at hy
        obtain ⟨q,hq,hy⟩ := hy
        rw [List.eq_of_mem_replicate hq] at hy
        exact scal_of_all h6 y hy) (by simp only [Nat.zero_add,List.length_replicate]; exact Nat.mul_le_mul_right _ (by omega)) fun k y hk => by
        obtain ⟨p1,p2⟩ := flat_replicate _ _ (by omega) hk
        have hlt : k < m.toNat * i.size := by
          rw [h5] at p1
          exact Nat.lt_of_lt_of_le p1 (Nat.mul_le_mul_right _ (by omega))
        obtain ⟨v,r1,r2⟩ := hzl.get p2
        refine ⟨v,?_,r2.mono (.put (hs.fresh _ (Nat.le_refl _)))⟩
        rw [if_neg (by omega)]
        rw [h5] at r1
        have hb2 : zv.cells[k % i.size]! = v := by rw [Array.getElem!_eq_getD,Array.getD_eq_getD_getElem?,r1]; rfl
        simp [hlt,hzs,hb2])
  refine ⟨.slice (some ⟨w.heap.size,0,none⟩) n.toNat m.toNat,_,_,?_,?_,q1,q2⟩
  · by_cases hN : m.toNat * i.size = 0
    · have hN' : m.toNat = 0 ∨ i.size = 0 := Nat.mul_eq_zero.1 hN
      have hm0 : m = 0 := by omega
      have hn0 : n = 0 := by omega
      subst hm0; subst hn0
      simp [Instr.makeSlice,run_underlying ht,asInt,asIntOf,run_info hi,w1,sizeOf,newRow]
    · simp only [if_neg hN]
      have hN' : ¬ (m.toNat = 0 ∨ i.size = 0) := fun h => hN (Nat.mul_eq_zero.2 h)
      have hm0 : ¬ (m ≤ 0 ∨ i.size = 0) := by omega
      have hb' : ¬ (281474976710656 < (i.bytes : Int) * m) := hb
      simp [Instr.makeSlice,run_underlying ht,asInt,asIntOf,run_info hi,w1,w2,n1,n2,n3,hb',sizeOf,newRow,hN,hzv]
  · exact .ms s.cnt 0 _ _ ⟨w.heap.size,0,i.size,m.toNat * i.size⟩ 0 (by simp [Ghost.put]) (by omega) (by simp) (fun _ => by simp)
theorem store_core (hs : Sim G s w) {id start len cap esz : Nat} {elems new : List AV} {r : Reg} {vs : Array Value} (hg : eget s.heap id = some (.cells esz elems)) (ho : G.own id = some r) (hle : len ≤ cap)
    (hin : r.base + (start + cap) * r.esz ≤ r.size) (hin0 : start ≤ elems.length) (hnl : new.length = len) (hfl : ∀ y ∈ new,y.cells.length = esz) (hscN : ∀ y ∈ flat new,y.scalar = true) (g2 : VL G (flat new) vs) :
    ∃ w',(storeCells ⟨r.block,r.base + start * r.esz,none⟩ vs.toList 0).run P w = .ok () w' ∧ Sim G ⟨eset s.heap id (.cells esz (elems.take start ++ (new ++ elems.drop (start + len)))),s.cnt⟩ w' ∧
      Ext G s w G ⟨eset s.heap id (.cells esz (elems.take start ++ (new ++ elems.drop (start + len)))),s.cnt⟩ w' := by
  obtain ⟨o,e2,e3⟩ := hs.at hg ho
  cases e3 with
  | cells _ _ cs te hcs hesz h0 hle0 hscE hin' hV =>
    subst hesz
    have hvs : vs.size = len * r.esz := by rw [← g2.1,flat_length hfl,hnl]
    have hfit : r.base + start * r.esz + vs.toList.length ≤ cs.size := by
      simp only [Array.length_toList]
      rw [hvs,hcs,Nat.add_assoc,← Nat.add_mul]
      exact Nat.le_trans (Nat.add_le_add_left (Nat.mul_le_mul_right _ (by omega)) _) hin
    have hrun := run_storeCells_at P r.block (r.base + start * r.esz) te vs.toList 0 cs w e2 (by simpa using hfit) (g2.oneCells hscN)
    simp only [Nat.add_zero] at hrun
    have hel' : ∀ y ∈ elems.take start ++ (new ++ elems.drop (start + len)),y.cells.length = r.esz := fun y hy => by
      simp only [List.mem_append] at hy
      rcases hy with hy | hy | hy
      · exact hle0 y (List.mem_of_mem_take hy)
      · exact hfl y hy
      · exact hle0 y (List.mem_of_mem_drop hy)
    have hfs : (flat (elems.take start)).length = start * r.esz := by
      rw [flat_length (esz := r.esz) fun y hy => hle0 y (List.mem_of_mem_take hy)]; congr 1; simp; omega
    have hfn : (flat new).length = len * r.esz := by rw [flat_length hfl,hnl]
    obtain ⟨q1,q2⟩ := turn_row hs hg ho e2 (elems' := elems.take start ++ (new ++ elems.drop (start + len))) (cs' := (cs.toList.take (r.base + start * r.esz) ++ vs.toList ++ cs.toList.drop (r.base + start * r.esz + vs.toList.length)).toArray)
      (by simp only [List.size_toArray,List.length_append,List.length_take,List.length_drop,Array.length_toList] at hfit ⊢; omega) rfl h0 hel' (fun y hy => by
        rw [flat_append,flat_append] at hy
        simp only [List.mem_append] at hy
        have q : ∀ (l : List AV),(∀ z ∈ l,z ∈ elems) → ∀ y ∈ flat l,y.scalar = true := fun l hl y hy => hscE y (by
          rw [flat,List.mem_flatMap] at hy ⊢
          obtain ⟨z,hz,hy⟩ := hy
          exact ⟨z,hl z hz,hy⟩)
        rcases hy with hy | hy | hy
        · exact q _ (fun z hz => List.mem_of_mem_take hz) y hy
        · exact hscN y hy
        · exact q _ (fun z hz => List.mem_of_mem_drop hz) y hy)
      (by
        have q : (elems.take start ++ (new ++ elems.drop (start + len))).length = max elems.length (start + len) := by simp [hnl]; omega
        rw [q]
        rcases Nat.le_total elems.length (start + len) with c | c
        · rw [Nat.max_eq_right c]; exact Nat.le_trans (Nat.add_le_add_left (Nat.mul_le_mul_right _ (by omega)) _) hin
        · rw [Nat.max_eq_left c]; exact hin') fun k y hk => by
        rw [flat_append,flat_append] at hk
        rw [array_mid_get _ _ _ _ hfit]
        by_cases c1 : k < start * r.esz
        · rw [if_pos (by omega)]
          rw [List.getElem?_append_left (by omega)] at hk
          have hk' := flat_take (n := start) (l := 0) hle0 h0 (k := k) (x := y) (by simpa using hk)
          simpa using hV _ y (by simpa using hk')
        · rw [if_neg (by omega)]
          rw [List.getElem?_append_right (by omega),hfs] at hk
          by_cases c2 : k < start * r.esz + len * r.esz
          · rw [if_pos (by simp only [Array.length_toList]; omega)]
            rw [List.getElem?_append_left (by omega)] at hk
            obtain ⟨v,p1,p2⟩ := g2.get hk
            refine ⟨v,?_,p2⟩
            rw [show r.base + k - (r.base + start * r.esz) = k - start * r.esz from by omega]
            simpa using p1
          · rw [if_neg (by simp only [Array.length_toList]; omega)]
            rw [List.getElem?_append_right (by omega),hfn] at hk
            have hk' := flat_take (n := elems.length) (l := start + len) hle0 h0 (k := k - start * r.esz - len * r.esz) (x := y) (by rw [List.take_length]; exact hk)
            rw [show (start + len) * r.esz + (k - start * r.esz - len * r.esz) = k from by rw [Nat.add_mul]; omega] at hk'
            exact hV k y hk'
    exact ⟨_,hrun,q1,q2⟩
theorem clear_did (hs : Sim G s w) {t ty : Nat} {x z : AV} {xv : Value} {ts : Array TypeId} (ht0 : ts[0]? = some t) (hx : V G x xv) (h : aClear P t x s = some (z,s')) : Did P G s w (Builtin.clear_ ts ty #[xv]) z s' := by
  unfold aClear at h
  split at h
  case h_2 => cases h
  rename_i e id start len he
  have ht := elemT_u he
  split at h
  case h_2 => cases h
  rename_i esz elems zz hg hz
  split at h
  case isFalse => cases h
  rename_i hc
  obtain ⟨hsz,hzl,hzs,hin0⟩ := hc
  cases h
  have nothing : len = 0 → Sim G ⟨eset s.heap id (.cells esz (elems.take start ++ (List.replicate len zz ++ elems.drop (start + len)))),s.cnt⟩ w ∧ Ext G s w G ⟨eset s.heap id (.cells esz (elems.take start ++ (List.replicate len zz ++ elems.drop (start + len)))),s.cnt⟩ w := fun h0 => by
    subst h0
    have hid : elems.take start ++ (List.replicate 0 zz ++ elems.drop (start + 0)) = elems := by simp
    rw [hid]
    have hset : ∀ i b,eget (eset s.heap id (.cells esz elems)) i = some b → eget s.heap i = some b := fun i b hi => by
      rw [get_set] at hi
      split at hi
      · rename_i hq; subst hq; rw [hg]; exact hi
      · exact hi
    refine ⟨hs.drop hset (Nat.le_refl _),Ext.drop hset (Nat.le_refl _) fun i hi => ?_⟩
    rw [get_set]; split
    · rename_i hq; subst hq; rw [hg] at hi; exact hi
    · exact hi
  have hunit : V G (.tup []) (.tuple #[]) := .tup [] #[] rfl (by simp)
  cases hx with
  | msnil _ _ cap base hc =>
    obtain ⟨q1,q2⟩ := nothing rfl
    refine ⟨_,G,w,?_,hunit,q1,q2⟩
    cases base <;> simp [Builtin.clear_,ht0,run_underlying ht]
  | ms _ _ _ cap r addr ho hle hin haddr =>
    by_cases h0 : len = 0
    · obtain ⟨q1,q2⟩ := nothing h0
      refine ⟨_,G,w,?_,hunit,q1,q2⟩
      subst h0
      simp [Builtin.clear_,ht0,run_underlying ht]
    · have had := haddr (by omega)
      subst had
      obtain ⟨zv,hzv,hzV⟩ := run_zeroT hz w G
      have hzl' := VL.cells hzV (not_any hzs)
      have hzsz : zv.cells.size = esz := by rw [← hzl'.1,hzl]
      have hpos : 0 < esz := by
        obtain ⟨o,_,e3⟩ := hs.at hg ho
        cases e3 with
        | cells _ _ _ _ _ _ h0 => exact h0
      have hvl : VL G (flat (List.replicate len zz)) (Builtin.zeroCells zv.cells len) := by
        have hall : ∀ y ∈ List.replicate len zz,y.cells.length = esz := fun y hy => by rw [List.eq_of_mem_replicate hy]; exact hzl
        refine ⟨by rw [flat_length hall]; simp [Builtin.zeroCells,hzsz],fun k x y hk hy => ?_⟩
        obtain ⟨p1,p2⟩ := flat_replicate len zz (by omega) hk
        obtain ⟨v,r1,r2⟩ := hzl'.get p2
        have hb2 : zv.cells[k % esz]! = v := by rw [Array.getElem!_eq_getD,Array.getD_eq_getD_getElem?,← hzl,r1]; rfl
        rw [hzl] at p1
        simp only [Builtin.zeroCells,Array.getElem?_map,hzsz] at hy
        rw [Array.getElem?_eq_getElem (by simpa using p1)] at hy
        simp only [Array.getElem_range,Option.map_some,Option.some.injEq] at hy
        rw [← hy,hb2]
        exact r2
      obtain ⟨w',q0,q1,q2⟩ := store_core (P := P) hs hg ho hle hin (by omega) (List.length_replicate) (fun y hy => by rw [List.eq_of_mem_replicate hy]; exact hzl) (fun y hy => by
        rw [flat,List.mem_flatMap] at hy
        obtain ⟨q,hq,hy⟩ := hy
        rw [List.eq_of_mem_replicate hq] at hy
        exact scal_of_all hzs y hy) hvl
      refine ⟨_,G,w',?_,hunit,q1,q2⟩
      obtain ⟨n,rfl⟩ : ∃ n,len = n + 1 := ⟨len - 1,by omega⟩
      simp [Builtin.clear_,ht0,run_underlying ht,hzv,q0]
end
end Go.Am
end
section
namespace Go.Am
open Go.RowKit
section
variable {P : Program} {G : Ghost} {s s' : St} {w : World} {env : Env} {a : Act}
theorem setAll_get (off : Nat) : ∀ (vs : List Value) (st : Nat) (cs : Array Value) (i : Nat),off + st + vs.length ≤ cs.size →
    (((vs.zipIdx st).foldl (fun cs (x : Value × Nat) => cs.setIfInBounds (off + x.2) x.1) cs))[i]? = if i < off + st then cs[i]? else if i < off + st + vs.length then vs[i - (off + st)]? else cs[i]?
  | [],st,cs,i,h => by
    simp only [List.zipIdx_nil,List.foldl_nil,List.length_nil,Nat.add_zero]
    split
    · rfl
    · rfl
  | v :: r,st,cs,i,h => by
    simp only [List.zipIdx_cons,List.foldl_cons,List.length_cons] at h ⊢
    rw [setAll_get off r (st + 1) _ i (by simp; omega),Array.getElem?_setIfInBounds]
    by_cases h1 : i < off + st
    · simp only [if_neg (show ¬ off + st = i from by omega)]
      rw [if_pos (by omega),if_pos h1]
    · by_cases h2 : off + st = i
      · subst h2
        rw [if_pos (by omega),if_pos rfl,if_pos (by omega),if_neg (by omega),if_pos (by omega)]
        simp
      · simp only [if_neg h2]
        rw [if_neg (by omega),if_neg h1]
        by_cases h3 : i < off + st + (r.length + 1)
        · rw [if_pos (by omega),if_pos h3,show i - (off + st) = (i - (off + (st + 1))) + 1 from by omega]
          simp
        · rw [if_neg (by omega),if_neg h3]
theorem setAll_size (off : Nat) : ∀ (vs : List Value) (st : Nat) (cs : Array Value),((vs.zipIdx st).foldl (fun cs (x : Value × Nat) => cs.setIfInBounds (off + x.2) x.1) cs).size = cs.size
  | [],st,cs => rfl
  | v :: r,st,cs => by simp only [List.zipIdx_cons,List.foldl_cons]; rw [setAll_size off r]; simp
theorem fill_VL {place place' : Nat → Option (Nat × Nat)} (hp : ∀ i q,place i = some q → place' i = some q) : ∀ {parts : List (Nat × AV)} {parts' : List (Nat × Value)} {cells l : List AV} {cv : Array Value},
    VL G cells cv → (parts.length = parts'.length ∧ ∀ (i : Nat) p q,parts[i]? = some p → parts'[i]? = some q → p.1 = q.1 ∧ V G p.2 q.2) → aFill place cells parts = some l →
    ∃ out,Instr.fill place' cv parts' = some out ∧ VL G l out
  | [],parts',cells,l,cv,hv,hpp,h => by
    cases parts' with
    | nil => cases h; exact ⟨cv,rfl,hv⟩
    | cons _ _ => simp at hpp
  | (i,x) :: r,parts',cells,l,cv,hv,hpp,h => by
    cases parts' with
    | nil => simp at hpp
    | cons q r' =>
      obtain ⟨j,v⟩ := q
      obtain ⟨hlen,hpp⟩ := hpp
      obtain ⟨rfl,hxv⟩ : i = j ∧ V G x v := hpp 0 (i,x) (j,v) rfl rfl
      simp only [aFill] at h
      split at h
      case h_2 => cases h
      rename_i off n hpl
      split at h
      case isFalse => cases h
      rename_i hc
      obtain ⟨h1,h2,h3⟩ := hc
      have hl := VL.cells hxv (not_any h2)
      have hvs : v.cells.size = n := by rw [← hl.1,h1]
      have hcs : cv.size = cells.length := hv.1.symm
      simp only [Instr.fill,hp i _ hpl]
      rw [if_neg (by simp [hvs]; omega)]
      refine fill_VL hp ?_ ⟨by simpa using hlen,fun k p q hk hq => hpp (k + 1) p q (by simpa using hk) (by simpa using hq)⟩ h
      have e : (v.cells.zipIdx.foldl (fun cs (x : Value × Nat) => cs.setIfInBounds (off + x.2) x.1) cv) = ((v.cells.toList.zipIdx 0).foldl (fun cs (x : Value × Nat) => cs.setIfInBounds (off + x.2) x.1) cv) := by
        rw [← Array.foldl_toList,Array.toList_zipIdx]
      refine ⟨?_,fun k y u hk hu => ?_⟩
      · rw [splice_length _ _ _ (by omega)]
        show cells.length = (v.cells.zipIdx.foldl (fun cs (x : Value × Nat) => cs.setIfInBounds (off + x.2) x.1) cv).size
        rw [e,setAll_size,hcs]
      · rw [list_splice_get _ _ _ _ (by omega)] at hk
        change (v.cells.zipIdx.foldl (fun cs (x : Value × Nat) => cs.setIfInBounds (off + x.2) x.1) cv)[k]? = some u at hu
        rw [e,setAll_get _ _ _ _ _ (by simp [hvs]; omega)] at hu
        simp only [Nat.add_zero,Array.length_toList,hvs,h1] at hu hk
        split at hk
        · rename_i c; rw [if_pos c] at hu; exact hv.2 k y u hk hu
        · rename_i c
          rw [if_neg c] at hu
          split at hk
          · rename_i c2; rw [if_pos c2] at hu; exact hl.2 _ y u hk (by simpa using hu)
          · rename_i c2; rw [if_neg c2] at hu; exact hv.2 k y u hk hu
theorem aParts_V (he : VEnv G env a.tmps) : ∀ {l : List (Nat × Operand)} {xs : List (Nat × AV)},aParts env l = some xs →
    xs.length = (l.map fun p => (p.1,a.eval p.2)).length ∧ ∀ (i : Nat) p q,xs[i]? = some p → (l.map fun p => (p.1,a.eval p.2))[i]? = some q → p.1 = q.1 ∧ V G p.2 q.2
  | [],xs,h => by simp [aParts] at h; subst h; simp
  | (j,o) :: r,xs,h => by
    simp only [aParts] at h
    split at h
    · rename_i x l h1 h2
      cases h
      obtain ⟨e1,e2⟩ := aParts_V he h2
      refine ⟨by simpa using e1,fun i p q hp hq => ?_⟩
      cases i with
      | zero => simp at hp hq; subst hp; subst hq; exact ⟨rfl,oper_V he h1⟩
      | succ i => exact e2 i p q (by simpa using hp) (by simpa using hq)
    · cases h
theorem run_mapM_sizes (w : World) : ∀ (fs : List Field),(fs.all fun f => (sizeT P f.type).isSome) = true →
    (fs.mapM fun f => Functor.map (Prod.mk f.offset) (sizeOf f.type)).run P w = .ok (fs.map fun f => (f.offset,(sizeT P f.type).getD 0)) w
  | [],_ => rfl
  | f :: r,h => by
    simp only [List.all_cons,Bool.and_eq_true] at h
    cases hq : sizeT P f.type with
    | none => rw [hq] at h; cases h.1
    | some n =>
      have ih := run_mapM_sizes w r h.2
      simp only [List.mapM_cons,Sem.run_bind,Sem.run_map,run_sizeT hq,Result.andThen_ok,ih,Sem.run_pure,List.map_cons,hq,Option.getD_some]
theorem build_did (hs : Sim G s w) (he : VEnv G env a.tmps) {t : Nat} {parts : Array (Nat × Operand)} {l : List (Nat × AV)} {x : AV} (hl : aParts env parts.toList = some l) (h : aBuild P t l = some x) :
    Did P G s w (Instr.build t (parts.map fun (i,x) => (i,a.eval x))) x s := by
  have hp := aParts_V he hl
  unfold aBuild at h
  split at h
  case h_2 => cases h
  rename_i cs hz
  obtain ⟨zv,hzr,hzV⟩ := run_zeroT hz w G
  have hzl := VL.cells hzV (by simp)
  split at h
  · rename_i hst
    split at h
    case h_2 => cases h
    rename_i out hout
    cases h
    unfold structT at hst
    split at hst
    case h_2 => cases hst
    rename_i fs hu
    have hm := run_mapM_sizes w fs.toList hst
    obtain ⟨ov,f1,f2⟩ := fill_VL (place' := fun i => ((fs.toList.map fun (f : Field) => (f.offset,(sizeT P f.type).getD 0)).toArray)[i]?) (fun i q hq => by
      obtain ⟨off,n⟩ := q
      obtain ⟨fs',f,hu',hfi,hoff,hn⟩ := fieldT_u hq
      rw [hu] at hu'; cases hu'
      simp only [List.getElem?_toArray,List.getElem?_map,Array.getElem?_toList,hfi,Option.map_some,hoff,hn,Option.getD_some]) hzl hp hout
    refine did_pure hs (v := .agg ov) ?_ (.agg _ _ f2.1 f2.2)
    simp only [Instr.build,Sem.run_bind,hzr,Result.andThen_ok,run_underlying hu,Array.mapM_eq_mapM_toList,Sem.run_map]
    have hmm : (fs.toList.mapM fun (f : Field) => do pure (f.offset,← sizeOf f.type)).run P w = .ok (fs.toList.map fun (f : Field) => (f.offset,(sizeT P f.type).getD 0)) w := hm
    simp only [hmm,Result.andThen_ok,Array.toList_map]
    have hf1 : Instr.fill (fun i => ((fs.toList.map fun (f : Field) => (f.offset,(sizeT P f.type).getD 0)).toArray)[i]?) zv.cells (parts.toList.map fun p => (p.1,a.eval p.2)) = some ov := f1
    simp only [hf1]
    rfl
  · split at h
    case h_2 => cases h
    rename_i m e hu
    split at h
    case h_2 => cases h
    rename_i sz hsz
    split at h
    case h_2 => cases h
    rename_i out hout
    cases h
    obtain ⟨ov,f1,f2⟩ := fill_VL (place' := fun i => some (i * sz,sz)) (fun i q hq => hq) hzl hp hout
    refine did_pure hs (v := .agg ov) ?_ (.agg _ _ f2.1 f2.2)
    simp only [Instr.build,Sem.run_bind,hzr,Result.andThen_ok,run_underlying (arrT_u hu),run_sizeT hsz,Array.toList_map]
    have hf1 : Instr.fill (fun i => some (i * sz,sz)) zv.cells (parts.toList.map fun p => (p.1,a.eval p.2)) = some ov := f1
    simp only [hf1]
    rfl
end
end Go.Am
end
section
namespace Go.Am
open Go.RowKit
section
variable {P : Program} {G : Ghost} {s s' : St} {w : World} {env : Env} {a : Act}
theorem fill_slice {sz : Nat} : ∀ {parts : List (Nat × AV)} {st : Nat} {cells : List AV},numbered parts st = true → (∀ p ∈ parts,p.2.cells.length = sz ∧ p.2.cells.all AV.scalar = true) →
    cells.length = (st + parts.length) * sz → aFill (fun i => some (i * sz,sz)) cells parts = some (cells.take (st * sz) ++ flat (parts.map (·.2)))
  | [],st,cells,_,_,hl => by
    simp only [List.length_nil,Nat.add_zero] at hl
    simp only [aFill,List.map_nil,flat_nil,List.append_nil]
    rw [List.take_of_length_le (Nat.le_of_eq hl)]
  | (j,x) :: r,st,cells,hn,hp,hl => by
    simp only [numbered,Bool.and_eq_true,beq_iff_eq] at hn
    obtain ⟨rfl,hn⟩ := hn
    obtain ⟨h1,h2⟩ := hp (j,x) (by simp)
    simp only [] at h1 h2
    have hle : j * sz + sz ≤ cells.length := by
      rw [hl,List.length_cons,← Nat.succ_mul]
      exact Nat.mul_le_mul_right _ (by omega)
    simp only [aFill,h1,h2,hle,and_self,if_true]
    have hsl : (splice cells (j * sz) x.cells).length = cells.length := splice_length _ _ _ (by omega)
    rw [fill_slice hn (fun p hp' => hp p (by simp [hp'])) (by rw [hsl,hl,List.length_cons]; congr 1; omega)]
    congr 1
    rw [List.map_cons,flat_cons,← List.append_assoc]
    congr 1
    rw [Nat.add_mul,Nat.one_mul]
    unfold splice
    rw [← List.append_assoc,List.take_append_of_le_length (by simp [h1]; omega)]
    rw [List.take_of_length_le (by simp [h1]; omega)]
theorem buildSlice_did (hs : Sim G s w) (he : VEnv G env a.tmps) {t len : Nat} {parts : Array (Nat × Operand)} {l : List (Nat × AV)} {x : AV} (hl : aParts env parts.toList = some l) (h : aBuildSlice P t len l = some x) :
    Did P G s w (Instr.buildSlice t len (parts.map fun (i,x) => (i,a.eval x))) x s := by
  have hp := aParts_V he hl
  unfold aBuildSlice at h
  split at h
  case h_2 => cases h
  rename_i e hu
  split at h
  case h_2 => cases h
  rename_i sz z hsz hz
  split at h
  case isFalse => cases h
  rename_i hc
  obtain ⟨rfl,h2,h3,h4,h5,h6⟩ := hc
  cases h
  obtain ⟨zv,hzr,hzV⟩ := run_zeroT hz w G
  -- the zero cells
  let zc : Array Value := if l.length * sz = 0 then #[] else zv.cells
  let c0 : Array Value := (Array.range (l.length * sz)).map (zc[· % zc.size]!)
  have hc0 : VL G (List.replicate (l.length * sz) AV.any) c0 := ⟨by simp [c0],fun i x y hx _ => by
    rw [List.getElem?_replicate] at hx
    split at hx
    · cases hx; exact .any _
    · cases hx⟩
  have hfl := fill_slice (sz := sz) (st := 0) (cells := List.replicate (l.length * sz) AV.any) h2 h3 (by simp)
  simp only [Nat.zero_mul,List.take_zero,List.nil_append] at hfl
  obtain ⟨ov,f1,f2⟩ := fill_VL (place' := fun i => some (i * sz,sz)) (fun i q hq => hq) hc0 hp hfl
  have hall : ∀ y ∈ l.map (·.2),y.cells.length = sz := fun y hy => by
    obtain ⟨p,hp,rfl⟩ := List.mem_map.1 hy
    exact (h3 p hp).1
  have hlen : ov.size = l.length * sz := by rw [← f2.1,flat_length hall]; simp
  obtain ⟨q1,q2⟩ := hs.newImm ov e
  have hrun : (Instr.buildSlice t l.length (parts.map fun (i,x) => (i,a.eval x))).run P w = .ok (.slice (some ⟨w.heap.size,0,none⟩) l.length l.length) (w.alloc (.cells ov e)) := by
    have h4' : ¬ (2 ^ 24 < l.length * sz) := by omega
    have h4'' : ¬ (16777216 < l.length * sz) := by omega
    simp only [Instr.buildSlice,Sem.run_bind,run_underlying (elemT_u hu),run_sizeT hsz,Result.andThen_ok,gt_iff_lt,if_neg h4',Array.toList_map]
    have hf1 : Instr.fill (fun i => some (i * sz,sz)) c0 (parts.toList.map fun p => (p.1,a.eval p.2)) = some ov := f1
    by_cases hN : l.length * sz = 0
    · rw [if_pos hN]
      simp only [c0,zc,if_pos hN] at hf1
      simp only [pure_bind,hf1]
      simp [newRow]
    · rw [if_neg hN]
      simp only [c0,zc,if_neg hN] at hf1
      simp only [Sem.run_bind,hzr,Result.andThen_ok,Sem.run_pure,hf1]
      simp [newRow]
  refine ⟨_,_,_,hrun,?_,q1,q2⟩
  have hle := q2.le
  have hmem : ∀ k y,(flat (l.map (·.2)))[k]? = some y → ∃ v,ov[k]? = some v ∧ V G y v := fun k y hk => f2.get hk
  have key := V.sl (G := G.addImm w.heap.size ov) true (l.map (·.2)) w.heap.size 0 sz l.length (fun k => ov.getD k undef) (by simp) (by simp) hall
    (fun y hy => by
      rw [flat,List.mem_flatMap] at hy
      obtain ⟨q,hq,hy⟩ := hy
      obtain ⟨p,hp,rfl⟩ := List.mem_map.1 hq
      exact scal_of_all (h3 p hp).2 y hy)
    (fun k hk => by
      have hk' : k < ov.size := by rw [hlen]; simpa using hk
      simp [Ghost.addImm,hk'])
    (fun k y hk => by
      obtain ⟨v,e1,e2⟩ := hmem k y hk
      simp only [Array.getD_eq_getD_getElem?,e1,Option.getD_some]
      exact e2.mono hle)
  simpa using key
theorem aInt_run {op : BinOp} {k : IntKind} {x y : Int} {z : AV} (hop : op ≠ .shl) (hop' : op ≠ .shr) (h : aInt op k x y = some z) (t : TypeId) :
    ∃ v,(binOp op t (.int k x) (.int k y)).run P w = .ok v w ∧ V G z v := by
  cases op <;> simp only [aInt] at h <;> first
    | (cases h; done)
    | (exact absurd rfl hop)
    | (exact absurd rfl hop')
    | (cases h; exact ⟨_,by simp [binOp,Op.intArith],.int _ _⟩)
    | (cases h; exact ⟨_,by simp only [binOp,ne_eq,not_true_eq_false,if_false,Op.intCmp,Sem.run_pure]; rfl,by
        have : ∀ b c : Bool,b = c → V G (.bool b) (.bool c) := fun b c e => by subst e; exact .bool b
        apply this
        first | rfl | (rw [Bool.eq_iff_iff]; simp)⟩)
    | (split at h
       · cases h
       · rename_i hy; cases h; exact ⟨_,by simp [binOp,Op.intDiv,hy],.int _ _⟩)
theorem aShift_run {op : BinOp} {k k' : IntKind} {x y : Int} {z : AV} (hop : op = .shl ∨ op = .shr) (h : aInt op k x y = some z) (t : TypeId) :
    ∃ v,(binOp op t (.int k x) (.int k' y)).run P w = .ok v w ∧ V G z v := by
  rcases hop with rfl | rfl <;> simp only [aInt] at h <;> (split at h) <;> first
    | (cases h; done)
    | (rename_i hy; cases h; exact ⟨_,by simp [binOp,Op.shift,hy],.int _ _⟩)
theorem aEq_run : ∀ (d : Nat) (t : TypeId) (x y : AV) (xv yv : Value) (b : Bool) (n : Nat),V G x xv → V G y yv → aEq P d t x y = some b → d ≤ n → (Op.equalIn n t xv yv).run P w = .ok b w := by
  intro d
  induction d with
  | zero => intro t x y xv yv b n _ _ h; simp [aEq] at h
  | succ d ih =>
    intro t x y xv yv b n hx hy h hn
    obtain ⟨n,rfl⟩ : ∃ m,n = m + 1 := ⟨n - 1,by omega⟩
    simp only [aEq] at h
    split at h
    · rename_i hu; cases h; cases hx; cases hy; simp [Op.equalIn,run_underlying hu]
    · rename_i hu
      split at h
      · rename_i hk; subst hk; cases h; cases hx; cases hy
        simp only [Op.equalIn,Sem.run_bind,run_underlying hu,Result.andThen_ok,if_true,Sem.run_pure]
        congr 1
      · cases h
    · rename_i hu; cases h; cases hx; cases hy
      simp [Op.equalIn,run_underlying hu,beq_toListBytes]
    · rename_i hu; cases h; cases hx; cases hy; simp [Op.equalIn,run_underlying hu]
    · rename_i hu; cases h; cases hx; cases hy; simp [Op.equalIn,run_underlying hu]
    · rename_i hu; cases h; cases hx; cases hy; simp [Op.equalIn,run_underlying hu]
    · rename_i hu; cases h; cases hx; cases hy; simp [Op.equalIn,run_underlying hu]
    · rename_i hu; cases h; cases hx; cases hy; simp [Op.equalIn,run_underlying hu]
    · rename_i hu; cases h; cases hx; cases hy; simp [Op.equalIn,run_underlying hu]
    · rename_i fs xs0 ys0 hu
      split at h
      · cases h
      · rename_i hst
        cases hx with
        | agg xs xvs hxl hxh =>
          cases hy with
          | agg ys yvs hyl hyh =>
            have hfo : P.fieldsOf t = fs := by simp [Program.fieldsOf,hu]
            rw [run_equalIn_struct w n t xvs yvs (by rw [hfo]; exact hu) (by simpa using hst),hfo]
            clear hu hfo
            generalize fs.toList = l at h
            induction l generalizing b with
            | nil => simp only [aEqFields] at h; cases h; simp [Op.eqFields]
            | cons f r ihl =>
              simp only [aEqFields] at h
              split at h
              · cases h
              · rename_i hname
                split at h
                case h_2 => cases h
                rename_i p q hp hq
                split at h
                case h_2 => cases h
                rename_i b1 b2 hb1 hb2
                cases h
                obtain ⟨pv,p1,p2⟩ := readT_part (P := P) (w := w) ⟨hxl,hxh⟩ hp
                obtain ⟨qv,q1,q2⟩ := readT_part (P := P) (w := w) ⟨hyl,hyh⟩ hq
                have e1 := ih f.type p q pv qv b1 n p2 q2 hb1 (by omega)
                have e2 := ihl b2 hb2
                simp only [Op.eqFields,ne_eq,hname,not_false_eq_true,if_true,Sem.run_bind,p1,q1,e1,Result.andThen_ok]
                cases b1
                · simp
                · simpa using e2
    · cases h
theorem run_eqGuard {op : BinOp} {t : TypeId} {x y : Operand} {xv yv : Value} (h : (∃ cs ds,xv = .agg cs ∧ yv = .agg ds ∧ P.eqGuardType P.depth t = false) ∨ (xv ≠ .nilIface ∧ ∀ cs,xv ≠ .agg cs)) :
    (eqGuard op t x y xv yv).run P w = .ok () w := by
  rcases h with ⟨cs,ds,rfl,rfl,hg⟩ | ⟨h1,h2⟩
  · cases op <;> simp [eqGuard,hg]
  · cases xv <;> first
      | exact absurd rfl h1
      | exact absurd rfl (h2 _)
      | (cases op <;> simp [eqGuard])
theorem aBin_run {op : BinOp} {t : TypeId} {ox oy : Operand} {x y z : AV} {xv yv : Value} (hx : V G x xv) (hy : V G y yv) (h : aBin P op t x y = some z) :
    ∃ v,(do eqGuard op t ox oy xv yv; binOp op t xv yv : Sem Value).run P w = .ok v w ∧ V G z v := by
  have guard : ∀ {xv yv : Value},(xv ≠ .nilIface ∧ ∀ cs,xv ≠ .agg cs) → ∀ {v : Value},(binOp op t xv yv).run P w = .ok v w → (do eqGuard op t ox oy xv yv; binOp op t xv yv : Sem Value).run P w = .ok v w := by
    intro xv yv hg v hv
    rw [Sem.run_bind,run_eqGuard (.inr hg),Result.andThen_ok,hv]
  unfold aBin at h
  split at h
  · cases hx; cases hy
    split at h
    · obtain ⟨v,e1,e2⟩ := aShift_run (P := P) (G := G) (w := w) (.inl rfl) h t
      exact ⟨v,guard ⟨by simp,by simp⟩ e1,e2⟩
    · obtain ⟨v,e1,e2⟩ := aShift_run (P := P) (G := G) (w := w) (.inr rfl) h t
      exact ⟨v,guard ⟨by simp,by simp⟩ e1,e2⟩
    · rename_i h1 h2
      split at h
      · rename_i hk; subst hk
        obtain ⟨v,e1,e2⟩ := aInt_run (P := P) (G := G) (w := w) (fun e => h1 e) (fun e => h2 e) h t
        exact ⟨v,guard ⟨by simp,by simp⟩ e1,e2⟩
      · cases h
  · cases hx; cases hy
    have hb : ∀ {b c : Bool},b = c → V G (.bool b) (.bool c) := fun e => by subst e; exact .bool _
    split at h
    · split at h
      · rename_i hsz
        cases h
        refine ⟨_,guard ⟨by simp,by simp⟩ ?_,.str _⟩
        unfold maxLen at hsz
        simp only [binOp,Op.stringOp]
        have hm : IntKind.i64.max = 9223372036854775807 := by decide
        rw [hm,if_neg (by omega)]
        rfl
      · cases h
    · cases h; exact ⟨_,guard ⟨by simp,by simp⟩ (by simp only [binOp,Op.stringOp]; rfl),.bool _⟩
    · cases h; exact ⟨_,guard ⟨by simp,by simp⟩ (by simp only [binOp,Op.stringOp]; rfl),.bool _⟩
    · cases h; exact ⟨_,guard ⟨by simp,by simp⟩ (by simp only [binOp,Op.stringOp]; rfl),.bool _⟩
    · cases h; exact ⟨_,guard ⟨by simp,by simp⟩ (by simp only [binOp,Op.stringOp]; rfl),.bool _⟩
    · cases h; exact ⟨_,guard ⟨by simp,by simp⟩ (by simp only [binOp,Op.stringOp]; rfl),.bool _⟩
    · cases h; exact ⟨_,guard ⟨by simp,by simp⟩ (by simp only [binOp,Op.stringOp]; rfl),.bool _⟩
    · cases h
  · rename_i n1 n2
    split at h
    · cases h
    · rename_i hg
      have main : ∀ b,aEq P 8 t x y = some b → (eqGuard op t ox oy xv yv).run P w = .ok () w ∧ (Op.equal t xv yv).run P w = .ok b w ∧
          (op = .eql → (binOp op t xv yv).run P w = .ok (.bool b) w) ∧ (op = .neq → (binOp op t xv yv).run P w = .ok (.bool !b) w) := by
        intro b hb
        have he : (Op.equal t xv yv).run P w = .ok b w := aEq_run 8 t x y xv yv b Op.maxDepth hx hy hb (by decide)
        have hsh : (∃ cs ds,xv = .agg cs ∧ yv = .agg ds) ∨ (xv ≠ .nilIface ∧ ∀ cs,xv ≠ .agg cs) := by
          simp only [aEq] at hb
          split at hb <;> first
            | (cases hb; done)
            | (cases hx; cases hy; exact .inl ⟨_,_,rfl,rfl⟩)
            | (cases hx; exact .inr ⟨by simp,by simp⟩)
        refine ⟨run_eqGuard ?_,he,fun e => ?_,fun e => ?_⟩
        · rcases hsh with ⟨cs,ds,e1,e2⟩ | h'
          · exact .inl ⟨cs,ds,e1,e2,by simpa using hg⟩
          · exact .inr h'
        · subst e
          simp only [aEq] at hb
          split at hb <;> first
            | (exact (n1 _ _ _ _ rfl rfl).elim)
            | (exact (n2 _ _ rfl rfl).elim)
            | (cases hb; done)
            | (cases hx; cases hy; simp only [binOp,Sem.run_bind,he,Result.andThen_ok,Sem.run_pure])
        · subst e
          simp only [aEq] at hb
          split at hb <;> first
            | (exact (n1 _ _ _ _ rfl rfl).elim)
            | (exact (n2 _ _ rfl rfl).elim)
            | (cases hb; done)
            | (cases hx; cases hy; simp only [binOp,Sem.run_bind,he,Result.andThen_ok,Sem.run_pure])
      split at h
      · split at h
        · rename_i b hb
          cases h
          obtain ⟨m1,m2,m3,m4⟩ := main b hb
          exact ⟨.bool b,by rw [Sem.run_bind,m1,Result.andThen_ok,m3 rfl],.bool _⟩
        · cases h
      · split at h
        · rename_i b hb
          cases h
          obtain ⟨m1,m2,m3,m4⟩ := main b hb
          exact ⟨.bool !b,by rw [Sem.run_bind,m1,Result.andThen_ok,m4 rfl],.bool _⟩
        · cases h
      · cases h
end
end Go.Am
end
section
namespace Go.Am
open Go.RowKit
section
variable {P : Program} {G : Ghost} {s s' : St} {w : World} {env : Env} {a : Act}
def DidN (P : Program) (G : Ghost) (s : St) (w : World) (sem : Sem Next) (x : AV) (s' : St) : Prop :=
  ∃ nx v G' w',sem.run P w = .ok nx w' ∧ (nx = .value v ∨ (nx = .skip ∧ v = undef)) ∧ V G' x v ∧ Sim G' s' w' ∧ Ext G s w G' s' w'
theorem Did.next {sem : Sem Value} {x : AV} (h : Did P G s w sem x s') : DidN P G s w (do pure (.value (← sem))) x s' := by
  obtain ⟨v,G',w',e1,e2,e3,e4⟩ := h
  exact ⟨.value v,v,G',w',by simp [e1],.inl rfl,e2,e3,e4⟩
theorem keep_some {v : Option AV} {x : AV} (h : ekeep v s = some (x,s')) : v = some x ∧ s' = s := by
  unfold ekeep at h
  split at h
  · cases h; exact ⟨rfl,rfl⟩
  · cases h
theorem did_val (hs : Sim G s w) {x : AV} {v : Value} (hv : V G x v) : DidN P G s w (pure (.value v)) x s := ⟨.value v,v,G,w,rfl,.inl rfl,hv,hs,.refl _ _ _⟩
theorem aLen_did (hs : Sim G s w) {t ty : TypeId} {ts : Array TypeId} (ht : ts[0]? = some t) {x y : AV} {xv : Value} (hx : V G x xv) (h : aLen P t x = some y) : Did P G s w (Builtin.len_ ts ty #[xv]) y s := by
  unfold aLen at h
  split at h
  · split at h
    case isFalse => cases h
    rename_i hel
    cases h
    obtain ⟨e,hel⟩ := Option.isSome_iff_exists.1 hel
    cases hx
    all_goals exact did_pure hs (v := goInt _) (by simp [Builtin.len_,ht,run_underlying (elemT_u hel)]) (.int _ _)
  · split at h
    case isFalse => cases h
    rename_i hel
    cases h
    obtain ⟨e,hel⟩ := Option.isSome_iff_exists.1 hel
    obtain ⟨base,cap,rfl,_⟩ := V.sl_inv hx
    exact did_pure hs (v := goInt _) (by simp [Builtin.len_,ht,run_underlying (elemT_u hel)]) (.int _ _)
  · split at h
    case isFalse => cases h
    rename_i hel
    cases h
    obtain ⟨e,hel⟩ := Option.isSome_iff_exists.1 hel
    cases hx
    all_goals exact did_pure hs (v := goInt _) (by simp [Builtin.len_,ht,run_underlying (elemT_u hel)]) (.int _ _)
  · split at h
    case isFalse => cases h
    rename_i hst
    cases h
    cases hx
    exact did_pure hs (v := goInt _) (by simp [Builtin.len_,ht,run_underlying (strT_u hst)]) (.int _ _)
  · split at h
    case h_2 => cases h
    rename_i n e hel
    cases h
    refine did_pure hs (v := goInt n) ?_ (.int _ _)
    cases xv <;> simp [Builtin.len_,ht,run_underlying (arrT_u hel)]
theorem aCap_did (hs : Sim G s w) {t ty : TypeId} {ts : Array TypeId} (ht : ts[0]? = some t) {x y : AV} {xv : Value} (hx : V G x xv) (h : aCap P t x = some y) : Did P G s w (Builtin.cap_ ts ty #[xv]) y s := by
  unfold aCap at h
  split at h
  case h_3 => cases h
  · split at h
    case isFalse => cases h
    rename_i hel
    cases h
    obtain ⟨e,hel⟩ := Option.isSome_iff_exists.1 hel
    cases hx
    all_goals exact did_pure hs (v := goInt _) (by simp [Builtin.cap_,ht,run_underlying (elemT_u hel)]) (.int _ _)
  · split at h
    case isFalse => cases h
    rename_i hel
    cases h
    obtain ⟨e,hel⟩ := Option.isSome_iff_exists.1 hel
    cases hx with
    | slnil _ base cap hf hb =>
      rw [hf rfl]
      exact did_pure hs (v := goInt 0) (by simp [Builtin.cap_,ht,run_underlying (elemT_u hel)]) (.int _ _)
    | sl _ _ b off esz cap val hcap hfull hesz hsc himm hV =>
      rw [hfull rfl]
      exact did_pure hs (v := goInt _) (by simp [Builtin.cap_,ht,run_underlying (elemT_u hel)]) (.int _ _)
theorem aFold_run {f : AV → AV → Option AV} {g : Value → Value → Sem Value} (hf : ∀ x y z xv yv,V G x xv → V G y yv → f x y = some z → ∃ v,(g xv yv).run P w = .ok v w ∧ V G z v) :
    ∀ {l : List AV} {lv : List Value} {x z : AV} {xv : Value},l.length = lv.length → (∀ (i : Nat) p q,l[i]? = some p → lv[i]? = some q → V G p q) → V G x xv → aFold f x l = some z →
      ∃ v,(lv.foldlM g xv).run P w = .ok v w ∧ V G z v
  | [],lv,x,z,xv,hl,hV,hx,h => by
    cases lv with
    | nil => cases h; exact ⟨xv,rfl,hx⟩
    | cons _ _ => simp at hl
  | y :: r,lv,x,z,xv,hl,hV,hx,h => by
    cases lv with
    | nil => simp at hl
    | cons yv rv =>
      simp only [aFold] at h
      split at h
      case h_2 => cases h
      rename_i u hu
      obtain ⟨v,e1,e2⟩ := hf x y u xv yv hx (hV 0 y yv rfl rfl) hu
      obtain ⟨v',f1,f2⟩ := aFold_run hf (l := r) (lv := rv) (by simpa using hl) (fun i p q hp hq => hV (i + 1) p q (by simpa using hp) (by simpa using hq)) e2 h
      exact ⟨v',by simp [List.foldlM_cons,e1,f1],f2⟩
theorem opers_two (he : VEnv G env a.tmps) {l : Array Operand} {x y : AV} (h : opers env l.toList = some [x,y]) : ∃ o1 o2,l = #[o1,o2] ∧ V G x (a.eval o1) ∧ V G y (a.eval o2) := by
  obtain ⟨ls⟩ := l
  obtain ⟨e1,e2⟩ := opers_V he h
  match ls,e1 with
  | [o1,o2],_ => exact ⟨o1,o2,rfl,e2 0 _ _ rfl rfl,e2 1 _ _ rfl rfl⟩
theorem opers_one (he : VEnv G env a.tmps) {l : Array Operand} {x : AV} (h : opers env l.toList = some [x]) : ∃ o1,l = #[o1] ∧ V G x (a.eval o1) := by
  obtain ⟨ls⟩ := l
  obtain ⟨e1,e2⟩ := opers_V he h
  match ls,e1 with
  | [o1],_ => exact ⟨o1,rfl,e2 0 _ _ rfl rfl⟩
theorem append_types {ts : Array TypeId} {t u ty : TypeId} {args : Array Value} (h0 : ts[0]? = some t) (h1 : ts[1]? = some u) : Builtin.append_ ts ty args = Builtin.append_ #[t,u] ty args := by
  unfold Builtin.append_; simp [h0,h1]
theorem copy_types {ts : Array TypeId} {t ty : TypeId} {args : Array Value} (h0 : ts[0]? = some t) : Builtin.copy_ ts ty args = Builtin.copy_ #[t,t] ty args := by
  unfold Builtin.copy_; simp [h0]
theorem append_slice_did (hs : Sim G s w) {t u ty e : TypeId} {x y z : AV} {xv yv : Value} (hx : V G x xv) (hy : V G y yv) {new : List AV} (he : elemT P t = some e) (hn : elemsOf y s = some new) (hf : fitsV P e y s)
    (hu : (elemT P u).isSome = true) (h : aAppend P t x new s = some (z,s')) : Did P G s w (Builtin.append_ #[t,u] ty #[xv,yv]) z s' := by
  obtain ⟨d,hu⟩ := Option.isSome_iff_exists.1 hu
  have hsome : ∃ sz,sizeT P e = some sz := by
    unfold aAppend at h
    rw [he] at h
    simp only at h
    split at h
    · rename_i sz _ hsz _; exact ⟨sz,hsz⟩
    · cases h
  obtain ⟨sz,hsz⟩ := hsome
  obtain ⟨f1,f2,f3,f4⟩ := firstCells_run (P := P) hs hy hn hsz hf
  obtain ⟨vs,g1,g2⟩ := f4 new.length (Nat.le_refl _)
  rw [List.take_length] at g2
  refine append_did hs hx he (fun sz' hsz' => ?_) f2 g2 h
  rw [hsz] at hsz'; cases hsz'
  refine ⟨f1,.inl ⟨⟨d,elemT_u hu⟩,fun w' => ?_,g1⟩⟩
  -- the length does not hang on the world
  have : (Builtin.lenOf yv).run P w = .ok new.length w := f3
  cases yv <;> simp [Builtin.lenOf] at this ⊢ <;> exact this
theorem append_make_did (hs : Sim G s w) {t u ty e : TypeId} {x z zz : AV} {k : IntKind} {n : Int} {xv : Value} (hx : V G x xv) (he : elemT P t = some e) (hz : zeroT P e = some zz) (h0 : 0 ≤ n) (h1 : n ≤ (maxElems : Int))
    (hu : (intT P u).isSome = true) (hsz : sizeT P e = some zz.cells.length) (hsc : zz.cells.all AV.scalar = true) (h : aAppend P t x (List.replicate n.toNat zz) s = some (z,s')) :
    Did P G s w (Builtin.append_ #[t,u] ty #[xv,.int k n]) z s' := by
  obtain ⟨k',hu⟩ := Option.isSome_iff_exists.1 hu
  have hrun : ∃ zv,(∀ w',(zeroValue e).run P w' = .ok zv w') ∧ V G zz zv := by
    unfold zeroT at hz
    cases hi : P.info? e with
    | none => simp [hi] at hz
    | some i =>
      cases hzz : i.zero with
      | none => simp [hi,hzz] at hz
      | some v =>
        simp [hi,hzz] at hz
        exact ⟨v,fun w' => by simp [zeroValue,run_info hi,hzz],ofValue_V hz⟩
  obtain ⟨zv,hzr,hzV⟩ := hrun
  have hzl := VL.cells hzV (not_any hsc)
  refine append_did hs hx he (news := if n.toNat * zz.cells.length = 0 then #[] else Builtin.zeroCells zv.cells n.toNat) (fun sz' hsz' => ?_) (fun y hy => ?_) ⟨?_,fun i p q hp hq => ?_⟩ h
  · rw [hsz] at hsz'; cases hsz'
    refine ⟨fun y hy => by rw [List.eq_of_mem_replicate hy],.inr ⟨k',k,n,intT_u hu,rfl,h0,h1,by simp,zv,hzr,by simp⟩⟩
  · rw [flat,List.mem_flatMap] at hy
    obtain ⟨q,hq,hy⟩ := hy
    rw [List.eq_of_mem_replicate hq] at hy
    exact scal_of_all hsc y hy
  · rw [flat_length (esz := zz.cells.length) fun y hy => by rw [List.eq_of_mem_replicate hy]]
    rw [List.length_replicate]
    split
    · rename_i hn; rw [hn]; rfl
    · rw [size_zeroCells,← hzl.1]
  · have hpos : 0 < zz.cells.length := by
      rcases Nat.eq_zero_or_pos zz.cells.length with h | h
      · exfalso
        have hl : (flat (List.replicate n.toNat zz)).length = 0 := by
          rw [flat_length (esz := zz.cells.length) fun y hy => by rw [List.eq_of_mem_replicate hy]]; rw [h]; simp
        rw [List.eq_nil_of_length_eq_zero hl] at hp
        simp at hp
      · exact h
    obtain ⟨p1,p2⟩ := flat_replicate _ _ hpos hp
    rw [if_neg (by omega)] at hq
    obtain ⟨v,r1,r2⟩ := hzl.get p2
    have hlt : i < n.toNat * zv.cells.size := by rw [← hzl.1]; exact p1
    have hzs : zv.cells.size = zz.cells.length := hzl.1.symm
    have hb2 : zv.cells[i % zv.cells.size]! = v := by rw [Array.getElem!_eq_getD,Array.getD_eq_getD_getElem?,hzs,r1]; rfl
    simp [Builtin.zeroCells,hlt,hb2] at hq
    subst hq; exact r2
theorem aop_sound (hs : Sim G s w) (he : VEnv G env a.tmps) (o : Oper) {x : AV} (h : aop P o.op env s = some (x,s')) : DidN P G s w (execOp a.eval o) x s' := by
  unfold aop at h
  obtain ⟨dst,op,type,pos,after,guard⟩ := o
  simp only at h
  split at h
  · -- move
    obtain ⟨h1,rfl⟩ := keep_some h
    exact did_val hs (oper_V he h1)
  · obtain ⟨h1,rfl⟩ := keep_some h
    exact did_val hs (oper_V he h1)
  · -- pick
    rename_i c oa ob
    split at h
    case h_2 => cases h
    rename_i b hc
    have hv := oper_V he hc
    generalize hq : a.eval c = cv at hv
    cases hv
    cases b
    · simp only [Bool.false_eq_true,if_false] at h
      obtain ⟨h1,rfl⟩ := keep_some h
      exact ⟨.value (a.eval ob),_,G,w,by simp [execOp,hq,asBool],.inl rfl,oper_V he h1,hs,.refl _ _ _⟩
    · simp only [if_true] at h
      obtain ⟨h1,rfl⟩ := keep_some h
      exact ⟨.value (a.eval oa),_,G,w,by simp [execOp,hq,asBool],.inl rfl,oper_V he h1,hs,.refl _ _ _⟩
  · split at h
    case h_2 => cases h
    rename_i z hz
    exact (alloc_did hs hz h).next
  · split at h
    case h_2 => cases h
    rename_i v hv
    exact (new_did hs (oper_V he hv) h).next
  · split at h
    case h_2 => cases h
    rename_i l hl
    obtain ⟨h1,rfl⟩ := keep_some h
    exact (build_did hs he hl h1).next
  · split at h
    case h_2 => cases h
    rename_i l hl
    obtain ⟨h1,rfl⟩ := keep_some h
    exact (buildSlice_did hs he hl h1).next
  · split at h
    case h_2 => cases h
    rename_i p hp
    obtain ⟨h1,rfl⟩ := keep_some h
    exact (load_did hs (oper_V he hp) h1).next
  · split at h
    case h_2 => cases h
    rename_i p y hp hy
    split at h
    case h_2 => cases h
    rename_i s2 hst
    cases h
    obtain ⟨w',e1,e2,e3⟩ := store_did hs (oper_V he hp) (oper_V he hy) hst
    exact ⟨.skip,undef,G,w',by simp [execOp,e1],.inr ⟨rfl,rfl⟩,.any _,e2,e3⟩
  · -- nilCheck
    rename_i ox
    split at h
    · rename_i hq
      cases h
      have hv := oper_V he hq
      generalize hqq : a.eval ox = cv at hv
      cases hv with
      | mp id el off r ho => exact ⟨.value _,_,G,w,by simp only [execOp,hqq]; rfl,.inl rfl,.mp _ _ _ r ho,hs,.refl _ _ _⟩
    · rename_i hq
      cases h
      have hv := oper_V he hq
      generalize hqq : a.eval ox = cv at hv
      have hv' := hv
      cases hv with
      | ip cells b off val h1 h2 => exact ⟨.value _,_,G,w,by simp only [execOp,hqq]; rfl,.inl rfl,hv',hs,.refl _ _ _⟩
    · rename_i hq
      cases h
      have hv := oper_V he hq
      generalize hqq : a.eval ox = cv at hv
      have hv' := hv
      cases hv with
      | fn f caps vs h1 h2 => exact ⟨.value _,_,G,w,by simp only [execOp,hqq]; rfl,.inl rfl,hv',hs,.refl _ _ _⟩
    · cases h
  · -- binOp
    split at h
    case h_2 => cases h
    rename_i y z hy hz
    obtain ⟨h1,rfl⟩ := keep_some h
    obtain ⟨v,e1,e2⟩ := aBin_run (ox := _) (oy := _) (oper_V he hy) (oper_V he hz) h1
    exact (did_pure hs e1 e2).next
  · split at h
    case h_2 => cases h
    rename_i y hy
    obtain ⟨h1,rfl⟩ := keep_some h
    have hv := oper_V he hy
    unfold aUn at h1
    split at h1
    · cases h1
      generalize hq : a.eval _ = cv at hv
      cases hv
      exact ⟨_,_,G,w,by simp only [execOp,hq,Op.unary,Sem.run_bind,Sem.run_pure,Result.andThen_ok],.inl rfl,.bool _,hs,.refl _ _ _⟩
    · cases h1
      generalize hq : a.eval _ = cv at hv
      cases hv
      exact ⟨_,_,G,w,by simp only [execOp,hq,Op.unary,Op.intArith,Sem.run_bind,Sem.run_pure,Result.andThen_ok],.inl rfl,.int _ _,hs,.refl _ _ _⟩
    · cases h1
  · -- convert
    split at h
    case h_2 => cases h
    rename_i y hy
    obtain ⟨h1,rfl⟩ := keep_some h
    have hv := oper_V he hy
    unfold aConvert at h1
    split at h1
    · split at h1
      case isFalse => cases h1
      rename_i hsrc
      split at h1
      case h_2 => cases h1
      rename_i k hk
      cases h1
      obtain ⟨d,hd⟩ := Option.isSome_iff_exists.1 hsrc
      generalize hq : a.eval _ = cv at hv
      cases hv
      exact ⟨_,_,G,w,by simp [execOp,hq,convert,run_underlying hd,run_underlying (intT_u hk),Conv.intToInt],.inl rfl,.int _ _,hs,.refl _ _ _⟩
    · split at h1
      case isFalse => cases h1
      rename_i hsrc
      cases h1
      obtain ⟨d,hd⟩ := Option.isSome_iff_exists.1 hsrc.1
      generalize hq : a.eval _ = cv at hv
      cases hv
      exact ⟨_,_,G,w,by simp [execOp,hq,convert,run_underlying hd,run_underlying (strT_u hsrc.2)],.inl rfl,.str _,hs,.refl _ _ _⟩
    · cases h1
  · -- makeFunc
    rename_i f first caps
    split at h
    case isFalse => cases h
    rename_i hf
    split at h
    case h_2 => cases h
    rename_i l hl
    cases h
    have hfe : first = #[] := Array.eq_empty_of_size_eq_zero hf
    subst hfe
    have hvl := opers_VL he hl
    exact ⟨.value (.func (.func f) #[] (caps.map a.eval)),_,G,w,by simp [execOp,Instr.makeFunc],.inl rfl,.fn f l _ hvl.1 hvl.2,hs,.refl _ _ _⟩
  · split at h
    case h_2 => cases h
    rename_i y hy
    obtain ⟨h1,rfl⟩ := keep_some h
    exact (slice_did hs he (oper_V he hy) h1).next
  · split at h
    case h_2 => cases h
    rename_i y hy
    obtain ⟨h1,rfl⟩ := keep_some h
    exact (fieldAddr_did hs (oper_V he hy) h1).next
  · split at h
    case h_2 => cases h
    rename_i y hy
    obtain ⟨h1,rfl⟩ := keep_some h
    exact (field_did hs (oper_V he hy) h1).next
  · split at h
    case h_2 => cases h
    rename_i y z hy hz
    obtain ⟨h1,rfl⟩ := keep_some h
    exact (indexAddr_did hs (oper_V he hy) (oper_V he hz) h1).next
  · split at h
    case h_2 => cases h
    rename_i y z hy hz
    obtain ⟨h1,rfl⟩ := keep_some h
    exact (index_did hs (oper_V he hy) (oper_V he hz) h1).next
  · -- extract
    split at h
    case h_2 => cases h
    rename_i vs hy
    obtain ⟨h1,rfl⟩ := keep_some h
    have hv := oper_V he hy
    generalize hq : a.eval _ = cv at hv
    cases hv with
    | tup _ us hl hh =>
      obtain ⟨v,e1,e2⟩ := VL.get ⟨hl,hh⟩ h1
      exact ⟨.value v,v,G,w,by simp [execOp,hq,Instr.extract,e1],.inl rfl,e2,hs,.refl _ _ _⟩
  · split at h
    case h_2 => cases h
    rename_i y z hy hz
    exact (make_did hs (oper_V he hy) (oper_V he hz) h).next
  · -- call
    rename_i c
    obtain ⟨callee,args,argTypes⟩ := c
    simp only at h
    split at h
    · -- len
      split at h
      case h_2 => cases h
      rename_i y t hy ht
      obtain ⟨h1,rfl⟩ := keep_some h
      obtain ⟨o1,rfl,v1⟩ := opers_one he hy
      have := (aLen_did (ty := type) hs ht v1 h1).next
      simpa [execOp,resolve,invoke,builtin] using this
    · -- append
      split at h
      case h_2 => cases h
      rename_i y z t u hy ht hu
      obtain ⟨o1,o2,rfl,v1,v2⟩ := opers_two he hy
      have goal : ∀ x,Did P G s w (Builtin.append_ #[t,u] type #[a.eval o1,a.eval o2]) x s' →
          DidN P G s w (execOp a.eval ⟨dst,.call ⟨.builtin .append,#[o1,o2],argTypes⟩,type,pos,after,guard⟩) x s' := fun x hd => by
        rw [← append_types ht hu] at hd
        simpa [execOp,resolve,invoke,builtin] using hd.next
      refine goal _ ?_
      split at h
      · rename_i k n
        split at h
        case h_2 => cases h
        rename_i e hel
        split at h
        case h_2 => cases h
        rename_i zz hz
        split at h
        case isFalse => cases h
        rename_i hc
        generalize a.eval o2 = cv at v2
        cases v2
        exact append_make_did hs v1 hel hz hc.1 hc.2.1 hc.2.2.1 hc.2.2.2.1 hc.2.2.2.2 h
      · split at h
        case h_2 => cases h
        rename_i e new hel hn
        split at h
        case isFalse => cases h
        rename_i hc
        exact append_slice_did hs v1 v2 hel hn hc.1 hc.2 h
    · -- copy
      split at h
      case h_2 => cases h
      rename_i y z t hy ht
      obtain ⟨o1,o2,rfl,v1,v2⟩ := opers_two he hy
      split at h
      · have hd := copyM_did (u := t) (ty := type) hs v1 v2 h
        rw [← copy_types ht] at hd
        simpa [execOp,resolve,invoke,builtin] using hd.next
      · split at h
        case h_2 => cases h
        rename_i e new hel hn
        split at h
        case isFalse => cases h
        rename_i hf
        have hd := copy_did (u := t) (ty := type) hs v1 v2 hel hn hf h
        rw [← copy_types ht] at hd
        simpa [execOp,resolve,invoke,builtin] using hd.next
    · -- cap
      split at h
      case h_2 => cases h
      rename_i y t hy ht
      obtain ⟨h1,rfl⟩ := keep_some h
      obtain ⟨o1,rfl,v1⟩ := opers_one he hy
      have := (aCap_did (ty := type) hs ht v1 h1).next
      simpa [execOp,resolve,invoke,builtin] using this
    · -- clear
      split at h
      case h_2 => cases h
      rename_i y t hy ht
      obtain ⟨o1,rfl,v1⟩ := opers_one he hy
      have := (clear_did (ty := type) hs ht v1 h).next
      simpa [execOp,resolve,invoke,builtin] using this
    · -- min
      split at h
      case h_2 => cases h
      rename_i y r hy
      obtain ⟨h1,rfl⟩ := keep_some h
      obtain ⟨e1,e2⟩ := opers_V he hy
      obtain ⟨ls⟩ := args
      cases ls with
      | nil => simp at e1
      | cons o1 rest =>
        obtain ⟨v,f1,f2⟩ := aFold_run (P := P) (w := w) (g := Builtin.min2) (fun p q z pv qv hp hq hz => by
          cases p <;> simp only [aMin] at hz <;> first | (cases hz; done) | skip
          cases q <;> simp only [] at hz <;> first | (cases hz; done) | skip
          split at hz
          · rename_i hk; subst hk; cases hz; cases hp; cases hq; exact ⟨_,rfl,.int _ _⟩
          · cases hz) (l := r) (lv := rest.map a.eval) (by simpa using e1) (fun i p q hp hq => e2 (i + 1) p q (by simpa using hp) (by simpa using hq)) (e2 0 y _ rfl rfl) h1
        refine ⟨.value v,v,G,w,?_,.inl rfl,f2,hs,.refl _ _ _⟩
        simp [execOp,resolve,invoke,builtin,Builtin.min_,f1]
    · -- max
      split at h
      case h_2 => cases h
      rename_i y r hy
      obtain ⟨h1,rfl⟩ := keep_some h
      obtain ⟨e1,e2⟩ := opers_V he hy
      obtain ⟨ls⟩ := args
      cases ls with
      | nil => simp at e1
      | cons o1 rest =>
        obtain ⟨v,f1,f2⟩ := aFold_run (P := P) (w := w) (g := Builtin.max2) (fun p q z pv qv hp hq hz => by
          cases p <;> simp only [aMax] at hz <;> first | (cases hz; done) | skip
          cases q <;> simp only [] at hz <;> first | (cases hz; done) | skip
          split at hz
          · rename_i hk; subst hk; cases hz; cases hp; cases hq; exact ⟨_,rfl,.int _ _⟩
          · cases hz) (l := r) (lv := rest.map a.eval) (by simpa using e1) (fun i p q hp hq => e2 (i + 1) p q (by simpa using hp) (by simpa using hq)) (e2 0 y _ rfl rfl) h1
        refine ⟨.value v,v,G,w,?_,.inl rfl,f2,hs,.refl _ _ _⟩
        simp [execOp,resolve,invoke,builtin,Builtin.max_,f1]
    · cases h
  · cases h
end
end Go.Am
end
