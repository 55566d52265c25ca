/-
 Plain laws of chapter 8: Times of the reference,and the statement on Fit and Times.
 Own work. No Go text.
-/
import Derived.Test.YtplpfocfcppajaaGreatLt
import Derived.Test.YtplpfocfcppajaaGreatL2
set_option linter.all false
set_option maxRecDepth 20000
namespace Go.Proofs.YtplpfocfcppajaaGreat
open Go Go.Am
theorem asc_split (n : Int) : ∀ {l : List Int},asc l → l = l.filter (fun x => decide (x < n)) ++ l.filter fun x => !decide (x < n)
 | [],_ => rfl
 | x :: l,h => by
  obtain ⟨h1,h2⟩ := List.pairwise_cons.1 h
  by_cases hx : x < n
  ·rw [List.filter_cons_of_pos (by simpa using hx),List.filter_cons_of_neg (by simpa using hx),List.cons_append,← asc_split n h2]
  ·have he : l.filter (fun x => decide (x < n)) = [] := List.filter_eq_nil_iff.2 fun y hy => by
    have := h1 y hy
    simp; omega
   rw [List.filter_cons_of_neg (by simpa using hx),List.filter_cons_of_pos (by simpa using hx),he,List.nil_append]
   congr 1
   exact (List.filter_eq_self.2 fun y hy => by have := h1 y hy; simp; omega).symm
def downB (l : List Int) (n : Int) : Int → Option (Int ⊕ Int) := fun (l1_5 : Int) => ((bif (decide (0 < l1_5)) then ((ix l (wr (l1_5 - 1))).bind fun y2 => some (decide (n ≤ y2))) else (some false)) : Option Bool).bind fun (j2_18 : Bool) => bif j2_18 then (some (.inl (wr (l1_5 - 1)))) else (some (.inr l1_5))
theorem down_loop (A B : List Int) (n : Int) (hA : ∀ x ∈ A,x < n) (hB : ∀ x ∈ B,n ≤ x) (hs : Small (A ++ B)) : ∀ (k fuel : Nat),k ≤ B.length → k < fuel → loopN (downB (A ++ B) n) fuel ((A.length + k : Nat) : Int) = some (A.length : Int)
 | _,0,_,h => by omega
 | 0,fuel + 1,_,_ => by
  by_cases h0 : A.length = 0
  ·have hd : decide ((0 : Int) < ((A.length + 0 : Nat) : Int)) = false := decide_eq_false (by omega)
   simp only [loopN,downB,hd,cond_false,Option.bind_some]
   rfl
  ·simp only [Small,List.length_append] at hs
   have hd : decide ((0 : Int) < ((A.length + 0 : Nat) : Int)) = true := decide_eq_true (by omega)
   have hw : wr (((A.length + 0 : Nat) : Int) - 1) = ((A.length - 1 : Nat) : Int) := by rw [wr64 (by omega) (by omega)]; omega
   have hg : (A ++ B)[A.length - 1]? = some (A[A.length - 1]'(by omega)) := by rw [List.getElem?_append_left (by omega),List.getElem?_eq_getElem]
   have ha := hA _ (List.getElem_mem (l := A) (n := A.length - 1) (by omega))
   have hd2 : decide (n ≤ A[A.length - 1]'(by omega)) = false := decide_eq_false (by omega)
   simp only [loopN,downB,hd,cond_true,hw,ixNat hg,Option.bind_some,hd2,cond_false]
   rfl
 | k + 1,fuel + 1,hk,hf => by
  have hs' := hs
  simp only [Small,List.length_append] at hs'
  have hd : decide ((0 : Int) < ((A.length + (k + 1) : Nat) : Int)) = true := decide_eq_true (by omega)
  have hw : wr (((A.length + (k + 1) : Nat) : Int) - 1) = ((A.length + k : Nat) : Int) := by rw [wr64 (by omega) (by omega)]; omega
  have hg : (A ++ B)[A.length + k]? = some (B[k]'(by omega)) := by
   rw [List.getElem?_append_right (by omega),Nat.add_sub_cancel_left,List.getElem?_eq_getElem]
  have hb := hB _ (List.getElem_mem (l := B) (n := k) (by omega))
  have hd2 : decide (n ≤ B[k]'(by omega)) = true := decide_eq_true hb
  simp only [loopN,downB,hd,cond_true,hw,ixNat hg,Option.bind_some,hd2]
  exact down_loop A B n hA hB hs k fuel (by omega) (by omega)
theorem shift_eq (A B : List Int) (n : Int) (d : Nat) (hd : d = A.length) (Y : List Int) (hY : Y = (A ++ B) ++ [0]) :
  ((Y.take (d + 1) ++ (((Y.drop d).take (Y.length - d)).take (min ((Y.drop d).take (Y.length - d)).length (Y.length - (d + 1))) ++ Y.drop ((d + 1) + min ((Y.drop d).take (Y.length - d)).length (Y.length - (d + 1))))).take Y.length).set d n = A ++ n :: B := by
 subst hd
 rw [List.append_assoc] at hY
 have hl : Y.length = A.length + (B.length + 1) := by rw [hY]; simp
 have h1 : Y.drop A.length = B ++ [0] := by rw [hY,List.drop_left]
 have h2 : Y.take (A.length + 1) = A ++ (B ++ [0]).take 1 := by rw [hY,List.take_length_add_append]
 have h3 : (B ++ [0]).take (Y.length - A.length) = B ++ [0] := List.take_of_length_le (by simp; omega)
 have h4 : min (B ++ [(0 : Int)]).length (Y.length - (A.length + 1)) = B.length := by simp; omega
 have h5 : (B ++ [(0 : Int)]).take B.length = B := List.take_left
 have h6 : Y.drop (A.length + 1 + B.length) = [] := List.drop_of_length_le (by omega)
 rw [h1,h3,h4,h5,h6,h2,List.append_nil]
 obtain ⟨x,hx⟩ : ∃ x,(B ++ [(0 : Int)]).take 1 = [x] := by
  cases B with
  | nil => exact ⟨0,rfl⟩
  | cons b B => exact ⟨b,rfl⟩
 rw [hx,List.take_of_length_le (by simp; omega),List.append_assoc,List.set_append_right (h := Nat.le_refl _)]
 simp
theorem f92_eq (l : List Int) (n : Int) (ha : asc l) (hs : l.length ≤ 100000) : f92 l n = some (putI l n) := by
 have hsp := asc_split n ha
 have hAm : ∀ x ∈ l.filter (fun x => decide (x < n)),x < n := fun x hx => by simpa using (List.mem_filter.1 hx).2
 have hBm : ∀ x ∈ l.filter (fun x => !decide (x < n)),n ≤ x := fun x hx => by have := (List.mem_filter.1 hx).2; simp at this; exact this
 have hBa : asc (l.filter (fun x => !decide (x < n))) := ha.filter _
 have hput : putI l n = bif l.any (fun x => decide (x = n)) then l else l.filter (fun x => decide (x < n)) ++ n :: l.filter fun x => !decide (x < n) := rfl
 rw [hput]
 generalize l.filter (fun x => decide (x < n)) = A at hsp hAm
 generalize l.filter (fun x => !decide (x < n)) = B at hsp hBm hBa
 have hlen : l.length = A.length + B.length := by rw [hsp,List.length_append]
 have hsm : Small (A ++ B) := by simp only [Small,List.length_append]; omega
 have hdown := down_loop A B n hAm hBm hsm B.length FUEL (Nat.le_refl _) (by unfold FUEL; omega)
 unfold f92
 rw [← hsp] at hdown
 have hlc : ((A.length + B.length : Nat) : Int) = (l.length : Int) := by rw [hlen]
 rw [hlc] at hdown
 have hloop : loopN (σ := Int) (τ := Int) (downB l n) FUEL (l.length : Int) = some (A.length : Int) := hdown
 unfold downB at hloop
 rw [hloop,Option.bind_some]
 cases hB : B with
 | nil =>
  subst hB
  have hd : decide ((A.length : Int) < (l.length : Int)) = false := decide_eq_false (by simp at hlen; omega)
  have hany : l.any (fun x => decide (x = n)) = false := by
   rw [hsp,List.append_nil]
   exact List.any_eq_false.2 fun x hx => by have := hAm x hx; simp; omega
  rw [hany,hd]
  simp only [cond_false,Option.bind_some]
  have m1 : l.length + 1 ≤ maxElems := by unfold maxElems; omega
  have hw : wr ((A.length : Int) + 1) = ((A.length + 1 : Nat) : Int) := wrNat (by omega)
  have hl0 : (l ++ [(0 : Int)]).length = A.length + ([] : List Int).length + 1 := by rw [List.length_append,hlen]; rfl
  simp only [hw,Int.toNat_natCast,need,if_pos m1]
  rw [if_pos (by omega),if_pos (by rw [hl0]; omega),if_pos (by omega),if_pos (by rw [hl0]; omega),if_pos (by rw [hl0]; omega),if_pos (by rw [hl0]; omega)]
  obtain ⟨v,hv⟩ : ∃ v,(((l ++ [(0 : Int)]).take (A.length + 1) ++ ((((l ++ [0]).drop A.length).take ((l ++ [0]).length - A.length)).take (min (((l ++ [0]).drop A.length).take ((l ++ [0]).length - A.length)).length ((l ++ [0]).length - (A.length + 1))) ++ (l ++ [0]).drop ((A.length + 1) + min (((l ++ [0]).drop A.length).take ((l ++ [0]).length - A.length)).length ((l ++ [0]).length - (A.length + 1))))).take (l ++ [0]).length)[A.length]? = some v := by
   have h := congrArg List.length (shift_eq A [] n A.length rfl (l ++ [0]) (by rw [hsp]))
   rw [List.length_set] at h
   exact ⟨_,List.getElem?_eq_getElem (by rw [h]; simp)⟩
  rw [ixNat hv,Option.bind_some,shift_eq A [] n A.length rfl (l ++ [0]) (by rw [hsp])]
 | cons b B' =>
  subst hB
  have hd : decide ((A.length : Int) < (l.length : Int)) = true := decide_eq_true (by simp at hlen; omega)
  have hg : l[A.length]? = some b := by rw [hsp,List.getElem?_append_right (Nat.le_refl _)]; simp
  rw [hd,cond_true,ixNat hg,Option.bind_some,Option.bind_some]
  by_cases he : b = n
  ·have hany : l.any (fun x => decide (x = n)) = true := List.any_eq_true.2 ⟨b,List.mem_of_getElem? hg,by simpa using he⟩
   rw [decide_eq_true he,hany]; rfl
  ·have hany : l.any (fun x => decide (x = n)) = false := by
    rw [hsp]
    refine List.any_eq_false.2 fun x hx => ?_
    rcases List.mem_append.1 hx with h | h
    ·have := hAm x h; simp; omega
    ·have hb := hBm b (by simp)
     rcases List.mem_cons.1 h with rfl | h
     ·simpa using he
     ·have := (List.pairwise_cons.1 hBa).1 x h; simp; omega
   rw [hany,decide_eq_false he]
   simp only [cond_false]
   have m1 : l.length + 1 ≤ maxElems := by unfold maxElems; omega
   have hw : wr ((A.length : Int) + 1) = ((A.length + 1 : Nat) : Int) := wrNat (by omega)
   have hl0 : (l ++ [(0 : Int)]).length = A.length + (b :: B').length + 1 := by rw [List.length_append,hlen]; rfl
   simp only [hw,Int.toNat_natCast,need,if_pos m1]
   rw [if_pos (by omega),if_pos (by rw [hl0]; omega),if_pos (by omega),if_pos (by rw [hl0]; omega),if_pos (by rw [hl0]; omega),if_pos (by rw [hl0]; omega)]
   obtain ⟨v,hv⟩ : ∃ v,(((l ++ [(0 : Int)]).take (A.length + 1) ++ ((((l ++ [0]).drop A.length).take ((l ++ [0]).length - A.length)).take (min (((l ++ [0]).drop A.length).take ((l ++ [0]).length - A.length)).length ((l ++ [0]).length - (A.length + 1))) ++ (l ++ [0]).drop ((A.length + 1) + min (((l ++ [0]).drop A.length).take ((l ++ [0]).length - A.length)).length ((l ++ [0]).length - (A.length + 1))))).take (l ++ [0]).length)[A.length]? = some v := by
    have h := congrArg List.length (shift_eq A (b :: B') n A.length rfl (l ++ [0]) (by rw [hsp]))
    rw [List.length_set] at h
    exact ⟨_,List.getElem?_eq_getElem (by rw [h]; simp)⟩
   rw [ixNat hv,Option.bind_some,shift_eq A (b :: B') n A.length rfl (l ++ [0]) (by rw [hsp])]
def accT (all L : List GTone) : List Int := (L.flatMap (timesOf all)).foldl putI [0]
theorem foldl_len : ∀ (l a : List Int),(l.foldl putI a).length ≤ a.length + l.length
 | [],a => by simp
 | x :: l,a => by
  have h1 := foldl_len l (putI a x)
  have h2 := putI_len (l := a) x
  simp only [List.foldl_cons,List.length_cons]; omega
theorem accT_ok (all L : List GTone) (hL : L.length ≤ 2500) : asc (accT all L) ∧ (accT all L).length ≤ 6000 := by
 refine ⟨(foldl_put _ [0] (by simp [asc])).1,?_⟩
 have h1 := foldl_len (L.flatMap (timesOf all)) [0]
 have h2 := times_len all L
 simp only [List.length_cons,List.length_nil] at h1
 unfold accT; omega
theorem accT_snoc (all L : List GTone) (t : GTone) : accT all (L ++ [t]) = (timesOf all t).foldl putI (accT all L) := by
 unfold accT
 rw [List.flatMap_append,List.foldl_append]; simp
theorem f47_eq (l : List (List GTone)) (h6 : l.length ≤ 6) (h4 : ∀ p ∈ l,p.length ≤ 400) : f47 l = some (accT l.flatten l.flatten) := by
 have hs : Small l := by simp only [Small]; omega
 have hps : ∀ p ∈ l,Small p := fun p hp => by have := h4 p hp; simp only [Small]; omega
 have hfl := flat_len 6 h6 h4
 have h93 := fun t => f93_eq l t hs hps
 unfold f47
 generalize hall : l.flatten = all at h93 hfl ⊢
 rw [loop_all (fun k => (accT all (l.take k).flatten,(k : Int))) l.length (by omega) (by simp [accT]) (r := accT all all)]
 ·rfl
 ·intro k hk
  have hg : l[k]? = some (l[k]'hk) := List.getElem?_eq_getElem hk
  generalize l[k]'hk = p at hg
  have hp4 := h4 p (List.mem_of_getElem? hg)
  have hsp := hps p (List.mem_of_getElem? hg)
  have hf := take_flat hg
  have ht := flat_take l (k + 1)
  rw [hf,List.length_append,hall] at ht
  simp only [dltLen hg,cond_true]
  rw [loop_all (fun j => (accT all ((l.take k).flatten ++ p.take j),(j : Int))) p.length (by omega) (by simp) (r := accT all ((l.take k).flatten ++ p))]
  ·simp only [Option.bind_some,wrLen hs hg,hf]
  ·intro j hj
   have hgj : p[j]? = some (p[j]'hj) := List.getElem?_eq_getElem hj
   generalize p[j]'hj = t at hgj
   have hlj : ((l.take k).flatten ++ p.take j).length ≤ 2400 := by rw [List.length_append,List.length_take]; omega
   obtain ⟨a1,a2⟩ := accT_ok all _ (Nat.le_trans hlj (by omega))
   have hs2 : accT all ((l.take k).flatten ++ p.take (j + 1)) = (timesOf all t).foldl putI (accT all ((l.take k).flatten ++ p.take j)) := by
    rw [take_snoc hgj,← List.append_assoc,accT_snoc]
   rw [hs2]
   generalize accT all ((l.take k).flatten ++ p.take j) = acc at a1 a2 ⊢
   have b1 := (putI_ok a1 t.from_).1
   have b2 := putI_len (l := acc) t.from_
   simp only [ixNat hg,Option.bind_some,dltLen hgj,cond_true,ixNat hgj,f92_eq acc t.from_ a1 (by omega),h93,wrLen hsp hgj]
   unfold timesOf
   cases soundsAt all t.to_ with
   | true => simp
   | false => simp [f92_eq (putI acc t.from_) t.to_ b1 (by omega)]
  ·simp [ixNat hg]
 ·simp [hall]
theorem f3_eq (l : List (List GTone)) (a : GInstrument) (hl : Small l) : f3 l a = some true := by
 have e12 := f12_eq l hl
 unfold f3
 rw [e12,f14_eq l a hl,f15_eq l a hl]
 simp only [Option.bind_some]
 cases smallS l with
 | false => simp [f13]
 | true =>
  have d (x : Int) : decide (x ≠ x) = false := by simp
  simp only [Bool.not_true,cond_false,d,Option.bind_some]
  unfold f16 f17
  rw [f36_eq l hl,f38_eq l hl]
  simp only [Option.bind_some]
  by_cases h : partsS l = 0
  ·obtain ⟨h1,h2⟩ := partsS_small h
   have hd : decide (partsS l ≠ 0) = false := by simpa using h
   have hfl := flat_len 6 h1 h2
   have hsm : Small (accT l.flatten l.flatten) := by have := (accT_ok l.flatten l.flatten (by omega)).2; simp only [Small]; omega
   have e : (l.flatten.flatMap (timesOf l.flatten)).foldl putI [0] = accT l.flatten l.flatten := rfl
   simp only [hd,cond_false,f46_eq l h1 h2,f47_eq l h1 h2,Option.bind_some,e,f18_refl _ hsm]
   rfl
  ·have hd : decide (partsS l ≠ 0) = true := by simpa using h
   simp only [hd,cond_true,Option.bind_some,f18_refl ([] : List Int) (by simp [Small])]
   simp [f13]
end Go.Proofs.YtplpfocfcppajaaGreat
