/-
 Sounds: the program's tones and the reference's. Plain law.
 Own work. No Go text.
-/
import Derived.Test.YtjjendjmakhfaaaGreatNr
import Derived.Test.YtjjendjmakhfaaaGreatTo
set_option linter.all false
namespace Go.Proofs.YtjjendjmakhfaaaGreat
open Go Go.Am
def toneO (n : GNote) : GTone := ⟨n.pitch,n.from_,n.to_⟩
def tonesS (p : GPiece) : List GTone := (notesN p).map toneO
def tonesP (l : List GPiece) : Nat → List GTone
 | 0 => []
 | k + 1 => tonesP l k ++ ((l[k]?).map tonesS).getD []
theorem tonesP_snoc {l : List GPiece} {k : Nat} {p : GPiece} (h : l[k]? = some p) : tonesP l (k + 1) = tonesP l k ++ tonesS p := by
 simp only [tonesP,h,Option.map_some,Option.getD_some]
theorem notesN_len {p : GPiece} (hv : ValidP p) : (notesN p).length ≤ 5600 := by
 have := stopsN_len hv p.events.length
 have := hv.many
 unfold notesN
 rw [List.length_map]
 omega
theorem tonesS_len {p : GPiece} (hv : ValidP p) : (tonesS p).length ≤ 5600 := by
 unfold tonesS
 rw [List.length_map]
 exact notesN_len hv
theorem tonesP_len {l : List GPiece} (hl : ∀ p ∈ l,ValidP p) : ∀ k,(tonesP l k).length ≤ 5600 * k
 | 0 => by simp [tonesP]
 | k + 1 => by
  have ih := tonesP_len hl k
  cases h : l[k]? with
  | none => simp only [tonesP,h,Option.map_none,Option.getD_none,List.append_nil]; omega
  | some p =>
   rw [tonesP_snoc h,List.length_append]
   have := tonesS_len (hl p (List.mem_of_getElem? h))
   omega
theorem tones_prog (p : GPiece) (hp : SmallP p) (h : pieceS p = 0) : ∃ r,f89 p = some (r,0) ∧ r.Perm (tonesS p) ∧ r.Pairwise leT := by
 have hl := notesN_len (valid_of hp h)
 have hl2 := tonesS_len (valid_of hp h)
 have d0 : decide ((0 : Int) ≠ 0) = false := rfl
 obtain ⟨r,r1,r2,r3⟩ := sortF_law f117 f117_eq (tonesS p) (by omega)
 suffices hh : ∃ q,f89 p = some q ∧ q = (r,0) by
  obtain ⟨q,e1,e2⟩ := hh
  exact ⟨r,by rw [e1,e2],r2,r3⟩
 unfold f89
 rw [notes_prog p hp h]
 simp only [Option.bind_some,d0,cond_false]
 refine bind_inv (fun k (s : List GTone × Int) => s = (((notesN p).take k).map toneO,(k : Int))) (fun t : List GTone => t = tonesS p) (notesN p).length (by omega) rfl ?_ ?_ ?_
 ·rintro k _ hk rfl
  have hg : (notesN p)[k]? = some (notesN p)[k] := List.getElem?_eq_getElem hk
  generalize (notesN p)[k] = n at hg
  simp only [dltLen hg,cond_true,ixNat hg,Option.bind_some]
  rw [need_one (by rw [List.length_map,List.length_take]; unfold maxElems; omega)]
  refine ⟨_,rfl,?_⟩
  rw [take_snoc hg,wrNat (by omega)]
  simp only [List.map_append,List.map_cons,List.map_nil]
  rfl
 ·rintro _ rfl
  have hd : decide (((notesN p).length : Int) < ((notesN p).length : Int)) = false := by simp
  simp only [hd,cond_false]
  exact ⟨_,rfl,by rw [List.take_length]; rfl⟩
 ·rintro _ rfl
  have r1' : f90 (tonesS p) = some r := r1
  simp only [r1',Option.bind_some]
  rw [need_one r2.length_eq]
  exact ⟨_,rfl,rfl⟩
theorem tones_ref (p : GPiece) (hp : SmallP p) (h : pieceS p = 0) : ∃ r,f96 p = some (r,0) ∧ r.Perm (tonesS p) ∧ r.Pairwise leT := by
 have hl := notesN_len (valid_of hp h)
 have d0 : decide ((0 : Int) ≠ 0) = false := rfl
 suffices hh : ∃ q,f96 p = some q ∧ ∃ r,q = (r,0) ∧ r.Perm (tonesS p) ∧ r.Pairwise leT by
  obtain ⟨q,e1,r,e2,e3⟩ := hh
  exact ⟨r,by rw [e1,e2],e3⟩
 unfold f96
 rw [notes_ref p hp h]
 simp only [Option.bind_some,d0,cond_false]
 refine bind_inv (fun k (s : List GTone × Int) => s.2 = (k : Int) ∧ s.1.Perm (((notesN p).take k).map toneO) ∧ s.1.Pairwise leT) (fun t : List GTone => t.Perm (tonesS p) ∧ t.Pairwise leT) (notesN p).length (by omega) ⟨rfl,.refl _,.nil⟩ ?_ ?_ (fun t ht => ⟨_,rfl,t,rfl,ht⟩)
 ·rintro k ⟨l,i⟩ hk ⟨hi,q1,q2⟩
  simp only at hi q1 q2
  subst hi
  have hg : (notesN p)[k]? = some (notesN p)[k] := List.getElem?_eq_getElem hk
  generalize (notesN p)[k] = n at hg
  have ql := q1.length_eq
  rw [List.length_map,List.length_take] at ql
  simp only [dltLen hg,cond_true,ixNat hg,Option.bind_some]
  rw [need_one (by unfold maxElems; omega)]
  have w : wr (((l ++ [(⟨n.pitch,n.from_,n.to_⟩ : GTone)]).length : Int) - 1) = ((l.length : Nat) : Int) := by
   rw [List.length_append,wrI (by simp; try omega) (by simp; try omega)]
   simp
  rw [w]
  obtain ⟨r,r1,r2,r3⟩ := insT_step l (toneO n) (by omega) q2
   (body := fun ((l2_6,l2_8) : (List GTone × Int)) => ((bif (decide (0 < l2_8)) then ((ix l2_6 l2_8).bind fun y7 => (ix l2_6 (wr (l2_8 - 1))).bind fun y8 => (f121 y7 y8).bind fun r9 => some r9) else (some false)) : Option Bool).bind fun (j3_58 : Bool) => bif j3_58 then ((ix l2_6 (wr (l2_8 - 1))).bind fun y11 => (ix l2_6 l2_8).bind fun y12 => (ix (l2_6.set l2_8.toNat y11) (wr (l2_8 - 1))).bind fun y13 => some (.inl (((l2_6.set l2_8.toNat y11).set (wr (l2_8 - 1)).toNat y12),(wr (l2_8 - 1))))) else (some (.inr l2_6)))
   (fun l j => by simp only [f121_eq,Option.bind_some])
  have hst : l ++ [toneO n] = l ++ [(⟨n.pitch,n.from_,n.to_⟩ : GTone)] := rfl
  rw [hst] at r1
  rw [r1]
  simp only [Option.bind_some]
  refine ⟨_,rfl,wrNat (by omega),?_,r3⟩
  rw [take_snoc hg,List.map_append]
  exact r2.trans (q1.append_right _)
 ·rintro ⟨l,i⟩ ⟨hi,q1,q2⟩
  simp only at hi q1 q2
  subst hi
  have hd : decide (((notesN p).length : Int) < ((notesN p).length : Int)) = false := by simp
  simp only [hd,cond_false]
  exact ⟨_,rfl,by rw [List.take_length] at q1; exact q1,q2⟩
theorem check_parts {l : List GPiece} (h : checkS l = 0) : 0 < l.length ∧ l.length ≤ 6 ∧ ∀ p ∈ l,pieceS p = 0 := by
 unfold checkS at h
 split at h
 ·rename_i h1
  exact absurd h h1
 ·rename_i h1
  obtain ⟨a,b,_,d⟩ := band_ok (l := l) (by omega)
  exact ⟨a,b,d⟩
theorem sounds_prog (c : GConsort) (hs : SizeC c.pieces) (h : checkS c.pieces = 0) : ∃ r,f60 c = some (r,0) ∧ r.Perm (tonesP c.pieces c.pieces.length) ∧ r.Pairwise leT := by
 obtain ⟨h1,h2,h3⟩ := check_parts h
 have hv : ∀ p ∈ c.pieces,ValidP p := fun p hp => valid_of (hs.2 p hp) (h3 p hp)
 have d0 : decide ((0 : Int) ≠ 0) = false := rfl
 suffices hh : ∃ q,f60 c = some q ∧ ∃ r,q = (r,0) ∧ r.Perm (tonesP c.pieces c.pieces.length) ∧ r.Pairwise leT by
  obtain ⟨q,e1,r,e2,e3⟩ := hh
  exact ⟨r,by rw [e1,e2],e3⟩
 unfold f60
 rw [prog_Check c hs,h]
 simp only [Option.bind_some,d0,cond_false]
 refine bind_inv (fun k (s : List GTone × Int) => s.2 = (k : Int) ∧ s.1.Perm (tonesP c.pieces k)) (fun t => ∃ l : List GTone,t = .inl l ∧ l.Perm (tonesP c.pieces c.pieces.length)) c.pieces.length (by omega) ⟨rfl,.refl _⟩ ?_ ?_ ?_
 ·rintro k ⟨l,i⟩ hk ⟨hi,q1⟩
  simp only at hi q1
  subst hi
  have hg : c.pieces[k]? = some c.pieces[k] := List.getElem?_eq_getElem hk
  generalize c.pieces[k] = p at hg
  have hm := List.mem_of_getElem? hg
  obtain ⟨r,r1,r2,r3⟩ := tones_prog p (hs.2 p hm) (h3 p hm)
  have ql := q1.length_eq
  have hl := tonesP_len hv k
  have hl2 := tonesS_len (hv p hm)
  have rl := r2.length_eq
  simp only [dltLen hg,cond_true,ixNat hg,Option.bind_some,r1,d0,cond_false]
  have hj : ((bif (decide (r = [])) then (some l) else (need (l.length + r.length ≤ maxElems) <| some (l ++ r))) : Option (List GTone)) = some (l ++ r) := by
   by_cases hr : r = []
   ·simp [hr]
   ·simp only [hr,decide_false,cond_false]
    exact need_one (by unfold maxElems; omega)
  rw [hj]
  simp only [Option.bind_some]
  refine ⟨_,rfl,wrNat (by omega),?_⟩
  rw [tonesP_snoc hg]
  exact q1.append r2
 ·rintro ⟨l,i⟩ ⟨hi,q1⟩
  simp only at hi q1
  subst hi
  have hd : decide ((c.pieces.length : Int) < (c.pieces.length : Int)) = false := by simp
  simp only [hd,cond_false]
  exact ⟨_,rfl,l,rfl,q1⟩
 ·rintro _ ⟨l,rfl,q1⟩
  have hl := tonesP_len hv c.pieces.length
  have ql := q1.length_eq
  obtain ⟨r,r1,r2,r3⟩ := sortF_law f91 f91_eq l (by omega)
  have r1' : f90_1 l = some r := r1
  simp only [Sum.elim_inl,r1',Option.bind_some]
  rw [need_one r2.length_eq]
  exact ⟨_,rfl,r,rfl,r2.trans q1,r3⟩
theorem sounds_ref (c : GConsort) (hs : SizeC c.pieces) (h : checkS c.pieces = 0) : ∃ r,f63 c = some (r,0) ∧ r.Perm (tonesP c.pieces c.pieces.length) ∧ r.Pairwise leT := by
 obtain ⟨h1,h2,h3⟩ := check_parts h
 have hv : ∀ p ∈ c.pieces,ValidP p := fun p hp => valid_of (hs.2 p hp) (h3 p hp)
 have d0 : decide ((0 : Int) ≠ 0) = false := rfl
 suffices hh : ∃ q,f63 c = some q ∧ ∃ r,q = (r,0) ∧ r.Perm (tonesP c.pieces c.pieces.length) ∧ r.Pairwise leT by
  obtain ⟨q,e1,r,e2,e3⟩ := hh
  exact ⟨r,by rw [e1,e2],e3⟩
 unfold f63
 rw [ref_Check c hs,h]
 simp only [Option.bind_some,d0,cond_false]
 refine bind_inv (fun k (s : List GTone × Int) => s.2 = (k : Int) ∧ s.1.Perm (tonesP c.pieces k) ∧ s.1.Pairwise leT) (fun t : List GTone => t.Perm (tonesP c.pieces c.pieces.length) ∧ t.Pairwise leT) c.pieces.length (by omega) ⟨rfl,.refl _,.nil⟩ ?_ ?_ (fun t ht => ⟨_,rfl,t,rfl,ht⟩)
 ·rintro k ⟨l,i⟩ hk ⟨hi,q1,q2⟩
  simp only at hi q1 q2
  subst hi
  have hg : c.pieces[k]? = some c.pieces[k] := List.getElem?_eq_getElem hk
  generalize c.pieces[k] = p at hg
  have hm := List.mem_of_getElem? hg
  obtain ⟨t,t1,t2,t3⟩ := tones_ref p (hs.2 p hm) (h3 p hm)
  have hl := tonesP_len hv k
  have hl2 := tonesS_len (hv p hm)
  have tl := t2.length_eq
  simp only [dltLen hg,cond_true,ixNat hg,Option.bind_some,t1]
  refine bind_invL (fun j (s : List GTone × Int) => s.2 = (j : Int) ∧ s.1.Perm (tonesP c.pieces k ++ t.take j) ∧ s.1.Pairwise leT) (fun t : List GTone => t.Perm (tonesP c.pieces (k + 1)) ∧ t.Pairwise leT) t.length (by omega) ⟨rfl,by simpa using q1,q2⟩ ?_ ?_ ?_
  ·rintro j ⟨l2,i2⟩ hj ⟨hi2,u1,u2⟩
   simp only at hi2 u1 u2
   subst hi2
   have hgt : t[j]? = some t[j] := List.getElem?_eq_getElem hj
   generalize t[j] = y at hgt
   have ul := u1.length_eq
   rw [List.length_append,List.length_take] at ul
   simp only [dltLen hgt,cond_true,ixNat hgt,Option.bind_some]
   rw [need_one (by unfold maxElems; omega)]
   have w : wr (((l2 ++ [y]).length : Int) - 1) = ((l2.length : Nat) : Int) := by
    rw [List.length_append,wrI (by simp; try omega) (by simp; try omega)]
    simp
   rw [w]
   obtain ⟨r,r1,r2,r3⟩ := insT_step l2 y (by omega) u2
    (body := fun ((l3_5,l3_10) : (List GTone × Int)) => ((bif (decide (0 < l3_10)) then ((ix l3_5 l3_10).bind fun y10 => (ix l3_5 (wr (l3_10 - 1))).bind fun y11 => (f97 y10 y11).bind fun r12 => some r12) else (some false)) : Option Bool).bind fun (j4_61 : Bool) => bif j4_61 then ((ix l3_5 (wr (l3_10 - 1))).bind fun y14 => (ix l3_5 l3_10).bind fun y15 => (ix (l3_5.set l3_10.toNat y14) (wr (l3_10 - 1))).bind fun y16 => some (.inl (((l3_5.set l3_10.toNat y14).set (wr (l3_10 - 1)).toNat y15),(wr (l3_10 - 1))))) else (some (.inr l3_5)))
    (fun l j => by simp only [f97_eq,Option.bind_some])
   rw [r1]
   simp only [Option.bind_some]
   refine ⟨_,rfl,wrNat (by omega),?_,r3⟩
   rw [take_snoc hgt,← List.append_assoc]
   exact r2.trans (u1.append_right _)
  ·rintro ⟨l2,i2⟩ ⟨hi2,u1,u2⟩
   simp only at hi2 u1 u2
   subst hi2
   have hd : decide ((t.length : Int) < (t.length : Int)) = false := by simp
   simp only [hd,cond_false]
   refine ⟨_,rfl,?_,u2⟩
   rw [List.take_length] at u1
   rw [tonesP_snoc hg]
   exact u1.trans (t2.append_left _)
  ·rintro t ⟨t1,t2⟩
   exact ⟨_,rfl,wrNat (by omega),t1,t2⟩
 ·rintro ⟨l,i⟩ ⟨hi,q1,q2⟩
  simp only at hi q1 q2
  subst hi
  have hd : decide ((c.pieces.length : Int) < (c.pieces.length : Int)) = false := by simp
  simp only [hd,cond_false]
  exact ⟨_,rfl,q1,q2⟩
end Go.Proofs.YtjjendjmakhfaaaGreat
