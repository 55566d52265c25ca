/-
 Sounds: the program's tones and the reference's. Plain law.
 Own work. No Go text.
-/
import Derived.Test.YtodkhgjhodmeoaaGreatSq
import Derived.Test.YtodkhgjhodmeoaaGreatNr
import Derived.Test.YtodkhgjhodmeoaaGreatTo
set_option linter.all false
namespace Go.Proofs.YtodkhgjhodmeoaaGreat
open Go Go.Am
def toneO (n : GNote) : GTone := ⟨n.pitch,n.from_,n.to_⟩
def tonesS (p : GPiece) : List GTone := (notesN p).map toneO
def tonesP (l : List GPiece) : Nat → List GTone
 | 0 => []
 | k + 1 => tonesP l k ++ ((l[k]?).map tonesS).getD []
theorem tonesP_snoc {l : List GPiece} {k : Nat} {p : GPiece} (h : l[k]? = some p) : tonesP l (k + 1) = tonesP l k ++ tonesS p := by
 simp only [tonesP,h,Option.map_some,Option.getD_some]
theorem notesN_len {p : GPiece} (hv : ValidP p) : (notesN p).length ≤ 5600 := by
 have := stopsN_len hv p.events.length
 have := hv.many
 unfold notesN
 rw [List.length_map]
 omega
theorem tonesS_len {p : GPiece} (hv : ValidP p) : (tonesS p).length ≤ 5600 := by
 unfold tonesS
 rw [List.length_map]
 exact notesN_len hv
theorem tonesP_len {l : List GPiece} (hl : ∀ p ∈ l,ValidP p) : ∀ k,(tonesP l k).length ≤ 5600 * k
 | 0 => by simp [tonesP]
 | k + 1 => by
  have ih := tonesP_len hl k
  cases h : l[k]? with
  | none => simp only [tonesP,h,Option.map_none,Option.getD_none,List.append_nil]; omega
  | some p =>
   rw [tonesP_snoc h,List.length_append]
   have := tonesS_len (hl p (List.mem_of_getElem? h))
   omega
theorem tones_prog (p : GPiece) (hp : SmallP p) (h : pieceS p = 0) : ∃ r,f40 p = some (r,0) ∧ r.Perm (tonesS p) ∧ r.Pairwise leT := by
 have hl := notesN_len (valid_of hp h)
 have hl2 := tonesS_len (valid_of hp h)
 have d0 : decide ((0 : Int) ≠ 0) = false := rfl
 obtain ⟨r,r1,r2,r3⟩ := sortF_law f95 f95_eq (tonesS p) (by omega)
 suffices hh : ∃ q,f40 p = some q ∧ q = (r,0) by
  obtain ⟨q,e1,e2⟩ := hh
  exact ⟨r,by rw [e1,e2],r2,r3⟩
 unfold f40
 rw [notes_prog p hp h]
 simp only [Option.bind_some,d0,cond_false]
 refine bind_inv (fun k (s : List GTone × Int) => s = (((notesN p).take k).map toneO,(k : Int))) (fun t : List GTone => t = tonesS p) (notesN p).length (by omega) rfl ?_ ?_ ?_
 ·rintro k _ hk rfl
  have hg : (notesN p)[k]? = some (notesN p)[k] := List.getElem?_eq_getElem hk
  generalize (notesN p)[k] = n at hg
  simp only [dltLen hg,cond_true,ixNat hg,Option.bind_some]
  rw [need_one (by rw [List.length_map,List.length_take]; unfold maxElems; omega)]
  refine ⟨_,rfl,?_⟩
  rw [take_snoc hg,wrNat (by omega)]
  simp only [List.map_append,List.map_cons,List.map_nil]
  rfl
 ·rintro _ rfl
  have hd : decide (((notesN p).length : Int) < ((notesN p).length : Int)) = false := by simp
  simp only [hd,cond_false]
  exact ⟨_,rfl,by rw [List.take_length]; rfl⟩
 ·rintro _ rfl
  have r1' : f90 (tonesS p) = some r := r1
  simp only [r1',Option.bind_some]
  rw [need_one r2.length_eq]
  exact ⟨_,rfl,rfl⟩
theorem sounds_prog (c : GConsort) (hs : SizeC c.pieces) (h : checkS c.pieces = 0) : ∃ r,f37 c = some (r,0) ∧ r.Perm (tonesP c.pieces c.pieces.length) ∧ r.Pairwise leT := by
 obtain ⟨h1,h2,h3⟩ := check_parts h
 have hv : ∀ p ∈ c.pieces,ValidP p := fun p hp => valid_of (hs.2 p hp) (h3 p hp)
 have d0 : decide ((0 : Int) ≠ 0) = false := rfl
 suffices hh : ∃ q,f37 c = some q ∧ ∃ r,q = (r,0) ∧ r.Perm (tonesP c.pieces c.pieces.length) ∧ r.Pairwise leT by
  obtain ⟨q,e1,r,e2,e3⟩ := hh
  exact ⟨r,by rw [e1,e2],e3⟩
 unfold f37
 rw [prog_Check c hs,h]
 simp only [Option.bind_some,d0,cond_false]
 refine bind_inv (fun k (s : List GTone × Int) => s.2 = (k : Int) ∧ s.1.Perm (tonesP c.pieces k)) (fun t => ∃ l : List GTone,t = .inl l ∧ l.Perm (tonesP c.pieces c.pieces.length)) c.pieces.length (by omega) ⟨rfl,.refl _⟩ ?_ ?_ ?_
 ·rintro k ⟨l,i⟩ hk ⟨hi,q1⟩
  simp only at hi q1
  subst hi
  have hg : c.pieces[k]? = some c.pieces[k] := List.getElem?_eq_getElem hk
  generalize c.pieces[k] = p at hg
  have hm := List.mem_of_getElem? hg
  obtain ⟨r,r1,r2,r3⟩ := tones_prog p (hs.2 p hm) (h3 p hm)
  have ql := q1.length_eq
  have hl := tonesP_len hv k
  have hl2 := tonesS_len (hv p hm)
  have rl := r2.length_eq
  simp only [dltLen hg,cond_true,ixNat hg,Option.bind_some,r1,d0,cond_false]
  have hj : ((bif (decide (r = [])) then (some l) else (need (l.length + r.length ≤ maxElems) <| some (l ++ r))) : Option (List GTone)) = some (l ++ r) := by
   by_cases hr : r = []
   ·simp [hr]
   ·simp only [hr,decide_false,cond_false]
    exact need_one (by unfold maxElems; omega)
  rw [hj]
  simp only [Option.bind_some]
  refine ⟨_,rfl,wrNat (by omega),?_⟩
  rw [tonesP_snoc hg]
  exact q1.append r2
 ·rintro ⟨l,i⟩ ⟨hi,q1⟩
  simp only at hi q1
  subst hi
  have hd : decide ((c.pieces.length : Int) < (c.pieces.length : Int)) = false := by simp
  simp only [hd,cond_false]
  exact ⟨_,rfl,l,rfl,q1⟩
 ·rintro _ ⟨l,rfl,q1⟩
  have hl := tonesP_len hv c.pieces.length
  have ql := q1.length_eq
  obtain ⟨r,r1,r2,r3⟩ := sortF_law f91 f91_eq l (by omega)
  have r1' : f90_1 l = some r := r1
  simp only [Sum.elim_inl,r1',Option.bind_some]
  rw [need_one r2.length_eq]
  exact ⟨_,rfl,r,rfl,r2.trans q1,r3⟩
end Go.Proofs.YtodkhgjhodmeoaaGreat
