/-
 Score: the program's cues and the reference's. Plain law.
 Own work. No Go text.
-/
import Derived.Test.YtodkhgjhodmeoaaGreatCd
import Derived.Test.YtodkhgjhodmeoaaGreatNb
import Derived.Test.YtodkhgjhodmeoaaGreatSv
import Derived.Test.YtodkhgjhodmeoaaGreatV5
set_option linter.all false
namespace Go.Proofs.YtodkhgjhodmeoaaGreat
open Go Go.Am
theorem check_parts {l : List GPiece} (h : checkS l = 0) : 0 < l.length ∧ l.length ≤ 6 ∧ ∀ p ∈ l,pieceS p = 0 := by
 unfold checkS at h
 split at h
 ·rename_i h1
  exact absurd h h1
 ·rename_i h1
  obtain ⟨a,b,_,d⟩ := band_ok (l := l) (by omega)
  exact ⟨a,b,d⟩
def cueN (p : GPiece) (i k : Nat) : GCue := ⟨onN p k,(i : Int),(k : Int)⟩
def cuesAt (i : Nat) (p : GPiece) (n : Nat) : List GCue := (List.range n).map (cueN p i)
def cuesP (l : List GPiece) : Nat → List GCue
 | 0 => []
 | k + 1 => cuesP l k ++ ((l[k]?).map fun p => cuesAt k p p.events.length).getD []
theorem cuesAt_snoc (i : Nat) (p : GPiece) (n : Nat) : cuesAt i p (n + 1) = cuesAt i p n ++ [cueN p i n] := range_snoc _ _
theorem cuesAt_len (i : Nat) (p : GPiece) (n : Nat) : (cuesAt i p n).length = n := by simp [cuesAt]
theorem cuesP_snoc {l : List GPiece} {k : Nat} {p : GPiece} (h : l[k]? = some p) : cuesP l (k + 1) = cuesP l k ++ cuesAt k p p.events.length := by
 simp only [cuesP,h,Option.map_some,Option.getD_some]
theorem cuesP_len {l : List GPiece} (hl : ∀ p ∈ l,p.events.length ≤ 400) : ∀ k,(cuesP l k).length ≤ 400 * k
 | 0 => by simp [cuesP]
 | k + 1 => by
  have ih := cuesP_len hl k
  cases h : l[k]? with
  | none => simp only [cuesP,h,Option.map_none,Option.getD_none,List.append_nil]; omega
  | some p =>
   rw [cuesP_snoc h,List.length_append,cuesAt_len]
   have := hl p (List.mem_of_getElem? h)
   omega
theorem cuesAt_mem {i : Nat} {p : GPiece} {n : Nat} {x : GCue} (h : x ∈ cuesAt i p n) : x.desk = (i : Int) ∧ 0 ≤ x.event ∧ x.event < (n : Int) := by
 obtain ⟨k,hk,rfl⟩ := List.mem_map.1 h
 have := List.mem_range.1 hk
 exact ⟨rfl,by simp [cueN],by simp [cueN,this]⟩
theorem cuesAt_dk (i : Nat) (p : GPiece) : ∀ n,(cuesAt i p n).Pairwise Dk
 | 0 => .nil
 | n + 1 => by
  rw [cuesAt_snoc]
  refine List.pairwise_append.2 ⟨cuesAt_dk i p n,List.pairwise_singleton _ _,fun a ha b hb => ?_⟩
  rw [List.mem_singleton.1 hb]
  obtain ⟨h1,h2,h3⟩ := cuesAt_mem ha
  exact .inr ⟨h1,h3⟩
theorem cuesP_mem {l : List GPiece} : ∀ {k : Nat} {x : GCue},x ∈ cuesP l k → x.desk < (k : Int)
 | 0,x,h => by cases h
 | k + 1,x,h => by
  cases hp : l[k]? with
  | none =>
   simp only [cuesP,hp,Option.map_none,Option.getD_none,List.append_nil] at h
   have := cuesP_mem h
   omega
  | some p =>
   rw [cuesP_snoc hp] at h
   rcases List.mem_append.1 h with h | h
   ·have := cuesP_mem h
    omega
   ·have := (cuesAt_mem h).1
    omega
theorem cuesP_dk (l : List GPiece) : ∀ k,(cuesP l k).Pairwise Dk
 | 0 => .nil
 | k + 1 => by
  cases hp : l[k]? with
  | none =>
   simp only [cuesP,hp,Option.map_none,Option.getD_none,List.append_nil]
   exact cuesP_dk l k
  | some p =>
   rw [cuesP_snoc hp]
   refine List.pairwise_append.2 ⟨cuesP_dk l k,cuesAt_dk k p _,fun a ha b hb => .inl ?_⟩
   have h1 := cuesP_mem ha
   have h2 := (cuesAt_mem hb).1
   omega
theorem ons_at {p : GPiece} (h : p.events.length ≤ 400) {k : Nat} (hk : k < p.events.length) : (onsS p)[k]? = some (onN p k) :=
 onN_get (by unfold onsS; rw [ons_len]; simp; omega)
theorem cues_prog (c : GConsort) (hs : SizeC c.pieces) (h : checkS c.pieces = 0) : f139 [] c = some (cuesP c.pieces c.pieces.length) := by
 obtain ⟨h1,h2,h3⟩ := check_parts h
 have hev : ∀ p ∈ c.pieces,p.events.length ≤ 400 := fun p hp => (pieceS_ok (h3 p hp)).2.1
 suffices hh : ∃ r,f139 [] c = some r ∧ r = cuesP c.pieces c.pieces.length by
  obtain ⟨r,e1,e2⟩ := hh
  rw [e1,e2]
 unfold f139
 refine bind_inv (fun k (s : List GCue × Int) => s = (cuesP c.pieces k,(k : Int))) (fun t => t = .inl (cuesP c.pieces c.pieces.length)) c.pieces.length (by omega) (by simp [cuesP]) ?_ ?_ (fun t ht => by subst ht; exact ⟨_,rfl,rfl⟩)
 ·rintro k _ hk rfl
  have hg : c.pieces[k]? = some c.pieces[k] := List.getElem?_eq_getElem hk
  generalize c.pieces[k] = p at hg
  have hm := List.mem_of_getElem? hg
  have hp := h3 p hm
  have he := hev p hm
  have ho : onsetS p = (onsS p,0) := by unfold onsetS; rw [if_pos hp]
  have d0 : decide ((0 : Int) ≠ 0) = false := rfl
  have hl := cuesP_len hev k
  simp only [dltLen hg,cond_true,ixNat hg,Option.bind_some,prog_onsets p (hs.2 p hm),ho,d0,cond_false]
  refine bind_invL (fun j (s : List GCue × Int) => s = (cuesP c.pieces k ++ cuesAt k p j,(j : Int))) (fun t => t = .inl (cuesP c.pieces k ++ cuesAt k p p.events.length)) p.events.length (by omega) (by simp [cuesAt]) ?_ ?_ ?_
  ·rintro j _ hj rfl
   have hd : decide ((j : Int) < (p.events.length : Int)) = true := by simp; omega
   simp only [hd,cond_true,ixNat (ons_at he hj),Option.bind_some]
   rw [need_some (by rw [List.length_append,cuesAt_len]; unfold maxElems; omega)]
   refine ⟨_,rfl,?_⟩
   rw [cuesAt_snoc,← List.append_assoc,wrNat (by omega)]
   rfl
  ·rintro _ rfl
   have hd : decide ((p.events.length : Int) < (p.events.length : Int)) = false := by simp
   simp only [hd,cond_false]
   exact ⟨_,rfl,rfl⟩
  ·rintro _ rfl
   refine ⟨_,rfl,?_⟩
   rw [cuesP_snoc hg,wrNat (by omega)]
 ·rintro _ rfl
  have hd : decide ((c.pieces.length : Int) < (c.pieces.length : Int)) = false := by simp
  simp only [hd,cond_false]
  exact ⟨_,rfl,rfl⟩
theorem score_prog (c : GConsort) (hs : SizeC c.pieces) (h : checkS c.pieces = 0) : ∃ r,f35 c = some (r,0) ∧ r.Perm (cuesP c.pieces c.pieces.length) ∧ r.Pairwise Rk := by
 obtain ⟨h1,h2,h3⟩ := check_parts h
 have hl := cuesP_len (l := c.pieces) (fun p hp => (pieceS_ok (h3 p hp)).2.1) c.pieces.length
 obtain ⟨r,r1,r2,r3⟩ := sort_law (cuesP c.pieces c.pieces.length) (by omega) (cuesP_dk _ _)
 have d0 : decide ((0 : Int) ≠ 0) = false := rfl
 refine ⟨r,?_,r2,r3⟩
 unfold f35
 rw [prog_Check c hs,h]
 simp only [Option.bind_some,d0,cond_false,cues_prog c hs h,r1]
 unfold f86
 simp only [Option.bind_some]
 rw [need_some r2.length_eq]
end Go.Proofs.YtodkhgjhodmeoaaGreat
