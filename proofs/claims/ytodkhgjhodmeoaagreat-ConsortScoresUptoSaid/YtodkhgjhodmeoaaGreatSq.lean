/-
 Score: the program's cues and the reference's. Plain law.
 Own work. No Go text.
-/
import Derived.Test.YtodkhgjhodmeoaaGreatCd
import Derived.Test.YtodkhgjhodmeoaaGreatNb
import Derived.Test.YtodkhgjhodmeoaaGreatSv
import Derived.Test.YtodkhgjhodmeoaaGreatV5
set_option linter.all false
namespace Go.Proofs.YtodkhgjhodmeoaaGreat
open Go Go.Am
theorem check_parts {l : List GPiece} (h : checkS l = 0) : 0 < l.length ∧ l.length ≤ 6 ∧ ∀ p ∈ l,pieceS p = 0 := by
 unfold checkS at h
 split at h
 ·rename_i h1
  exact absurd h h1
 ·rename_i h1
  obtain ⟨a,b,_,d⟩ := band_ok (l := l) (by omega)
  exact ⟨a,b,d⟩
def cueN (p : GPiece) (i k : Nat) : GCue := ⟨onN p k,(i : Int),(k : Int)⟩
def cuesAt (i : Nat) (p : GPiece) (n : Nat) : List GCue := (List.range n).map (cueN p i)
def cuesP (l : List GPiece) : Nat → List GCue
 | 0 => []
 | k + 1 => cuesP l k ++ ((l[k]?).map fun p => cuesAt k p p.events.length).getD []
theorem cuesAt_snoc (i : Nat) (p : GPiece) (n : Nat) : cuesAt i p (n + 1) = cuesAt i p n ++ [cueN p i n] := range_snoc _ _
theorem cuesAt_len (i : Nat) (p : GPiece) (n : Nat) : (cuesAt i p n).length = n := by simp [cuesAt]
theorem cuesP_snoc {l : List GPiece} {k : Nat} {p : GPiece} (h : l[k]? = some p) : cuesP l (k + 1) = cuesP l k ++ cuesAt k p p.events.length := by
 simp only [cuesP,h,Option.map_some,Option.getD_some]
theorem cuesP_len {l : List GPiece} (hl : ∀ p ∈ l,p.events.length ≤ 400) : ∀ k,(cuesP l k).length ≤ 400 * k
 | 0 => by simp [cuesP]
 | k + 1 => by
  have ih := cuesP_len hl k
  cases h : l[k]? with
  | none => simp only [cuesP,h,Option.map_none,Option.getD_none,List.append_nil]; omega
  | some p =>
   rw [cuesP_snoc h,List.length_append,cuesAt_len]
   have := hl p (List.mem_of_getElem? h)
   omega
theorem cuesAt_mem {i : Nat} {p : GPiece} {n : Nat} {x : GCue} (h : x ∈ cuesAt i p n) : x.desk = (i : Int) ∧ 0 ≤ x.event ∧ x.event < (n : Int) := by
 obtain ⟨k,hk,rfl⟩ := List.mem_map.1 h
 have := List.mem_range.1 hk
 exact ⟨rfl,by simp [cueN],by simp [cueN,this]⟩
theorem cuesAt_dk (i : Nat) (p : GPiece) : ∀ n,(cuesAt i p n).Pairwise Dk
 | 0 => .nil
 | n + 1 => by
  rw [cuesAt_snoc]
  refine List.pairwise_append.2 ⟨cuesAt_dk i p n,List.pairwise_singleton _ _,fun a ha b hb => ?_⟩
  rw [List.mem_singleton.1 hb]
  obtain ⟨h1,h2,h3⟩ := cuesAt_mem ha
  exact .inr ⟨h1,h3⟩
theorem cuesP_mem {l : List GPiece} : ∀ {k : Nat} {x : GCue},x ∈ cuesP l k → x.desk < (k : Int)
 | 0,x,h => by cases h
 | k + 1,x,h => by
  cases hp : l[k]? with
  | none =>
   simp only [cuesP,hp,Option.map_none,Option.getD_none,List.append_nil] at h
   have := cuesP_mem h
   omega
  | some p =>
   rw [cuesP_snoc hp] at h
   rcases List.mem_append.1 h with h | h
   ·have := cuesP_mem h
    omega
   ·have := (cuesAt_mem h).1
    omega
theorem cuesP_dk (l : List GPiece) : ∀ k,(cuesP l k).Pairwise Dk
 | 0 => .nil
 | k + 1 => by
  cases hp : l[k]? with
  | none =>
   simp only [cuesP,hp,Option.map_none,Option.getD_none,List.append_nil]
   exact cuesP_dk l k
  | some p =>
   rw [cuesP_snoc hp]
   refine List.pairwise_append.2 ⟨cuesP_dk l k,cuesAt_dk k p _,fun a ha b hb => .inl ?_⟩
   have h1 := cuesP_mem ha
   have h2 := (cuesAt_mem hb).1
   omega
theorem ons_at {p : GPiece} (h : p.events.length ≤ 400) {k : Nat} (hk : k < p.events.length) : (onsS p)[k]? = some (onN p k) :=
 onN_get (by unfold onsS; rw [ons_len]; simp; omega)
theorem cues_prog (c : GConsort) (hs : SizeC c.pieces) (h : checkS c.pieces = 0) : f139 [] c = some (cuesP c.pieces c.pieces.length) := by
 obtain ⟨h1,h2,h3⟩ := check_parts h
 have hev : ∀ p ∈ c.pieces,p.events.length ≤ 400 := fun p hp => (pieceS_ok (h3 p hp)).2.1
 suffices hh : ∃ r,f139 [] c = some r ∧ r = cuesP c.pieces c.pieces.length by
  obtain ⟨r,e1,e2⟩ := hh
  rw [e1,e2]
 unfold f139
 refine bind_inv (fun k (s : List GCue × Int) => s = (cuesP c.pieces k,(k : Int))) (fun t => t = .inl (cuesP c.pieces c.pieces.length)) c.pieces.length (by omega) (by simp [cuesP]) ?_ ?_ (fun t ht => by subst ht; exact ⟨_,rfl,rfl⟩)
 ·rintro k _ hk rfl
  have hg : c.pieces[k]? = some c.pieces[k] := List.getElem?_eq_getElem hk
  generalize c.pieces[k] = p at hg
  have hm := List.mem_of_getElem? hg
  have hp := h3 p hm
  have he := hev p hm
  have ho : onsetS p = (onsS p,0) := by unfold onsetS; rw [if_pos hp]
  have d0 : decide ((0 : Int) ≠ 0) = false := rfl
  have hl := cuesP_len hev k
  simp only [dltLen hg,cond_true,ixNat hg,Option.bind_some,prog_onsets p (hs.2 p hm),ho,d0,cond_false]
  refine bind_invL (fun j (s : List GCue × Int) => s = (cuesP c.pieces k ++ cuesAt k p j,(j : Int))) (fun t => t = .inl (cuesP c.pieces k ++ cuesAt k p p.events.length)) p.events.length (by omega) (by simp [cuesAt]) ?_ ?_ ?_
  ·rintro j _ hj rfl
   have hd : decide ((j : Int) < (p.events.length : Int)) = true := by simp; omega
   simp only [hd,cond_true,ixNat (ons_at he hj),Option.bind_some]
   rw [need_some (by rw [List.length_append,cuesAt_len]; unfold maxElems; omega)]
   refine ⟨_,rfl,?_⟩
   rw [cuesAt_snoc,← List.append_assoc,wrNat (by omega)]
   rfl
  ·rintro _ rfl
   have hd : decide ((p.events.length : Int) < (p.events.length : Int)) = false := by simp
   simp only [hd,cond_false]
   exact ⟨_,rfl,rfl⟩
  ·rintro _ rfl
   refine ⟨_,rfl,?_⟩
   rw [cuesP_snoc hg,wrNat (by omega)]
 ·rintro _ rfl
  have hd : decide ((c.pieces.length : Int) < (c.pieces.length : Int)) = false := by simp
  simp only [hd,cond_false]
  exact ⟨_,rfl,rfl⟩
theorem score_prog (c : GConsort) (hs : SizeC c.pieces) (h : checkS c.pieces = 0) : ∃ r,f35 c = some (r,0) ∧ r.Perm (cuesP c.pieces c.pieces.length) ∧ r.Pairwise Rk := by
 obtain ⟨h1,h2,h3⟩ := check_parts h
 have hl := cuesP_len (l := c.pieces) (fun p hp => (pieceS_ok (h3 p hp)).2.1) c.pieces.length
 obtain ⟨r,r1,r2,r3⟩ := sort_law (cuesP c.pieces c.pieces.length) (by omega) (cuesP_dk _ _)
 have d0 : decide ((0 : Int) ≠ 0) = false := rfl
 refine ⟨r,?_,r2,r3⟩
 unfold f35
 rw [prog_Check c hs,h]
 simp only [Option.bind_some,d0,cond_false,cues_prog c hs h,r1]
 unfold f86
 simp only [Option.bind_some]
 rw [need_some r2.length_eq]
theorem score_ref (c : GConsort) (hs : SizeC c.pieces) (h : checkS c.pieces = 0) : ∃ r,f36 c = some (r,0) ∧ r.Perm (cuesP c.pieces c.pieces.length) ∧ r.Pairwise Rk := by
 obtain ⟨h1,h2,h3⟩ := check_parts h
 have hev : ∀ p ∈ c.pieces,p.events.length ≤ 400 := fun p hp => (pieceS_ok (h3 p hp)).2.1
 have d0 : decide ((0 : Int) ≠ 0) = false := rfl
 suffices hh : ∃ r,f36 c = some r ∧ ∃ q,r = (q,0) ∧ q.Perm (cuesP c.pieces c.pieces.length) ∧ q.Pairwise Rk by
  obtain ⟨r,e1,q,e2,e3⟩ := hh
  exact ⟨q,by rw [e1,e2],e3⟩
 unfold f36
 rw [ref_Check c hs,h]
 simp only [Option.bind_some,d0,cond_false]
 refine bind_inv (fun k (s : List GCue × Int) => s.2 = (k : Int) ∧ s.1.Perm (cuesP c.pieces k) ∧ s.1.Pairwise Rk) (fun t : List GCue => t.Perm (cuesP c.pieces c.pieces.length) ∧ t.Pairwise Rk) c.pieces.length (by omega) ⟨rfl,.refl _,.nil⟩ ?_ ?_ (fun t ht => ⟨_,rfl,t,rfl,ht⟩)
 ·rintro k ⟨l,i⟩ hk ⟨hi,hp1,hp2⟩
  simp only at hi hp1 hp2
  subst hi
  have hg : c.pieces[k]? = some c.pieces[k] := List.getElem?_eq_getElem hk
  generalize c.pieces[k] = p at hg
  have hm := List.mem_of_getElem? hg
  have he := hev p hm
  have hl := cuesP_len hev k
  have hps := pieceS_ok (h3 p hm)
  simp only [dltLen hg,cond_true,ixNat hg,Option.bind_some,ref_times p he (fun e hee => by
   obtain ⟨i,hi⟩ := List.getElem?_of_mem hee
   exact (hps.2.2 i e hi).1)]
  refine bind_invL (fun j (s : List GCue × Int) => s.2 = (j : Int) ∧ s.1.Perm (cuesP c.pieces k ++ cuesAt k p j) ∧ s.1.Pairwise Rk) (fun t : List GCue => t.Perm (cuesP c.pieces (k + 1)) ∧ t.Pairwise Rk) p.events.length (by omega) ⟨rfl,by simpa [cuesAt] using hp1,hp2⟩ ?_ ?_ ?_
  ·rintro j ⟨l2,i2⟩ hj ⟨hi2,q1,q2⟩
   simp only at hi2 q1 q2
   subst hi2
   have hd : decide ((j : Int) < (p.events.length : Int)) = true := by simp; omega
   have ql := q1.length_eq
   rw [List.length_append,cuesAt_len] at ql
   simp only [hd,cond_true,ixNat (ons_at he hj),Option.bind_some]
   rw [need_some (by unfold maxElems; omega)]
   have w : wr (((l2 ++ [(⟨onN p j,(k : Int),(j : Int)⟩ : GCue)]).length : Int) - 1) = ((([] : List GCue).length + l2.length : Nat) : Int) := by
    rw [List.length_append,wrI (by simp; try omega) (by simp; omega)]
    simp
   rw [w]
   obtain ⟨r,r1,Z,r2,r3,r4⟩ := ins_step [] l2 [] [] (cueN p k j) (by simp; omega) q2 (fun z hz => by
    rcases List.mem_append.1 (q1.mem_iff.1 hz) with hz | hz
    ·exact .inl (by have := cuesP_mem hz; simpa [cueN] using this)
    ·obtain ⟨a1,a2,a3⟩ := cuesAt_mem hz
     exact .inr ⟨a1,by simpa [cueN] using a3⟩)
    (body := fun ((l3_5,l3_9) : (List GCue × Int)) => ((bif (decide (0 < l3_9)) then ((ix l3_5 l3_9).bind fun y10 => (ix l3_5 (wr (l3_9 - 1))).bind fun y11 => some (decide (y10.time < y11.time))) else (some false)) : Option Bool).bind fun (j4_67 : Bool) => bif j4_67 then ((ix l3_5 (wr (l3_9 - 1))).bind fun y13 => (ix l3_5 l3_9).bind fun y14 => (ix (l3_5.set l3_9.toNat y13) (wr (l3_9 - 1))).bind fun y15 => some (.inl (((l3_5.set l3_9.toNat y13).set (wr (l3_9 - 1)).toNat y14),(wr (l3_9 - 1))))) else (some (.inr l3_5))) (fun l j => rfl)
   have hst : ([] ++ l2 ++ [cueN p k j] ++ [] : List GCue) = l2 ++ [(⟨onN p j,(k : Int),(j : Int)⟩ : GCue)] := by simp [cueN]
   rw [hst] at r1
   rw [r1]
   simp only [Option.bind_some]
   refine ⟨_,rfl,wrNat (by omega),?_,?_⟩
   ·rw [r2,cuesAt_snoc,← List.append_assoc]
    simp only [List.nil_append,List.append_nil]
    exact r3.trans (q1.append_right _)
   ·rw [r2]
    simpa using r4
  ·rintro ⟨l2,i2⟩ ⟨hi2,q1,q2⟩
   simp only at hi2 q1 q2
   subst hi2
   have hd : decide ((p.events.length : Int) < (p.events.length : Int)) = false := by simp
   simp only [hd,cond_false]
   exact ⟨_,rfl,by rw [cuesP_snoc hg]; exact q1,q2⟩
  ·rintro t ⟨t1,t2⟩
   exact ⟨_,rfl,wrNat (by omega),t1,t2⟩
 ·rintro ⟨l,i⟩ ⟨hi,hp1,hp2⟩
  simp only at hi hp1 hp2
  subst hi
  have hd : decide ((c.pieces.length : Int) < (c.pieces.length : Int)) = false := by simp
  simp only [hd,cond_false]
  exact ⟨_,rfl,hp1,hp2⟩
theorem score_eq (c : GConsort) (hs : SizeC c.pieces) : ∃ r,f35 c = some r ∧ f36 c = some r ∧ Small r.1 := by
 by_cases h : checkS c.pieces = 0
 ·obtain ⟨r,a1,a2,a3⟩ := score_prog c hs h
  obtain ⟨q,b1,b2,b3⟩ := score_ref c hs h
  rw [perm_eq (b2.trans a2.symm) b3 a3] at b1
  obtain ⟨h1,h2,h3⟩ := check_parts h
  have hl := cuesP_len (l := c.pieces) (fun p hp => (pieceS_ok (h3 p hp)).2.1) c.pieces.length
  exact ⟨_,a1,b1,by have := a2.length_eq; simp only [Small]; omega⟩
 ·have hd : decide (checkS c.pieces ≠ 0) = true := by simpa using h
  refine ⟨([],checkS c.pieces),?_,?_,by simp [Small]⟩
  ·unfold f35
   rw [prog_Check c hs]
   simp only [Option.bind_some,hd,cond_true]
  ·unfold f36
   rw [ref_Check c hs]
   simp only [Option.bind_some,hd,cond_true]
end Go.Proofs.YtodkhgjhodmeoaaGreat
