/-
  Plain laws of the player,part 9: takes that are looked for among the notes.
  Own work. No Go text.
-/
import Derived.Test.YtpljabnngpnieaaPe
import Derived.Test.YtpljabnngpnieaaV21
set_option linter.all false
namespace Go.Proofs.Ytpljabnngpnieaa
open Go Go.Am
theorem eq_take (x y : GTake) : eq_GTake x y = decide (x = y) := by
  obtain ⟨a,b,c,d,e⟩ := x
  obtain ⟨a',b',c',d',e'⟩ := y
  rw [Bool.eq_iff_iff]
  simp [eq_GTake]
def unusedS (tk : List GTake) (u : List Bool) : List GTake := ((tk.zip u).filter fun y => !y.2).map (·.1)
theorem unused_all : ∀ (tk : List GTake),unusedS tk (List.replicate tk.length false) = tk
  | [] => rfl
  | t :: r => by
    have := unused_all r
    unfold unusedS at this ⊢
    simp only [List.length_cons,List.replicate_succ,List.zip_cons_cons,List.filter_cons,Bool.not_false,if_true,List.map_cons,this]
theorem unused_set : ∀ (tk : List GTake) (u : List Bool) (k : Nat) (w : GTake),tk[k]? = some w → u[k]? = some false → (unusedS tk u).Perm (w :: unusedS tk (u.set k true))
  | t :: r,b :: u,0,w,h1,h2 => by
    simp at h1 h2
    subst h1; subst h2
    unfold unusedS
    simp
  | t :: r,b :: u,k + 1,w,h1,h2 => by
    have ih := unused_set r u k w (by simpa using h1) (by simpa using h2)
    unfold unusedS at ih ⊢
    simp only [List.set_cons_succ,List.zip_cons_cons,List.filter_cons]
    cases b with
    | true => simpa using ih
    | false =>
      simp only [Bool.not_false,if_true,List.map_cons]
      exact (ih.cons t).trans (List.Perm.swap _ _ _)
  | [],_,_,_,h1,_ => by simp at h1
  | _ :: _,[],_,_,_,h2 => by simp at h2
theorem unused_mem {tk : List GTake} {u : List Bool} {w : GTake} (h : w ∈ unusedS tk u) : ∃ y ∈ tk.zip u,(!y.2 && decide (y.1 = w)) = true := by
  unfold unusedS at h
  obtain ⟨y,h1,rfl⟩ := List.mem_map.1 h
  obtain ⟨h2,h3⟩ := List.mem_filter.1 h1
  exact ⟨y,h2,by simp only [h3,Bool.true_and,decide_true]⟩
theorem search_fold (u : List Bool) (p : GTake × Bool → Bool) : ∀ (r : List (GTake × Bool)) (k : Nat),(∃ y ∈ r,p y = true) →
    ∃ j y,r[j]? = some y ∧ p y = true ∧ foldE (fun i (_ : Unit) y => (bif p y then .inr (u.set i true,true) else .inl () : Unit ⊕ (List Bool × Bool))) (fun _ => (u,false)) k r () = (u.set (k + j) true,true)
  | y :: r,k,⟨z,hz,hp⟩ => by
    cases hy : p y with
    | true => exact ⟨0,y,rfl,hy,by simp only [foldE,hy,cond_true]; simp⟩
    | false =>
      have : ∃ y ∈ r,p y = true := by
        rcases List.mem_cons.1 hz with rfl | hz
        · rw [hy] at hp; cases hp
        · exact ⟨z,hz,hp⟩
      obtain ⟨j,x,h1,h2,h3⟩ := search_fold u p r (k + 1) this
      refine ⟨j + 1,x,by simpa using h1,h2,?_⟩
      simp only [foldE,hy,cond_false,h3]
      congr 2; omega
def searchB (tk : List GTake) (u : List Bool) (w : GTake) : Int → Option (Int ⊕ (List Bool × Bool)) := fun (l4_51 : Int) => bif (decide (l4_51 < (tk.length : Int))) then ((ix tk l4_51).bind fun y11 => (((ix u l4_51).bind fun y12 => bif (!y12) then (some (eq_GTake y11 w)) else (some false)) : Option Bool).bind fun (j5_78 : Bool) => bif j5_78 then ((ix u l4_51).bind fun y15 => some (.inr ((u.set l4_51.toNat true),true))) else (some (.inl (wr (l4_51 + 1))))) else (some (.inr (u,false)))
theorem search_ok (tk : List GTake) (u : List Bool) (w : GTake) (hl : u.length = tk.length) (hs : Small tk) (hw : w ∈ unusedS tk u) :
    ∃ u',loopN (searchB tk u w) FUEL 0 = some (u',true) ∧ u'.length = tk.length ∧ (unusedS tk u).Perm (w :: unusedS tk u') := by
  have hz : (tk.zip u).length = tk.length := by rw [List.length_zip]; omega
  have hzs : Small (tk.zip u) := by simp only [Small] at hs ⊢; omega
  obtain ⟨j,y,h1,h2,h3⟩ := search_fold u (fun y => !y.2 && decide (y.1 = w)) (tk.zip u) 0 (unused_mem hw)
  have hg : tk[j]? = some y.1 ∧ u[j]? = some y.2 := by rw [List.getElem?_zip_eq_some] at h1; exact h1
  simp only [Bool.and_eq_true,Bool.not_eq_true',decide_eq_true_eq] at h2
  refine ⟨u.set j true,?_,by rw [List.length_set]; exact hl,unused_set tk u j w (by rw [hg.1,h2.2]) (by rw [hg.2,h2.1])⟩
  rw [loop_fold (fun (_ : Unit) i => i) (fun i (_ : Unit) y => (bif (!y.2 && decide (y.1 = w)) then .inr (u.set i true,true) else .inl () : Unit ⊕ (List Bool × Bool))) (fun _ => (u,false)) (tk.zip u) (fun _ _ => True) () (small_fuel hzs) trivial]
  · rw [h3,Nat.zero_add]
  · intro i _ x hx _
    refine ⟨?_,fun _ _ => trivial⟩
    have hgx : tk[i]? = some x.1 ∧ u[i]? = some x.2 := by rw [List.getElem?_zip_eq_some] at hx; exact hx
    simp only [searchB,dltLen hgx.1,cond_true,ixNat hgx.1,ixNat hgx.2,Option.bind_some,eq_take,andP,wrLen hs hgx.1,Int.toNat_natCast]
    cases (!x.2 && decide (x.1 = w)) <;> rfl
  · intro _ _
    simp only [searchB,hz]
    simp
def notesP (p : GPiece) : List GNote := ((f32 p).getD ([],0)).1
def wantN (later : Int) (i : Nat) (n : GNote) : GTake := ⟨(i : Int),n.course,n.pitch,wr (n.from_ + later),wr (n.to_ + later)⟩
def wantP (silent later : Int) (i : Nat) (p : GPiece) : List GTake := bif decide ((i : Int) = silent) then [] else (notesP p).map (wantN later i)
def wantI (silent later : Int) : Nat → List GPiece → List GTake
  | _,[] => []
  | i,p :: r => wantP silent later i p ++ wantI silent later (i + 1) r
theorem noted_ok (c : GConsort) (hv : ValidC c.pieces) (tk : List GTake) (silent later : Int) (htl : tk.length ≤ 4000000) (hp : tk.Perm (wantI silent later 0 c.pieces)) : f21 c tk silent later = some true := by
  suffices h : ∃ r,f21 c tk silent later = some r ∧ r = true by
    obtain ⟨r,h,rfl⟩ := h; exact h
  have hts : Small tk := by simp only [Small]; omega
  have n1 : (0 : Int) ≤ (tk.length : Int) := Int.natCast_nonneg _
  have n2 : (tk.length : Int) ≤ (maxElems : Int) := by unfold maxElems; omega
  have hcl := hv.2.1
  have hcs : Small c.pieces := by simp only [Small]; omega
  unfold f21
  simp only [need,if_pos n1,if_pos n2,Int.toNat_natCast]
  refine bind_inv (fun i (s : List Bool × Int × Int) => s.2.2 = (i : Int) ∧ s.1.length = tk.length ∧ (unusedS tk s.1).Perm (wantI silent later i (c.pieces.drop i)) ∧ s.2.1 + ((wantI silent later i (c.pieces.drop i)).length : Int) = (tk.length : Int) ∧ 0 ≤ s.2.1)
    (fun t => t = .inl (tk.length : Int)) c.pieces.length (by omega) ⟨rfl,by simp,?_,?_,Int.le_refl _⟩ ?_ ?_ ?_
  · rw [unused_all]; exact hp
  · have := hp.length_eq
    simp only [List.drop_zero]; omega
  · rintro i ⟨u,m,i'⟩ hi ⟨rfl,h1,h2,h3,h4⟩
    have hg : c.pieces[i]? = some (c.pieces[i]'hi) := List.getElem?_eq_getElem hi
    obtain ⟨v1,v2⟩ := hv.2.2 i _ hg
    obtain ⟨ns,e1,e2⟩ := notes_eq v1 v2
    have hnp : notesP (c.pieces[i]'hi) = ns := by unfold notesP; rw [e1]; rfl
    have hdr : c.pieces.drop i = (c.pieces[i]'hi) :: c.pieces.drop (i + 1) := List.drop_eq_getElem_cons hi
    have hme := v1.many
    rw [hdr] at h2 h3
    simp only [wantI,wantP,hnp] at h1 h2 h3 h4
    have d0 : decide ((0 : Int) ≠ 0) = false := rfl
    have hns : Small ns := by simp only [Small]; omega
    generalize hR : wantI silent later (i + 1) (c.pieces.drop (i + 1)) = R at h2 h3 ⊢
    simp only [dltLen hg,cond_true,ixNat hg,Option.bind_some,e1,d0,cond_false]
    have hB : ((fun (l2 : List Bool × Int × Int) => l2) : List Bool × Int × Int → _) = fun l2 => l2 := rfl
    cases hsil : decide ((i : Int) = silent) with
    | true =>
      rw [hsil] at h2 h3
      simp only [cond_true,List.nil_append] at h2 h3
      refine bind_invL (fun j (s : List Bool × Int × Int) => s = (u,m,(j : Int))) (fun t => t = .inl (u,m)) ns.length (by omega) rfl ?_ ?_ ?_
      · rintro j s hj rfl
        have hgj : ns[j]? = some (ns[j]'hj) := List.getElem?_eq_getElem hj
        simp only [dltLen hgj,cond_true,ixNat hgj,Option.bind_some,Sum.elim_inl,wrLen hns hgj]
        exact ⟨_,rfl,rfl⟩
      · rintro s rfl
        exact ⟨_,by simp,rfl⟩
      · rintro t rfl
        simp only [Sum.elim_inl,wrLen hcs hg]
        exact ⟨_,rfl,rfl,h1,h2,h3,h4⟩
    | false =>
      rw [hsil] at h2 h3
      simp only [cond_false] at h2 h3
      refine bind_invL (fun j (s : List Bool × Int × Int) => s.2.2 = (j : Int) ∧ s.1.length = tk.length ∧ (unusedS tk s.1).Perm ((ns.drop j).map (wantN later i) ++ R) ∧ s.2.1 + (((ns.drop j).map (wantN later i) ++ R).length : Int) = (tk.length : Int) ∧ 0 ≤ s.2.1)
        (fun t => ∃ u' m',t = .inl (u',m') ∧ u'.length = tk.length ∧ (unusedS tk u').Perm R ∧ m' + (R.length : Int) = (tk.length : Int) ∧ 0 ≤ m') ns.length (by omega) ⟨rfl,h1,by simpa using h2,by simpa using h3,h4⟩ ?_ ?_ ?_
      · rintro j ⟨u1,m1,j'⟩ hj ⟨rfl,g1,g2,g3,g4⟩
        have hgj : ns[j]? = some (ns[j]'hj) := List.getElem?_eq_getElem hj
        have hdj : ns.drop j = (ns[j]'hj) :: ns.drop (j + 1) := List.drop_eq_getElem_cons hj
        rw [hdj] at g2 g3
        simp only [List.map_cons,List.cons_append,List.length_cons] at g1 g2 g3 g4
        have hmem : wantN later i (ns[j]'hj) ∈ unusedS tk u1 := g2.symm.mem_iff.1 (by simp)
        obtain ⟨u2,s1,s2,s3⟩ := search_ok tk u1 _ g1 hts hmem
        have s1' : loopN (searchB tk u1 ⟨(i : Int),(ns[j]'hj).course,(ns[j]'hj).pitch,wr ((ns[j]'hj).from_ + later),wr ((ns[j]'hj).to_ + later)⟩) FUEL 0 = some (u2,true) := s1
        unfold searchB at s1'
        have hwm : wr (m1 + 1) = m1 + 1 := wr64 (by omega) (by omega)
        simp only [dltLen hgj,cond_true,ixNat hgj,Option.bind_some,wrLen hns hgj,cond_false]
        rw [s1']
        simp only [Option.bind_some,Bool.not_true,cond_false,Sum.elim_inl,hwm]
        refine ⟨_,rfl,rfl,s2,?_,by simp only; omega,by simp only; omega⟩
        exact List.Perm.cons_inv (s3.symm.trans g2)
      · rintro ⟨u1,m1,j'⟩ ⟨rfl,g1,g2,g3,g4⟩
        rw [List.drop_length] at g2 g3
        exact ⟨_,by simp,u1,m1,rfl,g1,by simpa using g2,by simpa using g3,g4⟩
      · rintro t ⟨u',m',rfl,g1,g2,g3,g4⟩
        simp only [Sum.elim_inl,wrLen hcs hg]
        exact ⟨_,rfl,rfl,g1,g2,g3,g4⟩
  · rintro ⟨u,m,i'⟩ ⟨rfl,h1,h2,h3,h4⟩
    rw [List.drop_length] at h3
    simp only [wantI,List.length_nil] at h3
    have hm : m = (tk.length : Int) := by simpa using h3
    exact ⟨.inl m,by simp,by rw [hm]⟩
  · rintro t rfl
    simp only [Sum.elim_inl,decide_true]
    exact ⟨_,rfl,rfl⟩
end Go.Proofs.Ytpljabnngpnieaa
