/-
 The player against the reference's,part f: new players; all calls: the law of ConsortPlays.
 Own work. No Go text.
-/
import Derived.Test.YtjjendjmakhfaaaGreatQe
set_option linter.all false
namespace Go.Proofs.YtjjendjmakhfaaaGreat
open Go Go.Am
theorem on_lt {p : GPiece} (hv : ValidP p) {i j : Nat} (hij : i < j) (hj : j ≤ p.events.length) : onN p i < onN p j := by
 obtain ⟨s,s1,s2,s3⟩ := ons_shapeV hv
 have hol : (onsS p).length = p.events.length + 1 := by unfold onsS; rw [ons_len]; simp; omega
 have h1 := onN_get (p := p) (i := i) (by omega)
 have h2 := onN_get (p := p) (i := j) (by omega)
 rw [s1] at h1 h2
 exact asc_lt s 0 s2 i j _ _ hij h1 h2
theorem on_zero {p : GPiece} (hv : ValidP p) : onN p 0 = 0 := by
 obtain ⟨s,s1,_,_⟩ := ons_shapeV hv
 unfold onN; rw [s1]; rfl
theorem on_end {p : GPiece} (h : pieceS p = 0) : onN p p.events.length = endP p := by
 obtain ⟨g1,_⟩ := last_ok h
 have hol : (onsS p).length = p.events.length + 1 := by unfold onsS; rw [ons_len]; simp; omega
 have hm := (pieceS_ok h).2.1
 have hw : wr (((onsS p).length : Int) - 1) = (p.events.length : Int) := by rw [hol,wr64 (by omega) (by omega)]; omega
 rw [hw] at g1
 have h1 := onN_get (p := p) (i := p.events.length) (by omega)
 rw [ixNat h1] at g1
 exact Option.some.inj g1
theorem notes_in {p : GPiece} (hp : SmallP p) (h : pieceS p = 0) : ∀ n ∈ notesN p,(0 ≤ n.from_ ∧ n.from_ < n.to_ ∧ n.to_ ≤ endP p) ∧ 1 ≤ n.course ∧ n.course ≤ 14 := by
 have hv := valid_of hp h
 intro n hn
 obtain ⟨x,hx,rfl⟩ := List.mem_map.1 hn
 obtain ⟨a1,e,a2,a3⟩ := mem_stopsN hx
 obtain ⟨j,hj⟩ := List.getElem?_of_mem a3
 have hso := (hv.ev x.1 e a2).stops j _ hj
 obtain ⟨_,hle⟩ := end_ref hp hv a1 hso
 have hgt : x.1 < endN p x := by
  unfold endN
  by_cases hf : 0 < x.2.fret
  ·have hlb := long_bound x.2.course (p.events.drop (x.1 + 1)) 0 0 (by omega) (by omega)
   have hh := hso.hold
   unfold longS at hh
   rw [List.length_drop] at hlb
   rw [decide_eq_true hf,cond_true]
   have := (stay_N p x.1 x.2.hold (by omega)).1
   omega
  ·rw [decide_eq_false hf,cond_false]
   exact (open_ok p x.1 x.2.course a1).1
 have h0 := on_mono hv (Nat.zero_le x.1) (by omega)
 rw [on_zero hv] at h0
 have h1 := on_lt hv hgt hle
 have h2 := on_mono hv hle (Nat.le_refl _)
 rw [on_end h] at h2
 exact ⟨⟨h0,h1,h2⟩,stop_bounds hv a2 a3⟩
theorem notes_ord {p : GPiece} (hp : SmallP p) (h : pieceS p = 0) : (notesN p).Pairwise fun a b => a.from_ = b.from_ → a.course < b.course := by
 have hv := valid_of hp h
 unfold notesN
 refine List.pairwise_map.2 (List.Pairwise.imp_of_mem (fun {a b} ha hb hab he => ?_) (stops_ord hv p.events.length))
 obtain ⟨b1,_⟩ := mem_stopsN hb
 rcases hab with h1 | ⟨_,h2⟩
 ·have := on_lt hv h1 (by omega)
  have he : onN p a.1 = onN p b.1 := he
  omega
 ·exact h2
theorem notes_count {p : GPiece} (hp : SmallP p) (h : pieceS p = 0) : (notesN p).length ≤ 14 * p.events.length := by
 unfold notesN; rw [List.length_map]; exact stopsN_len (valid_of hp h) _
theorem check_all {l : List GPiece} (h : checkS l = 0) : 0 < l.length ∧ l.length ≤ 6 ∧ (∀ p ∈ l,pieceS p = 0) ∧ ∀ p ∈ l,endP p = (l.map endP).headD 0 := by
 unfold checkS at h
 by_cases hb : (bandS l).2 = 0
 ·rw [if_neg (by simp [hb])] at h
  obtain ⟨h1,h2,_,h4⟩ := band_ok hb
  refine ⟨h1,h2,h4,fun p hp => ?_⟩
  cases hd : diffS (l.map endP) with
  | true => rw [hd] at h; cases h
  | false =>
   obtain ⟨x,r,hx⟩ := ends_cons h1
   have hm : endP p ∈ l.map endP := List.mem_map.2 ⟨p,hp,rfl⟩
   rw [hx] at hd hm ⊢
   unfold diffS at hd
   simp only [List.any_eq_false,decide_eq_true_eq] at hd
   have := hd _ hm
   simp only [List.headD_cons]
   exact Classical.byContradiction fun hne => this hne
 ·rw [if_pos hb] at h; exact absurd h hb
def deskN (p : GPiece) : GCDesk := ⟨notesN p,false,0⟩
def mkQ (i : Nat) (n : GNote) : GRef09Note := ⟨⟨(i : Int),n.course,n.pitch⟩,n.from_,n.to_,false,0⟩
def newQ : Nat → List GPiece → List GRef09Note
 | _,[] => []
 | i,p :: r => (notesN p).map (mkQ i) ++ newQ (i + 1) r
theorem newQ_snoc : ∀ (l : List GPiece) (i : Nat) (p : GPiece),newQ i (l ++ [p]) = newQ i l ++ (notesN p).map (mkQ (i + l.length))
 | [],i,p => by simp [newQ]
 | a :: r,i,p => by
  simp only [List.cons_append,newQ,newQ_snoc r,List.append_assoc,List.length_cons]
  rw [show i + 1 + r.length = i + (r.length + 1) by omega]
theorem newQ_len : ∀ (l : List GPiece) (i : Nat),(∀ p ∈ l,(notesN p).length ≤ 5600) → (newQ i l).length ≤ 5600 * l.length
 | [],i,_ => by simp [newQ]
 | p :: r,i,h => by
  have h1 := newQ_len r (i + 1) fun e he => h e (List.mem_cons_of_mem _ he)
  have h2 := h p (by simp)
  simp only [newQ,List.length_append,List.length_map,List.length_cons]
  omega
theorem newQ_pairs : ∀ (l : List GPiece) (i : Nat),newQ i l = (pairsI i (l.map deskN)).map fun x => mkQ x.1 x.2
 | [],i => rfl
 | p :: r,i => by
  simp only [newQ,List.map_cons,pairsI,List.map_append,List.map_map,newQ_pairs r]
  rfl
theorem f7_new (c : GConsort) (hs : SizeC c.pieces) : f7 c = some (if checkS c.pieces = 0 then .inr ((c.pieces.map endP).headD 0,c.pieces.map deskN) else .inl (checkS c.pieces)) := by
 unfold f7
 rw [prog_length c hs]
 simp only [Option.bind_some]
 by_cases h : checkS c.pieces = 0
 ·obtain ⟨h1,h2,h3,_⟩ := check_all h
  rw [if_pos h,if_pos h]
  have d0 : decide ((0 : Int) ≠ 0) = false := rfl
  simp only [d0,cond_false]
  rw [loop_all (fun k => ((c.pieces.take k).map deskN,(k : Int))) c.pieces.length (by omega) (by simp) (r := .inl (c.pieces.map deskN))]
  ·rfl
  ·intro k hk
   have hg : c.pieces[k]? = some c.pieces[k] := List.getElem?_eq_getElem hk
   generalize c.pieces[k] = p at hg
   have hm := List.mem_of_getElem? hg
   simp only [dltLen hg,cond_true,ixNat hg,Option.bind_some,notes_prog p (hs.2 p hm) (h3 p hm),d0,cond_false]
   rw [need_one (by rw [List.length_map,List.length_take]; unfold maxElems; omega),take_snoc hg,wrNat (by omega),List.map_append]
   rfl
  ·have hd : decide ((c.pieces.length : Int) < (c.pieces.length : Int)) = false := by simp
   simp only [hd,cond_false,List.take_length]
 ·rw [if_neg h,if_neg h]
  have d : decide (checkS c.pieces ≠ 0) = true := decide_eq_true h
  simp only [d,cond_true]
theorem f8_new (c : GConsort) (hs : SizeC c.pieces) : f8 c = some (if checkS c.pieces = 0 then .inr (newQ 0 c.pieces,(c.pieces.map endP).headD 0,List.replicate c.pieces.length false,List.replicate c.pieces.length 0) else .inl (checkS c.pieces)) := by
 unfold f8
 rw [ref_Check c hs]
 simp only [Option.bind_some]
 by_cases h : checkS c.pieces = 0
 ·obtain ⟨h1,h2,h3,h4⟩ := check_all h
  have d0 : decide ((0 : Int) ≠ 0) = false := rfl
  rw [if_pos h,h]
  simp only [d0,cond_false]
  rw [need_one (by omega),need_one (by unfold maxElems; omega)]
  have few : ∀ p ∈ c.pieces,(notesN p).length ≤ 5600 := fun p hp => by
   have a := notes_count (hs.2 p hp) (h3 p hp)
   have b := (pieceS_ok (h3 p hp)).2.1
   omega
  rw [loop_all (fun k => (newQ 0 (c.pieces.take k),(if k = 0 then 0 else (c.pieces.map endP).headD 0),(k : Int))) c.pieces.length (by omega) (by simp [newQ]) (r := (newQ 0 c.pieces,(c.pieces.map endP).headD 0))]
  ·simp only [Option.bind_some,Int.toNat_natCast]
  ·intro k hk
   have hg : c.pieces[k]? = some c.pieces[k] := List.getElem?_eq_getElem hk
   generalize c.pieces[k] = p at hg
   have hm := List.mem_of_getElem? hg
   have hp := h3 p hm
   have hpo := pieceS_ok hp
   have hol : (onsS p).length = p.events.length + 1 := by unfold onsS; rw [ons_len]; simp; omega
   have hfew := few p hm
   have hnl := newQ_len (c.pieces.take k) 0 fun e he => few e (List.mem_of_mem_take he)
   have htl : (c.pieces.take k).length = k := by rw [List.length_take]; omega
   rw [htl] at hnl
   have hsgn : ∀ e ∈ p.events,signS e.sign = true := fun e he => by
    obtain ⟨j,hj⟩ := List.getElem?_of_mem he
    exact (hpo.2.2 j e hj).1
   simp only [dltLen hg,cond_true,ixNat hg,Option.bind_some,ref_times p hpo.2.1 hsgn,(last_ok hp).1,notes_ref p (hs.2 p hm) hp]
   rw [loop_all (fun j => (newQ 0 (c.pieces.take k) ++ ((notesN p).take j).map (mkQ k),(j : Int))) (notesN p).length (by omega) (by simp) (r := newQ 0 (c.pieces.take k) ++ (notesN p).map (mkQ k))]
   ·simp only [Option.bind_some]
    rw [take_snoc hg,newQ_snoc,htl,wrNat (by omega),if_neg (by omega),h4 p hm,Nat.zero_add]
   ·intro j hj
    have hgn : (notesN p)[j]? = some (notesN p)[j] := List.getElem?_eq_getElem hj
    generalize (notesN p)[j] = n at hgn
    simp only [dltLen hgn,cond_true,ixNat hgn,Option.bind_some]
    rw [need_one (by rw [List.length_append,List.length_map,List.length_take]; unfold maxElems; omega),take_snoc hgn,wrNat (by omega),List.map_append]
    simp only [List.map_cons,List.map_nil,List.append_assoc,mkQ]
   ·have hd : decide (((notesN p).length : Int) < ((notesN p).length : Int)) = false := by simp
    simp only [hd,cond_false,List.take_length]
  ·have hd : decide ((c.pieces.length : Int) < (c.pieces.length : Int)) = false := by simp
   simp only [hd,cond_false,List.take_length]
   rw [if_neg (by omega)]
 ·rw [if_neg h]
  have d : decide (checkS c.pieces ≠ 0) = true := decide_eq_true h
  simp only [d,cond_true]
def bigS (l : List GPiece) : Bool := l.any (fun p => decide (60 < p.events.length) && decide (p.events.length ≤ 400)) || decide (8 < l.length)
theorem f5_eq (l : List GPiece) (hs : Small l) : f5 l = some (bigS l) := by
 unfold f5 bigS
 rw [loop_find l (fun p => decide (60 < p.events.length) && decide (p.events.length ≤ 400)) (fun _ _ => true) hs]
 ·have e8 : decide (8 < (l.length : Int)) = decide (8 < l.length) := dltN 8 _
  simp only [Option.bind_some,findS_any,e8]
  cases l.any _ <;> rfl
 ·intro i p hp
  have e1 : decide (60 < (p.events.length : Int)) = decide (60 < p.events.length) := dltN 60 _
  have e2 : decide ((p.events.length : Int) ≤ 400) = decide (p.events.length ≤ 400) := by
   by_cases h : p.events.length ≤ 400
   ·have : (p.events.length : Int) ≤ 400 := by omega
    simp [h,this]
   ·have : ¬ (p.events.length : Int) ≤ 400 := by omega
    simp [h,this]
  simp only [dltLen hp,cond_true,ixNat hp,Option.bind_some,andP,e1,e2]
  cases (decide (60 < p.events.length) && decide (p.events.length ≤ 400)) <;> rfl
 ·simp
def newP (l : List GPiece) : GCPlayer := ⟨⟨0⟩,0,(l.map endP).headD 0,true,l.map deskN,0,0,0,⟨[]⟩,[]⟩
def newR (l : List GPiece) : GRef09Player := ⟨newQ 0 l,(l.map endP).headD 0,0,0,true,List.replicate l.length false,List.replicate l.length 0,0,0,0,[]⟩
theorem new_rel {l : List GPiece} (hs : SizeC l) (h : checkS l = 0) (hb : bigS l = false) : RelP (newP l) (newR l) ∧ BInv 0 (newP l) ∧ NotesD (l.map deskN) := by
 obtain ⟨h1,h2,h3,h4⟩ := check_all h
 have few : ∀ p ∈ l,p.events.length ≤ 60 := fun p hp => by
  unfold bigS at hb
  simp only [Bool.or_eq_false_iff,List.any_eq_false,Bool.and_eq_true,decide_eq_true_eq,not_and] at hb
  have a := hb.1 p hp
  have b := (pieceS_ok (h3 p hp)).2.1
  omega
 have hend : 0 ≤ (l.map endP).headD 0 ∧ (l.map endP).headD 0 ≤ 230400 := by
  have hg : l[0]? = some (l[0]'h1) := List.getElem?_eq_getElem h1
  have hm := List.mem_of_getElem? hg
  rw [← h4 _ hm]
  exact (last_ok (h3 _ hm)).2
 refine ⟨⟨rfl,rfl,rfl,rfl,rfl,rfl,rfl,rfl,?_,?_,?_⟩,⟨⟨Int.le_refl _,hend.1,by show (l.map endP).headD 0 ≤ _; omega⟩,by show (l.map deskN).length ≤ 6; rw [List.length_map]; exact h2,fun d hd => ?_,(fun h => absurd h (by show ¬ (0 : Int) < 0; omega)),⟨Int.le_refl _,by show (0 : Int) ≤ 100; omega⟩,fun _ => rfl,(fun x hx => by cases hx),List.Pairwise.nil,by show 0 ≤ _; omega⟩,⟨fun d hd n hn => ?_,fun d hd => ?_⟩⟩
 ·show List.replicate l.length false = (l.map deskN).map (·.silent)
  rw [List.map_map,show ((fun d : GCDesk => d.silent) ∘ deskN) = (fun _ : GPiece => false) from rfl,List.map_const']
 ·show List.replicate l.length (0 : Int) = (l.map deskN).map (·.since)
  rw [List.map_map,show ((fun d : GCDesk => d.since) ∘ deskN) = (fun _ : GPiece => (0 : Int)) from rfl,List.map_const']
 ·show NotesR [] (pairsI 0 (l.map deskN)) (newQ 0 l)
  rw [newQ_pairs]
  refine ⟨by rw [List.length_map],fun k x m hx hm => ?_⟩
  rw [List.getElem?_map,hx] at hm
  cases hm
  exact ⟨rfl,rfl,rfl,rfl,fun y hy => by cases hy⟩
 ·obtain ⟨p,hp,rfl⟩ := List.mem_map.1 (show d ∈ l.map deskN from hd)
  refine ⟨?_,notes_disj (valid_of (hs.2 p hp) (h3 p hp)),fun n hn => ?_⟩
  ·have a := notes_count (hs.2 p hp) (h3 p hp)
   have b := few p hp
   show (notesN p).length ≤ 1000
   omega
  ·show _ ∧ _ ∧ _ ≤ (l.map endP).headD 0
   rw [← h4 p hp]
   exact (notes_in (hs.2 p hp) (h3 p hp) n hn).1
 ·obtain ⟨p,hp,rfl⟩ := List.mem_map.1 hd
  exact (notes_in (hs.2 p hp) (h3 p hp) n hn).2
 ·obtain ⟨p,hp,rfl⟩ := List.mem_map.1 hd
  exact notes_ord (hs.2 p hp) (h3 p hp)
theorem seek_same (p : GCPlayer) (t : Int) : sameNotes p.desks (seekB p t).2.desks := by
 unfold seekB
 cases (decide (0 ≤ t) && decide (t ≤ p.end_)) with
 | false => exact same_refl _
 | true => exact same_move _ _
theorem step_same (p : GCPlayer) : sameNotes p.desks (stepS p).2.2.desks := by
 unfold stepS
 cases doneS p with
 | true => exact same_refl _
 | false =>
  cases p.waiting with
  | true => exact same_refl _
  | false =>
   cases (decide (0 < p.times) && decide (nextT p = p.to_)) with
   | true => exact same_move _ _
   | false => exact same_refl _
theorem rep_same (p : GCPlayer) (a b t : Int) : (repB p a b t).desks = p.desks ∧ (repB p a b t).clock = p.clock ∧ (repB p a b t).now = p.now ∧ (repB p a b t).waiting = p.waiting ∧ (repB p a b t).sounding = p.sounding ∧ (repB p a b t).takes = p.takes := by
 unfold repB
 cases (decide (0 ≤ a) && (decide (a < b) && (decide (b ≤ p.end_) && (decide (0 ≤ t) && decide (t ≤ 100))))) <;> exact ⟨rfl,rfl,rfl,rfl,rfl,rfl⟩
theorem seek_rest (p : GCPlayer) (t : Int) : (seekB p t).2.clock = p.clock ∧ (seekB p t).2.from_ = p.from_ ∧ (seekB p t).2.to_ = p.to_ ∧ (seekB p t).2.times = p.times := by
 unfold seekB
 cases (decide (0 ≤ t) && decide (t ≤ p.end_)) <;> exact ⟨rfl,rfl,rfl,rfl⟩
theorem mute_rest (p : GCPlayer) (i : Int) (s : Bool) : (muteB p i s).2.clock = p.clock ∧ (muteB p i s).2.now = p.now ∧ (muteB p i s).2.waiting = p.waiting ∧ (muteB p i s).2.from_ = p.from_ ∧ (muteB p i s).2.to_ = p.to_ ∧ (muteB p i s).2.times = p.times := by
 unfold muteB
 cases ix p.desks i with
 | none => exact ⟨rfl,rfl,rfl,rfl,rfl,rfl⟩
 | some d => simp only; cases (d.silent == s) <;> cases s <;> exact ⟨rfl,rfl,rfl,rfl,rfl,rfl⟩
theorem fr_small {k : Nat} {p p' : GCPlayer} (hb : BInv k p) (hb' : BInv (k + 1) p') (hk : k ≤ 90) {fr : GFrame} (h : Fr p.sounding.l fr.end_ fr.begin p'.sounding.l) : Small fr.begin ∧ Small fr.end_ := by
 obtain ⟨q,xs,h1,h2,h3⟩ := h
 have a := adds_len h3
 have b := hb'.size
 have c := hb.size
 have d := List.length_filter_le q p.sounding.l
 rw [h1,h2]
 simp only [Small,List.length_map]
 omega
theorem rest_some (a : Int) : ∃ r,f16 a 8 = some r := ⟨_,by unfold f16; rw [need_one (by decide)]⟩
theorem rest_two (a : Int) : ∃ r,f16 a 2 = some r := ⟨_,by unfold f16; rw [need_one (by decide)]⟩
structure Both (E : Int) (k : Nat) (p : GCPlayer) (q : GRef09Player) : Prop where
 rel : RelP p q
 inv : BInv k p
 notes : NotesD p.desks
 pe : p.end_ = E
 qe : q.end_ = E
abbrev St22 := Int × Int × Bool × List GCDesk × Int × Int × Int × List GCLive × List GTake × Int × List GRef09Note × Int × Int × Bool × List Bool × List Int × Int × Int × Int × List GTake × Int × Int
def stI (p : GCPlayer) (q : GRef09Player) (e f : Int) (k : Int) : St22 :=
 (p.clock.ticks,p.now,p.waiting,p.desks,p.from_,p.to_,p.times,p.sounding.l,p.takes,e,q.notes,q.now,q.clock,q.waiting,q.silent,q.since,q.from_,q.to_,q.times,q.takes,f,k)
def st22 (p : GCPlayer) (q : GRef09Player) (e f : Int) (k : Nat) : St22 := stI p q e f (k : Int)
theorem mkP {p : GCPlayer} {E : Int} (h : p.end_ = E) : (⟨(⟨p.clock.ticks⟩ : GCClock),p.now,E,p.waiting,p.desks,p.from_,p.to_,p.times,(⟨p.sounding.l⟩ : GCShelf_live),p.takes⟩ : GCPlayer) = p := by rw [← h]
theorem mkR {q : GRef09Player} {E : Int} (h : q.end_ = E) : (⟨q.notes,E,q.now,q.clock,q.waiting,q.silent,q.since,q.from_,q.to_,q.times,q.takes⟩ : GRef09Player) = q := by rw [← h]
theorem ex_inl {σ τ : Type} {o : Option (σ ⊕ τ)} {I : σ → Prop} (h : ∃ z,o = some z ∧ ∃ s',z = .inl s' ∧ I s') : ∃ s',o = some (.inl s') ∧ I s' := by
 obtain ⟨z,h1,s',rfl,h2⟩ := h
 exact ⟨s',h1,h2⟩
theorem bind_get {α β : Type} {x : Option α} {a : α} {f : α → Option β} {P : β → Prop} (hx : x = some a) (h : ∃ z,f a = some z ∧ P z) : ∃ z,x.bind f = some z ∧ P z := by subst hx; exact h
theorem f3_eq (c : GConsort) (calls : List GLaw09Call) (hcs : Small calls) (hs : SizeC c.pieces) : f3 c calls = some true := by
 suffices h : ∃ r,f3 c calls = some r ∧ r = true by
  obtain ⟨r,h,rfl⟩ := h; exact h
 unfold f3
 rw [f5_eq c.pieces hs.1]
 simp only [Option.bind_some]
 cases hb : bigS c.pieces with
 | true => exact ⟨true,rfl,rfl⟩
 | false =>
  simp only [cond_false]
  rw [f7_new c hs,f8_new c hs]
  simp only [Option.bind_some]
  by_cases h0 : checkS c.pieces = 0
  case neg =>
   simp only [if_neg h0,Sum.elim_inl]
   have d1 : decide (checkS c.pieces ≠ checkS c.pieces) = false := by simp
   have d2 : decide (checkS c.pieces ≠ 0) = true := decide_eq_true h0
   simp only [d1,d2,cond_false,cond_true]
   exact ⟨true,rfl,rfl⟩
  simp only [if_pos h0,Sum.elim_inr]
  obtain ⟨n1,n2,n3⟩ := new_rel hs h0 hb
  have hsame := same_rel n1 n2 (by omega)
  have hsame : f15 (⟨(⟨0⟩ : GCClock),0,(c.pieces.map endP).headD 0,true,c.pieces.map deskN,0,0,0,(⟨([] : List GCLive)⟩ : GCShelf_live),([] : List GTake)⟩ : GCPlayer) (⟨newQ 0 c.pieces,(c.pieces.map endP).headD 0,0,0,true,List.replicate c.pieces.length false,List.replicate c.pieces.length 0,0,0,0,([] : List GTake)⟩ : GRef09Player) = some true := hsame
  rw [hsame]
  simp only [Option.bind_some,Bool.not_true,cond_false]
  generalize hE : (c.pieces.map endP).headD 0 = E
  have hB0 : Both E 0 (newP c.pieces) (newR c.pieces) := ⟨n1,n2,n3,hE,hE⟩
  refine bind_inv (fun k (s : St22) => ∃ p q e,s = st22 p q e e k ∧ Both E k p q) (fun (t : Unit ⊕ Bool) => t = .inl ()) (min calls.length 60) (by omega) ⟨newP c.pieces,newR c.pieces,0,rfl,hB0⟩ ?_ ?_ (fun t ht => by subst ht; exact ⟨true,rfl,rfl⟩)
  ·rintro k s hk ⟨p,q,e,rfl,hB⟩
   have hg : calls[k]? = some (calls[k]'(by omega)) := List.getElem?_eq_getElem (by omega)
   generalize calls[k]'(by omega) = x at hg
   have d60 : decide ((k : Int) < 60) = true := decide_eq_true (by omega)
   have hkk : k ≤ 60 := by omega
   refine ex_inl ?_
   have hcond : (bif decide ((k : Int) < (calls.length : Int)) then (some (decide ((k : Int) < 60)) : Option Bool) else some false) = some true := by
    rw [dltLen hg,d60]; rfl
   refine bind_get hcond ?_
   refine bind_get (x := ix calls (k : Int)) (ixNat hg) ?_
   have hroom := binv_roomy hB.inv (by omega)
   refine bind_ex (P1 := fun r => ∃ (p' : GCPlayer) (q' : GRef09Player) (e : Int) (fr : GFrame),r = .inl (p'.clock.ticks,p'.now,p'.waiting,p'.desks,p'.from_,p'.to_,p'.times,p'.sounding.l,p'.takes,e,q'.notes,q'.now,q'.clock,q'.waiting,q'.silent,q'.since,q'.from_,q'.to_,q'.times,q'.takes,e,fr,fr) ∧ Both E (k + 1) p' q' ∧ Small fr.begin ∧ Small fr.end_) ?_ ?_
   ·obtain ⟨r8,hr8⟩ := rest_some x.what
    refine bind_get hr8 ?_
    have h5 : ∃ b,((bif (decide (r8 = 0)) then (some true) else (bif (decide (r8 = 1)) then (some true) else (bif (decide (r8 = 2)) then (some true) else (some (decide (r8 = 3)))))) : Option Bool) = some b := by
     cases decide (r8 = 0) <;> cases decide (r8 = 1) <;> cases decide (r8 = 2) <;> exact ⟨_,rfl⟩
    obtain ⟨b5,h5⟩ := h5
    refine bind_get h5 ?_
    cases b5 with
    | true =>
     obtain ⟨ms,n,cl,w,si,ti,tk,g1,g2⟩ := step_rel hB.rel hB.inv (by omega) hB.notes
     obtain ⟨u1,u2,u3,u4,u5⟩ := step_b hB.inv (by omega)
     refine bind_get ((congrArg f17 (mkP hB.pe)).trans (f17_eq p hroom)) ?_
     refine bind_get ((congrArg f18 (mkR hB.qe)).trans g1) ?_
     refine ⟨_,rfl,(stepS p).2.2,_,(stepS p).2.1,(stepS p).1,?_,⟨g2,u1,hB.notes.same (step_same p),u2.trans hB.pe,hB.qe⟩,fr_small hB.inv u1 (by omega) u5⟩
     rw [u3,u4]; rfl
    | false =>
     simp only [cond_false]
     cases decide (r8 = 4) with
     | true =>
      obtain ⟨ms,n,w,si,tk,g1,g2⟩ := seek_rel hB.rel hB.inv (by omega) hB.notes x.a
      obtain ⟨u1,u2,u5⟩ := seek_b hB.inv x.a
      obtain ⟨v1,v2,v3,v4⟩ := seek_rest p x.a
      refine bind_get ((congrArg (fun z => f19 z x.a) (mkP hB.pe)).trans (f15_b hB.inv (by omega) x.a)) ?_
      refine bind_get ((congrArg (fun z => f20 z x.a) (mkR hB.qe)).trans g1) ?_
      refine ⟨_,rfl,(seekB p x.a).2,_,(bif decide (0 ≤ x.a) && decide (x.a ≤ p.end_) then (0 : Int) else 1),(seekB p x.a).1,?_,⟨g2,u1,hB.notes.same (seek_same p x.a),u2.trans hB.pe,hB.qe⟩,fr_small hB.inv u1 (by omega) u5⟩
      rw [v1,v2,v3,v4]; rfl
     | false =>
      simp only [cond_false]
      cases decide (r8 = 5) with
      | true =>
       obtain ⟨g1,g2⟩ := rep_rel hB.rel x.a x.b x.c
       obtain ⟨u1,u2,u3⟩ := rep_b hB.inv x.a x.b x.c
       obtain ⟨v1,v2,v3,v4,v5,v6⟩ := rep_same p x.a x.b x.c
       refine bind_get ((congrArg (fun z => f21 z x.a x.b x.c) (mkP hB.pe)).trans (f18_b p x.a x.b x.c)) ?_
       refine bind_get ((congrArg (fun z => f22 z x.a x.b x.c) (mkR hB.qe)).trans g1) ?_
       refine ⟨_,rfl,repB p x.a x.b x.c,_,(bif decide (0 ≤ x.a) && (decide (x.a < x.b) && (decide (x.b ≤ p.end_) && (decide (0 ≤ x.c) && decide (x.c ≤ 100)))) then (0 : Int) else 1),noFrame,?_,⟨g2,u1,by rw [v1]; exact hB.notes,u2.trans hB.pe,hB.qe⟩,by simp [noFrame,Small],by simp [noFrame,Small]⟩
       rw [v1,v2,v3,v4,v5,v6]; rfl
      | false =>
       simp only [cond_false]
       cases decide (r8 = 6) with
       | true =>
        obtain ⟨r2,hr2⟩ := rest_two x.b
        obtain ⟨ms,sl,si,tk,g1,g2,g3⟩ := mute_rel hB.rel hB.inv (by omega) hB.notes x.a (decide (r2 = 1))
        obtain ⟨u1,u2,u5⟩ := mute_b hB.inv (by omega) x.a (decide (r2 = 1))
        obtain ⟨v1,v2,v3,v4,v5,v6⟩ := mute_rest p x.a (decide (r2 = 1))
        simp only [cond_true]
        refine bind_get (x := f16 x.b 2) (a := r2) hr2 ?_
        refine bind_get ((congrArg (fun z => f23 z x.a (decide (r2 = 1))) (mkP hB.pe)).trans (f25_b hB.inv (by omega) x.a (decide (r2 = 1)))) ?_
        refine bind_get ((congrArg (fun z => f24 z x.a (decide (r2 = 1))) (mkR hB.qe)).trans g1) ?_
        refine ⟨_,rfl,(muteB p x.a (decide (r2 = 1))).2,_,(match ix p.desks x.a with | none => (1 : Int) | some _ => 0),(muteB p x.a (decide (r2 = 1))).1,?_,⟨g2,u1,hB.notes.same g3,u2.trans hB.pe,hB.qe⟩,fr_small hB.inv u1 (by omega) u5⟩
        rw [v1,v2,v3,v4,v5,v6]; rfl
       | false =>
        simp only [cond_false]
        have hB1 : Both E (k + 1) p q := ⟨hB.rel,⟨hB.inv.now,hB.inv.desks,hB.inv.good,hB.inv.rep,hB.inv.reps,hB.inv.waits,hB.inv.live,hB.inv.srt,by have := hB.inv.size; omega⟩,hB.notes,hB.pe,hB.qe⟩
        cases decide (r8 = 7) with
        | true =>
         have hsz := hB.inv.size
         have hcopy : f14_1 p = some (p.desks,p.sounding.l,p.takes) := by
          unfold f14_1 f40
          rw [f39_eq p.desks (by have := hB.inv.desks; omega),f38_eq p.takes (by omega),f82_eq p.sounding.l (by omega)]
          rfl
         refine bind_get ((congrArg f14_1 (mkP hB.pe)).trans hcopy) ?_
         refine bind_get ((congrArg (fun z => f15 z _) (mkP hB.pe)).trans ((congrArg (f15 p) (mkR hB.qe)).trans (same_rel hB.rel hB.inv (by omega)))) ?_
         obtain ⟨u1,u2,u3,u4,u5⟩ := step_b hB.inv (by omega)
         refine bind_get ((congrArg f17 (mkP hB.pe)).trans (f17_eq p hroom)) ?_
         have hm : (⟨(⟨(stepS p).2.2.clock.ticks⟩ : GCClock),(stepS p).2.2.now,E,(stepS p).2.2.waiting,(stepS p).2.2.desks,p.from_,p.to_,(stepS p).2.2.times,(⟨(stepS p).2.2.sounding.l⟩ : GCShelf_live),(stepS p).2.2.takes⟩ : GCPlayer) = (stepS p).2.2 := by
          rw [← u3,← u4]; exact mkP (u2.trans hB.pe)
         refine bind_get ((congrArg (fun z => f19 z 0) hm).trans (f15_b u1 (by omega) 0)) ?_
         exact ⟨_,rfl,p,q,e,noFrame,rfl,hB1,by simp [noFrame,Small],by simp [noFrame,Small]⟩
        | false =>
         simp only [cond_false]
         exact ⟨_,rfl,p,q,e,noFrame,rfl,hB1,by simp [noFrame,Small],by simp [noFrame,Small]⟩
   ·rintro _ ⟨p',q',e',fr,rfl,hB',hf1,hf2⟩
    have d1 : decide (e' ≠ e') = false := by simp
    have hs2 : f15 (⟨(⟨p'.clock.ticks⟩ : GCClock),p'.now,E,p'.waiting,p'.desks,p'.from_,p'.to_,p'.times,(⟨p'.sounding.l⟩ : GCShelf_live),p'.takes⟩ : GCPlayer) (⟨q'.notes,E,q'.now,q'.clock,q'.waiting,q'.silent,q'.since,q'.from_,q'.to_,q'.times,q'.takes⟩ : GRef09Player) = some true := by
     rw [mkP hB'.pe,mkR hB'.qe]; exact same_rel hB'.rel hB'.inv (by omega)
    have hchk : ((bif (decide (e' ≠ e')) then (some true) else ((f25 fr fr).bind fun r50 => bif (!r50) then (some true) else ((f15 (⟨(⟨p'.clock.ticks⟩ : GCClock),p'.now,E,p'.waiting,p'.desks,p'.from_,p'.to_,p'.times,(⟨p'.sounding.l⟩ : GCShelf_live),p'.takes⟩ : GCPlayer) (⟨q'.notes,E,q'.now,q'.clock,q'.waiting,q'.silent,q'.since,q'.from_,q'.to_,q'.times,q'.takes⟩ : GRef09Player)).bind fun r52 => some (!r52)))) : Option Bool) = some false := by
     rw [d1,f25_refl fr hf1 hf2,hs2]; rfl
    refine bind_get hchk ?_
    refine ⟨_,rfl,_,rfl,p',q',e',?_,hB'⟩
    exact congrArg (stI p' q' e' e') (wrLen hcs hg)
  ·rintro s ⟨p,q,e,rfl,hB⟩
   refine ⟨.inl (),?_,rfl⟩
   have hm : min calls.length 60 = calls.length ∨ (min calls.length 60 = 60 ∧ 60 < calls.length) := by omega
   generalize min calls.length 60 = m at hm hB
   have hend : (bif decide ((m : Int) < (calls.length : Int)) then (some (decide ((m : Int) < 60)) : Option Bool) else some false) = some false := by
    rcases hm with h1 | ⟨h1,h2⟩
    ·have d : decide ((m : Int) < (calls.length : Int)) = false := decide_eq_false (by omega)
     rw [d]; rfl
    ·have d : decide ((m : Int) < (calls.length : Int)) = true := decide_eq_true (by omega)
     have d2 : decide ((m : Int) < 60) = false := decide_eq_false (by omega)
     rw [d,d2]; rfl
   exact Eq.trans (congrArg (fun o => Option.bind o _) hend) rfl
end Go.Proofs.YtjjendjmakhfaaaGreat
