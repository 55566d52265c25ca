/-
 The player against the reference's,part e: a step,a seek,a repeat,a mute.
 Own work. No Go text.
-/
import Derived.Test.YtjjendjmakhfaaaGreatQd
set_option linter.all false
namespace Go.Proofs.YtjjendjmakhfaaaGreat
open Go Go.Am
def sameNotes (ds es : List GCDesk) : Prop := es.map (·.notes) = ds.map (·.notes)
theorem pairs_same : ∀ {ds es : List GCDesk} {i : Nat},sameNotes ds es → pairsI i es = pairsI i ds
 | [],[],_,_ => rfl
 | [],_ :: _,_,h => by simp [sameNotes] at h
 | _ :: _,[],_,h => by simp [sameNotes] at h
 | d :: r,e :: s,i,h => by
  simp only [sameNotes,List.map_cons,List.cons.injEq] at h
  simp only [pairsI,h.1,pairs_same (ds := r) (es := s) (i := i + 1) h.2]
theorem same_mem {ds es : List GCDesk} (h : sameNotes ds es) {e : GCDesk} (he : e ∈ es) : ∃ d ∈ ds,d.notes = e.notes := by
 have : e.notes ∈ es.map (·.notes) := List.mem_map.2 ⟨e,he,rfl⟩
 rw [h] at this
 obtain ⟨d,hd,hn⟩ := List.mem_map.1 this
 exact ⟨d,hd,hn⟩
theorem same_crs {ds es : List GCDesk} (h : sameNotes ds es) (hc : CrsD ds) : CrsD es := fun e he n hn => by
 obtain ⟨d,hd,e1⟩ := same_mem h he
 exact hc d hd n (by rw [e1]; exact hn)
theorem same_ord {ds es : List GCDesk} (h : sameNotes ds es) (hc : OrdD ds) : OrdD es := fun e he => by
 obtain ⟨d,hd,e1⟩ := same_mem h he
 rw [← e1]; exact hc d hd
theorem same_move (ds : List GCDesk) (t : Int) : sameNotes ds (moveS ds t) := by unfold sameNotes moveS; rw [List.map_map]; rfl
theorem same_refl (ds : List GCDesk) : sameNotes ds ds := rfl
theorem same_set {ds : List GCDesk} {i : Nat} {d e : GCDesk} (hd : ds[i]? = some d) (he : e.notes = d.notes) : sameNotes ds (ds.set i e) := by
 unfold sameNotes
 rw [List.map_set,he]
 refine List.ext_getElem? fun j => ?_
 rw [List.getElem?_set]
 split
 ·rename_i h; subst h
  rw [List.getElem?_map,hd]
  split
  ·rfl
  ·rename_i h; exact absurd (by rw [List.length_map]; exact (List.getElem?_eq_some_iff.1 hd).1) h
 ·rfl
structure NotesD (ds : List GCDesk) : Prop where
 crs : CrsD ds
 ord : OrdD ds
theorem NotesD.same {ds es : List GCDesk} (h : NotesD ds) (hs : sameNotes ds es) : NotesD es := ⟨same_crs hs h.crs,same_ord hs h.ord⟩
theorem f57_eq (q : GRef09Player) (t : Int) (h : q.since.length ≤ 6) : f57 q t = some (q.since.map fun _ => t) := by
 unfold f57
 rw [loop_all (fun k => ((q.since.take k).map (fun _ => t) ++ q.since.drop k,(k : Int))) q.since.length (by omega) (by simp) (r := q.since.map fun _ => t)]
 ·rfl
 ·intro k hk
  have hg : q.since[k]? = some q.since[k] := List.getElem?_eq_getElem hk
  generalize q.since[k] = m at hg
  have htk : (q.since.take k).length = k := by rw [List.length_take]; omega
  have hdr : q.since.drop k = m :: q.since.drop (k + 1) := by
   rw [List.drop_eq_getElem_cons hk]
   congr 1
   have := List.getElem?_eq_getElem (l := q.since) (i := k) hk
   rw [hg] at this
   exact (Option.some.inj this).symm
  have hdk : decide ((k : Int) < (((q.since.take k).map (fun _ => t) ++ q.since.drop k).length : Int)) = true := decide_eq_true (by rw [List.length_append,List.length_map,List.length_take,List.length_drop]; omega)
  have hix : ix ((q.since.take k).map (fun _ => t) ++ q.since.drop k) (k : Int) = some m := ixAt (by rw [hdr]) (by rw [List.length_map,htk])
  simp only [hdk,cond_true,hix,Option.bind_some]
  rw [hdr,setAt rfl (by rw [List.length_map,htk]; rfl),take_snoc hg,wrNat (by omega)]
  simp only [List.map_append,List.map_cons,List.map_nil,List.append_assoc,List.cons_append,List.nil_append]
 ·have hd2 : decide ((q.since.length : Int) < (((q.since.take q.since.length).map (fun _ => t) ++ q.since.drop q.since.length).length : Int)) = false := by
   apply decide_eq_false
   rw [List.length_append,List.length_map,List.length_take,List.length_drop]; omega
  simp only [hd2,cond_false]
  rw [List.take_length,List.drop_length,List.append_nil]
theorem pr_all (y : GCLive) : prY (-1) (-1) y = true := by simp [prY]
theorem fil_all (l : List GCLive) : l.filter (prY (-1) (-1)) = l := List.filter_eq_self.2 fun y _ => pr_all y
theorem fil_none (l : List GCLive) : (l.filter fun y => !prY (-1) (-1) y) = [] := List.filter_eq_nil_iff.2 fun y _ => by rw [pr_all]; simp
theorem move_since (ds : List GCDesk) (t : Int) : (moveS ds t).map (·.since) = (ds.map (·.since)).map fun _ => t := by unfold moveS; rw [List.map_map,List.map_map]; rfl
theorem move_silent (ds : List GCDesk) (t : Int) : (moveS ds t).map (·.silent) = ds.map (·.silent) := by unfold moveS; rw [List.map_map]; rfl
theorem stop_call {p : GCPlayer} {q : GRef09Player} {k : Nat} (h : RelP p q) (hb : BInv k p) (hc : CrsD p.desks) (hk : k ≤ 90) (of at_ t : Int) (en now : Int) (w : Bool) (sl : List Bool) (si : List Int) (fr to ti : Int) (hsl : sl.length = q.silent.length) :
  ∃ ms,f56 ⟨q.notes,en,now,t,w,sl,si,fr,to,ti,q.takes⟩ of at_ = some ((p.sounding.l.filter (prY of at_)).map voiceS,ms,p.takes ++ (p.sounding.l.filter (prY of at_)).map (takeS t)) ∧ NotesR (p.sounding.l.filter fun y => !prY of at_ y) (pairsI 0 p.desks) ms := by
 obtain ⟨ms,h1,h2⟩ := stop_rel h hb hc hk of at_ t
 have hn := notes_few h hb
 have hsz := hb.size
 have hsl2 : q.silent.length ≤ 6 := by rw [h.silent,List.length_map]; exact hb.desks
 refine ⟨ms,?_,h2⟩
 rw [f56_eq ⟨q.notes,en,now,t,w,sl,si,fr,to,ti,q.takes⟩ of at_ hn (by show sl.length ≤ 6; omega) (by show q.takes.length ≤ _; rw [h.takes]; omega)]
 show some ((stopA t of at_ sl.length (q.notes,q.takes,[])).2.2,(stopA t of at_ sl.length (q.notes,q.takes,[])).1,(stopA t of at_ sl.length (q.notes,q.takes,[])).2.1) = _
 rw [hsl,h1]
theorem step_rel {p : GCPlayer} {q : GRef09Player} {k : Nat} (h : RelP p q) (hb : BInv k p) (hk : k ≤ 90) (hd : NotesD p.desks) :
  ∃ ms n c w s ti tk,f18 q = some ((stepS p).1,(stepS p).2.1,ms,n,c,w,s,ti,tk) ∧ RelP (stepS p).2.2 ⟨ms,q.end_,n,c,w,q.silent,s,q.from_,q.to_,ti,tk⟩ := by
 obtain ⟨n1,n2,n3⟩ := hb.now
 have hnq := notes_few h hb
 have hpl : (pairsI 0 p.desks).length ≤ 6000 := by rw [← h.notes.len]; exact hnq
 have hss : q.since.length ≤ 6 := by rw [h.since,List.length_map]; exact hb.desks
 unfold f18 stepS
 rw [next_rel h hb.live (by simp only [Small]; omega)]
 cases hdn : doneS p with
 | true => exact ⟨q.notes,q.now,q.clock,q.waiting,q.since,q.times,q.takes,rfl,h⟩
 | false =>
  have e0 : decide ((0 : Int) ≠ 0) = false := rfl
  simp only [Option.bind_some,cond_false,e0]
  rw [h.waiting]
  cases hw : p.waiting with
  | true =>
   simp only [cond_true]
   have hr : RelP ⟨p.clock,p.now,p.end_,false,p.desks,p.from_,p.to_,p.times,p.sounding,p.takes⟩ ⟨q.notes,q.end_,q.now,q.clock,false,q.silent,q.since,q.from_,q.to_,q.times,q.takes⟩ := ⟨h.end_,h.now,h.clock,rfl,h.fr,h.to,h.times,h.takes,h.silent,h.since,h.notes⟩
   obtain ⟨ms,g1,g2⟩ := start_rel hr hnq hd.ord (fun y hy => by have hy : y ∈ p.sounding.l := hy; rw [hb.waits hw] at hy; cases hy)
   rw [g1]
   simp only [Option.bind_some]
   refine ⟨ms,_,_,_,_,_,_,by rw [h.now],?_⟩
   exact ⟨h.end_,rfl,h.clock,rfl,h.fr,h.to,h.times,h.takes,h.silent,h.since,g2⟩
  | false =>
   have hnx : nextS p = nextT p := by unfold nextS; rw [hw]; rfl
   have hlt : p.now < p.end_ := by
    unfold doneS at hdn
    rw [hw] at hdn
    simp only [Bool.not_false,Bool.true_and,decide_eq_false_iff_not] at hdn
    omega
   obtain ⟨t1,t2⟩ := next_gt hlt
   simp only [cond_false,hnx,h.times,h.to,h.clock,h.now]
   rw [andE]
   simp only [Option.bind_some]
   cases hj : (decide (0 < p.times) && decide (nextT p = p.to_)) with
   | true =>
    simp only [cond_true]
    obtain ⟨ms,s1,s2⟩ := stop_call h hb hd.crs hk (-1) (-1) (wr (p.clock.ticks + wr (nextT p - p.now))) q.end_ p.now false q.silent q.since q.from_ p.to_ p.times rfl
    rw [fil_all] at s1
    rw [fil_none] at s2
    rw [s1]
    simp only [Option.bind_some]
    rw [f57_eq _ _ (by exact hss)]
    simp only [Option.bind_some]
    have hr : RelP ⟨⟨wr (p.clock.ticks + wr (nextT p - p.now))⟩,p.from_,p.end_,false,moveS p.desks p.from_,p.from_,p.to_,wr (p.times - 1),⟨[]⟩,p.takes ++ p.sounding.l.map (takeS (wr (p.clock.ticks + wr (nextT p - p.now))))⟩
      ⟨ms,q.end_,q.from_,wr (p.clock.ticks + wr (nextT p - p.now)),false,q.silent,q.since.map fun _ => q.from_,q.from_,p.to_,wr (p.times - 1),p.takes ++ p.sounding.l.map (takeS (wr (p.clock.ticks + wr (nextT p - p.now))))⟩ :=
     ⟨h.end_,h.fr,rfl,rfl,h.fr,rfl,rfl,rfl,by rw [move_silent]; exact h.silent,by rw [move_since,h.since,h.fr],by rw [pairs_same (same_move p.desks p.from_)]; exact s2⟩
    obtain ⟨ms2,g1,g2⟩ := start_rel hr (by show ms.length ≤ 6000; rw [s2.len]; exact hpl) (same_ord (same_move _ _) hd.ord) (fun y hy => by cases hy)
    rw [g1]
    simp only [Option.bind_some]
    refine ⟨ms2,_,_,_,_,_,_,by rw [h.fr],?_⟩
    exact ⟨h.end_,rfl,rfl,rfl,h.fr,rfl,rfl,rfl,by rw [show (begunS _).desks = moveS p.desks p.from_ from rfl,move_silent]; exact h.silent,by rw [show (begunS _).desks = moveS p.desks p.from_ from rfl,move_since,h.since],g2⟩
   | false =>
    simp only [cond_false]
    obtain ⟨ms,s1,s2⟩ := stop_call h hb hd.crs hk (-1) (nextT p) (wr (p.clock.ticks + wr (nextT p - p.now))) q.end_ (nextT p) false q.silent q.since q.from_ p.to_ p.times rfl
    have hpr : prY (-1) (nextT p) = atS (nextT p) := by
     funext y
     unfold prY atS
     have d1 : decide (nextT p < 0) = false := decide_eq_false (by omega)
     rw [d1,Bool.eq_iff_iff]
     simp only [Bool.and_eq_true,Bool.or_eq_true,decide_eq_true_eq,Bool.false_or,Bool.false_eq_true,false_or]
     constructor
     ·rintro ⟨_,e⟩; exact e.symm
     ·intro e; exact ⟨.inl (by omega),e.symm⟩
    rw [hpr] at s1 s2
    rw [s1]
    simp only [Option.bind_some]
    have hr : RelP ⟨⟨wr (p.clock.ticks + wr (nextT p - p.now))⟩,nextT p,p.end_,false,p.desks,p.from_,p.to_,p.times,⟨p.sounding.l.filter fun x => !atS (nextT p) x⟩,p.takes ++ (p.sounding.l.filter (atS (nextT p))).map (takeS (wr (p.clock.ticks + wr (nextT p - p.now))))⟩
      ⟨ms,q.end_,nextT p,wr (p.clock.ticks + wr (nextT p - p.now)),false,q.silent,q.since,q.from_,p.to_,p.times,p.takes ++ (p.sounding.l.filter (atS (nextT p))).map (takeS (wr (p.clock.ticks + wr (nextT p - p.now))))⟩ :=
     ⟨h.end_,rfl,rfl,rfl,h.fr,rfl,rfl,rfl,h.silent,h.since,s2⟩
    obtain ⟨ms2,g1,g2⟩ := start_rel hr (by show ms.length ≤ 6000; rw [s2.len]; exact hpl) hd.ord (fun y hy => by
     obtain ⟨hy1,hy2⟩ := List.mem_filter.1 hy
     obtain ⟨i,d,a1,a2,a3,a4,a5⟩ := hb.live y hy1
     show _ < nextT p
     omega)
    rw [g1]
    simp only [Option.bind_some]
    refine ⟨ms2,_,_,_,_,_,_,rfl,?_⟩
    exact ⟨h.end_,rfl,rfl,rfl,h.fr,rfl,rfl,rfl,h.silent,h.since,g2⟩
theorem seek_rel {p : GCPlayer} {q : GRef09Player} {k : Nat} (h : RelP p q) (hb : BInv k p) (hk : k ≤ 90) (hd : NotesD p.desks) (t : Int) :
  ∃ ms n w s tk,f20 q t = some ((seekB p t).1,(bif decide (0 ≤ t) && decide (t ≤ p.end_) then (0 : Int) else 1),ms,n,w,s,tk) ∧ RelP (seekB p t).2 ⟨ms,q.end_,n,q.clock,w,q.silent,s,q.from_,q.to_,q.times,tk⟩ := by
 have hss : q.since.length ≤ 6 := by rw [h.since,List.length_map]; exact hb.desks
 have hcond : ((bif (decide (t < 0)) then (some true) else (some (decide (q.end_ < t)))) : Option Bool) = some (!(decide (0 ≤ t) && decide (t ≤ p.end_))) := by
  rw [h.end_]
  by_cases h1 : t < 0
  ·have d1 : decide (t < 0) = true := decide_eq_true h1
   have d2 : decide (0 ≤ t) = false := decide_eq_false (by omega)
   rw [d1,d2]; rfl
  ·have d1 : decide (t < 0) = false := decide_eq_false h1
   have d2 : decide (0 ≤ t) = true := decide_eq_true (by omega)
   rw [d1,d2]
   simp only [cond_false,Bool.true_and]
   congr 1
   by_cases h2 : p.end_ < t
   ·have d3 : decide (t ≤ p.end_) = false := decide_eq_false (by omega)
    rw [decide_eq_true h2,d3]; rfl
   ·have d3 : decide (t ≤ p.end_) = true := decide_eq_true (by omega)
    rw [decide_eq_false h2,d3]; rfl
 unfold f20 seekB
 rw [hcond]
 simp only [Option.bind_some]
 cases hc : (decide (0 ≤ t) && decide (t ≤ p.end_)) with
 | false => exact ⟨q.notes,q.now,q.waiting,q.since,q.takes,rfl,h⟩
 | true =>
  simp only [Bool.not_true,cond_false,cond_true]
  obtain ⟨ms,s1,s2⟩ := stop_call h hb hd.crs hk (-1) (-1) q.clock q.end_ q.now q.waiting q.silent q.since q.from_ q.to_ q.times rfl
  rw [fil_all] at s1
  rw [fil_none] at s2
  have s1 : f56 q (-1) (-1) = _ := s1
  rw [s1]
  simp only [Option.bind_some]
  rw [f57_eq _ _ (by exact hss)]
  simp only [Option.bind_some]
  refine ⟨ms,_,_,_,_,rfl,?_⟩
  exact ⟨h.end_,rfl,h.clock,rfl,h.fr,h.to,h.times,by show _ = p.takes ++ _; rw [h.clock],by rw [show (GCPlayer.desks _) = moveS p.desks t from rfl,move_silent]; exact h.silent,by rw [show (GCPlayer.desks _) = moveS p.desks t from rfl,move_since,h.since],by
   show NotesR [] (pairsI 0 (moveS p.desks t)) ms
   rw [pairs_same (same_move p.desks t)]; exact s2⟩
theorem rep_rel {p : GCPlayer} {q : GRef09Player} (h : RelP p q) (a b t : Int) :
  f22 q a b t = some ((bif decide (0 ≤ a) && (decide (a < b) && (decide (b ≤ p.end_) && (decide (0 ≤ t) && decide (t ≤ 100)))) then (0 : Int) else 1),(repB p a b t).from_,(repB p a b t).to_,(repB p a b t).times) ∧
  RelP (repB p a b t) ⟨q.notes,q.end_,q.now,q.clock,q.waiting,q.silent,q.since,(repB p a b t).from_,(repB p a b t).to_,(repB p a b t).times,q.takes⟩ := by
 have hcond : ((bif (decide (a < 0)) then (some true) else (bif (decide (b ≤ a)) then (some true) else (bif (decide (q.end_ < b)) then (some true) else (bif (decide (t < 0)) then (some true) else (some (decide (100 < t))))))) : Option Bool) = some (!(decide (0 ≤ a) && (decide (a < b) && (decide (b ≤ p.end_) && (decide (0 ≤ t) && decide (t ≤ 100)))))) := by
  rw [h.end_]
  have neg : ∀ {x y : Prop} [Decidable x] [Decidable y],(x ↔ ¬ y) → decide x = !decide y := fun hxy => by
   rw [Bool.eq_iff_iff]; simp [hxy]
  rw [neg (x := a < 0) (y := 0 ≤ a) (by omega),neg (x := b ≤ a) (y := a < b) (by omega),neg (x := p.end_ < b) (y := b ≤ p.end_) (by omega),neg (x := t < 0) (y := 0 ≤ t) (by omega),neg (x := 100 < t) (y := t ≤ 100) (by omega)]
  cases decide (0 ≤ a) <;> cases decide (a < b) <;> cases decide (b ≤ p.end_) <;> cases decide (0 ≤ t) <;> rfl
 unfold f22 repB
 rw [hcond]
 simp only [Option.bind_some]
 cases hc : (decide (0 ≤ a) && (decide (a < b) && (decide (b ≤ p.end_) && (decide (0 ≤ t) && decide (t ≤ 100))))) with
 | false => exact ⟨by simp only [Bool.not_false,cond_true,cond_false,h.fr,h.to,h.times],⟨h.end_,h.now,h.clock,h.waiting,rfl,rfl,rfl,h.takes,h.silent,h.since,h.notes⟩⟩
 | true => exact ⟨rfl,⟨h.end_,h.now,h.clock,h.waiting,rfl,rfl,rfl,h.takes,h.silent,h.since,h.notes⟩⟩
theorem mute_rel {p : GCPlayer} {q : GRef09Player} {k : Nat} (h : RelP p q) (hb : BInv k p) (hk : k ≤ 90) (hd : NotesD p.desks) (i : Int) (s : Bool) :
  ∃ ms sl si tk,f24 q i s = some ((muteB p i s).1,(match ix p.desks i with | none => (1 : Int) | some _ => 0),ms,sl,si,tk) ∧ RelP (muteB p i s).2 ⟨ms,q.end_,q.now,q.clock,q.waiting,sl,si,q.from_,q.to_,q.times,tk⟩ ∧ sameNotes p.desks (muteB p i s).2.desks := by
 have hsl : q.silent.length = p.desks.length := by rw [h.silent,List.length_map]
 have hsi : q.since.length = p.desks.length := by rw [h.since,List.length_map]
 have hd6 := hb.desks
 have hcond : ((bif (decide (i < 0)) then (some true) else (some (decide ((q.silent.length : Int) ≤ i)))) : Option Bool) = some (decide (i < 0) || decide ((p.desks.length : Int) ≤ i)) := by
  rw [hsl]; cases decide (i < 0) <;> rfl
 unfold f24 muteB
 rw [hcond]
 simp only [Option.bind_some]
 cases hx : ix p.desks i with
 | none =>
  have hc : (decide (i < 0) || decide ((p.desks.length : Int) ≤ i)) = true := by
   have := ix_none hx
   simp only [Bool.or_eq_true,decide_eq_true_eq]; omega
  rw [hc]
  exact ⟨q.notes,q.silent,q.since,q.takes,rfl,h,same_refl _⟩
 | some d =>
  obtain ⟨x1,x2,x3,x4⟩ := ix_some hx
  have hl := (List.getElem?_eq_some_iff.1 x3).1
  have hc : (decide (i < 0) || decide ((p.desks.length : Int) ≤ i)) = false := by
   simp only [Bool.or_eq_false_iff,decide_eq_false_iff_not]; omega
  have i1 : ix q.silent i = some d.silent := by
   unfold ix; rw [if_pos x1,h.silent,List.getElem?_map,x3]; rfl
  have i2 : ix q.since i = some d.since := by
   unfold ix; rw [if_pos x1,h.since,List.getElem?_map,x3]; rfl
  rw [hc]
  simp only [cond_false,i1,Option.bind_some]
  cases hsm : (d.silent == s) with
  | true =>
   simp only [cond_true]
   exact ⟨q.notes,q.silent,q.since,q.takes,by rw [h.now],h,same_refl _⟩
  | false =>
   simp only [cond_false]
   cases s with
   | true =>
    simp only [cond_true]
    obtain ⟨ms,s1,s2⟩ := stop_call h hb hd.crs hk i (-1) q.clock q.end_ q.now q.waiting (q.silent.set i.toNat true) q.since q.from_ q.to_ q.times (by rw [List.length_set])
    have hpr : prY i (-1) = ofDesk i := by
     funext y
     unfold prY ofDesk
     have d1 : decide (i < 0) = false := decide_eq_false (by omega)
     rw [d1,Bool.eq_iff_iff]
     simp only [Bool.and_eq_true,Bool.or_eq_true,decide_eq_true_eq,Bool.false_or,Bool.false_eq_true,false_or]
     constructor
     ·rintro ⟨e,_⟩; exact e.symm
     ·intro e; exact ⟨e.symm,.inl (by omega)⟩
    rw [hpr] at s1 s2
    rw [s1]
    simp only [Option.bind_some]
    have hsn : sameNotes p.desks (p.desks.set i.toNat ⟨d.notes,true,d.since⟩) := same_set x3 rfl
    refine ⟨ms,_,_,_,by rw [h.now],?_,hsn⟩
    refine ⟨h.end_,h.now,h.clock,h.waiting,h.fr,h.to,h.times,by show _ = p.takes ++ _; rw [h.clock],?_,?_,?_⟩
    ·show q.silent.set i.toNat true = (p.desks.set i.toNat ⟨d.notes,true,d.since⟩).map (·.silent)
     rw [List.map_set,h.silent]
    ·show q.since = (p.desks.set i.toNat ⟨d.notes,true,d.since⟩).map (·.since)
     rw [List.map_set,h.since]
     refine List.ext_getElem? fun j => ?_
     rw [List.getElem?_set]
     split
     ·rename_i e; subst e
      rw [List.getElem?_map,x3,List.length_map,if_pos hl]; rfl
     ·rfl
    ·show NotesR _ (pairsI 0 (p.desks.set i.toNat ⟨d.notes,true,d.since⟩)) ms
     rw [pairs_same hsn]; exact s2
   | false =>
    have ixs : ∀ (v : Int),ix (q.since.set i.toNat v) i = some v := fun v => by
     unfold ix
     rw [if_pos x1,List.getElem?_set,if_pos rfl,if_pos (by rw [hsi]; exact hl)]
    have hsn : ∀ v,sameNotes p.desks (p.desks.set i.toNat ⟨d.notes,false,v⟩) := fun v => same_set x3 rfl
    simp only [cond_false,i2,Option.bind_some,ixs,List.set_set]
    have fin : ∀ v,RelP ⟨p.clock,p.now,p.end_,p.waiting,p.desks.set i.toNat ⟨d.notes,false,v⟩,p.from_,p.to_,p.times,p.sounding,p.takes⟩ ⟨q.notes,q.end_,q.now,q.clock,q.waiting,q.silent.set i.toNat false,q.since.set i.toNat v,q.from_,q.to_,q.times,q.takes⟩ := fun v => by
     refine ⟨h.end_,h.now,h.clock,h.waiting,h.fr,h.to,h.times,h.takes,?_,?_,?_⟩
     ·show _ = (p.desks.set i.toNat ⟨d.notes,false,v⟩).map (·.silent)
      rw [List.map_set,h.silent]
     ·show _ = (p.desks.set i.toNat ⟨d.notes,false,v⟩).map (·.since)
      rw [List.map_set,h.since]
     ·show NotesR _ (pairsI 0 (p.desks.set i.toNat ⟨d.notes,false,v⟩)) _
      rw [pairs_same (hsn v)]; exact h.notes
    rw [h.waiting]
    have fin2 := fin (bif p.waiting then p.now else wr (p.now + 1))
    rw [h.waiting] at fin2
    cases hw : p.waiting with
    | true =>
     rw [hw] at fin2
     simp only [Bool.not_true,cond_false,Option.bind_some,cond_true] at fin2 ⊢
     exact ⟨_,_,_,_,by rw [h.now],by rw [h.now]; rw [h.now] at fin2; exact fin2,hsn _⟩
    | false =>
     rw [hw] at fin2
     simp only [Bool.not_false,cond_true,cond_false,Option.bind_some] at fin2 ⊢
     exact ⟨_,_,_,_,by rw [h.now],by rw [h.now]; rw [h.now] at fin2; exact fin2,hsn _⟩
end Go.Proofs.YtjjendjmakhfaaaGreat
