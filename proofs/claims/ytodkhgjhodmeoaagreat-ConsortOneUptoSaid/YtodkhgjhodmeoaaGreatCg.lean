/-
 Plain laws of ConsortChecks,part g: the copies; the law of Pad; the whole law.
 Own work. No Go text.
-/
import Derived.Test.YtodkhgjhodmeoaaGreatCf
import Derived.Test.YtodkhgjhodmeoaaGreatV4
set_option linter.all false
namespace Go.Proofs.YtodkhgjhodmeoaaGreat
open Go Go.Am
theorem clone_c {α : Type} [DecidableEq α] (l : List α) (h : Small l) : ((bif (decide (l = [])) then (some ([] : List α)) else (need (l.length ≤ maxElems) <| some l)) : Option (List α)) = some l := by
 simp only [Small] at h
 by_cases h0 : l = []
 ·subst h0; rfl
 ·have hm : l.length ≤ maxElems := by unfold maxElems; omega
  rw [decide_eq_false h0]
  simp only [cond_false,need,if_pos hm]
structure SmallQ (p : GPiece) : Prop where
 q : SmallP p
 c : Small p.instrument.courses
 s : Small p.instrument.steps
theorem event_eta (e : GEvent) : (⟨e.bar,e.sign,e.tie,e.stops⟩ : GEvent) = e := rfl
theorem prog_copied (p : GPiece) (hp : SmallQ p) : f82 p = some (p.instrument.courses,p.instrument.steps,p.events) := by
 unfold f82 f131 f132 f133
 rw [clone_c _ hp.c,clone_c _ hp.s,clone_c _ hp.q.1]
 simp only [Option.bind_some]
 rw [loop_fold (fun (_ : Unit) i => (p.events,i)) (fun _ _ (e : GEvent) => (.inl () : Unit ⊕ List GEvent)) (fun _ => p.events) p.events (fun _ _ => True) () (small_fuel hp.q.1) trivial]
 ·rw [foldE_inl (fun _ _ => ())]; rfl
 ·intro i _ e he _
  refine ⟨?_,fun _ _ => trivial⟩
  have hil := (List.getElem?_eq_some_iff.1 he).1
  have hset : p.events.set i e = p.events := by
   apply List.ext_getElem?
   intro j
   rw [List.getElem?_set]
   by_cases hj : i = j
   ·subst hj; rw [if_pos rfl,if_pos hil,he]
   ·rw [if_neg hj]
  simp only [dltLen he,cond_true,ixNat he,Option.bind_some,f134,clone_c _ (hp.q.2 e (List.mem_of_getElem? he)),Int.toNat_natCast,event_eta,hset,wrLen hp.q.1 he]
  rfl
 ·intro _ _; simp
def padP (p : GPiece) (g : List GSign) : GPiece := ⟨p.instrument,p.events ++ g.map fun s => ⟨false,s,false,[]⟩⟩
theorem greedy_len : ∀ (v n : Nat),(greedy v n).length ≤ v
 | 0,n => by simp [greedy]
 | v + 1,n => by
  simp only [greedy]
  cases pick n with
  | none => simp
  | some y => have := greedy_len v (n - tk y); simp; omega
theorem signs_len (a : Int) : (signsS a).1.length ≤ 4608 := by
 unfold signsS
 by_cases h : a < 0 ∨ 4608 < a
 ·rw [if_pos h]; simp
 ·rw [if_neg h]
  unfold signsR
  by_cases hv : V a.toNat < 0
  ·rw [if_pos hv]; simp
  ·rw [if_neg hv]
   have h1 := greedy_len (V a.toNat).toNat a.toNat
   have h2 := V_le a.toNat
   simp only
   omega
theorem pad_events {body : List GEvent × Int → Option ((List GEvent × Int) ⊕ List GEvent)} (l : List GEvent) (g : List GSign) (hl : Small l) (hg : g.length ≤ 4608)
  (hb : ∀ (a : List GEvent) (i : Nat) s,g[i]? = some s → a.length + 1 ≤ maxElems → body (a,(i : Int)) = some (.inl (a ++ [⟨false,s,false,[]⟩],wr ((i : Int) + 1)))) (he : ∀ a,body (a,(g.length : Int)) = some (.inr a)) :
  loopN body FUEL (l,0) = some (l ++ g.map fun s => ⟨false,s,false,[]⟩) := by
 have hs : Small g := by simp only [Small]; omega
 simp only [Small] at hl
 rw [loop_fold (body := body) (fun (a : List GEvent) i => (a,i)) (fun _ a (s : GSign) => (.inl (a ++ [⟨false,s,false,[]⟩]) : List GEvent ⊕ List GEvent)) (fun a => a) g (fun i a => a.length = l.length + i) l (small_fuel hs) rfl]
 ·rw [foldE_inl (fun (a : List GEvent) (s : GSign) => a ++ [(⟨false,s,false,[]⟩ : GEvent)])]
  have : ∀ (g : List GSign) (a : List GEvent),g.foldl (fun (a : List GEvent) (s : GSign) => a ++ [(⟨false,s,false,[]⟩ : GEvent)]) a = a ++ g.map fun s => ⟨false,s,false,[]⟩ := by
   intro g
   induction g with
   | nil => intro a; simp
   | cons e r ih => intro a; rw [List.foldl_cons,ih]; simp
  rw [this]
 ·intro i a s hgi ha
  have hil := (List.getElem?_eq_some_iff.1 hgi).1
  constructor
  ·rw [hb a i s hgi (by unfold maxElems; omega),wrLen hs hgi]; rfl
  ·intro a' hh; cases hh; simp [ha]; omega
 ·intro a _; exact he a
def padStep (m : Int) (_ : Nat) (a : List GPiece) (p : GPiece) : List GPiece ⊕ (List GPiece ⊕ (GConsort × Int)) :=
 if (signsS (wr (m - endP p))).2 ≠ 0 then .inr (.inr (⟨[]⟩,25)) else bif decide (400 < wr ((p.events.length : Int) + ((signsS (wr (m - endP p))).1.length : Int))) then .inr (.inr (⟨[]⟩,2)) else .inl (a ++ [padP p (signsS (wr (m - endP p))).1])
def padOut (x : List GPiece ⊕ (GConsort × Int)) : GConsort × Int := Sum.elim (fun l => (⟨l⟩,0)) id x
def maxE (l : List GPiece) : Int := match l.map endP with
 | [] => 0
 | x :: r => r.foldl maxI x
def padS (l : List GPiece) : GConsort × Int := if (bandS l).2 ≠ 0 then (⟨[]⟩,(bandS l).2) else padOut (foldE (padStep (maxE l)) (fun a => .inl a) 0 l [])
theorem pad_out (x : List GPiece ⊕ (GConsort × Int)) : Sum.elim (fun l => some ((⟨l⟩ : GConsort),(0 : Int))) some x = some (padOut x) := by cases x <;> rfl
theorem valid_q {p : GPiece} (hp : SmallP p) (h : pieceS p = 0) : SmallQ p := by
 have h1 := instS_ok (pieceS_ok h).1
 exact ⟨hp,by simp only [Small]; omega,by simp only [Small]; omega⟩
theorem prog_pad (l : List GPiece) (hs : SizeC l) : f32 l = some (padS l) := by
 unfold f32 padS
 rw [prog_band l hs]
 simp only [Option.bind_some]
 by_cases h : (bandS l).2 = 0
 ·have d : decide ((bandS l).2 ≠ 0) = false := by simp [h]
  obtain ⟨h1,h2,h3,h4⟩ := band_ok h
  obtain ⟨x,r,hx⟩ := ends_cons h1
  have hsm : Small (x :: r) := by
   have : (x :: r).length = l.length := by rw [← hx]; simp
   simp only [Small]; omega
  have hmx : f80 (l.map endP) = some (maxE l) := by unfold maxE; rw [hx]; exact max_eq x r hsm
  rw [d,if_neg (by simp [h]),h3,hmx]
  simp only [cond_false,Option.bind_some]
  rw [loop_fold (fun (a : List GPiece) i => (a,i)) (padStep (maxE l)) (fun a => .inl a) l (fun i a => a.length = i) [] (small_fuel hs.1) rfl]
  ·simp only [Option.bind_some]; exact pad_out _
  ·intro i a p hp ha
   have hil := (List.getElem?_eq_some_iff.1 hp).1
   have hpm := List.mem_of_getElem? hp
   have hq := valid_q (hs.2 p hpm) (h4 p hpm)
   have hen : (l.map endP)[i]? = some (endP p) := by rw [List.getElem?_map,hp]; rfl
   have hm : a.length + 1 ≤ maxElems := by unfold maxElems; omega
   constructor
   ·simp only [dltLen hp,cond_true,ixNat hp,ixNat hen,Option.bind_some,prog_signs]
    unfold padStep
    by_cases hz : (signsS (wr (maxE l - endP p))).2 = 0
    ·have dz : decide ((signsS (wr (maxE l - endP p))).2 ≠ 0) = false := by simp [hz]
     rw [dz,if_neg (by simp [hz])]
     simp only [cond_false]
     cases decide (400 < wr ((p.events.length : Int) + ((signsS (wr (maxE l - endP p))).1.length : Int))) with
     | true => rfl
     | false =>
      simp only [cond_false,prog_copied p hq,Option.bind_some]
      rw [pad_events p.events (signsS (wr (maxE l - endP p))).1 hq.q.1 (signs_len _) (fun a i s hgi hm => by simp only [dltLen hgi,cond_true,ixNat hgi,Option.bind_some,need,if_pos hm]) (fun a => by simp)]
      simp only [Option.bind_some,need,if_pos hm]
      rw [wrLen hs.1 hp]; rfl
    ·have dz : decide ((signsS (wr (maxE l - endP p))).2 ≠ 0) = true := by simpa using hz
     rw [dz,if_pos hz]; rfl
   ·intro a' hh
    unfold padStep at hh
    by_cases hz : (signsS (wr (maxE l - endP p))).2 = 0
    ·rw [if_neg (by simp [hz])] at hh
     cases hd : decide (400 < wr ((p.events.length : Int) + ((signsS (wr (maxE l - endP p))).1.length : Int))) with
     | true => rw [hd] at hh; cases hh
     | false => rw [hd] at hh; cases hh; simp [ha]
    ·rw [if_pos hz] at hh; cases hh
  ·intro a _; simp
 ·have d : decide ((bandS l).2 ≠ 0) = true := by simpa using h
  rw [d,if_pos h]; rfl
theorem course_refl (x : GCourse) : eq_GCourse x x = true := by simp [eq_GCourse]
theorem sign_refl (x : GSign) : eq_GSign x x = true := by simp [eq_GSign]
theorem stop_refl (x : GStop) : eq_GStop x x = true := by simp [eq_GStop]
theorem neN {a : Int} : decide (a ≠ a) = false := by simp
theorem same_inst (a : GInstrument) (hc : Small a.courses) (hs : Small a.steps) : f137 a a = some true := by
 unfold f137
 simp only [neN,cond_false,Option.bind_some]
 rw [loop_none a.courses hc (fun i y hy => by simp only [dltLen hy,cond_true,ixNat hy,Option.bind_some,course_refl,Bool.not_true,cond_false]) (by simp)]
 simp only [Option.bind_some,Sum.elim_inl]
 rw [loop_none a.steps hs (fun i y hy => by simp only [dltLen hy,cond_true,ixNat hy,Option.bind_some,neN,cond_false]) (by simp)]
 rfl
theorem same_event (e : GEvent) (h : Small e.stops) : f138 e e = some true := by
 unfold f138
 have b1 : ∀ b : Bool,(b == b) = true := by decide
 simp only [b1,sign_refl,Bool.not_true,neN,cond_false,Option.bind_some]
 rw [loop_none e.stops h (fun i y hy => by simp only [dltLen hy,cond_true,ixNat hy,Option.bind_some,stop_refl,Bool.not_true,cond_false]) (by simp)]
 rfl
theorem same_piece (p : GPiece) (h : SmallQ p) : f85 p p = some true := by
 unfold f85
 rw [same_inst p.instrument h.c h.s]
 simp only [Option.bind_some,Bool.not_true,cond_false,neN]
 rw [loop_none p.events h.q.1 (fun i y hy => by simp only [dltLen hy,cond_true,ixNat hy,Option.bind_some,same_event y (h.q.2 y (List.mem_of_getElem? hy)),Bool.not_true,cond_false]) (by simp)]
 rfl
theorem same_consort (c : GConsort) (hs : Small c.pieces) (h : ∀ p ∈ c.pieces,SmallQ p) : f34 c c = some true := by
 unfold f34
 simp only [neN,cond_false]
 rw [loop_none c.pieces hs (fun i y hy => by simp only [dltLen hy,cond_true,ixNat hy,Option.bind_some,same_piece y (h y (List.mem_of_getElem? hy)),Bool.not_true,cond_false]) (by simp)]
 rfl
def bigS (l : List GPiece) : Bool := l.any (fun p => decide (60 < p.events.length) && decide (p.events.length ≤ 400)) || decide (8 < l.length)
theorem f9_eq (l : List GPiece) (hs : Small l) : f9 l = some (bigS l) := by
 unfold f9 bigS
 rw [loop_find l (fun p => decide (60 < p.events.length) && decide (p.events.length ≤ 400)) (fun _ _ => true) hs]
 ·have e8 : decide (8 < (l.length : Int)) = decide (8 < l.length) := dltN 8 _
  simp only [Option.bind_some,findS_any,e8]
  cases l.any _ <;> rfl
 ·intro i p hp
  have e1 : decide (60 < (p.events.length : Int)) = decide (60 < p.events.length) := dltN 60 _
  have e2 : decide ((p.events.length : Int) ≤ 400) = decide (p.events.length ≤ 400) := by
   by_cases h : p.events.length ≤ 400
   ·have : (p.events.length : Int) ≤ 400 := by omega
    simp [h,this]
   ·have : ¬ (p.events.length : Int) ≤ 400 := by omega
    simp [h,this]
  simp only [dltLen hp,cond_true,ixNat hp,Option.bind_some,andP,e1,e2]
  cases (decide (60 < p.events.length) && decide (p.events.length ≤ 400)) <;> rfl
 ·simp
end Go.Proofs.YtodkhgjhodmeoaaGreat
