/-
 The player against the reference's,part c: what ends.
 Own work. No Go text.
-/
import Derived.Test.YtjjendjmakhfaaaGreatQb
set_option linter.all false
namespace Go.Proofs.YtjjendjmakhfaaaGreat
open Go Go.Am
def stopB (of at_ : Int) (m : GRef09Note) : Bool := m.sounds && ((decide (of < 0) || decide (of = m.voice.desk)) && (decide (at_ < 0) || decide (at_ = m.to_)))
def hitB (of at_ d c : Int) (m : GRef09Note) : Bool := decide (m.voice.desk = d) && (decide (m.voice.course = c) && stopB of at_ m)
def clrN (m : GRef09Note) : GRef09Note := ⟨m.voice,m.from_,m.to_,false,m.began⟩
def tkQ (t : Int) (m : GRef09Note) : GTake := ⟨m.voice.desk,m.voice.course,m.voice.pitch,m.began,t⟩
abbrev NTV := List GRef09Note × List GTake × List GVoice
def stopC (t of at_ d c : Int) (a : NTV) : NTV :=
 (a.1.map (fun m => bif hitB of at_ d c m then clrN m else m),a.2.1 ++ (a.1.filter (hitB of at_ d c)).map (tkQ t),a.2.2 ++ (a.1.filter (hitB of at_ d c)).map (·.voice))
def stopD (t of at_ d : Int) (n : Nat) (a : NTV) : NTV := (List.range n).foldl (fun (a : NTV) (j : Nat) => stopC t of at_ d ((j : Int) + 1) a) a
def stopA (t of at_ : Int) (n : Nat) (a : NTV) : NTV := (List.range n).foldl (fun (a : NTV) (i : Nat) => stopD t of at_ (i : Int) 14 a) a
theorem stopD_succ (t of at_ d : Int) (n : Nat) (a : NTV) : stopD t of at_ d (n + 1) a = stopC t of at_ d ((n : Int) + 1) (stopD t of at_ d n a) := by
 unfold stopD; rw [List.range_succ,List.foldl_append]; rfl
theorem stopA_succ (t of at_ : Int) (n : Nat) (a : NTV) : stopA t of at_ (n + 1) a = stopD t of at_ (n : Int) 14 (stopA t of at_ n a) := by
 unfold stopA; rw [List.range_succ,List.foldl_append]; rfl
theorem stopC_len (t of at_ d c : Int) (a : NTV) : (stopC t of at_ d c a).1.length = a.1.length ∧ (stopC t of at_ d c a).2.1.length ≤ a.2.1.length + a.1.length ∧ (stopC t of at_ d c a).2.2.length ≤ a.2.2.length + a.1.length := by
 have h := List.length_filter_le (hitB of at_ d c) a.1
 refine ⟨by simp only [stopC,List.length_map],?_,?_⟩
 ·simp only [stopC,List.length_append,List.length_map]; exact Nat.add_le_add_left h _
 ·simp only [stopC,List.length_append,List.length_map]; exact Nat.add_le_add_left h _
theorem stopD_len (t of at_ d : Int) (a : NTV) : ∀ n,(stopD t of at_ d n a).1.length = a.1.length ∧ (stopD t of at_ d n a).2.1.length ≤ a.2.1.length + n * a.1.length ∧ (stopD t of at_ d n a).2.2.length ≤ a.2.2.length + n * a.1.length
 | 0 => ⟨rfl,by simp [stopD],by simp [stopD]⟩
 | n + 1 => by
  obtain ⟨h1,h2,h3⟩ := stopD_len t of at_ d a n
  rw [stopD_succ]
  obtain ⟨g1,g2,g3⟩ := stopC_len t of at_ d ((n : Int) + 1) (stopD t of at_ d n a)
  rw [Nat.add_mul]
  omega
theorem stopA_len (t of at_ : Int) (a : NTV) : ∀ n,(stopA t of at_ n a).1.length = a.1.length ∧ (stopA t of at_ n a).2.1.length ≤ a.2.1.length + n * (14 * a.1.length) ∧ (stopA t of at_ n a).2.2.length ≤ a.2.2.length + n * (14 * a.1.length)
 | 0 => ⟨rfl,by simp [stopA],by simp [stopA]⟩
 | n + 1 => by
  obtain ⟨h1,h2,h3⟩ := stopA_len t of at_ a n
  rw [stopA_succ]
  obtain ⟨g1,g2,g3⟩ := stopD_len t of at_ (n : Int) (stopA t of at_ n a) 14
  rw [Nat.add_mul]
  rw [h1] at g1 g2 g3
  omega
theorem hit_cond (of at_ d c : Int) (m : GRef09Note) : (bif decide (m.voice.desk = d) then (bif decide (m.voice.course = c) then (bif m.sounds then (bif decide (of < 0) then (bif decide (at_ < 0) then (some true : Option Bool) else some (decide (at_ = m.to_))) else (bif decide (of = d) then (bif decide (at_ < 0) then some true else some (decide (at_ = m.to_))) else some false)) else some false) else some false) else some false) = some (hitB of at_ d c m) := by
 unfold hitB stopB
 by_cases h1 : m.voice.desk = d
 ·rw [← h1]
  cases decide (m.voice.course = c) <;> cases m.sounds <;> cases decide (of < 0) <;> cases decide (at_ < 0) <;> cases decide (of = m.voice.desk) <;> simp
 ·simp [h1]
theorem f56_eq (q : GRef09Player) (of at_ : Int) (hn : q.notes.length ≤ 6000) (hd : q.silent.length ≤ 6) (ht : q.takes.length ≤ 4000000000) :
  f56 q of at_ = some ((stopA q.clock of at_ q.silent.length (q.notes,q.takes,[])).2.2,(stopA q.clock of at_ q.silent.length (q.notes,q.takes,[])).1,(stopA q.clock of at_ q.silent.length (q.notes,q.takes,[])).2.1) := by
 unfold f56
 rw [loop_all (fun i => ((stopA q.clock of at_ i (q.notes,q.takes,[])).1,(stopA q.clock of at_ i (q.notes,q.takes,[])).2.1,(stopA q.clock of at_ i (q.notes,q.takes,[])).2.2,(i : Int))) q.silent.length (by omega) (by simp [stopA])
  (r := ((stopA q.clock of at_ q.silent.length (q.notes,q.takes,[])).2.2,(stopA q.clock of at_ q.silent.length (q.notes,q.takes,[])).1,(stopA q.clock of at_ q.silent.length (q.notes,q.takes,[])).2.1))]
 ·rfl
 ·intro i hi
  have hdl : decide ((i : Int) < (q.silent.length : Int)) = true := decide_eq_true (by omega)
  obtain ⟨l1,l2,l3⟩ := stopA_len q.clock of at_ (q.notes,q.takes,[]) i
  have hi6 : i ≤ 6 := by omega
  have hm : i * (14 * q.notes.length) ≤ 6 * (14 * 6000) := Nat.mul_le_mul hi6 (Nat.mul_le_mul (Nat.le_refl 14) hn)
  simp only [List.length_nil] at l1 l2 l3
  rw [stopA_succ]
  generalize stopA q.clock of at_ i (q.notes,q.takes,[]) = A at l1 l2 l3
  simp only [hdl,cond_true]
  rw [loop_all (fun j => ((stopD q.clock of at_ (i : Int) j A).1,(stopD q.clock of at_ (i : Int) j A).2.1,(stopD q.clock of at_ (i : Int) j A).2.2,(j : Int) + 1)) 14 (by omega) (by simp [stopD]) (r := stopD q.clock of at_ (i : Int) 14 A)]
  ·simp only [Option.bind_some,wrNat (show i ≤ 4194304 by omega)]
  ·intro j hj
   have hc : decide ((j : Int) + 1 ≤ 14) = true := decide_eq_true (by omega)
   obtain ⟨k1,k2,k3⟩ := stopD_len q.clock of at_ (i : Int) A j
   have hm2 : j * A.1.length ≤ 14 * 6000 := Nat.mul_le_mul (by omega) (by omega)
   rw [stopD_succ]
   generalize stopD q.clock of at_ (i : Int) j A = B at k1 k2 k3
   simp only [hc,cond_true]
   have hbl : B.1.length ≤ 6000 := by omega
   have hs : Small B.1 := by simp only [Small]; omega
   rw [loop_all (fun k => ((B.1.take k).map (fun m => bif hitB of at_ (i : Int) ((j : Int) + 1) m then clrN m else m) ++ B.1.drop k,B.2.1 ++ ((B.1.take k).filter (hitB of at_ (i : Int) ((j : Int) + 1))).map (tkQ q.clock),B.2.2 ++ ((B.1.take k).filter (hitB of at_ (i : Int) ((j : Int) + 1))).map (·.voice),(k : Int))) B.1.length (by omega) (by simp)
    (r := stopC q.clock of at_ (i : Int) ((j : Int) + 1) B)]
   ·simp only [Option.bind_some]
    rw [show wr ((j : Int) + 1 + 1) = ((j + 1 : Nat) : Int) + 1 by rw [wr64 (by omega) (by omega)]; omega]
   ·intro k hk
    have hg : B.1[k]? = some B.1[k] := List.getElem?_eq_getElem hk
    generalize B.1[k] = m at hg
    have htk : (B.1.take k).length = k := by rw [List.length_take]; omega
    have hdr : B.1.drop k = m :: B.1.drop (k + 1) := by
     rw [List.drop_eq_getElem_cons hk]
     congr 1
     have := List.getElem?_eq_getElem (l := B.1) (i := k) hk
     rw [hg] at this
     exact (Option.some.inj this).symm
    generalize hf : (fun m => bif hitB of at_ (i : Int) ((j : Int) + 1) m then clrN m else m) = f
    have hlen : ((B.1.take k).map f ++ B.1.drop k).length = B.1.length := by rw [List.length_append,List.length_map,List.length_take,List.length_drop]; omega
    have hdk : decide ((k : Int) < (((B.1.take k).map f ++ B.1.drop k).length : Int)) = true := decide_eq_true (by rw [hlen]; omega)
    have hix : ix ((B.1.take k).map f ++ B.1.drop k) (k : Int) = some m := ixAt (by rw [hdr]) (by rw [List.length_map,htk])
    have hfl := List.length_filter_le (hitB of at_ (i : Int) ((j : Int) + 1)) (B.1.take k)
    simp only [hdk,cond_true,hix,Option.bind_some]
    rw [hit_cond]
    simp only [Option.bind_some]
    rw [take_snoc hg,List.map_append,List.filter_append,wrLen hs hg]
    cases hh : hitB of at_ (i : Int) ((j : Int) + 1) m with
    | true =>
     have e1 : ((B.1.take k).map f ++ B.1.drop k).set (k : Int).toNat ⟨m.voice,m.from_,m.to_,false,m.began⟩ = (B.1.take k).map f ++ [m].map f ++ B.1.drop (k + 1) := by
      rw [hdr,setAt rfl (by rw [List.length_map,htk]; rfl)]
      subst hf
      simp only [List.map_cons,List.map_nil,hh,cond_true,clrN,List.append_assoc,List.cons_append,List.nil_append]
     simp only [cond_true]
     rw [need_one (by rw [List.length_append,List.length_map]; unfold maxElems; omega),need_one (by rw [List.length_append,List.length_map]; unfold maxElems; omega),e1]
     simp only [Option.bind_some,List.filter_cons,hh,if_true,List.filter_nil,List.map_append,List.map_cons,List.map_nil,List.append_assoc,tkQ]
    | false =>
     have e1 : (B.1.take k).map f ++ B.1.drop k = (B.1.take k).map f ++ [m].map f ++ B.1.drop (k + 1) := by
      rw [hdr]
      subst hf
      simp only [List.map_cons,List.map_nil,hh,cond_false,List.append_assoc,List.cons_append,List.nil_append]
     simp only [cond_false,Option.bind_some,List.filter_cons,hh,Bool.false_eq_true,if_false,List.filter_nil,List.append_nil]
     rw [e1]
   ·have hd2 : decide ((B.1.length : Int) < (((B.1.take B.1.length).map (fun m => bif hitB of at_ (i : Int) ((j : Int) + 1) m then clrN m else m) ++ B.1.drop B.1.length).length : Int)) = false := by
     apply decide_eq_false
     rw [List.length_append,List.length_map,List.length_take,List.length_drop]; omega
    simp only [hd2,cond_false]
    rw [List.take_length,List.drop_length,List.append_nil]
    rfl
  ·have hc : decide (((14 : Nat) : Int) + 1 ≤ 14) = false := by decide
   simp only [hc,cond_false]
 ·have hdl : decide ((q.silent.length : Int) < (q.silent.length : Int)) = false := by simp
  simp only [hdl,cond_false]
def doneN (of at_ : Int) (Pr : Int → Int → Bool) (m : GRef09Note) : GRef09Note := bif Pr m.voice.desk m.voice.course && stopB of at_ m then clrN m else m
theorem stopC_from {t of at_ d c : Int} {Pr : Int → Int → Bool} {ms : List GRef09Note} {tk : List GTake} {out : List GVoice} (hp : Pr d c = false) :
  stopC t of at_ d c (ms.map (doneN of at_ Pr),tk,out) = (ms.map (doneN of at_ fun x y => Pr x y || (decide (x = d) && decide (y = c))),tk ++ (ms.filter (hitB of at_ d c)).map (tkQ t),out ++ (ms.filter (hitB of at_ d c)).map (·.voice)) := by
 have h1 : ∀ m,hitB of at_ d c (doneN of at_ Pr m) = hitB of at_ d c m ∧ (hitB of at_ d c m = true → doneN of at_ Pr m = m) ∧ (bif hitB of at_ d c (doneN of at_ Pr m) then clrN (doneN of at_ Pr m) else doneN of at_ Pr m) = doneN of at_ (fun x y => Pr x y || (decide (x = d) && decide (y = c))) m := by
  intro m
  by_cases hk : m.voice.desk = d ∧ m.voice.course = c
  ·obtain ⟨k1,k2⟩ := hk
   have e : doneN of at_ Pr m = m := by unfold doneN; rw [k1,k2,hp]; rfl
   rw [e]
   refine ⟨rfl,fun _ => rfl,?_⟩
   unfold doneN hitB
   simp only [k1,k2,hp,decide_true,Bool.true_and,Bool.and_self,Bool.false_or]
  ·have e1 : hitB of at_ d c m = false := by
    unfold hitB
    by_cases k1 : m.voice.desk = d
    ·have k2 : ¬ m.voice.course = c := fun k2 => hk ⟨k1,k2⟩
     simp [k2]
    ·simp [k1]
   have e2 : hitB of at_ d c (doneN of at_ Pr m) = false := by
    unfold doneN
    cases Pr m.voice.desk m.voice.course && stopB of at_ m with
    | true => simp [hitB,clrN,stopB]
    | false => exact e1
   have e3 : (decide (m.voice.desk = d) && decide (m.voice.course = c)) = false := by
    by_cases k1 : m.voice.desk = d
    ·have k2 : ¬ m.voice.course = c := fun k2 => hk ⟨k1,k2⟩
     simp [k2]
    ·simp [k1]
   refine ⟨by rw [e1,e2],fun h => (by rw [e1] at h; cases h),?_⟩
   rw [e2,cond_false]
   unfold doneN
   simp only [e3,Bool.or_false]
 have hfil : (ms.map (doneN of at_ Pr)).filter (hitB of at_ d c) = ms.filter (hitB of at_ d c) := by
  induction ms with
  | nil => rfl
  | cons m r ih =>
   simp only [List.map_cons,List.filter_cons,(h1 m).1,ih]
   cases hh : hitB of at_ d c m with
   | true => rw [(h1 m).2.1 hh]
   | false => rfl
 unfold stopC
 simp only [hfil,List.map_map]
 refine Prod.ext ?_ rfl
 exact List.map_congr_left fun m _ => (h1 m).2.2
def outD (of at_ d : Int) (ms : List GRef09Note) (n : Nat) : List GRef09Note := (List.range n).flatMap fun (j : Nat) => ms.filter (hitB of at_ d ((j : Int) + 1))
def outA (of at_ : Int) (ms : List GRef09Note) (n : Nat) : List GRef09Note := (List.range n).flatMap fun (i : Nat) => outD of at_ (i : Int) ms 14
def prD (i : Nat) (j : Nat) (x y : Int) : Bool := (decide (0 ≤ x) && decide (x < (i : Int)) && decide (1 ≤ y) && decide (y ≤ 14)) || (decide (x = (i : Int)) && decide (1 ≤ y) && decide (y ≤ (j : Int)))
theorem done_congr {of at_ : Int} {P Q : Int → Int → Bool} (h : ∀ x y,P x y = Q x y) : doneN of at_ P = doneN of at_ Q := by
 have : P = Q := by funext x y; exact h x y
 rw [this]
theorem stopD_from {t of at_ : Int} {i : Nat} {ms : List GRef09Note} {tk : List GTake} {out : List GVoice} : ∀ j,j ≤ 14 →
  stopD t of at_ (i : Int) j (ms.map (doneN of at_ (prD i 0)),tk,out) = (ms.map (doneN of at_ (prD i j)),tk ++ (outD of at_ (i : Int) ms j).map (tkQ t),out ++ (outD of at_ (i : Int) ms j).map (·.voice))
 | 0,_ => by simp [stopD,outD]
 | j + 1,hj => by
  rw [stopD_succ,stopD_from j (by omega),stopC_from]
  ·have e : ∀ x y,(prD i j x y || (decide (x = (i : Int)) && decide (y = (j : Int) + 1))) = prD i (j + 1) x y := by
    intro x y
    rw [Bool.eq_iff_iff]
    simp only [prD,Bool.or_eq_true,Bool.and_eq_true,decide_eq_true_eq]
    omega
   rw [done_congr e]
   have : outD of at_ (i : Int) ms (j + 1) = outD of at_ (i : Int) ms j ++ ms.filter (hitB of at_ (i : Int) ((j : Int) + 1)) := by
    unfold outD; rw [List.range_succ,List.flatMap_append]; simp
   rw [this]
   simp only [List.map_append,List.append_assoc]
  ·have : ¬ prD i j (i : Int) ((j : Int) + 1) = true := by
    simp only [prD,Bool.or_eq_true,Bool.and_eq_true,decide_eq_true_eq]
    omega
   simpa using this
theorem stopA_from {t of at_ : Int} {ms : List GRef09Note} {tk : List GTake} {out : List GVoice} : ∀ i,
  stopA t of at_ i (ms,tk,out) = (ms.map (doneN of at_ (prD i 0)),tk ++ (outA of at_ ms i).map (tkQ t),out ++ (outA of at_ ms i).map (·.voice))
 | 0 => by
  have e : ∀ m,doneN of at_ (prD 0 0) m = m := by
   intro m
   have : prD 0 0 m.voice.desk m.voice.course = false := by
    have : ¬ prD 0 0 m.voice.desk m.voice.course = true := by
     simp only [prD,Bool.or_eq_true,Bool.and_eq_true,decide_eq_true_eq]
     omega
    simpa using this
   unfold doneN; rw [this]; rfl
  have : ms.map (doneN of at_ (prD 0 0)) = ms := by
   conv => rhs; rw [← List.map_id ms]
   exact List.map_congr_left fun m _ => e m
  rw [this]
  simp [stopA,outA]
 | i + 1 => by
  rw [stopA_succ,stopA_from i,stopD_from 14 (Nat.le_refl _)]
  have e : ∀ x y,prD i 14 x y = prD (i + 1) 0 x y := by
   intro x y
   rw [Bool.eq_iff_iff]
   simp only [prD,Bool.or_eq_true,Bool.and_eq_true,decide_eq_true_eq]
   omega
  rw [done_congr e]
  have : outA of at_ ms (i + 1) = outA of at_ ms i ++ outD of at_ (i : Int) ms 14 := by
   unfold outA; rw [List.range_succ,List.flatMap_append]; simp
  rw [this]
  simp only [List.map_append,List.append_assoc]
def prY (of at_ : Int) (y : GCLive) : Bool := (decide (of < 0) || decide (of = y.desk)) && (decide (at_ < 0) || decide (at_ = y.note.to_))
def CrsD (ds : List GCDesk) : Prop := ∀ d ∈ ds,∀ n ∈ d.notes,1 ≤ n.course ∧ n.course ≤ 14
def vb (m : GRef09Note) : GVoice × Int := (m.voice,m.began)
def vy (y : GCLive) : GVoice × Int := (voiceS y,y.began)
theorem mem_outA {of at_ : Int} {ms : List GRef09Note} {n : Nat} {m : GRef09Note} : m ∈ outA of at_ ms n ↔ m ∈ ms ∧ stopB of at_ m = true ∧ 0 ≤ m.voice.desk ∧ m.voice.desk < (n : Int) ∧ 1 ≤ m.voice.course ∧ m.voice.course ≤ 14 := by
 unfold outA outD
 simp only [List.mem_flatMap,List.mem_range,List.mem_filter,hitB,Bool.and_eq_true,decide_eq_true_eq]
 constructor
 ·rintro ⟨i,hi,j,hj,hm,h1,h2,h3⟩
  exact ⟨hm,h3,by omega,by omega,by omega,by omega⟩
 ·rintro ⟨hm,h3,h1,h2,h4,h5⟩
  exact ⟨m.voice.desk.toNat,by omega,(m.voice.course - 1).toNat,by omega,hm,by omega,by omega,h3⟩
theorem stop_rel {p : GCPlayer} {q : GRef09Player} {k : Nat} (h : RelP p q) (hb : BInv k p) (hc : CrsD p.desks) (hk : k ≤ 90) (of at_ t : Int) :
  ∃ ms,stopA t of at_ q.silent.length (q.notes,q.takes,[]) = (ms,p.takes ++ (p.sounding.l.filter (prY of at_)).map (takeS t),(p.sounding.l.filter (prY of at_)).map voiceS) ∧ NotesR (p.sounding.l.filter fun y => !prY of at_ y) (pairsI 0 p.desks) ms := by
 have hsl : q.silent.length = p.desks.length := by rw [h.silent,List.length_map]
 have rng : ∀ m ∈ q.notes,0 ≤ m.voice.desk ∧ m.voice.desk < (q.silent.length : Int) ∧ 1 ≤ m.voice.course ∧ m.voice.course ≤ 14 := by
  intro m hm
  obtain ⟨x,hx,hr⟩ := h.notes.right hm
  obtain ⟨j,d,h1,h2,h3⟩ := pairs_mem.1 hx
  have hl := (List.getElem?_eq_some_iff.1 h1).1
  have := hc d (List.mem_of_getElem? h1) _ h3
  rw [hr.voice,hsl]
  exact ⟨by simp,by show (x.1 : Int) < _; omega,this⟩
 have pry : ∀ {x : Nat × GNote} {m : GRef09Note} {y : GCLive},NoteR p.sounding.l x m → y.desk = (x.1 : Int) → y.note = x.2 → stopB of at_ m = (m.sounds && prY of at_ y) := by
  intro x m y hr h1 h2
  unfold stopB prY
  rw [hr.voice,hr.to,h1,h2]
 have key : (outA of at_ q.notes q.silent.length).map vb = (p.sounding.l.filter (prY of at_)).map vy := by
  refine srt_ext (R := fun a b : GVoice × Int => ltV a.1 b.1 = true) (fun _ _ _ => ltV_trans) (fun a => ltV_irr a.1) ?_ (List.pairwise_map.2 (List.Pairwise.imp (fun {a b} hab => key_lt hab) (List.Pairwise.filter _ hb.srt))) fun v => ?_
  ·refine List.pairwise_map.2 ?_
   unfold outA outD
   have hcmp := notes_cmp h hb
   refine List.pairwise_flatMap.2 ⟨fun i _ => List.pairwise_flatMap.2 ⟨fun j _ => ?_,?_⟩,?_⟩
   ·refine List.Pairwise.imp_of_mem (fun {a b} ha hb' hab => ?_) (List.Pairwise.filter _ hcmp)
    have h1 := (List.mem_filter.1 ha).2
    have h2 := (List.mem_filter.1 hb').2
    simp only [hitB,stopB,Bool.and_eq_true,decide_eq_true_eq] at h1 h2
    have := hab h1.2.2.1 h2.2.2.1
    rw [ltV_iff,ltV_iff] at this
    omega
   ·refine List.Pairwise.imp (fun {a b} hab x hx y hy => ?_) List.pairwise_lt_range
    have h1 := (List.mem_filter.1 hx).2
    have h2 := (List.mem_filter.1 hy).2
    simp only [hitB,Bool.and_eq_true,decide_eq_true_eq] at h1 h2
    exact ltV_iff.2 (.inr ⟨by show x.voice.desk = y.voice.desk; omega,by show x.voice.course < y.voice.course; omega⟩)
   ·refine List.Pairwise.imp (fun {a b} hab x hx y hy => ?_) List.pairwise_lt_range
    obtain ⟨_,_,hx⟩ := List.mem_flatMap.1 hx
    obtain ⟨_,_,hy⟩ := List.mem_flatMap.1 hy
    have h1 := (List.mem_filter.1 hx).2
    have h2 := (List.mem_filter.1 hy).2
    simp only [hitB,Bool.and_eq_true,decide_eq_true_eq] at h1 h2
    exact ltV_iff.2 (.inl (by show x.voice.desk < y.voice.desk; omega))
  ·simp only [List.mem_map,mem_outA,List.mem_filter]
   constructor
   ·rintro ⟨m,⟨hm,hst,_⟩,rfl⟩
    obtain ⟨x,hx,hr⟩ := h.notes.right hm
    have hsn : m.sounds = true := by unfold stopB at hst; simp only [Bool.and_eq_true] at hst; exact hst.1
    have hs2 := hsn
    rw [hr.snd] at hs2
    obtain ⟨y,hy,e1,e2⟩ := snd_iff.1 hs2
    rw [pry hr e1 e2,hsn,Bool.true_and] at hst
    refine ⟨y,⟨hy,hst⟩,?_⟩
    unfold vy vb
    rw [hr.beg y hy e1 e2,hr.voice]; unfold voiceS; rw [e1,e2]
   ·rintro ⟨y,⟨hy,hpy⟩,rfl⟩
    obtain ⟨i,d,a1,a2,a3,a4,a5⟩ := hb.live y hy
    obtain ⟨m,hm,hr⟩ := h.notes.left (pairs_mem.2 ⟨i,d,a2,by simp,a3⟩ : (i,y.note) ∈ _)
    have hsn : m.sounds = true := by rw [hr.snd]; exact snd_iff.2 ⟨y,hy,a1,rfl⟩
    refine ⟨m,⟨hm,by rw [pry hr a1 rfl,hsn,hpy]; rfl,rng m hm⟩,?_⟩
    unfold vy vb
    rw [hr.beg y hy a1 rfl,hr.voice]; unfold voiceS; rw [a1]
 have e1 : (outA of at_ q.notes q.silent.length).map (·.voice) = (p.sounding.l.filter (prY of at_)).map voiceS := by
  have := congrArg (List.map (Prod.fst)) key
  rw [List.map_map,List.map_map] at this
  exact this
 have e2 : (outA of at_ q.notes q.silent.length).map (tkQ t) = (p.sounding.l.filter (prY of at_)).map (takeS t) := by
  have := congrArg (List.map (fun v : GVoice × Int => (⟨v.1.desk,v.1.course,v.1.pitch,v.2,t⟩ : GTake))) key
  rw [List.map_map,List.map_map] at this
  exact this
 refine ⟨_,by rw [stopA_from,e1,e2,h.takes,List.nil_append],?_⟩
 refine ⟨by rw [List.length_map]; exact h.notes.len,fun i x m' hx hm' => ?_⟩
 rw [List.getElem?_map] at hm'
 cases hm : q.notes[i]? with
 | none => rw [hm] at hm'; cases hm'
 | some m =>
  rw [hm] at hm'
  simp only [Option.map_some,Option.some.injEq] at hm'
  subst hm'
  have hr := h.notes.at_ i x m hx hm
  obtain ⟨r1,r2,r3,r4⟩ := rng m (List.mem_of_getElem? hm)
  have hpr : prD q.silent.length 0 m.voice.desk m.voice.course = true := by
   simp only [prD,Bool.or_eq_true,Bool.and_eq_true,decide_eq_true_eq]; omega
  have hdn : doneN of at_ (prD q.silent.length 0) m = bif stopB of at_ m then clrN m else m := by unfold doneN; rw [hpr,Bool.true_and]
  rw [hdn]
  have hsn : (bif stopB of at_ m then clrN m else m).sounds = sndB (p.sounding.l.filter fun y => !prY of at_ y) x := by
   cases hb2 : sndB p.sounding.l x with
   | false =>
    have : stopB of at_ m = false := by unfold stopB; rw [hr.snd,hb2]; rfl
    rw [this,cond_false,hr.snd,hb2]
    symm
    rw [← Bool.not_eq_true]
    intro hh
    obtain ⟨y,hy,e1,e2⟩ := snd_iff.1 hh
    have : sndB p.sounding.l x = true := snd_iff.2 ⟨y,(List.mem_filter.1 hy).1,e1,e2⟩
    rw [hb2] at this; cases this
   | true =>
    obtain ⟨y,hy,e1,e2⟩ := snd_iff.1 hb2
    have hst := pry hr e1 e2
    rw [hr.snd,hb2,Bool.true_and] at hst
    rw [hst]
    cases hpy : prY of at_ y with
    | true =>
     simp only [cond_true,clrN]
     symm
     rw [← Bool.not_eq_true]
     intro hh
     obtain ⟨z,hz,f1,f2⟩ := snd_iff.1 hh
     obtain ⟨z1,z2⟩ := List.mem_filter.1 hz
     have : prY of at_ z = prY of at_ y := by unfold prY; rw [f1,f2,e1,e2]
     rw [this,hpy] at z2; cases z2
    | false =>
     simp only [cond_false]
     rw [hr.snd,hb2]
     exact (snd_iff.2 ⟨y,List.mem_filter.2 ⟨hy,by rw [hpy]; rfl⟩,e1,e2⟩).symm
  have hbase : (bif stopB of at_ m then clrN m else m).voice = m.voice ∧ (bif stopB of at_ m then clrN m else m).from_ = m.from_ ∧ (bif stopB of at_ m then clrN m else m).to_ = m.to_ ∧ (bif stopB of at_ m then clrN m else m).began = m.began := by
   cases stopB of at_ m <;> exact ⟨rfl,rfl,rfl,rfl⟩
  obtain ⟨b1,b2,b3,b4⟩ := hbase
  exact ⟨by rw [b1]; exact hr.voice,by rw [b2]; exact hr.fr,by rw [b3]; exact hr.to,hsn,fun y hy g1 g2 => by rw [b4]; exact hr.beg y (List.mem_filter.1 hy).1 g1 g2⟩
end Go.Proofs.YtjjendjmakhfaaaGreat
