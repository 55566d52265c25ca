/-
 The player against the reference's,part a: what their states have in common; the next time.
 Own work. No Go text.
-/
import Derived.Test.YtjjendjmakhfaaaGreatPy
set_option linter.all false
namespace Go.Proofs.YtjjendjmakhfaaaGreat
open Go Go.Am
def pairsI : Nat → List GCDesk → List (Nat × GNote)
 | _,[] => []
 | i,d :: r => d.notes.map (fun n => (i,n)) ++ pairsI (i + 1) r
theorem pairs_mem : ∀ {ds : List GCDesk} {i : Nat} {x : Nat × GNote},x ∈ pairsI i ds ↔ ∃ j d,ds[j]? = some d ∧ x.1 = i + j ∧ x.2 ∈ d.notes
 | [],i,x => by simp [pairsI]
 | d :: r,i,x => by
  simp only [pairsI,List.mem_append,pairs_mem (ds := r)]
  constructor
  ·rintro (h | ⟨j,e,h1,h2,h3⟩)
   ·obtain ⟨n,hn,rfl⟩ := List.mem_map.1 h
    exact ⟨0,d,rfl,rfl,hn⟩
   ·exact ⟨j + 1,e,by simpa using h1,by omega,h3⟩
  ·rintro ⟨j,e,h1,h2,h3⟩
   cases j with
   | zero =>
    simp at h1; subst h1
    exact .inl (List.mem_map.2 ⟨x.2,h3,by cases x; simp at h2; simp [h2]⟩)
   | succ j => exact .inr ⟨j,e,by simpa using h1,by omega,h3⟩
theorem pairs_len : ∀ (ds : List GCDesk) (i : Nat),(∀ d ∈ ds,d.notes.length ≤ 1000) → (pairsI i ds).length ≤ 1000 * ds.length
 | [],i,_ => by simp [pairsI]
 | d :: r,i,h => by
  have h1 := pairs_len r (i + 1) fun e he => h e (List.mem_cons_of_mem _ he)
  have h2 := h d (by simp)
  simp only [pairsI,List.length_append,List.length_map,List.length_cons]
  omega
def sndB (l : List GCLive) (x : Nat × GNote) : Bool := l.any fun y => decide (y.desk = (x.1 : Int)) && decide (y.note = x.2)
theorem snd_iff {l : List GCLive} {x : Nat × GNote} : sndB l x = true ↔ ∃ y ∈ l,y.desk = (x.1 : Int) ∧ y.note = x.2 := by
 simp only [sndB,List.any_eq_true,Bool.and_eq_true,decide_eq_true_eq]
structure NoteR (l : List GCLive) (x : Nat × GNote) (m : GRef09Note) : Prop where
 voice : m.voice = ⟨(x.1 : Int),x.2.course,x.2.pitch⟩
 fr : m.from_ = x.2.from_
 to : m.to_ = x.2.to_
 snd : m.sounds = sndB l x
 beg : ∀ y ∈ l,y.desk = (x.1 : Int) → y.note = x.2 → m.began = y.began
structure NotesR (l : List GCLive) (ps : List (Nat × GNote)) (ms : List GRef09Note) : Prop where
 len : ms.length = ps.length
 at_ : ∀ (k : Nat) x m,ps[k]? = some x → ms[k]? = some m → NoteR l x m
theorem NotesR.left {l : List GCLive} {ps : List (Nat × GNote)} {ms : List GRef09Note} (h : NotesR l ps ms) {x : Nat × GNote} (hx : x ∈ ps) : ∃ m ∈ ms,NoteR l x m := by
 obtain ⟨k,hk⟩ := List.getElem?_of_mem hx
 have hl := (List.getElem?_eq_some_iff.1 hk).1
 have hm : ms[k]? = some (ms[k]'(by rw [h.len]; exact hl)) := List.getElem?_eq_getElem _
 exact ⟨_,List.mem_of_getElem? hm,h.at_ k x _ hk hm⟩
theorem NotesR.right {l : List GCLive} {ps : List (Nat × GNote)} {ms : List GRef09Note} (h : NotesR l ps ms) {m : GRef09Note} (hx : m ∈ ms) : ∃ x ∈ ps,NoteR l x m := by
 obtain ⟨k,hk⟩ := List.getElem?_of_mem hx
 have hl := (List.getElem?_eq_some_iff.1 hk).1
 have hm : ps[k]? = some (ps[k]'(by rw [← h.len]; exact hl)) := List.getElem?_eq_getElem _
 exact ⟨_,List.mem_of_getElem? hm,h.at_ k _ m hm hk⟩
structure RelP (p : GCPlayer) (q : GRef09Player) : Prop where
 end_ : q.end_ = p.end_
 now : q.now = p.now
 clock : q.clock = p.clock.ticks
 waiting : q.waiting = p.waiting
 fr : q.from_ = p.from_
 to : q.to_ = p.to_
 times : q.times = p.times
 takes : q.takes = p.takes
 silent : q.silent = p.desks.map (·.silent)
 since : q.since = p.desks.map (·.since)
 notes : NotesR p.sounding.l (pairsI 0 p.desks) q.notes
theorem fold_flat {α : Type} (g : α → List Int) : ∀ (l : List α) (t : Int),l.foldl (fun t x => (g x).foldl minI t) t = (l.flatMap g).foldl minI t
 | [],t => rfl
 | x :: r,t => by simp only [List.foldl_cons,List.flatMap_cons,List.foldl_append]; exact fold_flat g r _
theorem min_fold : ∀ (l : List Int) (t : Int),l.foldl minI t ≤ t ∧ (∀ c ∈ l,l.foldl minI t ≤ c) ∧ (l.foldl minI t = t ∨ l.foldl minI t ∈ l)
 | [],t => ⟨Int.le_refl _,(fun c h => by cases h),.inl rfl⟩
 | x :: r,t => by
  obtain ⟨h1,h2,h3⟩ := min_fold r (minI t x)
  have h4 : minI t x ≤ t ∧ minI t x ≤ x ∧ (minI t x = t ∨ minI t x = x) := by unfold minI; split <;> omega
  simp only [List.foldl_cons]
  refine ⟨by omega,fun c hc => ?_,?_⟩
  ·rcases List.mem_cons.1 hc with rfl | hc
   ·omega
   ·exact h2 c hc
  ·rcases h3 with h3 | h3
   ·rcases h4.2.2 with h5 | h5
    ·exact .inl (by rw [h3,h5])
    ·exact .inr (by rw [h3,h5]; simp)
   ·exact .inr (List.mem_cons_of_mem _ h3)
theorem fold_min_ext {l l' : List Int} (t : Int) (h : ∀ c,c ∈ l ↔ c ∈ l') : l.foldl minI t = l'.foldl minI t := by
 obtain ⟨a1,a2,a3⟩ := min_fold l t
 obtain ⟨b1,b2,b3⟩ := min_fold l' t
 have h1 : l.foldl minI t ≤ l'.foldl minI t := by
  rcases b3 with e | e
  ·omega
  ·exact a2 _ ((h _).2 e)
 have h2 : l'.foldl minI t ≤ l.foldl minI t := by
  rcases a3 with e | e
  ·omega
  ·exact b2 _ ((h _).1 e)
 omega
def one (now x : Int) : List Int := bif decide (now < x) then [x] else []
theorem mem_one {now x c : Int} : c ∈ one now x ↔ c = x ∧ now < x := by
 unfold one
 by_cases h : now < x
 ·simp [h]
 ·simp [h]
theorem later_one (now t x : Int) : laterS now t x = (one now x).foldl minI t := by
 unfold laterS one
 cases decide (now < x) <;> rfl
def candP (p : GCPlayer) : List Int :=
 (bif decide (0 < p.times) then one p.now p.to_ else []) ++ ((p.sounding.l.flatMap fun x => one p.now x.note.to_) ++ p.desks.flatMap fun d => d.notes.flatMap fun n => bif canS d n then one p.now n.from_ else [])
theorem next_cand (p : GCPlayer) : nextT p = (candP p).foldl minI p.end_ := by
 unfold nextT candP
 rw [List.foldl_append,List.foldl_append]
 have e1 : (bif decide (0 < p.times) then laterS p.now p.end_ p.to_ else p.end_) = (bif decide (0 < p.times) then one p.now p.to_ else []).foldl minI p.end_ := by
  cases decide (0 < p.times)
  ·rfl
  ·exact later_one _ _ _
 rw [e1]
 have e2 : ∀ t,p.sounding.l.foldl (fun t x => laterS p.now t x.note.to_) t = (p.sounding.l.flatMap fun x => one p.now x.note.to_).foldl minI t := by
  intro t
  rw [← fold_flat]
  congr 1; funext t x; exact later_one _ _ _
 rw [e2]
 rw [← fold_flat (fun d : GCDesk => d.notes.flatMap fun n => bif canS d n then one p.now n.from_ else [])]
 congr 1
 funext t d
 unfold nextD
 rw [← fold_flat (fun n : GNote => bif canS d n then one p.now n.from_ else [])]
 congr 1
 funext t n
 cases canS d n
 ·rfl
 ·exact later_one _ _ _
def canQ (q : GRef09Player) (m : GRef09Note) : Bool := !((q.silent[m.voice.desk.toNat]?).getD true) && decide ((q.since[m.voice.desk.toNat]?).getD 0 ≤ m.from_)
def DeskQ (q : GRef09Player) : Prop := ∀ m ∈ q.notes,0 ≤ m.voice.desk ∧ m.voice.desk.toNat < q.silent.length ∧ q.since.length = q.silent.length
theorem ixGet {α : Type} {l : List α} {i : Int} (h0 : 0 ≤ i) (h1 : i.toNat < l.length) : ix l i = some (l[i.toNat]'h1) := by
 unfold ix; rw [if_pos h0]; exact List.getElem?_eq_getElem h1
theorem f84_eq (q : GRef09Player) (m : GRef09Note) (h : 0 ≤ m.voice.desk ∧ m.voice.desk.toNat < q.silent.length ∧ q.since.length = q.silent.length) : f84 q m = some (canQ q m) := by
 obtain ⟨h0,h1,h2⟩ := h
 unfold f84 canQ
 rw [ixGet h0 h1,ixGet h0 (by rw [h2]; exact h1),List.getElem?_eq_getElem h1,List.getElem?_eq_getElem (by rw [h2]; exact h1)]
 simp only [Option.bind_some,Option.getD_some]
 cases q.silent[m.voice.desk.toNat]'h1 <;> rfl
theorem rel_desk {p : GCPlayer} {q : GRef09Player} (h : RelP p q) : DeskQ q := by
 intro m hm
 obtain ⟨x,hx,hr⟩ := h.notes.right hm
 obtain ⟨j,d,h1,h2,h3⟩ := pairs_mem.1 hx
 have hl := (List.getElem?_eq_some_iff.1 h1).1
 rw [hr.voice,h.silent,h.since]
 simp only [List.length_map]
 exact ⟨by omega,by show ((x.1 : Int)).toNat < _; omega,trivial⟩
theorem can_rel {p : GCPlayer} {q : GRef09Player} (h : RelP p q) {x : Nat × GNote} {m : GRef09Note} (hr : NoteR p.sounding.l x m) {d : GCDesk} (hd : p.desks[x.1]? = some d) : canQ q m = canS d x.2 := by
 unfold canQ canS
 rw [hr.voice,hr.fr,h.silent,h.since]
 simp only [Int.toNat_natCast,List.getElem?_map,hd,Option.map_some,Option.getD_some]
def candM (q : GRef09Player) (m : GRef09Note) : List Int := (bif m.sounds then one q.now m.to_ else []) ++ (bif canQ q m then one q.now m.from_ else [])
def candQ (q : GRef09Player) : List Int := (q.notes.flatMap (candM q)) ++ (bif decide (0 < q.times) then one q.now q.to_ else [])
theorem cand_same {p : GCPlayer} {q : GRef09Player} (h : RelP p q) (hl : ∀ x ∈ p.sounding.l,LiveAt p.desks p.now x) (c : Int) : c ∈ candP p ↔ c ∈ candQ q := by
 have bifm : ∀ {b : Bool} {l : List Int},c ∈ (bif b then l else []) ↔ b = true ∧ c ∈ l := fun {b l} => by cases b <;> simp
 unfold candP candQ candM
 simp only [List.mem_append,bifm,List.mem_flatMap,mem_one,h.times,h.to,h.now,decide_eq_true_eq]
 constructor
 ·rintro (hc | ⟨x,hx,rfl,hc⟩ | ⟨d,hd,n,hn,hcan,rfl,hc⟩)
  ·exact .inr hc
  ·obtain ⟨i,d,a1,a2,a3,a4,a5⟩ := hl x hx
   obtain ⟨m,hm,hr⟩ := h.notes.left (pairs_mem.2 ⟨i,d,a2,by simp,a3⟩ : (i,x.note) ∈ _)
   refine .inl ⟨m,hm,.inl ⟨?_,by rw [hr.to],by rw [hr.to]; exact hc⟩⟩
   rw [hr.snd]; exact snd_iff.2 ⟨x,hx,a1,rfl⟩
  ·obtain ⟨i,hi⟩ := List.getElem?_of_mem hd
   obtain ⟨m,hm,hr⟩ := h.notes.left (pairs_mem.2 ⟨i,d,hi,by simp,hn⟩ : (i,n) ∈ _)
   exact .inl ⟨m,hm,.inr ⟨by rw [can_rel h hr hi]; exact hcan,by rw [hr.fr],by rw [hr.fr]; exact hc⟩⟩
 ·rintro (⟨m,hm,hc⟩ | hc)
  ·obtain ⟨x,hx,hr⟩ := h.notes.right hm
   obtain ⟨j,d,h1,h2,h3⟩ := pairs_mem.1 hx
   have h2 : x.1 = j := by omega
   rcases hc with ⟨hs,rfl,hc⟩ | ⟨hs,rfl,hc⟩
   ·rw [hr.snd] at hs
    obtain ⟨y,hy,e1,e2⟩ := snd_iff.1 hs
    exact .inr (.inl ⟨y,hy,by rw [hr.to,e2],by rw [e2,← hr.to]; exact hc⟩)
   ·rw [can_rel h hr (d := d) (by rw [h2]; exact h1)] at hs
    exact .inr (.inr ⟨d,List.mem_of_getElem? h1,x.2,h3,hs,by rw [hr.fr],by rw [← hr.fr]; exact hc⟩)
  ·exact .inl hc
theorem nextQ_eq (q : GRef09Player) (hd : DeskQ q) (hs : Small q.notes) : f42 q = some (bif q.waiting then (q.now,0) else bif decide (q.now = q.end_) then (0,92) else ((candQ q).foldl minI q.end_,0)) := by
 unfold f42
 cases q.waiting with
 | true => rfl
 | false =>
  simp only [cond_false]
  cases decide (q.now = q.end_) with
  | true => rfl
  | false =>
   simp only [cond_false]
   rw [loop_fold (fun (t : Int) i => (t,i)) (fun _ t (m : GRef09Note) => (.inl ((candM q m).foldl minI t) : Int ⊕ Int)) (fun t => t) q.notes (fun _ _ => True) _ (small_fuel hs) trivial]
   ·rw [foldE_inl (fun t (m : GRef09Note) => (candM q m).foldl minI t),fold_flat]
    unfold candQ
    rw [List.foldl_append]
    simp only [Option.bind_some]
    cases decide (0 < q.times) with
    | false => rfl
    | true =>
     simp only [cond_true,Option.bind_some,one]
     cases decide (q.now < q.to_) <;> rfl
   ·intro i t m hm _
    refine ⟨?_,fun _ _ => trivial⟩
    simp only [dltLen hm,cond_true,ixNat hm,Option.bind_some,wrLen hs hm,f84_eq q m (hd m (List.mem_of_getElem? hm)),candM,one]
    cases m.sounds <;> cases canQ q m <;> cases decide (q.now < m.to_) <;> cases decide (q.now < m.from_) <;> rfl
   ·intro t _; simp
theorem next_rel {p : GCPlayer} {q : GRef09Player} (h : RelP p q) (hl : ∀ x ∈ p.sounding.l,LiveAt p.desks p.now x) (hs : Small q.notes) : f42 q = some (bif doneS p then (0,92) else (nextS p,0)) := by
 rw [nextQ_eq q (rel_desk h) hs]
 unfold doneS nextS
 rw [h.waiting,h.now,h.end_,next_cand p,fold_min_ext p.end_ (cand_same h hl)]
 cases p.waiting with
 | true => rfl
 | false => cases decide (p.now = p.end_) <;> rfl
end Go.Proofs.YtjjendjmakhfaaaGreat
