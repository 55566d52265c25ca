/-
 The player against the reference's,part d: what begins; a step.
 Own work. No Go text.
-/
import Derived.Test.YtjjendjmakhfaaaGreatQc
set_option linter.all false
namespace Go.Proofs.YtjjendjmakhfaaaGreat
open Go Go.Am
def startedI (p : GCPlayer) : Nat → List GCDesk → List GCLive
 | _,[] => []
 | i,d :: r => (d.notes.filter (begS p.now d)).map (liveS p i) ++ startedI p (i + 1) r
theorem startN_fold (p : GCPlayer) (i : Nat) (d : GCDesk) : ∀ (l : List GNote) (a : List GCLive × List GVoice),l.foldl (startN p i d) a = (((l.filter (begS p.now d)).map (liveS p i)).foldl putS a.1,a.2 ++ ((l.filter (begS p.now d)).map (liveS p i)).map voiceS)
 | [],a => by simp
 | n :: r,a => by
  simp only [List.foldl_cons,startN_fold p i d r,List.filter_cons]
  unfold startN
  cases begS p.now d n with
  | true => simp
  | false => simp
theorem startI_fold (p : GCPlayer) : ∀ (l : List GCDesk) (i : Nat) (a : List GCLive × List GVoice),foldI (startD p) i l a = ((startedI p i l).foldl putS a.1,a.2 ++ (startedI p i l).map voiceS)
 | [],i,a => by simp [foldI,startedI]
 | d :: r,i,a => by
  simp only [foldI,startI_fold p r,startD,startN_fold,startedI,List.map_append,List.foldl_append,List.append_assoc]
theorem startS_eq (p : GCPlayer) : startS p = ((startedI p 0 p.desks).foldl putS p.sounding.l,(startedI p 0 p.desks).map voiceS) := by
 unfold startS
 rw [startI_fold]; simp
def begP (p : GCPlayer) (x : Nat × GNote) : Bool := match p.desks[x.1]? with
 | some d => begS p.now d x.2
 | none => false
theorem started_pairs (p : GCPlayer) : ∀ (ds : List GCDesk) (i : Nat),(∀ j d,ds[j]? = some d → p.desks[i + j]? = some d) → startedI p i ds = ((pairsI i ds).filter (begP p)).map fun x => liveS p x.1 x.2
 | [],i,_ => rfl
 | d :: r,i,h => by
  simp only [startedI,pairsI,List.filter_append,List.map_append]
  rw [started_pairs p r (i + 1) fun j e he => by have := h (j + 1) e (by simpa using he); rw [show i + 1 + j = i + (j + 1) by omega]; exact this]
  congr 1
  have hd := h 0 d rfl
  rw [List.filter_map,List.map_map]
  have : (begP p ∘ fun n => (i,n)) = begS p.now d := by
   funext n
   simp only [Function.comp,begP]
   have hd : p.desks[i]? = some d := hd
   rw [hd]
  rw [this]
  rfl
theorem foldl_put_mem : ∀ (xs l : List GCLive) (y : GCLive),y ∈ xs.foldl putS l ↔ y ∈ l ∨ y ∈ xs
 | [],l,y => by simp
 | x :: r,l,y => by
  rw [List.foldl_cons,foldl_put_mem r,(put_perm l x).mem_iff,List.mem_cons,List.mem_cons]
  constructor
  ·rintro ((h | h) | h)
   ·exact .inr (.inl h)
   ·exact .inl h
   ·exact .inr (.inr h)
  ·rintro (h | h | h)
   ·exact .inl (.inr h)
   ·exact .inl (.inl h)
   ·exact .inr h
def OrdD (ds : List GCDesk) : Prop := ∀ d ∈ ds,d.notes.Pairwise fun a b => a.from_ = b.from_ → a.course < b.course
theorem started_mem (p : GCPlayer) : ∀ (ds : List GCDesk) (i : Nat) (y : GCLive),y ∈ startedI p i ds → ∃ j d,ds[j]? = some d ∧ y.desk = ((i + j : Nat) : Int) ∧ y.note ∈ d.notes ∧ y.note.from_ = p.now ∧ y.began = p.clock.ticks
 | [],i,y,h => by cases h
 | d :: r,i,y,h => by
  rcases List.mem_append.1 h with h | h
  ·obtain ⟨n,hn,rfl⟩ := List.mem_map.1 h
   obtain ⟨h1,h2⟩ := List.mem_filter.1 hn
   unfold begS at h2
   simp only [Bool.and_eq_true,decide_eq_true_eq] at h2
   exact ⟨0,d,rfl,rfl,h1,h2.1,rfl⟩
  ·obtain ⟨j,e,h1,h2,h3⟩ := started_mem p r (i + 1) y h
   exact ⟨j + 1,e,by simpa using h1,by rw [h2]; omega,h3⟩
theorem started_srt (p : GCPlayer) : ∀ (ds : List GCDesk) (i : Nat),OrdD ds → SrtV ((startedI p i ds).map voiceS)
 | [],i,_ => List.Pairwise.nil
 | d :: r,i,h => by
  simp only [startedI,List.map_append]
  refine List.pairwise_append.2 ⟨?_,started_srt p r (i + 1) fun e he => h e (List.mem_cons_of_mem _ he),fun a ha b hb => ?_⟩
  ·refine List.pairwise_map.2 (List.pairwise_map.2 (List.Pairwise.imp_of_mem (fun {a b} ha hb hab => ?_) (List.Pairwise.filter _ (h d (by simp)))))
   have h1 := (List.mem_filter.1 ha).2
   have h2 := (List.mem_filter.1 hb).2
   unfold begS at h1 h2
   simp only [Bool.and_eq_true,decide_eq_true_eq] at h1 h2
   exact ltV_iff.2 (.inr ⟨rfl,hab (by omega)⟩)
  ·obtain ⟨x,hx,rfl⟩ := List.mem_map.1 ha
   obtain ⟨y,hy,rfl⟩ := List.mem_map.1 hb
   obtain ⟨n,hn,rfl⟩ := List.mem_map.1 hx
   obtain ⟨j,e,_,h2,_⟩ := started_mem p r (i + 1) y hy
   exact ltV_iff.2 (.inl (by show (i : Int) < y.desk; omega))
theorem fold_srt {vs : List GVoice} (h : SrtV vs) : vs.foldl insV [] = vs := by
 obtain ⟨h1,h2⟩ := fold_ins vs [] List.Pairwise.nil (fun y hy => by cases hy) (List.Pairwise.imp (fun {a b} hab => .inl hab) h)
 exact srt_ext (R := fun a b => ltV a b = true) (fun _ _ _ => ltV_trans) ltV_irr h1 h fun v => by rw [h2]; simp
def begQ (q : GRef09Player) (m : GRef09Note) : Bool := decide (m.from_ = q.now) && canQ q m
def onQ (q : GRef09Player) (m : GRef09Note) : GRef09Note := bif begQ q m then ⟨m.voice,m.from_,m.to_,true,q.clock⟩ else m
theorem f55_eq (q : GRef09Player) (hd : DeskQ q) (hn : q.notes.length ≤ 1000000) : f55 q = some (((q.notes.filter (begQ q)).map (·.voice)).foldl insV [],q.notes.map (onQ q)) := by
 unfold f55
 have hlen : ∀ k : Nat,List.length ((((q.notes.take k).filter (begQ q)).map (·.voice)).foldl insV []) = ((q.notes.take k).filter (begQ q)).length := by
  intro k
  have : ∀ (l a : List GVoice),(l.foldl insV a).length = a.length + l.length := by
   intro l
   induction l with
   | nil => intro a; rfl
   | cons v r ih => intro a; rw [List.foldl_cons,ih,insV_len,List.length_cons]; omega
  rw [this,List.length_map]; simp
 rw [loop_all (fun k => ((q.notes.take k).map (onQ q) ++ q.notes.drop k,(((q.notes.take k).filter (begQ q)).map (·.voice)).foldl insV [],(k : Int))) q.notes.length (by omega) (by simp)
  (r := (((q.notes.filter (begQ q)).map (·.voice)).foldl insV [],q.notes.map (onQ q)))]
 ·rfl
 ·intro k hk
  have hg : q.notes[k]? = some q.notes[k] := List.getElem?_eq_getElem hk
  generalize q.notes[k] = m at hg
  have htk : (q.notes.take k).length = k := by rw [List.length_take]; omega
  have hdr : q.notes.drop k = m :: q.notes.drop (k + 1) := by
   rw [List.drop_eq_getElem_cons hk]
   congr 1
   have := List.getElem?_eq_getElem (l := q.notes) (i := k) hk
   rw [hg] at this
   exact (Option.some.inj this).symm
  have hml := hlen k
  have hfl := List.length_filter_le (begQ q) (q.notes.take k)
  have hdk : decide ((k : Int) < (((q.notes.take k).map (onQ q) ++ q.notes.drop k).length : Int)) = true := decide_eq_true (by rw [List.length_append,List.length_map,List.length_take,List.length_drop]; omega)
  have hix : ix ((q.notes.take k).map (onQ q) ++ q.notes.drop k) (k : Int) = some m := ixAt (by rw [hdr]) (by rw [List.length_map,htk])
  have hcan := f84_eq ⟨(q.notes.take k).map (onQ q) ++ q.notes.drop k,q.end_,q.now,q.clock,q.waiting,q.silent,q.since,q.from_,q.to_,q.times,q.takes⟩ m (hd m (List.mem_of_getElem? hg))
  have hcq : canQ ⟨(q.notes.take k).map (onQ q) ++ q.notes.drop k,q.end_,q.now,q.clock,q.waiting,q.silent,q.since,q.from_,q.to_,q.times,q.takes⟩ m = canQ q m := rfl
  rw [hcq] at hcan
  have hcond : ((bif (decide (m.from_ = q.now)) then ((f84 (⟨(q.notes.take k).map (onQ q) ++ q.notes.drop k,q.end_,q.now,q.clock,q.waiting,q.silent,q.since,q.from_,q.to_,q.times,q.takes⟩ : GRef09Player) m).bind fun r4 => some r4) else (some false)) : Option Bool) = some (begQ q m) := by
   rw [hcan]; unfold begQ
   cases decide (m.from_ = q.now) <;> rfl
  simp only [hdk,cond_true,hix,Option.bind_some]
  rw [hcond]
  simp only [Option.bind_some]
  rw [take_snoc hg,List.map_append,List.filter_append,List.map_append,List.foldl_append,wrNat (by omega)]
  cases hh : begQ q m with
  | true =>
   have e1 : ∀ z : GRef09Note,((q.notes.take k).map (onQ q) ++ q.notes.drop k).set (k : Int).toNat z = (q.notes.take k).map (onQ q) ++ z :: q.notes.drop (k + 1) := fun z => by
    rw [hdr,setAt rfl (by rw [List.length_map,htk]; rfl)]
   have e2 : ∀ z : GRef09Note,ix ((q.notes.take k).map (onQ q) ++ z :: q.notes.drop (k + 1)) (k : Int) = some z := fun z => ixAt rfl (by rw [List.length_map,htk])
   have e3 : ∀ z w : GRef09Note,((q.notes.take k).map (onQ q) ++ z :: q.notes.drop (k + 1)).set (k : Int).toNat w = (q.notes.take k).map (onQ q) ++ w :: q.notes.drop (k + 1) := fun z w => setAt rfl (by rw [List.length_map,htk]; rfl)
   simp only [cond_true,e1,e2,e3,Option.bind_some]
   rw [f85_eq _ _ (by rw [hml]; omega)]
   simp only [Option.bind_some,List.filter_cons,hh,if_true,List.filter_nil,List.map_cons,List.map_nil,List.foldl_cons,List.foldl_nil,onQ,cond_true,List.append_assoc,List.cons_append,List.nil_append]
  | false =>
   simp only [cond_false,Option.bind_some,List.filter_cons,hh,Bool.false_eq_true,if_false,List.filter_nil,List.map_nil,List.foldl_nil,List.map_cons,onQ,List.append_assoc,List.cons_append,List.nil_append]
   rw [hdr]
 ·have hd2 : decide ((q.notes.length : Int) < (((q.notes.take q.notes.length).map (onQ q) ++ q.notes.drop q.notes.length).length : Int)) = false := by
   apply decide_eq_false
   rw [List.length_append,List.length_map,List.length_take,List.length_drop]; omega
  simp only [hd2,cond_false]
  rw [List.take_length,List.drop_length,List.append_nil]
theorem zip_filter {l : List GCLive} {β : Type} {f : GRef09Note → Bool} {g : Nat × GNote → Bool} {v : GRef09Note → β} {w : Nat × GNote → β} : ∀ {ps : List (Nat × GNote)} {ms : List GRef09Note},NotesR l ps ms →
  (∀ x m,x ∈ ps → NoteR l x m → f m = g x ∧ v m = w x) → (ms.filter f).map v = (ps.filter g).map w
 | [],[],_,_ => rfl
 | [],m :: r,h,_ => by have := h.len; simp at this
 | x :: s,[],h,_ => by have := h.len; simp at this
 | x :: s,m :: r,h,hf => by
  have h0 := h.at_ 0 x m rfl rfl
  have hr : NotesR l s r := ⟨by have := h.len; simpa using this,fun k y z hy hz => h.at_ (k + 1) y z (by simpa using hy) (by simpa using hz)⟩
  have ih := zip_filter (f := f) (g := g) (v := v) (w := w) hr fun y z hy hz => hf y z (List.mem_cons_of_mem _ hy) hz
  obtain ⟨e1,e2⟩ := hf x m (by simp) h0
  simp only [List.filter_cons,e1]
  cases g x with
  | true => simp only [if_true,List.map_cons,e2,ih]
  | false => simp only [Bool.false_eq_true,if_false,ih]
theorem start_rel {p : GCPlayer} {q : GRef09Player} (h : RelP p q) (hn : q.notes.length ≤ 6000) (ho : OrdD p.desks) (hl : ∀ y ∈ p.sounding.l,y.note.from_ < p.now) :
  ∃ ms,f55 q = some ((startS p).2,ms) ∧ NotesR (startS p).1 (pairsI 0 p.desks) ms := by
 have hbeg : ∀ x m,x ∈ pairsI 0 p.desks → NoteR p.sounding.l x m → begQ q m = begP p x ∧ m.voice = voiceS (liveS p x.1 x.2) := by
  intro x m hx hr
  obtain ⟨j,d,h1,h2,h3⟩ := pairs_mem.1 hx
  have h2 : x.1 = j := by omega
  have hd : p.desks[x.1]? = some d := by rw [h2]; exact h1
  refine ⟨?_,hr.voice⟩
  unfold begQ begP begS
  rw [hd,can_rel h hr hd,hr.fr,h.now]
 have hst := started_pairs p p.desks 0 fun j d hd => by simpa using hd
 rw [startS_eq]
 refine ⟨q.notes.map (onQ q),?_,?_⟩
 ·rw [f55_eq q (rel_desk h) (by omega),zip_filter h.notes hbeg]
  have : ((pairsI 0 p.desks).filter (begP p)).map (fun x => voiceS (liveS p x.1 x.2)) = (startedI p 0 p.desks).map voiceS := by rw [hst,List.map_map]; rfl
  rw [this,fold_srt (started_srt p p.desks 0 ho)]
 ·refine ⟨by rw [List.length_map]; exact h.notes.len,fun k x m' hx hm' => ?_⟩
  rw [List.getElem?_map] at hm'
  cases hm : q.notes[k]? with
  | none => rw [hm] at hm'; cases hm'
  | some m =>
   rw [hm] at hm'
   simp only [Option.map_some,Option.some.injEq] at hm'
   subst hm'
   have hr := h.notes.at_ k x m hx hm
   have hxp := List.mem_of_getElem? hx
   obtain ⟨b1,_⟩ := hbeg x m hxp hr
   have hmem : ∀ y : GCLive,y.desk = (x.1 : Int) → y.note = x.2 → (y ∈ startedI p 0 p.desks → begP p x = true ∧ y.began = p.clock.ticks) := by
    intro y e1 e2 hy
    rw [hst] at hy
    obtain ⟨z,hz,rfl⟩ := List.mem_map.1 hy
    obtain ⟨z1,z2⟩ := List.mem_filter.1 hz
    have e1 : ((z.1 : Nat) : Int) = (x.1 : Int) := e1
    have e2 : z.2 = x.2 := e2
    have : z = x := Prod.ext (by omega) e2
    subst this
    exact ⟨z2,rfl⟩
   unfold onQ
   rw [b1]
   cases hb : begP p x with
   | true =>
    refine ⟨hr.voice,hr.fr,hr.to,?_,fun y hy e1 e2 => ?_⟩
    ·refine (snd_iff.2 ⟨liveS p x.1 x.2,(foldl_put_mem _ _ _).2 (.inr ?_),rfl,rfl⟩).symm
     rw [hst]
     exact List.mem_map.2 ⟨x,List.mem_filter.2 ⟨hxp,hb⟩,rfl⟩
    ·rcases (foldl_put_mem _ _ _).1 hy with hy | hy
     ·exfalso
      have := hl y hy
      have hb' := b1.trans hb
      unfold begQ at hb'
      simp only [Bool.and_eq_true,decide_eq_true_eq] at hb'
      rw [e2,← hr.fr,hb'.1,h.now] at this
      omega
     ·show q.clock = _
      rw [(hmem y e1 e2 hy).2,h.clock]
   | false =>
    simp only [cond_false]
    refine ⟨hr.voice,hr.fr,hr.to,?_,fun y hy e1 e2 => ?_⟩
    ·rw [hr.snd,Bool.eq_iff_iff,snd_iff,snd_iff]
     constructor
     ·rintro ⟨y,hy,e1,e2⟩
      exact ⟨y,(foldl_put_mem _ _ _).2 (.inl hy),e1,e2⟩
     ·rintro ⟨y,hy,e1,e2⟩
      rcases (foldl_put_mem _ _ _).1 hy with hy | hy
      ·exact ⟨y,hy,e1,e2⟩
      ·have := (hmem y e1 e2 hy).1
       rw [hb] at this; cases this
    ·rcases (foldl_put_mem _ _ _).1 hy with hy | hy
     ·exact hr.beg y hy e1 e2
     ·have := (hmem y e1 e2 hy).1
      rw [hb] at this; cases this
end Go.Proofs.YtjjendjmakhfaaaGreat
