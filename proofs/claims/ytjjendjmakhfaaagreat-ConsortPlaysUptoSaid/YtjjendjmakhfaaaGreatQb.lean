/-
 The player against the reference's,part b: what sounds; what is looked at.
 Own work. No Go text.
-/
import Derived.Test.YtjjendjmakhfaaaGreatQa
set_option linter.all false
namespace Go.Proofs.YtjjendjmakhfaaaGreat
open Go Go.Am
theorem srt_ext {α : Type} {R : α → α → Prop} (ht : ∀ a b c,R a b → R b c → R a c) (hi : ∀ a,¬ R a a) : ∀ {l l' : List α},l.Pairwise R → l'.Pairwise R → (∀ x,x ∈ l ↔ x ∈ l') → l = l'
 | [],[],_,_,_ => rfl
 | [],b :: s,_,_,h => absurd ((h b).2 (by simp)) (by simp)
 | a :: r,[],_,_,h => absurd ((h a).1 (by simp)) (by simp)
 | a :: r,b :: s,h1,h2,h => by
  obtain ⟨p1,p2⟩ := List.pairwise_cons.1 h1
  obtain ⟨q1,q2⟩ := List.pairwise_cons.1 h2
  have hab : a = b := by
   rcases List.mem_cons.1 ((h a).1 (by simp)) with e | e
   ·exact e
   ·rcases List.mem_cons.1 ((h b).2 (by simp)) with e2 | e2
    ·exact e2.symm
    ·exact absurd (ht _ _ _ (p1 b e2) (q1 a e)) (hi a)
  subst hab
  congr 1
  refine srt_ext ht hi p2 q2 fun x => ⟨fun hx => ?_,fun hx => ?_⟩
  ·rcases List.mem_cons.1 ((h x).1 (List.mem_cons_of_mem _ hx)) with rfl | e
   ·exact absurd (p1 x hx) (hi x)
   ·exact e
  ·rcases List.mem_cons.1 ((h x).2 (List.mem_cons_of_mem _ hx)) with rfl | e
   ·exact absurd (q1 x hx) (hi x)
   ·exact e
def ltV (a b : GVoice) : Bool := decide (a.desk < b.desk) || (decide (a.desk = b.desk) && decide (a.course < b.course))
theorem ltV_iff {a b : GVoice} : ltV a b = true ↔ a.desk < b.desk ∨ (a.desk = b.desk ∧ a.course < b.course) := by
 simp only [ltV,Bool.or_eq_true,Bool.and_eq_true,decide_eq_true_eq]
theorem ltV_cond (a b : GVoice) : (bif decide (a.desk < b.desk) then (some true : Option Bool) else (bif decide (a.desk = b.desk) then some (decide (a.course < b.course)) else some false)) = some (ltV a b) := by
 unfold ltV
 cases decide (a.desk < b.desk) <;> cases decide (a.desk = b.desk) <;> rfl
def insK (l : List GVoice) (v : GVoice) : Nat → Nat
 | 0 => 0
 | k + 1 => match l[k]? with
  | some y => bif ltV y v then k + 1 else insK l v k
  | none => insK l v k
def insV (l : List GVoice) (v : GVoice) : List GVoice := l.take (insK l v l.length) ++ v :: l.drop (insK l v l.length)
theorem insV_len (l : List GVoice) (v : GVoice) : (insV l v).length = l.length + 1 := by
 unfold insV
 rw [List.length_append,List.length_cons,List.length_take,List.length_drop]
 omega
theorem f85_eq (l : List GVoice) (v : GVoice) (hs : l.length ≤ 4000000) : f85 l v = some (insV l v) := by
 suffices hh : ∃ r,f85 l v = some r ∧ r = insV l v by
  obtain ⟨r,e1,e2⟩ := hh
  rw [e1,e2]
 unfold f85
 rw [need_one (by unfold maxElems; omega)]
 refine bind_ex (P1 := fun t => t = insV l v) ?_ (fun t ht => ⟨_,rfl,ht⟩)
 refine loop_mu (fun s => ∃ j : Nat,s = (l.take j ++ v :: l.drop j,(j : Int)) ∧ j ≤ l.length ∧ insK l v l.length = insK l v j) (fun s => s.2.toNat) _ ?_ FUEL _ ⟨l.length,?_,Nat.le_refl _,rfl⟩ ?_
 ·rintro s ⟨j,rfl,hj,hk⟩
  cases j with
  | zero =>
   right
   refine ⟨_,rfl,?_⟩
   unfold insV
   rw [hk]; rfl
  | succ k =>
   have hg : l[k]? = some l[k] := List.getElem?_eq_getElem (by omega)
   generalize l[k]'(by omega) = y at hg
   have hd : decide (0 < ((k + 1 : Nat) : Int)) = true := decide_eq_true (by omega)
   have hw : wr (((k + 1 : Nat) : Int) - 1) = (k : Int) := by rw [wr64 (by omega) (by omega)]; omega
   have htk : (l.take k).length = k := by rw [List.length_take]; omega
   have hdr : l.drop k = y :: l.drop (k + 1) := by
    rw [List.drop_eq_getElem_cons (by omega)]
    congr 1
    have := List.getElem?_eq_getElem (l := l) (i := k) (by omega)
    rw [hg] at this
    exact (Option.some.inj this).symm
   have hL : l.take (k + 1) ++ v :: l.drop (k + 1) = l.take k ++ y :: (v :: l.drop (k + 1)) := by
    rw [take_snoc hg]; simp
   have i1 : ix (l.take (k + 1) ++ v :: l.drop (k + 1)) (k : Int) = some y := ixAt hL (by rw [htk])
   have i2 : ix (l.take (k + 1) ++ v :: l.drop (k + 1)) ((k + 1 : Nat) : Int) = some v := ixAt rfl (by rw [List.length_take]; congr 1; omega)
   simp only [hd,cond_true,hw,i1,i2,Option.bind_some]
   rw [ltV_cond]
   simp only [Option.bind_some]
   cases hlt : ltV y v with
   | true =>
    right
    refine ⟨_,rfl,?_⟩
    have : insK l v (k + 1) = k + 1 := by simp only [insK,hg,hlt,cond_true]
    unfold insV
    rw [hk,this]
   | false =>
    left
    have e1 : (l.take (k + 1) ++ v :: l.drop (k + 1)).set (k : Int).toNat v = l.take k ++ v :: (v :: l.drop (k + 1)) := by
     rw [hL]; exact setAt rfl (by simp only [Int.toNat_natCast,htk])
    have e3 : l.take k ++ v :: (v :: l.drop (k + 1)) = (l.take k ++ [v]) ++ v :: l.drop (k + 1) := by simp
    have i3 : ix (l.take k ++ v :: (v :: l.drop (k + 1))) ((k + 1 : Nat) : Int) = some v := ixAt e3 (by rw [List.length_append,htk]; rfl)
    have e2 : (l.take k ++ v :: (v :: l.drop (k + 1))).set ((k + 1 : Nat) : Int).toNat y = l.take k ++ v :: l.drop k := by
     rw [e3,setAt (p := l.take k ++ [v]) (q := l.drop (k + 1)) rfl (by rw [List.length_append,htk]; simp),hdr]; simp
    simp only [cond_false,e1,i3,e2,Option.bind_some]
    refine ⟨_,rfl,⟨k,rfl,by omega,?_⟩,by simp only [Int.toNat_natCast]; omega⟩
    rw [hk]
    simp only [insK,hg,hlt,cond_false]
 ·rw [List.take_length,List.drop_length,List.length_append]
  simp only [List.length_cons,List.length_nil]
  refine Prod.ext rfl ?_
  show wr _ = _
  rw [wr64 (by omega) (by omega)]; omega
 ·simp only [List.length_append,List.length_cons,List.length_nil]
  rw [wr64 (by omega) (by omega)]
  unfold FUEL; omega
abbrev SrtV (l : List GVoice) : Prop := l.Pairwise fun a b => ltV a b = true
theorem ltV_trans {a b c : GVoice} (h1 : ltV a b = true) (h2 : ltV b c = true) : ltV a c = true := by rw [ltV_iff] at *; omega
theorem ltV_irr (a : GVoice) : ¬ ltV a a = true := by rw [ltV_iff]; omega
theorem insK_ok (l : List GVoice) (v : GVoice) : ∀ n,insK l v n ≤ n ∧ (∀ m y,insK l v n ≤ m → m < n → l[m]? = some y → ltV y v = false) ∧ (insK l v n = 0 ∨ ∃ y,l[insK l v n - 1]? = some y ∧ ltV y v = true)
 | 0 => ⟨Nat.le_refl _,fun m y h1 h2 => by omega,.inl rfl⟩
 | k + 1 => by
  obtain ⟨h1,h2,h3⟩ := insK_ok l v k
  unfold insK
  cases hg : l[k]? with
  | none =>
   simp only
   refine ⟨by omega,fun m y a b c => ?_,h3⟩
   by_cases e : m = k
   ·subst e; rw [hg] at c; cases c
   ·exact h2 m y a (by omega) c
  | some y =>
   simp only
   cases hlt : ltV y v with
   | true => exact ⟨Nat.le_refl _,fun m y a b c => by simp only [cond_true] at a; omega,.inr ⟨y,by simpa using hg,hlt⟩⟩
   | false =>
    simp only [cond_false]
    refine ⟨by omega,fun m z a b c => ?_,h3⟩
    by_cases e : m = k
    ·subst e; rw [hg] at c; cases c; exact hlt
    ·exact h2 m z a (by omega) c
theorem mem_insV {l : List GVoice} {v y : GVoice} : y ∈ insV l v ↔ y = v ∨ y ∈ l := by
 unfold insV
 rw [List.mem_append,List.mem_cons]
 constructor
 ·rintro (h | h | h)
  ·exact .inr (List.mem_of_mem_take h)
  ·exact .inl h
  ·exact .inr (List.mem_of_mem_drop h)
 ·rintro (h | h)
  ·exact .inr (.inl h)
  ·rw [← List.take_append_drop (insK l v l.length) l,List.mem_append] at h
   exact h.imp id .inr
theorem insV_srt {l : List GVoice} {v : GVoice} (hs : SrtV l) (hn : ∀ y ∈ l,ltV y v = true ∨ ltV v y = true) : SrtV (insV l v) := by
 obtain ⟨h1,h2,h3⟩ := insK_ok l v l.length
 have before : ∀ y ∈ l.take (insK l v l.length),ltV y v = true := by
  intro y hy
  rcases h3 with h3 | ⟨z,hz,hlt⟩
  ·rw [h3] at hy; cases hy
  ·obtain ⟨m,hm⟩ := List.getElem?_of_mem hy
   rw [List.getElem?_take] at hm
   split at hm
   ·rename_i hlm
    by_cases e : m = insK l v l.length - 1
    ·subst e; rw [hz] at hm; cases hm; exact hlt
    ·have a1 := (List.getElem?_eq_some_iff.1 hm).1
     have a2 := (List.getElem?_eq_some_iff.1 hz).1
     have := List.pairwise_iff_getElem.1 hs m (insK l v l.length - 1) a1 a2 (by omega)
     rw [(List.getElem?_eq_some_iff.1 hm).2,(List.getElem?_eq_some_iff.1 hz).2] at this
     exact ltV_trans this hlt
   ·cases hm
 have behind : ∀ y ∈ l.drop (insK l v l.length),ltV v y = true := by
  intro y hy
  obtain ⟨m,hm⟩ := List.getElem?_of_mem hy
  rw [List.getElem?_drop] at hm
  have := h2 _ y (by omega) (List.getElem?_eq_some_iff.1 hm).1 hm
  rcases hn y (List.mem_of_getElem? hm) with h | h
  ·rw [h] at this; cases this
  ·exact h
 have hsp : SrtV (l.take (insK l v l.length) ++ l.drop (insK l v l.length)) := by rw [List.take_append_drop]; exact hs
 obtain ⟨q1,q2,q3⟩ := List.pairwise_append.1 hsp
 refine List.pairwise_append.2 ⟨q1,List.pairwise_cons.2 ⟨behind,q2⟩,fun a ha b hb => ?_⟩
 rcases List.mem_cons.1 hb with rfl | hb
 ·exact before a ha
 ·exact q3 a ha b hb
theorem fold_ins : ∀ (vs l : List GVoice),SrtV l → (∀ y ∈ l,∀ v ∈ vs,ltV y v = true ∨ ltV v y = true) → vs.Pairwise (fun a b => ltV a b = true ∨ ltV b a = true) → SrtV (vs.foldl insV l) ∧ ∀ y,y ∈ vs.foldl insV l ↔ y ∈ l ∨ y ∈ vs
 | [],l,hs,_,_ => ⟨hs,fun y => by simp⟩
 | v :: r,l,hs,hc,hp => by
  obtain ⟨p1,p2⟩ := List.pairwise_cons.1 hp
  obtain ⟨a1,a2⟩ := fold_ins r (insV l v) (insV_srt hs fun y hy => hc y hy v (by simp)) (fun y hy w hw => by
   rcases mem_insV.1 hy with rfl | hy
   ·exact p1 w hw
   ·exact hc y hy w (List.mem_cons_of_mem _ hw)) p2
  refine ⟨a1,fun y => ?_⟩
  simp only [List.foldl_cons,a2,mem_insV,List.mem_cons]
  constructor
  ·rintro ((h | h) | h)
   ·exact .inr (.inl h)
   ·exact .inl h
   ·exact .inr (.inr h)
  ·rintro (h | h | h)
   ·exact .inl (.inr h)
   ·exact .inl (.inl h)
   ·exact .inr h
theorem notes_nodup {ns : List GNote} (hd : DisjN ns) (hp : ∀ n ∈ ns,n.from_ < n.to_) : ns.Nodup := by
 refine List.Pairwise.imp_of_mem (fun {a b} ha hb h e => ?_) hd
 subst e
 have h1 := h rfl
 have h2 := hp a ha
 omega
theorem pairs_nodup {en : Int} : ∀ {ds : List GCDesk} {i : Nat},GoodD en ds → (pairsI i ds).Nodup
 | [],i,_ => List.nodup_nil
 | d :: r,i,h => by
  obtain ⟨_,g2,g3⟩ := h d (by simp)
  refine List.nodup_append.2 ⟨?_,pairs_nodup fun e he => h e (List.mem_cons_of_mem _ he),fun a ha b hb e => ?_⟩
  ·have hn := notes_nodup g2 fun n hn => (g3 n hn).2.1
   refine List.pairwise_map.2 (List.Pairwise.imp (fun {a b} hab e => hab ?_) hn)
   cases e; rfl
  ·subst e
   obtain ⟨n,hn,rfl⟩ := List.mem_map.1 ha
   obtain ⟨j,e,h1,h2,h3⟩ := pairs_mem.1 hb
   simp at h2
   omega
theorem srt_cmp {l : List GCLive} (h : Srt l) {x y : GCLive} (hx : x ∈ l) (hy : y ∈ l) : x = y ∨ keyLt x y ∨ keyLt y x := by
 obtain ⟨i,hi⟩ := List.getElem?_of_mem hx
 obtain ⟨j,hj⟩ := List.getElem?_of_mem hy
 by_cases h1 : i = j
 ·subst h1; rw [hi] at hj; cases hj; exact .inl rfl
 ·by_cases h2 : i < j
  ·exact .inr (.inl (srt_get h h2 hi hj))
  ·exact .inr (.inr (srt_get h (by omega) hj hi))
theorem key_lt {x y : GCLive} (h : keyLt x y) : ltV (voiceS x) (voiceS y) = true := ltV_iff.2 h
theorem notes_cmp {p : GCPlayer} {q : GRef09Player} {k : Nat} (h : RelP p q) (hb : BInv k p) : q.notes.Pairwise fun a b => a.sounds = true → b.sounds = true → ltV a.voice b.voice = true ∨ ltV b.voice a.voice = true := by
 have hnd := pairs_nodup (i := 0) hb.good
 rw [List.pairwise_iff_getElem]
 intro i j hi hj hij sa sb
 have li : i < (pairsI 0 p.desks).length := by rw [← h.notes.len]; exact hi
 have lj : j < (pairsI 0 p.desks).length := by rw [← h.notes.len]; exact hj
 have ra := h.notes.at_ i _ _ (List.getElem?_eq_getElem li) (List.getElem?_eq_getElem hi)
 have rb := h.notes.at_ j _ _ (List.getElem?_eq_getElem lj) (List.getElem?_eq_getElem hj)
 rw [ra.snd] at sa
 rw [rb.snd] at sb
 obtain ⟨x,hx,x1,x2⟩ := snd_iff.1 sa
 obtain ⟨y,hy,y1,y2⟩ := snd_iff.1 sb
 have va : q.notes[i].voice = voiceS x := by rw [ra.voice]; unfold voiceS; rw [x1,x2]
 have vb : q.notes[j].voice = voiceS y := by rw [rb.voice]; unfold voiceS; rw [y1,y2]
 rw [va,vb]
 rcases srt_cmp hb.srt hx hy with e | e | e
 ·exfalso
  subst e
  have := List.pairwise_iff_getElem.1 hnd i j li lj hij
  exact this (Prod.ext (by omega) (by rw [← x2,← y2]))
 ·exact .inl (key_lt e)
 ·exact .inr (key_lt e)
theorem voices_srt {l : List GCLive} (h : Srt l) : SrtV (l.map voiceS) := List.pairwise_map.2 (List.Pairwise.imp (fun {a b} hab => key_lt hab) h)
theorem f46_eq (q : GRef09Player) (hs : q.notes.length ≤ 1000000) : f46 q = some (((q.notes.filter (·.sounds)).map (·.voice)).foldl insV []) := by
 have hsm : Small q.notes := by simp only [Small]; omega
 unfold f46
 rw [loop_fold (fun (a : List GVoice) i => (a,i)) (fun _ a (m : GRef09Note) => (.inl (bif m.sounds then insV a m.voice else a) : List GVoice ⊕ List GVoice)) (fun a => a) q.notes (fun i a => a.length ≤ i) [] (small_fuel hsm) (by simp)]
 ·rw [foldE_inl (fun a (m : GRef09Note) => bif m.sounds then insV a m.voice else a)]
  simp only [Option.bind_some]
  congr 1
  have : ∀ (l : List GRef09Note) (a : List GVoice),l.foldl (fun a (m : GRef09Note) => bif m.sounds then insV a m.voice else a) a = ((l.filter (·.sounds)).map (·.voice)).foldl insV a := by
   intro l
   induction l with
   | nil => intro a; rfl
   | cons m r ih => intro a; simp only [List.foldl_cons,List.filter_cons,ih]; cases m.sounds <;> rfl
  exact this _ _
 ·intro i a m hm ha
  have hil := (List.getElem?_eq_some_iff.1 hm).1
  refine ⟨?_,fun a' he => by cases he; cases m.sounds <;> simp [insV_len] <;> omega⟩
  simp only [dltLen hm,cond_true,ixNat hm,Option.bind_some,wrLen hsm hm,f85_eq a m.voice (by omega)]
  cases m.sounds <;> rfl
 ·intro a _; simp
theorem notes_few {p : GCPlayer} {q : GRef09Player} {k : Nat} (h : RelP p q) (hb : BInv k p) : q.notes.length ≤ 6000 := by
 have := pairs_len p.desks 0 fun d hd => (hb.good d hd).1
 have := hb.desks
 rw [h.notes.len]; omega
theorem sound_rel {p : GCPlayer} {q : GRef09Player} {k : Nat} (h : RelP p q) (hb : BInv k p) : f46 q = some (p.sounding.l.map voiceS) := by
 rw [f46_eq q (by have := notes_few h hb; omega)]
 congr 1
 have hc : (((q.notes.filter (·.sounds)).map (·.voice))).Pairwise fun a b => ltV a b = true ∨ ltV b a = true := by
  refine List.pairwise_map.2 (List.Pairwise.imp_of_mem (fun {a b} ha hb' hab => hab (List.mem_filter.1 ha).2 (List.mem_filter.1 hb').2) (List.Pairwise.filter _ (notes_cmp h hb)))
 obtain ⟨h1,h2⟩ := fold_ins _ [] List.Pairwise.nil (fun y hy => by cases hy) hc
 refine srt_ext (R := fun a b => ltV a b = true) (fun _ _ _ => ltV_trans) ltV_irr h1 (voices_srt hb.srt) fun v => ?_
 rw [h2]
 simp only [List.not_mem_nil,false_or,List.mem_map,List.mem_filter]
 constructor
 ·rintro ⟨m,⟨hm,hs⟩,rfl⟩
  obtain ⟨x,hx,hr⟩ := h.notes.right hm
  rw [hr.snd] at hs
  obtain ⟨y,hy,e1,e2⟩ := snd_iff.1 hs
  exact ⟨y,hy,by rw [hr.voice]; unfold voiceS; rw [e1,e2]⟩
 ·rintro ⟨y,hy,rfl⟩
  obtain ⟨i,d,a1,a2,a3,a4,a5⟩ := hb.live y hy
  obtain ⟨m,hm,hr⟩ := h.notes.left (pairs_mem.2 ⟨i,d,a2,by simp,a3⟩ : (i,y.note) ∈ _)
  exact ⟨m,⟨hm,by rw [hr.snd]; exact snd_iff.2 ⟨y,hy,a1,rfl⟩⟩,by rw [hr.voice]; unfold voiceS; rw [a1]⟩
theorem same_list {α : Type} {e : α → α → Bool} (he : ∀ x,e x x = true) {body : Int → Option (Int ⊕ (Unit ⊕ Bool))} (l : List α) (hs : Small l)
  (hb : ∀ (i : Nat) y,l[i]? = some y → body (i : Int) = bif !(e y y) then some (.inr (.inr false)) else some (.inl (wr ((i : Int) + 1)))) (hx : body (l.length : Int) = some (.inr (.inl ()))) :
  (loopN body FUEL 0).bind (Sum.elim (fun (_ : Unit) => some true) some) = some true := by
 rw [loop_find l (fun _ => false) (fun _ _ => false) hs]
 ·have : ∀ (l : List α) (k : Nat),findS (fun _ : α => false) (fun _ _ => false) k l = .inl () := by
   intro l
   induction l with
   | nil => intro k; rfl
   | cons x r ih => intro k; simp only [findS,cond_false]; exact ih (k + 1)
  rw [this]; rfl
 ·intro i y hy
  rw [hb i y hy,he]
  rfl
 ·exact hx
theorem eqv_refl (x : GVoice) : eq_GVoice x x = true := by simp [eq_GVoice]
theorem eqt_refl (x : GTake) : eq_GTake x x = true := by simp [eq_GTake]
theorem f30_refl (l : List GVoice) (hs : Small l) : f30 l l = some true := by
 unfold f30
 have hd : decide ((l.length : Int) ≠ (l.length : Int)) = false := by simp
 rw [hd,cond_false]
 exact same_list eqv_refl l hs (fun i y hy => by simp only [dltLen hy,cond_true,ixNat hy,Option.bind_some]) (by simp)
theorem f47_refl (l : List GTake) (hs : Small l) : f47 l l = some true := by
 unfold f47
 have hd : decide ((l.length : Int) ≠ (l.length : Int)) = false := by simp
 rw [hd,cond_false]
 exact same_list eqt_refl l hs (fun i y hy => by simp only [dltLen hy,cond_true,ixNat hy,Option.bind_some]) (by simp)
theorem f25_refl (f : GFrame) (h1 : Small f.begin) (h2 : Small f.end_) : f25 f f = some true := by
 unfold f25
 simp [f30_refl _ h1,f30_refl _ h2]
theorem f38_eq (l : List GTake) (h : l.length ≤ 4000000000) : f38 l = some l := by
 unfold f38
 cases l with
 | nil => rfl
 | cons x r =>
  rw [need_one (by unfold maxElems; omega)]
  simp
theorem f39_eq (l : List GCDesk) (h : l.length ≤ 4000000000) : f39 l = some l := by
 unfold f39
 cases l with
 | nil => rfl
 | cons x r =>
  rw [need_one (by unfold maxElems; omega)]
  simp
theorem f82_eq (l : List GCLive) (h : l.length ≤ 4000000000) : f82 l = some l := by
 unfold f82
 cases l with
 | nil => rfl
 | cons x r =>
  rw [need_one (by unfold maxElems; omega)]
  simp
theorem f48_eq (q : GRef09Player) (h : q.takes.length ≤ 4000000000) : f48 q = some q.takes := by
 unfold f48
 generalize q.takes = l at h
 cases l with
 | nil => rfl
 | cons x r =>
  rw [need_one (by unfold maxElems; omega)]
  rfl
theorem f37_eq' (l : List GCLive) (h : l.length ≤ 4000000) : f37 l = some (l.map voiceS) := by
 have := f37_1_eq l h
 unfold f37_1 at this
 unfold f37
 exact this
theorem same_rel {p : GCPlayer} {q : GRef09Player} {k : Nat} (h : RelP p q) (hb : BInv k p) (hk : k ≤ 90) : f15 p q = some true := by
 have hsz := hb.size
 have hz : Sized p := roomy_sized (binv_roomy hb (by omega))
 have hn := notes_few h hb
 have hsm : Small (p.sounding.l.map voiceS) := by simp only [Small,List.length_map]; omega
 unfold f15
 rw [f41_eq p hz,next_rel h hb.live (by simp only [Small]; omega)]
 simp only [Option.bind_some,decide_true,cond_true,f9_1,f43,f10_1,f44,h.now,h.clock,f11_1_eq]
 unfold f45
 rw [next_rel h hb.live (by simp only [Small]; omega)]
 have e1 : (doneS p == decide ((bif doneS p then ((0 : Int),(92 : Int)) else (nextS p,0)).2 ≠ 0)) = true := by cases doneS p <;> rfl
 simp only [Option.bind_some,e1,cond_true]
 unfold f12_1 f13_1
 rw [f37_eq' p.sounding.l (by omega),sound_rel h hb]
 simp only [Option.bind_some,f30_refl _ hsm,cond_true,f38_eq p.takes (by omega),f48_eq q (by rw [h.takes]; omega),h.takes,f47_refl p.takes (by simp only [Small]; omega)]
end Go.Proofs.YtjjendjmakhfaaaGreat
