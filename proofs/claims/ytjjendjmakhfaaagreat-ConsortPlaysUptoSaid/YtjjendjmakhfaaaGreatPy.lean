/-
 Plain laws of the player,part 13: what sounds is kept in order; what begins does not sound yet.
 Own work. No Go text.
-/
import Derived.Test.YtjjendjmakhfaaaGreatPe
set_option linter.all false
namespace Go.Proofs.YtjjendjmakhfaaaGreat
open Go Go.Am
theorem put_mem {l : List GCLive} {x y : GCLive} (h : y ∈ putS l x) : y = x ∨ y ∈ l := by
 unfold putS at h
 rcases List.mem_append.1 h with h | h
 ·exact .inr (List.mem_of_mem_take h)
 ·rcases List.mem_cons.1 h with h | h
  ·exact .inl h
  ·exact .inr (List.mem_of_mem_drop h)
theorem ons_shapeV {p : GPiece} (hv : ValidP p) : ∃ s,onsS p = 0 :: s ∧ ascF 0 s ∧ s.length = p.events.length := by
 have hm := hv.many
 obtain ⟨s,h1,h2,h3⟩ := ons_asc p.events [] 0 0 (.inr fun e he => by
  have : p.events[0]? = some e := by rw [← List.head?_eq_getElem?]; exact he
  exact (hv.ev 0 e this).first rfl) (by omega) (by omega) (by omega) (by omega)
 exact ⟨s,h1,h2,h3⟩
def keyLt (x y : GCLive) : Prop := x.desk < y.desk ∨ (x.desk = y.desk ∧ x.note.course < y.note.course)
def Srt (l : List GCLive) : Prop := l.Pairwise keyLt
theorem keyLt_trans {x y z : GCLive} (h1 : keyLt x y) (h2 : keyLt y z) : keyLt x z := by
 unfold keyLt at *; omega
theorem keyLt_cmp (x y : GCLive) : cmpS x y < 0 ↔ keyLt x y := by
 unfold cmpS cmpI keyLt
 split <;> split <;> (try split) <;> (try split) <;> omega
theorem srt_get {l : List GCLive} (h : Srt l) {i j : Nat} {x y : GCLive} (hij : i < j) (hx : l[i]? = some x) (hy : l[j]? = some y) : keyLt x y := by
 obtain ⟨hi,rfl⟩ := List.getElem?_eq_some_iff.1 hx
 obtain ⟨hj,rfl⟩ := List.getElem?_eq_some_iff.1 hy
 exact List.pairwise_iff_getElem.1 h i j hi hj hij
theorem bs_srt (l : List GCLive) (x : GCLive) (hs : Small l) (h : Srt l) : ∀ (d i j fuel : Nat),j - i ≤ d → i ≤ j → j ≤ l.length → d < fuel →
  (∀ m y,m < i → l[m]? = some y → keyLt y x) → (∀ m y,j ≤ m → l[m]? = some y → ¬ keyLt y x) →
  ∃ r : Nat,loopN (bsBody l x) fuel ((i : Int),(j : Int)) = some (r : Int) ∧ r ≤ l.length ∧ (∀ m y,m < r → l[m]? = some y → keyLt y x) ∧ (∀ m y,r ≤ m → l[m]? = some y → ¬ keyLt y x)
 | d,i,j,0,_,_,_,h,_,_ => by omega
 | d,i,j,fuel + 1,h1,h2,h3,h4,ha,hb => by
  by_cases hlt : i < j
  ·have hd : decide ((i : Int) < (j : Int)) = true := by simp; omega
   have hs' := hs
   simp only [Small] at hs
   have hm := midS (i := i) (j := j) (by omega) (by omega)
   have hml : (i + j) / 2 < l.length := by omega
   have hg : l[(i + j) / 2]? = some l[(i + j) / 2] := List.getElem?_eq_getElem hml
   cases d with
   | zero => omega
   | succ d =>
    by_cases hc : cmpS l[(i + j) / 2] x < 0
    ·have hbd : bsBody l x ((i : Int),(j : Int)) = some (.inl ((((i + j) / 2 + 1 : Nat) : Int),(j : Int))) := by
      have hw : wr ((((i + j) / 2 : Nat) : Int) + 1) = (((i + j) / 2 + 1 : Nat) : Int) := wrNat (by omega)
      simp only [bsBody,hd,cond_true,hm,ixNat hg,Option.bind_some,f32_eq,hc,decide_true,hw]
     have hk := (keyLt_cmp _ _).1 hc
     obtain ⟨r,h5,h6⟩ := bs_srt l x hs' h d ((i + j) / 2 + 1) j fuel (by omega) (by omega) h3 (by omega) (fun m y hm2 hy => by
      by_cases he : m = (i + j) / 2
      ·subst he; rw [hg] at hy; cases hy; exact hk
      ·exact keyLt_trans (srt_get h (by omega) hy hg) hk) hb
     exact ⟨r,by simp only [loopN,hbd]; exact h5,h6⟩
    ·have hbd : bsBody l x ((i : Int),(j : Int)) = some (.inl ((i : Int),(((i + j) / 2 : Nat) : Int))) := by
      simp only [bsBody,hd,cond_true,hm,ixNat hg,Option.bind_some,f32_eq,hc,decide_false,cond_false]
     have hk : ¬ keyLt l[(i + j) / 2] x := fun hk => hc ((keyLt_cmp _ _).2 hk)
     obtain ⟨r,h5,h6⟩ := bs_srt l x hs' h d i ((i + j) / 2) fuel (by omega) (by omega) (by omega) (by omega) ha (fun m y hm2 hy => by
      by_cases he : m = (i + j) / 2
      ·subst he; rw [hg] at hy; cases hy; exact hk
      ·exact fun hyx => hk (keyLt_trans (srt_get h (by omega) hg hy) hyx))
     exact ⟨r,by simp only [loopN,hbd]; exact h5,h6⟩
  ·have hd : decide ((i : Int) < (j : Int)) = false := by simp; omega
   have : i = j := by omega
   subst this
   exact ⟨i,by simp only [loopN,bsBody,hd,cond_false],by omega,ha,hb⟩
theorem bsS_srt (l : List GCLive) (x : GCLive) (hs : Small l) (h : Srt l) : bsS l x ≤ l.length ∧ (∀ m y,m < bsS l x → l[m]? = some y → keyLt y x) ∧ ∀ m y,bsS l x ≤ m → l[m]? = some y → ¬ keyLt y x := by
 have h0 : l.length < FUEL := small_fuel hs
 obtain ⟨r,h1,h2,h3,h4⟩ := bs_srt l x hs h l.length 0 l.length FUEL (by omega) (by omega) (Nat.le_refl _) h0 (fun m y hm => by omega) (fun m y hm hy => by have := (List.getElem?_eq_some_iff.1 hy).1; omega)
 have key : ∃ b,f115 l x = some ((r : Int),b) := by
  unfold f115
  have h1' : loopN (bsBody l x) FUEL (0,(l.length : Int)) = some (r : Int) := h1
  unfold bsBody at h1'
  rw [h1']
  simp only [Option.bind_some]
  by_cases hr : r < l.length
  ·have hg : l[r]? = some l[r] := List.getElem?_eq_getElem hr
   have hd : decide ((r : Int) < (l.length : Int)) = true := by simp; omega
   exact ⟨decide (cmpS l[r] x = 0),by simp only [hd,cond_true,ixNat hg,Option.bind_some,f32_eq]⟩
  ·have hd : decide ((r : Int) < (l.length : Int)) = false := by simp; omega
   exact ⟨false,by simp only [hd,cond_false,Option.bind_some]⟩
 obtain ⟨b,hb⟩ := key
 have he : bsS l x = r := by unfold bsS; rw [hb]; simp
 rw [he]
 exact ⟨h2,h3,h4⟩
def sameK (x y : GCLive) : Prop := x.desk = y.desk ∧ x.note.course = y.note.course
theorem put_srt {l : List GCLive} {x : GCLive} (hs : Small l) (h : Srt l) (hn : ∀ y ∈ l,¬ sameK y x) : Srt (putS l x) := by
 obtain ⟨h1,h2,h3⟩ := bsS_srt l x hs h
 have hsplit : Srt (l.take (bsS l x) ++ l.drop (bsS l x)) := by rw [List.take_append_drop]; exact h
 obtain ⟨p1,p2,p3⟩ := List.pairwise_append.1 hsplit
 have hd : ∀ y ∈ l.drop (bsS l x),keyLt x y := by
  intro y hy
  obtain ⟨m,hm⟩ := List.getElem?_of_mem hy
  rw [List.getElem?_drop] at hm
  have a1 := h3 _ y (by omega) hm
  have a2 := hn y (List.mem_of_getElem? hm)
  unfold keyLt sameK at *; omega
 refine List.pairwise_append.2 ⟨p1,List.pairwise_cons.2 ⟨hd,p2⟩,fun a ha b hb => ?_⟩
 rcases List.mem_cons.1 hb with rfl | hb
 ·obtain ⟨m,hm⟩ := List.getElem?_of_mem ha
  rw [List.getElem?_take] at hm
  split at hm
  ·exact h2 m a (by assumption) hm
  ·cases hm
 ·exact p3 a ha b hb
def Adds : List GCLive → List GCLive → List GCLive → Prop
 | l,[],m => l = m
 | l,x :: xs,m => Small l ∧ Srt l ∧ (∀ y ∈ l,¬ sameK y x) ∧ Adds (putS l x) xs m
theorem adds_append : ∀ {xs ys l m n : List GCLive},Adds l xs m → Adds m ys n → Adds l (xs ++ ys) n
 | [],ys,l,m,n,h1,h2 => by cases h1; exact h2
 | x :: xs,ys,l,m,n,h1,h2 => ⟨h1.1,h1.2.1,h1.2.2.1,adds_append h1.2.2.2 h2⟩
theorem adds_srt : ∀ {xs l m : List GCLive},Adds l xs m → Srt l → Srt m
 | [],l,m,h,hs => by cases h; exact hs
 | x :: xs,l,m,h,hs => adds_srt h.2.2.2 (put_srt h.1 h.2.1 h.2.2.1)
theorem adds_mem : ∀ {xs l m : List GCLive},Adds l xs m → ∀ y ∈ m,y ∈ l ∨ y ∈ xs
 | [],l,m,h,y,hy => by cases h; exact .inl hy
 | x :: xs,l,m,h,y,hy => by
  rcases adds_mem h.2.2.2 y hy with h' | h'
  ·rcases put_mem h' with rfl | h'
   ·exact .inr (by simp)
   ·exact .inl h'
  ·exact .inr (by simp [h'])
theorem adds_len : ∀ {xs l m : List GCLive},Adds l xs m → m.length = l.length + xs.length
 | [],l,m,h => by cases h; simp
 | x :: xs,l,m,h => by
  have := adds_len h.2.2.2
  rw [put_len l x h.1] at this
  simp only [List.length_cons]; omega
def DisjN (ns : List GNote) : Prop := ns.Pairwise fun a b => a.course = b.course → a.to_ ≤ b.from_
theorem startN_adds (p : GCPlayer) (i : Nat) (d : GCDesk) : ∀ (l : List GNote) (a : List GCLive × List GVoice),a.1.length + l.length ≤ 1000000 → Srt a.1 → DisjN l → (∀ n ∈ l,n.from_ < n.to_) →
  (∀ x ∈ a.1,x.desk = (i : Int) → ∀ n ∈ l,n.from_ = p.now → x.note.course ≠ n.course) →
  ∃ xs,(l.foldl (startN p i d) a).2 = a.2 ++ xs.map voiceS ∧ Adds a.1 xs (l.foldl (startN p i d) a).1 ∧ (∀ x ∈ xs,x.desk = (i : Int) ∧ x.note ∈ l ∧ x.note.from_ = p.now) ∧ xs.length ≤ l.length
 | [],a,_,_,_,_,_ => ⟨[],by simp,rfl,(fun x hx => by cases hx),by simp⟩
 | n :: r,a,hl,hs,hd,hp,hc => by
  simp only [List.length_cons] at hl
  obtain ⟨hd1,hd2⟩ := List.pairwise_cons.1 hd
  simp only [List.foldl_cons]
  cases hb : begS p.now d n with
  | false =>
   have : startN p i d a n = a := by unfold startN; rw [hb]; rfl
   rw [this]
   obtain ⟨xs,h1,h2,h3,h4⟩ := startN_adds p i d r a (by omega) hs hd2 (fun m hm => hp m (List.mem_cons_of_mem _ hm)) (fun x hx he m hm => hc x hx he m (List.mem_cons_of_mem _ hm))
   exact ⟨xs,h1,h2,fun x hx => ⟨(h3 x hx).1,List.mem_cons_of_mem _ (h3 x hx).2.1,(h3 x hx).2.2⟩,by simp only [List.length_cons]; omega⟩
  | true =>
   have hn : n.from_ = p.now := by
    unfold begS at hb
    simp only [Bool.and_eq_true,decide_eq_true_eq] at hb
    exact hb.1
   have he : startN p i d a n = (putS a.1 (liveS p i n),a.2 ++ [voiceS (liveS p i n)]) := by unfold startN; rw [hb]; rfl
   rw [he]
   have hsm : Small a.1 := by simp only [Small]; omega
   have hno : ∀ y ∈ a.1,¬ sameK y (liveS p i n) := fun y hy hk => hc y hy hk.1 n (by simp) hn hk.2
   have hps := put_srt hsm hs hno
   have hpl := put_len a.1 (liveS p i n) hsm
   obtain ⟨xs,h1,h2,h3,h4⟩ := startN_adds p i d r (putS a.1 (liveS p i n),a.2 ++ [voiceS (liveS p i n)]) (by simp only [hpl]; omega) hps hd2 (fun m hm => hp m (List.mem_cons_of_mem _ hm)) (fun x hx hxe m hm hmn => by
    rcases put_mem hx with rfl | hx
    ·intro hcc
     have h5 := hd1 m hm hcc
     have h6 := hp n (by simp)
     omega
    ·exact hc x hx hxe m (List.mem_cons_of_mem _ hm) hmn)
   refine ⟨liveS p i n :: xs,by rw [h1]; simp,⟨hsm,hs,hno,h2⟩,fun x hx => ?_,by simp only [List.length_cons]; omega⟩
   rcases List.mem_cons.1 hx with rfl | hx
   ·exact ⟨rfl,by simp [liveS],hn⟩
   ·exact ⟨(h3 x hx).1,List.mem_cons_of_mem _ (h3 x hx).2.1,(h3 x hx).2.2⟩
def GoodD (en : Int) (ds : List GCDesk) : Prop := ∀ d ∈ ds,d.notes.length ≤ 1000 ∧ DisjN d.notes ∧ ∀ n ∈ d.notes,0 ≤ n.from_ ∧ n.from_ < n.to_ ∧ n.to_ ≤ en
theorem disj_not {ns : List GNote} (hd : DisjN ns) {a b : GNote} (ha : a ∈ ns) (hb : b ∈ ns) (hc : a.course = b.course) : a.to_ ≤ b.from_ ∨ b.to_ ≤ a.from_ ∨ a = b := by
 obtain ⟨i,hi⟩ := List.getElem?_of_mem ha
 obtain ⟨j,hj⟩ := List.getElem?_of_mem hb
 obtain ⟨hi',rfl⟩ := List.getElem?_eq_some_iff.1 hi
 obtain ⟨hj',rfl⟩ := List.getElem?_eq_some_iff.1 hj
 by_cases h1 : i < j
 ·exact .inl (List.pairwise_iff_getElem.1 hd i j hi' hj' h1 hc)
 ·by_cases h2 : j < i
  ·exact .inr (.inl (List.pairwise_iff_getElem.1 hd j i hj' hi' h2 hc.symm))
  ·have : i = j := by omega
   subst this
   exact .inr (.inr rfl)
theorem startI_adds (p : GCPlayer) (en : Int) : ∀ (l : List GCDesk) (i : Nat) (a : List GCLive × List GVoice),GoodD en l → a.1.length + 1000 * l.length ≤ 1000000 → Srt a.1 →
  (∀ x ∈ a.1,∀ (j : Nat) d,l[j]? = some d → x.desk = ((i + j : Nat) : Int) → x.note ∈ d.notes ∧ x.note.from_ < p.now ∧ p.now < x.note.to_) →
  ∃ xs,(foldI (startD p) i l a).2 = a.2 ++ xs.map voiceS ∧ Adds a.1 xs (foldI (startD p) i l a).1 ∧ (∀ x ∈ xs,x.note.from_ = p.now ∧ ∃ (j : Nat) (d : GCDesk),l[j]? = some d ∧ x.desk = ((i + j : Nat) : Int) ∧ x.note ∈ d.notes) ∧ xs.length ≤ 1000 * l.length
 | [],i,a,_,_,_,_ => ⟨[],by simp [foldI],rfl,(fun x hx => by cases hx),by simp⟩
 | d :: r,i,a,hg,hl,hs,ho => by
  obtain ⟨g1,g2,g3⟩ := hg d (by simp)
  simp only [List.length_cons] at hl
  obtain ⟨xs,h1,h2,h3,h4⟩ := startN_adds p i d d.notes a (by omega) hs g2 (fun n hn => (g3 n hn).2.1) (fun x hx he n hn hnn hcc => by
   obtain ⟨o1,o2,o3⟩ := ho x hx 0 d (by simp) (by rw [he]; rfl)
   have h5 := g3 n hn
   rcases disj_not g2 o1 hn hcc with h | h | h
   ·omega
   ·omega
   ·subst h; omega)
  have hsr := adds_srt h2 hs
  have hln := adds_len h2
  obtain ⟨ys,k1,k2,k3,k4⟩ := startI_adds p en r (i + 1) (startD p i a d) (fun e he => hg e (List.mem_cons_of_mem _ he)) (by unfold startD; omega) hsr (fun x hx j e hj he => by
   rcases adds_mem h2 x hx with hx | hx
   ·exact ho x hx (j + 1) e (by simpa using hj) (by rw [he]; omega)
   ·have := (h3 x hx).1
    omega)
  refine ⟨xs ++ ys,?_,adds_append h2 k2,fun x hx => ?_,by simp only [List.length_append,List.length_cons]; omega⟩
  ·simp only [foldI]
   rw [k1]
   unfold startD
   rw [h1]; simp
  ·rcases List.mem_append.1 hx with hx | hx
   ·obtain ⟨q1,q2,q3⟩ := h3 x hx
    exact ⟨q3,0,d,by simp,by rw [q1]; rfl,q2⟩
   ·obtain ⟨q1,j,e,q2,q3,q4⟩ := k3 x hx
    exact ⟨q1,j + 1,e,by simpa using q2,by rw [q3]; omega,q4⟩
def LiveAt (ds : List GCDesk) (now : Int) (x : GCLive) : Prop := ∃ (i : Nat) (d : GCDesk),x.desk = (i : Int) ∧ ds[i]? = some d ∧ x.note ∈ d.notes ∧ x.note.from_ ≤ now ∧ now < x.note.to_
structure BInv (k : Nat) (p : GCPlayer) : Prop where
 now : 0 ≤ p.now ∧ p.now ≤ p.end_ ∧ p.end_ ≤ 1000000
 desks : p.desks.length ≤ 6
 good : GoodD p.end_ p.desks
 rep : 0 < p.times → 0 ≤ p.from_ ∧ p.from_ < p.to_ ∧ p.to_ ≤ p.end_
 reps : 0 ≤ p.times ∧ p.times ≤ 100
 waits : p.waiting = true → p.sounding.l = []
 live : ∀ x ∈ p.sounding.l,LiveAt p.desks p.now x
 srt : Srt p.sounding.l
 size : p.sounding.l.length + p.takes.length ≤ 6000 * k
theorem binv_roomy {k : Nat} {p : GCPlayer} (h : BInv k p) (hk : k ≤ 100) : Roomy p :=
 ⟨by have := h.size; omega,h.desks,fun d hd => by have := (h.good d hd).1; omega,by have := h.size; omega⟩
def Fr (l : List GCLive) (e b : List GVoice) (m : List GCLive) : Prop := ∃ (q : GCLive → Bool) (xs : List GCLive),e = (l.filter q).map voiceS ∧ b = xs.map voiceS ∧ Adds (l.filter fun x => !q x) xs m
theorem filter_true {α : Type} (l : List α) : l.filter (fun _ => true) = l := List.filter_eq_self.2 fun _ _ => rfl
theorem fr_same (l : List GCLive) : Fr l [] [] l := ⟨fun _ => false,[],by simp,rfl,by simp [Adds]⟩
theorem next_gt {p : GCPlayer} (h : p.now < p.end_) : p.now < nextT p ∧ nextT p ≤ p.end_ := by
 have hl : ∀ t x,(p.now < t ∧ t ≤ p.end_) → p.now < laterS p.now t x ∧ laterS p.now t x ≤ p.end_ := by
  intro t x ht
  unfold laterS minI
  by_cases hx : p.now < x
  ·have hd : decide (p.now < x) = true := by simpa using hx
   rw [hd,cond_true]; split <;> omega
  ·have hd : decide (p.now < x) = false := by simpa using hx
   rw [hd,cond_false]; exact ht
 have hf : ∀ {α : Type} (f : Int → α → Int),(∀ t x,(p.now < t ∧ t ≤ p.end_) → p.now < f t x ∧ f t x ≤ p.end_) → ∀ (l : List α) t,(p.now < t ∧ t ≤ p.end_) → p.now < l.foldl f t ∧ l.foldl f t ≤ p.end_ := by
  intro α f hf l
  induction l with
  | nil => intro t ht; exact ht
  | cons x l ih => intro t ht; exact ih _ (hf t x ht)
 unfold nextT
 refine hf (nextD p.now) (fun t d ht => ?_) p.desks _ (hf _ (fun t x ht => hl t _ ht) p.sounding.l _ ?_)
 ·unfold nextD
  refine hf _ (fun t n ht => ?_) d.notes t ht
  cases canS d n with
  | false => exact ht
  | true => exact hl t _ ht
 ·cases decide (0 < p.times) with
  | false => exact ⟨h,Int.le_refl _⟩
  | true => exact hl _ _ ⟨h,Int.le_refl _⟩
theorem good_move {en : Int} {ds : List GCDesk} (h : GoodD en ds) (t : Int) : GoodD en (moveS ds t) := fun d hd => by
 obtain ⟨e,he,rfl⟩ := move_mem hd
 exact h e he
theorem start_b {k : Nat} {p : GCPlayer} (hn : 0 ≤ p.now ∧ p.now ≤ p.end_ ∧ p.end_ ≤ 1000000) (hd : p.desks.length ≤ 6) (hg : GoodD p.end_ p.desks) (hrep : 0 < p.times → 0 ≤ p.from_ ∧ p.from_ < p.to_ ∧ p.to_ ≤ p.end_) (hreps : 0 ≤ p.times ∧ p.times ≤ 100) (hw : p.waiting = false)
  (hl : ∀ x ∈ p.sounding.l,LiveAt p.desks p.now x ∧ x.note.from_ < p.now) (hs : Srt p.sounding.l) (hsz : p.sounding.l.length + p.takes.length ≤ 6000 * k) (hk : k ≤ 100) :
  BInv (k + 1) (begunS p) ∧ ∃ xs,(startS p).2 = xs.map voiceS ∧ Adds p.sounding.l xs (startS p).1 := by
 obtain ⟨xs,h1,h2,h3,h4⟩ := startI_adds p p.end_ p.desks 0 (p.sounding.l,[]) hg (by simp only; omega) hs (fun x hx j d hj he => by
  obtain ⟨⟨i,e,a1,a2,a3,a4,a5⟩,a6⟩ := hl x hx
  have : i = j := by omega
  subst this
  rw [hj] at a2; cases a2
  exact ⟨a3,a6,a5⟩)
 have hadd : Adds p.sounding.l xs (startS p).1 := h2
 have hlen := adds_len hadd
 refine ⟨⟨hn,hd,hg,hrep,hreps,(fun h => by rw [show (begunS p).waiting = p.waiting from rfl,hw] at h; cases h),fun x hx => ?_,adds_srt hadd hs,?_⟩,xs,by unfold startS; rw [h1]; rfl,hadd⟩
 ·rcases adds_mem hadd x hx with hx | hx
  ·exact (hl x hx).1
  ·obtain ⟨q1,j,d,q2,q3,q4⟩ := h3 x hx
   have := (hg d (List.mem_of_getElem? q2)).2.2 _ q4
   exact ⟨j,d,by rw [q3]; omega,q2,q4,by show _ ≤ p.now; omega,by show p.now < _; omega⟩
 ·show (startS p).1.length + p.takes.length ≤ _
  omega
theorem step_b {k : Nat} {p : GCPlayer} (h : BInv k p) (hk : k ≤ 90) : BInv (k + 1) (stepS p).2.2 ∧ (stepS p).2.2.end_ = p.end_ ∧ (stepS p).2.2.from_ = p.from_ ∧ (stepS p).2.2.to_ = p.to_ ∧ Fr p.sounding.l (stepS p).1.end_ (stepS p).1.begin (stepS p).2.2.sounding.l := by
 obtain ⟨n1,n2,n3⟩ := h.now
 unfold stepS
 cases hdn : doneS p with
 | true =>
  simp only [cond_true]
  exact ⟨⟨h.now,h.desks,h.good,h.rep,h.reps,h.waits,h.live,h.srt,by have := h.size; omega⟩,by trivial,by trivial,by trivial,fr_same _⟩
 | false =>
  simp only [cond_false]
  cases hw : p.waiting with
  | true =>
   simp only [cond_true]
   have hz := h.waits hw
   obtain ⟨b1,xs,b2,b3⟩ := start_b (k := k) (p := ⟨p.clock,p.now,p.end_,false,p.desks,p.from_,p.to_,p.times,p.sounding,p.takes⟩) h.now h.desks h.good h.rep h.reps rfl (fun x hx => by have hx : x ∈ p.sounding.l := hx; rw [hz] at hx; cases hx) h.srt h.size (by omega)
   refine ⟨b1,by trivial,by trivial,by trivial,fun _ => false,xs,by simp,b2,?_⟩
   have : (p.sounding.l.filter fun x => !(fun _ => false) x) = p.sounding.l := by simp
   rw [this]
   exact b3
  | false =>
   simp only [cond_false]
   have hlt : p.now < p.end_ := by
    unfold doneS at hdn
    rw [hw] at hdn
    simp only [Bool.not_false,Bool.true_and,decide_eq_false_iff_not] at hdn
    omega
   obtain ⟨t1,t2⟩ := next_gt hlt
   have hnx : ∀ x ∈ p.sounding.l,nextT p ≤ x.note.to_ := fun x hx => by
    obtain ⟨i,d,a1,a2,a3,a4,a5⟩ := h.live x hx
    exact next_live hx a5
   cases hr : (decide (0 < p.times) && decide (nextT p = p.to_)) with
   | true =>
    simp only [cond_true]
    simp only [Bool.and_eq_true,decide_eq_true_eq] at hr
    obtain ⟨r1,r2,r3⟩ := h.rep hr.1
    obtain ⟨q1,q2⟩ := h.reps
    have hwt : wr (p.times - 1) = p.times - 1 := wr64 (by omega) (by omega)
    rw [hwt]
    obtain ⟨b1,xs,b2,b3⟩ := start_b (k := k) (p := ⟨⟨wr (p.clock.ticks + wr (nextT p - p.now))⟩,p.from_,p.end_,false,moveS p.desks p.from_,p.from_,p.to_,p.times - 1,⟨[]⟩,p.takes ++ p.sounding.l.map (takeS (wr (p.clock.ticks + wr (nextT p - p.now))))⟩) ⟨r1,by show p.from_ ≤ p.end_; omega,n3⟩ (by show (moveS p.desks p.from_).length ≤ 6; simp only [moveS,List.length_map]; exact h.desks) (good_move h.good _) (fun _ => ⟨r1,r2,r3⟩) ⟨by show 0 ≤ p.times - 1; omega,by show p.times - 1 ≤ 100; omega⟩ rfl (fun x hx => by cases hx) List.Pairwise.nil (by have := h.size; simp only [List.length_append,List.length_map,List.length_nil]; omega) (by omega)
    refine ⟨b1,by trivial,by trivial,by trivial,fun _ => true,xs,by simp only [filter_true],b2,?_⟩
    have : (p.sounding.l.filter fun x => !(fun _ => true) x) = [] := by simp
    rw [this]
    exact b3
   | false =>
    simp only [cond_false]
    obtain ⟨b1,xs,b2,b3⟩ := start_b (k := k) (p := ⟨⟨wr (p.clock.ticks + wr (nextT p - p.now))⟩,nextT p,p.end_,false,p.desks,p.from_,p.to_,p.times,⟨p.sounding.l.filter fun x => !atS (nextT p) x⟩,p.takes ++ (p.sounding.l.filter (atS (nextT p))).map (takeS (wr (p.clock.ticks + wr (nextT p - p.now))))⟩) ⟨by show 0 ≤ nextT p; omega,t2,n3⟩ h.desks h.good h.rep h.reps rfl (fun x hx => by
      obtain ⟨hx1,hx2⟩ := List.mem_filter.1 hx
      obtain ⟨i,d,a1,a2,a3,a4,a5⟩ := h.live x hx1
      have h1 := hnx x hx1
      have h2 : ¬ x.note.to_ = nextT p := by unfold atS at hx2; simpa using hx2
      exact ⟨⟨i,d,a1,a2,a3,by show _ ≤ nextT p; omega,by show nextT p < _; omega⟩,by show _ < nextT p; omega⟩) (List.Pairwise.filter _ h.srt) (by
      have h1 := (List.filter_append_perm (atS (nextT p)) p.sounding.l).length_eq
      have h2 := h.size
      simp only [List.length_append,List.length_map] at h1 ⊢
      omega) (by omega)
    exact ⟨b1,by trivial,by trivial,by trivial,atS (nextT p),xs,rfl,b2,b3⟩
def seekB (p : GCPlayer) (t : Int) : GFrame × GCPlayer :=
 bif decide (0 ≤ t) && decide (t ≤ p.end_) then (⟨t,[],p.sounding.l.map voiceS⟩,⟨p.clock,t,p.end_,true,moveS p.desks t,p.from_,p.to_,p.times,⟨[]⟩,p.takes ++ p.sounding.l.map (takeS p.clock.ticks)⟩) else (noFrame,p)
theorem within_eq (a b c : Int) : f58 a b c = some (decide (b ≤ a) && decide (a ≤ c)) := by
 unfold f58
 cases decide (b ≤ a) <;> rfl
theorem seek_b {k : Nat} {p : GCPlayer} (h : BInv k p) (t : Int) : BInv (k + 1) (seekB p t).2 ∧ (seekB p t).2.end_ = p.end_ ∧ Fr p.sounding.l (seekB p t).1.end_ (seekB p t).1.begin (seekB p t).2.sounding.l := by
 unfold seekB
 cases hc : (decide (0 ≤ t) && decide (t ≤ p.end_)) with
 | false => exact ⟨⟨h.now,h.desks,h.good,h.rep,h.reps,h.waits,h.live,h.srt,by have := h.size; show p.sounding.l.length + p.takes.length ≤ _; omega⟩,rfl,fr_same _⟩
 | true =>
  simp only [Bool.and_eq_true,decide_eq_true_eq] at hc
  refine ⟨⟨⟨hc.1,hc.2,h.now.2.2⟩,by show (moveS p.desks t).length ≤ 6; simp only [moveS,List.length_map]; exact h.desks,good_move h.good t,h.rep,h.reps,fun _ => rfl,(fun x hx => by cases hx),List.Pairwise.nil,?_⟩,rfl,fun _ => true,[],by rw [filter_true]; rfl,rfl,?_⟩
  ·have := h.size
   show 0 + (p.takes ++ p.sounding.l.map _).length ≤ _
   simp only [List.length_append,List.length_map]; omega
  ·show (p.sounding.l.filter fun x => !(fun _ => true) x) = []
   simp
theorem f15_b {k : Nat} {p : GCPlayer} (h : BInv k p) (hk : k ≤ 90) (t : Int) : f19 p t = some ((seekB p t).1,(bif decide (0 ≤ t) && decide (t ≤ p.end_) then (0 : Int) else 1),(seekB p t).2.now,(seekB p t).2.waiting,(seekB p t).2.desks,(seekB p t).2.sounding.l,(seekB p t).2.takes) := by
 have hsz := h.size
 unfold f19 seekB
 rw [within_eq]
 simp only [Option.bind_some]
 cases hc : (decide (0 ≤ t) && decide (t ≤ p.end_)) with
 | false => rfl
 | true =>
  simp only [Bool.not_true,cond_false,cond_true]
  rw [f51_eq p (by omega) (by omega)]
  simp only [Option.bind_some]
  rw [f53_eq _ _ (by show p.desks.length ≤ 6; exact h.desks)]
  rfl
def repB (p : GCPlayer) (a b t : Int) : GCPlayer :=
 bif decide (0 ≤ a) && (decide (a < b) && (decide (b ≤ p.end_) && (decide (0 ≤ t) && decide (t ≤ 100)))) then ⟨p.clock,p.now,p.end_,p.waiting,p.desks,a,b,t,p.sounding,p.takes⟩ else p
theorem rep_b {k : Nat} {p : GCPlayer} (h : BInv k p) (a b t : Int) : BInv (k + 1) (repB p a b t) ∧ (repB p a b t).end_ = p.end_ ∧ (repB p a b t).sounding = p.sounding := by
 unfold repB
 cases hc : (decide (0 ≤ a) && (decide (a < b) && (decide (b ≤ p.end_) && (decide (0 ≤ t) && decide (t ≤ 100))))) with
 | false => exact ⟨⟨h.now,h.desks,h.good,h.rep,h.reps,h.waits,h.live,h.srt,by have := h.size; show p.sounding.l.length + p.takes.length ≤ _; omega⟩,rfl,rfl⟩
 | true =>
  simp only [Bool.and_eq_true,decide_eq_true_eq] at hc
  exact ⟨⟨h.now,h.desks,h.good,fun _ => ⟨hc.1,hc.2.1,hc.2.2.1⟩,hc.2.2.2,h.waits,h.live,h.srt,by have := h.size; show p.sounding.l.length + p.takes.length ≤ _; omega⟩,rfl,rfl⟩
theorem f18_b (p : GCPlayer) (a b t : Int) : f21 p a b t = some ((bif decide (0 ≤ a) && (decide (a < b) && (decide (b ≤ p.end_) && (decide (0 ≤ t) && decide (t ≤ 100)))) then (0 : Int) else 1),(repB p a b t).from_,(repB p a b t).to_,(repB p a b t).times) := by
 unfold f21 repB
 rw [within_eq]
 by_cases h1 : a < 0
 ·have d1 : decide (a < 0) = true := by simpa using h1
  have d2 : decide (0 ≤ a) = false := by simp; omega
  simp only [d1,d2,cond_true,Option.bind_some,Bool.false_and,cond_false]
 ·have d1 : decide (a < 0) = false := by simpa using h1
  have d2 : decide (0 ≤ a) = true := by simp; omega
  simp only [d1,d2,cond_false,Bool.true_and]
  by_cases h2 : b ≤ a
  ·have d3 : decide (b ≤ a) = true := by simpa using h2
   have d4 : decide (a < b) = false := by simp; omega
   simp only [d3,d4,cond_true,Option.bind_some,Bool.false_and,cond_false]
  ·have d3 : decide (b ≤ a) = false := by simpa using h2
   have d4 : decide (a < b) = true := by simp; omega
   simp only [d3,d4,cond_false,Bool.true_and]
   by_cases h3 : p.end_ < b
   ·have d5 : decide (p.end_ < b) = true := by simpa using h3
    have d6 : decide (b ≤ p.end_) = false := by simp; omega
    simp only [d5,d6,cond_true,Option.bind_some,Bool.false_and,cond_false]
   ·have d5 : decide (p.end_ < b) = false := by simpa using h3
    have d6 : decide (b ≤ p.end_) = true := by simp; omega
    simp only [d5,d6,cond_false,Bool.true_and,Option.bind_some]
    cases (decide (0 ≤ t) && decide (t ≤ 100)) <;> rfl
def ofDesk (i : Int) (x : GCLive) : Bool := decide (x.desk = i)
def muteB (p : GCPlayer) (i : Int) (s : Bool) : GFrame × GCPlayer :=
 match ix p.desks i with
 | none => (noFrame,p)
 | some d =>
  bif d.silent == s then (⟨p.now,[],[]⟩,p) else
  bif s then (⟨p.now,[],(p.sounding.l.filter (ofDesk i)).map voiceS⟩,⟨p.clock,p.now,p.end_,p.waiting,p.desks.set i.toNat ⟨d.notes,true,d.since⟩,p.from_,p.to_,p.times,⟨p.sounding.l.filter fun x => !ofDesk i x⟩,p.takes ++ (p.sounding.l.filter (ofDesk i)).map (takeS p.clock.ticks)⟩)
  else (⟨p.now,[],[]⟩,⟨p.clock,p.now,p.end_,p.waiting,p.desks.set i.toNat ⟨d.notes,false,bif p.waiting then p.now else wr (p.now + 1)⟩,p.from_,p.to_,p.times,p.sounding,p.takes⟩)
theorem f87_2_eq (p : GCPlayer) (i : Int) (h : p.sounding.l.length ≤ 4000000) : f87_2 p i = some (p.sounding.l.filter (ofDesk i),p.sounding.l.filter fun x => !ofDesk i x) := by
 have hs : Small p.sounding.l := by simp only [Small]; omega
 unfold f87_2
 rw [loop_fold (fun (a : List GCLive × List GCLive) i => (a.1,a.2,i)) (fun _ a (x : GCLive) => (.inl (bif ofDesk i x then (a.1 ++ [x],a.2) else (a.1,a.2 ++ [x])) : (List GCLive × List GCLive) ⊕ (List GCLive × List GCLive))) (fun a => a) p.sounding.l (fun i a => a.1.length ≤ i ∧ a.2.length ≤ i) ([],[]) (small_fuel hs) (by simp)]
 ·have : ∀ (l : List GCLive) (k : Nat) (a : List GCLive × List GCLive),foldE (fun _ a (x : GCLive) => (.inl (bif ofDesk i x then (a.1 ++ [x],a.2) else (a.1,a.2 ++ [x])) : (List GCLive × List GCLive) ⊕ (List GCLive × List GCLive))) (fun a => a) k l a = (a.1 ++ l.filter (ofDesk i),a.2 ++ l.filter fun x => !ofDesk i x) := by
   intro l
   induction l with
   | nil => intro k a; simp [foldE]
   | cons x l ih =>
    intro k a
    simp only [foldE,ih]
    cases hx : ofDesk i x <;> simp [hx]
  rw [this]; simp
 ·intro j a x hx ⟨ha1,ha2⟩
  have hil := (List.getElem?_eq_some_iff.1 hx).1
  have hm1 : a.1.length + 1 ≤ maxElems := by unfold maxElems; omega
  have hm2 : a.2.length + 1 ≤ maxElems := by unfold maxElems; omega
  refine ⟨?_,fun a' he => by cases he; cases ofDesk i x <;> simp <;> omega⟩
  simp only [dltLen hx,cond_true,ixNat hx,Option.bind_some,f59,need,if_pos hm1,if_pos hm2,wrLen hs hx,ofDesk]
  cases decide (x.desk = i) <;> rfl
 ·intro a _; simp
theorem f51_2_eq (p : GCPlayer) (i : Int) (h : p.sounding.l.length ≤ 1000000) (ht : p.takes.length ≤ 4000000000) :
  f51_2 p i = some ((p.sounding.l.filter (ofDesk i)).map voiceS,(p.sounding.l.filter fun x => !ofDesk i x),p.takes ++ (p.sounding.l.filter (ofDesk i)).map (takeS p.clock.ticks)) := by
 have hl : (p.sounding.l.filter (ofDesk i)).length ≤ 1000000 := Nat.le_trans (List.length_filter_le _ _) h
 unfold f51_2
 rw [f87_2_eq p i (by omega)]
 simp only [Option.bind_some]
 rw [take_loop (p.sounding.l.filter (ofDesk i)) p.clock.ticks p.takes hl ht,f37_1_eq _ (by omega)]
 rfl
theorem ix_some {α : Type} {l : List α} {i : Int} {d : α} (h : ix l i = some d) : 0 ≤ i ∧ i ≤ (l.length : Int) - 1 ∧ l[i.toNat]? = some d ∧ ((i.toNat : Nat) : Int) = i := by
 unfold ix at h
 split at h
 ·have := (List.getElem?_eq_some_iff.1 h).1
  exact ⟨by assumption,by omega,h,by omega⟩
 ·cases h
theorem ix_none {α : Type} {l : List α} {i : Int} (h : ix l i = none) : i < 0 ∨ (l.length : Int) - 1 < i := by
 unfold ix at h
 split at h
 ·have := List.getElem?_eq_none_iff.1 h
  omega
 ·omega
theorem set_set2 {α : Type} (l : List α) (i : Nat) (a b : α) : (l.set i a).set i b = l.set i b := by simp
theorem f25_b {k : Nat} {p : GCPlayer} (h : BInv k p) (hk : k ≤ 90) (i : Int) (s : Bool) : f23 p i s = some ((muteB p i s).1,(match ix p.desks i with | none => (1 : Int) | some _ => 0),(muteB p i s).2.desks,(muteB p i s).2.sounding.l,(muteB p i s).2.takes) := by
 have hsz := h.size
 have hd6 := h.desks
 have hw : wr ((p.desks.length : Int) - 1) = (p.desks.length : Int) - 1 := wr64 (by omega) (by omega)
 unfold f23 muteB
 rw [within_eq,hw]
 simp only [Option.bind_some]
 cases hx : ix p.desks i with
 | none =>
  have hc : (decide (0 ≤ i) && decide (i ≤ (p.desks.length : Int) - 1)) = false := by
   have := ix_none hx
   simp only [Bool.and_eq_false_iff,decide_eq_false_iff_not]; omega
  rw [hc]
  rfl
 | some d =>
  obtain ⟨x1,x2,x3,x4⟩ := ix_some hx
  have hl := (List.getElem?_eq_some_iff.1 x3).1
  have hc : (decide (0 ≤ i) && decide (i ≤ (p.desks.length : Int) - 1)) = true := by
   simp only [Bool.and_eq_true,decide_eq_true_eq]; omega
  rw [hc]
  simp only [Bool.not_true,cond_false,Option.bind_some]
  cases hsl : (d.silent == s) with
  | true => rfl
  | false =>
   simp only [cond_false]
   cases s with
   | true =>
    simp only [cond_true]
    rw [f51_2_eq p i (by omega) (by omega)]
    rfl
   | false =>
    have ixs : ∀ (e : GCDesk),ix (p.desks.set i.toNat e) i = some e := fun e => by
     unfold ix
     rw [if_pos x1,List.getElem?_set,if_pos rfl,if_pos hl]
    simp only [cond_false,ixs,Option.bind_some,set_set2]
    cases p.waiting with
    | true =>
     simp only [Bool.not_true,cond_false,cond_true,Option.bind_some]
    | false =>
     simp only [Bool.not_false,cond_true,cond_false,Option.bind_some]
theorem live_set {ds : List GCDesk} {now : Int} {x : GCLive} (h : LiveAt ds now x) {j : Nat} {d e : GCDesk} (hj : ds[j]? = some d) (he : e.notes = d.notes) : LiveAt (ds.set j e) now x := by
 obtain ⟨i,d',a1,a2,a3,a4,a5⟩ := h
 by_cases hij : j = i
 ·subst hij
  rw [hj] at a2; cases a2
  exact ⟨j,e,a1,by rw [List.getElem?_set,if_pos rfl,if_pos (List.getElem?_eq_some_iff.1 hj).1],by rw [he]; exact a3,a4,a5⟩
 ·exact ⟨i,d',a1,by rw [List.getElem?_set,if_neg hij]; exact a2,a3,a4,a5⟩
theorem good_set {en : Int} {ds : List GCDesk} (h : GoodD en ds) {j : Nat} {d e : GCDesk} (hj : ds[j]? = some d) (he : e.notes = d.notes) : GoodD en (ds.set j e) := by
 intro x hx
 rcases List.mem_or_eq_of_mem_set hx with hx | rfl
 ·exact h x hx
 ·rw [he]; exact h d (List.mem_of_getElem? hj)
theorem mute_b {k : Nat} {p : GCPlayer} (h : BInv k p) (hk : k ≤ 90) (i : Int) (s : Bool) : BInv (k + 1) (muteB p i s).2 ∧ (muteB p i s).2.end_ = p.end_ ∧ Fr p.sounding.l (muteB p i s).1.end_ (muteB p i s).1.begin (muteB p i s).2.sounding.l := by
 have hsame : BInv (k + 1) p := ⟨h.now,h.desks,h.good,h.rep,h.reps,h.waits,h.live,h.srt,by have := h.size; omega⟩
 unfold muteB
 cases hx : ix p.desks i with
 | none => exact ⟨hsame,rfl,fr_same _⟩
 | some d =>
  obtain ⟨x1,x2,x3,x4⟩ := ix_some hx
  simp only
  cases hsl : (d.silent == s) with
  | true => exact ⟨hsame,rfl,fr_same _⟩
  | false =>
   simp only [cond_false]
   cases s with
   | true =>
    simp only [cond_true]
    refine ⟨⟨h.now,by simp only [List.length_set]; exact h.desks,good_set h.good x3 rfl,h.rep,h.reps,fun hw => ?_,fun x hxx => ?_,List.Pairwise.filter _ h.srt,?_⟩,by trivial,ofDesk i,[],rfl,rfl,rfl⟩
    ·have := h.waits hw
     simp only [this,List.filter_nil]
    ·exact live_set (h.live x (List.mem_filter.1 hxx).1) x3 rfl
    ·have h1 := (List.filter_append_perm (ofDesk i) p.sounding.l).length_eq
     have h2 := h.size
     simp only [List.length_append,List.length_map] at h1 ⊢
     omega
   | false =>
    simp only [cond_false]
    exact ⟨⟨h.now,by simp only [List.length_set]; exact h.desks,good_set h.good x3 rfl,h.rep,h.reps,h.waits,fun x hxx => live_set (h.live x hxx) x3 rfl,h.srt,by have := h.size; show p.sounding.l.length + p.takes.length ≤ _; omega⟩,by trivial,fr_same _⟩
theorem long_free (c : Int) : ∀ (l : List GEvent) (k : Nat) (h : Int),0 ≤ h → h ≤ 15 → ∀ (m : Nat) e,l[m]? = some e → h + (m : Int) < foldE (longStep c) (fun h => h) k l h → plucksS e c = false ∧ restS e = false
 | [],k,h,_,_,m,e,he,_ => by simp at he
 | x :: r,k,h,h0,h1,m,e,he,hlt => by
  simp only [foldE,longStep] at hlt
  cases hc : (decide (h = 15) || (restS x || plucksS x c)) with
  | true =>
   rw [hc] at hlt
   simp only [cond_true] at hlt
   omega
  | false =>
   rw [hc] at hlt
   simp only [Bool.or_eq_false_iff,decide_eq_false_iff_not] at hc
   have hw : wr (h + 1) = h + 1 := wr64 (by omega) (by omega)
   simp only [cond_false,hw] at hlt
   cases m with
   | zero => simp at he; subst he; exact ⟨hc.2.2,hc.2.1⟩
   | succ m => exact long_free c r (k + 1) (h + 1) (by omega) (by omega) m e (by simpa using he) (by omega)
theorem on_mono {p : GPiece} (hv : ValidP p) {i j : Nat} (hij : i ≤ j) (hj : j ≤ p.events.length) : onN p i ≤ onN p j := by
 obtain ⟨s,s1,s2,s3⟩ := ons_shapeV hv
 have hol : (onsS p).length = p.events.length + 1 := by unfold onsS; rw [ons_len]; simp; omega
 have h1 := onN_get (p := p) (i := i) (by omega)
 have h2 := onN_get (p := p) (i := j) (by omega)
 by_cases he : i = j
 ·subst he; exact Int.le_refl _
 ·rw [s1] at h1 h2
  have := asc_lt s 0 s2 i j _ _ (by omega) h1 h2
  omega
def ordN (x y : Nat × GStop) : Prop := x.1 < y.1 ∨ (x.1 = y.1 ∧ x.2.course < y.2.course)
theorem stops_ord {p : GPiece} (hv : ValidP p) : ∀ k,(stopsN p k).Pairwise ordN
 | 0 => List.Pairwise.nil
 | k + 1 => by
  refine List.pairwise_append.2 ⟨stops_ord hv k,?_,fun a ha b hb => ?_⟩
  ·unfold stopsAt
   cases he : p.events[k]? with
   | none => exact List.Pairwise.nil
   | some e =>
    simp only [Option.map_some,Option.getD_some]
    rw [List.pairwise_map,List.pairwise_iff_getElem]
    intro i j hi hj hij
    exact .inr ⟨rfl,stops_asc hv he j i _ _ hij (List.getElem?_eq_getElem hi) (List.getElem?_eq_getElem hj)⟩
  ·have h1 := (mem_stopsN ha).1
   have h2 := (mem_stopsAt hb).1
   exact .inl (by omega)
theorem end_le {p : GPiece} (hv : ValidP p) {x : Nat × GStop} {j : Nat} {e e' : GEvent} (he : p.events[x.1]? = some e) (hx : x.2 ∈ e.stops) (hj : x.1 < j) (hje : p.events[j]? = some e') (hp : plucksS e' x.2.course = true) : endN p x ≤ j := by
 have hxl := (List.getElem?_eq_some_iff.1 he).1
 unfold endN
 by_cases hf : 0 < x.2.fret
 ·have hd : decide (0 < x.2.fret) = true := by simpa using hf
  rw [hd,cond_true]
  obtain ⟨q,hq⟩ := List.getElem?_of_mem hx
  have hso := (hv.ev x.1 e he).stops q _ hq
  have hh := hso.hold
  have hlb := long_bound x.2.course (p.events.drop (x.1 + 1)) 0 0 (by omega) (by omega)
  rw [List.length_drop] at hlb
  have hlf := long_free x.2.course (p.events.drop (x.1 + 1)) 0 0 (by omega) (by omega)
  unfold longS at hh
  have hjh : x.1 + x.2.hold.toNat < j := by
   by_cases hlt : x.1 + x.2.hold.toNat < j
   ·exact hlt
   ·have := (hlf (j - (x.1 + 1)) e' (by rw [List.getElem?_drop,show x.1 + 1 + (j - (x.1 + 1)) = j by omega]; exact hje) (by omega)).1
    rw [hp] at this; cases this
  obtain ⟨s1,s2,s3,s4,s5⟩ := stay_N p x.1 x.2.hold (by omega)
  refine s3 j e' hjh hje ?_
  cases ht : e'.tie with
  | false => rfl
  | true =>
   have := ((hv.ev j e' hje).tie ht).2
   unfold plucksS at hp
   rw [this] at hp
   cases hp
 ·have hd : decide (0 < x.2.fret) = false := by simpa using hf
  rw [hd,cond_false]
  exact (open_ok p x.1 x.2.course hxl).2.2.1 j e' hj hje (by unfold endsC; rw [hp]; simp)
theorem notes_disj {p : GPiece} (hv : ValidP p) : DisjN (notesN p) := by
 unfold DisjN notesN
 rw [List.pairwise_map]
 refine List.Pairwise.imp_of_mem (fun {a b} ha hb hab => ?_) (stops_ord hv p.events.length)
 intro hc
 have hc : a.2.course = b.2.course := hc
 obtain ⟨a1,ea,a2,a3⟩ := mem_stopsN ha
 obtain ⟨b1,eb,b2,b3⟩ := mem_stopsN hb
 have hlt : a.1 < b.1 := by unfold ordN at hab; omega
 exact on_mono hv (end_le hv a2 a3 hlt b2 (plucks_mem.2 ⟨b.2,b3,hc.symm⟩)) (by omega)
end Go.Proofs.YtjjendjmakhfaaaGreat
