/-
 Plain laws of the player,part 1: what its methods compute.
 Own work. No Go text.
-/
import Derived.Test.YtjjendjmakhfaaaGreatLq
import Derived.Test.YtjjendjmakhfaaaGreatTP
set_option linter.all false
namespace Go.Proofs.YtjjendjmakhfaaaGreat
open Go Go.Am
theorem andE (a b : Bool) : (bif a then some b else some false) = some (a && b) := by cases a <;> rfl
def foldI {α A : Type} (f : Nat → A → α → A) : Nat → List α → A → A
 | _,[],a => a
 | k,y :: r,a => foldI f (k + 1) r (f k a y)
theorem foldE_foldI {α A τ : Type} (f : Nat → A → α → A) (fin : A → τ) : ∀ (l : List α) (k : Nat) (a : A),foldE (fun i a y => (.inl (f i a y) : A ⊕ τ)) fin k l a = fin (foldI f k l a)
 | [],_,_ => rfl
 | y :: r,k,a => by simp only [foldE,foldE_foldI f fin r,foldI]
def laterS (now t x : Int) : Int := bif decide (now < x) then minI t x else t
theorem f114_eq (x : Int) (p : GCPlayer) (t : Int) : f114 x p t = some (laterS p.now t x) := by
 unfold f114 laterS
 cases decide (p.now < x) <;> rfl
def canS (d : GCDesk) (n : GNote) : Bool := !d.silent && decide (d.since ≤ n.from_)
def nextD (now : Int) (t : Int) (d : GCDesk) : Int := d.notes.foldl (fun t n => bif canS d n then laterS now t n.from_ else t) t
def nextT (p : GCPlayer) : Int :=
 p.desks.foldl (nextD p.now) (p.sounding.l.foldl (fun t x => laterS p.now t x.note.to_) (bif decide (0 < p.times) then laterS p.now p.end_ p.to_ else p.end_))
def nextS (p : GCPlayer) : Int := bif p.waiting then p.now else nextT p
def Sized (p : GCPlayer) : Prop := p.sounding.l.length ≤ 1000000 ∧ p.desks.length ≤ 6 ∧ (∀ d ∈ p.desks,d.notes.length ≤ 10000) ∧ p.takes.length ≤ 4000000000
theorem f83_eq (p : GCPlayer) (h : Sized p) : f83 p = some (nextS p) := by
 obtain ⟨h1,h2,h3,_⟩ := h
 have hs : Small p.sounding.l := by simp only [Small]; omega
 have hd : Small p.desks := by simp only [Small]; omega
 unfold f83 nextS
 cases p.waiting with
 | true => rfl
 | false =>
  simp only [cond_false]
  have e1 : ((bif (decide (0 < p.times)) then ((f114 p.to_ p p.end_).bind fun r3 => some r3) else (some p.end_)) : Option Int) = some (bif decide (0 < p.times) then laterS p.now p.end_ p.to_ else p.end_) := by
   rw [f114_eq]; cases decide (0 < p.times) <;> rfl
  rw [e1]
  simp only [Option.bind_some]
  rw [loop_fold (fun (t : Int) i => (t,i)) (fun _ t (x : GCLive) => (.inl (laterS p.now t x.note.to_) : Int ⊕ Int)) (fun t => t) p.sounding.l (fun _ _ => True) _ (small_fuel hs) trivial]
  ·rw [foldE_inl (fun t (x : GCLive) => laterS p.now t x.note.to_)]
   simp only [Option.bind_some]
   rw [loop_fold (fun (t : Int) i => (t,i)) (fun _ t (d : GCDesk) => (.inl (nextD p.now t d) : Int ⊕ Int)) (fun t => t) p.desks (fun _ _ => True) _ (small_fuel hd) trivial]
   ·rw [foldE_inl (nextD p.now)]; rfl
   ·intro i t d hdd _
    refine ⟨?_,fun _ _ => trivial⟩
    have hn : Small d.notes := by have := h3 d (List.mem_of_getElem? hdd); simp only [Small]; omega
    simp only [dltLen hdd,cond_true,ixNat hdd,Option.bind_some,wrLen hd hdd]
    rw [loop_fold (fun (t : Int) i => (t,i)) (fun _ t (n : GNote) => (.inl (bif canS d n then laterS p.now t n.from_ else t) : Int ⊕ Int)) (fun t => t) d.notes (fun _ _ => True) t (small_fuel hn) trivial]
    ·rw [foldE_inl (fun t (n : GNote) => bif canS d n then laterS p.now t n.from_ else t)]; rfl
    ·intro j u n hnn _
     refine ⟨?_,fun _ _ => trivial⟩
     simp only [dltLen hnn,cond_true,ixNat hnn,Option.bind_some,wrLen hn hnn,andE,f114_eq,canS]
     cases (!d.silent && decide (d.since ≤ n.from_)) <;> rfl
    ·intro u _; simp
   ·intro t _; simp
  ·intro i t x hx _
   exact ⟨by simp only [dltLen hx,cond_true,ixNat hx,Option.bind_some,f114_eq,wrLen hs hx]; rfl,fun _ _ => trivial⟩
  ·intro t _; simp
def doneS (p : GCPlayer) : Bool := !p.waiting && decide (p.now = p.end_)
theorem f11_1_eq (p : GCPlayer) : f11_1 p = some (doneS p) := by
 unfold f11_1 doneS
 rw [andE]; rfl
theorem f41_eq (p : GCPlayer) (h : Sized p) : f41 p = some (bif doneS p then (0,92) else (nextS p,0)) := by
 unfold f41
 rw [f11_1_eq,f83_eq p h]
 simp only [Option.bind_some]
 cases doneS p <;> rfl
def cmpI (a b : Int) : Int := if a < b then -1 else if b < a then 1 else 0
theorem f72_eq (a b : Int) : f72 a b = some (cmpI a b) := by
 unfold f72 f105 cmpI
 by_cases h1 : a < b
 ·simp [h1]
 ·by_cases h2 : b < a <;> simp [h1,h2]
def cmpS (x y : GCLive) : Int := if cmpI x.desk y.desk ≠ 0 then cmpI x.desk y.desk else cmpI x.note.course y.note.course
theorem f71_eq (a b : Int) : f71 [a,b] = some (if a ≠ 0 then a else b) := by
 unfold f71
 rw [loop_find [a,b] (fun y => decide (y ≠ 0)) (fun _ y => y) (by simp [Small])]
 ·simp only [Option.bind_some,findS]
  by_cases h1 : a = 0
  ·by_cases h2 : b = 0
   ·simp [h1,h2]
   ·simp [h1,h2]
  ·simp [h1]
 ·intro i y hy
  simp only [dltLen hy,cond_true,ixNat hy,Option.bind_some]
  cases decide (y ≠ 0) <;> rfl
 ·simp
theorem f32_eq (x y : GCLive) : f32 x y = some (cmpS x y) := by
 unfold f32 cmpS
 simp only [f72_eq,Option.bind_some,f71_eq]
theorem midS {i j : Nat} (h1 : i ≤ 4194304) (h2 : j ≤ 4194304) : wr (shrI (IntKind.wrap .u64 (wr ((i : Int) + (j : Int)))) 1) = (((i + j) / 2 : Nat) : Int) := by
 have w1 : wr ((i : Int) + (j : Int)) = ((i + j : Nat) : Int) := by rw [wr64 (by omega) (by omega)]; omega
 have w2 : IntKind.wrap .u64 ((i + j : Nat) : Int) = ((i + j : Nat) : Int) := by
  rw [IntKind.wrap_u64]; omega
 have w3 : shrI ((i + j : Nat) : Int) 1 = (((i + j) / 2 : Nat) : Int) := by
  unfold shrI
  have : (2 : Int) ^ (min (1 : Int).toNat 64) = 2 := by decide
  rw [this,Int.fdiv_eq_ediv_of_nonneg _ (by omega)]
  omega
 rw [w1,w2,w3]
 exact wr64 (by omega) (by omega)
def bsBody (l : List GCLive) (x : GCLive) : (Int × Int) → Option ((Int × Int) ⊕ Int) := fun ((l1_9,l1_10) : (Int × Int)) => bif (decide (l1_9 < l1_10)) then ((ix l (wr (shrI (IntKind.wrap .u64 (wr (l1_9 + l1_10))) 1))).bind fun y2 => (f32 y2 x).bind fun r3 => bif (decide (r3 < 0)) then (some (.inl ((wr ((wr (shrI (IntKind.wrap .u64 (wr (l1_9 + l1_10))) 1)) + 1)),l1_10))) else (some (.inl (l1_9,(wr (shrI (IntKind.wrap .u64 (wr (l1_9 + l1_10))) 1)))))) else (some (.inr l1_9))
theorem bs_loop (l : List GCLive) (x : GCLive) (hs : Small l) : ∀ (d i j fuel : Nat),j - i ≤ d → i ≤ j → j ≤ l.length → d < fuel → ∃ r : Nat,loopN (bsBody l x) fuel ((i : Int),(j : Int)) = some (r : Int) ∧ r ≤ l.length
 | d,i,j,0,_,_,_,h => by omega
 | d,i,j,fuel + 1,h1,h2,h3,h4 => by
  by_cases hlt : i < j
  ·have hd : decide ((i : Int) < (j : Int)) = true := by simp; omega
   simp only [Small] at hs
   have hm := midS (i := i) (j := j) (by omega) (by omega)
   have hml : (i + j) / 2 < l.length := by omega
   have hg : l[(i + j) / 2]? = some l[(i + j) / 2] := List.getElem?_eq_getElem hml
   cases d with
   | zero => omega
   | succ d =>
    by_cases hc : cmpS l[(i + j) / 2] x < 0
    ·have hb : bsBody l x ((i : Int),(j : Int)) = some (.inl ((((i + j) / 2 + 1 : Nat) : Int),(j : Int))) := by
      have hw : wr ((((i + j) / 2 : Nat) : Int) + 1) = (((i + j) / 2 + 1 : Nat) : Int) := wrNat (by omega)
      simp only [bsBody,hd,cond_true,hm,ixNat hg,Option.bind_some,f32_eq,hc,decide_true,hw]
     obtain ⟨r,h5,h6⟩ := bs_loop l x hs d ((i + j) / 2 + 1) j fuel (by omega) (by omega) h3 (by omega)
     exact ⟨r,by simp only [loopN,hb]; exact h5,h6⟩
    ·have hb : bsBody l x ((i : Int),(j : Int)) = some (.inl ((i : Int),(((i + j) / 2 : Nat) : Int))) := by
      simp only [bsBody,hd,cond_true,hm,ixNat hg,Option.bind_some,f32_eq,hc,decide_false,cond_false]
     obtain ⟨r,h5,h6⟩ := bs_loop l x hs d i ((i + j) / 2) fuel (by omega) (by omega) (by omega) (by omega)
     exact ⟨r,by simp only [loopN,hb]; exact h5,h6⟩
  ·have hd : decide ((i : Int) < (j : Int)) = false := by simp; omega
   exact ⟨i,by simp only [loopN,bsBody,hd,cond_false],by omega⟩
def bsS (l : List GCLive) (x : GCLive) : Nat := ((f115 l x).getD (0,false)).1.toNat
theorem bs_ok (l : List GCLive) (x : GCLive) (hs : Small l) : (∃ b,f115 l x = some ((bsS l x : Int),b)) ∧ bsS l x ≤ l.length := by
 have h0 : l.length < FUEL := small_fuel hs
 obtain ⟨r,h1,h2⟩ := bs_loop l x hs l.length 0 l.length FUEL (by omega) (by omega) (Nat.le_refl _) h0
 have key : ∃ b,f115 l x = some ((r : Int),b) := by
  unfold f115
  have h1' : loopN (bsBody l x) FUEL (0,(l.length : Int)) = some (r : Int) := h1
  unfold bsBody at h1'
  rw [h1']
  simp only [Option.bind_some]
  by_cases hr : r < l.length
  ·have hg : l[r]? = some l[r] := List.getElem?_eq_getElem hr
   have hd : decide ((r : Int) < (l.length : Int)) = true := by simp; omega
   exact ⟨decide (cmpS l[r] x = 0),by simp only [hd,cond_true,ixNat hg,Option.bind_some,f32_eq]⟩
  ·have hd : decide ((r : Int) < (l.length : Int)) = false := by simp; omega
   exact ⟨false,by simp only [hd,cond_false,Option.bind_some]⟩
 obtain ⟨b,hb⟩ := key
 have he : bsS l x = r := by unfold bsS; rw [hb]; simp
 rw [he]
 exact ⟨⟨b,hb⟩,h2⟩
def putS (l : List GCLive) (x : GCLive) : List GCLive := l.take (bsS l x) ++ x :: l.drop (bsS l x)
theorem put_len (l : List GCLive) (x : GCLive) (hs : Small l) : (putS l x).length = l.length + 1 := by
 have := (bs_ok l x hs).2
 simp only [putS,List.length_append,List.length_take,List.length_cons,List.length_drop]; omega
theorem f86_eq (p : GCPlayer) (x : GCLive) (hs : p.sounding.l.length ≤ 4000000) : f86 p x = some (putS p.sounding.l x) := by
 obtain ⟨⟨b,hb⟩,hl⟩ := bs_ok p.sounding.l x (by simp only [Small]; omega)
 unfold f86
 rw [hb]
 simp only [Option.bind_some]
 have : f116 p.sounding.l (bsS p.sounding.l x : Int) [x] = some (putS p.sounding.l x) := by
  have hc : ([x] : List GCLive).length = 1 ∧ 0 ≤ (bsS p.sounding.l x : Int) ∧ (bsS p.sounding.l x : Int) ≤ (p.sounding.l.length : Int) ∧ p.sounding.l.length + ([x] : List GCLive).length ≤ maxElems :=
   ⟨rfl,by omega,by omega,by unfold maxElems; simp; omega⟩
  unfold f116 insL putS
  rw [if_pos hc]
  simp
 rw [this]; rfl
def liveS (p : GCPlayer) (i : Nat) (n : GNote) : GCLive := ⟨n,(i : Int),p.clock.ticks⟩
def voiceS (x : GCLive) : GVoice := ⟨x.desk,x.note.course,x.note.pitch⟩
def begS (now : Int) (d : GCDesk) (n : GNote) : Bool := decide (n.from_ = now) && canS d n
def startN (p : GCPlayer) (i : Nat) (d : GCDesk) (a : List GCLive × List GVoice) (n : GNote) : List GCLive × List GVoice := bif begS p.now d n then (putS a.1 (liveS p i n),a.2 ++ [voiceS (liveS p i n)]) else a
def startD (p : GCPlayer) (i : Nat) (a : List GCLive × List GVoice) (d : GCDesk) : List GCLive × List GVoice := d.notes.foldl (startN p i d) a
def startS (p : GCPlayer) : List GCLive × List GVoice := foldI (startD p) 0 p.desks (p.sounding.l,[])
theorem f49_eq (p : GCPlayer) (h : Sized p) : f49 p = some ((startS p).2,(startS p).1) := by
 obtain ⟨h1,h2,h3,_⟩ := h
 have hd : Small p.desks := by simp only [Small]; omega
 unfold f49 startS
 rw [loop_fold (fun (a : List GCLive × List GVoice) i => (a.1,a.2,i)) (fun i a (d : GCDesk) => (.inl (startD p i a d) : (List GCLive × List GVoice) ⊕ (List GVoice × List GCLive))) (fun a => (a.2,a.1)) p.desks (fun i a => a.1.length ≤ 1000000 + 10000 * i ∧ a.2.length ≤ 10000 * i) (p.sounding.l,[]) (small_fuel hd) ⟨by omega,by simp⟩]
 ·rw [foldE_foldI]; rfl
 ·intro i a d hdd ⟨ha1,ha2⟩
  have hil := (List.getElem?_eq_some_iff.1 hdd).1
  have hnl := h3 d (List.mem_of_getElem? hdd)
  have hn : Small d.notes := by simp only [Small]; omega
  have inv : ∀ (r : List GNote) (b : List GCLive × List GVoice),b.1.length + r.length ≤ 4000000 → (r.foldl (startN p i d) b).1.length ≤ b.1.length + r.length ∧ (r.foldl (startN p i d) b).2.length ≤ b.2.length + r.length := by
   intro r
   induction r with
   | nil => intro b _; simp
   | cons n r ih =>
    intro b hb
    simp only [List.length_cons] at hb
    have hpl := put_len b.1 (liveS p i n) (by simp only [Small]; omega)
    have hs1 : (startN p i d b n).1.length ≤ b.1.length + 1 ∧ (startN p i d b n).2.length ≤ b.2.length + 1 := by
     unfold startN
     cases begS p.now d n with
     | true => simp only [cond_true,List.length_append,List.length_cons,List.length_nil]; omega
     | false => simp only [cond_false]; omega
    have := ih (startN p i d b n) (by omega)
    simp only [List.foldl_cons,List.length_cons]
    omega
  constructor
  ·simp only [dltLen hdd,cond_true,ixNat hdd,Option.bind_some,wrLen hd hdd]
   rw [loop_fold (fun (b : List GCLive × List GVoice) j => (b.1,b.2,j)) (fun _ b (n : GNote) => (.inl (startN p i d b n) : (List GCLive × List GVoice) ⊕ (List GCLive × List GVoice))) (fun b => b) d.notes (fun j b => b.1.length ≤ 1000000 + 10000 * i + j ∧ b.2.length ≤ 10000 * i + j) a (small_fuel hn) ⟨by omega,by omega⟩]
   ·rw [foldE_inl (startN p i d)]; rfl
   ·intro j b n hnn ⟨hb1,hb2⟩
    have hjl := (List.getElem?_eq_some_iff.1 hnn).1
    have hm : b.2.length + 1 ≤ maxElems := by unfold maxElems; omega
    have hput := f86_eq ⟨p.clock,p.now,p.end_,p.waiting,p.desks,p.from_,p.to_,p.times,⟨b.1⟩,p.takes⟩ (liveS p i n) (by show b.1.length ≤ _; omega)
    have hpl := put_len b.1 (liveS p i n) (by simp only [Small]; omega)
    have e1 : ((bif (decide (n.from_ = p.now)) then (bif (!d.silent) then (some (decide (d.since ≤ n.from_))) else (some false)) else (some false)) : Option Bool) = some (begS p.now d n) := by
     unfold begS canS
     rw [andE,andE]
    constructor
    ·simp only [dltLen hnn,cond_true,ixNat hnn,Option.bind_some,wrLen hn hnn]
     rw [e1]
     simp only [Option.bind_some,startN]
     cases begS p.now d n with
     | true =>
      simp only [cond_true]
      show (((f86 _ (liveS p i n)).bind _).bind _) = _
      rw [hput]
      simp only [Option.bind_some,f81,need,if_pos hm]
      rfl
     | false => rfl
    ·intro b' he
     cases he
     unfold startN
     cases begS p.now d n with
     | true => simp only [cond_true,List.length_append,List.length_cons,List.length_nil]; omega
     | false => simp only [cond_false]; omega
   ·intro b _; simp
  ·intro a' he
   cases he
   have := inv d.notes a (by omega)
   unfold startD
   omega
 ·intro a _; simp
def takeS (t : Int) (x : GCLive) : GTake := ⟨x.desk,x.note.course,x.note.pitch,x.began,t⟩
theorem f87_eq (p : GCPlayer) (h : p.sounding.l.length ≤ 4000000) : f87 p = some (p.sounding.l,[]) := by
 have hs : Small p.sounding.l := by simp only [Small]; omega
 unfold f87
 rw [loop_fold (fun (a : List GCLive) i => (a,([] : List GCLive),i)) (fun _ a (x : GCLive) => (.inl (a ++ [x]) : List GCLive ⊕ (List GCLive × List GCLive))) (fun a => (a,[])) p.sounding.l (fun i a => a.length ≤ i) [] (small_fuel hs) (by simp)]
 ·have : ∀ (l : List GCLive) (k : Nat) (a : List GCLive),foldE (fun _ a (x : GCLive) => (.inl (a ++ [x]) : List GCLive ⊕ (List GCLive × List GCLive))) (fun a => (a,[])) k l a = (a ++ l,[]) := by
   intro l
   induction l with
   | nil => intro k a; simp [foldE]
   | cons x l ih => intro k a; simp only [foldE,ih]; simp
  rw [this]; simp
 ·intro i a x hx ha
  have hil := (List.getElem?_eq_some_iff.1 hx).1
  have hm : a.length + 1 ≤ maxElems := by unfold maxElems; omega
  refine ⟨?_,fun a' he => by cases he; simp; omega⟩
  simp only [dltLen hx,cond_true,ixNat hx,Option.bind_some,f52,need,if_pos hm,wrLen hs hx]
  rfl
 ·intro a _; simp
def atS (t : Int) (x : GCLive) : Bool := decide (x.note.to_ = t)
theorem f87_1_eq (p : GCPlayer) (t : Int) (h : p.sounding.l.length ≤ 4000000) : f87_1 p t = some (p.sounding.l.filter (atS t),p.sounding.l.filter fun x => !atS t x) := by
 have hs : Small p.sounding.l := by simp only [Small]; omega
 unfold f87_1
 rw [loop_fold (fun (a : List GCLive × List GCLive) i => (a.1,a.2,i)) (fun _ a (x : GCLive) => (.inl (bif atS t x then (a.1 ++ [x],a.2) else (a.1,a.2 ++ [x])) : (List GCLive × List GCLive) ⊕ (List GCLive × List GCLive))) (fun a => a) p.sounding.l (fun i a => a.1.length ≤ i ∧ a.2.length ≤ i) ([],[]) (small_fuel hs) (by simp)]
 ·have : ∀ (l : List GCLive) (k : Nat) (a : List GCLive × List GCLive),foldE (fun _ a (x : GCLive) => (.inl (bif atS t x then (a.1 ++ [x],a.2) else (a.1,a.2 ++ [x])) : (List GCLive × List GCLive) ⊕ (List GCLive × List GCLive))) (fun a => a) k l a = (a.1 ++ l.filter (atS t),a.2 ++ l.filter fun x => !atS t x) := by
   intro l
   induction l with
   | nil => intro k a; simp [foldE]
   | cons x l ih =>
    intro k a
    simp only [foldE,ih]
    cases hx : atS t x <;> simp [hx]
  rw [this]; simp
 ·intro i a x hx ⟨ha1,ha2⟩
  have hil := (List.getElem?_eq_some_iff.1 hx).1
  have hm1 : a.1.length + 1 ≤ maxElems := by unfold maxElems; omega
  have hm2 : a.2.length + 1 ≤ maxElems := by unfold maxElems; omega
  refine ⟨?_,fun a' he => by cases he; cases atS t x <;> simp <;> omega⟩
  simp only [dltLen hx,cond_true,ixNat hx,Option.bind_some,f54,need,if_pos hm1,if_pos hm2,wrLen hs hx,atS]
  cases decide (x.note.to_ = t) <;> rfl
 ·intro a _; simp
theorem f37_1_eq (l : List GCLive) (h : l.length ≤ 4000000) : f37_1 l = some (l.map voiceS) := by
 have hs : Small l := by simp only [Small]; omega
 unfold f37_1
 rw [loop_fold (fun (a : List GVoice) i => (a,i)) (fun _ a (x : GCLive) => (.inl (a ++ [voiceS x]) : List GVoice ⊕ List GVoice)) (fun a => a) l (fun i a => a.length ≤ i) [] (small_fuel hs) (by simp)]
 ·have : ∀ (l : List GCLive) (k : Nat) (a : List GVoice),foldE (fun _ a (x : GCLive) => (.inl (a ++ [voiceS x]) : List GVoice ⊕ List GVoice)) (fun a => a) k l a = a ++ l.map voiceS := by
   intro l
   induction l with
   | nil => intro k a; simp [foldE]
   | cons x l ih => intro k a; simp only [foldE,ih]; simp
  rw [this]; simp
 ·intro i a x hx ha
  have hil := (List.getElem?_eq_some_iff.1 hx).1
  have hm : a.length + 1 ≤ maxElems := by unfold maxElems; omega
  refine ⟨?_,fun a' he => by cases he; simp; omega⟩
  simp only [dltLen hx,cond_true,ixNat hx,Option.bind_some,f81,need,if_pos hm,wrLen hs hx]
  rfl
 ·intro a _; simp
theorem take_loop (l : List GCLive) (t : Int) (tk : List GTake) (h : l.length ≤ 1000000) (ht : tk.length ≤ 4000000000) :
  loopN (σ := (List GTake × Int)) (τ := (List GTake)) (fun ((l1_h0_10,l1_15) : (List GTake × Int)) => bif (decide (l1_15 < (l.length : Int))) then ((ix l l1_15).bind fun y3 => need (l1_h0_10.length + 1 ≤ maxElems) <| some (.inl ((l1_h0_10 ++ [(⟨y3.desk,y3.note.course,y3.note.pitch,y3.began,t⟩ : GTake)]),(wr (l1_15 + 1))))) else (some (.inr l1_h0_10))) FUEL (tk,0) = some (tk ++ l.map (takeS t)) := by
 have hs : Small l := by simp only [Small]; omega
 rw [loop_fold (fun (a : List GTake) i => (a,i)) (fun _ a (x : GCLive) => (.inl (a ++ [takeS t x]) : List GTake ⊕ List GTake)) (fun a => a) l (fun i a => a.length ≤ 4000000000 + i) tk (small_fuel hs) (by omega)]
 ·have : ∀ (l : List GCLive) (k : Nat) (a : List GTake),foldE (fun _ a (x : GCLive) => (.inl (a ++ [takeS t x]) : List GTake ⊕ List GTake)) (fun a => a) k l a = a ++ l.map (takeS t) := by
   intro l
   induction l with
   | nil => intro k a; simp [foldE]
   | cons x l ih => intro k a; simp only [foldE,ih]; simp
  rw [this]
 ·intro i a x hx ha
  have hil := (List.getElem?_eq_some_iff.1 hx).1
  have hm : a.length + 1 ≤ maxElems := by unfold maxElems; omega
  refine ⟨?_,fun a' he => by cases he; simp; omega⟩
  simp only [dltLen hx,cond_true,ixNat hx,Option.bind_some,need,if_pos hm,wrLen hs hx]
  rfl
 ·intro a _; simp
theorem f51_eq (p : GCPlayer) (h : p.sounding.l.length ≤ 1000000) (ht : p.takes.length ≤ 4000000000) : f51 p = some (p.sounding.l.map voiceS,[],p.takes ++ p.sounding.l.map (takeS p.clock.ticks)) := by
 unfold f51
 rw [f87_eq p (by omega)]
 simp only [Option.bind_some]
 rw [take_loop p.sounding.l p.clock.ticks p.takes h ht,f37_1_eq p.sounding.l (by omega)]
 rfl
theorem f51_1_eq (p : GCPlayer) (t : Int) (h : p.sounding.l.length ≤ 1000000) (ht : p.takes.length ≤ 4000000000) :
  f51_1 p t = some ((p.sounding.l.filter (atS t)).map voiceS,(p.sounding.l.filter fun x => !atS t x),p.takes ++ (p.sounding.l.filter (atS t)).map (takeS p.clock.ticks)) := by
 have hl : (p.sounding.l.filter (atS t)).length ≤ 1000000 := Nat.le_trans (List.length_filter_le _ _) h
 unfold f51_1
 rw [f87_1_eq p t (by omega)]
 simp only [Option.bind_some]
 rw [take_loop (p.sounding.l.filter (atS t)) p.clock.ticks p.takes hl ht,f37_1_eq _ (by omega)]
 rfl
def moveS (ds : List GCDesk) (t : Int) : List GCDesk := ds.map fun d => ⟨d.notes,d.silent,t⟩
theorem f53_eq (p : GCPlayer) (t : Int) (h : p.desks.length ≤ 6) : f53 p t = some (moveS p.desks t) := by
 unfold f53
 rw [loop_all (fun k => (moveS (p.desks.take k) t ++ p.desks.drop k,(k : Int))) p.desks.length (by omega) (by simp [moveS]) (r := moveS p.desks t)]
 ·rfl
 ·intro k hk
  have hg : p.desks[k]? = some p.desks[k] := List.getElem?_eq_getElem hk
  have hw : wr ((k : Int) + 1) = ((k + 1 : Nat) : Int) := wrNat (by omega)
  have hml : (moveS (p.desks.take k) t).length = k := by simp [moveS]; omega
  have hdr : p.desks.drop k = p.desks[k] :: p.desks.drop (k + 1) := List.drop_eq_getElem_cons hk
  have hg2 : (moveS (p.desks.take k) t ++ p.desks.drop k)[k]? = some p.desks[k] := by
   rw [List.getElem?_append_right (by omega),hml,hdr]; simp
  simp only [dltLen hg,cond_true,ixNat hg2,Option.bind_some,hw,Int.toNat_natCast]
  have : (moveS (p.desks.take k) t ++ p.desks.drop k).set k ⟨p.desks[k].notes,p.desks[k].silent,t⟩ = moveS (p.desks.take (k + 1)) t ++ p.desks.drop (k + 1) := by
   rw [List.set_append_right _ _ (by omega),hml,Nat.sub_self,hdr,List.set_cons_zero,take_snoc hg]
   unfold moveS
   rw [List.map_append,List.append_assoc]; rfl
  rw [this]
 ·simp
def noFrame : GFrame := ⟨0,[],[]⟩
def begunS (p : GCPlayer) : GCPlayer := ⟨p.clock,p.now,p.end_,p.waiting,p.desks,p.from_,p.to_,p.times,⟨(startS p).1⟩,p.takes⟩
def stepS (p : GCPlayer) : GFrame × Int × GCPlayer :=
 bif doneS p then (noFrame,92,p) else bif p.waiting then
  (⟨p.now,(startS ⟨p.clock,p.now,p.end_,false,p.desks,p.from_,p.to_,p.times,p.sounding,p.takes⟩).2,[]⟩,0,begunS ⟨p.clock,p.now,p.end_,false,p.desks,p.from_,p.to_,p.times,p.sounding,p.takes⟩)
 else
  bif decide (0 < p.times) && decide (nextT p = p.to_) then
   (⟨p.from_,(startS ⟨⟨wr (p.clock.ticks + wr (nextT p - p.now))⟩,p.from_,p.end_,p.waiting,moveS p.desks p.from_,p.from_,p.to_,wr (p.times - 1),⟨[]⟩,p.takes ++ p.sounding.l.map (takeS (wr (p.clock.ticks + wr (nextT p - p.now))))⟩).2,p.sounding.l.map voiceS⟩,0,
    begunS ⟨⟨wr (p.clock.ticks + wr (nextT p - p.now))⟩,p.from_,p.end_,p.waiting,moveS p.desks p.from_,p.from_,p.to_,wr (p.times - 1),⟨[]⟩,p.takes ++ p.sounding.l.map (takeS (wr (p.clock.ticks + wr (nextT p - p.now))))⟩)
  else
   (⟨nextT p,(startS ⟨⟨wr (p.clock.ticks + wr (nextT p - p.now))⟩,nextT p,p.end_,p.waiting,p.desks,p.from_,p.to_,p.times,⟨p.sounding.l.filter fun x => !atS (nextT p) x⟩,p.takes ++ (p.sounding.l.filter (atS (nextT p))).map (takeS (wr (p.clock.ticks + wr (nextT p - p.now))))⟩).2,(p.sounding.l.filter (atS (nextT p))).map voiceS⟩,0,
    begunS ⟨⟨wr (p.clock.ticks + wr (nextT p - p.now))⟩,nextT p,p.end_,p.waiting,p.desks,p.from_,p.to_,p.times,⟨p.sounding.l.filter fun x => !atS (nextT p) x⟩,p.takes ++ (p.sounding.l.filter (atS (nextT p))).map (takeS (wr (p.clock.ticks + wr (nextT p - p.now))))⟩)
def outS (x : GFrame × Int × GCPlayer) : GFrame × Int × Int × Int × Bool × List GCDesk × Int × List GCLive × List GTake := (x.1,x.2.1,x.2.2.clock.ticks,x.2.2.now,x.2.2.waiting,x.2.2.desks,x.2.2.times,x.2.2.sounding.l,x.2.2.takes)
def Roomy (p : GCPlayer) : Prop := p.sounding.l.length ≤ 900000 ∧ p.desks.length ≤ 6 ∧ (∀ d ∈ p.desks,d.notes.length ≤ 10000) ∧ p.takes.length ≤ 3900000000
theorem roomy_sized {p : GCPlayer} (h : Roomy p) : Sized p := ⟨by have := h.1; omega,h.2.1,h.2.2.1,by have := h.2.2.2; omega⟩
theorem move_mem {ds : List GCDesk} {t : Int} {d : GCDesk} (h : d ∈ moveS ds t) : ∃ e ∈ ds,d = ⟨e.notes,e.silent,t⟩ := by
 obtain ⟨e,h1,h2⟩ := List.mem_map.1 h
 exact ⟨e,h1,h2.symm⟩
theorem f17_eq (p : GCPlayer) (h : Roomy p) : f17 p = some (outS (stepS p)) := by
 have hz := roomy_sized h
 obtain ⟨h1,h2,h3,h4⟩ := h
 unfold f17 stepS
 rw [f41_eq p hz]
 simp only [Option.bind_some]
 cases hdn : doneS p with
 | true => rfl
 | false =>
  have e0 : decide ((0 : Int) ≠ 0) = false := rfl
  simp only [cond_false,e0]
  cases hw : p.waiting with
  | true =>
   simp only [cond_true]
   rw [f49_eq _ (by exact ⟨by show p.sounding.l.length ≤ _; omega,h2,h3,by show p.takes.length ≤ _; omega⟩)]
   rfl
  | false =>
   have hnx : nextS p = nextT p := by unfold nextS; rw [hw]; rfl
   simp only [cond_false,hnx,f50,Option.bind_some,andE]
   cases hj : (decide (0 < p.times) && decide (nextT p = p.to_)) with
   | true =>
    simp only [cond_true]
    rw [f51_eq _ (by show p.sounding.l.length ≤ _; omega) (by show p.takes.length ≤ _; omega)]
    simp only [Option.bind_some]
    rw [f53_eq _ _ (by show p.desks.length ≤ 6; exact h2)]
    simp only [Option.bind_some]
    rw [f49_eq _ (by
     refine ⟨by show ([] : List GCLive).length ≤ _; simp,by show (moveS p.desks p.from_).length ≤ 6; simp [moveS]; omega,fun d hd => ?_,by show (p.takes ++ p.sounding.l.map _).length ≤ _; simp; omega⟩
     obtain ⟨e,he,rfl⟩ := move_mem hd
     exact h3 e he)]
    rfl
   | false =>
    simp only [cond_false]
    rw [f51_1_eq _ _ (by show p.sounding.l.length ≤ _; omega) (by show p.takes.length ≤ _; omega)]
    simp only [Option.bind_some]
    have hf1 := List.length_filter_le (atS (nextT p)) p.sounding.l
    have hf2 := List.length_filter_le (fun x => !atS (nextT p) x) p.sounding.l
    rw [f49_eq _ (by
     refine ⟨by show (p.sounding.l.filter _).length ≤ _; omega,h2,h3,by show (p.takes ++ (p.sounding.l.filter _).map _).length ≤ _; simp; omega⟩)]
    rfl
end Go.Proofs.YtjjendjmakhfaaaGreat
