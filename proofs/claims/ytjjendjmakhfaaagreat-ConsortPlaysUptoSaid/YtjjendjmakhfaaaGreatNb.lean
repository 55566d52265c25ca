/-
 Plain laws of the player,part 12: the notes of a piece,exactly; the notes of a course do not overlap.
 Own work. No Go text.
-/
import Derived.Test.YtjjendjmakhfaaaGreatNa
set_option linter.all false
namespace Go.Proofs.YtjjendjmakhfaaaGreat
open Go Go.Am
theorem bind_invL {σ τ A B : Type} {body : σ → Option (σ ⊕ τ)} {s0 : σ} {f : τ → Option (A ⊕ B)} {Q : A → Prop} (I : Nat → σ → Prop) (T : τ → Prop) (m : Nat) (hm : m ≤ 4194304) (h0 : I 0 s0)
  (hb : ∀ k s,k < m → I k s → ∃ s',body s = some (.inl s') ∧ I (k + 1) s') (he : ∀ s,I m s → ∃ t,body s = some (.inr t) ∧ T t) (hf : ∀ t,T t → ∃ r,f t = some (.inl r) ∧ Q r) : ∃ r,(loopN body FUEL s0).bind f = some (.inl r) ∧ Q r := by
 obtain ⟨t,h1,h2⟩ := loop_inv I T m hb he m 0 FUEL s0 (by omega) (by unfold FUEL; omega) h0
 obtain ⟨r,h3,h4⟩ := hf t h2
 exact ⟨r,by rw [h1]; exact h3,h4⟩
def endsC (c : Int) (e : GEvent) : Bool := restS e || plucksS e c
def openN (p : GPiece) (i : Nat) (c : Int) : Nat := i + 1 + (p.events.drop (i + 1)).findIdx (endsC c)
def stayN (p : GPiece) (i : Nat) (h : Int) : Nat := i + h.toNat + 1 + (p.events.drop (i + h.toNat + 1)).findIdx fun e => !e.tie
def pitN (p : GPiece) (s : GStop) : Int := ((f107 p.instrument ⟨s.course,s.fret⟩).getD (0,0)).1
def onN (p : GPiece) (i : Nat) : Int := ((onsS p)[i]?).getD 0
def endN (p : GPiece) (x : Nat × GStop) : Nat := bif decide (0 < x.2.fret) then stayN p x.1 x.2.hold else openN p x.1 x.2.course
def noteN (p : GPiece) (x : Nat × GStop) : GNote := ⟨(x.1 : Int),x.2.course,pitN p x.2,onN p x.1,onN p (endN p x)⟩
def stopsAt (p : GPiece) (i : Nat) : List (Nat × GStop) := (((p.events[i]?).map (·.stops)).getD []).map fun s => (i,s)
def stopsN (p : GPiece) : Nat → List (Nat × GStop)
 | 0 => []
 | k + 1 => stopsN p k ++ stopsAt p k
def notesN (p : GPiece) : List GNote := (stopsN p p.events.length).map (noteN p)
theorem findIdx_get {α : Type} (q : α → Bool) : ∀ (l : List α),(∀ j x,l[j]? = some x → j < l.findIdx q → q x = false) ∧ (∀ x,l[l.findIdx q]? = some x → q x = true) ∧ l.findIdx q ≤ l.length
 | [] => ⟨fun j x h => by simp at h,fun x h => by simp at h,by simp⟩
 | y :: l => by
  obtain ⟨h1,h2,h3⟩ := findIdx_get q l
  rw [List.findIdx_cons]
  cases hq : q y with
  | true => exact ⟨fun j x _ hj => by simp at hj,fun x hx => by simp at hx; rw [← hx]; exact hq,by simp⟩
  | false =>
   simp only [cond_false,List.length_cons]
   refine ⟨fun j x hx hj => ?_,fun x hx => ?_,by omega⟩
   ·cases j with
    | zero => simp at hx; rw [← hx]; exact hq
    | succ j => exact h1 j x (by simpa using hx) (by omega)
   ·exact h2 x (by simpa using hx)
theorem open_ok (p : GPiece) (i : Nat) (c : Int) (hi : i < p.events.length) : i < openN p i c ∧ openN p i c ≤ p.events.length ∧ (∀ j e,i < j → p.events[j]? = some e → endsC c e = true → openN p i c ≤ j) ∧ ∀ e,p.events[openN p i c]? = some e → endsC c e = true := by
 obtain ⟨h1,h2,h3⟩ := findIdx_get (endsC c) (p.events.drop (i + 1))
 rw [List.length_drop] at h3
 unfold openN
 refine ⟨by omega,by omega,fun j e hj he hq => ?_,fun e he => h2 e (by rw [List.getElem?_drop]; exact he)⟩
 by_cases hlt : j < i + 1 + (p.events.drop (i + 1)).findIdx (endsC c)
 ·have := h1 (j - (i + 1)) e (by rw [List.getElem?_drop]; rw [show i + 1 + (j - (i + 1)) = j by omega]; exact he) (by omega)
  rw [hq] at this; cases this
 ·omega
theorem stay_N (p : GPiece) (i : Nat) (h : Int) (hi : i + h.toNat < p.events.length) : i + h.toNat < stayN p i h ∧ stayN p i h ≤ p.events.length ∧ (∀ j e,i + h.toNat < j → p.events[j]? = some e → e.tie = false → stayN p i h ≤ j) ∧ (∀ e,p.events[stayN p i h]? = some e → e.tie = false) ∧ ∀ j e,i + h.toNat < j → j < stayN p i h → p.events[j]? = some e → e.tie = true := by
 obtain ⟨h1,h2,h3⟩ := findIdx_get (fun e : GEvent => !e.tie) (p.events.drop (i + h.toNat + 1))
 rw [List.length_drop] at h3
 unfold stayN
 have key : ∀ j e,i + h.toNat < j → j < i + h.toNat + 1 + (p.events.drop (i + h.toNat + 1)).findIdx (fun e => !e.tie) → p.events[j]? = some e → e.tie = true := by
  intro j e hj hlt he
  have := h1 (j - (i + h.toNat + 1)) e (by rw [List.getElem?_drop]; rw [show i + h.toNat + 1 + (j - (i + h.toNat + 1)) = j by omega]; exact he) (by omega)
  simpa using this
 refine ⟨by omega,by omega,fun j e hj he hq => ?_,fun e he => ?_,key⟩
 ·by_cases hlt : j < i + h.toNat + 1 + (p.events.drop (i + h.toNat + 1)).findIdx (fun e => !e.tie)
  ·have := key j e hj hlt he
   rw [hq] at this; cases this
  ·omega
 ·have := h2 e (by rw [List.getElem?_drop]; exact he)
  simpa using this
theorem stay_eq (p : GPiece) (ons : List Int) (i : Nat) (hold : Int) (h0 : 0 ≤ hold) (hi : (i : Int) + hold < (p.events.length : Int)) (hl : p.events.length ≤ 400) :
  ∃ r : Nat,f108 ⟨p,ons⟩ (i : Int) hold = some (r : Int) ∧ r + 1 = stayN p i hold ∧ r < p.events.length := by
 have key : ∀ (d k n : Nat),k + d = p.events.length → d < n → k < p.events.length → ∃ r : Nat,loopN (σ := Int) (τ := Int) (fun (l1_7 : Int) => ((bif (decide ((wr (l1_7 + 1)) < (p.events.length : Int))) then ((ix p.events (wr (l1_7 + 1))).bind fun y2 => some y2.tie) else (some false)) : Option Bool).bind fun (j2_27 : Bool) => bif j2_27 then (some (.inl (wr (l1_7 + 1)))) else (some (.inr l1_7))) n (k : Int) = some (r : Int) ∧ k ≤ r ∧ r < p.events.length ∧ (∀ j e,k < j → j ≤ r → p.events[j]? = some e → e.tie = true) ∧ ∀ e,p.events[r + 1]? = some e → e.tie = false := by
  intro d
  induction d with
  | zero => intro k n h1 h2 h3; omega
  | succ d ih =>
   intro k n h1 h2 h3
   cases n with
   | zero => omega
   | succ n =>
    have hw : wr ((k : Int) + 1) = ((k + 1 : Nat) : Int) := wrNat (by omega)
    by_cases hlt : k + 1 < p.events.length
    ·have hd : decide (((k + 1 : Nat) : Int) < (p.events.length : Int)) = true := by simp; omega
     have hg : p.events[k + 1]? = some (p.events[k + 1]'hlt) := List.getElem?_eq_getElem hlt
     simp only [loopN,hw,hd,cond_true,ixNat hg,Option.bind_some]
     cases ht : (p.events[k + 1]'hlt).tie with
     | true =>
      obtain ⟨r,g1,g2,g3,g4,g5⟩ := ih (k + 1) n (by omega) (by omega) hlt
      refine ⟨r,by simpa only [cond_true,hw] using g1,by omega,g3,fun j e hj hjr he => ?_,g5⟩
      by_cases hjk : j = k + 1
      ·subst hjk
       rw [hg] at he; cases he; exact ht
      ·exact g4 j e (by omega) hjr he
     | false => exact ⟨k,rfl,by omega,h3,fun j e h1 h2 => by omega,fun e he => by rw [hg] at he; cases he; exact ht⟩
    ·have hd : decide (((k + 1 : Nat) : Int) < (p.events.length : Int)) = false := by simp; omega
     simp only [loopN,hw,hd,cond_false,Option.bind_some]
     exact ⟨k,rfl,by omega,h3,fun j e h1 h2 => by omega,fun e he => by have := (List.getElem?_eq_some_iff.1 he).1; omega⟩
 have hw : wr ((i : Int) + hold) = ((i + hold.toNat : Nat) : Int) := by rw [wr64 (by omega) (by omega)]; omega
 obtain ⟨r,g1,g2,g3,g4,g5⟩ := key (p.events.length - (i + hold.toNat)) (i + hold.toNat) FUEL (by omega) (by unfold FUEL; omega) (by omega)
 obtain ⟨s1,s2,s3,s4,s5⟩ := stay_N p i hold (by omega)
 unfold f108
 simp only [hw]
 refine ⟨r,by rw [g1]; rfl,?_,g3⟩
 have a1 : stayN p i hold ≤ r + 1 := by
  by_cases hlt : r + 1 < p.events.length
  ·have hg := List.getElem?_eq_getElem hlt
   exact s3 (r + 1) _ (by omega) hg (g5 _ hg)
  ·omega
 have a2 : r + 1 ≤ stayN p i hold := by
  by_cases hlt : stayN p i hold ≤ r
  ·have hg : p.events[stayN p i hold]? = some (p.events[stayN p i hold]'(by omega)) := List.getElem?_eq_getElem (by omega)
   have h1 := s4 _ hg
   have h2 := g4 _ _ s1 hlt hg
   rw [h1] at h2; cases h2
  ·omega
 omega
def clN (p : GPiece) (k : Nat) (last : Int) (x : Nat × GStop) : Bool := decide (openN p x.1 x.2.course < k) || (decide (openN p x.1 x.2.course = k) && decide (x.2.course ≤ last))
def toN (p : GPiece) (k : Nat) (last : Int) (x : Nat × GStop) : Int :=
 bif decide (0 < x.2.fret) then onN p (stayN p x.1 x.2.hold) else bif clN p k last x then onN p (openN p x.1 x.2.course) else onN p p.events.length
def noteE (p : GPiece) (k : Nat) (last : Int) (x : Nat × GStop) : GNote := ⟨(x.1 : Int),x.2.course,pitN p x.2,onN p x.1,toN p k last x⟩
structure RingX (p : GPiece) (k : Nat) (last : Int) (L : List (Nat × GStop)) (ring : List Int) : Prop where
 len : ring.length = 15
 val : ∀ (c : Nat) v,ring[c]? = some v → 0 ≤ v ∧ (0 < v → ∃ x,L[(v - 1).toNat]? = some x ∧ ¬ 0 < x.2.fret ∧ x.2.course = (c : Int) ∧ clN p k last x = false)
 only : ∀ (c : Nat) v,ring[c]? = some v → ∀ (m : Nat) x,L[m]? = some x → ¬ 0 < x.2.fret → x.2.course = (c : Int) → clN p k last x = false → v = (m : Int) + 1
 old : ∀ x ∈ L,(1 ≤ x.2.course ∧ x.2.course ≤ 14) ∧ (x.1 < k ∨ (x.1 = k ∧ x.2.course ≤ last)) ∧ x.1 < p.events.length
theorem stopX (p : GPiece) (c k : Nat) (ring : List Int) (L : List (Nat × GStop)) (last : Int) (hc : c < 15) (hr : RingX p k last L ring) (hl : last < (c : Int)) (hL : L.length ≤ 1000000) (hk : k < p.events.length)
  (hmid : ∀ x ∈ L,¬ 0 < x.2.fret → clN p k last x = false → clN p k (c : Int) x = true → x.2.course = (c : Int))
  (hend : ∀ x ∈ L,¬ 0 < x.2.fret → clN p k last x = false → x.2.course = (c : Int) → openN p x.1 x.2.course = k) :
  ∃ r',f106 (c : Int) (onN p k) ring (L.map (noteE p k last)) = some (L.map (noteE p k (c : Int)),r') ∧ RingX p k (c : Int) L r' ∧ r'[c]? = some 0 := by
 have hg : ring[c]? = some (ring[c]'(by have := hr.len; omega)) := List.getElem?_eq_getElem (by have := hr.len; omega)
 have hv := hr.val c _ hg
 have ho := hr.only c _ hg
 have hc15 : (c : Int) < 15 := by omega
 generalize ring[c]'(by have := hr.len; omega) = v at hg hv ho
 have mono : ∀ x,clN p k last x = true → clN p k (c : Int) x = true := by
  intro x hx
  unfold clN at hx ⊢
  simp only [Bool.or_eq_true,Bool.and_eq_true,decide_eq_true_eq] at hx ⊢
  omega
 have close : ∀ x ∈ L,¬ 0 < x.2.fret → x.2.course = (c : Int) → clN p k (c : Int) x = true := by
  intro x hx hf hxc
  cases hcl : clN p k last x with
  | true => exact mono x hcl
  | false =>
   have := hend x hx hf hcl hxc
   unfold clN
   simp only [Bool.or_eq_true,Bool.and_eq_true,decide_eq_true_eq]
   omega
 have keep : ∀ x ∈ L,¬ 0 < x.2.fret → x.2.course ≠ (c : Int) → clN p k (c : Int) x = clN p k last x := by
  intro x hx hf hxc
  cases hcl : clN p k last x with
  | true => exact mono x hcl
  | false =>
   cases h2 : clN p k (c : Int) x with
   | false => rfl
   | true => exact absurd (hmid x hx hf hcl h2) hxc
 have hring : RingX p k (c : Int) L (ring.set c 0) := by
  refine ⟨by rw [List.length_set]; exact hr.len,fun c' u hu => ?_,fun c' u hu m x hx hf hxc hcl => ?_,fun x hx => ?_⟩
  ·rw [List.getElem?_set] at hu
   split at hu
   ·split at hu
    ·cases hu; exact ⟨Int.le_refl _,fun h => absurd h (by omega)⟩
    ·cases hu
   ·rename_i hne
    obtain ⟨u0,u1⟩ := hr.val c' u hu
    refine ⟨u0,fun hp => ?_⟩
    obtain ⟨x,a1,a2,a3,a4⟩ := u1 hp
    exact ⟨x,a1,a2,a3,by rw [keep x (List.mem_of_getElem? a1) a2 (by rw [a3]; omega)]; exact a4⟩
  ·rw [List.getElem?_set] at hu
   by_cases hcc : c = c'
   ·subst hcc
    rw [close x (List.mem_of_getElem? hx) hf hxc] at hcl; cases hcl
   ·rw [if_neg hcc] at hu
    exact hr.only c' u hu m x hx hf hxc (by rw [← keep x (List.mem_of_getElem? hx) hf (by rw [hxc]; omega)]; exact hcl)
  ·have := hr.old x hx
   omega
 have hz : (ring.set c 0)[c]? = some 0 := by rw [List.getElem?_set,if_pos rfl,if_pos (by have := hr.len; omega)]
 have same : ∀ x ∈ L,(0 < x.2.fret ∨ x.2.course ≠ (c : Int) ∨ clN p k last x = true) → noteE p k (c : Int) x = noteE p k last x := by
  intro x hx h
  have : toN p k (c : Int) x = toN p k last x := by
   unfold toN
   by_cases hf : 0 < x.2.fret
   ·have : decide (0 < x.2.fret) = true := by simpa using hf
    rw [this]; rfl
   ·have hd : decide (0 < x.2.fret) = false := by simpa using hf
    rw [hd,cond_false,cond_false]
    rcases h with h | h | h
    ·exact absurd h hf
    ·rw [keep x hx hf h]
    ·rw [h,mono x h]
  unfold noteE
  rw [this]
 unfold f106
 simp only [need,if_pos hc15,ixNat hg,Option.bind_some]
 by_cases h0 : 0 < v
 ·obtain ⟨x,a1,a2,a3,a4⟩ := hv.2 h0
  have hd : decide (0 < v) = true := by simpa using h0
  have hml := (List.getElem?_eq_some_iff.1 a1).1
  have hw : wr (v - 1) = (((v - 1).toNat : Nat) : Int) := by rw [wr64 (by omega) (by omega)]; omega
  have hni : (L.map (noteE p k last))[(v - 1).toNat]? = some (noteE p k last x) := by rw [List.getElem?_map,a1]; rfl
  simp only [hd,cond_true,hw,ixNat hni,Option.bind_some,Int.toNat_natCast]
  refine ⟨ring.set c 0,?_,hring,hz⟩
  congr 2
  refine List.ext_getElem? fun m => ?_
  rw [List.getElem?_set,List.getElem?_map]
  by_cases hm : (v - 1).toNat = m
  ·subst hm
   rw [if_pos rfl,if_pos (by rw [List.length_map]; exact hml),List.getElem?_map,a1,Option.map_some]
   have hx := List.mem_of_getElem? a1
   have e1 := hend x hx a2 a4 a3
   have e2 := close x hx a2 a3
   have hf : decide (0 < x.2.fret) = false := by simpa using a2
   have : toN p k (c : Int) x = onN p k := by
    unfold toN
    rw [hf,cond_false,e2,cond_true,e1]
   unfold noteE
   rw [this]
  ·rw [if_neg hm,List.getElem?_map]
   cases hy : L[m]? with
   | none => rfl
   | some y =>
    rw [Option.map_some,Option.map_some]
    congr 1
    refine (same y (List.mem_of_getElem? hy) ?_).symm
    by_cases hf : 0 < y.2.fret
    ·exact .inl hf
    ·by_cases hyc : y.2.course = (c : Int)
     ·cases hcl : clN p k last y with
      | true => exact .inr (.inr rfl)
      | false =>
       have := ho m y hy hf hyc hcl
       omega
     ·exact .inr (.inl hyc)
 ·have hd : decide (0 < v) = false := by simpa using h0
  simp only [hd,cond_false]
  have hv0 : v = 0 := by omega
  subst hv0
  have hset : ring.set c 0 = ring := by
   refine List.ext_getElem? fun m => ?_
   rw [List.getElem?_set]
   split
   ·rename_i h; subst h
    rw [if_pos (by have := hr.len; omega),hg]
   ·rfl
  refine ⟨ring,?_,by rw [hset] at hring; exact hring,hg⟩
  congr 2
  refine List.map_congr_left fun y hy => ?_
  refine (same y hy ?_).symm
  by_cases hf : 0 < y.2.fret
  ·exact .inl hf
  ·by_cases hyc : y.2.course = (c : Int)
   ·cases hcl : clN p k last y with
    | true => exact .inr (.inr rfl)
    | false =>
     obtain ⟨m,hm⟩ := List.getElem?_of_mem hy
     have := ho m y hm hf hyc hcl
     omega
   ·exact .inr (.inl hyc)
theorem mem_stopsAt {p : GPiece} {k : Nat} {x : Nat × GStop} (h : x ∈ stopsAt p k) : x.1 = k ∧ ∃ e,p.events[k]? = some e ∧ x.2 ∈ e.stops := by
 unfold stopsAt at h
 obtain ⟨s,h1,rfl⟩ := List.mem_map.1 h
 cases he : p.events[k]? with
 | none => rw [he] at h1; cases h1
 | some e => rw [he] at h1; exact ⟨rfl,e,rfl,h1⟩
theorem mem_stopsN {p : GPiece} : ∀ {k : Nat} {x : Nat × GStop},x ∈ stopsN p k → x.1 < k ∧ ∃ e,p.events[x.1]? = some e ∧ x.2 ∈ e.stops
 | 0,x,h => by cases h
 | k + 1,x,h => by
  rcases List.mem_append.1 h with h | h
  ·obtain ⟨h1,h2⟩ := mem_stopsN h
   exact ⟨by omega,h2⟩
  ·obtain ⟨h1,h2⟩ := mem_stopsAt h
   exact ⟨by omega,by rw [h1]; exact h2⟩
theorem stopsN_len {p : GPiece} (hv : ValidP p) : ∀ (k : Nat),(stopsN p k).length ≤ 14 * k
 | 0 => by simp [stopsN]
 | k + 1 => by
  have := stopsN_len hv k
  have h2 : (stopsAt p k).length ≤ 14 := by
   unfold stopsAt
   rw [List.length_map]
   cases he : p.events[k]? with
   | none => simp
   | some e => exact stops_few hv he
  simp only [stopsN,List.length_append]; omega
theorem stops_asc {p : GPiece} (hv : ValidP p) {k : Nat} {e : GEvent} (he : p.events[k]? = some e) : ∀ (j i : Nat) (s t : GStop),i < j → e.stops[i]? = some s → e.stops[j]? = some t → s.course < t.course := by
 intro j
 induction j with
 | zero => intro i s t h; omega
 | succ j ih =>
  intro i s t hij hs ht
  have hj : j < e.stops.length := by have := (List.getElem?_eq_some_iff.1 ht).1; omega
  have hg := List.getElem?_eq_getElem hj
  have h1 := ((hv.ev k e he).stops (j + 1) t ht).after
  simp only [hg,Option.map_some,Option.getD_some] at h1
  by_cases hi : i = j
  ·subst hi
   rw [hg] at hs; cases hs; exact h1
  ·have := ih i s _ (by omega) hs hg
   omega
theorem stop_bounds {p : GPiece} (hv : ValidP p) {k : Nat} {e : GEvent} (he : p.events[k]? = some e) {s : GStop} (hs : s ∈ e.stops) : 1 ≤ s.course ∧ s.course ≤ 14 := by
 obtain ⟨i,hi⟩ := List.getElem?_of_mem hs
 have h1 := ((hv.ev k e he).stops i s hi).course
 have h2 := (instS_ok hv.inst).1
 omega
theorem plucks_mem {e : GEvent} {c : Int} : plucksS e c = true ↔ ∃ s ∈ e.stops,s.course = c := by
 unfold plucksS
 rw [List.any_eq_true]
 constructor
 ·rintro ⟨s,h1,h2⟩; exact ⟨s,h1,by simpa using h2⟩
 ·rintro ⟨s,h1,h2⟩; exact ⟨s,h1,by simpa using h2⟩
def lastB (e : GEvent) : Nat → Int
 | 0 => bif restS e then 14 else -1
 | k + 1 => ((e.stops[k]?).map (·.course)).getD 0
theorem ring_eq {p : GPiece} {k k' : Nat} {last last' : Int} {L : List (Nat × GStop)} {ring : List Int} (hr : RingX p k last L ring) (h : ∀ x ∈ L,clN p k last x = clN p k' last' x) (ho : ∀ x ∈ L,(1 ≤ x.2.course ∧ x.2.course ≤ 14) ∧ (x.1 < k' ∨ (x.1 = k' ∧ x.2.course ≤ last')) ∧ x.1 < p.events.length) : RingX p k' last' L ring :=
 ⟨hr.len,fun c v hv => ⟨(hr.val c v hv).1,fun hp => by
   obtain ⟨x,a1,a2,a3,a4⟩ := (hr.val c v hv).2 hp
   exact ⟨x,a1,a2,a3,by rw [← h x (List.mem_of_getElem? a1)]; exact a4⟩⟩,
  fun c v hv m x hx hf hxc hcl => hr.only c v hv m x hx hf hxc (by rw [h x (List.mem_of_getElem? hx)]; exact hcl),ho⟩
theorem note_eq {p : GPiece} {k k' : Nat} {last last' : Int} {L : List (Nat × GStop)} (h : ∀ x ∈ L,clN p k last x = clN p k' last' x) : L.map (noteE p k last) = L.map (noteE p k' last') := by
 refine List.map_congr_left fun x hx => ?_
 unfold noteE toN
 rw [h x hx]
theorem onN_get {p : GPiece} {i : Nat} (h : i < (onsS p).length) : (onsS p)[i]? = some (onN p i) := by
 unfold onN
 rw [List.getElem?_eq_getElem h]; rfl
set_option maxHeartbeats 1000000 in
theorem notes_exact (p : GPiece) (hv : ValidP p) : ∃ r,f74 ⟨p,onsS p⟩ = some r ∧ r.1 = notesN p := by
 have hc14 := (instS_ok hv.inst).1
 have hm := hv.many
 have hol : (onsS p).length = p.events.length + 1 := by unfold onsS; rw [ons_len]; simp; omega
 have hs : Small p.events := by simp only [Small]; omega
 have hend : f92 ⟨p,onsS p⟩ = some (onN p p.events.length) := by
  have hw : wr (((onsS p).length : Int) - 1) = (p.events.length : Int) := by rw [hol,wr64 (by omega) (by omega)]; omega
  unfold f92
  simp only [hw,ixNat (onN_get (p := p) (i := p.events.length) (by omega)),Option.bind_some]
 have hr0 : RingX p 0 (-1) (stopsN p 0) (List.replicate 15 0) := by
  refine ⟨by simp,fun c v hv => ?_,fun c v hv m x hx => ?_,fun x hx => ?_⟩
  ·rw [List.getElem?_replicate] at hv
   split at hv
   ·cases hv; exact ⟨Int.le_refl _,fun h => absurd h (by omega)⟩
   ·cases hv
  ·simp [stopsN] at hx
  ·cases hx
 unfold f74
 refine bind_inv (fun k (s : List GNote × List GSPress × List Int × Int) => s.2.2.2 = (k : Int) ∧ s.1 = (stopsN p k).map (noteE p k (-1)) ∧ s.2.1.length ≤ 14 * k ∧ RingX p k (-1) (stopsN p k) s.2.2.1) (fun t : List GNote × List GSPress => t.1 = notesN p) p.events.length (by omega)
  ⟨rfl,rfl,by simp,hr0⟩ ?_ ?_ (fun t ht => ⟨t,rfl,ht⟩)
 ·rintro k ⟨notes,presses,ring,i⟩ hk ⟨rfl,h1,h2,h3⟩
  have hg : p.events[k]? = some (p.events[k]'hk) := List.getElem?_eq_getElem hk
  have hev := hv.ev k _ hg
  have hfew := stops_few hv hg
  have hasc := stops_asc hv hg
  have hsb := fun s hs => stop_bounds (s := s) hv hg hs
  generalize p.events[k]'hk = e at hg hev hfew hasc hsb
  have hgo : (onsS p)[k]? = some (onN p k) := onN_get (by omega)
  simp only at h1 h2 h3
  subst h1
  have hlen := stopsN_len hv k
  simp only [dltLen hg,cond_true,ixNat hg,ixNat hgo,Option.bind_some,andP,lenP]
  have hrest : ∃ r',((bif (decide (e.stops.length = 0) && !e.tie) then ((loopN (σ := (List GNote × List Int × Int)) (τ := (List GNote × List Int)) (fun ((l4_h1,l4_h2,l4_41) : (List GNote × List Int × Int)) => bif (decide (l4_41 < 15)) then ((f106 l4_41 (onN p k) l4_h2 l4_h1).bind fun r7 => some (.inl (r7.1,r7.2,(wr (l4_41 + 1))))) else (some (.inr (l4_h1,l4_h2)))) FUEL ((stopsN p k).map (noteE p k (-1)),ring,0)).bind fun ((l4x_h1,l4x_h2) : (List GNote × List Int)) => some (l4x_h1,l4x_h2)) else (some ((stopsN p k).map (noteE p k (-1)),ring))) : Option (List GNote × List Int)) = some ((stopsN p k).map (noteE p k (lastB e 0)),r') ∧ RingX p k (lastB e 0) (stopsN p k) r' := by
   show ∃ r',((bif restS e then _ else _) : Option (List GNote × List Int)) = _ ∧ _
   cases hre : restS e with
   | false =>
    have : lastB e 0 = -1 := by simp only [lastB,hre,cond_false]
    rw [this]
    exact ⟨ring,rfl,h3⟩
   | true =>
    have h14 : lastB e 0 = 14 := by simp only [lastB,hre,cond_true]
    rw [h14]
    simp only [cond_true]
    have hl := loop_inv (body := fun ((l4_h1,l4_h2,l4_41) : (List GNote × List Int × Int)) => bif (decide (l4_41 < 15)) then ((f106 l4_41 (onN p k) l4_h2 l4_h1).bind fun r7 => some (.inl (r7.1,r7.2,(wr (l4_41 + 1))))) else (some (.inr (l4_h1,l4_h2))))
     (fun c (s : List GNote × List Int × Int) => s.2.2 = (c : Int) ∧ s.1 = (stopsN p k).map (noteE p k ((c : Int) - 1)) ∧ RingX p k ((c : Int) - 1) (stopsN p k) s.2.1) (fun t : List GNote × List Int => t.1 = (stopsN p k).map (noteE p k 14) ∧ RingX p k 14 (stopsN p k) t.2) 15
     (by
      rintro c ⟨n1,r1,i1⟩ hc ⟨rfl,g1,g2⟩
      simp only at g1 g2
      subst g1
      obtain ⟨r',q1,q2,_⟩ := stopX p c k r1 (stopsN p k) ((c : Int) - 1) hc g2 (by omega) (by omega) hk
       (fun x hx hf a1 a2 => by
        unfold clN at a1 a2
        simp only [Bool.or_eq_true,Bool.or_eq_false_iff,Bool.and_eq_true,Bool.and_eq_false_iff,decide_eq_true_eq,decide_eq_false_iff_not] at a1 a2
        omega)
       (fun x hx hf a1 a2 => by
        obtain ⟨b1,e',b2,b3⟩ := mem_stopsN hx
        obtain ⟨o1,o2,o3,o4⟩ := open_ok p x.1 x.2.course (by omega)
        have := o3 k e b1 hg (by unfold endsC; rw [hre]; rfl)
        unfold clN at a1
        simp only [Bool.or_eq_false_iff,Bool.and_eq_false_iff,decide_eq_false_iff_not] at a1
        omega)
      have hd : decide ((c : Int) < 15) = true := by simp; omega
      simp only [hd,cond_true,q1,Option.bind_some,wrNat (show c ≤ 4194304 by omega)]
      have hcc : (((c + 1 : Nat) : Int) - 1) = (c : Int) := by omega
      exact ⟨_,rfl,rfl,by rw [hcc],by rw [hcc]; exact q2⟩)
     (by
      rintro ⟨n1,r1,i1⟩ ⟨rfl,g1,g2⟩
      exact ⟨(n1,r1),by simp,g1,g2⟩) 15 0 FUEL ((stopsN p k).map (noteE p k (-1)),ring,0) (by omega) (by unfold FUEL; omega) ⟨rfl,rfl,h3⟩
    obtain ⟨⟨n',r'⟩,q1,q2,q3⟩ := hl
    simp only at q2 q3
    subst q2
    exact ⟨r',by rw [q1]; rfl,q3⟩
  obtain ⟨r2,hq,hr2⟩ := hrest
  rw [hq]
  simp only [Option.bind_some]
  have hss : Small e.stops := by simp only [Small]; omega
  have hat : stopsAt p k = e.stops.map fun s => (k,s) := by unfold stopsAt; rw [hg]; rfl
  refine bind_invL (fun j (s : List GNote × List GSPress × List Int × Int) => s.2.2.2 = (j : Int) ∧ s.1 = (stopsN p k ++ (e.stops.take j).map fun s => (k,s)).map (noteE p k (lastB e j)) ∧ s.2.1.length ≤ 14 * k + j ∧ RingX p k (lastB e j) (stopsN p k ++ (e.stops.take j).map fun s => (k,s)) s.2.2.1) (fun t : List GNote × List GSPress × List Int => t.1 = (stopsN p (k + 1)).map (noteE p (k + 1) (-1)) ∧ t.2.1.length ≤ 14 * k + e.stops.length ∧ RingX p (k + 1) (-1) (stopsN p (k + 1)) t.2.2) e.stops.length (by omega)
   ⟨rfl,by simp,by simp only; omega,by simpa using hr2⟩ ?_ ?_ ?_
  ·rintro j ⟨n3,p3,r3,i3⟩ hj ⟨rfl,g1,g2,g3⟩
   have hgs : e.stops[j]? = some (e.stops[j]'hj) := List.getElem?_eq_getElem hj
   have hso := hev.stops j _ hgs
   have hascj := hasc j
   generalize e.stops[j]'hj = st at hgs hso
   simp only at g1 g2 g3
   subst g1
   obtain ⟨c1,c2⟩ := hso.course
   have hcn : ((st.course.toNat : Nat) : Int) = st.course := by omega
   have hnr : restS e = false := by
    unfold restS
    have : decide (e.stops.length = 0) = false := decide_eq_false (by omega)
    rw [this]; rfl
   have hlast : lastB e j < ((st.course.toNat : Nat) : Int) := by
    have ha := hso.after
    cases j with
    | zero => simp only [lastB,hnr,cond_false]; omega
    | succ j => simp only [lastB] at ha ⊢; omega
   have hup : ∀ (i : Nat) s,i < j → e.stops[i]? = some s → s.course ≤ lastB e j := by
    intro i s hi hs
    cases j with
    | zero => omega
    | succ j =>
     have hjl : j < e.stops.length := by omega
     have hgj := List.getElem?_eq_getElem hjl
     simp only [lastB,hgj,Option.map_some,Option.getD_some]
     by_cases hij : i = j
     ·subst hij; rw [hgj] at hs; cases hs; omega
     ·have := hasc j i s _ (by omega) hs hgj; omega
   have hpl : endsC st.course e = true := by
    unfold endsC
    rw [hnr,Bool.false_or,plucks_mem]
    exact ⟨st,List.mem_of_getElem? hgs,rfl⟩
   have hLlen : (stopsN p k ++ (e.stops.take j).map fun s => (k,s)).length ≤ 14 * k + j := by
    simp only [List.length_append,List.length_map,List.length_take]; omega
   obtain ⟨r4,q1,q2,q3⟩ := stopX p st.course.toNat k r3 _ (lastB e j) (by omega) g3 hlast (by omega) hk
    (fun x hx hf a1 a2 => by
     obtain ⟨⟨_,b0⟩,b1,b2⟩ := g3.old x hx
     obtain ⟨o1,o2,o3,o4⟩ := open_ok p x.1 x.2.course b2
     unfold clN at a1 a2
     simp only [Bool.or_eq_true,Bool.or_eq_false_iff,Bool.and_eq_true,Bool.and_eq_false_iff,decide_eq_true_eq,decide_eq_false_iff_not] at a1 a2
     have hok : openN p x.1 x.2.course = k := by omega
     have := o4 e (by rw [hok]; exact hg)
     unfold endsC at this
     rw [hnr,Bool.false_or,plucks_mem] at this
     obtain ⟨s,s1,s2⟩ := this
     obtain ⟨q,hq⟩ := List.getElem?_of_mem s1
     by_cases hqj : q < j
     ·have := hup q s hqj hq
      omega
     ·by_cases hqe : q = j
      ·subst hqe
       rw [hgs] at hq; cases hq
       omega
      ·have := hasc q j st s (by omega) hgs hq
       omega)
    (fun x hx hf a1 a2 => by
     obtain ⟨_,b1,b2⟩ := g3.old x hx
     obtain ⟨o1,o2,o3,o4⟩ := open_ok p x.1 x.2.course b2
     have := o3 k e (by omega) hg (by rw [a2,hcn]; exact hpl)
     unfold clN at a1
     simp only [Bool.or_eq_false_iff,Bool.and_eq_false_iff,decide_eq_false_iff_not] at a1
     omega)
   rw [hcn] at q1 q2
   have hpt : f107 p.instrument (⟨st.course,st.fret⟩ : GPlace) = some ((f107 p.instrument (⟨st.course,st.fret⟩ : GPlace)).getD (0,0)) := by
    obtain ⟨pt,hpt⟩ := at_ok p.instrument ⟨st.course,st.fret⟩ hv.inst
    rw [hpt]; rfl
   have hm1 : ((stopsN p k ++ (e.stops.take j).map fun s => (k,s)).map (noteE p k st.course)).length + 1 ≤ maxElems := by rw [List.length_map]; unfold maxElems; omega
   have hm2 : p3.length + 1 ≤ maxElems := by unfold maxElems; omega
   clear hascj
   have htk : (stopsN p k ++ (e.stops.take (j + 1)).map fun s => (k,s)) = (stopsN p k ++ (e.stops.take j).map fun s => (k,s)) ++ [(k,st)] := by
    rw [take_snoc hgs,List.map_append,← List.append_assoc]; rfl
   have hLB : lastB e (j + 1) = st.course := by simp only [lastB,hgs,Option.map_some,Option.getD_some]
   have hope := open_ok p k st.course hk
   have hcl : clN p k st.course (k,st) = false := by
    unfold clN
    simp only [Bool.or_eq_false_iff,Bool.and_eq_false_iff,decide_eq_false_iff_not]
    omega
   generalize hL : (stopsN p k ++ (e.stops.take j).map fun s => (k,s)) = L at g3 hLlen q1 q2 hm1 htk
   have hold' : ∀ x ∈ L ++ [(k,st)],(1 ≤ x.2.course ∧ x.2.course ≤ 14) ∧ (x.1 < k ∨ (x.1 = k ∧ x.2.course ≤ st.course)) ∧ x.1 < p.events.length := by
    intro x hx
    rcases List.mem_append.1 hx with hx | hx
    ·exact q2.old x hx
    ·rw [List.mem_singleton] at hx
     subst hx
     exact ⟨by simp only; omega,.inr ⟨rfl,Int.le_refl _⟩,hk⟩
   have hstep : ∃ r5,((bif (decide (0 < st.fret)) then ((f108 ⟨p,onsS p⟩ (k : Int) st.hold).bind fun r14 => (ix (onsS p) (wr (r14 + 1))).bind fun y15 => some (r4,y15)) else (need (st.course < 15) <| (ix r4 st.course).bind fun y17 => some ((r4.set st.course.toNat (wr (((L.map (noteE p k st.course)).length : Int) + 1))),onN p p.events.length))) : Option (List Int × Int)) = some (r5,toN p k st.course (k,st)) ∧ RingX p k st.course (L ++ [(k,st)]) r5 := by
    by_cases hf : 0 < st.fret
    ·have hd : decide (0 < st.fret) = true := by simpa using hf
     have hlb := long_bound st.course (p.events.drop (k + 1)) 0 0 (by omega) (by omega)
     have hh := hso.hold
     unfold longS at hh
     rw [List.length_drop] at hlb
     obtain ⟨r,s1,s2,s3⟩ := stay_eq p (onsS p) k st.hold hh.1 (by omega) hm
     have hw : wr ((r : Int) + 1) = ((r + 1 : Nat) : Int) := wrNat (by omega)
     have hgr : (onsS p)[r + 1]? = some (onN p (r + 1)) := onN_get (by omega)
     have hto : toN p k st.course (k,st) = onN p (r + 1) := by
      unfold toN
      simp only [hd,cond_true,s2]
     rw [hto]
     simp only [hd,cond_true,s1,Option.bind_some,hw,ixNat hgr]
     refine ⟨r4,rfl,q2.len,fun c v hc => ⟨(q2.val c v hc).1,fun hp => ?_⟩,fun c v hc m x hx hxf hxc hxl => ?_,hold'⟩
     ·obtain ⟨x,a1,a2⟩ := (q2.val c v hc).2 hp
      exact ⟨x,by rw [List.getElem?_append_left (List.getElem?_eq_some_iff.1 a1).1]; exact a1,a2⟩
     ·rw [List.getElem?_append] at hx
      split at hx
      ·exact q2.only c v hc m x hx hxf hxc hxl
      ·have := List.mem_of_getElem? hx
       rw [List.mem_singleton] at this
       subst this
       exact absurd hf hxf
    ·have hd : decide (0 < st.fret) = false := by simpa using hf
     have h15 : st.course < 15 := by omega
     have hgr' := ixNat q3
     rw [hcn] at hgr'
     have hw : wr (((L.map (noteE p k st.course)).length : Int) + 1) = (L.length : Int) + 1 := by rw [List.length_map]; exact wr64 (by omega) (by omega)
     have hto : toN p k st.course (k,st) = onN p p.events.length := by
      unfold toN
      simp only [hd,cond_false,hcl]
     rw [hto]
     simp only [hd,cond_false,need,if_pos h15,hgr',Option.bind_some,hw]
     refine ⟨_,rfl,by rw [List.length_set]; exact q2.len,fun c v hc => ?_,fun c v hc m x hx hxf hxc hxl => ?_,hold'⟩
     ·rw [List.getElem?_set] at hc
      split at hc
      ·rename_i hcc
       split at hc
       ·cases hc
        refine ⟨by omega,fun _ => ⟨(k,st),?_,hf,by simp only; omega,hcl⟩⟩
        have : ((L.length : Int) + 1 - 1).toNat = L.length := by omega
        rw [this,List.getElem?_append_right (Nat.le_refl _)]; simp
       ·cases hc
      ·refine ⟨(q2.val c v hc).1,fun hp => ?_⟩
       obtain ⟨x,a1,a2⟩ := (q2.val c v hc).2 hp
       exact ⟨x,by rw [List.getElem?_append_left (List.getElem?_eq_some_iff.1 a1).1]; exact a1,a2⟩
     ·rw [List.getElem?_set] at hc
      rw [List.getElem?_append] at hx
      by_cases hcc : st.course.toNat = c
      ·rw [if_pos hcc] at hc
       split at hc
       ·cases hc
        split at hx
        ·have hz := q2.only st.course.toNat 0 q3 m x hx hxf (by rw [hxc]; omega) hxl
         omega
        ·rename_i hml
         have := (List.getElem?_eq_some_iff.1 hx).1
         simp only [List.length_cons,List.length_nil] at this
         omega
       ·cases hc
      ·rw [if_neg hcc] at hc
       split at hx
       ·exact q2.only c v hc m x hx hxf hxc hxl
       ·have := List.mem_of_getElem? hx
        rw [List.mem_singleton] at this
        subst this
        simp only at hxc
        omega
   obtain ⟨r5,w1,w2⟩ := hstep
   simp only [dltLen hgs,cond_true,ixNat hgs,Option.bind_some,q1,hend]
   rw [hpt]
   simp only [Option.bind_some]
   rw [w1]
   simp only [Option.bind_some,need,if_pos hm1,if_pos hm2,wrLen hss hgs]
   rw [htk,hLB]
   refine ⟨_,rfl,rfl,?_,by simp only [List.length_append,List.length_cons,List.length_nil]; omega,w2⟩
   simp only [List.map_append,List.map_cons,List.map_nil]
   rfl
  ·rintro ⟨n3,p3,r3,i3⟩ ⟨rfl,g1,g2,g3⟩
   simp only at g1 g2 g3
   subst g1
   rw [List.take_length] at g3 ⊢
   have hN : stopsN p (k + 1) = stopsN p k ++ e.stops.map fun s => (k,s) := by rw [stopsN,hat]
   rw [← hN] at g3 ⊢
   have hclE : ∀ x ∈ stopsN p (k + 1),clN p k (lastB e e.stops.length) x = clN p (k + 1) (-1) x := by
    intro x hx
    obtain ⟨⟨b0,b00⟩,b1,b2⟩ := g3.old x hx
    obtain ⟨o1,o2,o3,o4⟩ := open_ok p x.1 x.2.course b2
    by_cases hok : openN p x.1 x.2.course = k
    ·have hcc : x.2.course ≤ lastB e e.stops.length := by
      have := o4 e (by rw [hok]; exact hg)
      unfold endsC at this
      cases hre : restS e with
      | true =>
       have h0 : e.stops.length = 0 := by
        unfold restS at hre
        simp only [Bool.and_eq_true,decide_eq_true_eq] at hre
        exact hre.1
       rw [h0]
       simp only [lastB,hre,cond_true]
       exact b00
      | false =>
       rw [hre,Bool.false_or,plucks_mem] at this
       obtain ⟨s,s1,s2⟩ := this
       obtain ⟨q,hq⟩ := List.getElem?_of_mem s1
       have hql := (List.getElem?_eq_some_iff.1 hq).1
       obtain ⟨n,hn⟩ : ∃ n,e.stops.length = n + 1 := ⟨e.stops.length - 1,by omega⟩
       have hgn : e.stops[n]? = some (e.stops[n]'(by omega)) := List.getElem?_eq_getElem (by omega)
       rw [hn]
       simp only [lastB,hgn,Option.map_some,Option.getD_some]
       generalize e.stops[n]'(by omega) = sn at hgn
       by_cases hqn : q = n
       ·subst hqn; rw [hgn] at hq; cases hq; omega
       ·have := hasc n q s _ (by omega) hq hgn; omega
     have e1 : clN p k (lastB e e.stops.length) x = true := by unfold clN; simp [hok,hcc]
     have e2 : clN p (k + 1) (-1) x = true := by unfold clN; simp [hok]
     rw [e1,e2]
    ·have e1 : clN p k (lastB e e.stops.length) x = decide (openN p x.1 x.2.course < k) := by unfold clN; simp [hok]
     have e2 : clN p (k + 1) (-1) x = decide (openN p x.1 x.2.course < k + 1) := by
      unfold clN
      have : decide (x.2.course ≤ -1) = false := by simp; omega
      rw [this]; simp
     rw [e1,e2]
     by_cases hlt : openN p x.1 x.2.course < k
     ·have : openN p x.1 x.2.course < k + 1 := by omega
      simp [hlt,this]
     ·have : ¬ openN p x.1 x.2.course < k + 1 := by omega
      simp [hlt,this]
   refine ⟨_,by simp; rfl,note_eq hclE,g2,ring_eq g3 hclE fun x hx => ?_⟩
   have := g3.old x hx
   omega
  ·rintro ⟨n6,p6,r6⟩ ⟨z2,z3,z4⟩
   simp only [wrLen hs hg]
   exact ⟨_,rfl,rfl,z2,by simp only at z3 ⊢; omega,z4⟩
 ·rintro ⟨notes,presses,ring,i⟩ ⟨rfl,h1,h2,h3⟩
  refine ⟨(notes,presses),by simp,?_⟩
  simp only at h1 h3 ⊢
  rw [h1]
  unfold notesN
  refine List.map_congr_left fun x hx => ?_
  obtain ⟨b1,_⟩ := mem_stopsN hx
  obtain ⟨o1,o2,o3,o4⟩ := open_ok p x.1 x.2.course b1
  obtain ⟨⟨b0,_⟩,_⟩ := h3.old x hx
  have : toN p p.events.length (-1) x = onN p (endN p x) := by
   unfold toN endN
   cases decide (0 < x.2.fret) with
   | true => rfl
   | false =>
    simp only [cond_false]
    by_cases hlt : openN p x.1 x.2.course < p.events.length
    ·have : clN p p.events.length (-1) x = true := by unfold clN; simp [hlt]
     rw [this]; rfl
    ·have he : openN p x.1 x.2.course = p.events.length := by omega
     have : clN p p.events.length (-1) x = false := by
      unfold clN
      have h1 : decide (x.2.course ≤ -1) = false := by simp; omega
      rw [h1]; simp [hlt]
     rw [this,cond_false,he]
  unfold noteE noteN
  rw [this]
end Go.Proofs.YtjjendjmakhfaaaGreat
