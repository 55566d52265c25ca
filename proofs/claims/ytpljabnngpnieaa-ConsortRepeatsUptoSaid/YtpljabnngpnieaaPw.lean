/-
  Plain laws of the player,part 4: what a step keeps; how many steps there are.
  Own work. No Go text.
-/
import Derived.Test.YtpljabnngpnieaaPb
set_option linter.all false
namespace Go.Proofs.Ytpljabnngpnieaa
open Go Go.Am
theorem countP_lt {l : List Int} {a b v : Int} (hv : v ∈ l) (h1 : a < v) (h2 : ¬ b < v) (hab : a ≤ b) : l.countP (fun x => decide (b < x)) < l.countP (fun x => decide (a < x)) := by
  induction l with
  | nil => cases hv
  | cons x l ih =>
    have mono : ∀ r : List Int,r.countP (fun x => decide (b < x)) ≤ r.countP (fun x => decide (a < x)) := fun r => List.countP_mono_left fun x _ h => by simp at h ⊢; omega
    simp only [List.countP_cons]
    rcases List.mem_cons.1 hv with rfl | hv
    · have := mono l
      simp only [decide_eq_true_eq,h1,h2,if_true,if_false]
      omega
    · have := ih hv
      by_cases g1 : b < x
      · have g2 : a < x := by omega
        simp only [decide_eq_true_eq,g1,g2,if_true]; omega
      · simp only [decide_eq_true_eq,g1,if_false]
        split <;> omega
theorem countP_le {l : List Int} {a b : Int} (hab : a < b) : l.countP (fun x => decide (x ≤ a)) + l.countP (fun x => decide (x = b)) ≤ l.countP (fun x => decide (x ≤ b)) := by
  induction l with
  | nil => simp
  | cons x l ih =>
    simp only [List.countP_cons,decide_eq_true_eq]
    split <;> split <;> split <;> omega
theorem countP_eq_le {l : List Int} {b : Int} : l.countP (fun x => decide (x = b)) ≤ l.countP (fun x => decide (x ≤ b)) := List.countP_mono_left fun x _ h => by simp at h ⊢; omega
theorem later_fold {α : Type} (g : α → Int) (now : Int) : ∀ (l : List α) (t : Int),l.foldl (fun t x => laterS now t (g x)) t = t ∨ ∃ x ∈ l,g x = l.foldl (fun t x => laterS now t (g x)) t ∧ now < g x
  | [],t => .inl rfl
  | x :: r,t => by
    simp only [List.foldl_cons]
    rcases later_fold g now r (laterS now t (g x)) with h | ⟨y,h1,h2,h3⟩
    · rw [h]
      unfold laterS
      by_cases hn : now < g x
      · have hd : decide (now < g x) = true := by simpa using hn
        rw [hd,cond_true]
        unfold minI
        split
        · exact .inr ⟨x,by simp,rfl,hn⟩
        · exact .inl rfl
      · have hd : decide (now < g x) = false := by simpa using hn
        rw [hd]; exact .inl rfl
    · exact .inr ⟨y,by simp [h1],h2,h3⟩
def fromsS (ds : List GCDesk) : List Int := ds.flatMap fun d => d.notes.map (·.from_)
theorem desk_fold (now : Int) (d : GCDesk) : ∀ (l : List GNote) (t : Int),l.foldl (fun t n => bif canS d n then laterS now t n.from_ else t) t = t ∨ ∃ n ∈ l,n.from_ = l.foldl (fun t n => bif canS d n then laterS now t n.from_ else t) t ∧ now < n.from_
  | [],t => .inl rfl
  | n :: r,t => by
    simp only [List.foldl_cons]
    rcases desk_fold now d r (bif canS d n then laterS now t n.from_ else t) with h | ⟨y,h1,h2,h3⟩
    · rw [h]
      cases canS d n with
      | false => exact .inl rfl
      | true =>
        simp only [cond_true]
        unfold laterS
        by_cases hn : now < n.from_
        · have hd : decide (now < n.from_) = true := by simpa using hn
          rw [hd,cond_true]
          unfold minI
          split
          · exact .inr ⟨n,by simp,rfl,hn⟩
          · exact .inl rfl
        · have hd : decide (now < n.from_) = false := by simpa using hn
          rw [hd]; exact .inl rfl
    · exact .inr ⟨y,by simp [h1],h2,h3⟩
theorem desks_fold (now : Int) : ∀ (l : List GCDesk) (t : Int),l.foldl (nextD now) t = t ∨ ∃ d ∈ l,∃ n ∈ d.notes,n.from_ = l.foldl (nextD now) t ∧ now < n.from_
  | [],t => .inl rfl
  | d :: r,t => by
    simp only [List.foldl_cons]
    rcases desks_fold now r (nextD now t d) with h | ⟨e,h1,n,h2,h3,h4⟩
    · rw [h]
      rcases desk_fold now d d.notes t with h5 | ⟨n,h5,h6,h7⟩
      · exact .inl h5
      · exact .inr ⟨d,by simp,n,h5,h6,h7⟩
    · exact .inr ⟨e,by simp [h1],n,h2,h3,h4⟩
structure Keeps (k : Nat) (p : GCPlayer) : Prop where
  now : 0 ≤ p.now ∧ p.now ≤ p.end_ ∧ p.end_ ≤ 1000000
  desks : p.desks.length ≤ 6
  notes : ∀ d ∈ p.desks,d.notes.length ≤ 1000
  times : p.times = 0
  waits : p.waiting = true → p.sounding.l = []
  live : p.waiting = false → p.sounding.l.length ≤ (fromsS p.desks).countP fun x => decide (x ≤ p.now)
  mem : ∀ x ∈ p.sounding.l,∃ d ∈ p.desks,x.note ∈ d.notes
  takes : p.takes.length ≤ 6000 * k
theorem froms_len : ∀ (ds : List GCDesk),(∀ d ∈ ds,d.notes.length ≤ 1000) → (fromsS ds).length ≤ 1000 * ds.length
  | [],_ => by simp [fromsS]
  | d :: r,h => by
    have h1 := froms_len r fun e he => h e (List.mem_cons_of_mem _ he)
    have h2 := h d (by simp)
    simp only [fromsS,List.flatMap_cons,List.length_append,List.length_map,List.length_cons] at *
    omega
theorem put_mem {l : List GCLive} {x y : GCLive} (h : y ∈ putS l x) : y = x ∨ y ∈ l := by
  unfold putS at h
  rcases List.mem_append.1 h with h | h
  · exact .inr (List.mem_of_mem_take h)
  · rcases List.mem_cons.1 h with h | h
    · exact .inl h
    · exact .inr (List.mem_of_mem_drop h)
theorem startD_ok (p : GCPlayer) (i : Nat) (d : GCDesk) : ∀ (l : List GNote) (a : List GCLive × List GVoice),a.1.length + l.length ≤ 1000000 →
    (l.foldl (startN p i d) a).1.length ≤ a.1.length + (l.map (·.from_)).countP (fun x => decide (x = p.now)) ∧ ∀ y ∈ (l.foldl (startN p i d) a).1,y ∈ a.1 ∨ y.note ∈ l
  | [],a,_ => ⟨by simp,fun y hy => .inl hy⟩
  | n :: r,a,hl => by
    simp only [List.length_cons] at hl
    have hp := put_len a.1 (liveS p i n) (by simp only [Small]; omega)
    have hs : (startN p i d a n).1.length ≤ a.1.length + (if n.from_ = p.now then 1 else 0) ∧ ∀ y ∈ (startN p i d a n).1,y ∈ a.1 ∨ y.note = n := by
      unfold startN
      cases hb : begS p.now d n with
      | false => exact ⟨by simp only [cond_false]; omega,fun y hy => .inl hy⟩
      | true =>
        have hn : n.from_ = p.now := by
          unfold begS at hb
          simp only [Bool.and_eq_true,decide_eq_true_eq] at hb
          exact hb.1
        refine ⟨by simp only [cond_true,hp,hn,if_true]; omega,fun y hy => ?_⟩
        rcases put_mem hy with rfl | hy
        · exact .inr rfl
        · exact .inl hy
    have hle : (startN p i d a n).1.length ≤ a.1.length + 1 := by have := hs.1; split at this <;> omega
    obtain ⟨g1,g2⟩ := startD_ok p i d r (startN p i d a n) (by omega)
    simp only [List.foldl_cons,List.map_cons,List.countP_cons,decide_eq_true_eq]
    refine ⟨by have := hs.1; omega,fun y hy => ?_⟩
    rcases g2 y hy with h | h
    · rcases hs.2 y h with h | h
      · exact .inl h
      · exact .inr (by rw [h]; simp)
    · exact .inr (by simp [h])
theorem startI_ok (p : GCPlayer) : ∀ (l : List GCDesk) (i : Nat) (a : List GCLive × List GVoice),(∀ d ∈ l,d.notes.length ≤ 1000) → a.1.length + 1000 * l.length ≤ 1000000 →
    (foldI (startD p) i l a).1.length ≤ a.1.length + (fromsS l).countP (fun x => decide (x = p.now)) ∧ ∀ y ∈ (foldI (startD p) i l a).1,y ∈ a.1 ∨ ∃ d ∈ l,y.note ∈ d.notes
  | [],i,a,_,_ => ⟨by simp [foldI,fromsS],fun y hy => .inl hy⟩
  | d :: r,i,a,hd,hl => by
    have hdn := hd d (by simp)
    simp only [List.length_cons] at hl
    obtain ⟨h1,h2⟩ := startD_ok p i d d.notes a (by omega)
    have h3 : (d.notes.map (·.from_)).countP (fun x => decide (x = p.now)) ≤ 1000 := Nat.le_trans List.countP_le_length (by simp; omega)
    obtain ⟨g1,g2⟩ := startI_ok p r (i + 1) (startD p i a d) (fun e he => hd e (List.mem_cons_of_mem _ he)) (by unfold startD; omega)
    simp only [foldI]
    have hf : fromsS (d :: r) = d.notes.map (·.from_) ++ fromsS r := by simp [fromsS]
    rw [hf,List.countP_append]
    refine ⟨by unfold startD at g1 ⊢; omega,fun y hy => ?_⟩
    rcases g2 y hy with h | ⟨e,h,h'⟩
    · rcases h2 y h with h | h
      · exact .inl h
      · exact .inr ⟨d,by simp,h⟩
    · exact .inr ⟨e,by simp [h],h'⟩
theorem step_done {p : GCPlayer} (h : doneS p = true) : stepS p = (noFrame,92,p) := by unfold stepS; rw [h]; rfl
end Go.Proofs.Ytpljabnngpnieaa
