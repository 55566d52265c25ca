/-
  Plain laws of the player,part 8: what is played from the beginning to the end,without a repeat: every note once.
  Own work. No Go text.
-/
import Derived.Test.YtpljabnngpnieaaPq
import Derived.Test.YtpljabnngpnieaaPv
set_option linter.all false
namespace Go.Proofs.Ytpljabnngpnieaa
open Go Go.Am
theorem later_le (now t x : Int) : laterS now t x ≤ t ∧ (now < x → laterS now t x ≤ x) := by
  unfold laterS minI
  by_cases h : now < x
  · have hd : decide (now < x) = true := by simpa using h
    rw [hd,cond_true]
    split <;> constructor <;> (try intro _) <;> omega
  · have hd : decide (now < x) = false := by simpa using h
    rw [hd,cond_false]
    exact ⟨Int.le_refl _,fun g => absurd g h⟩
theorem fold_first {α : Type} (f : Int → α → Int) (hf : ∀ t x,f t x ≤ t) : ∀ (l : List α) (t : Int),l.foldl f t ≤ t
  | [],t => Int.le_refl _
  | x :: r,t => by
    have := fold_first f hf r (f t x)
    have := hf t x
    simp only [List.foldl_cons]; omega
theorem fold_first_mem {α : Type} (f : Int → α → Int) (hf : ∀ t x,f t x ≤ t) (v : Int) : ∀ (l : List α) (t : Int),(∃ x ∈ l,∀ t,f t x ≤ v) → l.foldl f t ≤ v
  | x :: r,t,⟨y,hy,h⟩ => by
    simp only [List.foldl_cons]
    rcases List.mem_cons.1 hy with rfl | hy
    · have := fold_first f hf r (f t y)
      have := h t
      omega
    · exact fold_first_mem f hf v r (f t x) ⟨y,hy,h⟩
theorem noteStep_le (now : Int) (d : GCDesk) (t : Int) (n : GNote) : (bif canS d n then laterS now t n.from_ else t) ≤ t := by
  cases canS d n with
  | false => exact Int.le_refl _
  | true => exact (later_le now t n.from_).1
theorem nextD_le (now t : Int) (d : GCDesk) : nextD now t d ≤ t := fold_first _ (fun t n => noteStep_le now d t n) d.notes t
theorem next_live {p : GCPlayer} {x : GCLive} (hx : x ∈ p.sounding.l) (h : p.now < x.note.to_) : nextT p ≤ x.note.to_ := by
  unfold nextT
  have h1 := fold_first (nextD p.now) (fun t d => nextD_le p.now t d) p.desks (p.sounding.l.foldl (fun t x => laterS p.now t x.note.to_) (bif decide (0 < p.times) then laterS p.now p.end_ p.to_ else p.end_))
  have h2 := fold_first_mem (fun t (x : GCLive) => laterS p.now t x.note.to_) (fun t x => (later_le p.now t x.note.to_).1) x.note.to_ p.sounding.l (bif decide (0 < p.times) then laterS p.now p.end_ p.to_ else p.end_) ⟨x,hx,fun t => (later_le p.now t x.note.to_).2 h⟩
  omega
theorem next_note {p : GCPlayer} {d : GCDesk} {n : GNote} (hd : d ∈ p.desks) (hn : n ∈ d.notes) (hc : canS d n = true) (h : p.now < n.from_) : nextT p ≤ n.from_ := by
  unfold nextT
  refine fold_first_mem (nextD p.now) (fun t d => nextD_le p.now t d) n.from_ p.desks _ ⟨d,hd,fun t => ?_⟩
  exact fold_first_mem _ (fun t n => noteStep_le p.now d t n) n.from_ d.notes t ⟨n,hn,fun t => by rw [hc]; exact (later_le p.now t n.from_).2 h⟩
def noteT (i : Nat) (n : GNote) : GTake := ⟨(i : Int),n.course,n.pitch,n.from_,n.to_⟩
def futT (x : GCLive) : GTake := ⟨x.desk,x.note.course,x.note.pitch,x.began,x.note.to_⟩
def allT : Nat → List GCDesk → List GTake
  | _,[] => []
  | i,d :: r => (bif d.silent then [] else d.notes.map (noteT i)) ++ allT (i + 1) r
theorem allT_mem : ∀ {l : List GCDesk} {i : Nat} {t : GTake},t ∈ allT i l → ∃ d ∈ l,d.silent = false ∧ ∃ n ∈ d.notes,t.from_ = n.from_ ∧ t.to_ = n.to_
  | d :: r,i,t,h => by
    simp only [allT] at h
    rcases List.mem_append.1 h with h | h
    · cases hs : d.silent with
      | true => rw [hs] at h; cases h
      | false =>
        rw [hs] at h
        obtain ⟨n,hn,rfl⟩ := List.mem_map.1 h
        exact ⟨d,by simp,hs,n,hn,rfl,rfl⟩
    · obtain ⟨e,he,h1,h2⟩ := allT_mem h
      exact ⟨e,by simp [he],h1,h2⟩
theorem put_perm (l : List GCLive) (x : GCLive) : (putS l x).Perm (x :: l) := by
  unfold putS
  refine List.perm_middle.trans (List.Perm.cons x ?_)
  rw [List.take_append_drop]
def atF (t : Int) (x : GTake) : Bool := decide (x.from_ = t)
def toF (t : Int) (x : GTake) : Bool := decide (x.from_ ≤ t)
theorem startN_at (p : GCPlayer) (i : Nat) (d : GCDesk) : ∀ (l : List GNote) (a : List GCLive × List GVoice),∀ y ∈ (l.foldl (startN p i d) a).1,y ∈ a.1 ∨ (y.note ∈ l ∧ y.note.from_ = p.now)
  | [],a,y,hy => .inl hy
  | n :: r,a,y,hy => by
    simp only [List.foldl_cons] at hy
    rcases startN_at p i d r (startN p i d a n) y hy with h | ⟨h,h'⟩
    · unfold startN at h
      cases hb : begS p.now d n with
      | false => rw [hb] at h; exact .inl h
      | true =>
        rw [hb] at h
        have hn : n.from_ = p.now := by
          unfold begS at hb
          simp only [Bool.and_eq_true,decide_eq_true_eq] at hb
          exact hb.1
        rcases put_mem h with rfl | h
        · exact .inr ⟨by simp [liveS],hn⟩
        · exact .inl h
    · exact .inr ⟨by simp [h],h'⟩
theorem startI_at (p : GCPlayer) : ∀ (l : List GCDesk) (i : Nat) (a : List GCLive × List GVoice),∀ y ∈ (foldI (startD p) i l a).1,y ∈ a.1 ∨ ∃ d ∈ l,y.note ∈ d.notes ∧ y.note.from_ = p.now
  | [],i,a,y,hy => .inl hy
  | d :: r,i,a,y,hy => by
    simp only [foldI] at hy
    rcases startI_at p r (i + 1) (startD p i a d) y hy with h | ⟨e,h,h'⟩
    · rcases startN_at p i d d.notes a y h with h | h
      · exact .inl h
      · exact .inr ⟨d,by simp,h⟩
    · exact .inr ⟨e,by simp [h],h'⟩
def FineD (en : Int) (ds : List GCDesk) : Prop := ∀ d ∈ ds,d.since = 0 ∧ ∀ n ∈ d.notes,0 ≤ n.from_ ∧ n.from_ < n.to_ ∧ n.to_ ≤ en
structure Plays (k : Nat) (p : GCPlayer) : Prop where
  keeps : Keeps k p
  fine : FineD p.end_ p.desks
  ticks : p.clock.ticks = p.now
  first : p.waiting = true → p.now = 0 ∧ p.takes = []
  live : p.waiting = false → ∀ x ∈ p.sounding.l,p.now < x.note.to_
  all : p.waiting = false → (p.takes ++ p.sounding.l.map futT).Perm ((allT 0 p.desks).filter (toF p.now))
theorem filter_split (l : List GTake) (a b : Int) (hab : a < b) (h : ∀ t ∈ l,¬ (a < t.from_ ∧ t.from_ < b)) : (l.filter (toF b)).Perm (l.filter (toF a) ++ l.filter (atF b)) := by
  induction l with
  | nil => exact List.Perm.nil
  | cons x l ih =>
    have hi := ih fun t ht => h t (List.mem_cons_of_mem _ ht)
    have hx := h x (by simp)
    simp only [List.filter_cons,toF,atF,decide_eq_true_eq] at hi ⊢
    by_cases h1 : x.from_ ≤ a
    · have h2 : x.from_ ≤ b := by omega
      have h3 : ¬ x.from_ = b := by omega
      rw [if_pos h1,if_pos h2,if_neg h3]
      exact hi.cons x
    · by_cases h2 : x.from_ = b
      · have h3 : x.from_ ≤ b := by omega
        rw [if_neg h1,if_pos h2,if_pos h3]
        exact (hi.cons x).trans List.perm_middle.symm
      · have h3 : ¬ x.from_ ≤ b := by omega
        rw [if_neg h1,if_neg h2,if_neg h3]
        exact hi
end Go.Proofs.Ytpljabnngpnieaa
