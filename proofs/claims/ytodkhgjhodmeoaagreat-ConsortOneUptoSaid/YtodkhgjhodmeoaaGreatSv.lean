/-
 The stable sort of cues,part four: the whole. Plain law.
 Own work. No Go text.
-/
import Derived.Test.YtodkhgjhodmeoaaGreatSz
set_option linter.all false
namespace Go.Proofs.YtodkhgjhodmeoaaGreat
open Go Go.Am
def OkB (bs : Nat) (l : List (List GCue × List GCue)) : Prop := ∀ c ∈ l,c.2.Perm c.1 ∧ c.2.Pairwise Rk ∧ c.1.length = bs
def A1 (l : List (List GCue × List GCue)) : List GCue := l.flatMap Prod.fst
def A2 (l : List (List GCue × List GCue)) : List GCue := l.flatMap Prod.snd
theorem A1_cons (c : List GCue × List GCue) (l : List (List GCue × List GCue)) : A1 (c :: l) = c.1 ++ A1 l := rfl
theorem A2_cons (c : List GCue × List GCue) (l : List (List GCue × List GCue)) : A2 (c :: l) = c.2 ++ A2 l := rfl
theorem A1_snoc (l : List (List GCue × List GCue)) (c : List GCue × List GCue) : A1 (l ++ [c]) = A1 l ++ c.1 := by simp [A1]
theorem A2_snoc (l : List (List GCue × List GCue)) (c : List GCue × List GCue) : A2 (l ++ [c]) = A2 l ++ c.2 := by simp [A2]
theorem OkB.len {bs : Nat} : ∀ {l : List (List GCue × List GCue)},OkB bs l → (A1 l).length = l.length * bs ∧ (A2 l).length = l.length * bs
 | [],_ => by simp [A1,A2]
 | c :: l,h => by
  obtain ⟨h1,h2⟩ := OkB.len (l := l) fun d hd => h d (by simp [hd])
  obtain ⟨c1,c2,c3⟩ := h c (by simp)
  have c4 := c1.length_eq
  rw [A1_cons,A2_cons,List.length_append,List.length_append,h1,h2,List.length_cons,Nat.add_mul]
  omega
theorem OkB.perm {bs : Nat} : ∀ {l : List (List GCue × List GCue)},OkB bs l → (A2 l).Perm (A1 l)
 | [],_ => .refl _
 | c :: l,h => by
  rw [A1_cons,A2_cons]
  exact (h c (by simp)).1.append (OkB.perm fun d hd => h d (by simp [hd]))
theorem OkB.snoc {bs : Nat} {l : List (List GCue × List GCue)} (h : OkB bs l) {X Z : List GCue} (h1 : Z.Perm X) (h2 : Z.Pairwise Rk) (h3 : X.length = bs) : OkB bs (l ++ [(X,Z)]) := by
 intro c hc
 rcases List.mem_append.1 hc with hc | hc
 ·exact h c hc
 ·rw [List.mem_singleton.1 hc]
  exact ⟨h1,h2,h3⟩
def BlkB (l0 : List GCue) (bs : Nat) (l : List GCue) : Prop :=
 ∃ D X Z,l0 = A1 D ++ X ∧ l = A2 D ++ Z ∧ OkB bs D ∧ Z.Perm X ∧ Z.Pairwise Rk ∧ X.length < bs
theorem BlkB.len {l0 l : List GCue} {bs : Nat} (h : BlkB l0 bs l) : l.length = l0.length := by
 obtain ⟨D,X,Z,h1,h2,h3,h4,_⟩ := h
 have := h3.len
 have := h4.length_eq
 rw [h1,h2,List.length_append,List.length_append]
 omega
theorem BlkB.done {l0 l : List GCue} {bs : Nat} (h : BlkB l0 bs l) (hb : 0 < bs) (hn : l0.length ≤ bs) : l.Perm l0 ∧ l.Pairwise Rk := by
 obtain ⟨D,X,Z,h1,h2,h3,h4,h5,h6⟩ := h
 have hl := h3.len
 have hn' : D.length * bs + X.length ≤ bs := by
  rw [h1,List.length_append,hl.1] at hn
  exact hn
 cases D with
 | nil =>
  rw [h1,h2]
  exact ⟨h4,h5⟩
 | cons c D =>
  rw [List.length_cons,Nat.add_mul,Nat.one_mul] at hn'
  have hX : X = [] := List.length_eq_zero_iff.1 (by omega)
  have hD : D = [] := by
   cases D with
   | nil => rfl
   | cons d D =>
    rw [List.length_cons,Nat.add_mul] at hn'
    omega
  subst hX; subst hD
  have hZ : Z = [] := List.length_eq_zero_iff.1 (by have := h4.length_eq; simpa using this)
  subst hZ
  obtain ⟨c1,c2,_⟩ := h3 c (by simp)
  rw [h1,h2,A1_cons,A2_cons]
  simp only [A1,A2,List.flatMap_nil,List.append_nil]
  exact ⟨c1,c2⟩
theorem dk_of {l0 A B C E X Y : List GCue} (hD : l0.Pairwise Dk) (h : l0 = A ++ (B ++ (C ++ E))) (hX : X.Perm B) (hY : Y.Perm C) : ∀ x ∈ X,∀ y ∈ Y,Dk x y := by
 intro x hx y hy
 rw [h] at hD
 obtain ⟨_,d2,_⟩ := List.pairwise_append.1 hD
 obtain ⟨_,_,d3⟩ := List.pairwise_append.1 d2
 exact d3 x (hX.mem_iff.1 hx) y (by simp [hY.mem_iff.1 hy])
theorem dk_part {l0 A B C : List GCue} (hD : l0.Pairwise Dk) (h : l0 = A ++ (B ++ C)) : B.Pairwise Dk := by
 rw [h] at hD
 exact (List.pairwise_append.1 (List.pairwise_append.1 hD).2.1).1
theorem stable_law (l0 : List GCue) (hn : l0.length ≤ 4194304) (hD : l0.Pairwise Dk) : ∃ r,f140 l0 (l0.length : Int) = some r ∧ r.Perm l0 ∧ r.Pairwise Rk := by
 unfold f140
 refine bind_ex (P1 := fun r => ∃ D T,l0 = A1 D ++ T ∧ r.1 = A2 D ++ T ∧ OkB 20 D ∧ r.2 = ((A2 D).length : Int) ∧ T.length < 20) ?_ ?_
 ·refine loop_mu (fun s => ∃ D T,l0 = A1 D ++ T ∧ s.1 = A2 D ++ T ∧ OkB 20 D ∧ s.2.1 = ((A2 D).length : Int) ∧ s.2.2 = (((A2 D).length + 20 : Nat) : Int)) (fun s => 4194305 - s.2.1.toNat) _ ?_ FUEL _ ⟨[],l0,by simp [A1],by simp [A2],(fun c hc => by cases hc),by simp [A2],by simp [A2]⟩ (by unfold FUEL; omega)
  rintro ⟨l,a,b⟩ ⟨D,T,h1,h2,h3,h4,h5⟩
  simp only at h2 h4 h5
  subst h4; subst h5
  obtain ⟨q1,q2⟩ := h3.len
  have hl0 : l0.length = (A2 D).length + T.length := by rw [h1,List.length_append,q1,q2]
  by_cases hb : 20 ≤ T.length
  ·left
   have e : decide ((((A2 D).length + 20 : Nat) : Int) ≤ (l0.length : Int)) = true := by simp; omega
   obtain ⟨X,T',hT,hX⟩ : ∃ X T',T = X ++ T' ∧ X.length = 20 := ⟨T.take 20,T.drop 20,by simp,by simp; omega⟩
   obtain ⟨r,r1,Z,r2,r3,r4⟩ := ins_law (A2 D) X T' (by
    rw [hT] at hl0
    simp only [List.length_append] at hl0 ⊢
    omega) (dk_part hD (A := A1 D) (C := T') (by rw [h1,hT]))
   rw [hX] at r1
   have hll : l = A2 D ++ X ++ T' := by rw [h2,hT]; simp
   rw [← hll] at r1
   have zl := r3.length_eq
   have w : wr ((((A2 D).length + 20 : Nat) : Int) + 20) = (((A2 D).length + 20 + 20 : Nat) : Int) := by rw [wrI (by omega) (by omega)]; omega
   simp only [e,cond_true,r1,Option.bind_some,w]
   rw [need_some (by rw [r2,hll]; simp only [List.length_append]; omega)]
   refine ⟨_,rfl,⟨D ++ [(X,Z)],T',by rw [A1_snoc,h1,hT]; simp,by rw [A2_snoc,r2],h3.snoc r3 r4 hX,by rw [A2_snoc]; simp; omega,by rw [A2_snoc]; simp; omega⟩,?_⟩
   simp only [Int.toNat_natCast]
   omega
  ·right
   have e : decide ((((A2 D).length + 20 : Nat) : Int) ≤ (l0.length : Int)) = false := by simp; omega
   simp only [e,cond_false]
   exact ⟨_,rfl,D,T,h1,h2,h3,rfl,by omega⟩
 rintro ⟨l,a⟩ ⟨D,T,h1,h2,h3,h4,h5⟩
 simp only at h2 h4
 subst h4
 obtain ⟨q1,q2⟩ := h3.len
 have hl0 : l0.length = (A2 D).length + T.length := by rw [h1,List.length_append,q1,q2]
 obtain ⟨r,r1,Z,r2,r3,r4⟩ := ins_law (A2 D) T [] (by
  simp only [List.length_append,List.length_nil] at hl0 ⊢
  omega) (dk_part hD (A := A1 D) (C := []) (by rw [h1]; simp))
 rw [← hl0,List.append_nil,← h2] at r1
 have zl := r3.length_eq
 simp only [r1,Option.bind_some]
 rw [need_some (by rw [r2,h2]; simp only [List.length_append,List.length_nil]; omega)]
 refine bind_ex (P1 := fun r => r.Perm l0 ∧ r.Pairwise Rk) ?_ fun r h => ⟨r,rfl,h⟩
 refine loop_mu (fun s => ∃ bs : Nat,s.2 = (bs : Int) ∧ 20 ≤ bs ∧ bs ≤ 8388608 ∧ BlkB l0 bs s.1) (fun s => 8388609 - s.2.toNat) _ ?_ FUEL _ ⟨20,rfl,Nat.le_refl _,by omega,D,T,Z,h1,by rw [r2]; simp,h3,r3,r4,h5⟩ (by unfold FUEL; omega)
 clear r1 r2 r3 r4 zl h1 h2 h3 h5 q1 q2 hl0 Z r D T l
 rintro ⟨l,b⟩ ⟨bs,hb,hb0,hb1,hB⟩
 simp only at hb hB
 subst hb
 have hlen := hB.len
 by_cases hge : l0.length ≤ bs
 ·right
  have e : decide ((bs : Int) < (l0.length : Int)) = false := by simp; omega
  simp only [e,cond_false]
  exact ⟨_,rfl,hB.done (by omega) (by omega)⟩
 have hlt : bs < l0.length := by omega
 left
 have e : decide ((bs : Int) < (l0.length : Int)) = true := by simp; omega
 have w2 : wr (2 * (bs : Int)) = ((2 * bs : Nat) : Int) := by rw [wrI (by omega) (by omega)]; omega
 have w3 : wr ((bs : Int) * 2) = ((2 * bs : Nat) : Int) := by rw [wrI (by omega) (by omega)]; omega
 simp only [e,cond_true,w2,w3]
 obtain ⟨D,X,Z,g1,g2,g3,g4,g5,g6⟩ := hB
 have main : ∃ z,((loopN (σ := (List GCue × Int × Int)) (τ := (List GCue × Int)) (fun ((l3_0,l3_7,l3_8) : (List GCue × Int × Int)) => bif (decide (l3_8 ≤ (l0.length : Int))) then ((f183 l3_0 l3_7 (wr (l3_7 + (bs : Int))) l3_8).bind fun r8 => need (r8.length = l3_0.length) <| some (.inl (r8,l3_8,(wr (l3_8 + ((2 * bs : Nat) : Int)))))) else (some (.inr (l3_0,l3_7)))) FUEL (l,0,((2 * bs : Nat) : Int))).bind fun ((l3x_0,l3x_7) : (List GCue × Int)) => ((bif (decide ((wr (l3x_7 + (bs : Int))) < (l0.length : Int))) then ((f183 l3x_0 l3x_7 (wr (l3x_7 + (bs : Int))) (l0.length : Int)).bind fun r11 => need (r11.length = l3x_0.length) <| some r11) else (some l3x_0)) : Option (List GCue))) = some z ∧ BlkB l0 (2 * bs) z := by
  refine bind_ex (P1 := fun s => ∃ E R,l0 = A1 E ++ (A1 R ++ X) ∧ s.1 = A2 E ++ (A2 R ++ Z) ∧ OkB (2 * bs) E ∧ OkB bs R ∧ s.2 = ((A2 E).length : Int) ∧ R.length ≤ 1) ?_ ?_
  ·refine loop_mu (fun s => ∃ E R,l0 = A1 E ++ (A1 R ++ X) ∧ s.1 = A2 E ++ (A2 R ++ Z) ∧ OkB (2 * bs) E ∧ OkB bs R ∧ s.2.1 = ((A2 E).length : Int) ∧ s.2.2 = (((A2 E).length + 2 * bs : Nat) : Int)) (fun s => 4194305 - s.2.1.toNat) _ ?_ FUEL _ ⟨[],D,by rw [g1]; simp [A1],by rw [g2]; simp [A2],(fun c hc => by cases hc),g3,by simp [A2],by simp [A2]⟩ (by unfold FUEL; omega)
   rintro ⟨l,a,b⟩ ⟨E,R,h1,h2,h3,h4,h5,h6⟩
   simp only at h2 h5 h6
   subst h5; subst h6
   obtain ⟨q1,q2⟩ := h3.len
   obtain ⟨q3,q4⟩ := h4.len
   have hl0 : l0.length = (A2 E).length + (R.length * bs + X.length) := by rw [h1,List.length_append,List.length_append,q1,q2,q3]
   match R,h1,h2,h4,q3,q4,hl0 with
   | [],h1,h2,h4,q3,q4,hl0 =>
    right
    have e : decide ((((A2 E).length + 2 * bs : Nat) : Int) ≤ (l0.length : Int)) = false := decide_eq_false (by simp at hl0; omega)
    simp only [e,cond_false]
    exact ⟨_,rfl,E,[],h1,h2,h3,h4,rfl,by simp⟩
   | [c],h1,h2,h4,q3,q4,hl0 =>
    right
    have e : decide ((((A2 E).length + 2 * bs : Nat) : Int) ≤ (l0.length : Int)) = false := decide_eq_false (by simp at hl0; omega)
    simp only [e,cond_false]
    exact ⟨_,rfl,E,[c],h1,h2,h3,h4,rfl,by simp⟩
   | c1 :: c2 :: R,h1,h2,h4,q3,q4,hl0 =>
    left
    rw [List.length_cons,List.length_cons,Nat.add_mul,Nat.add_mul,Nat.one_mul] at hl0
    have e : decide ((((A2 E).length + 2 * bs : Nat) : Int) ≤ (l0.length : Int)) = true := by simp; omega
    obtain ⟨m1,m2,m3⟩ := h4 c1 (by simp)
    obtain ⟨n1,n2,n3⟩ := h4 c2 (by simp)
    have m4 := m1.length_eq
    have n4 := n1.length_eq
    have g4l := g4.length_eq
    obtain ⟨r3',r4'⟩ := OkB.len (l := R) (bs := bs) fun d hd => h4 d (by simp [hd])
    obtain ⟨r,r1,Y,r2,r3,r4⟩ := symm_law FUEL (A2 E) c1.2 c2.2 (A2 R ++ Z) (by simp only [List.length_append]; omega) (List.length_pos_iff.1 (by omega)) (List.length_pos_iff.1 (by omega)) (by unfold FUEL; omega) m2 n2
     (dk_of hD (A := A1 E) (E := A1 R ++ X) (by rw [h1,A1_cons,A1_cons]; simp) m1 n1)
    have hll : l = A2 E ++ c1.2 ++ c2.2 ++ (A2 R ++ Z) := by rw [h2,A2_cons,A2_cons]; simp
    rw [← hll,show (A2 E).length + c1.2.length + c2.2.length = (A2 E).length + 2 * bs by omega,show (A2 E).length + c1.2.length = (A2 E).length + bs by omega] at r1
    have w : wr ((((A2 E).length : Nat) : Int) + (bs : Int)) = (((A2 E).length + bs : Nat) : Int) := by rw [wrI (by omega) (by omega)]; omega
    have w' : wr ((((A2 E).length + 2 * bs : Nat) : Int) + ((2 * bs : Nat) : Int)) = (((A2 E).length + 2 * bs + 2 * bs : Nat) : Int) := by rw [wrI (by omega) (by omega)]; omega
    have yl := r3.length_eq
    simp only [List.length_append] at yl
    unfold f183
    simp only [e,cond_true,w,w',r1,Option.bind_some]
    rw [need_some (by rw [r2,hll]; simp only [List.length_append]; omega)]
    refine ⟨_,rfl,⟨E ++ [(c1.1 ++ c2.1,Y)],R,by rw [A1_snoc,h1,A1_cons,A1_cons]; simp,by rw [A2_snoc,r2],h3.snoc (r3.trans (m1.append n1)) r4 (by simp only [List.length_append]; omega),fun d hd => h4 d (by simp [hd]),by rw [A2_snoc]; simp only [List.length_append]; omega,by rw [A2_snoc]; simp only [List.length_append]; omega⟩,?_⟩
    simp only [Int.toNat_natCast]
    omega
  ·rintro ⟨l,a⟩ ⟨E,R,h1,h2,h3,h4,h5,h6⟩
   simp only at h2 h5
   subst h5
   obtain ⟨q1,q2⟩ := h3.len
   obtain ⟨q3,q4⟩ := h4.len
   have hl0 : l0.length = (A2 E).length + (R.length * bs + X.length) := by rw [h1,List.length_append,List.length_append,q1,q2,q3]
   have w : wr ((((A2 E).length : Nat) : Int) + (bs : Int)) = (((A2 E).length + bs : Nat) : Int) := by rw [wrI (by omega) (by omega)]; omega
   match R,h1,h2,h4,h6,q3,q4,hl0 with
   | [],h1,h2,h4,h6,q3,q4,hl0 =>
    have e : decide ((((A2 E).length + bs : Nat) : Int) < (l0.length : Int)) = false := decide_eq_false (by simp at hl0; omega)
    simp only [w,e,cond_false]
    exact ⟨_,rfl,E,X,Z,by rw [h1]; simp [A1],by rw [h2]; simp [A2],h3,g4,g5,by omega⟩
   | [c],h1,h2,h4,h6,q3,q4,hl0 =>
    obtain ⟨m1,m2,m3⟩ := h4 c (by simp)
    have m4 := m1.length_eq
    have g4l := g4.length_eq
    simp only [List.length_cons,List.length_nil,Nat.zero_add,Nat.one_mul] at hl0
    cases hX : X with
    | nil =>
     have hZ : Z = [] := List.length_eq_zero_iff.1 (by rw [g4l,hX]; rfl)
     have e : decide ((((A2 E).length + bs : Nat) : Int) < (l0.length : Int)) = false := by rw [hX] at hl0; simp at hl0; simp; omega
     simp only [w,e,cond_false]
     exact ⟨_,rfl,E,c.1,c.2,by rw [h1,hX]; simp [A1],by rw [h2,hZ]; simp [A2],h3,m1,m2,by omega⟩
    | cons x X' =>
     have hX1 : 0 < X.length := by rw [hX]; simp
     have e : decide ((((A2 E).length + bs : Nat) : Int) < (l0.length : Int)) = true := by simp; omega
     obtain ⟨r,r1,Y,r2,r3,r4⟩ := symm_law FUEL (A2 E) c.2 Z [] (by simp only [List.length_append,List.length_nil]; omega) (List.length_pos_iff.1 (by omega)) (List.length_pos_iff.1 (by omega)) (by unfold FUEL; omega) m2 g5
      (dk_of hD (A := A1 E) (E := []) (by rw [h1]; simp [A1]) m1 g4)
     have hll : l = A2 E ++ c.2 ++ Z ++ [] := by rw [h2]; simp [A2]
     rw [← hll,show (A2 E).length + c.2.length + Z.length = l0.length by omega,show (A2 E).length + c.2.length = (A2 E).length + bs by omega] at r1
     have yl := r3.length_eq
     simp only [List.length_append] at yl
     unfold f183
     simp only [w,e,cond_true,r1,Option.bind_some]
     rw [need_some (by rw [r2,hll]; simp only [List.length_append,List.length_nil]; omega)]
     exact ⟨_,rfl,E,c.1 ++ X,Y,by rw [h1]; simp [A1],by rw [r2]; simp,h3,r3.trans (m1.append g4),r4,by simp only [List.length_append]; omega⟩
   | c1 :: c2 :: R,h1,h2,h4,h6,q3,q4,hl0 =>
    simp only [List.length_cons] at h6
    omega
 obtain ⟨z,z1,z2⟩ := main
 refine ⟨(z,((2 * bs : Nat) : Int)),?_,⟨2 * bs,rfl,by omega,by omega,z2⟩,?_⟩
 ·rw [← Option.bind_assoc]
  rw [z1]
  rfl
 ·show 8388609 - (((2 * bs : Nat) : Int)).toNat < 8388609 - ((bs : Int)).toNat
  omega
theorem sort_law (l0 : List GCue) (hn : l0.length ≤ 4194304) (hD : l0.Pairwise Dk) : ∃ r,f87 l0 = some r ∧ r.Perm l0 ∧ r.Pairwise Rk := by
 obtain ⟨r,h1,h2,h3⟩ := stable_law l0 hn hD
 unfold f87
 rw [h1]
 simp only [Option.bind_some]
 rw [need_some h2.length_eq]
 exact ⟨_,rfl,h2,h3⟩
theorem perm_eq : ∀ {l r : List GCue},l.Perm r → l.Pairwise Rk → r.Pairwise Rk → l = r
 | [],r,h,_,_ => (List.Perm.nil_eq h)
 | x :: l,[],h,_,_ => by have := h.length_eq; simp at this
 | x :: l,y :: r,h,hl,hr => by
  obtain ⟨l1,l2⟩ := List.pairwise_cons.1 hl
  obtain ⟨r1,r2⟩ := List.pairwise_cons.1 hr
  have hxy : x = y := by
   have hx : x ∈ y :: r := h.mem_iff.1 (by simp)
   have hy : y ∈ x :: l := h.mem_iff.2 (by simp)
   rcases List.mem_cons.1 hx with e | hx
   ·exact e
   ·rcases List.mem_cons.1 hy with e | hy
    ·exact e.symm
    ·exact absurd (r1 x hx) (l1 y hy).asymm
  subst hxy
  rw [perm_eq ((List.perm_cons x).1 h) l2 r2]
end Go.Proofs.YtodkhgjhodmeoaaGreat
