/-
 The logic AM,Y: walks on typed states: functions,ways that meet,loops.
 Own work. No Go text.
-/
import Derived.Test.YthjapedbgmjhmaaGreatAmX
set_option linter.all false
namespace Go.Am
open Go.RowKit
abbrev Prs := List (AV × AV)
def andQ (a b : Option Prs) : Option Prs := match a with
 | some x => match b with
  | some y => some (x ++ y)
  | none => none
 | none => none
theorem andQ_ok {a b : Option Prs} {q : Prs} (h : andQ a b = some q) (hq : ∀ p ∈ q,p.1 = p.2) : (∃ x,a = some x ∧ ∀ p ∈ x,p.1 = p.2) ∧ ∃ y,b = some y ∧ ∀ p ∈ y,p.1 = p.2 := by
 unfold andQ at h
 split at h
 ·split at h
  ·cases h
   exact ⟨⟨_,rfl,fun p hp => hq p (List.mem_append_left _ hp)⟩,_,rfl,fun p hp => hq p (List.mem_append_right _ hp)⟩
  ·cases h
 ·cases h
section
variable {S : Nat → Type}
mutual
def TV.cl : TV S → Bool
 | .a x => x.clean
 | .i _ _ => true
 | .b _ => true
 | .z _ => true
 | .v _ _ => true
 | .l _ _ _ => true
 | .s _ cs => clL cs
 | .agg cs => clL cs
 | .tup cs => clL cs
 | .ip cs => clL cs
 | .fn _ cs => clL cs
 | .pt _ _ _ => false
def clL : List (TV S) → Bool
 | [] => true
 | x :: r => x.cl && clL r
end
end
section
variable {B : Tab}
theorem cleanMapB (c : Nat) (x : List (B.S c)) : cleanL (x.map (B.E c)) = true := cleanL_iff.2 fun y hy => by
 obtain ⟨z,_,rfl⟩ := List.mem_map.1 hy
 exact B.hc c z
mutual
theorem cl_ok : ∀ {x : TV B.S},x.cl = true → (x.er B.E).clean = true
 | .a x,h => h
 | .i _ _,_ => rfl
 | .b _,_ => rfl
 | .z _,_ => rfl
 | .v c x,_ => B.hc c x
 | .l _ c x,_ => cleanMapB c x
 | .s _ cs,h => clL_ok (l := cs) h
 | .agg cs,h => clL_ok (l := cs) h
 | .tup cs,h => clL_ok (l := cs) h
 | .ip cs,h => clL_ok (l := cs) h
 | .fn _ cs,h => clL_ok (l := cs) h
 | .pt _ _ _,h => by cases h
theorem clL_ok : ∀ {l : List (TV B.S)},clL l = true → cleanL (erL B.E l) = true
 | [],_ => rfl
 | x :: r,h => by
  simp only [clL,Bool.and_eq_true] at h
  simp only [erL,cleanL,Bool.and_eq_true]
  exact ⟨cl_ok h.1,clL_ok h.2⟩
end
end
section
variable (B : Tab)
def asSl (x : TV B.S) : Option (List AV) := match x.norm B with
 | .l _ c y => some (y.map (B.E c))
 | .s _ cs => some (erL B.E cs)
 | .a (.sl _ l) => some l
 | _ => none
def coA (ok : Nat → Bool) (π : Nat → Nat) (x y : AV) : Option Prs := match x with
 | .mp id e o => (match y with
  | .mp id' e' o' => bif ok id && Nat.beq (π id) id' then some [(.mp 0 e o,.mp 0 e' o')] else none
  | _ => none)
 | .ms id a b => (match y with
  | .ms id' a' b' => bif ok id && Nat.beq (π id) id' then some [(.mp 0 a b,.mp 0 a' b')] else none
  | .sl true [] => some [(.mp 0 0 b,.mp 0 0 0)]
  | _ => none)
 | x => bif x.clean then some [(x,y)] else none
def msOf {S : Nat → Type} : TV S → Option (Nat × Nat × Nat)
 | .pt id a b => some (id,a,b)
 | .a (.ms id a b) => some (id,a,b)
 | _ => none
def wholeT {S : Nat → Type} : TV S → Bool
 | .a (.ms _ a _) => Nat.beq a 0
 | _ => false
def lenPr (b b' : Nat) (x y : Option (TB B.S)) : Option Prs := match x with
 | some (.ls _ c x n _) => (match y with
  | some (.ls _ c' x' n' _) => some [(.mp 0 0 b,.mp 0 0 n),(.mp 0 0 b',.mp 0 0 n'),(.sl false (x.map (B.E c)),.sl false (x'.map (B.E c')))]
  | some (.els _ l) => some [(.mp 0 0 b,.mp 0 0 n),(.mp 0 0 b',.mp 0 0 l.length),(.sl false (x.map (B.E c)),.sl false (erL B.E l))]
  | _ => none)
 | _ => none
abbrev Hps (S : Nat → Type) := List (Nat × TB S) × List (Nat × TB S)
def coMs (hp : Hps B.S) (ok : Nat → Bool) (π : Nat → Nat) (w : Bool) (id a b : Nat) (y : TV B.S) : Option Prs := match msOf y with
 | some (id',a',b') => bif ok id && Nat.beq (π id) id' then (match (bif w && wholeT y then lenPr B b b' (eget hp.1 id) (eget hp.2 id') else none) with
   | some q => some q
   | none => some [(.mp 0 a b,.mp 0 a' b')]) else none
 | none => match y with
  | .a (.sl true []) => some [(.mp 0 0 b,.mp 0 0 0)]
  | _ => none
def coL {S : Nat → Type} (f : TV S → TV S → Option Prs) : List (TV S) → List (TV S) → Option Prs
 | [],[] => some []
 | x :: r,y :: l => andQ (f x y) (coL f r l)
 | _,_ => none
def hasNil {S : Nat → Type} (cs : List (TV S)) : Bool := cs.any fun x => match x with
 | .a (.sl true []) => true
 | _ => false
def coT (hp : Hps B.S) (ok : Nat → Bool) (π : Nat → Nat) : Nat → TV B.S → TV B.S → Option Prs
 | 0,_,_ => none
 | n + 1,x,y => match msOf x with
  | some (id,a,b) => coMs B hp ok π (wholeT x) id a b y
  | none => match x with
   | .a x => (match y with
    | .a y => coA ok π x y
    | y => bif x.clean then some [(x,y.er B.E)] else none)
   | .l false c x => (match asSl B y with
    | some l => some [(.sl false (x.map (B.E c)),.sl false l)]
    | none => none)
   | .fn g cs => (match y with
    | .fn g' cs' => bif Nat.beq g g' then coL (coT hp ok π n) cs cs' else none
    | _ => none)
   | .tup cs => (match y with
    | .tup cs' => coL (coT hp ok π n) cs cs'
    | _ => none)
   | .agg cs => (match y with
    | .agg cs' => coL (coT hp ok π n) cs cs'
    | y => bif clL cs then some [(.agg (erL B.E cs),y.er B.E)] else none)
   | .v c x => (match y with
    | .agg cs' => bif hasNil cs' then coT hp ok π n (B.X c x) (.agg cs') else some [(B.E c x,.agg (erL B.E cs'))]
    | y => some [(B.E c x,y.er B.E)])
   | x => bif x.cl then some [(x.er B.E,y.er B.E)] else none
def coTB (hp : Hps B.S) (ok : Nat → Bool) (π : Nat → Nat) (b b' : TB B.S) : Option Prs := match b with
 | .els n l => (match b' with
  | .els n' l' => bif Nat.beq n n' then coL (coT B hp ok π 4) l l' else none
  | .ls n' c x _ _ => bif Nat.beq n n' && clL l then some [(.sl false (erL B.E l),.sl false (x.map (B.E c)))] else none
  | _ => none)
 | .ls n c x _ _ => (match b' with
  | .els n' l' => bif Nat.beq n n' then some [(.sl false (x.map (B.E c)),.sl false (erL B.E l'))] else none
  | .ls n' c' x' _ _ => bif Nat.beq n n' then some [(.sl false (x.map (B.E c)),.sl false (x'.map (B.E c')))] else none
  | _ => none)
 | .raw _ => none
 | .rows n c x v k => (match b' with
  | .rows n' c' x' v' k' => bif Nat.beq n n' then andQ (some [(.agg [.sl false (x.map (B.E c)),.mp k 0 0],.agg [.sl false (x'.map (B.E c')),.mp k' 0 0])]) (coL (coT B hp ok π 4) v v') else none
  | _ => none)
def coN (b : TB B.S) : Option Prs := match b with
 | .els n l => bif Nat.blt 0 n then some [(.sl false (erL B.E l),.sl false [])] else none
 | .ls n c x _ _ => bif Nat.blt 0 n then some [(.sl false (x.map (B.E c)),.sl false [])] else none
 | .raw _ => none
 | .rows _ _ _ _ _ => none
def seeE (hp : Hps B.S) (ok : Nat → Bool) (π : Nat → Nat) (env : TEnv B.S) : TEnv B.S → Option Prs
 | [] => some []
 | (t,x) :: r => andQ (match eget env t with
  | some y => coT B hp ok π 4 x y
  | none => none) (seeE hp ok π env r)
def seeH (hp : Hps B.S) (ok : Nat → Bool) (π : Nat → Nat) (base : Nat) (s : TSt B.S) : List (Nat × TB B.S) → Option Prs
 | [] => some []
 | (id,b) :: r => andQ (match eget s.heap (π id) with
  | some b' => coTB B hp ok π b b'
  | none => bif Nat.ble base id && Nat.ble s.cnt (π id) then coN B b else none) (seeH hp ok π base s r)
def seeT (base : Nat) (L : List (Nat × Nat)) (E2 : TEnv B.S) (S2 : TSt B.S) (env : TEnv B.S) (s : TSt B.S) : Option Prs :=
 bif intoB base L (erS B S2) (erS B s) then andQ (seeE B (S2.heap,s.heap) (okId base (erS B S2).heap) (pi L) env E2) (seeH B (S2.heap,s.heap) (okId base (erS B S2).heap) (pi L) base s S2.heap) else none
end
section
variable {B : Tab} {ok : Nat → Bool} {π : Nat → Nat} {hp : Hps B.S}
theorem msOf_ok {x : TV B.S} {id a b : Nat} (h : msOf x = some (id,a,b)) : x.er B.E = .ms id a b := by
 unfold msOf at h
 split at h <;> first | (cases h; rfl) | cases h
theorem asSl_ok {x : TV B.S} {l : List AV} (h : asSl B x = some l) : ∃ b,x.er B.E = .sl b l := by
 unfold asSl at h
 rw [← er_norm x]
 generalize x.norm B = y at h
 split at h <;> first | (cases h; exact ⟨_,rfl⟩) | cases h
theorem one {a b : AV} {q : Prs} (h : some [(a,b)] = some q) (hq : ∀ p ∈ q,p.1 = p.2) : a = b := by cases h; exact hq (a,b) (by simp)
theorem coA_ok {x y : AV} {q : Prs} (h : coA ok π x y = some q) (hq : ∀ p ∈ q,p.1 = p.2) : Co ok π x y := by
 have gen : ∀ {x : AV},(bif x.clean then some [(x,y)] else none) = some q → Co ok π x y := fun {x} h => by
  cases hc : x.clean with
  | false => rw [hc] at h; cases h
  | true =>
   rw [hc] at h
   have := one h hq
   subst this
   exact .c hc
 cases x with
 | mp id e o =>
  cases y <;> first | (cases h; done) | skip
  rename_i id' e' o'
  have h : (bif ok id && Nat.beq (π id) id' then some [(AV.mp 0 e o,AV.mp 0 e' o')] else none) = some q := h
  cases hb : (ok id && Nat.beq (π id) id') with
  | false => rw [hb] at h; cases h
  | true =>
   rw [hb] at h
   simp only [Bool.and_eq_true] at hb
   have := one h hq
   cases this
   exact .mp hb.1 (Nat.eq_of_beq_eq_true hb.2)
 | ms id a b =>
  cases y <;> first | (cases h; done) | skip
  ·rename_i f l
   cases f <;> cases l <;> first | (cases h; done) | skip
   have := one h hq
   cases this
   exact .n
  ·rename_i id' a' b'
   have h : (bif ok id && Nat.beq (π id) id' then some [(AV.mp 0 a b,AV.mp 0 a' b')] else none) = some q := h
   cases hb : (ok id && Nat.beq (π id) id') with
   | false => rw [hb] at h; cases h
   | true =>
    rw [hb] at h
    simp only [Bool.and_eq_true] at hb
    have := one h hq
    cases this
    exact .ms hb.1 (Nat.eq_of_beq_eq_true hb.2)
 | bool _ => exact gen h
 | int _ _ => exact gen h
 | str _ => exact gen h
 | nilp => exact gen h
 | nilf => exact gen h
 | sl _ _ => exact gen h
 | ip _ => exact gen h
 | mc _ _ _ _ => exact gen h
 | fn _ _ => exact gen h
 | yld _ => exact gen h
 | agg _ => exact gen h
 | tup _ => exact gen h
 | any => exact gen h
theorem lenPr_ok {b b' : Nat} {x y : Option (TB B.S)} {q : Prs} (h : lenPr B b b' x y = some q) (hq : ∀ p ∈ q,p.1 = p.2) : b = b' := by
 unfold lenPr at h
 split at h
 ·rename_i esz c x n hn
  split at h
  ·rename_i esz' c' x' n' hn'
   cases h
   have h1 := hq (.mp 0 0 b,.mp 0 0 n) (by simp)
   have h2 := hq (.mp 0 0 b',.mp 0 0 n') (by simp)
   have h3 := hq (.sl false (x.map (B.E c)),.sl false (x'.map (B.E c'))) (by simp)
   injection h1 with _ _ h1
   injection h2 with _ _ h2
   injection h3 with _ h3
   have := congrArg List.length h3
   simp only [List.length_map] at this
   omega
  ·rename_i esz' l
   cases h
   have h1 := hq (.mp 0 0 b,.mp 0 0 n) (by simp)
   have h2 := hq (.mp 0 0 b',.mp 0 0 l.length) (by simp)
   have h3 := hq (.sl false (x.map (B.E c)),.sl false (erL B.E l)) (by simp)
   injection h1 with _ _ h1
   injection h2 with _ _ h2
   injection h3 with _ h3
   have := congrArg List.length h3
   simp only [List.length_map,len_erL] at this
   omega
  ·cases h
 ·cases h
theorem wholeT_ok {x : TV B.S} {id a b : Nat} (h : wholeT x = true) (hm : msOf x = some (id,a,b)) : a = 0 := by
 unfold wholeT at h
 split at h
 ·cases hm; exact Nat.eq_of_beq_eq_true h
 ·cases h
theorem coMs_ok {x y : TV B.S} {id a b : Nat} {q : Prs} (hx : msOf x = some (id,a,b)) (h : coMs B hp ok π (wholeT x) id a b y = some q) (hq : ∀ p ∈ q,p.1 = p.2) : Co ok π (.ms id a b) (y.er B.E) := by
 unfold coMs at h
 cases hm : msOf y with
 | some p =>
  obtain ⟨id',a',b'⟩ := p
  rw [hm] at h
  rw [msOf_ok hm]
  simp only at h
  cases hb : (ok id && Nat.beq (π id) id') with
  | false => rw [hb] at h; cases h
  | true =>
   rw [hb] at h
   simp only [Bool.and_eq_true] at hb
   simp only [cond_true] at h
   split at h
   ·rename_i q' hl
    cases h
    cases hw : (wholeT x && wholeT y) with
    | false => rw [hw] at hl; cases hl
    | true =>
     rw [hw] at hl
     simp only [Bool.and_eq_true] at hw
     have e1 := wholeT_ok hw.1 hx
     have e2 := wholeT_ok hw.2 hm
     subst e1; subst e2
     exact .e hb.1 (Nat.eq_of_beq_eq_true hb.2) (lenPr_ok hl hq)
   ·have := one h hq
    cases this
    exact .ms hb.1 (Nat.eq_of_beq_eq_true hb.2)
 | none =>
  rw [hm] at h
  simp only at h
  split at h
  ·have := one h hq
   cases this
   exact .n
  ·cases h
theorem coL_ok {f : TV B.S → TV B.S → Option Prs} (hf : ∀ x y q,f x y = some q → (∀ p ∈ q,p.1 = p.2) → Co ok π (x.er B.E) (y.er B.E)) : ∀ {xs ys : List (TV B.S)} {q : Prs},coL f xs ys = some q → (∀ p ∈ q,p.1 = p.2) → CoL ok π (erL B.E xs) (erL B.E ys)
 | [],[],_,_,_ => .z
 | x :: r,y :: l,q,h,hq => by
  obtain ⟨⟨q1,h1,e1⟩,q2,h2,e2⟩ := andQ_ok h hq
  exact .k (hf x y q1 h1 e1) (coL_ok hf h2 e2)
 | [],_ :: _,_,h,_ => by cases h
 | _ :: _,[],_,h,_ => by cases h
theorem coT_ok : ∀ {n : Nat} {x y : TV B.S} {q : Prs},coT B hp ok π n x y = some q → (∀ p ∈ q,p.1 = p.2) → Co ok π (x.er B.E) (y.er B.E)
 | 0,_,_,_,h,_ => by cases h
 | n + 1,x,y,q,h,hq => by
  unfold coT at h
  split at h
  ·rename_i id a b hm
   rw [msOf_ok hm]
   exact coMs_ok hm h hq
  ·rename_i hm
   split at h
   ·rename_i x0
    have gen : ∀ {z : AV},(bif x0.clean then some [(x0,z)] else none) = some q → Co ok π x0 z := fun {z} h => by
     cases hc : x0.clean with
     | false => rw [hc] at h; cases h
     | true =>
      rw [hc] at h
      have := one h hq
      rw [← this]
      exact .c hc
    split at h
    ·exact coA_ok h hq
    ·exact gen h
   ·rename_i c x
    split at h
    ·rename_i l hl
     obtain ⟨b,hb⟩ := asSl_ok hl
     have := one h hq
     cases this
     rw [hb]
     exact .s (cleanMapB c x)
    ·cases h
   ·rename_i g cs
    split at h
    ·rename_i g' cs'
     cases hb : Nat.beq g g' with
     | false => simp [hb] at h
     | true =>
      simp only [hb,cond_true] at h
      have e := Nat.eq_of_beq_eq_true hb
      subst e
      exact .f (coL_ok (fun _ _ _ => coT_ok) h hq)
    ·cases h
   ·split at h
    ·exact .t (coL_ok (fun _ _ _ => coT_ok) h hq)
    ·cases h
   ·rename_i cs
    split at h
    ·exact .a (coL_ok (fun _ _ _ => coT_ok) h hq)
    ·cases hc : clL cs with
     | false => simp [hc] at h
     | true =>
      simp only [hc,cond_true] at h
      have := one h hq
      rw [← this]
      exact .c (clL_ok (B := B) hc)
   ·rename_i c x
    split at h
    ·rename_i cs'
     cases hb : hasNil cs' with
     | true =>
      simp only [hb,cond_true] at h
      have := coT_ok h hq
      rw [B.hX] at this
      exact this
     | false =>
      simp only [hb,cond_false] at h
      have := one h hq
      show Co ok π (B.E c x) _
      rw [TV.er,← this]
      exact .c (B.hc c x)
    ·have := one h hq
     show Co ok π (B.E c x) _
     rw [← this]
     exact .c (B.hc c x)
   ·have gen : ∀ {z : TV B.S} {w : AV},(bif z.cl then some [(z.er B.E,w)] else none) = some q → Co ok π (z.er B.E) w := fun {z w} h => by
     cases hc : z.cl with
     | false => rw [hc] at h; cases h
     | true =>
      rw [hc] at h
      have := one h hq
      rw [← this]
      exact .c (cl_ok hc)
    exact gen h
theorem cleanNil (n : Nat) : cleanL (List.replicate n (AV.sl true [])) = true := by
 induction n with
 | zero => rfl
 | succ n ih => simp only [List.replicate_succ,cleanL,ih,AV.clean,Bool.and_self]
theorem coTB_ok {b b' : TB B.S} {q : Prs} (h : coTB B hp ok π b b' = some q) (hq : ∀ p ∈ q,p.1 = p.2) : CoB ok π (erB B b) (erB B b') := by
 unfold coTB at h
 split at h
 ·rename_i n l
  split at h
  ·rename_i n' l'
   cases hb : Nat.beq n n' with
   | false => simp [hb] at h
   | true =>
    simp only [hb,cond_true] at h
    have e := Nat.eq_of_beq_eq_true hb
    subst e
    exact .cells (coL_ok (fun _ _ _ => coT_ok) h hq)
  ·rename_i n' c x _ _
   cases hb : Nat.beq n n' && clL l with
   | false => simp [hb] at h
   | true =>
    simp only [hb,cond_true] at h
    simp only [Bool.and_eq_true] at hb
    have e := Nat.eq_of_beq_eq_true hb.1
    subst e
    have := one h hq
    injection this with _ this
    simp only [erB,← this]
    exact .cells (.r (clL_ok (B := B) hb.2))
  ·cases h
 ·rename_i n c x _ _
  split at h
  ·rename_i n' l'
   cases hb : Nat.beq n n' with
   | false => simp [hb] at h
   | true =>
    simp only [hb,cond_true] at h
    have e := Nat.eq_of_beq_eq_true hb
    subst e
    have := one h hq
    injection this with _ this
    simp only [erB,← this]
    exact .cells (.r (cleanMapB c x))
  ·rename_i n' c' x' _ _
   cases hb : Nat.beq n n' with
   | false => simp [hb] at h
   | true =>
    simp only [hb,cond_true] at h
    have e := Nat.eq_of_beq_eq_true hb
    subst e
    have := one h hq
    injection this with _ this
    simp only [erB,← this]
    exact .cells (.r (cleanMapB c x))
  ·cases h
 ·cases h
 ·rename_i n c x v k
  split at h
  ·rename_i n' c' x' v' k'
   cases hb : Nat.beq n n' with
   | false => simp [hb] at h
   | true =>
    simp only [hb,cond_true] at h
    have e := Nat.eq_of_beq_eq_true hb
    subst e
    obtain ⟨⟨q1,h1,e1⟩,q2,h2,e2⟩ := andQ_ok h hq
    have := one h1 e1
    simp only [AV.agg.injEq,List.cons.injEq,AV.sl.injEq,AV.mp.injEq,true_and,and_true] at this
    obtain ⟨hm,hk⟩ := this
    subst hk
    simp only [erB,← hm]
    exact .cells (.p (.r (cleanMapB c x)) (.p (coL_ok (fun _ _ _ => coT_ok) h2 e2) (.r (cleanNil k))))
  ·cases h
theorem coN_ok {b : TB B.S} {q : Prs} (h : coN B b = some q) (hq : ∀ p ∈ q,p.1 = p.2) : ∃ esz,0 < esz ∧ erB B b = .cells esz [] := by
 unfold coN at h
 split at h
 ·rename_i n l
  cases hb : Nat.blt 0 n with
  | false => simp [hb] at h
  | true =>
   simp only [hb,cond_true] at h
   have := one h hq
   injection this with _ this
   exact ⟨n,by simpa [Nat.blt_eq] using hb,by simp only [erB,this]⟩
 ·rename_i n c x _ _
  cases hb : Nat.blt 0 n with
  | false => simp [hb] at h
  | true =>
   simp only [hb,cond_true] at h
   have := one h hq
   injection this with _ this
   exact ⟨n,by simpa [Nat.blt_eq] using hb,by simp only [erB,this]⟩
 ·cases h
 ·cases h
theorem seeE_ok {env : TEnv B.S} : ∀ {E2 : TEnv B.S} {q : Prs},seeE B hp ok π env E2 = some q → (∀ p ∈ q,p.1 = p.2) → ∀ t x,eget (erE B E2) t = some x → ∃ y,eget (erE B env) t = some y ∧ Co ok π x y
 | [],_,_,_,t,x,hx => by simp [erE,egetN] at hx
 | (k,X) :: r,q,h,hq,t,x,hx => by
  obtain ⟨⟨q1,h1,e1⟩,q2,h2,e2⟩ := andQ_ok h hq
  simp only [erE,egetC] at hx
  split at hx
  ·rename_i e; subst e; cases hx
   split at h1
   ·rename_i y hy
    exact ⟨_,by rw [get_erE,hy]; rfl,coT_ok h1 e1⟩
   ·cases h1
  ·exact seeE_ok h2 e2 t x hx
theorem seeH_ok {base : Nat} {s : TSt B.S} : ∀ {h2 : List (Nat × TB B.S)} {q : Prs},seeH B hp ok π base s h2 = some q → (∀ p ∈ q,p.1 = p.2) → HCo ok π base (erS B s) (erH B h2)
 | [],_,_,_ => .z
 | (id,b) :: r,q,h,hq => by
  obtain ⟨⟨q1,h1,e1⟩,q2,h2,e2⟩ := andQ_ok h hq
  have ih := seeH_ok h2 e2
  split at h1
  ·rename_i b' hb
   exact .k (by rw [erS,get_erH,hb]; rfl) (coTB_ok h1 e1) ih
  ·cases hc : Nat.ble base id && Nat.ble s.cnt (π id) with
   | false => simp [hc] at h1
   | true =>
    simp only [hc,cond_true] at h1
    simp only [Bool.and_eq_true] at hc
    obtain ⟨esz,h0,he⟩ := coN_ok h1 e1
    simp only [erH,he]
    exact .n hc.1 hc.2 (by simpa [Nat.blt_eq] using h0) ih
theorem seeT_ok {base : Nat} {L : List (Nat × Nat)} {E2 env : TEnv B.S} {S2 s : TSt B.S} {q : Prs} (h : seeT B base L E2 S2 env s = some q) (hq : ∀ p ∈ q,p.1 = p.2) : Into base (pi L) (erE B E2) (erS B S2) (erE B env) (erS B s) := by
 unfold seeT at h
 cases hb : intoB base L (erS B S2) (erS B s) with
 | false => simp [hb] at h
 | true =>
  simp only [hb,cond_true] at h
  obtain ⟨⟨q1,h1,e1⟩,q2,h2,e2⟩ := andQ_ok h hq
  exact ⟨mkIntoS hb (seeH_ok h2 e2),seeE_ok h1 e1⟩
end
section
variable {S : Nat → Type}
def prL (f : TV S → TV S → List (Nat × Nat)) : List (TV S) → List (TV S) → List (Nat × Nat)
 | x :: r,y :: l => f x y ++ prL f r l
 | _,_ => []
def prT (big : Nat) : Nat → TV S → TV S → List (Nat × Nat)
 | 0,_,_ => []
 | n + 1,x,y => match msOf x with
  | some (i,_,_) => (match msOf y with
   | some (j,_,_) => [(i,j)]
   | none => [(i,big + i)])
  | none => match x with
   | .a (.mp i _ _) => (match y with
    | .a (.mp j _ _) => [(i,j)]
    | _ => [])
   | .fn _ cs => (match y with
    | .fn _ cs' => prL (prT big n) cs cs'
    | _ => [])
   | .tup cs => (match y with
    | .tup cs' => prL (prT big n) cs cs'
    | _ => [])
   | .agg cs => (match y with
    | .agg cs' => prL (prT big n) cs cs'
    | _ => [])
   | _ => []
def onlyN (base : Nat) : List (Nat × Nat) → List (Nat × Nat)
 | [] => []
 | p :: r => bif Nat.ble base p.1 then p :: onlyN base r else onlyN base r
def prE (big : Nat) (env : TEnv S) : TEnv S → List (Nat × Nat)
 | [] => []
 | (t,x) :: r => (match eget env t with
  | some y => prT big 4 x y
  | none => []) ++ prE big env r
def prH (big : Nat) (L : List (Nat × Nat)) (h : List (Nat × TB S)) : List (Nat × TB S) → List (Nat × Nat)
 | [] => []
 | (id,b) :: r => (match b with
  | .els _ l => (match eget h (pi L id) with
   | some (.els _ l') => prL (prT big 4) l l'
   | _ => [])
  | .rows _ _ _ v _ => (match eget h (pi L id) with
   | some (.rows _ _ _ v' _) => prL (prT big 4) v v'
   | _ => [])
  | _ => []) ++ prH big L h r
def autoL (base : Nat) (E2 : TEnv S) (S2 : TSt S) (env : TEnv S) (s : TSt S) : List (Nat × Nat) :=
 match onlyN base (prE s.cnt env E2) with
 | l0 => match l0 ++ onlyN base (prH s.cnt l0 s.heap S2.heap) with
  | l1 => l1 ++ onlyN base (prH s.cnt l1 s.heap S2.heap)
def keepE : List Nat → TEnv S → TEnv S
 | [],_ => []
 | t :: r,env => match eget env t with
  | some x => (t,x) :: keepE r env
  | none => keepE r env
def keepH : List Nat → List (Nat × TB S) → List (Nat × TB S)
 | [],_ => []
 | i :: r,h => match eget h i with
  | some b => (i,b) :: keepH r h
  | none => keepH r h
def yOf : TO S → Option Code
 | .ro _ y => y
 | .po _ _ _ y => y
 | .rd _ _ y => y
 | .pl _ _ _ _ _ _ _ _ y => y
 | .ph _ _ _ _ _ y => y
 | _ => none
end
def seeM (B : Tab) (base : Nat) (E2 : TEnv B.S) (S2 : TSt B.S) (M : TM B.S) : Prs := match seeT B base (autoL base E2 S2 M.env M.s) E2 S2 M.env M.s with
 | some q => q
 | none => [(.any,.nilp)]
theorem seeM_ok {B : Tab} {base : Nat} {E2 : TEnv B.S} {S2 : TSt B.S} {M : TM B.S} (hq : ∀ p ∈ seeM B base E2 S2 M,p.1 = p.2) : ∃ L,Into base (pi L) (erE B E2) (erS B S2) (erE B M.env) (erS B M.s) := by
 unfold seeM at hq
 split at hq
 ·rename_i q h; exact ⟨_,seeT_ok h hq⟩
 ·have := hq (.any,.nilp) (by simp); cases this
section
variable {B : Tab} {P : Program} {N : Nat} {Q : Exit → Env → St → Prop} {M : TM B.S} {α β : Type} {r : β}
def jmT (B : Tab) (P : Program) (N : Nat) (M : TM B.S) (run : Bool) (n : Nat) (live ids : List Nat) (cnt : Nat) (U : TEnv B.S × List (Nat × TB B.S)) : TM B.S :=
 ⟨bif run then endReg (yOf (G B P N M).1.o) else .out .normal,(G B P N M).1.k.drop n,U.1 ++ keepE live (G B P N M).1.env,⟨U.2 ++ keepH ids (G B P N M).1.s.heap,cnt⟩⟩
theorem tJ {J : Type} {o : Option J} {K : J → Option β} (h : o.bind K = some r) (run : Bool) (n : Nat) (live ids : List Nat) (cnt : Nat) (U : J → TEnv B.S × List (Nat × TB B.S))
  (h1 : ∀ a,o = some a → (∀ j,a = j → RT B P N none Q (jmT B P N M run n live ids cnt (U j))) → RT B P N none Q M) (h2 : ∀ j,K j = some r → RT B P N none Q (jmT B P N M run n live ids cnt (U j))) : RT B P N none Q M :=
 let ⟨a,ha,hK⟩ := bindE h
 h1 a ha fun j e => h2 j (e ▸ hK)
theorem tJe {J : Type} {o : Option (J ⊕ β)} {K : J → Option β} (h : o.bind (Sum.elim K some) = some r) (run : Bool) (n : Nat) (live ids : List Nat) (cnt : Nat) (U : J → TEnv B.S × List (Nat × TB B.S))
  (h1 : ∀ a,o = some a → (∀ j,a = .inl j → RT B P N none Q (jmT B P N M run n live ids cnt (U j))) → Sum.elim K some a = some r → RT B P N none Q M) (h2 : ∀ j,K j = some r → RT B P N none Q (jmT B P N M run n live ids cnt (U j))) : RT B P N none Q M :=
 let ⟨a,ha,hK⟩ := bindE h
 h1 a ha (fun j e => h2 j (by subst e; exact hK)) hK
theorem sj {γ : Type} {a b : γ} (h : some a = some b) : b = a := (Option.some.inj h).symm
theorem sE {J : Type} {x : β} {a : J ⊕ β} {K : J → Option β} (h : some (Sum.inr x) = some a) (h2 : Sum.elim K some a = some r) : some x = some r := by cases h; exact h2
def toRun (B : Tab) (P : Program) (N : Nat) (T M : TM B.S) : TM B.S × Prs := goT B P N (meetU (isRunT T.o) T.k.length) FT M
theorem rw_seeT {o : TO B.S} {k : List Fr} {env E2 : TEnv B.S} {s S2 : TSt B.S} (ho : isOut o = true) {L : List (Nat × Nat)} {base : Nat} (hb : s.cnt ≤ base) (hI : Into base (pi L) (erE B E2) (erS B S2) (erE B env) (erS B s)) (h : RT0 B P N none Q ⟨o,k,E2,S2⟩) : RT0 B P N none Q ⟨o,k,env,s⟩ := by
 cases o <;> simp only [isOut] at ho <;> first | (cases ho; done) | skip
 ·have h : RW0 P N none Q ⟨.run _,k,erE B E2,erS B S2⟩ := h
  exact rw_see (base := base) hb (see_into r0 hI) h
 ·have h : RW0 P N none Q ⟨.out _,k,erE B E2,erS B S2⟩ := h
  exact rw_see (base := base) hb (see_into r0 hI) h
theorem tM {T : TM B.S} (kj : RT B P N none Q T) (hx : (isOut T.o,(toRun B P N T M).1.o,(toRun B P N T M).1.k,(toRun B P N T M).2.map Prod.fst,(seeM B (toRun B P N T M).1.s.cnt T.env T.s (toRun B P N T M).1).map Prod.fst) =
   (true,T.o,T.k,(toRun B P N T M).2.map Prod.snd,(seeM B (toRun B P N T M).1.s.cnt T.env T.s (toRun B P N T M).1).map Prod.snd) := by kernel_rfl) : RT B P N none Q M := by
 simp only [Prod.mk.injEq] at hx
 obtain ⟨h0,h1,h2,h3,h4⟩ := hx
 refine ⟨goT_ok (pairs_ok h3) ?_⟩
 obtain ⟨L,hI⟩ := seeM_ok (pairs_ok h4)
 have e : (toRun B P N T M).1 = ⟨T.o,T.k,(toRun B P N T M).1.env,(toRun B P N T M).1.s⟩ := by rw [← h1,← h2]
 show RT0 B P N none Q (toRun B P N T M).1
 rw [e]
 exact rw_seeT h0 (Nat.le_refl _) hI kj.v
def loopXT {S : Nat → Type} : TO S → Code
 | .run (.loop x) => x
 | _ => .skip
def isLoopT {S : Nat → Type} : TO S → Bool
 | .run (.loop _) => true
 | _ => false
section
variable {σ τ : Type}
def loE (B : Tab) (P : Program) (N : Nat) (M : TM B.S) (live : List Nat) (U : σ → TEnv B.S × List (Nat × TB B.S)) (st : σ) : TEnv B.S := (U st).1 ++ keepE live (G B P N M).1.env
def loS (B : Tab) (P : Program) (N : Nat) (M : TM B.S) (ids : List Nat) (cnt : Nat) (U : σ → TEnv B.S × List (Nat × TB B.S)) (st : σ) : TSt B.S := ⟨(U st).2 ++ keepH ids (G B P N M).1.s.heap,cnt⟩
def loF (B : Tab) (P : Program) (N : Nat) (M : TM B.S) (live ids : List Nat) (cnt : Nat) (U : σ → TEnv B.S × List (Nat × TB B.S)) (out : σ ⊕ τ) : Fr :=
 .lp (Nx N none (G B P N M).1.s.cnt (fun st => erE B (loE B P N M live U st)) (fun st => erS B (loS B P N M ids cnt U st)) out) (∃ r,out = .inr r)
structure LT (B : Tab) (P : Program) (N : Nat) (M : TM B.S) (live ids : List Nat) (cnt : Nat) (U : σ → TEnv B.S × List (Nat × TB B.S)) (out : σ ⊕ τ) : Prop where
 t : True
theorem tL {body : σ → Option (σ ⊕ τ)} {n : Nat} {st0 : σ} {res : τ} (hl : loopN body n st0 = some res) (live ids : List Nat) (cnt : Nat) (U : σ → TEnv B.S × List (Nat × TB B.S))
  (round : ∀ st out,body st = some out → (∀ r,out = .inr r → r = res) → LT B P N M live ids cnt U out → RT B P N none Q ⟨.run (loopXT (G B P N M).1.o),loF B P N M live ids cnt U out :: (G B P N M).1.k,loE B P N M live U st,loS B P N M ids cnt U st⟩)
  (hx : (isLoopT (G B P N M).1.o,(G B P N M).2.map Prod.fst,(seeM B (G B P N M).1.s.cnt (loE B P N M live U st0) (loS B P N M ids cnt U st0) (G B P N M).1).map Prod.fst) =
   (true,(G B P N M).2.map Prod.snd,(seeM B (G B P N M).1.s.cnt (loE B P N M live U st0) (loS B P N M ids cnt U st0) (G B P N M).1).map Prod.snd) := by kernel_rfl) : RT B P N none Q M := by
 simp only [Prod.mk.injEq] at hx
 obtain ⟨h0,h1,h2⟩ := hx
 refine G_ok h1 ⟨?_⟩
 obtain ⟨L,hI⟩ := seeM_ok (pairs_ok h2)
 have rd := fun st out h1 h2 => (round st out h1 h2 ⟨trivial⟩).v
 clear round
 unfold loF at rd
 generalize loE B P N M live U = E at *
 generalize loS B P N M ids cnt U = Z at *
 clear h1 h2
 generalize (G B P N M).1 = g at *
 obtain ⟨o,k,env,s⟩ := g
 simp only at *
 cases o <;> simp only [isLoopT] at h0 <;> first | (cases h0; done) | skip
 rename_i c
 cases c <;> simp only at h0 <;> first | (cases h0; done) | skip
 rename_i x
 exact rw_loop (s := erS B s) body hl (fun st => erE B (E st)) (fun st => erS B (Z st)) (see_into r0 hI) fun st out hb hr => rd st out hb hr
theorem tN {M' : TM B.S} {live ids : List Nat} {cnt : Nat} {U : σ → TEnv B.S × List (Nat × TB B.S)} {out : σ ⊕ τ} {st : σ} (K : LT B P N M' live ids cnt U out) (h : some (.inl st) = some out)
  (hx : ((G B P N M).1.o,(G B P N M).1.k,(G B P N M).2.map Prod.fst,(seeM B (G B P N M').1.s.cnt (loE B P N M' live U st) (loS B P N M' ids cnt U st) (G B P N M).1).map Prod.fst) =
   (.out .normal,loF B P N M' live ids cnt U out :: (G B P N M').1.k,(G B P N M).2.map Prod.snd,(seeM B (G B P N M').1.s.cnt (loE B P N M' live U st) (loS B P N M' ids cnt U st) (G B P N M).1).map Prod.snd) := by kernel_rfl) : RT B P N none Q M := by
 simp only [Prod.mk.injEq] at hx
 obtain ⟨h0,h1,h2,h3⟩ := hx
 refine G_ok h2 ⟨?_⟩
 obtain ⟨L,hI⟩ := seeM_ok (pairs_ok h3)
 generalize (G B P N M).1 = g at *
 obtain ⟨o,k,env,s⟩ := g
 simp only at *
 subst h0; subst h1
 exact rw_next (sj h) (see_into r0 hI)
def lpA {S : Nat → Type} (M : TM S) : Option Prop := match M.o with
 | .out e => (match M.k with
  | .lp _ ok :: _ => (match e with
   | .normal => none
   | _ => some ok)
  | _ => none)
 | _ => none
def popM {S : Nat → Type} (M : TM S) : TM S := ⟨M.o,M.k.tail,M.env,M.s⟩
theorem tO {out : σ ⊕ τ} {t : τ} (h : some (.inr t) = some out) (k : RT B P N none Q (popM (G B P N M).1)) (hx : (lpA (G B P N M).1,(G B P N M).2.map Prod.fst) = (some (∃ r,out = .inr r),(G B P N M).2.map Prod.snd) := by kernel_rfl) : RT B P N none Q M := by
 simp only [Prod.mk.injEq] at hx
 obtain ⟨h0,h1⟩ := hx
 refine G_ok h1 ⟨?_⟩
 have k := k.v
 generalize (G B P N M).1 = g at *
 obtain ⟨o,fr,env,s⟩ := g
 unfold lpA at h0
 split at h0
 ·rename_i e ho
  simp only at ho; subst ho
  split at h0
  ·rename_i nx ok k' hk
   simp only at hk; subst hk
   split at h0
   ·cases h0
   ·rename_i hne
    have e1 := Option.some.inj h0
    have ho : ok := by rw [e1]; exact ⟨t,sj h⟩
    have k : RW0 P N none Q ⟨.out e,k',erE B env,erS B s⟩ := k
    show RW0 P N none Q ⟨.out e,.lp nx ok :: k',erE B env,erS B s⟩
    intro G w a hn
    refine After.of (k G w a hn) fun env s hq => ?_
    cases e with
    | normal => exact absurd rfl hne
    | exit _ => exact ⟨ho,hq⟩
    | goto _ => exact ⟨ho,hq⟩
    | ret => exact ⟨ho,hq⟩
    | panic _ => exact ⟨ho,hq⟩
    | outgrown => exact ⟨ho,hq⟩
  ·cases h0
 ·cases h0
theorem oJ {out : σ ⊕ τ} {t res : τ} (h : some (.inr t) = some out) (e : ∀ r,out = .inr r → r = res) : res = t := (e _ (sj h)).symm
theorem oE {J β : Type} {r x : β} {out : σ ⊕ (J ⊕ β)} {res : J ⊕ β} {K : J → Option β} (h : some (.inr (.inr x)) = some out) (e : ∀ r,out = .inr r → r = res) (h2 : Sum.elim K some res = some r) : some x = some r := by have := oJ h e; subst this; exact h2
end
def bodyF (P : Program) (f : FuncId) : Option (Nat × List ResultVar × Code) := (P.funcs[f]?).bind fun fn => fn.body.map fun b => (fn.ntmps,fn.results.toList,b)
def nF (P : Program) (f : FuncId) : Nat := match bodyF P f with
 | some (n,_,_) => n
 | none => 0
def rF (P : Program) (f : FuncId) : List ResultVar := match bodyF P f with
 | some (_,r,_) => r
 | none => []
def cF (P : Program) (f : FuncId) : Code := match bodyF P f with
 | some (_,_,c) => c
 | none => .skip
def argT {S : Nat → Type} : List (TV S) → Nat → TEnv S
 | [],_ => []
 | x :: r,k => (k,x) :: argT r (k + 1)
theorem argT_er {l : List (TV B.S)} {k : Nat} : erE B (argT l k) = argEnv (erL B.E l) k := by
 induction l generalizing k with
 | nil => simp [argT,erE,erL,argEnv]
 | cons x r ih => simp only [argT,erE,erL,argEnv,ih]
def unf0 : AV → AV
 | .sl _ l => .sl false l
 | x => x
def unf1 : AV → AV
 | .agg l => .agg (l.map unf0)
 | x => unf0 x
def unf : AV → AV
 | .tup l => .tup (l.map unf1)
 | x => unf1 x
theorem V_unf0 {G : Ghost} {x : AV} {v : Value} (h : V G x v) : V G (unf0 x) v := by
 cases x <;> first | exact h | skip
 rename_i f l
 cases h with
 | slnil _ base cap hf hb => exact .slnil false base cap (fun e => by cases e) hb
 | sl _ _ b off esz cap val hcap hfull hesz hsc himm hV => exact .sl false l b off esz cap val hcap (fun e => by cases e) hesz hsc himm hV
theorem V_unf1 {G : Ghost} {x : AV} {v : Value} (h : V G x v) : V G (unf1 x) v := by
 cases x <;> first | exact V_unf0 h | skip
 cases h with
 | agg cs vs hlen h => exact .agg _ vs (by rw [List.length_map]; exact hlen) fun i x y hx hy => (by
    rw [List.getElem?_map] at hx
    obtain ⟨z,hz,rfl⟩ := Option.map_eq_some_iff.1 hx
    exact V_unf0 (h i z y hz hy))
theorem V_unf {G : Ghost} {x : AV} {v : Value} (h : V G x v) : V G (unf x) v := by
 cases x <;> first | exact V_unf1 h | skip
 cases h with
 | tup cs vs hlen h => exact .tup _ vs (by rw [List.length_map]; exact hlen) fun i x y hx hy => (by
    rw [List.getElem?_map] at hx
    obtain ⟨z,hz,rfl⟩ := Option.map_eq_some_iff.1 hx
    exact V_unf1 (h i z y hz hy))
theorem apure_unf {f : FuncId} {args : List AV} {x : AV} (ha : cleanL args = true) (hx : x.clean = true) (h : ACalls P f args St.nil fun y s => unf (Go.Am.frz y s).1 = x) : APure P f args x :=
 apure ha hx (ACalls.turn (h.mono fun y s hq => ⟨_,_,fun G w v hs hv => by
  obtain ⟨G',h1,h2,h3⟩ := frz_turn s y G w v hs hv
  exact ⟨G',h1,h2,V_unf h3⟩,hq⟩))
def KX (B : Tab) (X : α → TV B.S) (a : α) : AV → St → Prop := fun y s => unf (frz y s).1 = (X a).er B.E
theorem tf {f : FuncId} {args : List (TV B.S)} {X : α → TV B.S} {a : α} (h : RT B P (nF P f) none (FinQ P (rF P f).toArray (KX B X a)) ⟨.run (cF P f),[],argT args 0,⟨[],0⟩⟩)
  (hx : ((bodyF P f).isSome && Nat.ble args.length (nF P f) && clL args && (X a).cl) = true := by kernel_rfl) : TPure B P f args X a := by
 simp only [Bool.and_eq_true] at hx
 obtain ⟨⟨⟨h1,h2⟩,h3⟩,h4⟩ := hx
 refine apure_unf (clL_ok h3) (cl_ok h4) ?_
 have h := h.v
 obtain ⟨⟨n,rs,c⟩,hb⟩ := Option.isSome_iff_exists.1 h1
 have e1 : nF P f = n := by simp [nF,hb]
 have e2 : rF P f = rs := by simp [rF,hb]
 have e3 : cF P f = c := by simp [cF,hb]
 rw [e1,e2,e3] at h
 rw [e1] at h2
 refine run_f (s := St.nil) n rs c _ hb argT_er.symm (by rw [len_erL]; exact h2) rfl h
def resT (B : Tab) (P : Program) (env : TEnv B.S) (s : TSt B.S) : List ResultVar → Option (List (TV B.S))
 | [] => some []
 | r :: l => match (match r with
  | .tmp t => eget env t
  | .cell t ty => match eget env t with
   | some p => (match tLoad B P ty p s with
    | .ok v _ => some v
    | _ => none)
   | none => none) with
  | some x => match resT B P env s l with
   | some xs => some (x :: xs)
   | none => none
  | none => none
def tfrz0 {S : Nat → Type} (x : TV S) (s : TSt S) : TV S × TSt S × Prs := match x with
 | .a (.ms id st n) => (match eget s.heap id with
  | some (.ls _ c xs m _) => bif Nat.beq st 0 then (.l false c xs,⟨edel s.heap id,s.cnt⟩,[(.mp 0 0 n,.mp 0 0 m)]) else (x,s,[])
  | some (.els _ l) => bif Nat.beq st 0 then (.s false l,⟨edel s.heap id,s.cnt⟩,[(.mp 0 0 n,.mp 0 0 l.length)]) else (x,s,[])
  | _ => (x,s,[]))
 | x => (x,s,[])
def tfrzL {S : Nat → Type} (f : TV S → TSt S → TV S × TSt S × Prs) : List (TV S) → TSt S → List (TV S) × TSt S × Prs
 | [],s => ([],s,[])
 | x :: r,s => match f x s with
  | (y,s1,q) => match tfrzL f r s1 with
   | (l,s2,q2) => (y :: l,s2,q ++ q2)
def tfrz1 {S : Nat → Type} (x : TV S) (s : TSt S) : TV S × TSt S × Prs := match x with
 | .agg l => (match tfrzL tfrz0 l s with
  | (l,s,q) => (.agg l,s,q))
 | x => tfrz0 x s
def tfrz {S : Nat → Type} (x : TV S) (s : TSt S) : TV S × TSt S × Prs := match x with
 | .tup l => (match tfrzL tfrz1 l s with
  | (l,s,q) => (.tup l,s,q))
 | x => tfrz1 x s
def FzOk (B : Tab) (f : TV B.S → TSt B.S → TV B.S × TSt B.S × Prs) (g : AV → St → AV × St) : Prop := ∀ x s,(f x s).1.cl = true → (∀ p ∈ (f x s).2.2,p.1 = p.2) → g (x.er B.E) (erS B s) = ((f x s).1.er B.E,erS B (f x s).2.1)
theorem frz0_id {x : AV} {s : St} (h : x.clean = true) : frz0 x s = (x,s) := by
 cases x <;> first | rfl | cases h
theorem tfrz0_ok : FzOk B tfrz0 frz0 := by
 intro x s hc hq
 unfold tfrz0 at hc hq ⊢
 split at hc
 ·rename_i id st n
  split at hc
  ·rename_i esz c xs m hm hg
   cases hb : Nat.beq st 0 with
   | false => simp [hb,TV.cl,AV.clean] at hc
   | true =>
    have e := Nat.eq_of_beq_eq_true hb
    subst e
    simp only [hg,hb,cond_true] at hq ⊢
    have := hq _ (by simp : ((AV.mp 0 0 n),(AV.mp 0 0 m)) ∈ _)
    simp only [AV.mp.injEq] at this
    have hn := this.2.2
    subst hn; subst hm
    simp only [TV.er,frz0,erS,get_erH,hg,Option.map_some,erB]
    rw [if_pos (by simp)]
    simp [del_erH,List.take_of_length_le]
  ·rename_i esz l hg
   cases hb : Nat.beq st 0 with
   | false => simp [hb,TV.cl,AV.clean] at hc
   | true =>
    have e := Nat.eq_of_beq_eq_true hb
    subst e
    simp only [hg,hb,cond_true] at hq ⊢
    have := hq _ (by simp : ((AV.mp 0 0 n),(AV.mp 0 0 l.length)) ∈ _)
    simp only [AV.mp.injEq] at this
    have hn := this.2.2
    subst hn
    simp only [TV.er,frz0,erS,get_erH,hg,Option.map_some,erB]
    rw [if_pos (by simp [len_erL])]
    simp [del_erH,List.take_of_length_le,len_erL]
  ·simp [TV.cl,AV.clean] at hc
 ·rename_i x _
  simp only at hc ⊢
  exact frz0_id (cl_ok hc)
theorem tfrzL_ok {f : TV B.S → TSt B.S → TV B.S × TSt B.S × Prs} {g : AV → St → AV × St} (h : FzOk B f g) : ∀ (l : List (TV B.S)) (s : TSt B.S),clL (tfrzL f l s).1 = true → (∀ p ∈ (tfrzL f l s).2.2,p.1 = p.2) → frzL g (erL B.E l) (erS B s) = (erL B.E (tfrzL f l s).1,erS B (tfrzL f l s).2.1)
 | [],s,_,_ => rfl
 | x :: r,s,hc,hq => by
  simp only [tfrzL] at hc hq ⊢
  simp only [clL,Bool.and_eq_true] at hc
  have h1 := h x s hc.1 (fun p hp => hq p (List.mem_append_left _ hp))
  have h2 := tfrzL_ok h r _ hc.2 (fun p hp => hq p (List.mem_append_right _ hp))
  simp only [erL,frzL,h1,h2]
theorem tfrz1_ok : FzOk B tfrz1 frz1 := by
 intro x s hc hq
 rcases Classical.em (∃ l,x = .agg l) with ⟨l,rfl⟩ | hx
 ·have := tfrzL_ok tfrz0_ok l s hc hq
  simp only [TV.er,frz1,this,tfrz1]
 ·have e : tfrz1 x s = tfrz0 x s := by
   unfold tfrz1
   split
   ·exact absurd ⟨_,rfl⟩ hx
   ·rfl
  rw [e] at hc hq ⊢
  have h0 := tfrz0_ok x s hc hq
  have : frz1 (x.er B.E) (erS B s) = frz0 (x.er B.E) (erS B s) ∨ ∃ l,x.er B.E = .agg l := by
   generalize x.er B.E = y
   cases y <;> first | exact .inl rfl | exact .inr ⟨_,rfl⟩
  rcases this with h | ⟨l,hl⟩
  ·rw [h]; exact h0
  · -- x is a value of a type of the table,or static: it is clean
   have hcl : ∀ (l : List AV) (s : St),cleanL l = true → frzL frz0 l s = (l,s) := by
    intro l
    induction l with
    | nil => intro s _; rfl
    | cons a r ih =>
     intro s hc
     simp only [cleanL,Bool.and_eq_true] at hc
     simp only [frzL,frz0_id hc.1,ih s hc.2]
   have he : tfrz0 x s = (x,s,[]) := by
    unfold tfrz0
    split
    ·rename_i id st n; simp [TV.er] at hl
    ·rfl
   rw [he] at hc ⊢
   have hc := cl_ok hc
   rw [hl] at hc ⊢
   simp only [frz1,hcl l _ hc]
theorem tfrz_ok : FzOk B tfrz frz := by
 intro x s hc hq
 rcases Classical.em (∃ l,x = .tup l) with ⟨l,rfl⟩ | hx
 ·have := tfrzL_ok tfrz1_ok l s hc hq
  simp only [TV.er,frz,this,tfrz]
 ·have e : tfrz x s = tfrz1 x s := by
   unfold tfrz
   split
   ·exact absurd ⟨_,rfl⟩ hx
   ·rfl
  rw [e] at hc hq ⊢
  have h0 := tfrz1_ok x s hc hq
  have : frz (x.er B.E) (erS B s) = frz1 (x.er B.E) (erS B s) ∨ ∃ l,x.er B.E = .tup l := by
   generalize x.er B.E = y
   cases y <;> first | exact .inl rfl | exact .inr ⟨_,rfl⟩
  rcases this with h | ⟨l,hl⟩
  ·rw [h]; exact h0
  ·have hcl0 : ∀ (x : AV) (s : St),x.clean = true → frz1 x s = (x,s) := by
    intro x s hc
    cases x <;> first | rfl | (cases hc; done) | skip
    rename_i l
    have : ∀ (l : List AV) (s : St),cleanL l = true → frzL frz0 l s = (l,s) := by
     intro l
     induction l with
     | nil => intro s _; rfl
     | cons a r ih =>
      intro s hc
      simp only [cleanL,Bool.and_eq_true] at hc
      simp only [frzL,frz0_id hc.1,ih s hc.2]
    simp only [frz1,this l s hc]
   have hcl : ∀ (l : List AV) (s : St),cleanL l = true → frzL frz1 l s = (l,s) := by
    intro l
    induction l with
    | nil => intro s _; rfl
    | cons a r ih =>
     intro s hc
     simp only [cleanL,Bool.and_eq_true] at hc
     simp only [frzL,hcl0 a s hc.1,ih s hc.2]
   have he : tfrz1 x s = (x,s,[]) := by
    unfold tfrz1
    split
    ·simp [TV.er] at hl
    ·unfold tfrz0
     split
     ·simp [TV.er] at hl
     ·rfl
   rw [he] at hc ⊢
   have hc := cl_ok hc
   rw [hl] at hc ⊢
   simp only [frz,hcl l _ hc]
theorem resT_ok {env : TEnv B.S} {s : TSt B.S} : ∀ {rs : List ResultVar} {l : List (TV B.S)},resT B P env s rs = some l → aResL P (erE B env) (erS B s) rs = some (erL B.E l)
 | [],l,h => by cases h; rfl
 | r :: rs,l,h => by
  unfold resT at h
  split at h
  ·rename_i x hx
   split at h
   ·rename_i xs hxs
    cases h
    have h1 : aRes P (erE B env) (erS B s) r = some (x.er B.E) := by
     split at hx
     ·simp only [aRes,get_erE,hx,Option.map_some]
     ·rename_i t ty
      split at hx
      ·rename_i p hp
       split at hx
       ·rename_i v s' hv
        cases hx
        obtain ⟨v',e,e1,e2⟩ := tLoad_ok (B := B) (P := P) (s := s) (t := ty) (p := p) (fun a b => a = x ∧ b = s') (by rw [hv]; exact ⟨rfl,rfl⟩)
        subst e1
        simp only [aRes,get_erE,hp,Option.map_some,e]
       ·cases hx
      ·cases hx
    simp only [aResL,h1,resT_ok hxs,erL]
   ·cases h
  ·cases h
def retA (B : Tab) (P : Program) (rs : List ResultVar) (M : TM B.S) : Option (AV × Prs) := match M.o with
 | .out e => (match M.k with
  | [] => bif (match e with | .ret => true | .normal => true | _ => false) && noDfr (erS B M.s).heap then (match resT B P M.env M.s rs with
    | some l => (match tfrz (match l with | [x] => x | l => .tup l) M.s with
     | (v,_,q) => bif v.cl then some (unf (v.er B.E),q) else none)
    | none => none) else none
  | _ => none)
 | _ => none
def retV (o : Option (AV × Prs)) : Option AV := o.map (·.1)
def retQ (o : Option (AV × Prs)) : Prs := match o with
 | some (_,q) => q
 | none => []
theorem tRet {rs : List ResultVar} {X : α → TV B.S} {x a : α} (h : some x = some a) (hx : (retV (retA B P rs (G B P N M).1),(retQ (retA B P rs (G B P N M).1)).map Prod.fst,(G B P N M).2.map Prod.fst) =
   (some ((X x).er B.E),(retQ (retA B P rs (G B P N M).1)).map Prod.snd,(G B P N M).2.map Prod.snd) := by kernel_rfl) : RT B P N none (FinQ P rs.toArray (KX B X a)) M := by
 cases h
 simp only [Prod.mk.injEq] at hx
 obtain ⟨h1,h2,h3⟩ := hx
 refine G_ok h3 ⟨?_⟩
 have h2 := pairs_ok h2
 generalize (G B P N M).1 = g at *
 obtain ⟨o,k,env,s⟩ := g
 cases hr : retA B P rs ⟨o,k,env,s⟩ with
 | none => rw [hr] at h1; cases h1
 | some p =>
  obtain ⟨v,q⟩ := p
  rw [hr] at h1 h2
  have hv1 : v = (X x).er B.E := Option.some.inj h1
  have hv2 : ∀ p ∈ q,p.1 = p.2 := h2
  clear h1 h2
  unfold retA at hr
  split at hr
  ·rename_i e ho
   simp only at ho; subst ho
   split at hr
   ·rename_i hk
    simp only at hk; subst hk
    generalize hq0 : (match e with | .ret => true | .normal => true | _ => false) = b0 at hr
    cases hq : (b0 && noDfr (erS B s).heap) with
    | false => simp only [hq,cond_false] at hr; cases hr
    | true =>
     simp only [hq,cond_true] at hr
     simp only [Bool.and_eq_true] at hq
     have he : e = .ret ∨ e = .normal := by
      rw [hq.1] at hq0
      cases e <;> simp_all
     split at hr
     ·rename_i l hl
      have hl := resT_ok hl
      generalize hy : (match l with | [x] => x | l => TV.tup l) = y at hr
      have hres : aResults P rs.toArray (erE B env) (erS B s) = some (y.er B.E) := by
       unfold aResults
       simp only [hl]
       subst hy
       cases l with
       | nil => rfl
       | cons x r => cases r <;> rfl
      cases hc : (tfrz y s).1.cl with
      | false => simp only [hc,cond_false] at hr; cases hr
      | true =>
       simp only [hc,cond_true] at hr
       cases hr
       have hf := tfrz_ok (B := B) y s hc hv2
       have hless : Less (erS B s) (erS B s) := ⟨fun id b hg => ⟨hg,fun e => noDfr_iff hq.2 id (by rw [hg,e])⟩,Nat.le_refl _⟩
       have hK : KX B X x (y.er B.E) (erS B s) := by
        unfold KX; rw [hf]; exact hv1
       rcases he with rfl | rfl
       ·exact fun G w a hn => hn.after ⟨_,_,hres,hless,hK⟩
       ·exact fun G w a hn => hn.after ⟨_,_,hres,hless,hK⟩
     ·cases hr
   ·cases hr
  ·cases hr
end
end Go.Am
