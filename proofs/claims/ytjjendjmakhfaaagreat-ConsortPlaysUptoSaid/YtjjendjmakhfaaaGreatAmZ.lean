/-
 The logic AM,Z: walks on typed states: blocks that become immutable; functions that reach into the state,and calls of them.
 Own work. No Go text.
-/
import Derived.Test.YtjjendjmakhfaaaGreatAmY
set_option linter.all false
namespace Go.Am
open Go.RowKit
section
variable {S : Nat → Type}
end
section
variable {B : Tab} {id len : Nat} {l : TV B.S} {elems : List AV}
variable {P : Program} {N : Nat} {ρ : Option Nat} {Q : Exit → Env → St → Prop} {M : TM B.S}
def toReg (B : Tab) (P : Program) (N : Nat) (rid : Nat) (M : TM B.S) : TM B.S × Prs := goT B P N (regU rid) FT M
end
section
variable {B : Tab} {m c n : Nat} {x : List (B.S c)}
end
def stepAt (l : List Step) (i : Nat) (d : Step) : Step := (l.find? fun st => Nat.beq st.idx i).getD d
def swapS (l : List Step) (i j : Nat) : List Step := l.map fun st => bif Nat.beq st.idx i then stepAt l j st else bif Nat.beq st.idx j then stepAt l i st else st
def okOne (P : Program) (N : Nat) (l : List Oper) (pre : List (List Nat)) (i j : Nat) (steps : List Step) : Bool :=
 planBX [(i,j)] P N l pre steps && Nat.blt i l.length && (steps.all fun st => !st.isAlloc) && (steps.all fun st => !(Nat.beq st.idx i) || st.waits) && (steps.all fun st => !st.waits || !(memB st.idx (preI pre i))) && (mkD (ins l) steps).all lightD
def fork0 (B : Tab) (i j : Nat) (b : Bool) (ops : Array Oper) (y : Option Code) : TO B.S := .rd (mkD (ins ops.toList) (bif b then (wPlanOf ops.toList).2 else swapS (wPlanOf ops.toList).2 i j)) [] y
def forkM (B : Tab) (i j : Nat) (b : Bool) (M : TM B.S) : TM B.S := match M.o with
 | .run c => (match c with
  | .seq (.region _ ops _) y => ⟨fork0 B i j b ops (some y),M.k,M.env,M.s⟩
  | .region _ ops _ => ⟨fork0 B i j b ops none,M.k,M.env,M.s⟩
  | _ => M)
 | _ => M
def okOps (P : Program) (N : Nat) (i j : Nat) (ops : Array Oper) (d : Bool) : Bool := d && P.follows .mixedOrders && !(Nat.beq i j) && (match wPlanOf ops.toList with
 | (pre,st) => okOne P N ops.toList pre i j st && okOne P N ops.toList pre j i (swapS st i j))
def okFork (B : Tab) (P : Program) (N : Nat) (i j : Nat) (M : TM B.S) : Bool := match M.o with
 | .run c => (match c with
  | .seq (.region _ ops d) _ => okOps P N i j ops d
  | .region _ ops d => okOps P N i j ops d
  | _ => false)
 | _ => false
theorem okOps_awp {B : Tab} {P : Program} {N : Nat} {ρ : Option Nat} {i j id : Nat} {ops : Array Oper} {d : Bool} (h : okOps P N i j ops d = true) {K : Env → St → Prop} {env : Env} {s : St}
  (h1 : dq P K (mkD (ins ops.toList) (wPlanOf ops.toList).2) [] env s) (h2 : dq P K (mkD (ins ops.toList) (swapS (wPlanOf ops.toList).2 i j)) [] env s) : AWp P N ρ (.region id ops d) (fun e env s => e = .normal ∧ K env s) env s := by
 unfold okOps at h
 generalize wPlanOf ops.toList = pl at h h1 h2
 obtain ⟨pre,st⟩ := pl
 simp only [Bool.and_eq_true,Bool.not_eq_true'] at h
 obtain ⟨⟨⟨hd,hm⟩,hij⟩,ha,hb⟩ := h
 subst hd
 have hne : i ≠ j := fun e => by rw [e,Nat.beq_refl] at hij; cases hij
 have one : ∀ {i j : Nat} {st : List Step},okOne P N ops.toList pre i j st = true → PlanOkX (fun x y => xB [(i,j)] x y = true) P N ops.toList pre st ∧ i < ops.toList.length ∧ (∀ q ∈ st,q.isAlloc = false) ∧ (∀ q ∈ st,q.idx = i → q.waits = true) ∧ (∀ q ∈ st,q.waits = true → q.idx ∉ preI pre i) := by
  intro i j st h
  simp only [okOne,Bool.and_eq_true,List.all_eq_true,Bool.not_eq_true',Bool.or_eq_true] at h
  obtain ⟨⟨⟨⟨⟨a1,a2⟩,a3⟩,a4⟩,a5⟩,_⟩ := h
  refine ⟨planBX_ok a1,by simpa [Nat.blt_eq] using a2,a3,fun q hq e => ?_,fun q hq e hi => ?_⟩
  ·rcases a4 q hq with g | g
   ·rw [e,Nat.beq_refl] at g; cases g
   ·exact g
  ·rcases a5 q hq with g | g
   ·rw [e] at g; cases g
   ·rw [memB_iff.2 hi] at g; cases g
 have hx : ∀ i j x y : Nat,xB [(i,j)] x y = true → x = i ∧ y = j := by
  intro i j x y h
  simp only [xB,List.any_cons,List.any_nil,Bool.or_false,Bool.and_eq_true] at h
  exact ⟨(Nat.eq_of_beq_eq_true h.1).symm,(Nat.eq_of_beq_eq_true h.2).symm⟩
 obtain ⟨p1,p2,p3,p4,p5⟩ := one ha
 obtain ⟨q1,q2,q3,q4,q5⟩ := one hb
 have e : (fun env s => (fun (e : Exit) env s => e = .normal ∧ K env s) .normal env s) = K := by funext env s; simp
 refine awp_draw2 pre st (swapS st i j) i j ops.toList rfl hm p1 q1 hne p2 q2 (hx i j) (hx j i) p3 q3 p4 q4 p5 q5 (dwq_dws (dq_dwq (tr := []) ?_)) (dwq_dws (dq_dwq (tr := []) ?_))
 ·rw [mkD_eq] at h1; rw [e]; exact h1
 ·rw [mkD_eq] at h2; rw [e]; exact h2
theorem tD2 {B : Tab} {P : Program} {N : Nat} {ρ : Option Nat} {Q : Exit → Env → St → Prop} {M : TM B.S} (rid i j : Nat) (kA : RT B P N ρ Q (forkM B i j true (toReg B P N rid M).1)) (kB : RT B P N ρ Q (forkM B i j false (toReg B P N rid M).1))
  (hx : (okFork B P N i j (toReg B P N rid M).1,(toReg B P N rid M).2.map Prod.fst) = (true,(toReg B P N rid M).2.map Prod.snd) := by kernel_rfl) : RT B P N ρ Q M := by
 simp only [Prod.mk.injEq] at hx
 obtain ⟨h1,h3⟩ := hx
 refine ⟨goT_ok (pairs_ok h3) ?_⟩
 have kA := kA.v
 have kB := kB.v
 revert h1 kA kB
 generalize hg : (toReg B P N rid M).1 = g
 have hg2 : (goT B P N (regU rid) FT M).1 = g := hg
 rw [hg2]
 intro h1 kA kB
 obtain ⟨o,k,env,s⟩ := g
 unfold okFork at h1
 split at h1
 ·rename_i c ho
  simp only at ho; subst ho
  have nil : ∀ t ∈ ([] : List (Note B.S)),isLight t.op = true ∧ (t.ok = true → aop P t.op (erE B t.e) (erS B s) = some (t.v.er B.E,erS B s)) := fun t ht => by cases ht
  split at h1
  ·rename_i id ops d y
   have hA : dq P (YK P N ρ Q k (some y)) (mkD (ins ops.toList) (wPlanOf ops.toList).2) [] (erE B env) (erS B s) := kA nil
   have hB : dq P (YK P N ρ Q k (some y)) (mkD (ins ops.toList) (swapS (wPlanOf ops.toList).2 i j)) [] (erE B env) (erS B s) := kB nil
   show AWp P N ρ (.seq (.region id ops d) y) (QK P N ρ Q k) (erE B env) (erS B s)
   refine awp_seq ?_
   intro G w a hn
   refine wpIn_mono (okOps_awp (B := B) (id := id) h1 hA hB G w a hn) ?_
   rintro e2 a2 w2 ⟨G',env',s2,n',x',rfl,hk⟩
   exact ⟨G',env',s2,n',x',hk⟩
  ·rename_i id ops d
   have hA : dq P (YK P N ρ Q k none) (mkD (ins ops.toList) (wPlanOf ops.toList).2) [] (erE B env) (erS B s) := kA nil
   have hB : dq P (YK P N ρ Q k none) (mkD (ins ops.toList) (swapS (wPlanOf ops.toList).2 i j)) [] (erE B env) (erS B s) := kB nil
   show AWp P N ρ (.region id ops d) (QK P N ρ Q k) (erE B env) (erS B s)
   exact awp_outN (okOps_awp (B := B) (id := id) h1 hA hB)
  ·cases h1
 ·cases h1
section
variable {B : Tab} {P : Program} {N : Nat} {Q : Exit → Env → St → Prop} {M : TM B.S}
end
section
variable {P : Program}
theorem acalls_seen {f : FuncId} {args : List AV} {s0 : St} {K : AV → St → Prop}
  (h : ACalls P f args s0 fun y s => ∃ s1 y1 base π S2 x2,s0.cnt ≤ base ∧ Turn s y s1 y1 ∧ IntoS base π S2 s1 ∧ Co (okId base S2.heap) π x2 y1 ∧ K x2 S2) : ACalls P f args s0 K := fun G w vs hs hv => by
 refine (h G w vs hs hv).mono ?_
 rintro e w' ⟨v,G',y,s',rfl,hV,hS,hE,s1,y1,base,π,S2,x2,hb,ht,hi,hc,hk⟩
 obtain ⟨G1,h1,h2,h3⟩ := ht G' w' v hS hV
 have hE1 := hE.trans hs h2
 exact ⟨v,_,x2,S2,rfl,hc.V seenI h3,hi.toIntoM.sim h1,hi.ext hs hE1 h1 hb,hk⟩
end
section
variable {B : Tab} {P : Program} {N : Nat} {Q : Exit → Env → St → Prop} {M : TM B.S} {α β : Type} {r : β}
def TCall (B : Tab) (P : Program) (f : FuncId) (args : List (TV B.S)) (H0 : TSt B.S) (X : α → TV B.S) (H1 : α → TSt B.S) (a : α) : Prop :=
 ACalls P f (erL B.E args) (erS B H0) fun y t => y = (X a).er B.E ∧ t = erS B (H1 a)
def KH (B : Tab) (base : Nat) (X : α → TV B.S) (H1 : α → TSt B.S) (a : α) : AV → St → Prop := fun y s => ∃ s1 y1 base' π,base ≤ base' ∧ Turn s y s1 y1 ∧ IntoS base' π (erS B (H1 a)) s1 ∧ Co (okId base' (erS B (H1 a)).heap) π ((X a).er B.E) y1
theorem tfH {f : FuncId} {args : List (TV B.S)} {H0 : TSt B.S} {X : α → TV B.S} {H1 : α → TSt B.S} {a : α} (h : RT B P (nF P f) none (FinQ P (rF P f).toArray (KH B H0.cnt X H1 a)) ⟨.run (cF P f),[],argT args 0,H0⟩)
  (hx : ((bodyF P f).isSome && Nat.ble args.length (nF P f) && noDfr (erS B H0).heap) = true := by kernel_rfl) : TCall B P f args H0 X H1 a := by
 simp only [Bool.and_eq_true] at hx
 obtain ⟨⟨h1,h2⟩,h3⟩ := hx
 have h := h.v
 obtain ⟨⟨n,rs,c⟩,hb⟩ := Option.isSome_iff_exists.1 h1
 have e1 : nF P f = n := by simp [nF,hb]
 have e2 : rF P f = rs := by simp [rF,hb]
 have e3 : cF P f = c := by simp [cF,hb]
 rw [e1,e2,e3] at h
 rw [e1] at h2
 refine acalls_seen ?_
 refine (run_f (s := erS B H0) n rs c _ hb argT_er.symm (by rw [len_erL]; exact h2) h3 h).mono ?_
 rintro y s ⟨s1,y1,base',π,k1,k2,k3,k4⟩
 exact ⟨s1,y1,base',π,_,_,k1,k2,k3,k4,rfl,rfl⟩
def retP (B : Tab) (P : Program) (fz : Bool) (base : Nat) (rs : List ResultVar) (x : TV B.S) (S2 : TSt B.S) (M : TM B.S) : Option Prs := match M.o with
 | .out e => (match M.k with
  | [] => bif (match e with | .ret => true | .normal => true | _ => false) && noDfr (erS B M.s).heap then (match resT B P M.env M.s rs with
    | some l => (match (bif fz then tfrz (match l with | [x] => x | l => .tup l) M.s else ((match l with | [x] => x | l => .tup l),M.s,[])) with
     | (y,s1,q) => bif !fz || y.cl then (match seeT B base (autoL base [(0,x)] S2 [(0,y)] s1) [(0,x)] S2 [(0,y)] s1 with
      | some q2 => some (q ++ q2)
      | none => none) else none)
    | none => none) else none
  | _ => none)
 | _ => none
def retPQ (o : Option Prs) : Prs := match o with
 | some q => q
 | none => [(.any,.nilp)]
theorem retPQ_ok {o : Option Prs} (h : ∀ p ∈ retPQ o,p.1 = p.2) : ∃ q,o = some q ∧ ∀ p ∈ q,p.1 = p.2 := by
 cases o with
 | none => have := h (.any,.nilp) (by simp [retPQ]); cases this
 | some q => exact ⟨q,rfl,h⟩
theorem tRetH {rs : List ResultVar} {base : Nat} {X : α → TV B.S} {H1 : α → TSt B.S} {x a : α} (fz : Bool) (h : some x = some a) (hx : ((retPQ (retP B P fz base rs (X x) (H1 x) (G B P N M).1)).map Prod.fst,(G B P N M).2.map Prod.fst) =
   ((retPQ (retP B P fz base rs (X x) (H1 x) (G B P N M).1)).map Prod.snd,(G B P N M).2.map Prod.snd) := by kernel_rfl) : RT B P N none (FinQ P rs.toArray (KH B base X H1 a)) M := by
 cases h
 simp only [Prod.mk.injEq] at hx
 obtain ⟨h2,h3⟩ := hx
 refine G_ok h3 ⟨?_⟩
 obtain ⟨q,hr,hq⟩ := retPQ_ok (pairs_ok h2)
 generalize (G B P N M).1 = g at *
 obtain ⟨o,k,env,s⟩ := g
 unfold retP at hr
 split at hr
 ·rename_i e ho
  simp only at ho; subst ho
  split at hr
  ·rename_i hk
   simp only at hk; subst hk
   generalize hq0 : (match e with | .ret => true | .normal => true | _ => false) = b0 at hr
   cases hb : (b0 && noDfr (erS B s).heap) with
   | false => simp only [hb,cond_false] at hr; cases hr
   | true =>
    simp only [hb,cond_true] at hr
    simp only [Bool.and_eq_true] at hb
    have he : e = .ret ∨ e = .normal := by
     rw [hb.1] at hq0
     cases e <;> simp_all
    split at hr
    ·rename_i l hl
     have hl := resT_ok hl
     generalize hy : (match l with | [x] => x | l => TV.tup l) = y0 at hr
     have hres : aResults P rs.toArray (erE B env) (erS B s) = some (y0.er B.E) := by
      unfold aResults
      simp only [hl]
      subst hy
      cases l with
      | nil => rfl
      | cons x r => cases r <;> rfl
     generalize hz : (bif fz then tfrz y0 s else (y0,s,[])) = z at hr
     obtain ⟨y,s1,q1⟩ := z
     simp only at hr
     cases hc : (!fz || y.cl) with
     | false => simp only [hc,cond_false] at hr; cases hr
     | true =>
      simp only [hc,cond_true] at hr
      split at hr
      ·rename_i q2 h2
       cases hr
       have hI := seeT_ok h2 (fun p hp => hq p (List.mem_append_right _ hp))
       obtain ⟨z,hz1,hz2⟩ := hI.env 0 (((X x).er B.E)) (by simp [erE,egetC])
       have hz1 : z = y.er B.E := by simp [erE,egetC] at hz1; exact hz1.symm
       subst hz1
       have ht : Turn (erS B s) (y0.er B.E) (erS B s1) (y.er B.E) := by
        cases fz with
        | false =>
         simp only [cond_false,Prod.mk.injEq] at hz
         obtain ⟨e1,e2,_⟩ := hz
         subst e1; subst e2
         exact Turn.refl _ _
        | true =>
         simp only [cond_true] at hz
         simp only [Bool.not_true,Bool.false_or] at hc
         have hf := tfrz_ok (B := B) y0 s (by rw [hz]; exact hc) (by rw [hz]; exact fun p hp => hq p (List.mem_append_left _ hp))
         rw [hz] at hf
         have := frz_turn (erS B s) (y0.er B.E)
         rw [hf] at this
         exact this
       have hless : Less (erS B s) (erS B s) := ⟨fun id b hg => ⟨hg,fun e => noDfr_iff hb.2 id (by rw [hg,e])⟩,Nat.le_refl _⟩
       have hK : KH B base X H1 x (y0.er B.E) (erS B s) := ⟨_,_,base,_,Nat.le_refl _,ht,hI.st,hz2⟩
       rcases he with rfl | rfl
       ·exact fun G w a hn => hn.after ⟨_,_,hres,hless,hK⟩
       ·exact fun G w a hn => hn.after ⟨_,_,hres,hless,hK⟩
      ·cases hr
    ·cases hr
  ·cases hr
 ·cases hr
section
variable {S : Nat → Type}
def renL (f : TV S → TV S) : List (TV S) → List (TV S)
 | [] => []
 | x :: r => f x :: renL f r
def renT (L : List (Nat × Nat)) : Nat → TV S → TV S
 | 0,x => x
 | n + 1,x => match x with
  | .a y => (match y with
   | .mp i e o => .a (.mp (pi L i) e o)
   | .ms i a b => .a (.ms (pi L i) a b)
   | _ => x)
  | .pt i a b => .pt (pi L i) a b
  | .fn g cs => .fn g (renL (renT L n) cs)
  | .agg cs => .agg (renL (renT L n) cs)
  | .tup cs => .tup (renL (renT L n) cs)
  | x => x
def renB (L : List (Nat × Nat)) (b : TB S) : TB S := match b with
 | .els n l => .els n (renL (renT L 4) l)
 | b => b
def renH (L : List (Nat × Nat)) : List (Nat × TB S) → List (Nat × TB S)
 | [] => []
 | (i,b) :: r => (pi L i,renB L b) :: renH L r
def prA (args0 args : List (TV S)) (H0 s : TSt S) : List (Nat × Nat) :=
 match prL (prT s.cnt 4) args0 args with
 | l0 => match l0 ++ prH s.cnt l0 s.heap H0.heap with
  | l1 => match l1 ++ prH s.cnt l1 s.heap H0.heap with
   | l2 => l2 ++ prH s.cnt l2 s.heap H0.heap
def newN (c0 cnt : Nat) (L : List (Nat × Nat)) : List (Nat × TB S) → List (Nat × Nat)
 | [] => []
 | (i,_) :: r => bif (eget L i).isSome then newN c0 cnt L r else (i,cnt + (i - c0)) :: newN c0 cnt L r
def onlyH (h : List (Nat × TB S)) (L : List (Nat × Nat)) : List (Nat × Nat)  := match h with
 | [] => []
 | (i,_) :: r => (pi L i,i) :: onlyH r L
def restK (ids : List Nat) : List (Nat × TB S) → List Nat
 | [] => []
 | (i,_) :: r => bif memB i ids then restK ids r else i :: restK ids r
def callTs (P : Program) (op : Op) (env : TEnv S) : Option (FuncId × List (TV S)) := match callOf op with
 | some (f,a) => match toper env f with
  | some (.fn g caps) => match topers env a with
   | some l => bif enters P g then some (g,l ++ caps) else none
   | none => none
  | _ => none
 | none => none
end
section
variable (B : Tab) (P : Program)
def seeI (hp : Hps B.S) (ok : Nat → Bool) (π : Nat → Nat) (s : TSt B.S) : List (Nat × TB B.S) → Option Prs
 | [] => some []
 | (id,b) :: r => andQ (match eget s.heap (π id) with
  | some b' => coTB B hp ok π b b'
  | none => none) (seeI hp ok π s r)
def seeO (hp : Hps B.S) (ok : Nat → Bool) (σ : Nat → Nat) (H1 : TSt B.S) : List (Nat × TB B.S) → Option Prs
 | [] => some []
 | (id,b) :: r => andQ (match eget H1.heap (σ id) with
  | some b' => coTB B hp ok σ b b'
  | none => none) (seeO hp ok σ H1 r)
def callHx (Lp Lr : List (Nat × Nat)) (der rest : List (Nat × TB B.S)) (args0 : List (TV B.S)) (H0 : TSt B.S) (x : TV B.S) (H1 : TSt B.S) (args : List (TV B.S)) (s : TSt B.S) : TV B.S × TSt B.S × Prs :=
 (renT Lr 4 x,⟨der ++ rest,s.cnt + (H1.cnt - H0.cnt)⟩,match (bif fitsB Lp (onlyH H1.heap Lr) (rest.map (·.1)) (erS B H0) (erS B H1) (erS B s) (erS B ⟨der ++ rest,s.cnt + (H1.cnt - H0.cnt)⟩) && der.all (fun p => !(memB p.1 (rest.map (·.1)))) then
   andQ (coL (coT B (H0.heap,s.heap) (okId 0 (erS B H0).heap) (pi Lp) 4) args0 args) (andQ (coT B (der ++ rest,H1.heap) (okF (fun id => memB id (rest.map (·.1))) (erS B ⟨der ++ rest,s.cnt + (H1.cnt - H0.cnt)⟩).heap) (pi (onlyH H1.heap Lr)) 4 (renT Lr 4 x) x) (andQ (seeI B (H0.heap,s.heap) (okId 0 (erS B H0).heap) (pi Lp) s H0.heap)
    (seeO B (der ++ rest,H1.heap) (okF (fun id => memB id (rest.map (·.1))) (erS B ⟨der ++ rest,s.cnt + (H1.cnt - H0.cnt)⟩).heap) (pi (onlyH H1.heap Lr)) H1 der))) else none) with
  | some q => q
  | none => [(.any,.nilp)])
def callH (args0 : List (TV B.S)) (H0 : TSt B.S) (x : TV B.S) (H1 : TSt B.S) (args : List (TV B.S)) (s : TSt B.S) : TV B.S × TSt B.S × Prs :=
 match prA args0 args H0 s with
 | Lp => match Lp ++ newN H0.cnt s.cnt Lp H1.heap with
  | Lr => callHx B Lp Lr (renH Lr H1.heap) (keepH (restK (H0.heap.map fun p => pi Lp p.1) s.heap) s.heap) args0 H0 x H1 args s
end
theorem seeI_ok {hp : Hps B.S} {ok : Nat → Bool} {π : Nat → Nat} {s : TSt B.S} : ∀ {h : List (Nat × TB B.S)} {q : Prs},seeI B hp ok π s h = some q → (∀ p ∈ q,p.1 = p.2) → HIn ok π (erS B s) (erH B h)
 | [],_,_,_ => .z
 | (id,b) :: r,q,h,hq => by
  obtain ⟨⟨q1,h1,e1⟩,q2,h2,e2⟩ := andQ_ok h hq
  split at h1
  ·rename_i b' hb
   exact .k (by rw [erS,get_erH,hb]; rfl) (coTB_ok h1 e1) (seeI_ok h2 e2)
  ·cases h1
theorem seeO_ok {hp : Hps B.S} {ok : Nat → Bool} {σ : Nat → Nat} {fr : List Nat} {H1 s : TSt B.S} {rest : List (Nat × Blk)} (hr : HOut ok σ fr (erS B H1) (erS B s) rest) : ∀ {h : List (Nat × TB B.S)} {q : Prs},seeO B hp ok σ H1 h = some q → (∀ p ∈ q,p.1 = p.2) → (h.all fun p => !(memB p.1 fr)) = true → HOut ok σ fr (erS B H1) (erS B s) (erH B h ++ rest)
 | [],_,_,_,_ => hr
 | (id,b) :: r,q,h,hq,ha => by
  obtain ⟨⟨q1,h1,e1⟩,q2,h2,e2⟩ := andQ_ok h hq
  simp only [List.all_cons,Bool.and_eq_true,Bool.not_eq_true'] at ha
  split at h1
  ·rename_i b' hb
   exact .d ha.1 (by rw [erS,get_erH,hb]; rfl) (coTB_ok h1 e1) (seeO_ok hr h2 e2 ha.2)
  ·cases h1
theorem memB_of {x : Nat} {l : List Nat} (h : x ∈ l) : memB x l = true := by
 unfold memB
 exact List.any_eq_true.2 ⟨x,h,Nat.beq_refl x⟩
theorem rest_ok {ok : Nat → Bool} {σ : Nat → Nat} {fr : List Nat} {H1 s : TSt B.S} : ∀ {ks : List Nat},(∀ p ∈ keepH ks s.heap,p.1 ∈ fr) → HOut ok σ fr (erS B H1) (erS B s) (erH B (keepH ks s.heap))
 | [],_ => .z
 | k :: r,h => by
  unfold keepH at h ⊢
  split
  ·rename_i b hb
   simp only [hb] at h
   exact .f (memB_of (h (k,b) (by simp))) (by rw [erS,get_erH,hb]; rfl) (rest_ok fun p hp => h p (by simp [hp]))
  ·rename_i hb
   simp only [hb] at h
   exact rest_ok h
theorem erH_append {a b : List (Nat × TB B.S)} : erH B (a ++ b) = erH B a ++ erH B b := by
 induction a with
 | nil => rfl
 | cons p r ih => obtain ⟨i,x⟩ := p; simp only [List.cons_append,erH,ih]
theorem callHx_ok {f : FuncId} {args0 args : List (TV B.S)} {H0 H1 s : TSt B.S} {x : TV B.S} {Lp Lr : List (Nat × Nat)} {der rest : List (Nat × TB B.S)} {ks : List Nat} (hrest : rest = keepH ks s.heap)
  (h : ACalls P f (erL B.E args0) (erS B H0) fun y t => y = x.er B.E ∧ t = erS B H1)
  (hq : ∀ p ∈ (callHx B Lp Lr der rest args0 H0 x H1 args s).2.2,p.1 = p.2) : ACalls P f (erL B.E args) (erS B s) fun y t => y = (callHx B Lp Lr der rest args0 H0 x H1 args s).1.er B.E ∧ t = erS B (callHx B Lp Lr der rest args0 H0 x H1 args s).2.1 := by
 unfold callHx at hq ⊢
 simp only at hq ⊢
 cases hb : (fitsB Lp (onlyH H1.heap Lr) (rest.map (·.1)) (erS B H0) (erS B H1) (erS B s) (erS B ⟨der ++ rest,s.cnt + (H1.cnt - H0.cnt)⟩) && der.all (fun p => !(memB p.1 (rest.map (·.1))))) with
 | false =>
  rw [hb] at hq
  have := hq (.any,.nilp) (by simp)
  cases this
 | true =>
  rw [hb] at hq
  simp only [cond_true] at hq
  simp only [Bool.and_eq_true] at hb
  split at hq
  ·rename_i q h1
   obtain ⟨⟨q1,a1,e1⟩,q2,h2,e2⟩ := andQ_ok h1 hq
   obtain ⟨⟨q3,a2,e3⟩,q4,h3,e4⟩ := andQ_ok h2 e2
   obtain ⟨⟨q5,a3,e5⟩,q6,a4,e6⟩ := andQ_ok h3 e4
   refine callF h Lp (onlyH H1.heap Lr) (rest.map (·.1)) _ _ _ _ hb.1 (coL_ok (fun _ _ _ => coT_ok) a1 e1) (coT_ok a2 e3) (seeI_ok a3 e5) ?_
   have hr : HOut (okF (fun id => memB id (rest.map (·.1))) (erS B ⟨der ++ rest,s.cnt + (H1.cnt - H0.cnt)⟩).heap) (pi (onlyH H1.heap Lr)) (rest.map (·.1)) (erS B H1) (erS B s) (erH B rest) := by
    subst hrest
    exact rest_ok fun p hp => List.mem_map.2 ⟨p,hp,rfl⟩
   have := seeO_ok hr a4 e6 hb.2
   rw [← erH_append] at this
   exact this
  ·have := hq (.any,.nilp) (by simp)
   cases this
theorem callH_ok {f : FuncId} {args0 args : List (TV B.S)} {H0 H1 s : TSt B.S} {x : TV B.S} (h : ACalls P f (erL B.E args0) (erS B H0) fun y t => y = x.er B.E ∧ t = erS B H1)
  (hq : ∀ p ∈ (callH B args0 H0 x H1 args s).2.2,p.1 = p.2) : ACalls P f (erL B.E args) (erS B s) fun y t => y = (callH B args0 H0 x H1 args s).1.er B.E ∧ t = erS B (callH B args0 H0 x H1 args s).2.1 := callHx_ok rfl h hq
def callTA (B : Tab) (P : Program) (M : TM B.S) : Option (FuncId × List (TV B.S)) := match M.o with
 | .ro l _ => (match l with
  | i :: _ => match gdT B i.guard M.env with
   | .go => callTs P i.op M.env
   | _ => none
  | [] => none)
 | .rd l _ _ => (match l with
  | ⟨.heavy _ _,some i,sl⟩ :: _ => match gdT B i.guard M.env with
   | .go => callTs P i.op (envOfT sl M.env)
   | _ => none
  | _ => none)
 | _ => none
def gOf {S : Nat → Type} (o : Option (FuncId × List (TV S))) : Option FuncId := o.map (·.1)
def aOf {S : Nat → Type} (o : Option (FuncId × List (TV S))) : List (TV S) := match o with
 | some (_,l) => l
 | none => []
def chkH (B : Tab) (P : Program) (M : TM B.S) (s' : TSt B.S) : Prs := match M.o with
 | .rd l n _ => (match l with
  | ⟨.heavy _ c,_,_⟩ :: _ => (match chkT B P false n s' c with
   | some q => q
   | none => [(.any,.nilp)])
  | _ => [])
 | _ => []
def tcKH (B : Tab) (M : TM B.S) (v : TV B.S) (s' : TSt B.S) : TM B.S := match M.o with
 | .ro (i :: l) y => ⟨.ro l y,M.k,eputT i.dst v M.env,s'⟩
 | .rd (⟨_,some i,_⟩ :: l) n y => ⟨.rd l (stale B n) y,M.k,eputT i.dst v M.env,s'⟩
 | _ => M
theorem callTs_ok {op : Op} {env : TEnv B.S} {g : FuncId} {l : List (TV B.S)} {s : St} {K : AV → St → Prop} (h : callTs P op env = some (g,l)) (hp : ACalls P g (erL B.E l) s K) : ows P op K (erE B env) s := by
 unfold callTs at h
 unfold ows
 split at h
 ·rename_i f a hc
  split at h
  ·rename_i g' caps hf
   split at h
   ·rename_i l' hl
    cases he : enters P g' with
    | false => simp [he] at h
    | true =>
     simp only [he,cond_true] at h
     cases h
     simp only [hc,toper_ok,hf,Option.map_some,topers_ok,hl,TV.er]
     rw [erL_append] at hp
     exact ⟨he,hp⟩
   ·cases h
  ·cases h
 ·cases h
theorem callTA_ok {ρ : Option Nat} {g : FuncId} {l : List (TV B.S)} {v : TV B.S} {s' : TSt B.S} (h : callTA B P M = some (g,l)) (hp : ACalls P g (erL B.E l) (erS B M.s) fun y t => y = v.er B.E ∧ t = erS B s') (hq : ∀ p ∈ chkH B P M s',p.1 = p.2)
  (hk : RT0 B P N ρ Q (tcKH B M v s')) : RT0 B P N ρ Q M := by
 obtain ⟨o,k,env,s⟩ := M
 unfold callTA at h
 split at h
 ·rename_i l0 y ho
  simp only at ho; subst ho
  split at h
  ·rename_i i l1
   split at h
   ·rename_i hg
    show gws _ _ _ _
    refine gdT_ok (B := B) ?_
    simp only at hg
    rw [hg]
    have hk : rwsO P (YK P N ρ Q k y) l1 (erE B (eputT i.dst v env)) (erS B s') := hk
    rw [eput_er] at hk
    exact .inl (callTs_ok h (hp.mono fun y t ⟨e1,e2⟩ => by subst e1; subst e2; exact hk))
   ·cases h
  ·cases h
 ·rename_i l0 n y ho
  simp only at ho; subst ho
  split at h
  ·rename_i j c i sl l1
   split at h
   ·rename_i hg
    intro hn
    show gwq _ _ _ _
    refine gdT_okq (B := B) ?_
    simp only at hg
    rw [hg]
    have hk : dq P (YK P N ρ Q k y) l1 (erN B (stale B n)) (erE B (eputT i.dst v env)) (erS B s') := hk (okN_stale hn)
    rw [eput_er,erN_stale] at hk
    have hc : chkD P (erN B n) (erS B s') c := by
     unfold chkH at hq
     simp only at hq
     split at hq
     ·rename_i q hc
      exact chkT_ok hn (fun e => by cases e) hc hq
     ·have := hq (.any,.nilp) (by simp); cases this
    have := callTs_ok (K := fun v s' => chkD P (erN B n) s' c ∧ dq P (YK P N ρ Q k y) l1 (erN B n) (eput i.dst v (erE B env)) s') h (hp.mono fun y t ⟨e1,e2⟩ => by subst e1; subst e2; exact ⟨hc,hk⟩)
    rw [envOf_er] at this
    exact this
   ·cases h
  ·cases h
 ·cases h
theorem callHv {a : α} {g : FuncId} {args0 : List (TV B.S)} {H0 : TSt B.S} {X : α → TV B.S} {H1 : α → TSt B.S} (hf : TCall B P g args0 H0 X H1 a)
  (k : RT B P N none Q (tcKH B (G B P N M).1 (callH B args0 H0 (X a) (H1 a) (aOf (callTA B P (G B P N M).1)) (G B P N M).1.s).1 (callH B args0 H0 (X a) (H1 a) (aOf (callTA B P (G B P N M).1)) (G B P N M).1.s).2.1))
  (hx : (gOf (callTA B P (G B P N M).1),(callH B args0 H0 (X a) (H1 a) (aOf (callTA B P (G B P N M).1)) (G B P N M).1.s).2.2.map Prod.fst,(chkH B P (G B P N M).1 (callH B args0 H0 (X a) (H1 a) (aOf (callTA B P (G B P N M).1)) (G B P N M).1.s).2.1).map Prod.fst,(G B P N M).2.map Prod.fst) =
   (some g,(callH B args0 H0 (X a) (H1 a) (aOf (callTA B P (G B P N M).1)) (G B P N M).1.s).2.2.map Prod.snd,(chkH B P (G B P N M).1 (callH B args0 H0 (X a) (H1 a) (aOf (callTA B P (G B P N M).1)) (G B P N M).1.s).2.1).map Prod.snd,(G B P N M).2.map Prod.snd)) : RT B P N none Q M := by
 simp only [Prod.mk.injEq] at hx
 obtain ⟨h0,h1,h2,h3⟩ := hx
 refine G_ok h3 ⟨?_⟩
 have hk := k.v
 generalize (G B P N M).1 = m at *
 cases hc : callTA B P m with
 | none => rw [hc] at h0; cases h0
 | some p =>
  obtain ⟨g',l⟩ := p
  rw [hc] at h0 h1 h2 hk
  cases h0
  exact callTA_ok hc (callH_ok hf (pairs_ok h1)) (pairs_ok h2) hk
theorem tCallH {o : Option α} {K : α → Option β} {g : FuncId} {args0 : List (TV B.S)} {H0 : TSt B.S} {X : α → TV B.S} {H1 : α → TSt B.S} (h : o.bind K = some r) (hf : ∀ a,o = some a → TCall B P g args0 H0 X H1 a)
  (k : ∀ a,o = some a → K a = some r → RT B P N none Q (tcKH B (G B P N M).1 (callH B args0 H0 (X a) (H1 a) (aOf (callTA B P (G B P N M).1)) (G B P N M).1.s).1 (callH B args0 H0 (X a) (H1 a) (aOf (callTA B P (G B P N M).1)) (G B P N M).1.s).2.1))
  (hx : ∀ a,(gOf (callTA B P (G B P N M).1),(callH B args0 H0 (X a) (H1 a) (aOf (callTA B P (G B P N M).1)) (G B P N M).1.s).2.2.map Prod.fst,(chkH B P (G B P N M).1 (callH B args0 H0 (X a) (H1 a) (aOf (callTA B P (G B P N M).1)) (G B P N M).1.s).2.1).map Prod.fst,(G B P N M).2.map Prod.fst) =
   (some g,(callH B args0 H0 (X a) (H1 a) (aOf (callTA B P (G B P N M).1)) (G B P N M).1.s).2.2.map Prod.snd,(chkH B P (G B P N M).1 (callH B args0 H0 (X a) (H1 a) (aOf (callTA B P (G B P N M).1)) (G B P N M).1.s).2.1).map Prod.snd,(G B P N M).2.map Prod.snd) := by intro a; kernel_rfl) : RT B P N none Q M :=
 let ⟨a,ha,hK⟩ := bindE h
 callHv (hf a ha) (k a ha hK) (hx a)
theorem tCallS {α' : Type} {o : Option (α ⊕ α')} {K : α → Option β} {K' : α' → Option β} {g : FuncId} {args0 : List (TV B.S)} {H0 : TSt B.S} {X : α → TV B.S} {X' : α' → TV B.S} {H1 : α → TSt B.S} {H1' : α' → TSt B.S} (h : o.bind (Sum.elim K K') = some r)
  (hf : ∀ a,o = some a → TCall B P g args0 H0 (Sum.elim X X') (Sum.elim H1 H1') a)
  (k : ∀ a,o = some (.inl a) → K a = some r → RT B P N none Q (tcKH B (G B P N M).1 (callH B args0 H0 (X a) (H1 a) (aOf (callTA B P (G B P N M).1)) (G B P N M).1.s).1 (callH B args0 H0 (X a) (H1 a) (aOf (callTA B P (G B P N M).1)) (G B P N M).1.s).2.1))
  (k' : ∀ a,o = some (.inr a) → K' a = some r → RT B P N none Q (tcKH B (G B P N M).1 (callH B args0 H0 (X' a) (H1' a) (aOf (callTA B P (G B P N M).1)) (G B P N M).1.s).1 (callH B args0 H0 (X' a) (H1' a) (aOf (callTA B P (G B P N M).1)) (G B P N M).1.s).2.1))
  (hx : ∀ a,(gOf (callTA B P (G B P N M).1),(callH B args0 H0 (X a) (H1 a) (aOf (callTA B P (G B P N M).1)) (G B P N M).1.s).2.2.map Prod.fst,(chkH B P (G B P N M).1 (callH B args0 H0 (X a) (H1 a) (aOf (callTA B P (G B P N M).1)) (G B P N M).1.s).2.1).map Prod.fst,(G B P N M).2.map Prod.fst) =
   (some g,(callH B args0 H0 (X a) (H1 a) (aOf (callTA B P (G B P N M).1)) (G B P N M).1.s).2.2.map Prod.snd,(chkH B P (G B P N M).1 (callH B args0 H0 (X a) (H1 a) (aOf (callTA B P (G B P N M).1)) (G B P N M).1.s).2.1).map Prod.snd,(G B P N M).2.map Prod.snd) := by intro a; kernel_rfl)
  (hx' : ∀ a,(gOf (callTA B P (G B P N M).1),(callH B args0 H0 (X' a) (H1' a) (aOf (callTA B P (G B P N M).1)) (G B P N M).1.s).2.2.map Prod.fst,(chkH B P (G B P N M).1 (callH B args0 H0 (X' a) (H1' a) (aOf (callTA B P (G B P N M).1)) (G B P N M).1.s).2.1).map Prod.fst,(G B P N M).2.map Prod.fst) =
   (some g,(callH B args0 H0 (X' a) (H1' a) (aOf (callTA B P (G B P N M).1)) (G B P N M).1.s).2.2.map Prod.snd,(chkH B P (G B P N M).1 (callH B args0 H0 (X' a) (H1' a) (aOf (callTA B P (G B P N M).1)) (G B P N M).1.s).2.1).map Prod.snd,(G B P N M).2.map Prod.snd) := by intro a; kernel_rfl) : RT B P N none Q M := by
 obtain ⟨a,ha,hK⟩ := bindE h
 cases a with
 | inl a =>
  have hfa : TCall B P g args0 H0 X H1 a := hf (.inl a) ha
  exact callHv hfa (k a ha hK) (hx a)
 | inr a =>
  have hfa : TCall B P g args0 H0 X' H1' a := hf (.inr a) ha
  exact callHv hfa (k' a ha hK) (hx' a)
end
end Go.Am
