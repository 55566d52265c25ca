/-
 The logic AM,C: regions,functions,drawn regions,ranges over functions.
 Own work. No Go text.
-/
import Derived.Test.YtjjendjmakhfaaaGreatAmB
import Derived.RangeFuncNested
set_option linter.all false
section
namespace Go.Am
open Go.RowKit
section
variable {P : Program} {N : Nat} {ρ : Option Nat} {Q : Exit → Env → St → Prop} {env : Env} {s : St} {G : Ghost} {a : Act} {w : World}
theorem Now.put {G' : Ghost} {s' : St} {w' : World} {x : AV} {v : Value} {d : Option Nat} (h : Now G N ρ env s a w) (hd : okDst N d = true) (hv : V G' x v) (hs : Sim G' s' w') (hx : Ext G s w G' s' w') :
  Now G' N ρ (eput d x env) s' (a.put d v) w' := by
 refine ⟨hs,?_,?_,?_,h.known.le hx.le⟩
 ·intro t y hy
  cases d with
  | none => exact (h.env.mono hx.le) t y hy
  | some d =>
   simp only [okDst,decide_eq_true_eq] at hd
   have hlt : d < a.tmps.size := by rw [h.size]; exact hd
   simp only [Go.Am.eput,get_set] at hy
   simp only [Act.put,Array.size_setIfInBounds]
   split at hy
   ·rename_i he; subst he; cases hy
    exact ⟨hlt,by simp [Array.getD_eq_getD_getElem?,hlt]; exact hv⟩
   ·rename_i he
    obtain ⟨e1,e2⟩ := (h.env.mono hx.le) t y hy
    refine ⟨e1,?_⟩
    rw [Array.getD_eq_getD_getElem?,Array.getElem?_setIfInBounds_ne he,← Array.getD_eq_getD_getElem?]
    exact e2
 ·cases d <;> simp [Act.put,h.size]
 ·cases d <;> exact h.defs.ext hx
theorem callOf_eq {op : Op} {f : Operand} {l : List Operand} (h : callOf op = some (f,l)) : ∃ args ts,op = .call ⟨.value f,args,ts⟩ ∧ l = args.toList := by
 unfold callOf at h
 split at h
 ·cases h; exact ⟨_,_,rfl,rfl⟩
 ·cases h
theorem owp_sound {o : Oper} {K : AV → St → Prop} {next : Act → World → Prop} {R : Exit → Act → World → Prop} (h : owp P o K env s) (hn : Now G N ρ env s a w) (ro : Option Nat)
  (hK : ∀ v G' x s' w',V G' x v → Sim G' s' w' → Ext G s w G' s' w' → K x s' → next (a.put o.dst v) w') : o.wpIn (fen ro) 0 P a w next R := by
 refine ⟨fun _ _ => trivial,?_⟩
 unfold owp at h
 split at h
 ·rename_i f args hc
  obtain ⟨arr,ts,hop,rfl⟩ := callOf_eq hc
  have hsem : o.semAt (fen ro).round a.eval = execOp a.eval o := Oper.semAt_eq _ _ _ (fun c => by rw [hop]; simp)
  rw [hsem]
  split at h
  ·rename_i g caps l hf hl
   obtain ⟨he,hcall⟩ := h
   have hfv := oper_V hn.env hf
   have hlv := opers_VL hn.env hl
   generalize hq : a.eval f = fv at hfv
   cases hfv with
   | fn _ _ vs h1 h2 =>
    unfold enters at he
    split at he
    case h_2 => cases he
    rename_i fn hfn
    simp only [Bool.and_eq_true,bne_iff_ne,ne_eq] at he
    have hbody : ¬ fn.body = none := by cases hb : fn.body <;> simp [hb] at he ⊢
    have hrun : (execOp a.eval o).run P w = .ok (.enter g (arr.map a.eval ++ vs)) w := by
     simp [execOp,hop,resolve,Deferred.ofValue,hq,invoke,callFunc,hfn,he.1,hbody]
    rw [hrun,Oper.uponIn_enter]
    refine ⟨(fun h => by cases h),?_⟩
    exact (callsIn_fen (hcall G w _ hn.sim (hlv.append ⟨h1,h2⟩))).mono fun e w' ⟨v,G',x,s',e1,e2,e3,e4,e5⟩ => by subst e1; exact hK v G' x s' w' e2 e3 e4 e5
  ·rename_i id l hf hl
   have hfv := oper_V hn.env hf
   have hlv := opers_VL hn.env hl
   generalize hq : a.eval f = fv at hfv
   cases hfv with
   | yld _ r ho =>
    obtain ⟨fn,tmps,assign,body,y1,y2⟩ := h ro G w r _ hn.sim ho hlv
    have hrun : (execOp a.eval o).run P w = .ok (.round r.block fn tmps assign body) w := by
     simp [execOp,hop,resolve,Deferred.ofValue,hq,invoke,y1]
    rw [hrun,Oper.uponIn_round]
    refine ⟨(fun h => by cases h),?_⟩
    exact y2.mono fun e w' ⟨v,G',x,s',e1,e2,e3,e4,e5⟩ => by subst e1; exact hK v G' x s' w' e2 e3 e4 e5
  ·cases h
 ·split at h
  case h_2 => cases h
  rename_i x s' hx
  have hsem : o.semAt (fen ro).round a.eval = execOp a.eval o := Oper.semAt_eq _ _ _ (fun c => by
   intro e; rw [e] at hx; simp [aop] at hx)
  rw [hsem]
  obtain ⟨nx,v,G',w',e1,e2,e3,e4,e5⟩ := aop_sound hn.sim hn.env o hx
  rw [e1]
  rcases e2 with rfl | ⟨rfl,rfl⟩
  ·rw [Oper.uponIn_value]; exact hK v G' x s' w' e3 e4 e5 h
  ·rw [Oper.uponIn_skip]; exact hK undef G' x s' w' e3 e4 e5 h
theorem gwp_sound {ops : Array Oper} {o : Oper} {A B : Prop} (h : gwp ops o env A B) (hv : VEnv G env a.tmps) :
  (Region.wanted o (yielded ops a.tmps) = true ∧ A) ∨ (Region.wanted o (yielded ops a.tmps) = false ∧ B) := by
 unfold gwp at h
 unfold Region.wanted
 split at h
 ·rename_i hg; exact .inl ⟨by simp [hg],h⟩
 ·rename_i j want hg
  split at h
  case h_2 => cases h
  rename_i d hd
  split at h
  ·rename_i b hb
   obtain ⟨e1,e2⟩ := hv d _ hb
   have hy : yielded ops a.tmps j = some b := by
    unfold yielded
    rw [hd]
    simp only [Option.bind_some]
    rw [Array.getD_eq_getD_getElem?,Array.getElem?_eq_getElem e1,Option.getD_some] at e2
    rw [Array.getElem?_eq_getElem e1]
    generalize a.tmps[d] = v at e2
    cases e2; rfl
   rw [hg]
   simp only [hy]
   by_cases hbw : b = want
   ·exact .inl ⟨by simp [hbw],h.1 hbw⟩
   ·exact .inr ⟨by simp [hbw],h.2 (by cases b <;> cases want <;> simp_all)⟩
  ·rename_i hb
   obtain ⟨e1,e2⟩ := hv d _ hb
   have hy : yielded ops a.tmps j = none := by
    unfold yielded
    rw [hd]
    simp only [Option.bind_some]
    rw [Array.getD_eq_getD_getElem?,Array.getElem?_eq_getElem e1,Option.getD_some] at e2
    rw [Array.getElem?_eq_getElem e1]
    generalize a.tmps[d] = v at e2
    cases e2; rfl
   rw [hg]
   simp only [hy]
   exact .inr ⟨by simp,h⟩
  ·cases h
theorem rwp_sound {ops : Array Oper} {G0 : Ghost} {s0 : St} {w0 : World} (h0 : Sim G0 s0 w0) (ro : Option Nat) : ∀ (l : List Oper) (k : Nat) (env : Env) (s : St) (G : Ghost) (a : Act) (w : World),ops.toList.drop k = l →
  Now G N ρ env s a w → Ext G0 s0 w0 G s w → rwp P N ops (fun env s => Q .normal env s) l env s → wpOpsIn (fen ro) 0 P ops (After G0 N ρ s0 w0 Q) (List.range' k l.length) a w
 | [],k,env,s,G,a,w,_,hn,hx,h => ⟨G,env,s,hn,hx,h⟩
 | o :: r,k,env,s,G,a,w,hl,hn,hx,h => by
  have ho : ops[k]? = some o := by
   have := congrArg (fun l : List Oper => l[0]?) hl
   simpa [List.getElem?_drop] using this
  have hr : ops.toList.drop (k + 1) = r := by rw [← List.drop_drop,hl]; rfl
  obtain ⟨hd,h⟩ := h
  rw [List.length_cons,List.range'_succ]
  simp only [wpOpsIn,ho]
  rcases gwp_sound h hn.env with ⟨hw,h⟩ | ⟨hw,h⟩
  ·rw [if_pos hw]
   exact owp_sound h hn ro fun v G' x s' w' hv hs he hk => rwp_sound h0 ro r (k + 1) _ _ G' _ w' hr (hn.put hd hv hs he) (hx.trans h0 he) hk
  ·rw [if_neg (by simp [hw])]
   exact ⟨fun _ _ => trivial,rwp_sound h0 ro r (k + 1) _ _ G _ w hr (hn.put hd (.tup [] #[] rfl (by simp)) hn.sim (.refl _ _ _)) hx h⟩
theorem awp_region {id : Nat} {ops : Array Oper} (h : rwp P N ops (fun env s => Q .normal env s) ops.toList env s) : AWp P N ρ (.region id ops false) Q env s := fun G w a hn => by
 refine wpIn_region ?_
 rw [List.range_eq_range']
 exact rwp_sound hn.sim _ ops.toList 0 env s G a w rfl hn (.refl _ _ _) h
def aRes (P : Program) (env : Env) (s : St) : ResultVar → Option AV
 | .tmp t => eget env t
 | .cell t ty => match eget env t with
  | some p => aLoad P ty p s
  | none => none
def aResL (P : Program) (env : Env) (s : St) : List ResultVar → Option (List AV)
 | [] => some []
 | r :: l => match aRes P env s r,aResL P env s l with
  | some x,some xs => some (x :: xs)
  | _,_ => none
def aResults (P : Program) (rs : Array ResultVar) (env : Env) (s : St) : Option AV := match aResL P env s rs.toList with
 | some [x] => some x
 | some l => some (.tup l)
 | none => none
def resOf (tmps : Array Value) (r : ResultVar) : Sem Value := match r with
 | .tmp t => pure (tmps.getD t undef)
 | .cell a t => do loadVar t (← asAddr (tmps.getD a undef))
theorem aResL_V (hs : Sim G s w) {w2 : World} (hw : ∀ a,w2.cell? a = w.cell? a) {tmps : Array Value} (he : VEnv G env tmps) : ∀ {l : List ResultVar} {xs : List AV},aResL P env s l = some xs →
  ∃ vs : List Value,(l.mapM (resOf tmps)).run P w2 = .ok vs w2 ∧ VL G xs vs.toArray
 | [],xs,h => by simp [aResL] at h; subst h; exact ⟨[],rfl,rfl,by simp⟩
 | r :: l,xs,h => by
  simp only [aResL] at h
  split at h
  case h_2 => cases h
  rename_i x ys hx hys
  cases h
  obtain ⟨vs,e1,e2⟩ := aResL_V hs hw he hys
  have one : ∃ v,(resOf tmps r).run P w2 = .ok v w2 ∧ V G x v := by
   cases r with
   | tmp t => exact ⟨_,rfl,(he t x hx).2⟩
   | cell t ty =>
    simp only [aRes] at hx
    split at hx
    case h_2 => cases hx
    rename_i p hp
    unfold aLoad at hx
    split at hx
    case h_2 => cases hx
    rename_i cs hcs
    obtain ⟨b,o,hpv,ht⟩ := cellsAt_there hs (he t p hp).2 hcs
    have ht2 : There G w2 b o cs := fun k x hx => by rw [hw]; exact ht k x hx
    obtain ⟨v,r1,r2⟩ := ht2.read (P := P) hx
    exact ⟨v,by simp [resOf,hpv,asAddr,r1],r2⟩
  obtain ⟨v,o1,o2⟩ := one
  refine ⟨v :: vs,by simp [List.mapM_cons,o1,e1],by simpa using e2.1,fun i p q hp hq => ?_⟩
  cases i with
  | zero => simp at hp hq; subst hp; subst hq; exact o2
  | succ i => exact e2.2 i p q (by simpa using hp) (by simpa using hq)
theorem aResults_V (hs : Sim G s w) {w2 : World} (hw : ∀ a,w2.cell? a = w.cell? a) {tmps : Array Value} (he : VEnv G env tmps) {fn : Func} {x : AV} (h : aResults P fn.results env s = some x) :
  ∃ v,(results fn tmps).run P w2 = .ok v w2 ∧ V G x v := by
 unfold aResults at h
 have key : ∀ xs,aResL P env s fn.results.toList = some xs → ∃ vs : List Value,(results fn tmps).run P w2 = .ok (if h : vs.toArray.size = 1 then vs.toArray[0] else .tuple vs.toArray) w2 ∧ VL G xs vs.toArray := by
  intro xs hxs
  obtain ⟨vs,e1,e2⟩ := aResL_V (P := P) hs hw he hxs
  refine ⟨vs,?_,e2⟩
  have hr : results fn tmps = (do let vs ← fn.results.mapM (resOf tmps); pure (if h : vs.size = 1 then vs[0] else .tuple vs)) := by
   unfold results
   congr 1
  rw [hr,Sem.run_bind,Array.mapM_eq_mapM_toList,Sem.run_map,e1]
  try rfl
 split at h
 ·rename_i y hy
  cases h
  obtain ⟨vs,e1,e2⟩ := key _ hy
  have hl : vs.length = 1 := by simpa using e2.1.symm
  match vs,hl with
  | [v],_ => exact ⟨v,by simpa using e1,e2.2 0 x v rfl rfl⟩
 ·rename_i l hl hne
  cases h
  obtain ⟨vs,e1,e2⟩ := key _ hne
  have hlen : ¬ vs.toArray.size = 1 := fun hh => by
   rw [← e2.1] at hh
   match l,hh with
   | [y],_ => exact hl y rfl
  rw [dif_neg hlen] at e1
  exact ⟨_,e1,.tup _ _ e2.1 e2.2⟩
 ·cases h
def Less (s' s : St) : Prop := (∀ id b,eget s'.heap id = some b → eget s.heap id = some b ∧ b ≠ .dfr) ∧ s.cnt ≤ s'.cnt
def FinQ (P : Program) (rs : Array ResultVar) (K : AV → St → Prop) : Exit → Env → St → Prop
 | .normal,env,s | .ret,env,s => ∃ x s',aResults P rs env s = some x ∧ Less s' s ∧ K x s'
 | _,_,_ => False
def argEnv (l : List AV) : Nat → Env
 | k => match l with
  | [] => []
  | x :: r => (k,x) :: argEnv r (k + 1)
theorem get_argEnv : ∀ (l : List AV) (k t : Nat) (x : AV),eget (argEnv l k) t = some x → k ≤ t ∧ l[t - k]? = some x
 | [],k,t,x,h => by simp [argEnv,egetN,egetC] at h
 | y :: r,k,t,x,h => by
  simp only [argEnv,egetN,egetC] at h
  split at h
  ·rename_i he; subst he; cases h; simp
  ·obtain ⟨h1,h2⟩ := get_argEnv r (k + 1) t x h
   refine ⟨by omega,?_⟩
   rw [show t - k = (t - (k + 1)) + 1 from by omega]
   simpa using h2
structure Shut (G : Ghost) (s : St) (w w' : World) : Prop where
 size : w'.heap.size = w.heap.size
 os : w'.os = w.os
 tape : w'.tape = w.tape
 output : w'.output = w.output
 drawn : w'.drawn = w.drawn
 heap : ∀ b : Nat,w'.heap[b]? = w.heap[b]? ∨ ((∃ x,w.heap[b]? = some (.deferred x)) ∧ (∃ y,w'.heap[b]? = some (.deferred y)) ∧ ∃ id r,eget s.heap id = some .dfr ∧ G.own id = some r ∧ r.block = b)
theorem Shut.refl (G : Ghost) (s : St) (w : World) : Shut G s w w := ⟨rfl,rfl,rfl,rfl,rfl,fun _ => .inl rfl⟩
theorem Shut.cell {w' : World} (h : Shut G s w w') (x : Addr) : w'.cell? x = w.cell? x := by
 rcases h.heap x.block with e | ⟨⟨y,e1⟩,⟨z,e2⟩,_⟩
 ·exact World.cell?_of_block (w := w) e
 ·simp [World.cell?,e1,e2]
theorem leaves_marks {F : Fence} {fn : Func} {tmps : Array Value} {R : Ending → World → Prop} : ∀ (ds : List Deferred) (s : St) (w : World),Sim G s w → Defs G s ds →
  (∀ w',Shut G s w w' → ∃ v,(results fn tmps).run P w' = .ok v w' ∧ R (.returned v) w') → LeavesInM F 0 P fn tmps R ds .returning w
 | [],s,w,hs,_,h => by
  obtain ⟨v,h1,h2⟩ := h w (.refl _ _ _)
  exact ⟨v,h1,h2⟩
 | d :: ds,s,w,hs,⟨⟨id,r,hg,ho,ht,hne⟩,hr⟩,h => by
  obtain ⟨o,e2,e3⟩ := hs.at hg ho
  cases e3
  refine ⟨by simp,.inl ⟨r.block,{ w with heap := w.heap.setIfInBounds r.block (.deferred none) },ht,?_,?_⟩⟩
  ·simp [Instr.takeDeferred,getObj,setObj,Sem.run,e2]
  ·have hlt : r.block < w.heap.size := (Array.getElem?_eq_some_iff.1 e2).1
   have gd : ∀ i b,eget (edel s.heap id) i = some b → i ≠ id ∧ eget s.heap i = some b := fun i b hi => by
    rw [get_del] at hi
    split at hi
    ·cases hi
    ·exact ⟨by omega,hi⟩
   have hk : ∀ b,b ≠ r.block → (w.heap.setIfInBounds r.block (.deferred none))[b]? = w.heap[b]? := fun b hb => Array.getElem?_setIfInBounds_ne (fun e => hb e.symm)
   refine leaves_marks ds ⟨edel s.heap id,s.cnt⟩ _ ?_ ?_ ?_
   ·refine ⟨fun b o v hi => ?_,fun i b hi => ?_,fun i i' b b' r1 r2 h1 h2 => hs.apart i i' b b' r1 r2 (gd _ _ h1).2 (gd _ _ h2).2,fun i b r1 o hi ho' => hs.clear i b r1 o (gd _ _ hi).2 ho',hs.fresh,fun i b hi => hs.lt i b (gd _ _ hi).2⟩
    ·have hb : b ≠ r.block := fun e => by subst e; rw [hs.clear id _ r o hg ho] at hi; cases hi
     have := hs.imm b o v hi
     rwa [World.cell?_of_block (w := w) (hk b hb)]
    ·obtain ⟨hne',hg'⟩ := gd i b hi
     rcases hs.heap i b hg' with ⟨r1,o1,q1,q2,q3⟩ | e
     ·exact .inl ⟨r1,o1,q1,by rw [hk _ (hs.apart i id b _ r1 r hg' hg q1 ho hne')]; exact q2,q3⟩
     ·exact .inr e
   ·have aux : ∀ (l : List Deferred),(∀ d' ∈ l,∀ b,d'.target = .collected b → b ≠ r.block) → Defs G s l → Defs G ⟨edel s.heap id,s.cnt⟩ l := by
     intro l
     induction l with
     | nil => intro _ _; trivial
     | cons d' l ih =>
      intro hall ⟨⟨i,r1,a1,a2,a3,a4⟩,hrest⟩
      refine ⟨⟨i,r1,?_,a2,a3,a4⟩,ih (fun d'' hd => hall d'' (by simp [hd])) hrest⟩
      have hb := hall d' (by simp) r1.block a3
      show eget (edel s.heap id) i = some .dfr
      rw [get_del,if_neg (fun e => by subst e; rw [ho] at a2; cases a2; exact hb rfl)]
      exact a1
    exact aux ds hne hr
   ·intro w' hsh
    refine h w' ⟨by rw [hsh.size]; simp,hsh.os,hsh.tape,hsh.output,hsh.drawn,fun b => ?_⟩
    by_cases hb : b = r.block
    ·subst hb
     refine .inr ⟨⟨_,e2⟩,?_,id,r,hg,ho,rfl⟩
     rcases hsh.heap r.block with e | ⟨_,e,_⟩
     ·exact ⟨none,by rw [e]; simp [hlt]⟩
     ·exact e
    ·rcases hsh.heap b with e | ⟨⟨x,q1⟩,q2,i,r1,q3,q4,q5⟩
     ·exact .inl (e.trans (hk b hb))
     ·exact .inr ⟨⟨x,by rw [← hk b hb]; exact q1⟩,q2,i,r1,(gd i _ q3).2,q4,q5⟩
theorem acalls_of_wp {f : FuncId} {fn : Func} {c : Code} {args : List AV} {K : AV → St → Prop} (hf : P.funcs[f]? = some fn) (hb : fn.body = some c) (hn : args.length ≤ fn.ntmps)
  (hdfr : ∀ id,eget s.heap id ≠ some .dfr) (h : AWp P fn.ntmps none c (FinQ P fn.results K) (argEnv args 0) s) : ACalls P f args s K := fun G w vs hs hv => by
 refine callsIn_wide (n := 0) |>.1 ?_
 refine callsIn_of_wp_marks hf hb trivial ?_
 have hnow : Now G fn.ntmps none (argEnv args 0) s { tmps := vs ++ Array.replicate (fn.ntmps - vs.size) undef,defers := [] } w := by
  refine ⟨hs,fun t x hx => ?_,?_,trivial,fun id e => by cases e⟩
  ·obtain ⟨_,h2⟩ := get_argEnv args 0 t x hx
   simp only [Nat.sub_zero] at h2
   obtain ⟨v,e1,e2⟩ := hv.get h2
   have hlt : t < vs.size := (Array.getElem?_eq_some_iff.1 e1).1
   refine ⟨by simp; omega,?_⟩
   rw [Array.getD_eq_getD_getElem?,Array.getElem?_append_left hlt,e1]
   exact e2
  ·have := hv.1
   simp; omega
 have := h G w _ hnow
 refine wpIn_mono this ?_
 rintro e a' w' ⟨G',env',s',n',x',q'⟩
 have fin : (∃ x s2,aResults P fn.results env' s' = some x ∧ Less s2 s' ∧ K x s2) → LeavesInM Fence.wide 0 P fn a'.tmps (Gave G s w K) a'.defers .returning w' := by
  rintro ⟨x,s2,hx,hl,hk⟩
  refine leaves_marks a'.defers s' w' n'.sim n'.defs fun w2 hsh => ?_
  obtain ⟨v,hv2,hV2⟩ := aResults_V (P := P) n'.sim hsh.cell n'.env hx
  have hs' := n'.sim
  refine ⟨v,hv2,v,G',x,s2,rfl,hV2,⟨?_,?_,?_,?_,?_,?_⟩,⟨x'.le,hsh.os.trans x'.os,hsh.tape.trans x'.tape,hsh.output.trans x'.output,by rw [hsh.size]; exact x'.size,?_,x'.immNew,x'.ownNew,?_,Nat.le_trans x'.cnt hl.2,?_,x'.stay,by rw [hsh.drawn]; exact x'.drawn⟩,hk⟩
  ·intro b o u hi; rw [hsh.cell]; exact hs'.imm b o u hi
  ·intro id b hg
   obtain ⟨hg',hne⟩ := hl.1 id b hg
   rcases hs'.heap id b hg' with ⟨r,o,e1,e2,e3⟩ | e
   case inr => exact .inr e
   refine .inl ⟨r,o,e1,?_,e3⟩
   rcases hsh.heap r.block with e | ⟨⟨y,q1⟩,_,_⟩
   ·rw [e]; exact e2
   ·rw [e2] at q1; cases q1
    cases e3
    exact absurd rfl hne
  ·intro id id' b b' r r' h1 h2; exact hs'.apart id id' b b' r r' (hl.1 _ _ h1).1 (hl.1 _ _ h2).1
  ·intro id b r o hg; exact hs'.clear id b r o (hl.1 _ _ hg).1
  ·intro id hid; exact hs'.fresh id (Nat.le_trans hl.2 hid)
  ·intro id b hg; exact Nat.lt_of_lt_of_le (hs'.lt id b (hl.1 id b hg).1) hl.2
  ·intro b hb hno
   rcases hsh.heap b with e | ⟨_,_,id,r,q1,q2,q3⟩
   ·rw [e]; exact x'.keep b hb hno
   ·exfalso
    rcases x'.ownNew id r q2 with h | h | h
    ·rcases x'.ids id _ q1 with ⟨b0,hb0⟩ | hge
     ·exact hno ⟨id,b0,r,hb0,h,q3⟩
     ·rw [hs.fresh id hge] at h; cases h
    ·omega
    ·rw [q3] at h; exact hno h
  ·intro id b hg; exact x'.ids id b (hl.1 _ _ hg).1
  ·intro id hid; exact absurd hid (hdfr id)
 cases e with
 | normal => exact fin q'
 | ret => exact fin q'
 | exit id => exact q'.elim
 | goto l => exact q'.elim
 | panic ch => exact q'.elim
 | outgrown => exact q'.elim
end
end Go.Am
end
section
namespace Go.Am
open Go.RowKit
mutual
def AV.clean : AV → Bool
 | .mp _ _ _ => false
 | .ms _ _ _ => false
 | .mc _ _ _ _ => false
 | .yld _ => false
 | .sl _ l => cleanL l
 | .agg l => cleanL l
 | .tup l => cleanL l
 | .fn _ l => cleanL l
 | .ip l => cleanL l
 | _ => true
def cleanL : List AV → Bool
 | [] => true
 | x :: r => x.clean && cleanL r
end
theorem cleanL_iff {l : List AV} : cleanL l = true ↔ ∀ x ∈ l,x.clean = true := by
 induction l with
 | nil => simp [cleanL]
 | cons x r ih => simp [cleanL,ih]
theorem clean_cells {x : AV} (h : x.clean = true) : ∀ y ∈ x.cells,y.clean = true := by
 intro y hy
 cases x <;> simp only [AV.cells,List.mem_singleton] at hy <;> first
  | (subst hy; exact h)
  | (simp only [AV.clean] at h; exact cleanL_iff.1 h y hy)
theorem V.clean {G G' : Ghost} (hi : ∀ b o v,G.imm b o = some v → G'.imm b o = some v) {x : AV} {v : Value} (h : V G x v) : x.clean = true → V G' x v := by
 induction h with
 | any v => exact fun _ => .any v
 | bool b => exact fun _ => .bool b
 | int k n => exact fun _ => .int k n
 | str s => exact fun _ => .str s
 | nilp => exact fun _ => .nilp
 | nilf => exact fun _ => .nilf
 | slnil full base cap hf hb => exact fun _ => .slnil full base cap hf hb
 | sl full elems b off esz cap val hcap hfull hesz hsc himm _ ih =>
  intro hc
  refine .sl full elems b off esz cap val hcap hfull hesz hsc (fun k hk => hi _ _ _ (himm k hk)) fun k x hx => ih k x hx ?_
  have hm := List.mem_of_getElem? hx
  rw [flat,List.mem_flatMap] at hm
  obtain ⟨y,hy,hx'⟩ := hm
  simp only [AV.clean] at hc
  exact clean_cells (cleanL_iff.1 hc y hy) x hx'
 | ip cells b off val himm _ ih =>
  intro hc
  simp only [AV.clean] at hc
  exact .ip cells b off val (fun k hk => hi _ _ _ (himm k hk)) fun k x hx => ih k x hx (cleanL_iff.1 hc x (List.mem_of_getElem? hx))
 | mp id el off r h => intro hc; cases hc
 | ms id start len cap r addr h hle hin ha => intro hc; cases hc
 | msnil id start cap base h => intro hc; cases hc
 | mc id start len cap r addr h hle hin ha => intro hc; cases hc
 | mcnil id start base => intro hc; cases hc
 | fn f caps vs hlen _ ih =>
  intro hc
  simp only [AV.clean] at hc
  exact .fn f caps vs hlen fun i x y hx hy => ih i x y hx hy (cleanL_iff.1 hc x (List.mem_of_getElem? hx))
 | yld id r h => intro hc; cases hc
 | agg cs vs hlen _ ih =>
  intro hc
  simp only [AV.clean] at hc
  exact .agg cs vs hlen fun i x y hx hy => ih i x y hx hy (cleanL_iff.1 hc x (List.mem_of_getElem? hx))
 | tup cs vs hlen _ ih =>
  intro hc
  simp only [AV.clean] at hc
  exact .tup cs vs hlen fun i x y hx hy => ih i x y hx hy (cleanL_iff.1 hc x (List.mem_of_getElem? hx))
section
variable {P : Program} {G : Ghost} {s : St} {w : World}
def St.nil : St := ⟨[],0⟩
def APure (P : Program) (f : FuncId) (args : List AV) (x : AV) : Prop := ∀ s,ACalls P f args s fun y s' => y = x ∧ s' = s
theorem apure {f : FuncId} {args : List AV} {x : AV} (ha : cleanL args = true) (hx : x.clean = true) (h : ACalls P f args St.nil fun y _ => y = x) : APure P f args x := fun s G w vs hs hv => by
 let G0 : Ghost := { imm := G.imm,own := fun _ => none }
 have hs0 : Sim G0 St.nil w := ⟨hs.imm,fun id b hg => by simp [St.nil,egetN,egetC] at hg,fun id _ b _ _ _ hg => by simp [St.nil,egetN,egetC] at hg,fun id b _ _ hg => by simp [St.nil,egetN,egetC] at hg,fun _ _ => rfl,fun id b hg => by simp [St.nil,egetN,egetC] at hg⟩
 have hv0 : VL G0 args vs := ⟨hv.1,fun i p q hp hq => V.clean (G := G) (G' := G0) (fun b o u (h : G.imm b o = some u) => (h : G0.imm b o = some u)) (hv.2 i p q hp hq) (cleanL_iff.1 ha p (List.mem_of_getElem? hp))⟩
 refine (h G0 w vs hs0 hv0).mono ?_
 rintro e w' ⟨v,G',y,s',rfl,hV,hS,hE,rfl⟩
 let G1 : Ghost := { imm := G'.imm,own := G.own }
 have hle : GLe G G1 := ⟨fun b o v hi => hE.le.imm b o v hi,fun _ _ h => h⟩
 have no0 : ∀ b,¬ Owned G0 St.nil b := fun b ⟨id,blk,r,hg,_⟩ => by simp [St.nil,egetN,egetC] at hg
 refine ⟨v,G1,y,s,rfl,V.clean (G := G') (G' := G1) (fun b o u (h : G'.imm b o = some u) => (h : G1.imm b o = some u)) hV hx,⟨hS.imm,fun id b hg => ?_,hs.apart,fun id b r o hg ho => ?_,hs.fresh,hs.lt⟩,
  ⟨hle,hE.os,hE.tape,hE.output,hE.size,fun b hb _ => hE.keep b hb (no0 b),fun b o v hi => ?_,fun _ _ h => .inl h,fun id b hg => .inl ⟨b,hg⟩,Nat.le_refl _,fun _ h => h,fun _ _ h => h,hE.drawn⟩,rfl,rfl⟩
 ·rcases hs.heap id b hg with ⟨r,o,e1,e2,e3⟩ | e
  ·exact .inl ⟨r,o,e1,by rw [hE.keep _ (hs.own_lt hg e1) (no0 _)]; exact e2,e3.mono hle⟩
  ·exact .inr e
 ·cases hi : G1.imm r.block o with
  | none => rfl
  | some u =>
   rcases hE.immNew _ _ _ hi with h | h | h
   ·rw [show G.imm r.block o = none from hs.clear id b r o hg ho] at h; cases h
   ·have := hs.own_lt hg ho; omega
   ·exact absurd h (no0 _)
 ·rcases hE.immNew _ _ _ hi with h | h | h
  ·exact .inl h
  ·exact .inr (.inl h)
  ·exact absurd h (no0 _)
def Turn (s : St) (x : AV) (s' : St) (x' : AV) : Prop := ∀ G w v,Sim G s w → V G x v → ∃ G',Sim G' s' w ∧ Ext G s w G' s' w ∧ V G' x' v
theorem ACalls.turn {f : FuncId} {args : List AV} {Q : AV → St → Prop} (h : ACalls P f args s fun x s' => ∃ s2 x2,Turn s' x s2 x2 ∧ Q x2 s2) : ACalls P f args s Q := fun G w vs hs hv => by
 refine (h G w vs hs hv).mono ?_
 rintro e w' ⟨v,G',x,s',rfl,hV,hS,hE,s2,x2,ht,hq⟩
 obtain ⟨G2,h1,h2,h3⟩ := ht G' w' v hS hV
 exact ⟨v,G2,x2,s2,rfl,h3,h1,hE.trans hs h2,hq⟩
theorem Turn.refl (s : St) (x : AV) : Turn s x s x := fun G w v hs hv => ⟨G,hs,.refl _ _ _,hv⟩
theorem freeze_ms (hs : Sim G s w) {id start len esz : Nat} {elems : List AV} (hg : eget s.heap id = some (.cells esz elems)) (hl : start + len ≤ elems.length) :
  ∃ G',Sim G' ⟨edel s.heap id,s.cnt⟩ w ∧ Ext G s w G' ⟨edel s.heap id,s.cnt⟩ w ∧ ∀ start len v,start + len ≤ elems.length → V G (.ms id start len) v → V G' (.sl false ((elems.drop start).take len)) v := by
 rcases hs.heap id _ hg with ⟨r,o,e1,e2,e3⟩ | ⟨e1,sz,_,e2⟩
 case inr =>
  cases e2
  have hd : ∀ i b,eget (edel s.heap id) i = some b → eget s.heap i = some b := fun i b hi => by
   rw [get_del] at hi
   split at hi
   ·cases hi
   ·exact hi
  refine ⟨G,hs.drop hd (Nat.le_refl _),Ext.drop hd (Nat.le_refl _) fun i hi => ?_,fun start len v hl hv => ?_⟩
  ·rw [get_del,if_neg (fun e => by subst e; rw [hg] at hi; cases hi)]; exact hi
  ·cases hv with
   | ms _ _ _ cap r' addr ho hle hin2 haddr => rw [e1] at ho; cases ho
   | msnil _ _ cap base hc =>
    simp only [List.take_zero]
    exact .slnil _ _ _ (fun e => by cases e) (fun _ => hc)
 cases e3 with
 | cells _ _ cs ty hcs hesz h0 hel hsc hin hV =>
  subst hesz
  obtain ⟨q1,q2⟩ := hs.freeze hg e1 e2
  refine ⟨_,q1,q2,fun start len v hl hv => ?_⟩
  cases hv with
  | msnil _ _ cap base hc =>
   simp only [List.take_zero]
   exact .slnil _ _ _ (fun e => by cases e) (fun _ => hc)
  | ms _ _ _ cap r' addr ho hle hin2 haddr =>
   rw [e1] at ho; cases ho
   have hlen : ((elems.drop start).take len).length = len := by simp; omega
   have hmem : ∀ y ∈ (elems.drop start).take len,y ∈ elems := fun y hy => List.mem_of_mem_drop (List.mem_of_mem_take hy)
   by_cases hn : len = 0
   ·subst hn
    simp only [List.take_zero]
    exact .slnil _ _ _ (fun e => by cases e) (fun e => by cases e)
   ·rw [haddr (by omega)]
    have key := V.sl (G := G.addImm r.block cs) false ((elems.drop start).take len) r.block (r.base + start * r.esz) r.esz cap (fun k => cs.getD (r.base + start * r.esz + k) undef) (by omega) (by simp)
     (fun y hy => hel y (hmem y hy)) (fun y hy => hsc y (by
      rw [flat,List.mem_flatMap] at hy ⊢
      obtain ⟨z,hz,hy⟩ := hy
      exact ⟨z,hmem z hz,hy⟩)) (fun k hk => by
      rw [hlen] at hk
      have h1 : (start + len) * r.esz ≤ elems.length * r.esz := Nat.mul_le_mul_right _ hl
      rw [Nat.add_mul] at h1
      have hlt : r.base + start * r.esz + k < cs.size := by omega
      simp [Ghost.addImm,hlt]) (fun k y hy => by
      have hk := flat_take (n := start + len) (l := start) hel h0 (k := k) (x := y) (by
       rw [show (elems.take (start + len)).drop start = (elems.drop start).take len from by rw [List.drop_take]; congr 1; omega]
       exact hy)
      obtain ⟨u,p1,p2⟩ := hV _ y hk
      rw [Array.getD_eq_getD_getElem?,Nat.add_assoc,p1]
      exact p2.mono q2.le)
    rw [hlen] at key
    exact key
def frz0 : AV → St → AV × St
 | .ms id start len,s => match eget s.heap id with
  | some (.cells _ elems) => if start + len ≤ elems.length then (.sl false ((elems.drop start).take len),⟨edel s.heap id,s.cnt⟩) else (.ms id start len,s)
  | _ => (.ms id start len,s)
 | x,s => (x,s)
def frzL (f : AV → St → AV × St) : List AV → St → List AV × St
 | [],s => ([],s)
 | x :: r,s => ((f x s).1 :: (frzL f r (f x s).2).1,(frzL f r (f x s).2).2)
def frz1 : AV → St → AV × St
 | .agg l,s => (.agg (frzL frz0 l s).1,(frzL frz0 l s).2)
 | x,s => frz0 x s
def frz : AV → St → AV × St
 | .tup l,s => (.tup (frzL frz1 l s).1,(frzL frz1 l s).2)
 | x,s => frz1 x s
theorem frz0_turn (s : St) (x : AV) : Turn s x (frz0 x s).2 (frz0 x s).1 := by
 unfold frz0
 split
 ·rename_i id start len
  split
  ·rename_i esz elems hg
   split
   ·rename_i hl
    intro G w v hs hv
    obtain ⟨G',h1,h2,h3⟩ := freeze_ms hs hg hl
    exact ⟨G',h1,h2,h3 _ _ v hl hv⟩
   ·exact .refl _ _
  ·exact .refl _ _
 ·exact .refl _ _
theorem frzL_turn {f : AV → St → AV × St} (hf : ∀ s x,Turn s x (f x s).2 (f x s).1) : ∀ (l : List AV) (s : St) (G : Ghost) (w : World) (vs : List Value),Sim G s w → l.length = vs.length →
  (∀ (i : Nat) x y,l[i]? = some x → vs[i]? = some y → V G x y) → ∃ G',Sim G' (frzL f l s).2 w ∧ Ext G s w G' (frzL f l s).2 w ∧ (frzL f l s).1.length = vs.length ∧
   ∀ (i : Nat) x y,(frzL f l s).1[i]? = some x → vs[i]? = some y → V G' x y
 | [],s,G,w,vs,hs,hl,hV => ⟨G,hs,.refl _ _ _,hl,by simp [frzL]⟩
 | x :: r,s,G,w,vs,hs,hl,hV => by
  cases vs with
  | nil => simp at hl
  | cons v vs =>
   obtain ⟨G1,a1,a2,a3⟩ := hf s x G w v hs (hV 0 x v rfl rfl)
   obtain ⟨G2,b1,b2,b3,b4⟩ := frzL_turn hf r _ G1 w vs a1 (by simpa using hl) fun i p q hp hq => (hV (i + 1) p q (by simpa using hp) (by simpa using hq)).mono a2.le
   refine ⟨G2,b1,a2.trans hs b2,by simpa [frzL] using b3,fun i p q hp hq => ?_⟩
   cases i with
   | zero => simp [frzL] at hp hq; subst hp; subst hq; exact a3.mono b2.le
   | succ i => exact b4 i p q (by simpa [frzL] using hp) (by simpa using hq)
theorem frz1_turn (s : St) (x : AV) : Turn s x (frz1 x s).2 (frz1 x s).1 := by
 unfold frz1
 split
 ·rename_i l
  intro G w v hs hv
  cases hv with
  | agg _ vs hlen hh =>
   obtain ⟨G',a,b,c,d⟩ := frzL_turn frz0_turn l s G w vs.toList hs (by simpa using hlen) fun i p q hp hq => hh i p q hp (by simpa using hq)
   exact ⟨G',a,b,.agg _ vs (by simpa using c) fun i p q hp hq => d i p q hp (by simpa using hq)⟩
 ·exact frz0_turn s _
theorem frz_turn (s : St) (x : AV) : Turn s x (frz x s).2 (frz x s).1 := by
 unfold frz
 split
 ·rename_i l
  intro G w v hs hv
  cases hv with
  | tup _ vs hlen hh =>
   obtain ⟨G',a,b,c,d⟩ := frzL_turn frz1_turn l s G w vs.toList hs (by simpa using hlen) fun i p q hp hq => hh i p q hp (by simpa using hq)
   exact ⟨G',a,b,.tup _ vs (by simpa using c) fun i p q hp hq => d i p q hp (by simpa using hq)⟩
 ·exact frz1_turn s _
theorem ACalls.frz {f : FuncId} {args : List AV} {Q : AV → St → Prop} (h : ACalls P f args s fun x s' => Q (frz x s').1 (frz x s').2) : ACalls P f args s Q :=
 ACalls.turn (h.mono fun x s' hq => ⟨_,_,frz_turn s' x,hq⟩)
end
end Go.Am
end
section
namespace Go.Am
open Go.RowKit
def seqR : Code → Code
 | .seq _ b => b
 | _ => .skip
structure Ins where
 dst : Option Nat
 op : Op
 guard : Option (Nat × Bool)
def insOf (ops : List Oper) (o : Oper) : Ins := ⟨o.dst,o.op,match o.guard with
 | none => none
 | some (j,want) => match (ops[j]?).bind (·.dst) with
  | some d => some (d,want)
  | none => some (0,want)⟩
def ins (ops : List Oper) : List Ins := ops.map (insOf ops)
def guardsOk (ops : List Oper) : Bool := ops.all fun o => match o.guard with
 | none => true
 | some (j,_) => ((ops[j]?).bind (·.dst)).isSome
def dstsOk (N : Nat) (ops : List Oper) : Bool := ops.all fun o => okDst N o.dst
def gws (g : Option (Nat × Bool)) (env : Env) (A B : Prop) : Prop := match g with
 | none => A
 | some (d,want) => match eget env d with
  | some (.bool b) => (b = want → A) ∧ (b = !want → B)
  | some (.tup []) => B
  | _ => False
def ows (P : Program) (op : Op) (K : AV → St → Prop) (env : Env) (s : St) : Prop :=
 match callOf op with
 | some (f,args) => match oper env f,opers env args with
  | some (.fn g caps),some l => enters P g = true ∧ ACalls P g (l ++ caps) s K
  | some (.yld id),some l => AYield P id l s K
  | _,_ => False
 | none => match aop P op env s with
  | some (v,s') => K v s'
  | none => False
def rws (P : Program) (K : Env → St → Prop) : List Ins → Env → St → Prop
 | [],env,s => K env s
 | i :: r,env,s => gws i.guard env (ows P i.op (fun v s' => rws P K r (eput i.dst v env) s') env s) (rws P K r (eput i.dst (.tup []) env) s)
section
variable {P : Program} {N : Nat} {ρ : Option Nat} {Q : Exit → Env → St → Prop} {env : Env} {s : St}
theorem rwp_of_rws {ops : Array Oper} {K : Env → St → Prop} (hg : guardsOk ops.toList = true) : ∀ {l : List Oper} {env : Env} {s : St},(∀ o ∈ l,o ∈ ops.toList) → dstsOk N l = true →
  rws P K (l.map (insOf ops.toList)) env s → rwp P N ops K l env s
 | [],_,_,_,_,h => h
 | o :: r,env,s,hm,hd,h => by
  simp only [dstsOk,List.all_cons,Bool.and_eq_true] at hd
  have ih : ∀ {env : Env} {s : St},rws P K (r.map (insOf ops.toList)) env s → rwp P N ops K r env s := rwp_of_rws hg (fun o ho => hm o (by simp [ho])) hd.2
  refine ⟨hd.1,?_⟩
  simp only [List.map_cons,rws] at h
  have howp : ∀ {env : Env} {s : St},ows P o.op (fun v s' => rws P K (r.map (insOf ops.toList)) (eput o.dst v env) s') env s → owp P o (fun v s' => rwp P N ops K r (eput o.dst v env) s') env s := by
   intro env s h
   unfold ows at h
   unfold owp
   split at h
   ·rename_i f args hc
    simp only [hc]
    split at h
    ·rename_i g caps l h1 h2
     simp only [h1,h2]
     exact ⟨h.1,h.2.mono fun _ _ hk => ih hk⟩
    ·rename_i id l h1 h2
     simp only [h1,h2]
     exact h.mono fun _ _ hk => ih hk
    ·cases h
   ·rename_i hc
    simp only [hc]
    split at h
    ·rename_i v s' hx
     simp only [hx]
     exact ih h
    ·cases h
  have hgo := (List.all_eq_true.1 hg) o (hm o (by simp))
  unfold gwp
  unfold insOf gws at h
  cases hq : o.guard with
  | none => simp only [hq] at h ⊢; exact howp h
  | some jw =>
   obtain ⟨j,want⟩ := jw
   simp only [hq] at h hgo ⊢
   obtain ⟨d,hd'⟩ := Option.isSome_iff_exists.1 hgo
   rw [show ops[j]? = ops.toList[j]? from by simp]
   rw [hd'] at h ⊢
   simp only at h ⊢
   split at h
   ·rename_i b hb
    simp only [hb]
    exact ⟨fun e => howp (h.1 e),fun e => ih (h.2 e)⟩
   ·rename_i hb
    simp only [hb]
    exact ih h
   ·cases h
theorem awp_reg {id : Nat} {ops : Array Oper} {K : Env → St → Prop} (l : List Oper) (hl : ops.toList = l) (hg : guardsOk l = true) (hd : dstsOk N l = true) (h : rws P (fun env s => Q .normal env s) (ins l) env s) :
  AWp P N ρ (.region id ops false) Q env s := by
 subst hl
 exact awp_region (rwp_of_rws hg (fun _ h => h) hd h)
def look (env : Env) : List Nat → Option (List AV)
 | [] => some []
 | k :: r => match eget env k,look env r with
  | some x,some l => some (x :: l)
  | _,_ => none
def zipE : List Nat → List AV → Env
 | k :: r,x :: l => (k,x) :: zipE r l
 | _,_ => []
theorem look_get : ∀ {ks : List Nat} {l : List AV} {env : Env},look env ks = some l → ∀ t x,eget (zipE ks l) t = some x → eget env t = some x
 | [],l,env,h,t,x,hx => by simp [look] at h; subst h; simp [zipE,egetN,egetC] at hx
 | k :: r,l,env,h,t,x,hx => by
  simp only [look] at h
  split at h
  ·rename_i y l' h1 h2
   cases h
   simp only [zipE,egetN,egetC] at hx
   split at hx
   ·rename_i e; subst e; cases hx; exact h1
   ·exact look_get h2 t x hx
  ·cases h
structure LeS (s' s : St) : Prop where
 heap : ∀ id b,eget s'.heap id = some b → eget s.heap id = some b
 cnt : s.cnt ≤ s'.cnt
 dfr : ∀ id,eget s.heap id = some .dfr → eget s'.heap id = some .dfr
theorem LeS.refl (s : St) : LeS s s := ⟨fun _ _ h => h,Nat.le_refl _,fun _ h => h⟩
theorem awp_look {c : Code} (ks : List Nat) {l : List AV} {s' : St} (he : look env ks = some l) (hs : LeS s' s) (h : AWp P N ρ c Q (zipE ks l) s') : AWp P N ρ c Q env s :=
 awp_weak h (look_get he) hs.heap hs.cnt hs.dfr
end
end Go.Am
end
section
namespace Go.Am
open Go.RowKit
inductive Step where
 | light (i : Nat) (note : Bool)
 | heavy (i : Nat) (chk : List Nat)
 | alloc (i : Nat)
 deriving DecidableEq
def Step.idx : Step → Nat
 | .light i _ => i
 | .heavy i _ => i
 | .alloc i => i
def Step.waits : Step → Bool
 | .light _ _ => false
 | _ => true
def Step.isAlloc : Step → Bool
 | .alloc _ => true
 | _ => false
def isLight : Op → Bool
 | .move _ | .assign _ | .pick _ _ _ | .build _ _ | .buildSlice _ _ _ | .load _ _ | .nilCheck _ | .binOp _ _ _ _ _ | .unOp _ _ _ | .convert _ _ _ | .makeFunc _ _ _ | .slice _ _ _ _ _
 | .fieldAddr _ _ _ | .field _ _ _ | .indexAddr _ _ _ | .index _ _ _ | .extract _ _ => true
 | .call ⟨.builtin .len,_,_⟩ | .call ⟨.builtin .min,_,_⟩ | .call ⟨.builtin .max,_,_⟩ => true
 | _ => false
def stateless : Op → Bool
 | .move _ | .assign _ | .pick _ _ _ | .build _ _ | .buildSlice _ _ _ | .nilCheck _ | .binOp _ _ _ _ _ | .unOp _ _ _ | .convert _ _ _ | .makeFunc _ _ _
 | .fieldAddr _ _ _ | .field _ _ _ | .index _ _ _ | .extract _ _ => true
 | .call ⟨.builtin .len,_,_⟩ | .call ⟨.builtin .min,_,_⟩ | .call ⟨.builtin .max,_,_⟩ => true
 | _ => false
theorem light_same {P : Program} {op : Op} {env : Env} {s s' : St} {x : AV} (hl : isLight op = true) (h : aop P op env s = some (x,s')) : s' = s := by
 cases op <;> simp only [isLight] at hl <;> first | (cases hl; done) | skip
 case call c =>
  obtain ⟨callee,args,ts⟩ := c
  cases callee with
  | value f => cases hl
  | invoke r m => cases hl
  | builtin b =>
   cases b <;> simp only [] at hl <;> first | (cases hl; done) | skip
   all_goals
    simp only [aop] at h
    split at h <;> first | exact (keep_some h).2 | cases h
 case makeFunc fn first caps =>
  cases fn <;> simp only [aop] at h <;> first | (cases h; done) | skip
  split at h
  ·split at h
   ·cases h; rfl
   ·cases h
  ·cases h
 all_goals
  simp only [aop] at h
  first
   | exact (keep_some h).2
   | (repeat' split at h) <;> first | exact (keep_some h).2 | (cases h; done) | (cases h; rfl)
theorem stateless_same {P : Program} {op : Op} {env : Env} {s s2 : St} {x : AV} (hl : stateless op = true) (h : aop P op env s = some (x,s)) : aop P op env s2 = some (x,s2) := by
 have k : ∀ {v : Option AV},ekeep v s = some (x,s) → ekeep v s2 = some (x,s2) := fun h => by rw [(keep_some h).1]; rfl
 cases op <;> simp only [stateless] at hl <;> first | (cases hl; done) | skip
 case call c =>
  obtain ⟨callee,args,ts⟩ := c
  cases callee with
  | value f => cases hl
  | invoke r m => cases hl
  | builtin b =>
   cases b <;> simp only [] at hl <;> first | (cases hl; done) | skip
   all_goals
    simp only [aop] at h ⊢
    split at h <;> first | exact k h | cases h
 case makeFunc fn first caps =>
  cases fn <;> simp only [aop] at h ⊢ <;> first | (cases h; done) | skip
  split at h
  ·rename_i h0
   rw [if_pos h0]
   split at h
   ·rename_i l hl
    cases h; simp only [hl]
   ·cases h
  ·cases h
 case pick c a b =>
  simp only [aop] at h ⊢
  split at h
  ·rename_i t ht
   cases t
   ·simp only [Bool.false_eq_true,if_false] at h ⊢; exact k h
   ·simp only [if_true] at h ⊢; exact k h
  ·cases h
 all_goals
  simp only [aop] at h ⊢
  first
   | exact k h
   | (split at h <;> first | exact k h | (cases h; rfl) | (cases h; done) | (split at h <;> first | exact k h | (cases h; rfl) | (cases h; done) | (split at h <;> first | exact k h | (cases h; rfl) | (cases h; done))))
def slotO : Operand → List Nat
 | .tmp t => [t]
 | _ => []
def slotsI (o : Oper) : List Nat := o.op.operands.toList.flatMap slotO
def envOf (ts : List Nat) (env : Env) : Env := ts.filterMap fun t => (eget env t).map fun x => (t,x)
theorem envOf_get {ts : List Nat} {env : Env} {t : Nat} {x : AV} (h : eget (envOf ts env) t = some x) : t ∈ ts ∧ eget env t = some x := by
 induction ts with
 | nil => simp [envOf,egetN,egetC] at h
 | cons k r ih =>
  simp only [envOf,List.filterMap_cons] at h
  cases hk : eget env k with
  | none =>
   simp only [hk,Option.map_none] at h
   obtain ⟨a,b⟩ := ih h
   exact ⟨by simp [a],b⟩
  | some y =>
   simp only [hk,Option.map_some,egetN,egetC] at h
   split at h
   ·rename_i e; subst e; cases h; exact ⟨by simp,hk⟩
   ·obtain ⟨a,b⟩ := ih h
    exact ⟨by simp [a],b⟩
def gslot (l : List Oper) (o : Oper) : List Nat := match o.guard with
 | none => []
 | some (j,_) => match (l[j]?).bind (·.dst) with
  | some d => [d]
  | none => []
def findT : List (Nat × Env × AV) → Nat → Option (Env × AV)
 | [],_ => none
 | (k,e,v) :: r,i => if k = i then some (e,v) else findT r i
def chkAll (P : Program) (l : List Oper) (tr : List (Nat × Env × AV)) (s : St) : List Nat → Prop
 | [] => True
 | j :: r => (match findT tr j,l[j]? with
  | some (e,v),some o => aop P o.op e s = some (v,s)
  | _,_ => True) ∧ chkAll P l tr s r
theorem chkAll_mem {P : Program} {l : List Oper} {tr : List (Nat × Env × AV)} {s : St} {e : Env} {v : AV} {o : Oper} : ∀ {c : List Nat},chkAll P l tr s c → ∀ j ∈ c,findT tr j = some (e,v) → l[j]? = some o → aop P o.op e s = some (v,s)
 | [],_,j,hj,_,_ => by cases hj
 | k :: r,⟨h1,h2⟩,j,hj,hf,hl => by
  rcases List.mem_cons.1 hj with rfl | hj
  ·simp only [hf,hl] at h1; exact h1
  ·exact chkAll_mem h2 j hj hf hl
def gdo (l : List Oper) (o : Oper) (env : Env) (A : Prop) (B : Prop) : Prop := gws (insOf l o).guard env A B
def dws (P : Program) (l : List Oper) (K : Env → St → Prop) : List Step → List (Nat × Env × AV) → Env → St → Prop
 | [],_,env,s => K env s
 | .light i note :: r,tr,env,s => match l[i]? with
  | some o => gdo l o env (match aop P o.op (envOf (slotsI o) env) s with
    | some (v,_) => dws P l K r (if note then (i,envOf (slotsI o) env,v) :: tr else tr) (eput o.dst v env) s
    | none => False) (dws P l K r tr (eput o.dst (.tup []) env) s)
  | none => False
 | .heavy i chk :: r,tr,env,s => match l[i]? with
  | some o => gdo l o env (ows P o.op (fun v s' => chkAll P l tr s' chk ∧ dws P l K r tr (eput o.dst v env) s') (envOf (slotsI o) env) s) (dws P l K r tr (eput o.dst (.tup []) env) s)
  | none => False
 | .alloc i :: r,tr,env,s => match l[i]? with
  | some o => match aop P o.op [] s with
   | some (v,s') => dws P l K r tr (eput o.dst v env) s'
   | none => False
  | none => False
def direct (o : Oper) : List Nat := (o.after.toList.filter (Region.binds .any)).map (·.on)
def preI (pre : List (List Nat)) (i : Nat) : List Nat := pre.getD i []
def dstI (l : List Oper) (i : Nat) : Option Nat := (l[i]?).bind (·.dst)
structure PlanOkX (X : Nat → Nat → Prop) (P : Program) (N : Nat) (l : List Oper) (pre : List (List Nat)) (steps : List Step) : Prop where
 edges : ∀ i ∈ List.range l.length,∀ o ∈ l[i]?,(∀ p ∈ direct o,p < i) ∧ ∀ p ∈ preI pre i,p < i ∧ (p ∈ direct o ∨ ∃ d ∈ direct o,p ∈ preI pre d)
 dsts : ∀ i ∈ List.range l.length,∀ j ∈ List.range l.length,∀ t ∈ dstI l i,dstI l j = some t → i = j
 dstN : dstsOk N l = true
 grd : guardsOk l = true
 reads : ∀ i ∈ List.range l.length,∀ o ∈ l[i]?,∀ t ∈ slotsI o ++ gslot l o,(∃ u ∈ preI pre i,dstI l u = some t) ∨ (∀ u ∈ List.range l.length,dstI l u = some t → i ∈ preI pre u)
 perm : (∀ st ∈ steps,st.idx < l.length) ∧ (∀ i ∈ List.range l.length,i ∈ steps.map Step.idx) ∧ (steps.map Step.idx).Nodup
 linear : ∀ k ∈ List.range steps.length,∀ st ∈ steps[k]?,∀ p ∈ preI pre st.idx,p ∈ (steps.take k).map Step.idx
 waits : ∀ k ∈ List.range steps.length,∀ st ∈ steps[k]?,st.waits = true → ∀ st2 ∈ steps.drop (k + 1),st2.isAlloc = true ∨ st.idx ∈ preI pre st2.idx ∨ X st.idx st2.idx
 kinds : ∀ st ∈ steps,∀ o ∈ l[st.idx]?,match st with
  | .light _ _ => isLight o.op = true
  | .heavy _ _ => True
  | .alloc _ => (match o.op with | .alloc t => (zeroT P t).isSome = true | _ => False) ∧ o.guard = none ∧ o.dst.isSome = true
 checks : ∀ k ∈ List.range steps.length,∀ st ∈ steps[k]?,match st with
  | .heavy h chk => ∀ st2 ∈ steps.take k,match st2 with
   | .light j note => ∀ o ∈ l[j]?,stateless o.op = true ∨ j ∈ preI pre h ∨ (note = true ∧ j ∈ chk)
   | _ => True
  | _ => True
abbrev PlanOk (P : Program) (N : Nat) (l : List Oper) (pre : List (List Nat)) (steps : List Step) : Prop := PlanOkX (fun _ _ => False) P N l pre steps
end Go.Am
end
section
namespace Go.Am
open Go.RowKit
section
variable {X : Nat → Nat → Prop} {P : Program} {N : Nat} {ρ : Option Nat} {l : List Oper} {pre : List (List Nat)} {steps : List Step} {K : Env → St → Prop} {env0 : Env} {G0 : Ghost} {s0 : St} {w0 : World}
def idxs (ds : List Step) : List Nat := ds.map Step.idx
def Rd (l : List Oper) (pre : List (List Nat)) (env env0 : Env) (i t : Nat) (x : AV) : Prop :=
 (∃ u,u ∈ preI pre i ∧ dstI l u = some t ∧ eget env t = some x) ∨ ((∀ u,u < l.length → dstI l u = some t → i ∈ preI pre u) ∧ eget env0 t = some x)
def gdec : AV → Bool → Option Bool
 | .bool c,want => some (c == want)
 | .tup [],_ => some false
 | _,_ => none
def GdB (l : List Oper) (pre : List (List Nat)) (env env0 : Env) (i : Nat) (o : Oper) (b : Bool) : Prop := match o.guard with
 | none => b = true
 | some (j,want) => ∃ d x,dstI l j = some d ∧ Rd l pre env env0 i d x ∧ gdec x want = some b
def Pend (P : Program) (l : List Oper) (pre : List (List Nat)) (steps : List Step) (env env0 : Env) (tr : List (Nat × Env × AV)) (s : St) (i : Nat) : Prop :=
 ∃ o,l[i]? = some o ∧ isLight o.op = true ∧
  ((GdB l pre env env0 i o true ∧ ∃ e v,(∀ t x,eget e t = some x → Rd l pre env env0 i t x) ∧ aop P o.op e s = some (v,s) ∧ (∀ t,o.dst = some t → eget env t = some v) ∧
    ((∃ st ∈ steps,st = .light i true) → findT tr i = some (e,v))) ∨
   (GdB l pre env env0 i o false ∧ ∀ t,o.dst = some t → eget env t = some (.tup [])))
def Early (P : Program) (l : List Oper) (G : Ghost) (s : St) (w0 w : World) (tmps : Array Value) (i : Nat) : Prop :=
 ∃ o t ty z b cs e,l[i]? = some o ∧ o.op = .alloc ty ∧ o.dst = some t ∧ zeroT P ty = some z ∧ tmps[t]? = some (.pointer (some ⟨b,0,none⟩)) ∧ w.heap[b]? = some (.cells cs e (0,0)) ∧
  VL G z.cells cs ∧ ¬ Owned G s b ∧ (∀ j,G.imm b j = none) ∧ w0.heap.size ≤ b
structure DInv (P : Program) (N : Nat) (ρ : Option Nat) (l : List Oper) (pre : List (List Nat)) (steps : List Step) (K : Env → St → Prop) (env0 : Env) (G0 : Ghost) (s0 : St) (w0 : World)
  (E : Nat → Prop) (ds σ : List Step) (tr : List (Nat × Env × AV)) (env : Env) (s : St) (a : Act) (w : World) (G : Ghost) : Prop where
 split : steps = ds ++ σ
 run : dws P l K σ tr env s
 sim : Sim G s w
 ext : Ext G0 s0 w0 G s w
 size : a.tmps.size = N
 defs : Defs G s a.defers
 known : Known G ρ
 lt : ∀ i,E i → i < l.length
 closed : ∀ i,E i → ∀ p ∈ preI pre i,E p
 sub : ∀ i,E i → i ∈ idxs ds ∨ (.alloc i ∈ σ ∧ Early P l G s w0 w a.tmps i)
 wait : ∀ st ∈ ds,st.waits = true → E st.idx
 s1 : ∀ t x,eget env0 t = some x → (∀ i,E i → dstI l i ≠ some t) → t < N ∧ V G x (a.tmps.getD t undef)
 s2 : ∀ i,E i → i ∈ idxs ds → ∀ t,dstI l i = some t → ∀ x,eget env t = some x → V G x (a.tmps.getD t undef)
 e0 : ∀ t,(∀ i ∈ idxs ds,dstI l i ≠ some t) → eget env t = eget env0 t
 pend : ∀ i ∈ idxs ds,¬ E i → Pend P l pre steps env env0 tr s i
 dist : ∀ i j,E i → E j → .alloc i ∈ σ → .alloc j ∈ σ → i ≠ j → ∀ ti tj,dstI l i = some ti → dstI l j = some tj → a.tmps[ti]? ≠ a.tmps[tj]?
theorem nodup_split {ds σ : List Step} (hp : PlanOkX X P N l pre steps) (h : steps = ds ++ σ) {st : Step} (hm : st ∈ σ) : st.idx ∉ idxs ds := by
 have := hp.perm.2.2
 rw [h,List.map_append,List.nodup_append] at this
 exact fun hi => this.2.2 st.idx hi st.idx (List.mem_map.2 ⟨st,hm,rfl⟩) rfl
theorem plan_dst (hp : PlanOkX X P N l pre steps) {i j t : Nat} (hi : dstI l i = some t) (hj : dstI l j = some t) : i = j := by
 have lt : ∀ {i},dstI l i = some t → i < l.length := fun {i} h => by
  unfold dstI at h
  cases hl : l[i]? with
  | none => simp [hl] at h
  | some o => exact (List.getElem?_eq_some_iff.1 hl).1
 exact hp.dsts i (List.mem_range.2 (lt hi)) j (List.mem_range.2 (lt hj)) t hi hj
theorem dst_lt {i t : Nat} (h : dstI l i = some t) : i < l.length := by
 unfold dstI at h
 cases hl : l[i]? with
 | none => simp [hl] at h
 | some o => exact (List.getElem?_eq_some_iff.1 hl).1
theorem dstI_some {i : Nat} {o : Oper} (h : l[i]? = some o) : dstI l i = o.dst := by simp [dstI,h]
theorem plan_linear (hp : PlanOkX X P N l pre steps) {ds σ : List Step} {st : Step} (h : steps = ds ++ st :: σ) : ∀ p ∈ preI pre st.idx,p ∈ idxs ds := by
 intro p hpp
 have hk : steps[ds.length]? = some st := by rw [h]; simp
 have := hp.linear ds.length (by rw [List.mem_range,h]; simp) st hk p hpp
 rw [h] at this
 simpa [idxs] using this
theorem plan_linear' (hp : PlanOkX X P N l pre steps) {ds σ : List Step} (h : steps = ds ++ σ) {i : Nat} (hi : i ∈ idxs ds) : ∀ p ∈ preI pre i,p ∈ idxs ds := by
 intro p hpp
 obtain ⟨st,hst,rfl⟩ := List.mem_map.1 hi
 obtain ⟨d1,d2,rfl⟩ := List.append_of_mem hst
 have := plan_linear hp (ds := d1) (σ := d2 ++ σ) (by rw [h]; simp) p hpp
 simp only [idxs,List.map_append,List.mem_append]
 exact .inl this
theorem read_ok (hp : PlanOkX X P N l pre steps) {E : Nat → Prop} {ds σ : List Step} {tr : List (Nat × Env × AV)} {env : Env} {s : St} {a : Act} {w : World} {G : Ghost}
  (h : DInv P N ρ l pre steps K env0 G0 s0 w0 E ds σ tr env s a w G) {i t : Nat} {x : AV} (hr : Rd l pre env env0 i t x) (hpre : ∀ p ∈ preI pre i,E p) (hd : ∀ p ∈ preI pre i,p ∈ idxs ds) (hni : ¬ E i) :
  t < N ∧ V G x (a.tmps.getD t undef) := by
 rcases hr with ⟨u,hu,hut,hx⟩ | ⟨hall,hx⟩
 ·refine ⟨?_,h.s2 u (hpre u hu) (hd u hu) t hut x hx⟩
  have hl := dst_lt hut
  have := hp.dstN
  simp only [dstsOk,List.all_eq_true] at this
  obtain ⟨o,ho⟩ : ∃ o,l[u]? = some o := ⟨_,List.getElem?_eq_getElem hl⟩
  have h2 := this o (List.mem_of_getElem? ho)
  rw [dstI_some ho] at hut
  rw [hut] at h2
  simpa [okDst] using h2
 ·refine h.s1 t x hx fun j hj hjt => ?_
  exact hni (h.closed j hj i (hall j (h.lt j hj) hjt))
theorem rd_of (hp : PlanOkX X P N l pre steps) {E : Nat → Prop} {ds σ : List Step} {tr : List (Nat × Env × AV)} {env : Env} {s : St} {a : Act} {w : World} {G : Ghost}
  (h : DInv P N ρ l pre steps K env0 G0 s0 w0 E ds σ tr env s a w G) {i t : Nat} {x : AV} {o : Oper} (ho : l[i]? = some o) (ht : t ∈ slotsI o ++ gslot l o) (hx : eget env t = some x) (hni : i ∉ idxs ds) : Rd l pre env env0 i t x := by
 have hil := (List.getElem?_eq_some_iff.1 ho).1
 rcases hp.reads i (List.mem_range.2 hil) o ho t ht with ⟨u,hu,hut⟩ | hall
 ·exact .inl ⟨u,hu,hut,hx⟩
 ·refine .inr ⟨fun u hu hut => hall u (List.mem_range.2 hu) hut,?_⟩
  rw [← h.e0 t fun j hj hjt => ?_]
  ·exact hx
  ·exact hni (plan_linear' hp h.split hj i (hall j (List.mem_range.2 (dst_lt hjt)) hjt))
theorem Rd.put (hp : PlanOkX X P N l pre steps) {ds : List Step} {env env' : Env} {i j t : Nat} {x : AV} (hne : ∀ t,dstI l i ≠ some t → eget env' t = eget env t) (hj : ∀ p ∈ preI pre j,p ∈ idxs ds) (hi : i ∉ idxs ds)
  (h : Rd l pre env env0 j t x) : Rd l pre env' env0 j t x := by
 rcases h with ⟨u,hu,hut,hx⟩ | h
 ·refine .inl ⟨u,hu,hut,?_⟩
  rw [hne t fun hit => hi (by rw [plan_dst hp hit hut]; exact hj u hu)]
  exact hx
 ·exact .inr h
theorem GdB.put (hp : PlanOkX X P N l pre steps) {ds : List Step} {env env' : Env} {i j : Nat} {o : Oper} {b : Bool} (hne : ∀ t,dstI l i ≠ some t → eget env' t = eget env t) (hj : ∀ p ∈ preI pre j,p ∈ idxs ds) (hi : i ∉ idxs ds)
  (h : GdB l pre env env0 j o b) : GdB l pre env' env0 j o b := by
 unfold GdB at h ⊢
 split at h
 ·exact h
 ·obtain ⟨d,c,h1,h2,h3⟩ := h
  exact ⟨d,c,h1,h2.put hp hne hj hi,h3⟩
theorem eget_eput (d : Option Nat) (v : AV) (env : Env) (t : Nat) : eget (eput d v env) t = if d = some t then some v else eget env t := by
 cases d with
 | none => simp [eput]
 | some d => simp only [eput,get_set,Option.some.injEq]
theorem light_more {op : Op} {e : Env} {s s' : St} {v : AV} (hl : isLight op = true) (hm : ∀ id b,eget s.heap id = some b → eget s'.heap id = some b) (h : aop P op e s = some (v,s)) : aop P op e s' = some (v,s') := by
 have k : ∀ {x y : Option AV},(∀ v,x = some v → y = some v) → ekeep x s = some (v,s) → ekeep y s' = some (v,s') := fun hxy h => by
  rw [hxy v (keep_some h).1]; rfl
 by_cases hst : stateless op = true
 ·exact stateless_same hst h
 ·cases op <;> simp only [isLight] at hl <;> first | (cases hl; done) | (exact absurd rfl hst) | skip
  case load t p =>
   simp only [aop] at h ⊢
   split at h
   ·refine k (fun v hv => ?_) h
    unfold aLoad cellsAt at hv ⊢
    rename_i q _
    cases q <;> simp only at hv ⊢ <;> first | exact hv | skip
    rename_i id el off _
    cases hg : eget s.heap id with
    | none => simp [hg] at hv
    | some b => rw [hm id b hg]; rw [hg] at hv; exact hv
   ·cases h
  case slice t x lo hi mx =>
   simp only [aop] at h ⊢
   split at h
   ·refine k (fun v hv => ?_) h
    unfold aSlice at hv ⊢
    rename_i q _
    cases q <;> simp only at hv ⊢ <;> first | exact hv | skip
    ·rename_i id start len _
     cases he : elemT P t with
     | none => simp [he] at hv
     | some e' =>
      rw [he] at hv
      simp only at hv ⊢
      cases hg : eget s.heap id with
      | none => simp [hg] at hv
      | some b => rw [hm id b hg]; rw [hg] at hv; exact hv
    ·rename_i id start len cap _
     cases he : elemT P t with
     | none => simp [he] at hv
     | some e' =>
      rw [he] at hv
      simp only at hv ⊢
      cases hg : eget s.heap id with
      | none => simp [hg] at hv
      | some b => rw [hm id b hg]; rw [hg] at hv; exact hv
   ·cases h
  case indexAddr t x i =>
   simp only [aop] at h ⊢
   split at h
   ·refine k (fun v hv => ?_) h
    unfold aIndexAddr at hv ⊢
    rename_i q j _ _
    cases j <;> simp only at hv ⊢ <;> first | exact hv | skip
    cases he : elemT P t with
    | none => rw [he] at hv; exact hv
    | some e' =>
     rw [he] at hv
     simp only at hv ⊢
     cases q <;> simp only at hv ⊢ <;> first | exact hv | skip
     rename_i id start len _
     cases hg : eget s.heap id with
     | none => simp [hg] at hv
     | some b => rw [hm id b hg]; rw [hg] at hv; exact hv
   ·cases h
  case call c =>
   obtain ⟨callee,args,ts⟩ := c
   cases callee with
   | value f => cases hl
   | invoke r m => cases hl
   | builtin b => cases b <;> simp only [] at hl <;> first | (cases hl; done) | (exact absurd rfl hst)
theorem new_id_more {s : St} {w : World} {G : Ghost} (hs : Sim G s w) (b : Blk) : ∀ id c,eget s.heap id = some c → eget ((s.cnt,b) :: s.heap) id = some c := fun id c hg => by
 simp only [egetN,egetC]
 rw [if_neg (fun e => by
  subst e
  have := hs.lt _ _ hg
  omega)]
 exact hg
theorem Early.later {s s' : St} {w w' : World} {G G' : Ghost} {tmps tmps' : Array Value} {i : Nat} (hs : Sim G s w) (h : Early P l G s w0 w tmps i) (hx : Ext G s w G' s' w')
  (ht : ∀ t,dstI l i = some t → tmps'[t]? = tmps[t]?) : Early P l G' s' w0 w' tmps' i := by
 obtain ⟨o,t,ty,z,b,cs,e,h1,h2,h3,h4,h5,h6,h8,h9,h10,h11⟩ := h
 have hb : b < w.heap.size := (Array.getElem?_eq_some_iff.1 h6).1
 refine ⟨o,t,ty,z,b,cs,e,h1,h2,h3,h4,?_,?_,h8.mono hx.le,?_,?_,h11⟩
 ·rw [ht t (by rw [dstI_some h1]; exact h3)]; exact h5
 ·rw [hx.keep b hb h9]; exact h6
 ·rintro ⟨id,blk,r,q1,q2,q3⟩
  rcases hx.ownNew id r q2 with h | h | h
  ·rcases hx.ids id blk q1 with ⟨b0,hb0⟩ | hge
   ·exact h9 ⟨id,b0,r,hb0,h,q3⟩
   ·rw [hs.fresh id hge] at h; cases h
  ·omega
  ·rw [q3] at h; exact h9 h
 ·intro j
  cases hj : G'.imm b j with
  | none => rfl
  | some u =>
   rcases hx.immNew b j u hj with h | h | h
   ·rw [h10 j] at h; cases h
   ·omega
   ·exact absurd h h9
theorem Sim.adopt {s : St} {w : World} {G : Ghost} (hs : Sim G s w) (hx : Ext G0 s0 w0 G s w) {b : Nat} {cs : Array Value} {e : TypeId} {z : AV} (hw : w.heap[b]? = some (.cells cs e (0,0))) (hv : VL G z.cells cs)
  (hno : ¬ Owned G s b) (hi : ∀ j,G.imm b j = none) (hb : w0.heap.size ≤ b) (h0 : 0 < z.cells.length) (hsc : z.cells.all AV.scalar = true) (hd : ∀ id,eget s0.heap id = some .dfr → id ≠ s.cnt) :
  Sim (G.put s.cnt ⟨b,0,z.cells.length,cs.size⟩) ⟨(s.cnt,.cells z.cells.length [z]) :: s.heap,s.cnt + 1⟩ w ∧
  Ext G0 s0 w0 (G.put s.cnt ⟨b,0,z.cells.length,cs.size⟩) ⟨(s.cnt,.cells z.cells.length [z]) :: s.heap,s.cnt + 1⟩ w ∧ GLe G (G.put s.cnt ⟨b,0,z.cells.length,cs.size⟩) := by
 have hle : GLe G (G.put s.cnt ⟨b,0,z.cells.length,cs.size⟩) := .put (hs.fresh _ (Nat.le_refl _))
 have gold : ∀ id bb,eget ((s.cnt,Blk.cells z.cells.length [z]) :: s.heap) id = some bb → (id = s.cnt ∧ bb = .cells z.cells.length [z]) ∨ (id ≠ s.cnt ∧ eget s.heap id = some bb) := fun id bb hg => by
  simp only [egetN,egetC] at hg
  split at hg
  ·cases hg; exact .inl ⟨by omega,rfl⟩
  ·exact .inr ⟨by omega,hg⟩
 have ownNe : ∀ id,id ≠ s.cnt → (G.put s.cnt ⟨b,0,z.cells.length,cs.size⟩).own id = G.own id := fun id hne => by simp [Ghost.put,hne]
 have ownEq : (G.put s.cnt ⟨b,0,z.cells.length,cs.size⟩).own s.cnt = some ⟨b,0,z.cells.length,cs.size⟩ := by simp [Ghost.put]
 refine ⟨⟨hs.imm,fun id bb hg => ?_,fun id id' b1 b2 r1 r2 h1 h2 o1 o2 hne => ?_,fun id bb r o hg ho => ?_,fun id hid => ?_,fun id bb hg => ?_⟩,
  ⟨hx.le.trans hle,hx.os,hx.tape,hx.output,hx.size,hx.keep,hx.immNew,fun id r h => ?_,fun id bb hg => ?_,Nat.le_trans hx.cnt (Nat.le_succ _),fun id hid => ?_,fun id hl ho => by have := hx.cnt; rw [ownNe id (by omega)]; exact hx.stay id hl ho,hx.drawn⟩,hle⟩
 ·rcases gold id bb hg with ⟨rfl,rfl⟩ | ⟨hne,hg⟩
  ·exact .inl ⟨_,_,ownEq,hw,.cells _ _ _ _ rfl rfl h0 (by simp) (by simpa [flat] using hsc) (by simp [hv.1]) fun k x hx => by
    simp [flat] at hx
    obtain ⟨u,e1,e2⟩ := hv.get hx
    exact ⟨u,by simpa using e1,e2.mono hle⟩⟩
  ·rcases hs.heap id bb hg with ⟨r,o,e1,e2,e3⟩ | ⟨e1,e2⟩
   ·exact .inl ⟨r,o,by rw [ownNe id hne]; exact e1,e2,e3.mono hle⟩
   ·exact .inr ⟨by rw [ownNe id hne]; exact e1,e2⟩
 ·rcases gold id b1 h1 with ⟨rfl,rfl⟩ | ⟨n1,g1⟩ <;> rcases gold id' b2 h2 with ⟨rfl,rfl⟩ | ⟨n2,g2⟩
  ·exact absurd rfl hne
  ·rw [ownEq] at o1; cases o1
   rw [ownNe _ n2] at o2
   exact fun e => hno ⟨id',b2,r2,g2,o2,e.symm⟩
  ·rw [ownEq] at o2; cases o2
   rw [ownNe _ n1] at o1
   exact fun e => hno ⟨id,b1,r1,g1,o1,e⟩
  ·rw [ownNe _ n1] at o1; rw [ownNe _ n2] at o2
   exact hs.apart id id' b1 b2 r1 r2 g1 g2 o1 o2 hne
 ·rcases gold id bb hg with ⟨rfl,rfl⟩ | ⟨n1,g1⟩
  ·rw [ownEq] at ho; cases ho; exact hi o
  ·rw [ownNe _ n1] at ho; exact hs.clear id bb r o g1 ho
 ·rw [ownNe id (by simp at hid; omega)]; exact hs.fresh id (by simp at hid; omega)
 ·show id < s.cnt + 1
  rcases gold id bb hg with ⟨rfl,rfl⟩ | ⟨_,g⟩
  ·omega
  ·have := hs.lt id bb g; omega
 ·by_cases hid : id = s.cnt
  ·subst hid; rw [ownEq] at h; cases h; exact .inr (.inl hb)
  ·rw [ownNe id hid] at h; exact hx.ownNew id r h
 ·rcases gold id bb hg with ⟨rfl,rfl⟩ | ⟨_,g⟩
  ·exact .inr hx.cnt
  ·exact hx.ids id bb g
 ·simp only [egetN,egetC]
  rw [if_neg (fun e => hd id hid e.symm)]
  exact hx.dfr id hid
theorem step_idx_eq (hp : PlanOkX X P N l pre steps) {st st2 : Step} (h1 : st ∈ steps) (h2 : st2 ∈ steps) (h : st.idx = st2.idx) : st = st2 := by
 obtain ⟨i,hi,rfl⟩ := List.getElem_of_mem h1
 obtain ⟨j,hj,rfl⟩ := List.getElem_of_mem h2
 have hn := hp.perm.2.2
 rw [List.nodup_iff_pairwise_ne] at hn
 have hinj : i = j := by
  have h' : (steps.map Step.idx)[i]? = (steps.map Step.idx)[j]? := by simp [hi,hj,h]
  exact (List.getElem?_inj (by simpa using hi) (by rw [List.nodup_iff_pairwise_ne]; exact hn)).1 h'
 subst hinj; rfl
theorem adv (hp : PlanOkX X P N l pre steps) (h0 : Sim G0 s0 w0) : ∀ (σ : List Step) {E : Nat → Prop} {ds : List Step} {tr : List (Nat × Env × AV)} {env : Env} {s : St} {a : Act} {w : World} {G : Ghost},
  DInv P N ρ l pre steps K env0 G0 s0 w0 E ds σ tr env s a w G →
  ∃ ds' σ' tr' env' s' G',DInv P N ρ l pre steps K env0 G0 s0 w0 E ds' σ' tr' env' s' a w G' ∧ ∀ st r,σ' = st :: r → st.waits = true ∧ ¬ E st.idx
 | [],E,ds,tr,env,s,a,w,G,h => ⟨ds,[],tr,env,s,G,h,fun _ _ e => by cases e⟩
 | st :: r,E,ds,tr,env,s,a,w,G,h => by
  have hmem : st ∈ steps := by rw [h.split]; simp
  have hlin := plan_linear hp h.split
  have hnd : st.idx ∉ idxs ds := nodup_split hp h.split (by simp)
  have hrun := h.run
  have hlt := hp.perm.1 st hmem
  obtain ⟨o,ho⟩ : ∃ o,l[st.idx]? = some o := ⟨_,List.getElem?_eq_getElem hlt⟩
  have hdst := dstI_some ho
  have hsplit' : steps = (ds ++ [st]) ++ r := by rw [h.split]; simp
  have hix : ∀ j,j ∈ idxs (ds ++ [st]) ↔ j ∈ idxs ds ∨ j = st.idx := fun j => by simp [idxs]
  cases st with
  | light i note =>
   simp only [Step.idx] at *
   simp only [dws,ho] at hrun
   have hlight : isLight o.op = true := hp.kinds _ hmem o ho
   have hnE : ¬ E i := fun hE => by
    rcases h.sub i hE with hi | ⟨hi,_⟩
    ·exact hnd hi
    ·have := step_idx_eq hp (st := .alloc i) (st2 := .light i note) (by rw [h.split]; simp only [List.mem_append]; exact .inr hi) hmem rfl
     cases this
   -- the new environment,and what is pending
   have go : ∀ (env' : Env) (tr' : List (Nat × Env × AV)),(∀ t,dstI l i ≠ some t → eget env' t = eget env t) → (∀ j,j ≠ i → findT tr' j = findT tr j) → dws P l K r tr' env' s →
     Pend P l pre steps env' env0 tr' s i → ∃ ds' σ' tr' env' s' G',DInv P N ρ l pre steps K env0 G0 s0 w0 E ds' σ' tr' env' s' a w G' ∧ ∀ st r,σ' = st :: r → st.waits = true ∧ ¬ E st.idx := by
    intro env' tr' hne htr hrun' hpi
    refine adv hp h0 r (ds := ds ++ [.light i note]) (tr := tr') (env := env') (s := s) (G := G) ⟨hsplit',hrun',h.sim,h.ext,h.size,h.defs,h.known,h.lt,h.closed,fun j hj => ?_,fun st2 hst hw => ?_,h.s1,fun j hj hjd t ht x hx => ?_,fun t ht => ?_,fun j hj hjE => ?_,fun i1 j1 h1 h2 h3 h4 => h.dist i1 j1 h1 h2 (by simp [h3]) (by simp [h4])⟩
    ·rcases h.sub j hj with hd | ⟨hd,he⟩
     ·exact .inl ((hix j).2 (.inl hd))
     ·rcases List.mem_cons.1 hd with hd | hd
      ·cases hd
      ·exact .inr ⟨hd,he⟩
    ·rcases List.mem_append.1 hst with hst | hst
     ·exact h.wait st2 hst hw
     ·simp at hst; subst hst; cases hw
    ·rcases (hix j).1 hjd with hjd | rfl
     ·rw [hne t fun hit => hnE (by rw [plan_dst hp hit ht]; exact hj)] at hx
      exact h.s2 j hj hjd t ht x hx
     ·exact absurd hj hnE
    ·rw [hne t fun hit => ht i ((hix i).2 (.inr rfl)) hit]
     exact h.e0 t fun j hj => ht j ((hix j).2 (.inl hj))
    ·rcases (hix j).1 hj with hjd | rfl
     ·obtain ⟨oj,q1,q2,q3⟩ := h.pend j hjd hjE
      have hpj : ∀ p ∈ preI pre j,p ∈ idxs ds := plan_linear' hp h.split hjd
      have hij : j ≠ i := fun e => hnd (e ▸ hjd)
      have hdj : ∀ t,oj.dst = some t → eget env' t = eget env t := fun t ht => hne t fun hit => hij (plan_dst hp (by rw [dstI_some q1]; exact ht) hit)
      refine ⟨oj,q1,q2,?_⟩
      rcases q3 with ⟨g,e,v,p1,p2,p3,p4⟩ | ⟨g,p1⟩
      ·exact .inl ⟨g.put hp hne hpj hnd,e,v,fun t x hx => (p1 t x hx).put hp hne hpj hnd,p2,fun t ht => by rw [hdj t ht]; exact p3 t ht,fun hst => by rw [htr j hij]; exact p4 hst⟩
      ·exact .inr ⟨g.put hp hne hpj hnd,fun t ht => by rw [hdj t ht]; exact p1 t ht⟩
     ·exact hpi
   -- carried out,or not
   have exec : (match aop P o.op (envOf (slotsI o) env) s with
     | some (v,_) => dws P l K r (if note then (i,envOf (slotsI o) env,v) :: tr else tr) (eput o.dst v env) s
     | none => False) → GdB l pre (eput o.dst .any env) env0 i o true → ∃ ds' σ' tr' env' s' G',DInv P N ρ l pre steps K env0 G0 s0 w0 E ds' σ' tr' env' s' a w G' ∧ ∀ st r,σ' = st :: r → st.waits = true ∧ ¬ E st.idx := by
    intro hx hg
    split at hx
    case h_2 => cases hx
    rename_i v s1 hv
    have hs1 := light_same hlight hv
    subst hs1
    have hne : ∀ t,dstI l i ≠ some t → eget (eput o.dst v env) t = eget env t := fun t ht => by rw [eget_eput,if_neg (by rw [← hdst]; exact ht)]
    have hne' : ∀ t,dstI l i ≠ some t → eget (eput o.dst v env) t = eget (eput o.dst .any env) t := fun t ht => by rw [hne t ht,eget_eput,if_neg (by rw [← hdst]; exact ht)]
    refine go _ _ hne (fun j hj => ?_) hx ⟨o,ho,hlight,.inl ⟨hg.put hp hne' hlin hnd,envOf (slotsI o) env,v,fun t x hx => ?_,hv,fun t ht => by rw [eget_eput,if_pos ht],fun hst => ?_⟩⟩
    ·cases note
     ·rfl
     ·simp only [if_true,findT]; rw [if_neg (fun e => hj e.symm)]
    ·obtain ⟨q1,q2⟩ := envOf_get hx
     exact (rd_of hp h ho (by simp [q1]) q2 hnd).put hp hne hlin hnd
    ·obtain ⟨st,hst,rfl⟩ := hst
     have := step_idx_eq hp hst hmem rfl
     cases this
     simp [findT]
   have hins : (insOf l o).guard = match o.guard with
     | none => none
     | some (j,want) => match (l[j]?).bind (·.dst) with
      | some d => some (d,want)
      | none => some (0,want) := rfl
   unfold gdo at hrun
   rw [hins] at hrun
   cases hgd : o.guard with
   | none =>
    simp only [hgd,gws] at hrun
    exact exec hrun (by unfold GdB; rw [hgd])
   | some jw =>
    obtain ⟨j,want⟩ := jw
    have hgo := (List.all_eq_true.1 hp.grd) o (List.mem_of_getElem? ho)
    simp only [hgd] at hgo
    obtain ⟨d,hd⟩ := Option.isSome_iff_exists.1 hgo
    simp only [hgd,hd,gws] at hrun
    have hskip : ∀ x,eget env d = some x → gdec x want = some false → dws P l K r tr (eput o.dst (.tup []) env) s → ∃ ds' σ' tr' env' s' G',DInv P N ρ l pre steps K env0 G0 s0 w0 E ds' σ' tr' env' s' a w G' ∧ ∀ st r,σ' = st :: r → st.waits = true ∧ ¬ E st.idx := by
     intro x hx hgx hr2
     have hne : ∀ t,dstI l i ≠ some t → eget (eput o.dst (.tup []) env) t = eget env t := fun t ht => by rw [eget_eput,if_neg (by rw [← hdst]; exact ht)]
     refine go _ _ hne (fun _ _ => rfl) hr2 ⟨o,ho,hlight,.inr ⟨?_,fun t ht => by rw [eget_eput,if_pos ht]⟩⟩
     unfold GdB; rw [hgd]
     exact ⟨d,x,hd,(rd_of hp h ho (by simp [gslot,hgd,hd]) hx hnd).put hp hne hlin hnd,hgx⟩
    split at hrun
    case h_3 => cases hrun
    case h_2 => rename_i hb; exact hskip _ hb rfl hrun
    rename_i b hb
    have hrd : ∀ v,Rd l pre (eput o.dst v env) env0 i d (.bool b) := fun v =>
     (rd_of hp h ho (by simp [gslot,hgd,hd]) hb hnd).put hp (fun t ht => by rw [eget_eput,if_neg (by rw [← hdst]; exact ht)]) hlin hnd
    by_cases hbw : b = want
    ·exact exec (hrun.1 hbw) (by
      unfold GdB; rw [hgd]
      exact ⟨d,.bool b,hd,hrd _,by simp [hbw,gdec]⟩)
    ·exact hskip _ hb (by simp [gdec,hbw]) (hrun.2 (by cases b <;> cases want <;> simp_all))
  | heavy i chk =>
   by_cases hE : E i
   ·exfalso
    rcases h.sub i hE with hi | ⟨hi,_⟩
    ·exact hnd hi
    ·have := step_idx_eq hp (st := .alloc i) (st2 := .heavy i chk) (by rw [h.split]; simp only [List.mem_append]; exact .inr hi) hmem rfl
     cases this
   ·exact ⟨ds,_,tr,env,s,G,h,fun st r' e => by cases e; exact ⟨rfl,hE⟩⟩
  | alloc i =>
   by_cases hE : E i
   · -- it has been made already
    simp only [Step.idx] at *
    rcases h.sub i hE with hi | ⟨_,he⟩
    ·exact absurd hi hnd
    ·obtain ⟨o',t,ty,z,b,cs,e,h1,h2,h3,h4,h5,h6,h8,h9,h10,h11⟩ := he
     rw [ho] at h1; cases h1
     simp only [dws,ho,h2,aop,h4] at hrun
     unfold aNew at hrun
     split at hrun
     case h_2 => cases hrun
     rename_i v s1 hq
     split at hq
     case isFalse => cases hq
     rename_i hc
     cases hq
     obtain ⟨q1,q2,q3⟩ := h.sim.adopt h.ext h6 h8 h9 h10 h11 hc.1 hc.2 (fun id hid e => by
      subst e
      have h1 := h0.lt _ _ hid
      have h2 := h.ext.cnt
      omega)
     have hdt : dstI l i = some t := by rw [hdst]; exact h3
     have hne : ∀ t',dstI l i ≠ some t' → eget (eput o.dst (.mp s.cnt 0 0) env) t' = eget env t' := fun t' ht => by rw [eget_eput,if_neg (by rw [← hdst]; exact ht)]
     refine adv hp h0 r (ds := ds ++ [.alloc i]) ⟨hsplit',hrun,q1,q2,h.size,?_,h.known.le q3,h.lt,h.closed,fun j hj => ?_,fun st2 hst hw => ?_,fun t' x hx hn => ?_,fun j hj hjd t' ht x hx => ?_,fun t' ht => ?_,fun j hj hjE => ?_,fun i1 j1 h1 h2 h3 h4 => h.dist i1 j1 h1 h2 (by simp [h3]) (by simp [h4])⟩
     ·have : ∀ {dd : List Deferred},Defs G s dd → Defs (G.put s.cnt ⟨b,0,z.cells.length,cs.size⟩) ⟨(s.cnt,.cells z.cells.length [z]) :: s.heap,s.cnt + 1⟩ dd := by
       intro dd
       induction dd with
       | nil => intro _; trivial
       | cons d dd ih =>
        rintro ⟨⟨id,r',a1,a2,a3,a4⟩,hr⟩
        refine ⟨⟨id,r',?_,q3.own _ _ a2,a3,a4⟩,ih hr⟩
        simp only [egetN,egetC]
        rw [if_neg (fun e => by subst e; rw [h.sim.fresh _ (Nat.le_refl _)] at a2; cases a2)]
        exact a1
      exact this h.defs
     ·rcases h.sub j hj with hd | ⟨hd,he⟩
      ·exact .inl ((hix j).2 (.inl hd))
      ·rcases List.mem_cons.1 hd with hd | hd
       ·cases hd; exact .inl ((hix _).2 (.inr rfl))
       ·refine .inr ⟨hd,?_⟩
        obtain ⟨oj,tj,tyj,zj,bj,csj,ej,j1,j2,j3,j4,j5,j6,j8,j9,j10,j11⟩ := he
        refine ⟨oj,tj,tyj,zj,bj,csj,ej,j1,j2,j3,j4,j5,j6,j8.mono q3,?_,j10,j11⟩
        have hji : i ≠ j := fun e => by
         subst e
         exact nodup_split hp hsplit' hd ((hix _).2 (.inr rfl))
        rintro ⟨id,blk,r',g1,g2,g3⟩
        by_cases hid : id = s.cnt
        ·subst hid
         simp only [Ghost.put,if_true,Option.some.injEq] at g2
         subst g2
         simp only at g3
         subst g3
         exact h.dist i j hE hj (by simp) (by simp [hd]) hji t tj hdt (by rw [dstI_some j1]; exact j3) (by rw [h5,j5])
        ·simp only [Ghost.put,if_neg hid] at g2
         simp only [egetN,egetC] at g1
         rw [if_neg (fun e => hid e.symm)] at g1
         exact j9 ⟨id,blk,r',g1,g2,g3⟩
     ·rcases List.mem_append.1 hst with hst | hst
      ·exact h.wait st2 hst hw
      ·simp at hst; subst hst; exact hE
     ·obtain ⟨p1,p2⟩ := h.s1 t' x hx hn
      exact ⟨p1,p2.mono q3⟩
     ·rcases (hix j).1 hjd with hjd | rfl
      ·rw [hne t' fun hit => hnd (by rw [plan_dst hp hit ht]; exact hjd)] at hx
       exact (h.s2 j hj hjd t' ht x hx).mono q3
      ·rw [hdt] at ht; cases ht
       rw [eget_eput,if_pos h3] at hx
       cases hx
       rw [Array.getD_eq_getD_getElem?,h5]
       have := V.mp (G := G.put s.cnt ⟨b,0,z.cells.length,cs.size⟩) s.cnt 0 0 ⟨b,0,z.cells.length,cs.size⟩ (by simp [Ghost.put])
       simpa using this
     ·rw [hne t' fun hit => ht i ((hix i).2 (.inr rfl)) hit]
      exact h.e0 t' fun j hj => ht j ((hix j).2 (.inl hj))
     ·rcases (hix j).1 hj with hjd | rfl
      ·obtain ⟨oj,q4,q5,q6⟩ := h.pend j hjd hjE
       have hpj : ∀ p ∈ preI pre j,p ∈ idxs ds := plan_linear' hp h.split hjd
       have hij : j ≠ i := fun e => hnd (e ▸ hjd)
       have hdj : ∀ t,oj.dst = some t → eget (eput o.dst (.mp s.cnt 0 0) env) t = eget env t := fun t ht => hne t fun hit => hij (plan_dst hp (by rw [dstI_some q4]; exact ht) hit)
       refine ⟨oj,q4,q5,?_⟩
       rcases q6 with ⟨g,e',v,p1,p2,p3,p4⟩ | ⟨g,p1⟩
       ·exact .inl ⟨g.put hp hne hpj hnd,e',v,fun t x hx => (p1 t x hx).put hp hne hpj hnd,light_more q5 (new_id_more h.sim _) p2,fun t ht => by rw [hdj t ht]; exact p3 t ht,p4⟩
       ·exact .inr ⟨g.put hp hne hpj hnd,fun t ht => by rw [hdj t ht]; exact p1 t ht⟩
      ·exact absurd hE hjE
   ·exact ⟨ds,_,tr,env,s,G,h,fun st r' e => by cases e; exact ⟨rfl,hE⟩⟩
end
end Go.Am
end
section
namespace Go.Am
open Go.RowKit
section
variable {X : Nat → Nat → Prop} {P : Program} {N : Nat} {ρ : Option Nat} {l : List Oper} {pre : List (List Nat)} {steps : List Step} {K : Env → St → Prop} {env0 : Env} {G0 : Ghost} {s0 : St} {w0 : World}
theorem Sim.grow {s : St} {w : World} {G : Ghost} (h : Sim G s w) (o : Obj) : Sim G s (w.alloc o) ∧ Ext G s w G s (w.alloc o) := by
 refine ⟨⟨fun b i v hi => ?_,fun id b hg => ?_,h.apart,h.clear,h.fresh,h.lt⟩,⟨.refl G,rfl,rfl,rfl,by simp,fun b hb _ => Below.heap_alloc _ _ _ hb,fun _ _ _ h => .inl h,fun _ _ h => .inl h,fun _ _ h => .inl ⟨_,h⟩,Nat.le_refl _,fun _ h => h,fun _ _ h => h,Nat.le_refl _⟩⟩
 ·have hb := h.imm_lt hi
  rw [cell_push hb]; exact h.imm b i v hi
 ·rcases h.heap id b hg with ⟨r,o',e1,e2,e3⟩ | e
  ·exact .inl ⟨r,o',e1,by rw [Below.heap_alloc _ _ _ (h.own_lt hg e1)]; exact e2,e3⟩
  ·exact .inr e
theorem filt_lt {p q : Nat → Bool} : ∀ {l : List Nat},(∀ x ∈ l,q x = true → p x = true) → ∀ {i},i ∈ l → p i = true → q i = false → (l.filter q).length < (l.filter p).length
 | [],_,i,hi,_,_ => by cases hi
 | x :: r,h,i,hi,hp,hq => by
  have hle : ∀ {l : List Nat},(∀ x ∈ l,q x = true → p x = true) → (l.filter q).length ≤ (l.filter p).length := fun {l} h => by
   induction l with
   | nil => simp
   | cons y t ih =>
    have ih' := ih fun z hz => h z (by simp [hz])
    simp only [List.filter_cons]
    by_cases hy : q y = true
    ·rw [if_pos hy,if_pos (h y (by simp) hy)]; simpa using ih'
    ·rw [if_neg hy]
     split
     ·simp only [List.length_cons]; omega
     ·exact ih'
  simp only [List.filter_cons]
  rcases List.mem_cons.1 hi with rfl | hi
  ·rw [if_neg (by simp [hq]),if_pos hp,List.length_cons]
   have := hle (l := r) fun z hz => h z (by simp [hz])
   omega
  ·have ih := filt_lt (l := r) (fun z hz => h z (by simp [hz])) hi hp hq
   by_cases hx : q x = true
   ·rw [if_pos hx,if_pos (h x (by simp) hx)]; simpa using ih
   ·rw [if_neg hx]
    split
    ·simp only [List.length_cons]; omega
    ·exact ih
theorem ofValue_ne_any {v : Value} {x : AV} (h : ofValue v = some x) : x ≠ .any := by
 unfold ofValue at h
 split at h
 ·split at h
  ·cases h; simp
  ·cases h
 ·unfold ofCell at h
  split at h <;> cases h <;> simp
theorem zeroT_ne_any {t : Nat} {x : AV} (h : zeroT P t = some x) : x ≠ .any := by
 unfold zeroT at h
 split at h
 ·exact ofValue_ne_any h
 ·cases h
theorem guard_val {ops : Array Oper} (hl : ops.toList = l) {E : Nat → Prop} {ds σ : List Step} {tr : List (Nat × Env × AV)} {env : Env} {s : St} {a : Act} {w : World} {G : Ghost} (hp : PlanOkX X P N l pre steps)
  (h : DInv P N ρ l pre steps K env0 G0 s0 w0 E ds σ tr env s a w G) {i : Nat} {o : Oper} {b : Bool} (hg : GdB l pre env env0 i o b) (hpre : ∀ p ∈ preI pre i,E p) (hd : ∀ p ∈ preI pre i,p ∈ idxs ds) (hni : ¬ E i) :
  Region.wanted o (yielded ops a.tmps) = b := by
 unfold GdB at hg
 unfold Region.wanted
 split at hg
 ·rename_i hq; rw [hq]; exact hg.symm
 ·rename_i j want hq
  obtain ⟨d,x,h1,h2,h3⟩ := hg
  obtain ⟨q1,q2⟩ := read_ok hp h h2 hpre hd hni
  rw [hq]
  unfold gdec at h3
  have hyy : yielded ops a.tmps j = match a.tmps.getD d undef with
    | .bool b => some b
    | _ => none := by
   unfold yielded
   have : (ops[j]?).bind (·.dst) = some d := by
    rw [← h1]; unfold dstI; rw [← hl]; simp
   rw [this]
   simp only [Option.bind_some]
   have hlt : d < a.tmps.size := by rw [h.size]; exact q1
   rw [Array.getD_eq_getD_getElem?,Array.getElem?_eq_getElem hlt,Option.getD_some]
   generalize a.tmps[d] = v
   cases v <;> rfl
  generalize a.tmps.getD d undef = v at q2 hyy
  split at h3
  ·rename_i c want
   cases q2
   simp only at hyy
   simp only [hyy]
   cases h3
   cases c <;> cases want <;> rfl
  ·cases q2
   simp only at hyy
   simp only [hyy]
   cases h3
   rfl
  ·cases h3
theorem put_tmps {a : Act} {d : Option Nat} {v : Value} {t : Nat} (h : d ≠ some t) : (a.put d v).tmps.getD t undef = a.tmps.getD t undef ∧ (a.put d v).tmps[t]? = a.tmps[t]? := by
 cases d with
 | none => exact ⟨rfl,rfl⟩
 | some d =>
  have hne : d ≠ t := fun e => h (by rw [e])
  simp only [Act.put]
  refine ⟨?_,Array.getElem?_setIfInBounds_ne hne⟩
  rw [Array.getD_eq_getD_getElem?,Array.getElem?_setIfInBounds_ne hne,← Array.getD_eq_getD_getElem?]
theorem put_tmps_same {a : Act} {t : Nat} {v : Value} (h : t < a.tmps.size) : (a.put (some t) v).tmps.getD t undef = v ∧ (a.put (some t) v).tmps[t]? = some v := by
 simp [Act.put,Array.getD_eq_getD_getElem?,h]
theorem put_size (a : Act) (d : Option Nat) (v : Value) : (a.put d v).tmps.size = a.tmps.size := by cases d <;> simp [Act.put]
theorem put_defers' (a : Act) (d : Option Nat) (v : Value) : (a.put d v).defers = a.defers := by cases d <;> rfl
theorem done_light {E : Nat → Prop} {ds σ : List Step} {tr : List (Nat × Env × AV)} {env : Env} {s : St} {a : Act} {w w' : World} {G G' : Ghost} (hp : PlanOkX X P N l pre steps) (h0 : Sim G0 s0 w0)
  (h : DInv P N ρ l pre steps K env0 G0 s0 w0 E ds σ tr env s a w G) {i : Nat} {o : Oper} (ho : l[i]? = some o) (hi : i ∈ idxs ds) (hni : ¬ E i) (hpre : ∀ p ∈ preI pre i,E p) {v : Value}
  (hv : ∀ t,o.dst = some t → ∀ x,eget env t = some x → V G' x v) (hs : Sim G' s w') (hx : Ext G s w G' s w') {E' : Nat → Prop} (hE : ∀ j,E' j ↔ E j ∨ j = i) :
  DInv P N ρ l pre steps K env0 G0 s0 w0 E' ds σ tr env s (a.put o.dst v) w' G' := by
 have hdst := dstI_some ho
 refine ⟨h.split,h.run,hs,h.ext.trans h0 hx,by rw [put_size]; exact h.size,by rw [put_defers']; exact h.defs.ext hx,h.known.le hx.le,fun j hj => ?_,fun j hj p hpp => ?_,fun j hj => ?_,fun st hst hw => (hE _).2 (.inl (h.wait st hst hw)),fun t x hxx hn => ?_,fun j hj hjd t ht x hxx => ?_,h.e0,fun j hj hjE => ?_,fun i1 j1 h1 h2 h3 h4 hij t1 t2 d1 d2 => ?_⟩
 ·rcases (hE j).1 hj with hj | rfl
  ·exact h.lt j hj
  ·exact (List.getElem?_eq_some_iff.1 ho).1
 ·rcases (hE j).1 hj with hj | rfl
  ·exact (hE p).2 (.inl (h.closed j hj p hpp))
  ·exact (hE p).2 (.inl (hpre p hpp))
 ·rcases (hE j).1 hj with hj | rfl
  ·rcases h.sub j hj with hd | ⟨hd,he⟩
   ·exact .inl hd
   ·refine .inr ⟨hd,he.later h.sim hx fun t ht => (put_tmps fun e => ?_).2⟩
    have := plan_dst hp (by rw [hdst]; exact e) ht
    subst this; exact hni hj
  ·exact .inl hi
 ·have h1 : o.dst ≠ some t := fun e => hn i ((hE i).2 (.inr rfl)) (by rw [hdst]; exact e)
  rw [(put_tmps h1).1]
  obtain ⟨q1,q2⟩ := h.s1 t x hxx fun j hj => hn j ((hE j).2 (.inl hj))
  exact ⟨q1,q2.mono hx.le⟩
 ·rcases (hE j).1 hj with hj | rfl
  ·have h1 : o.dst ≠ some t := fun e => by
    have := plan_dst hp (by rw [hdst]; exact e) ht
    subst this; exact hni hj
   rw [(put_tmps h1).1]
   exact (h.s2 j hj hjd t ht x hxx).mono hx.le
  ·rw [hdst] at ht
   have hlt : t < a.tmps.size := by
    have h2 := (List.all_eq_true.1 hp.dstN) o (List.mem_of_getElem? ho)
    rw [ht] at h2
    rw [h.size]; simpa [okDst] using h2
   rw [ht,(put_tmps_same hlt).1]
   exact hv t ht x hxx
 ·exact h.pend j hj fun e => hjE ((hE j).2 (.inl e))
 ·have old : ∀ {k tk},E' k → Step.alloc k ∈ σ → dstI l k = some tk → E k ∧ (a.put o.dst v).tmps[tk]? = a.tmps[tk]? := fun {k tk} hk hkσ hkt => by
   rcases (hE k).1 hk with hk | rfl
   ·refine ⟨hk,(put_tmps fun e => ?_).2⟩
    have := plan_dst hp (by rw [hdst]; exact e) hkt
    subst this; exact hni hk
   ·exact absurd hi (nodup_split hp h.split hkσ)
  obtain ⟨e1,e2⟩ := old h1 h3 d1
  obtain ⟨e3,e4⟩ := old h2 h4 d2
  rw [e2,e4]
  exact h.dist i1 j1 e1 e3 h3 h4 hij t1 t2 d1 d2
theorem done_wait {E : Nat → Prop} {ds r : List Step} {st : Step} {tr : List (Nat × Env × AV)} {env : Env} {s s' : St} {a : Act} {w w' : World} {G G' : Ghost} (hp : PlanOkX X P N l pre steps) (h0 : Sim G0 s0 w0)
  (h : DInv P N ρ l pre steps K env0 G0 s0 w0 E ds (st :: r) tr env s a w G) {o : Oper} (ho : l[st.idx]? = some o) (hni : ¬ E st.idx) (hpre : ∀ p ∈ preI pre st.idx,E p) {v : Value} {env' : Env}
  (hne : ∀ t,o.dst ≠ some t → eget env' t = eget env t) (hv : ∀ t,o.dst = some t → ∀ x,eget env' t = some x → V G' x v) (hs : Sim G' s' w') (hx : Ext G s w G' s' w')
  (hrun : dws P l K r tr env' s') (hpend : ∀ j ∈ idxs ds,¬ E j → ∀ oj e v,l[j]? = some oj → isLight oj.op = true → aop P oj.op e s = some (v,s) → ((∃ st ∈ steps,st = .light j true) → findT tr j = some (e,v)) → j ∉ preI pre st.idx → aop P oj.op e s' = some (v,s'))
  {E' : Nat → Prop} (hE : ∀ j,E' j ↔ E j ∨ j = st.idx) :
  DInv P N ρ l pre steps K env0 G0 s0 w0 E' (ds ++ [st]) r tr env' s' (a.put o.dst v) w' G' := by
 have hdst := dstI_some ho
 have hnd : st.idx ∉ idxs ds := nodup_split hp h.split (by simp)
 have hix : ∀ j,j ∈ idxs (ds ++ [st]) ↔ j ∈ idxs ds ∨ j = st.idx := fun j => by simp [idxs]
 have hne' : ∀ t,dstI l st.idx ≠ some t → eget env' t = eget env t := fun t ht => hne t (by rw [← hdst]; exact ht)
 have hmem : st ∈ steps := by rw [h.split]; simp
 refine ⟨by rw [h.split]; simp,hrun,hs,h.ext.trans h0 hx,by rw [put_size]; exact h.size,by rw [put_defers']; exact h.defs.ext hx,h.known.le hx.le,fun j hj => ?_,fun j hj p hpp => ?_,fun j hj => ?_,fun st2 hst hw => ?_,fun t x hxx hn => ?_,fun j hj hjd t ht x hxx => ?_,fun t ht => ?_,fun j hj hjE => ?_,fun i1 j1 h1 h2 h3 h4 hij t1 t2 d1 d2 => ?_⟩
 ·rcases (hE j).1 hj with hj | rfl
  ·exact h.lt j hj
  ·exact (List.getElem?_eq_some_iff.1 ho).1
 ·rcases (hE j).1 hj with hj | rfl
  ·exact (hE p).2 (.inl (h.closed j hj p hpp))
  ·exact (hE p).2 (.inl (hpre p hpp))
 ·rcases (hE j).1 hj with hj | rfl
  ·rcases h.sub j hj with hd | ⟨hd,he⟩
   ·exact .inl ((hix j).2 (.inl hd))
   ·rcases List.mem_cons.1 hd with hd | hd
    ·exfalso; rw [← hd] at hni; exact hni hj
    ·refine .inr ⟨hd,he.later h.sim hx fun t ht => (put_tmps fun e => ?_).2⟩
     have := plan_dst hp (by rw [hdst]; exact e) ht
     subst this; exact hni hj
  ·exact .inl ((hix _).2 (.inr rfl))
 ·rcases List.mem_append.1 hst with hst | hst
  ·exact (hE _).2 (.inl (h.wait st2 hst hw))
  ·simp at hst; subst hst; exact (hE _).2 (.inr rfl)
 ·have h1 : o.dst ≠ some t := fun e => hn st.idx ((hE _).2 (.inr rfl)) (by rw [hdst]; exact e)
  rw [(put_tmps h1).1]
  obtain ⟨q1,q2⟩ := h.s1 t x hxx fun j hj => hn j ((hE j).2 (.inl hj))
  exact ⟨q1,q2.mono hx.le⟩
 ·rcases (hE j).1 hj with hj | rfl
  ·have h1 : o.dst ≠ some t := fun e => by
    have := plan_dst hp (by rw [hdst]; exact e) ht
    subst this; exact hni hj
   rw [(put_tmps h1).1]
   rw [hne t h1] at hxx
   rcases (hix j).1 hjd with hjd | rfl
   ·exact (h.s2 j hj hjd t ht x hxx).mono hx.le
   ·exact absurd hj hni
  ·rw [hdst] at ht
   have hlt : t < a.tmps.size := by
    have h2 := (List.all_eq_true.1 hp.dstN) o (List.mem_of_getElem? ho)
    rw [ht] at h2
    rw [h.size]; simpa [okDst] using h2
   rw [ht,(put_tmps_same hlt).1]
   exact hv t ht x hxx
 ·rw [hne' t fun hit => ht st.idx ((hix _).2 (.inr rfl)) hit]
  exact h.e0 t fun j hj => ht j ((hix j).2 (.inl hj))
 ·have hnE : ¬ E j := fun e => hjE ((hE j).2 (.inl e))
  rcases (hix j).1 hj with hjd | rfl
  ·obtain ⟨oj,q4,q5,q6⟩ := h.pend j hjd hnE
   have hpj : ∀ p ∈ preI pre j,p ∈ idxs ds := plan_linear' hp h.split hjd
   have hij : j ≠ st.idx := fun e => hnd (e ▸ hjd)
   have hdj : ∀ t,oj.dst = some t → eget env' t = eget env t := fun t ht => hne' t fun hit => hij (plan_dst hp (by rw [dstI_some q4]; exact ht) hit)
   have hjp : j ∉ preI pre st.idx := fun e => hnE (hpre j e)
   refine ⟨oj,q4,q5,?_⟩
   rcases q6 with ⟨g,e',v',p1,p2,p3,p4⟩ | ⟨g,p1⟩
   ·exact .inl ⟨g.put hp hne' hpj hnd,e',v',fun t x hx => (p1 t x hx).put hp hne' hpj hnd,hpend j hjd hnE oj e' v' q4 q5 p2 p4 hjp,fun t ht => by rw [hdj t ht]; exact p3 t ht,p4⟩
   ·exact .inr ⟨g.put hp hne' hpj hnd,fun t ht => by rw [hdj t ht]; exact p1 t ht⟩
  ·exact absurd ((hE _).2 (.inr rfl)) hjE
 ·have hsp : steps = (ds ++ [st]) ++ r := by rw [h.split]; simp
  have old : ∀ {k tk},E' k → Step.alloc k ∈ r → dstI l k = some tk → E k ∧ (a.put o.dst v).tmps[tk]? = a.tmps[tk]? := fun {k tk} hk hkσ hkt => by
   rcases (hE k).1 hk with hk | rfl
   ·refine ⟨hk,(put_tmps fun e => ?_).2⟩
    have := plan_dst hp (by rw [hdst]; exact e) hkt
    subst this; exact hni hk
   ·exact absurd ((hix _).2 (.inr rfl)) (nodup_split (st := .alloc st.idx) hp hsp hkσ)
  obtain ⟨e1,e2⟩ := old h1 h3 d1
  obtain ⟨e3,e4⟩ := old h2 h4 d2
  rw [e2,e4]
  exact h.dist i1 j1 e1 e3 (by simp [h3]) (by simp [h4]) hij t1 t2 d1 d2
theorem draw_head {ops : Array Oper} (hl : ops.toList = l) (hp : PlanOkX X P N l pre steps) (h0 : Sim G0 s0 w0) {Q : Exit → Env → St → Prop} (ro : Option Nat) {fuel : Nat} {listed : Array Bool} {ds r : List Step} {st : Step} {tr : List (Nat × Env × AV)} {env : Env} {s : St} {a : Act} {w : World} {G : Ghost}
  (h : DInv P N ρ l pre steps K env0 G0 s0 w0 (fun i => listed.getD i false = true) ds (st :: r) tr env s a w G) (hw : st.waits = true) {o : Oper} (ho : l[st.idx]? = some o) (hni : ¬ listed.getD st.idx false = true) (hpre : ∀ p ∈ preI pre st.idx,listed.getD p false = true) (hin : st.idx ∉ idxs ds)
  (hE : ∀ j,(listed.setIfInBounds st.idx true).getD j false = true ↔ listed.getD j false = true ∨ j = st.idx)
  (go : ∀ {ds' σ' : List Step} {tr' : List (Nat × Env × AV)} {env' : Env} {s' : St} {a' : Act} {w' : World} {G' : Ghost},
    DInv P N ρ l pre steps K env0 G0 s0 w0 (fun j => (listed.setIfInBounds st.idx true).getD j false = true) ds' σ' tr' env' s' a' w' G' → wpAnyIn (fen ro) 0 P .any ops (After G0 N ρ s0 w0 Q) fuel (listed.setIfInBounds st.idx true) a' w') :
  if Region.wanted o (yielded ops a.tmps) = true then o.wpIn (fen ro) 0 P a w (wpAnyIn (fen ro) 0 P .any ops (After G0 N ρ s0 w0 Q) fuel (listed.setIfInBounds st.idx true)) (After G0 N ρ s0 w0 Q) else (∀ f,o.about P w a.eval = some f → (fen ro).fn f) ∧ wpAnyIn (fen ro) 0 P .any ops (After G0 N ρ s0 w0 Q) fuel (listed.setIfInBounds st.idx true) (a.put o.dst undef) w := by
 have hdst := dstI_some ho
 have hmem : st ∈ steps := by rw [h.split]; simp
 have hpd : ∀ p ∈ preI pre st.idx,p ∈ idxs ds := plan_linear hp h.split
 have hrun := h.run
 have hrd : ∀ t ∈ slotsI o ++ gslot l o,∀ x,eget env t = some x → t < N ∧ V G x (a.tmps.getD t undef) := fun t ht x hx => read_ok hp h (rd_of hp h ho ht hx hin) hpre hpd hni
 cases st with
 | light _ _ => cases hw
 | heavy i chk =>
  simp only [Step.idx] at *
  simp only [dws,ho] at hrun
  unfold gdo at hrun
  have hnow : Now G N ρ (envOf (slotsI o) env) s a w := ⟨h.sim,fun t x hx => by
   obtain ⟨m1,m2⟩ := envOf_get hx
   obtain ⟨r1,r2⟩ := hrd t (by simp [m1]) x m2
   exact ⟨by rw [h.size]; exact r1,r2⟩,h.size,h.defs,h.known⟩
  have exec : ows P o.op (fun v s' => chkAll P l tr s' chk ∧ dws P l K r tr (eput o.dst v env) s') (envOf (slotsI o) env) s → o.wpIn (fen ro) 0 P a w (wpAnyIn (fen ro) 0 P .any ops (After G0 N ρ s0 w0 Q) fuel (listed.setIfInBounds i true)) (After G0 N ρ s0 w0 Q) := by
   intro hows
   refine owp_sound (K := fun v s' => chkAll P l tr s' chk ∧ dws P l K r tr (eput o.dst v env) s') hows hnow ro ?_
   intro v G' x s' w' hv hs hx ⟨hc,hr⟩
   refine go (done_wait (st := .heavy i chk) hp h0 h ho hni hpre (env' := eput o.dst x env) (fun t ht => by rw [eget_eput,if_neg ht]) (fun t ht y hy => by rw [eget_eput,if_pos ht] at hy; cases hy; exact hv) hs hx hr (fun j hj hjE oj e u q1 q2 q3 q4 q5 => ?_) hE)
   by_cases hst : stateless oj.op = true
   ·exact stateless_same hst q3
   ·have hk : steps[ds.length]? = some (.heavy i chk) := by rw [h.split]; simp
    have hck := hp.checks ds.length (by rw [List.mem_range,h.split]; simp) _ hk
    simp only at hck
    obtain ⟨stj,hstj,rfl⟩ := List.mem_map.1 hj
    have hstj' : stj ∈ steps.take ds.length := by rw [h.split]; simpa using hstj
    have h3 := hck stj hstj'
    cases stj with
    | light j note =>
     simp only at h3
     rcases h3 oj q1 with h4 | h4 | ⟨rfl,h4⟩
     ·exact absurd h4 hst
     ·exact absurd h4 q5
     ·exact chkAll_mem hc j h4 (q4 ⟨_,List.mem_of_mem_take hstj',rfl⟩) q1
    | heavy j c => exact absurd (h.wait _ hstj rfl) hjE
    | alloc j => exact absurd (h.wait _ hstj rfl) hjE
  have hinsg : (insOf l o).guard = match o.guard with
    | none => none
    | some (j,want) => match (l[j]?).bind (·.dst) with
     | some d => some (d,want)
     | none => some (0,want) := rfl
  rw [hinsg] at hrun
  cases hgd : o.guard with
  | none =>
   simp only [hgd,gws] at hrun
   rw [if_pos (by simp [Region.wanted,hgd])]
   exact exec hrun
  | some jw =>
   obtain ⟨j,want⟩ := jw
   have hgo := (List.all_eq_true.1 hp.grd) o (List.mem_of_getElem? ho)
   simp only [hgd] at hgo
   obtain ⟨d,hd⟩ := Option.isSome_iff_exists.1 hgo
   simp only [hgd,hd,gws] at hrun
   have hskip : ∀ x,eget env d = some x → gdec x want = some false → dws P l K r tr (eput o.dst (.tup []) env) s → _ := fun x hx hgx hr2 => by
    have hgb : GdB l pre env env0 i o false := by
     unfold GdB; rw [hgd]
     exact ⟨d,x,hd,rd_of hp h ho (by simp [gslot,hgd,hd]) hx hin,hgx⟩
    have hwant := guard_val hl hp h hgb hpre hpd hni
    exact (by
     rw [if_neg (by rw [hwant]; simp)]
     exact ⟨fun _ _ => trivial,go (done_wait (st := .heavy i chk) hp h0 h ho hni hpre (env' := eput o.dst (.tup []) env) (fun t ht => by rw [eget_eput,if_neg ht]) (fun t ht y hy => by rw [eget_eput,if_pos ht] at hy; cases hy; exact .tup [] #[] rfl (by simp)) h.sim (.refl _ _ _) hr2 (fun j hj hjE oj e u q1 q2 q3 q4 q5 => q3) hE)⟩ : if Region.wanted o (yielded ops a.tmps) = true then o.wpIn (fen ro) 0 P a w (wpAnyIn (fen ro) 0 P .any ops (After G0 N ρ s0 w0 Q) fuel (listed.setIfInBounds i true)) (After G0 N ρ s0 w0 Q) else (∀ f,o.about P w a.eval = some f → (fen ro).fn f) ∧ wpAnyIn (fen ro) 0 P .any ops (After G0 N ρ s0 w0 Q) fuel (listed.setIfInBounds i true) (a.put o.dst undef) w)
   split at hrun
   case h_3 => cases hrun
   case h_2 => rename_i hb; exact hskip _ hb rfl hrun
   rename_i b hb
   have hgb : GdB l pre env env0 i o (b == want) := by
    unfold GdB; rw [hgd]
    exact ⟨d,.bool b,hd,rd_of hp h ho (by simp [gslot,hgd,hd]) hb hin,rfl⟩
   have hwant := guard_val hl hp h hgb hpre hpd hni
   by_cases hbw : b = want
   ·rw [if_pos (by rw [hwant]; simp [hbw])]
    exact exec (hrun.1 hbw)
   ·exact hskip _ hb (by simp [gdec,hbw]) (hrun.2 (by cases b <;> cases want <;> simp_all))
 | alloc i =>
  simp only [Step.idx] at *
  simp only [dws,ho] at hrun
  obtain ⟨k1,k2,k3⟩ := hp.kinds _ hmem o ho
  rw [if_pos (by simp [Region.wanted,k2])]
  split at hrun
  case h_2 => cases hrun
  rename_i v s' hv
  obtain ⟨nx,u,G',w',e1,e2,e3,e4,e5⟩ := aop_sound (a := a) h.sim (env := []) (fun t x hx => by simp [egetN,egetC] at hx) o hv
  have hmore : ∀ id b,eget s.heap id = some b → eget s'.heap id = some b := by
   cases hop : o.op with
   | alloc t =>
    rw [hop] at hv
    simp only [aop] at hv
    split at hv
    ·unfold aNew at hv
     split at hv
     ·cases hv; exact new_id_more h.sim _
     ·cases hv
    ·cases hv
   | _ => rw [hop] at k1; exact k1.elim
  refine ⟨fun _ _ => trivial,?_⟩
  rw [Oper.semAt_eq _ _ _ (fun c => by intro e; rw [e] at k1; exact k1.elim),e1]
  have hd' := done_wait (st := .alloc i) hp h0 h ho hni hpre (v := u) (env' := eput o.dst v env) (fun t ht => by rw [eget_eput,if_neg ht]) (fun t ht y hy => by rw [eget_eput,if_pos ht] at hy; cases hy; exact e3) e4 e5 hrun
   (fun j hj hjE oj e u q1 q2 q3 q4 q5 => light_more q2 hmore q3) hE
  rcases e2 with rfl | ⟨rfl,rfl⟩
  ·rw [Oper.uponIn_value]; exact go hd'
  ·rw [Oper.uponIn_skip]; exact go hd'
theorem draw_rdy {ops : Array Oper} (hl : ops.toList = l) : ∀ (listed : Array Bool) (i : Nat),listed.size = l.length → i ∈ Region.ready .any ops listed → i < l.length ∧ listed.getD i false = false ∧ ∀ o,l[i]? = some o → ∀ p ∈ direct o,listed.getD p false = true := by
 have hlen : ops.size = l.length := by rw [← hl]; simp
 intro listed i hsz hi
 unfold Region.ready at hi
 rw [List.mem_filter,List.mem_range] at hi
 obtain ⟨h1,h2⟩ := hi
 rw [hlen] at h1
 simp only [Bool.and_eq_true,Bool.not_eq_true'] at h2
 refine ⟨h1,?_,fun o ho p hpp => ?_⟩
 ·have := h2.1
  have hlt : i < listed.size := by omega
  simp only [Array.getD_eq_getD_getElem?,Array.getElem?_eq_getElem hlt,Option.getD_some] at this ⊢
  exact this
 ·have h3 := h2.2
  have hoi : ops[i]? = some o := by rw [← ho,← hl]; simp
  rw [hoi] at h3
  simp only [Option.map_some,Option.getD_some,Array.all_eq_true_iff_forall_mem,Bool.or_eq_true,Bool.not_eq_true'] at h3
  obtain ⟨e,he,rfl⟩ := List.mem_map.1 hpp
  obtain ⟨he1,he2⟩ := List.mem_filter.1 he
  rcases h3 e (by simpa using he1) with h | h
  ·rw [h] at he2; cases he2
  ·exact h
theorem draw_some {ops : Array Oper} (hl : ops.toList = l) (hp : PlanOkX X P N l pre steps) : ∀ (listed : Array Bool),listed.size = l.length → Region.ready .any ops listed = [] → ∀ i,i < l.length → listed.getD i false = true := by
 have hlen : ops.size = l.length := by rw [← hl]; simp
 intro listed hsz hr i
 induction i using Nat.strongRecOn with
 | _ i ih =>
  intro hi
  apply Classical.byContradiction
  intro hn
  have hmem : i ∈ Region.ready .any ops listed := by
   unfold Region.ready
   rw [List.mem_filter,List.mem_range]
   refine ⟨by omega,?_⟩
   obtain ⟨o,ho⟩ : ∃ o,l[i]? = some o := ⟨_,List.getElem?_eq_getElem hi⟩
   have hoi : ops[i]? = some o := by rw [← ho,← hl]; simp
   have hlt : i < listed.size := by omega
   simp only [Bool.and_eq_true,Bool.not_eq_true',hoi,Option.map_some,Option.getD_some,Array.all_eq_true_iff_forall_mem,Bool.or_eq_true]
   refine ⟨?_,fun e he => ?_⟩
   ·simp only [Array.getD_eq_getD_getElem?,Array.getElem?_eq_getElem hlt,Option.getD_some] at hn ⊢
    simpa using hn
   ·by_cases hb : Region.binds .any e = true
    ·right
     have hd : e.on ∈ direct o := List.mem_map.2 ⟨e,List.mem_filter.2 ⟨by simpa using he,hb⟩,rfl⟩
     have hlt2 := (hp.edges i (List.mem_range.2 hi) o ho).1 e.on hd
     exact ih e.on hlt2 (by omega)
    ·left; simpa using hb
  rw [hr] at hmem; cases hmem
theorem draw_main {ops : Array Oper} (hl : ops.toList = l) (hp : PlanOkX X P N l pre steps) (h0 : Sim G0 s0 w0) {Q : Exit → Env → St → Prop} (hQ : ∀ env s,K env s → Q .normal env s) (ro : Option Nat) :
  ∀ (fuel : Nat) (listed : Array Bool) (ds σ : List Step) (tr : List (Nat × Env × AV)) (env : Env) (s : St) (a : Act) (w : World) (G : Ghost),listed.size = l.length →
   ((List.range l.length).filter fun i => !listed.getD i false).length ≤ fuel →
   DInv P N ρ l pre steps K env0 G0 s0 w0 (fun i => listed.getD i false = true) ds σ tr env s a w G → (∀ st r,σ = st :: r → st.waits = true ∧ ¬ listed.getD st.idx false = true) → (∀ x y,X x y → listed.getD x false = true) →
   wpAnyIn (fen ro) 0 P .any ops (After G0 N ρ s0 w0 Q) fuel listed a w := by
 have hlen : ops.size = l.length := by rw [← hl]; simp
 -- nothing is ready: all is done
 have fin : ∀ (listed : Array Bool) (ds σ : List Step) (tr : List (Nat × Env × AV)) (env : Env) (s : St) (a : Act) (w : World) (G : Ghost),listed.size = l.length →
   DInv P N ρ l pre steps K env0 G0 s0 w0 (fun i => listed.getD i false = true) ds σ tr env s a w G → (∀ st r,σ = st :: r → st.waits = true ∧ ¬ listed.getD st.idx false = true) →
   (∀ i,i < l.length → listed.getD i false = true) → After G0 N ρ s0 w0 Q .normal a w := by
  intro listed ds σ tr env s a w G hsz h hn hall
  have hσ : σ = [] := by
   cases σ with
   | nil => rfl
   | cons st r =>
    exfalso
    exact (hn st r rfl).2 (hall _ (hp.perm.1 st (by rw [h.split]; simp)))
  subst hσ
  have hin : ∀ i,i < l.length → i ∈ idxs ds := fun i hi => by
   rcases h.sub i (hall i hi) with hd | ⟨hd,_⟩
   ·exact hd
   ·cases hd
  refine ⟨G,env,s,⟨h.sim,fun t x hx => ?_,h.size,h.defs,h.known⟩,h.ext,hQ _ _ h.run⟩
  by_cases hw : ∃ i,dstI l i = some t
  ·obtain ⟨i,hi⟩ := hw
   have hil := dst_lt hi
   refine ⟨?_,h.s2 i (hall i hil) (hin i hil) t hi x hx⟩
   obtain ⟨o,ho⟩ : ∃ o,l[i]? = some o := ⟨_,List.getElem?_eq_getElem hil⟩
   have h2 := (List.all_eq_true.1 hp.dstN) o (List.mem_of_getElem? ho)
   rw [dstI_some ho] at hi
   rw [hi] at h2
   rw [h.size]; simpa [okDst] using h2
  ·rw [h.e0 t fun i _ hi => hw ⟨i,hi⟩] at hx
   obtain ⟨q1,q2⟩ := h.s1 t x hx fun i _ hi => hw ⟨i,hi⟩
   exact ⟨by rw [h.size]; exact q1,q2⟩
 have rdy := draw_rdy hl
 have some_ready := draw_some hl hp
 intro fuel
 induction fuel with
 | zero =>
  intro listed ds σ tr env s a w G hsz hf h hn hX
  have hall : ∀ i,i < l.length → listed.getD i false = true := fun i hi => by
   apply Classical.byContradiction
   intro hq
   have : 0 < ((List.range l.length).filter fun i => !listed.getD i false).length := List.length_pos_of_mem (List.mem_filter.2 ⟨List.mem_range.2 hi,by simpa using hq⟩)
   omega
  refine ⟨?_,fin listed ds σ tr env s a w G hsz h hn hall⟩
  cases hr : Region.ready .any ops listed with
  | nil => rfl
  | cons i r =>
   obtain ⟨q1,q2,_⟩ := rdy listed i hsz (by rw [hr]; simp)
   rw [hall i q1] at q2; cases q2
 | succ fuel ih =>
  intro listed ds σ tr env s a w G hsz hf h hn hX
  refine ⟨fun hr => fin listed ds σ tr env s a w G hsz h hn (some_ready listed hsz hr),fun i hi => ?_⟩
  obtain ⟨hil,hnl,hdir⟩ := rdy listed i hsz hi
  obtain ⟨o,ho⟩ : ∃ o,l[i]? = some o := ⟨_,List.getElem?_eq_getElem hil⟩
  have hoi : ops[i]? = some o := by rw [← ho,← hl]; simp
  have hni : ¬ listed.getD i false = true := by rw [hnl]; simp
  have hpre : ∀ p ∈ preI pre i,listed.getD p false = true := fun p hpp => by
   obtain ⟨_,h2⟩ := hp.edges i (List.mem_range.2 hil) o ho
   rcases (h2 p hpp).2 with hd | ⟨d,hd,hpd⟩
   ·exact hdir o ho p hd
   ·exact h.closed d (hdir o ho d hd) p hpd
  have hsz' : (listed.setIfInBounds i true).size = l.length := by simpa using hsz
  have hlt : i < listed.size := by omega
  have hE : ∀ j,(listed.setIfInBounds i true).getD j false = true ↔ listed.getD j false = true ∨ j = i := fun j => by
   simp only [Array.getD_eq_getD_getElem?,Array.getElem?_setIfInBounds]
   by_cases hj : i = j
   ·subst hj; simp [hlt]
   ·rw [if_neg hj]
    constructor
    ·exact .inl
    ·rintro (h | h)
     ·exact h
     ·exact absurd h.symm hj
  have hf' : ((List.range l.length).filter fun j => !(listed.setIfInBounds i true).getD j false).length ≤ fuel := by
   have := filt_lt (p := fun j => !listed.getD j false) (q := fun j => !(listed.setIfInBounds i true).getD j false) (l := List.range l.length) (fun j _ hq => by
    simp only [Bool.not_eq_true'] at hq ⊢
    cases hb : listed.getD j false with
    | false => rfl
    | true => rw [(hE j).2 (.inl hb)] at hq; cases hq) (List.mem_range.2 hil) (by simp [hnl]) (by simp [(hE i).2 (.inr rfl)])
   omega
  -- on with the rest
  have go : ∀ {ds' σ' : List Step} {tr' : List (Nat × Env × AV)} {env' : Env} {s' : St} {a' : Act} {w' : World} {G' : Ghost},
    DInv P N ρ l pre steps K env0 G0 s0 w0 (fun j => (listed.setIfInBounds i true).getD j false = true) ds' σ' tr' env' s' a' w' G' → wpAnyIn (fen ro) 0 P .any ops (After G0 N ρ s0 w0 Q) fuel (listed.setIfInBounds i true) a' w' := by
   intro ds' σ' tr' env' s' a' w' G' h'
   obtain ⟨ds2,σ2,tr2,env2,s2,G2,h2,hn2⟩ := adv hp h0 σ' h'
   exact ih _ ds2 σ2 tr2 env2 s2 a' w' G2 hsz' hf' h2 hn2 fun x y hxy => (hE x).2 (.inl (hX x y hxy))
  simp only [wpOpIn,hoi]
  have hdst := dstI_some ho
  by_cases hin : i ∈ idxs ds
  · -- it was walked already
   have hpd : ∀ p ∈ preI pre i,p ∈ idxs ds := plan_linear' hp h.split hin
   obtain ⟨o',q1,hlight,q3⟩ := h.pend i hin hni
   rw [ho] at q1; cases q1
   rcases q3 with ⟨hg,e,v,p1,p2,p3,_⟩ | ⟨hg,p1⟩
   ·rw [if_pos (guard_val hl hp h hg hpre hpd hni)]
    have hve : VEnv G e a.tmps := fun t x hx => by
     obtain ⟨r1,r2⟩ := read_ok hp h (p1 t x hx) hpre hpd hni
     exact ⟨by rw [h.size]; exact r1,r2⟩
    obtain ⟨nx,u,G',w',e1,e2,e3,e4,e5⟩ := aop_sound h.sim hve o p2
    refine ⟨fun _ _ => trivial,?_⟩
    rw [Oper.semAt_eq _ _ _ (fun c => by intro e; rw [e] at hlight; simp [isLight] at hlight),e1]
    have hd' := done_light hp h0 h ho hin hni hpre (v := u) (fun t ht x hx => by rw [p3 t ht] at hx; cases hx; exact e3) e4 e5 hE
    rcases e2 with rfl | ⟨rfl,rfl⟩
    ·rw [Oper.uponIn_value]; exact go hd'
    ·rw [Oper.uponIn_skip]; exact go hd'
   ·rw [if_neg (by rw [guard_val hl hp h hg hpre hpd hni]; simp)]
    exact ⟨fun _ _ => trivial,go (done_light hp h0 h ho hin hni hpre (fun t ht x hx => by rw [p1 t ht] at hx; cases hx; exact .tup [] #[] rfl (by simp)) h.sim (.refl _ _ _) hE)⟩
  · -- it is waited for,or a variable ahead of its place
   have hins : i ∈ steps.map Step.idx := hp.perm.2.1 i (List.mem_range.2 hil)
   rw [h.split,List.map_append,List.mem_append] at hins
   rcases hins with hins | hins
   ·exact absurd hins hin
   ·cases σ with
    | nil => cases hins
    | cons st r =>
     obtain ⟨hw,hnst⟩ := hn st r rfl
     by_cases his : i = st.idx
     ·subst his
      exact draw_head hl hp h0 ro h hw ho hni hpre hin hE go
     · -- a variable ahead of its place
      have hir : i ∈ r.map Step.idx := by
       rcases List.mem_cons.1 hins with h | h
       ·exact absurd h his
       ·exact h
      obtain ⟨st2,hst2,rfl⟩ := List.mem_map.1 hir
      have hk : steps[ds.length]? = some st := by rw [h.split]; simp
      have hws := hp.waits ds.length (by rw [List.mem_range,h.split]; simp) st hk hw st2 (by rw [h.split]; simpa using hst2)
      rcases hws with ha | hpr | hxx
      ·cases st2 with
       | light _ _ => cases ha
       | heavy _ _ => cases ha
       | alloc i =>
        simp only [Step.idx] at *
        have hmem : Step.alloc i ∈ steps := by rw [h.split]; simp [hst2]
        obtain ⟨k1,k2,k3⟩ := hp.kinds _ hmem o ho
        rw [if_pos (by simp [Region.wanted,k2])]
        obtain ⟨t,ht⟩ := Option.isSome_iff_exists.1 k3
        cases hop : o.op with
        | alloc ty =>
         rw [hop] at k1
         simp only at k1
         obtain ⟨z,hz⟩ := Option.isSome_iff_exists.1 k1
         obtain ⟨zv,hzr,hzV⟩ := run_zeroT hz w G
         have hzl := VL.cells hzV (zeroT_ne_any hz)
         obtain ⟨g1,g2⟩ := h.sim.grow (.cells zv.cells ty)
         refine ⟨fun _ _ => trivial,?_⟩
         have hexec : (execOp a.eval o).run P w = .ok (.value (.pointer (some ⟨w.heap.size,0,none⟩))) (w.alloc (.cells zv.cells ty)) := by
          simp [execOp,hop,Instr.alloc,hzr,newVar,newRow]
         rw [Oper.semAt_eq _ _ _ (fun c => by rw [hop]; simp),hexec,Oper.uponIn_value]
         have htl : t < a.tmps.size := by
          have h2 := (List.all_eq_true.1 hp.dstN) o (List.mem_of_getElem? ho)
          rw [ht] at h2
          rw [h.size]; simpa [okDst] using h2
         refine go (ds' := ds) (σ' := st :: r) (tr' := tr) (env' := env) (s' := s) (G' := G) ⟨h.split,h.run,g1,h.ext.trans h0 g2,by rw [put_size]; exact h.size,by rw [put_defers']; exact h.defs,h.known,fun j hj => ?_,fun j hj p hpp => ?_,fun j hj => ?_,fun st3 hst hw => (hE _).2 (.inl (h.wait st3 hst hw)),fun t' x hxx hnn => ?_,fun j hj hjd t' ht' x hxx => ?_,h.e0,fun j hj hjE => ?_,fun i1 j1 h1 h2 h3 h4 hij t1 t2 d1 d2 => ?_⟩
         ·rcases (hE j).1 hj with hj | rfl
          ·exact h.lt j hj
          ·exact hil
         ·rcases (hE j).1 hj with hj | rfl
          ·exact (hE p).2 (.inl (h.closed j hj p hpp))
          ·exact (hE p).2 (.inl (hpre p hpp))
         ·rcases (hE j).1 hj with hj | rfl
          ·rcases h.sub j hj with hd | ⟨hd,he⟩
           ·exact .inl hd
           ·refine .inr ⟨hd,he.later h.sim g2 fun t' ht' => (put_tmps fun e => ?_).2⟩
            have := plan_dst hp (by rw [hdst]; exact e) ht'
            subst this; exact hni hj
          ·refine .inr ⟨by simp [hst2],o,t,ty,z,w.heap.size,zv.cells,ty,ho,hop,ht,hz,?_,?_,hzl,?_,fun j => ?_,h.ext.size⟩
           ·rw [ht]; exact (put_tmps_same htl).2
           ·show (w.heap.push _)[w.heap.size]? = _; simp
           ·rintro ⟨id,blk,r',q1,q2,q3⟩
            have := h.sim.own_lt q1 q2
            omega
           ·cases hj : G.imm w.heap.size j with
            | none => rfl
            | some u => have := h.sim.imm_lt hj; omega
         ·have h1 : o.dst ≠ some t' := fun e => hnn i ((hE i).2 (.inr rfl)) (by rw [hdst]; exact e)
          rw [(put_tmps h1).1]
          exact h.s1 t' x hxx fun j hj => hnn j ((hE j).2 (.inl hj))
         ·rcases (hE j).1 hj with hj | rfl
          ·have h1 : o.dst ≠ some t' := fun e => by
            have := plan_dst hp (by rw [hdst]; exact e) ht'
            subst this; exact hni hj
           rw [(put_tmps h1).1]
           exact h.s2 j hj hjd t' ht' x hxx
          ·exact absurd hjd hin
         ·exact h.pend j hj fun e => hjE ((hE j).2 (.inl e))
         ·have hit : dstI l i = some t := by rw [hdst]; exact ht
          have hnew : (a.put o.dst (.pointer (some ⟨w.heap.size,0,none⟩))).tmps[t]? = some (.pointer (some ⟨w.heap.size,0,none⟩)) := by rw [ht]; exact (put_tmps_same htl).2
          have old : ∀ {k tk},listed.getD k false = true → Step.alloc k ∈ st :: r → dstI l k = some tk → (a.put o.dst (.pointer (some ⟨w.heap.size,0,none⟩))).tmps[tk]? = a.tmps[tk]? ∧ a.tmps[tk]? ≠ some (.pointer (some ⟨w.heap.size,0,none⟩)) := fun {k tk} hk hkσ hkt => by
           refine ⟨(put_tmps fun e => ?_).2,?_⟩
           ·have := plan_dst hp (by rw [hdst]; exact e) hkt
            subst this; exact hni hk
           ·rcases h.sub k hk with hd | ⟨_,he⟩
            ·exact absurd hd (nodup_split hp h.split hkσ)
            ·obtain ⟨ok,tk',tyk,zk,bk,csk,ek,k1,k2,k3,k4,k5,k6,_⟩ := he
             have : tk' = tk := by rw [dstI_some k1,k3] at hkt; exact Option.some.inj hkt
             subst this
             rw [k5]
             intro e
             cases e
             rw [Array.getElem?_eq_none (Nat.le_refl _)] at k6
             cases k6
          rcases (hE i1).1 h1 with g1 | g1 <;> rcases (hE j1).1 h2 with g2 | g2
          ·rw [(old g1 h3 d1).1,(old g2 h4 d2).1]
           exact h.dist i1 j1 g1 g2 h3 h4 hij t1 t2 d1 d2
          ·subst g2
           rw [hit] at d2; cases d2
           rw [(old g1 h3 d1).1,hnew]
           exact (old g1 h3 d1).2
          ·subst g1
           rw [hit] at d1; cases d1
           rw [(old g2 h4 d2).1,hnew]
           exact fun e => (old g2 h4 d2).2 e.symm
          ·exact absurd (g1.trans g2.symm) hij
        | _ => rw [hop] at k1; exact k1.elim
      ·exact absurd (hpre _ hpr) hnst
      ·exact absurd (hX _ _ hxx) hnst
theorem draw_two {X2 : Nat → Nat → Prop} {steps2 : List Step} {ops : Array Oper} (hl : ops.toList = l) (hp : PlanOkX X P N l pre steps) (hp2 : PlanOkX X2 P N l pre steps2) (h0 : Sim G0 s0 w0) {Q : Exit → Env → St → Prop} (hQ : ∀ env s,K env s → Q .normal env s) (ro : Option Nat)
  {i j : Nat} (hij : i ≠ j) (hX : ∀ x y,X x y → x = i ∧ y = j) (hX2 : ∀ x y,X2 x y → x = j ∧ y = i) (hna : ∀ st ∈ steps,st.isAlloc = false) (hna2 : ∀ st ∈ steps2,st.isAlloc = false) :
  ∀ (fuel : Nat) (listed : Array Bool) (a : Act) (w : World) {ds r : List Step} {c : List Nat} {tr : List (Nat × Env × AV)} {env : Env} {s : St} {G : Ghost} {ds2 r2 : List Step} {c2 : List Nat} {tr2 : List (Nat × Env × AV)} {env2 : Env} {s2 : St} {G2 : Ghost},listed.size = l.length →
   ((List.range l.length).filter fun i => !listed.getD i false).length ≤ fuel →
   DInv P N ρ l pre steps K env0 G0 s0 w0 (fun i => listed.getD i false = true) ds (.heavy i c :: r) tr env s a w G → ¬ listed.getD i false = true →
   DInv P N ρ l pre steps2 K env0 G0 s0 w0 (fun i => listed.getD i false = true) ds2 (.heavy j c2 :: r2) tr2 env2 s2 a w G2 → ¬ listed.getD j false = true →
   wpAnyIn (fen ro) 0 P .any ops (After G0 N ρ s0 w0 Q) fuel listed a w := by
 intro fuel
 induction fuel with
 | zero =>
  intro listed a w ds r c tr env s G ds2 r2 c2 tr2 env2 s2 G2 hsz hf h hi h2 hj
  have hil : i < l.length := hp.perm.1 (.heavy i c) (by rw [h.split]; simp)
  have : 0 < ((List.range l.length).filter fun i => !listed.getD i false).length := List.length_pos_of_mem (List.mem_filter.2 ⟨List.mem_range.2 hil,by simpa using hi⟩)
  omega
 | succ fuel ih =>
  intro listed a w ds r c tr env s G ds2 r2 c2 tr2 env2 s2 G2 hsz hf h hi h2 hj
  have hil : i < l.length := hp.perm.1 (.heavy i c) (by rw [h.split]; simp)
  refine ⟨fun hr => absurd (draw_some hl hp listed hsz hr i hil) hi,fun x hx => ?_⟩
  obtain ⟨hxl,hnl,hdir⟩ := draw_rdy hl listed x hsz hx
  obtain ⟨o,ho⟩ : ∃ o,l[x]? = some o := ⟨_,List.getElem?_eq_getElem hxl⟩
  have hoi : ops[x]? = some o := by rw [← ho,← hl]; simp
  have hni : ¬ listed.getD x false = true := by rw [hnl]; simp
  have hpre : ∀ p ∈ preI pre x,listed.getD p false = true := fun p hpp => by
   obtain ⟨_,h3⟩ := hp.edges x (List.mem_range.2 hxl) o ho
   rcases (h3 p hpp).2 with hd | ⟨d,hd,hpd⟩
   ·exact hdir o ho p hd
   ·exact h.closed d (hdir o ho d hd) p hpd
  have hsz' : (listed.setIfInBounds x true).size = l.length := by simpa using hsz
  have hlt : x < listed.size := by omega
  have hE : ∀ j,(listed.setIfInBounds x true).getD j false = true ↔ listed.getD j false = true ∨ j = x := fun j => by
   simp only [Array.getD_eq_getD_getElem?,Array.getElem?_setIfInBounds]
   by_cases hj : x = j
   ·subst hj; simp [hlt]
   ·rw [if_neg hj]
    constructor
    ·exact .inl
    ·rintro (h | h)
     ·exact h
     ·exact absurd h.symm hj
  have hf' : ((List.range l.length).filter fun j => !(listed.setIfInBounds x true).getD j false).length ≤ fuel := by
   have := filt_lt (p := fun j => !listed.getD j false) (q := fun j => !(listed.setIfInBounds x true).getD j false) (l := List.range l.length) (fun j _ hq => by
    simp only [Bool.not_eq_true'] at hq ⊢
    cases hb : listed.getD j false with
    | false => rfl
    | true => rw [(hE j).2 (.inl hb)] at hq; cases hq) (List.mem_range.2 hxl) (by simp [hnl]) (by simp [(hE x).2 (.inr rfl)])
   omega
  simp only [wpOpIn,hoi]
  have hdst := dstI_some ho
  by_cases hxi : x = i
  ·subst hxi
   refine draw_head (st := .heavy x c) hl hp h0 ro h rfl ho hni hpre (nodup_split (st := .heavy x c) hp h.split (by simp)) hE fun h' => ?_
   obtain ⟨d3,σ3,tr3,env3,s3,G3,h3,hn3⟩ := adv hp h0 _ h'
   exact draw_main hl hp h0 hQ ro fuel _ d3 σ3 tr3 env3 s3 _ _ G3 hsz' hf' h3 hn3 fun y z hyz => (hE y).2 (.inr (hX y z hyz).1)
  ·by_cases hxj : x = j
   ·subst hxj
    refine draw_head (st := .heavy x c2) hl hp2 h0 ro h2 rfl ho hni hpre (nodup_split (st := .heavy x c2) hp2 h2.split (by simp)) hE fun h' => ?_
    obtain ⟨d3,σ3,tr3,env3,s3,G3,h3,hn3⟩ := adv hp2 h0 _ h'
    exact draw_main hl hp2 h0 hQ ro fuel _ d3 σ3 tr3 env3 s3 _ _ G3 hsz' hf' h3 hn3 fun y z hyz => (hE y).2 (.inr (hX2 y z hyz).1)
   · -- a light one,walked in both
    have inA : ∀ {X : Nat → Nat → Prop} {steps : List Step} {ds r : List Step} {i : Nat} {c : List Nat} {tr : List (Nat × Env × AV)} {env : Env} {s : St} {G : Ghost},PlanOkX X P N l pre steps → (∀ y,X i y → y ≠ x) → (∀ st ∈ steps,st.isAlloc = false) →
      DInv P N ρ l pre steps K env0 G0 s0 w0 (fun i => listed.getD i false = true) ds (.heavy i c :: r) tr env s a w G → ¬ listed.getD i false = true → x ≠ i → x ∈ idxs ds := by
     intro X steps ds r i c tr env s G hp hX hna h hi hxi
     have hins : x ∈ steps.map Step.idx := hp.perm.2.1 x (List.mem_range.2 hxl)
     rw [h.split,List.map_append,List.mem_append] at hins
     rcases hins with hins | hins
     ·exact hins
     ·exfalso
      rcases List.mem_cons.1 hins with e | e
      ·exact hxi e
      ·obtain ⟨st2,hst2,rfl⟩ := List.mem_map.1 e
       have hk : steps[ds.length]? = some (.heavy i c) := by rw [h.split]; simp
       rcases hp.waits ds.length (by rw [List.mem_range,h.split]; simp) _ hk rfl st2 (by rw [h.split]; simpa using hst2) with q | q | q
       ·rw [hna st2 (by rw [h.split]; simp [hst2])] at q; cases q
       ·exact hi (hpre _ q)
       ·exact hX _ q rfl
    have in1 := inA hp (fun y hy => by rw [(hX _ _ hy).2]; exact fun e => hxj e.symm) hna h hi hxi
    have in2 := inA hp2 (fun y hy => by rw [(hX2 _ _ hy).2]; exact fun e => hxi e.symm) hna2 h2 hj hxj
    have hpd1 := plan_linear' hp h.split in1
    have hpd2 := plan_linear' hp2 h2.split in2
    obtain ⟨o1,q1,hlight,q3⟩ := h.pend x in1 hni
    obtain ⟨o2,r1,_,r3⟩ := h2.pend x in2 hni
    rw [ho] at q1 r1; cases q1; cases r1
    have gv : ∀ {b},GdB l pre env env0 x o b → Region.wanted o (yielded ops a.tmps) = b := fun hg => guard_val hl hp h hg hpre hpd1 hni
    have gv2 : ∀ {b},GdB l pre env2 env0 x o b → Region.wanted o (yielded ops a.tmps) = b := fun hg => guard_val hl hp2 h2 hg hpre hpd2 hni
    have ni' : ∀ {y},¬ listed.getD y false = true → x ≠ y → ¬ (listed.setIfInBounds x true).getD y false = true := fun hy hne e => by
     rcases (hE _).1 e with e | e
     ·exact hy e
     ·exact hne e.symm
    rcases q3 with ⟨hg,e,v,p1,p2,p3,_⟩ | ⟨hg,p1⟩
    ·rw [if_pos (gv hg)]
     rcases r3 with ⟨hg2,e',v',p1',p2',p3',_⟩ | ⟨hg2,_⟩
     case inr => have := gv hg; rw [gv2 hg2] at this; cases this
     have hve : VEnv G e a.tmps := fun t x hx => by
      obtain ⟨r1,r2⟩ := read_ok hp h (p1 t x hx) hpre hpd1 hni
      exact ⟨by rw [h.size]; exact r1,r2⟩
     have hve2 : VEnv G2 e' a.tmps := fun t x hx => by
      obtain ⟨r1,r2⟩ := read_ok hp2 h2 (p1' t x hx) hpre hpd2 hni
      exact ⟨by rw [h.size]; exact r1,r2⟩
     obtain ⟨nx,u,G',w',e1,e2,e3,e4,e5⟩ := aop_sound h.sim hve o p2
     obtain ⟨nx2,u2,G2',w2',f1,f2,f3,f4,f5⟩ := aop_sound h2.sim hve2 o p2'
     refine ⟨fun _ _ => trivial,?_⟩
     rw [Oper.semAt_eq _ _ _ (fun c => by intro e; rw [e] at hlight; simp [isLight] at hlight),e1]
     rw [e1] at f1
     have hu : nx = nx2 ∧ w' = w2' := by cases f1; exact ⟨rfl,rfl⟩
     obtain ⟨rfl,rfl⟩ := hu
     have hd := fun (u' : Value) (hu : V G' v u') => done_light hp h0 h ho in1 hni hpre (v := u') (fun t ht x hx => by rw [p3 t ht] at hx; cases hx; exact hu) e4 e5 hE
     have hd2 := fun (u' : Value) (hu : V G2' v' u') => done_light hp2 h0 h2 ho in2 hni hpre (v := u') (fun t ht x hx => by rw [p3' t ht] at hx; cases hx; exact hu) f4 f5 hE
     have fin : ∀ u',V G' v u' → V G2' v' u' → wpAnyIn (fen ro) 0 P .any ops (After G0 N ρ s0 w0 Q) fuel (listed.setIfInBounds x true) (a.put o.dst u') w' := fun u' h3 h4 =>
      ih _ _ _ hsz' hf' (hd u' h3) (ni' hi hxi) (hd2 u' h4) (ni' hj hxj)
     rcases e2 with rfl | ⟨rfl,rfl⟩
     ·rcases f2 with e | ⟨e,_⟩
      ·cases e; rw [Oper.uponIn_value]; exact fin _ e3 f3
      ·cases e
     ·rcases f2 with e | ⟨_,rfl⟩
      ·cases e
      ·rw [Oper.uponIn_skip]; exact fin _ e3 f3
    ·rw [if_neg (by rw [gv hg]; simp)]
     rcases r3 with ⟨hg2,_⟩ | ⟨hg2,p1'⟩
     ·have := gv hg; rw [gv2 hg2] at this; cases this
     exact ⟨fun _ _ => trivial,ih _ _ _ hsz' hf' (done_light hp h0 h ho in1 hni hpre (fun t ht x hx => by rw [p1 t ht] at hx; cases hx; exact .tup [] #[] rfl (by simp)) h.sim (.refl _ _ _) hE) (ni' hi hxi)
      (done_light hp2 h0 h2 ho in2 hni hpre (fun t ht x hx => by rw [p1' t ht] at hx; cases hx; exact .tup [] #[] rfl (by simp)) h2.sim (.refl _ _ _) hE) (ni' hj hxj)⟩
theorem awp_draw {id : Nat} {ops : Array Oper} {Q : Exit → Env → St → Prop} {env : Env} {s : St} (pre : List (List Nat)) (steps : List Step) (l : List Oper) (hl : ops.toList = l) (hm : P.follows .mixedOrders = true) (hp : PlanOk P N l pre steps)
  (h : dws P l (fun env s => Q .normal env s) steps [] env s) : AWp P N ρ (.region id ops true) Q env s := fun G w a hn => by
 refine wpIn_region_any hm ?_
 have hsz : ops.size = l.length := by rw [← hl]; simp
 have hd : DInv P N ρ l pre steps (fun env s => Q .normal env s) env G s w (fun i => (Array.replicate ops.size false).getD i false = true) [] steps [] env s a { w with drawn := w.drawn + 1 } G := by
  have hno : ∀ i,¬ (Array.replicate ops.size false).getD i false = true := fun i => by
   simp only [Array.getD_eq_getD_getElem?,Array.getElem?_replicate]
   split <;> simp
  exact ⟨rfl,h,hn.sim.drew,Ext.drew G s w,hn.size,hn.defs,hn.known,fun i hi => absurd hi (hno i),fun i hi => absurd hi (hno i),fun i hi => absurd hi (hno i),(fun st hst => by cases hst),
   (fun t x hx _ => by have := hn.env t x hx; rw [hn.size] at this; exact this),fun i hi => absurd hi (hno i),fun t _ => rfl,(fun i hi => by cases hi),fun i _ hi => absurd hi (hno i)⟩
 obtain ⟨ds',σ',tr',env',s',G',h',hn'⟩ := adv hp hn.sim steps hd
 exact draw_main hl hp hn.sim (fun _ _ h => h) _ ops.size _ ds' σ' tr' env' s' a _ G' (by simp [hsz]) (by rw [hsz]; exact Nat.le_trans (List.length_filter_le _ _) (by simp)) h' hn' fun _ _ h => h.elim
theorem awp_draw2 {id : Nat} {ops : Array Oper} {Q : Exit → Env → St → Prop} {env : Env} {s : St} (pre : List (List Nat)) (steps steps2 : List Step) (i j : Nat) (l : List Oper) (hl : ops.toList = l) (hm : P.follows .mixedOrders = true) {X2 : Nat → Nat → Prop} (hp : PlanOkX X P N l pre steps) (hp2 : PlanOkX X2 P N l pre steps2)
  (hij : i ≠ j) (hil : i < l.length) (hjl : j < l.length) (hX : ∀ x y,X x y → x = i ∧ y = j) (hX2 : ∀ x y,X2 x y → x = j ∧ y = i) (hna : ∀ st ∈ steps,st.isAlloc = false) (hna2 : ∀ st ∈ steps2,st.isAlloc = false)
  (hwi : ∀ st ∈ steps,st.idx = i → st.waits = true) (hwj : ∀ st ∈ steps2,st.idx = j → st.waits = true)
  (hi : ∀ st ∈ steps,st.waits = true → st.idx ∉ preI pre i) (hj : ∀ st ∈ steps2,st.waits = true → st.idx ∉ preI pre j)
  (h : dws P l (fun env s => Q .normal env s) steps [] env s) (h2 : dws P l (fun env s => Q .normal env s) steps2 [] env s) : AWp P N ρ (.region id ops true) Q env s := fun G w a hn => by
 refine wpIn_region_any hm ?_
 have hsz : ops.size = l.length := by rw [← hl]; simp
 have hno : ∀ i,¬ (Array.replicate ops.size false).getD i false = true := fun i => by
  simp only [Array.getD_eq_getD_getElem?,Array.getElem?_replicate]
  split <;> simp
 have hd : ∀ {steps : List Step},dws P l (fun env s => Q .normal env s) steps [] env s → DInv P N ρ l pre steps (fun env s => Q .normal env s) env G s w (fun i => (Array.replicate ops.size false).getD i false = true) [] steps [] env s a { w with drawn := w.drawn + 1 } G := fun h =>
  ⟨rfl,h,hn.sim.drew,Ext.drew G s w,hn.size,hn.defs,hn.known,fun i hi => absurd hi (hno i),fun i hi => absurd hi (hno i),fun i hi => absurd hi (hno i),(fun st hst => by cases hst),
   (fun t x hx _ => by have := hn.env t x hx; rw [hn.size] at this; exact this),fun i hi => absurd hi (hno i),fun t _ => rfl,(fun i hi => by cases hi),fun i _ hi => absurd hi (hno i)⟩
 obtain ⟨ds',σ',tr',env',s',G',h',hn'⟩ := adv hp hn.sim steps (hd h)
 obtain ⟨ds2,σ2,tr2,env2,s2,G2,h2',hn2⟩ := adv hp2 hn.sim steps2 (hd h2)
 have key : ∀ {X : Nat → Nat → Prop} {steps ds σ : List Step} {tr : List (Nat × Env × AV)} {env' : Env} {s' : St} {G' : Ghost} {i j : Nat},PlanOkX X P N l pre steps → i ≠ j → i < l.length → (∀ x y,X x y → x = i ∧ y = j) → (∀ st ∈ steps,st.isAlloc = false) → (∀ st ∈ steps,st.idx = i → st.waits = true) →
   (∀ st ∈ steps,st.waits = true → st.idx ∉ preI pre i) → DInv P N ρ l pre steps (fun env s => Q .normal env s) env G s w (fun i => (Array.replicate ops.size false).getD i false = true) ds σ tr env' s' a { w with drawn := w.drawn + 1 } G' →
   (∀ st r,σ = st :: r → st.waits = true ∧ ¬ (Array.replicate ops.size false).getD st.idx false = true) → ∃ c r,σ = .heavy i c :: r := by
  intro X steps ds σ tr env' s' G' i j hp hij hil hX hna hwi hi h hn
  obtain ⟨st,hst,hsi⟩ := List.mem_map.1 (hp.perm.2.1 i (List.mem_range.2 hil))
  rw [h.split] at hst
  rcases List.mem_append.1 hst with g | g
  ·exact absurd (h.wait st g (hwi st (by rw [h.split]; simp [g]) hsi)) (hno _)
  ·cases σ with
   | nil => cases g
   | cons st1 r =>
    obtain ⟨w1,_⟩ := hn st1 r rfl
    have hm1 : st1 ∈ steps := by rw [h.split]; simp
    rcases List.mem_cons.1 g with e | g
    ·subst e
     cases st with
     | light _ _ => cases w1
     | alloc _ => have := hna _ hm1; cases this
     | heavy k c => cases hsi; exact ⟨c,r,rfl⟩
    ·exfalso
     have hk : steps[ds.length]? = some st1 := by rw [h.split]; simp
     rcases hp.waits ds.length (by rw [List.mem_range,h.split]; simp) _ hk w1 st (by rw [h.split]; simpa using g) with q | q | q
     ·rw [hna st (by rw [h.split]; simp [g])] at q; cases q
     ·rw [hsi] at q; exact hi st1 hm1 w1 q
     ·rw [hsi] at q; exact hij (hX _ _ q).2
 obtain ⟨c,r,rfl⟩ := key hp hij hil hX hna hwi hi h' hn'
 obtain ⟨c2,r2,rfl⟩ := key hp2 hij.symm hjl hX2 hna2 hwj hj h2' hn2
 exact draw_two hl hp hp2 hn.sim (fun _ _ h => h) _ hij hX hX2 hna hna2 ops.size _ _ _ (by simp [hsz]) (by rw [hsz]; exact Nat.le_trans (List.length_filter_le _ _) (by simp)) h' (hno i) h2' (hno j)
end
end Go.Am
end
section
namespace Go.Am
open Go.RowKit
theorem Sim.readd {G G' : Ghost} {s s' : St} {w w' : World} {id : Nat} {blk : Blk} (h : Sim G ⟨(id,blk) :: s.heap,s.cnt⟩ w) (hid : id < s.cnt) (hno : eget s.heap id = none)
  (h' : Sim G' s' w') (x : Ext G s w G' s' w') : Sim G' ⟨(id,blk) :: s'.heap,s'.cnt⟩ w' ∧ Ext G ⟨(id,blk) :: s.heap,s.cnt⟩ w G' ⟨(id,blk) :: s'.heap,s'.cnt⟩ w' := by
 have hno' : eget s'.heap id = none := by
  cases hq : eget s'.heap id with
  | none => rfl
  | some b =>
   rcases x.ids id b hq with ⟨b0,e⟩ | e
   ·rw [hno] at e; cases e
   ·omega
 have hself : eget ((id,blk) :: s.heap) id = some blk := by simp [egetN,egetC]
 rcases h.heap id blk hself with ⟨r,o,e1,e2,e3⟩ | ⟨en,em⟩
 case inr =>
  have gold : ∀ {l : List (Nat × Blk)} i b,eget ((id,blk) :: l) i = some b → (i = id ∧ b = blk) ∨ (i ≠ id ∧ eget l i = some b) := fun i b hg => by
   simp only [egetN,egetC] at hg
   split at hg
   ·cases hg; exact .inl ⟨by omega,rfl⟩
   ·exact .inr ⟨by omega,hg⟩
  have up : ∀ i b,eget s.heap i = some b → eget ((id,blk) :: s.heap) i = some b := fun i b hg => by
   have : id ≠ i := fun e => by subst e; rw [hno] at hg; cases hg
   simp [egetN,egetC,this,hg]
  have en' := x.stay id hid en
  have ownUp : ∀ b,Owned G s b → Owned G ⟨(id,blk) :: s.heap,s.cnt⟩ b := fun b ⟨i,b',r',g1,g2,g3⟩ => ⟨i,b',r',up i b' g1,g2,g3⟩
  refine ⟨⟨h'.imm,?_,?_,?_,h'.fresh,?_⟩,⟨x.le,x.os,x.tape,x.output,x.size,?_,?_,?_,?_,x.cnt,?_,x.stay,x.drawn⟩⟩
  ·intro i b hg
   rcases gold i b hg with ⟨rfl,rfl⟩ | ⟨_,hg⟩
   ·exact .inr ⟨en',em⟩
   ·exact h'.heap i b hg
  ·intro i i' b b' r1 r2 h1 h2 o1 o2 hne
   rcases gold i b h1 with ⟨rfl,rfl⟩ | ⟨n1,g1⟩ <;> rcases gold i' b' h2 with ⟨rfl,rfl⟩ | ⟨n2,g2⟩
   ·exact absurd rfl hne
   ·rw [en'] at o1; cases o1
   ·rw [en'] at o2; cases o2
   ·exact h'.apart i i' b b' r1 r2 g1 g2 o1 o2 hne
  ·intro i b r1 j hg ho
   rcases gold i b hg with ⟨rfl,rfl⟩ | ⟨_,hg⟩
   ·rw [en'] at ho; cases ho
   ·exact h'.clear i b r1 j hg ho
  ·intro i b hg
   show i < s'.cnt
   rcases gold i b hg with ⟨rfl,rfl⟩ | ⟨_,hg⟩
   ·exact Nat.lt_of_lt_of_le hid x.cnt
   ·exact h'.lt i b hg
  ·intro b hb hn
   exact x.keep b hb fun e => hn (ownUp b e)
  ·intro b o v hi
   rcases x.immNew b o v hi with g | g | g
   ·exact .inl g
   ·exact .inr (.inl g)
   ·exact .inr (.inr (ownUp b g))
  ·intro i r' hi
   rcases x.ownNew i r' hi with g | g | g
   ·exact .inl g
   ·exact .inr (.inl g)
   ·exact .inr (.inr (ownUp _ g))
  ·intro i b hg
   rcases gold i b hg with ⟨rfl,rfl⟩ | ⟨_,hg⟩
   ·exact .inl ⟨b,hself⟩
   ·rcases x.ids i b hg with ⟨b0,g⟩ | g
    ·exact .inl ⟨b0,up i b0 g⟩
    ·exact .inr g
  ·intro i hi
   rcases gold i .dfr hi with ⟨rfl,hb⟩ | ⟨n,g⟩
   ·simp [egetN,egetC,← hb]
   ·have := x.dfr i g
    simp only [egetN,egetC]
    rw [if_neg (fun e => n e.symm)]
    exact this
 have hlt : r.block < w.heap.size := h.own_lt hself e1
 have gold : ∀ {l : List (Nat × Blk)} i b,eget ((id,blk) :: l) i = some b → (i = id ∧ b = blk) ∨ (i ≠ id ∧ eget l i = some b) := fun i b hg => by
  simp only [egetN,egetC] at hg
  split at hg
  ·cases hg; exact .inl ⟨by omega,rfl⟩
  ·exact .inr ⟨by omega,hg⟩
 have up : ∀ i b,eget s.heap i = some b → eget ((id,blk) :: s.heap) i = some b := fun i b hg => by
  have : id ≠ i := fun e => by subst e; rw [hno] at hg; cases hg
  simp [egetN,egetC,this,hg]
 have notown : ¬ Owned G s r.block := by
  rintro ⟨i,b,r',g1,g2,g3⟩
  have hne : i ≠ id := fun e => by subst e; rw [hno] at g1; cases g1
  exact h.apart i id b blk r' r (up i b g1) hself g2 e1 hne g3
 have ownUp : ∀ b,Owned G s b → Owned G ⟨(id,blk) :: s.heap,s.cnt⟩ b := fun b ⟨i,b',r',g1,g2,g3⟩ => ⟨i,b',r',up i b' g1,g2,g3⟩
 have far : ∀ i b r',eget s'.heap i = some b → G'.own i = some r' → r'.block ≠ r.block := fun i b r' g1 g2 e => by
  rcases x.ownNew i r' g2 with g | g | g
  ·rcases x.ids i b g1 with ⟨b0,g0⟩ | g0
   ·exact notown ⟨i,b0,r',g0,g,e⟩
   ·have := h.fresh i g0
    rw [this] at g; cases g
  ·omega
  ·rw [e] at g; exact notown g
 refine ⟨⟨h'.imm,?_,?_,?_,h'.fresh,?_⟩,⟨x.le,x.os,x.tape,x.output,x.size,?_,?_,?_,?_,x.cnt,?_,x.stay,x.drawn⟩⟩
 ·intro i b hg
  rcases gold i b hg with ⟨rfl,rfl⟩ | ⟨_,hg⟩
  ·exact .inl ⟨r,o,x.le.own _ _ e1,by rw [x.keep _ hlt notown]; exact e2,e3.mono x.le⟩
  ·exact h'.heap i b hg
 ·intro i i' b b' r1 r2 h1 h2 o1 o2 hne
  rcases gold i b h1 with ⟨rfl,rfl⟩ | ⟨n1,g1⟩ <;> rcases gold i' b' h2 with ⟨rfl,rfl⟩ | ⟨n2,g2⟩
  ·exact absurd rfl hne
  ·rw [x.le.own _ _ e1] at o1; cases o1
   exact fun e => far i' b' r2 g2 o2 e.symm
  ·rw [x.le.own _ _ e1] at o2; cases o2
   exact far i b r1 g1 o1
  ·exact h'.apart i i' b b' r1 r2 g1 g2 o1 o2 hne
 ·intro i b r1 j hg ho
  rcases gold i b hg with ⟨rfl,rfl⟩ | ⟨_,hg⟩
  ·rw [x.le.own _ _ e1] at ho; cases ho
   cases hq : G'.imm r.block j with
   | none => rfl
   | some v =>
    rcases x.immNew _ _ _ hq with g | g | g
    ·rw [h.clear i b r j hself e1] at g; cases g
    ·omega
    ·exact absurd g notown
  ·exact h'.clear i b r1 j hg ho
 ·intro i b hg
  show i < s'.cnt
  rcases gold i b hg with ⟨rfl,rfl⟩ | ⟨_,hg⟩
  ·exact Nat.lt_of_lt_of_le hid x.cnt
  ·exact h'.lt i b hg
 ·intro b hb hn
  exact x.keep b hb fun e => hn (ownUp b e)
 ·intro b o v hi
  rcases x.immNew b o v hi with g | g | g
  ·exact .inl g
  ·exact .inr (.inl g)
  ·exact .inr (.inr (ownUp b g))
 ·intro i r' hi
  rcases x.ownNew i r' hi with g | g | g
  ·exact .inl g
  ·exact .inr (.inl g)
  ·exact .inr (.inr (ownUp _ g))
 ·intro i b hg
  rcases gold i b hg with ⟨rfl,rfl⟩ | ⟨_,hg⟩
  ·exact .inl ⟨b,hself⟩
  ·rcases x.ids i b hg with ⟨b0,g⟩ | g
   ·exact .inl ⟨b0,up i b0 g⟩
   ·exact .inr g
 ·intro i hi
  rcases gold i .dfr hi with ⟨rfl,hb⟩ | ⟨n,g⟩
  ·simp [egetN,egetC,← hb]
  ·have := x.dfr i g
   simp only [egetN,egetC]
   rw [if_neg (fun e => n e.symm)]
   exact this
def putParams : List Tmp → List AV → Env → Env
 | t :: ts,x :: xs,env => putParams ts xs (eset env t x)
 | _,_,env => env
def setLoop (s : St) (id : Nat) (l : ALoop) : St := ⟨eset s.heap id (.loop l),s.cnt⟩
section
variable {P : Program} {N : Nat} {ρ : Option Nat} {Q : Exit → Env → St → Prop} {env : Env} {s : St}
theorem VEnv.set {G : Ghost} {tmps : Array Value} (h : VEnv G env tmps) {t : Nat} {x : AV} {v : Value} (ht : t < tmps.size) (hv : V G x v) : VEnv G (eset env t x) (tmps.setIfInBounds t v) := fun u y hy => by
 rw [get_set] at hy
 split at hy
 ·rename_i he; subst he; cases hy
  exact ⟨by simpa using ht,by simp [Array.getD_eq_getD_getElem?,ht]; exact hv⟩
 ·rename_i he
  obtain ⟨e1,e2⟩ := h u y hy
  refine ⟨by simpa using e1,?_⟩
  rw [Array.getD_eq_getD_getElem?,Array.getElem?_setIfInBounds_ne he,← Array.getD_eq_getD_getElem?]
  exact e2
theorem VEnv.params {G : Ghost} : ∀ (ts : List Tmp) (xs : List AV) (vs : List Value) (env : Env) (tmps : Array Value),VEnv G env tmps → (∀ t ∈ ts,t < tmps.size) → xs.length = vs.length →
  (∀ (i : Nat) x y,xs[i]? = some x → vs[i]? = some y → V G x y) → VEnv G (putParams ts xs env) ((ts.zip vs).foldl (fun tmps (t,a) => tmps.setIfInBounds t a) tmps)
 | [],xs,vs,env,tmps,h,_,_,_ => by simpa [putParams] using h
 | t :: ts,[],[],env,tmps,h,_,_,_ => by simpa [putParams] using h
 | t :: ts,x :: xs,v :: vs,env,tmps,h,ht,hl,hv => by
  simp only [putParams,List.zip_cons_cons,List.foldl_cons]
  refine VEnv.params ts xs vs _ _ (h.set (ht t (by simp)) (hv 0 x v rfl rfl)) (fun u hu => by simpa using ht u (by simp [hu])) (by simpa using hl) (fun i a b ha hb => hv (i + 1) a b (by simpa using ha) (by simpa using hb))
 | t :: ts,x :: xs,[],env,tmps,h,_,hl,_ => by simp at hl
 | t :: ts,[],v :: vs,env,tmps,h,_,hl,_ => by simp at hl
theorem params_size : ∀ (ts : List Tmp) (vs : List Value) (tmps : Array Value),((ts.zip vs).foldl (fun tmps (t,a) => tmps.setIfInBounds t a) tmps).size = tmps.size
 | [],vs,tmps => by simp
 | t :: ts,[],tmps => by simp
 | t :: ts,v :: vs,tmps => by simp only [List.zip_cons_cons,List.foldl_cons]; rw [params_size ts vs]; simp
def RoundQ (id : Nat) (Q : AV → St → Prop) : Exit → Env → St → Prop
 | .normal,_,s => ∃ l,eget s.heap id = some (.loop l) ∧ Q (.bool true) (setLoop s id { l with state := .ready,pending := none })
 | .ret,_,s => ∃ l,eget s.heap id = some (.loop l) ∧ Q (.bool false) (setLoop s id { l with state := .done,pending := some .ret })
 | .exit i,_,s => ∃ l,eget s.heap id = some (.loop l) ∧ Q (.bool false) (setLoop s id { l with state := .done,pending := some (.exit i) })
 | _,_,_ => False
theorem loop_at {G : Ghost} {w : World} (h : Sim G s w) {id : Nat} {l : ALoop} {r : Reg} (hg : eget s.heap id = some (.loop l)) (ho : G.own id = some r) :
  ∃ fn tmps d,w.heap[r.block]? = some (.loop { state := l.state,pending := l.pending,fn := fn,tmps := tmps,params := l.params.toArray,assign := l.assign,body := l.body,defers := d }) ∧ tmps.size = l.ntmps ∧ VEnv G l.env tmps := by
 obtain ⟨o,e2,e3⟩ := h.at hg ho
 cases e3 with
 | loop _ fn tmps d hsz hV => exact ⟨fn,tmps,d,e2,hsz,hV⟩
theorem loop_turn {G : Ghost} {w : World} (h : Sim G s w) {id : Nat} {l l' : ALoop} {r : Reg} {fn : FuncId} {tmps : Array Value} {d : Nat} (hg : eget s.heap id = some (.loop l)) (ho : G.own id = some r)
  (hw : w.heap[r.block]? = some (.loop { state := l.state,pending := l.pending,fn := fn,tmps := tmps,params := l.params.toArray,assign := l.assign,body := l.body,defers := d }))
  (hsz : tmps.size = l.ntmps) (hV : VEnv G l.env tmps) (hl : l' = { l with state := l'.state,pending := l'.pending }) :
  Sim G (setLoop s id l') (w.putObj r.block (.loop { state := l'.state,pending := l'.pending,fn := fn,tmps := tmps,params := l.params.toArray,assign := l.assign,body := l.body,defers := d })) ∧
  Ext G s w G (setLoop s id l') (w.putObj r.block (.loop { state := l'.state,pending := l'.pending,fn := fn,tmps := tmps,params := l.params.toArray,assign := l.assign,body := l.body,defers := d })) := by
 refine h.turn (o := .loop { state := l'.state,pending := l'.pending,fn := fn,tmps := tmps,params := l.params.toArray,assign := l.assign,body := l.body,defers := d }) hg ho (by simp) rfl rfl rfl
  (fun b hb => World.putObj_heap_other hb) (World.putObj_heap_same (Array.getElem?_eq_some_iff.1 hw).1) ?_ (by simp)
 rw [hl]
 exact .loop _ fn tmps d hsz hV
theorem ayield {id : Nat} {args : List AV} {K : AV → St → Prop} {l : ALoop} (hg : eget s.heap id = some (.loop l)) (hlen : args.length = l.params.length) (hpar : (l.params.all fun t => decide (t < l.ntmps)) = true)
  (h : AWp P l.ntmps (some id) l.assign (Then (fun env1 s1 => ∃ l1,eget s1.heap id = some (.loop l1) ∧ l1.state = .ready ∧
   AWp P l.ntmps (some id) l.body (RoundQ id K) env1 (setLoop s1 id { l1 with state := .busy })) (fun _ _ _ => False)) (putParams l.params args l.env) s) : AYield P id args s K := by
 intro o G w r vs hs ho hv
 obtain ⟨fn,tmps,d,hw,hsz,hV⟩ := loop_at hs hg ho
 refine ⟨fn,_,l.assign,l.body,run_yield hw (by have := hv.1; simp; omega),roundIn_of_wpIn trivial ?_⟩
 have hknown : Known G (some id) := fun i e => by cases e; exact ⟨r,ho⟩
 have hconc : conc G (some id) = some r.block := by simp [conc,ho]
 have hfold : ((l.params.toArray.zip vs).foldl (fun tmps (t,a) => tmps.setIfInBounds t a) tmps) = ((l.params.zip vs.toList).foldl (fun tmps (t,a) => tmps.setIfInBounds t a) tmps) := by
  rw [← Array.foldl_toList,Array.toList_zip]
 have hpar' : ∀ t ∈ l.params,t < l.ntmps := fun t ht => by simpa using List.all_eq_true.1 hpar t ht
 have hnow : Now G l.ntmps (some id) (putParams l.params args l.env) s { tmps := (l.params.toArray.zip vs).foldl (fun tmps (t,a) => tmps.setIfInBounds t a) tmps,defers := [] } w := by
  rw [hfold]
  exact ⟨hs,hV.params l.params args vs.toList l.env tmps (fun t ht => by rw [hsz]; exact hpar' t ht) (by simpa using hv.1) (fun i x y hx hy => hv.2 i x y hx (by simpa using hy)),by rw [params_size,hsz],trivial,hknown⟩
 have h1 := h G w _ hnow
 rw [hconc] at h1
 refine wpIn_mono h1 ?_
 rintro e a1 w1 ⟨G1,env1,s1,n1,x1,q1⟩
 cases e with
 | normal =>
  obtain ⟨l1,g1,hr1,hb⟩ := q1
  have ho1 := x1.le.own _ _ ho
  obtain ⟨fn1,tmps1,d1,hw1,hsz1,hV1⟩ := loop_at n1.sim g1 ho1
  obtain ⟨t1,t2⟩ := loop_turn n1.sim (l' := { l1 with state := .busy }) g1 ho1 hw1 hsz1 hV1 rfl
  refine ⟨_,run_beginRound hw1 hr1,?_⟩
  have n2 : Now G1 l.ntmps (some id) env1 (setLoop s1 id { l1 with state := .busy }) a1 _ := ⟨t1,n1.env,n1.size,n1.defs.ext t2,n1.known⟩
  have h2 := hb G1 _ a1 n2
  have hconc1 : conc G1 (some id) = some r.block := by simp [conc,ho1]
  rw [hconc1] at h2
  refine wpIn_mono h2 ?_
  rintro e a3 w3 ⟨G3,env3,s3,n3,x3,q3⟩
  have ho3 := x3.le.own _ _ ho1
  have x03 := (x1.trans hs t2).trans hs x3
  have fin : ∀ (jump : Option Code) (l3 : ALoop) (g3 : eget s3.heap id = some (.loop l3)),K (.bool jump.isNone) (setLoop s3 id { l3 with state := if jump.isNone then .ready else .done,pending := jump }) →
    ∃ v w',(Instr.endRound r.block jump).run P w3 = .ok v w' ∧ Gave G s w K (.returned v) w' := by
   intro jump l3 g3 hk
   obtain ⟨fn3,tmps3,d3,hw3,hsz3,hV3⟩ := loop_at n3.sim g3 ho3
   obtain ⟨u1,u2⟩ := loop_turn n3.sim (l' := { l3 with state := if jump.isNone then .ready else .done,pending := jump }) g3 ho3 hw3 hsz3 hV3 rfl
   exact ⟨_,_,run_endRound jump hw3,.bool jump.isNone,G3,_,_,rfl,.bool _,u1,x03.trans hs u2,hk⟩
  cases e with
  | normal => obtain ⟨l3,g3,hk⟩ := q3; exact fin none l3 g3 hk
  | ret => obtain ⟨l3,g3,hk⟩ := q3; exact fin (some .ret) l3 g3 hk
  | exit i => obtain ⟨l3,g3,hk⟩ := q3; exact fin (some (.exit i)) l3 g3 hk
  | goto t => exact q3.elim
  | panic ch => exact q3.elim
  | outgrown => exact q3.elim
 | exit id => exact q1.elim
 | goto t => exact q1.elim
 | ret => exact q1.elim
 | panic ch => exact q1.elim
 | outgrown => exact q1.elim
theorem defs_lt {G : Ghost} {w : World} (h : Sim G s w) : ∀ {ds : List Deferred},Defs G s ds → ∀ d ∈ ds,∀ b,d.target = .collected b → b < w.heap.size
 | [],_,d,hd,_,_ => by cases hd
 | e :: ds,⟨⟨id,r,a,b,c,_⟩,hr⟩,d,hd,x,hx => by
  rcases List.mem_cons.1 hd with rfl | hd
  ·rw [c] at hx; cases hx; exact h.own_lt a b
  ·exact defs_lt h hr d hd x hx
def LoopEnd (P : Program) (N : Nat) (ρ : Option Nat) (Q : Exit → Env → St → Prop) (env : Env) (id : Nat) (marks : List (Nat × Blk)) (s : St) : Prop :=
 ∃ l,eget s.heap id = some (.loop l) ∧ l.state ≠ .busy ∧ (match l.pending with
  | none => Q .normal env ⟨marks ++ edel s.heap id,s.cnt⟩
  | some c => AWp P N ρ c Q env ⟨marks ++ edel s.heap id,s.cnt⟩)
theorem fn_run {g : Nat} (he : enters P g = true) : ∀ (args : Array Value) (w : World),(callFunc g args).run P w = .ok (.enter g args) w := fun args w => by
 unfold enters at he
 split at he
 case h_2 => cases he
 rename_i fn hfn
 simp only [Bool.and_eq_true,bne_iff_ne,ne_eq] at he
 have hbody : ¬ fn.body = none := by cases hb : fn.body <;> simp [hb] at he ⊢
 simp [callFunc,hfn,he.1,hbody]
theorem awp_rangeFunc {g : Operand} {ps : Array Tmp} {assign body : Code} {gf : FuncId} {caps : List AV} (hg : oper env g = some (.fn gf caps)) (he : enters P gf = true)
  (h : ACalls P gf (.yld (s.cnt + 1) :: caps) ⟨(s.cnt + 1,.loop ⟨env,N,ps.toList,assign,body,.ready,none⟩) :: s.heap,s.cnt + 2⟩
   (fun _ s' => LoopEnd P N none Q env (s.cnt + 1) [(s.cnt,.dfr)] s')) : AWp P N none (.rangeFunc g ps assign body) Q env s := fun G w a hn => by
 refine wpIn_rangeFunc fun fn _ => ?_
 have hfv := oper_V hn.env hg
 generalize hq : a.eval g = fv at hfv
 cases hfv with
 | fn _ _ vs hv1 hv2 =>
  have hs := hn.sim
  have hnoc : eget s.heap s.cnt = none := by
   cases hc : eget s.heap s.cnt with
   | none => rfl
   | some b => exact absurd (hs.lt _ _ hc) (by omega)
  obtain ⟨p1,p2⟩ := hs.put (o := .deferred (some [])) (blk := .dfr) (r := ⟨w.heap.size,0,0,0⟩) rfl .dfr
  have hvl : VEnv (Ghost.put G s.cnt ⟨w.heap.size,0,0,0⟩) env a.tmps := hn.env.mono p2.le
  obtain ⟨p3,p4⟩ := p1.put (o := .loop { state := .ready,pending := none,fn := fn,tmps := a.tmps,params := ps,assign := assign,body := body,defers := w.heap.size })
   (blk := .loop ⟨env,N,ps.toList,assign,body,.ready,none⟩) (r := ⟨w.heap.size + 1,0,0,0⟩) (by simp)
   (by
    have := Holds.loop (G := Ghost.put (Ghost.put G s.cnt ⟨w.heap.size,0,0,0⟩) (s.cnt + 1) ⟨w.heap.size + 1,0,0,0⟩) (r := ⟨w.heap.size + 1,0,0,0⟩) ⟨env,N,ps.toList,assign,body,.ready,none⟩ fn a.tmps w.heap.size hn.size (hvl.mono (.put (p1.fresh _ (Nat.le_refl _))))
    simpa using this)
  generalize hG2 : Ghost.put (Ghost.put G s.cnt ⟨w.heap.size,0,0,0⟩) (s.cnt + 1) ⟨w.heap.size + 1,0,0,0⟩ = G2 at p3 p4
  have ownL : G2.own (s.cnt + 1) = some ⟨w.heap.size + 1,0,0,0⟩ := by rw [← hG2]; simp [Ghost.put]
  have ownD : G2.own s.cnt = some ⟨w.heap.size,0,0,0⟩ := by rw [← hG2]; simp [Ghost.put]
  generalize hw2 : (w.alloc (.deferred (some []))).alloc (.loop { state := .ready,pending := none,fn := fn,tmps := a.tmps,params := ps,assign := assign,body := body,defers := w.heap.size }) = w2 at p3 p4
  have x02 := p2.trans hs p4
  -- the mark is laid aside
  have hsw : ∀ i,eget ((s.cnt,Blk.dfr) :: (s.cnt + 1,Blk.loop ⟨env,N,ps.toList,assign,body,.ready,none⟩) :: s.heap) i = eget ((s.cnt + 1,Blk.loop ⟨env,N,ps.toList,assign,body,.ready,none⟩) :: (s.cnt,Blk.dfr) :: s.heap) i := fun i => by
   simp only [egetN,egetC]
   by_cases h1 : s.cnt = i
   ·rw [if_pos h1,if_neg (by omega),if_pos h1]
   ·rw [if_neg h1,if_neg h1]
  have p5 : Sim G2 ⟨(s.cnt,.dfr) :: (s.cnt + 1,.loop ⟨env,N,ps.toList,assign,body,.ready,none⟩) :: s.heap,s.cnt + 2⟩ w2 := p3.drop (fun i b hb => by rw [← hsw]; exact hb) (Nat.le_refl _)
  have p6 : Sim G2 ⟨(s.cnt + 1,.loop ⟨env,N,ps.toList,assign,body,.ready,none⟩) :: s.heap,s.cnt + 2⟩ w2 := p5.drop (fun i b hb => by
   simp only [egetN,egetC] at hb ⊢
   by_cases h1 : s.cnt = i
   ·subst h1; rw [if_neg (by omega),hnoc] at hb; cases hb
   ·rw [if_neg h1]; exact hb) (Nat.le_refl _)
  have hev : (a.eval g) = .func (.func gf) #[] vs := hq
  refine ⟨w.heap.size + 1,[{ target := .collected w.heap.size,args := #[] }],w2,{ target := .fn (.func gf) vs,args := #[.func (.yield (w.heap.size + 1)) #[] #[]] },w2,gf,
   #[.func (.yield (w.heap.size + 1)) #[] #[]] ++ vs,w2,?_,?_,fun _ _ => trivial,?_,(fun h => by cases h),?_⟩
  ·rw [← hw2]
   exact run_enterLoop_outer _ _ _ _ _
  ·simp only [resolve,hev]
   simp [go_sem]
  ·simp [invoke,go_sem,fn_run he]
  ·have hargs : VL G2 (.yld (s.cnt + 1) :: caps) (#[.func (.yield (w.heap.size + 1)) #[] #[]] ++ vs) := by
    have l1 : VL G2 [.yld (s.cnt + 1)] #[.func (.yield (w.heap.size + 1)) #[] #[]] := ⟨rfl,fun i x y hx hy => by
     cases i with
     | zero => simp at hx hy; subst hx; subst hy; exact .yld _ _ ownL
     | succ i => simp at hx⟩
    exact l1.append (VL.mono x02.le ⟨hv1,hv2⟩)
   refine (callsIn_fen (h G2 w2 _ p6 hargs)).mono ?_
   rintro e w3 ⟨v,G3,x,s3,rfl,hV3,hs3,hx3,l,g3,hst,hpost⟩
   obtain ⟨q1,q2⟩ := p5.readd (s := ⟨(s.cnt + 1,.loop ⟨env,N,ps.toList,assign,body,.ready,none⟩) :: s.heap,s.cnt + 2⟩) (by simp) (by simp [egetN,egetC,hnoc]) hs3 hx3
   have ownL3 := hx3.le.own _ _ ownL
   have g3' : eget ((s.cnt,Blk.dfr) :: s3.heap) (s.cnt + 1) = some (.loop l) := by simp [egetN,egetC,g3]
   obtain ⟨fn3,tmps3,d3,hw3,hsz3,hVE3⟩ := loop_at q1 g3' ownL3
   obtain ⟨u1,u2⟩ := loop_turn q1 (l' := { l with state := .exhausted }) g3' ownL3 hw3 hsz3 hVE3 rfl
   have x05 : Ext G2 ⟨(s.cnt + 1,.loop ⟨env,N,ps.toList,assign,body,.ready,none⟩) :: (s.cnt,.dfr) :: s.heap,s.cnt + 2⟩ w2 G2 ⟨(s.cnt,.dfr) :: (s.cnt + 1,.loop ⟨env,N,ps.toList,assign,body,.ready,none⟩) :: s.heap,s.cnt + 2⟩ w2 :=
    Ext.drop (fun i b hb => by rw [← hsw]; exact hb) (Nat.le_refl _) (fun i hi => by rw [hsw]; exact hi)
   have xall : Ext G s w G3 _ _ := ((x02.trans hs x05).trans hs q2).trans hs u2
   have dropH : ∀ i b,eget ([(s.cnt,Blk.dfr)] ++ edel s3.heap (s.cnt + 1)) i = some b → eget (setLoop ⟨(s.cnt,.dfr) :: s3.heap,s3.cnt⟩ (s.cnt + 1) { l with state := .exhausted }).heap i = some b := fun i b hb => by
    simp only [List.cons_append,List.nil_append,egetN,egetC] at hb
    simp only [setLoop,get_set]
    by_cases h1 : s.cnt = i
    ·subst h1; rw [if_neg (by omega)]; simpa [egetN,egetC] using hb
    ·rw [if_neg h1,get_del] at hb
     split at hb
     ·cases hb
     ·rename_i h2; rw [if_neg h2]; simp only [egetN,egetC]; rw [if_neg h1]; exact hb
   have dropD : ∀ i,eget (setLoop ⟨(s.cnt,.dfr) :: s3.heap,s3.cnt⟩ (s.cnt + 1) { l with state := .exhausted }).heap i = some .dfr → eget ([(s.cnt,Blk.dfr)] ++ edel s3.heap (s.cnt + 1)) i = some .dfr := fun i hi => by
    simp only [setLoop,get_set] at hi
    split at hi
    ·cases hi
    ·rename_i h2
     simp only [List.cons_append,List.nil_append,egetN,egetC] at hi ⊢
     split
     ·rfl
     ·rename_i h1; rw [if_neg h1] at hi; rw [get_del,if_neg h2]; exact hi
   have n4 : Now G3 N none env ⟨[(s.cnt,.dfr)] ++ edel s3.heap (s.cnt + 1),s3.cnt⟩ { a with defers := { target := .collected w.heap.size,args := #[] } :: a.defers } (w3.putObj (w.heap.size + 1) (.loop { state := .exhausted,pending := l.pending,fn := fn3,tmps := tmps3,params := l.params.toArray,assign := l.assign,body := l.body,defers := d3 })) := by
    refine ⟨u1.drop dropH (Nat.le_refl _),hn.env.mono xall.le,hn.size,⟨⟨s.cnt,⟨w.heap.size,0,0,0⟩,by simp [egetN,egetC],hx3.le.own _ _ ownD,rfl,fun d' hd' b hb => ?_⟩,?_⟩,fun i e => by cases e⟩
    ·have := defs_lt hs hn.defs d' hd' b hb
     show b ≠ w.heap.size
     omega
    ·exact (hn.defs.ext xall).drop dropD
   have xfin : Ext G s w G3 ⟨[(s.cnt,.dfr)] ++ edel s3.heap (s.cnt + 1),s3.cnt⟩ _ := xall.trans hs (Ext.drop dropH (Nat.le_refl _) dropD)
   refine ⟨l.pending,_,run_endLoop hw3 hst,?_⟩
   cases hpe : l.pending with
   | none =>
    simp only [hpe] at hpost
    rw [hpe] at n4 xfin
    exact ⟨G3,env,_,n4,xfin,hpost⟩
   | some c =>
    simp only [hpe] at hpost
    rw [hpe] at n4 xfin
    exact AWp.later hpost hs hn.known xfin n4
theorem awp_rangeFuncN {id0 : Nat} {l0 : ALoop} (hl0 : eget s.heap id0 = some (.loop l0)) {g : Operand} {ps : Array Tmp} {assign body : Code} {gf : FuncId} {caps : List AV} (hg : oper env g = some (.fn gf caps)) (he : enters P gf = true)
  (h : ACalls P gf (.yld s.cnt :: caps) ⟨(s.cnt,.loop ⟨env,N,ps.toList,assign,body,.ready,none⟩) :: s.heap,s.cnt + 1⟩
   (fun _ s' => LoopEnd P N (some id0) Q env s.cnt [] s')) : AWp P N (some id0) (.rangeFunc g ps assign body) Q env s := fun G w a hn => by
 refine wpIn_rangeFunc fun fn _ => ?_
 have hfv := oper_V hn.env hg
 generalize hq : a.eval g = fv at hfv
 cases hfv with
 | fn _ _ vs hv1 hv2 =>
  have hs := hn.sim
  obtain ⟨r0,hr0⟩ := hn.known id0 rfl
  obtain ⟨fn0,tmps0,d0,hw0,_,_⟩ := loop_at hs hl0 hr0
  obtain ⟨p3,p4⟩ := hs.put (o := .loop { state := .ready,pending := none,fn := fn,tmps := a.tmps,params := ps,assign := assign,body := body,defers := d0 })
   (blk := .loop ⟨env,N,ps.toList,assign,body,.ready,none⟩) (r := ⟨w.heap.size,0,0,0⟩) rfl
   (by
    have := Holds.loop (G := Ghost.put G s.cnt ⟨w.heap.size,0,0,0⟩) (r := ⟨w.heap.size,0,0,0⟩) ⟨env,N,ps.toList,assign,body,.ready,none⟩ fn a.tmps d0 hn.size (hn.env.mono (.put (hs.fresh _ (Nat.le_refl _))))
    simpa using this)
  generalize hG2 : Ghost.put G s.cnt ⟨w.heap.size,0,0,0⟩ = G2 at p3 p4
  have ownL : G2.own s.cnt = some ⟨w.heap.size,0,0,0⟩ := by rw [← hG2]; simp [Ghost.put]
  generalize hw2 : w.alloc (.loop { state := .ready,pending := none,fn := fn,tmps := a.tmps,params := ps,assign := assign,body := body,defers := d0 }) = w2 at p3 p4
  have hev : (a.eval g) = .func (.func gf) #[] vs := hq
  refine ⟨w.heap.size,[],w2,{ target := .fn (.func gf) vs,args := #[.func (.yield w.heap.size) #[] #[]] },w2,gf,
   #[.func (.yield w.heap.size) #[] #[]] ++ vs,w2,?_,?_,fun _ _ => trivial,?_,(fun h => by cases h),?_⟩
  ·rw [← hw2,show (fen (conc G (some id0))).round = some r0.block from by simp [fen,conc,hr0]]
   exact run_enterLoop_inner hw0 _ _ _ _ _
  ·simp only [resolve,hev]
   simp [go_sem]
  ·simp [invoke,go_sem,fn_run he]
  ·have hargs : VL G2 (.yld s.cnt :: caps) (#[.func (.yield w.heap.size) #[] #[]] ++ vs) := by
    have l1 : VL G2 [.yld s.cnt] #[.func (.yield w.heap.size) #[] #[]] := ⟨rfl,fun i x y hx hy => by
     cases i with
     | zero => simp at hx hy; subst hx; subst hy; exact .yld _ _ ownL
     | succ i => simp at hx⟩
    exact l1.append (VL.mono p4.le ⟨hv1,hv2⟩)
   refine (callsIn_fen (h G2 w2 _ p3 hargs)).mono ?_
   rintro e w3 ⟨v,G3,x,s3,rfl,hV3,hs3,hx3,l,g3,hst,hpost⟩
   have ownL3 := hx3.le.own _ _ ownL
   obtain ⟨fn3,tmps3,d3,hw3,hsz3,hVE3⟩ := loop_at hs3 g3 ownL3
   obtain ⟨u1,u2⟩ := loop_turn hs3 (l' := { l with state := .exhausted }) g3 ownL3 hw3 hsz3 hVE3 rfl
   have xall : Ext G s w G3 _ _ := (p4.trans hs hx3).trans hs u2
   have dropH : ∀ i b,eget ([] ++ edel s3.heap s.cnt) i = some b → eget (setLoop s3 s.cnt { l with state := .exhausted }).heap i = some b := fun i b hb => by
    simp only [List.nil_append,get_del] at hb
    simp only [setLoop,get_set]
    split at hb
    ·cases hb
    ·rename_i h2; rw [if_neg h2]; exact hb
   have dropD : ∀ i,eget (setLoop s3 s.cnt { l with state := .exhausted }).heap i = some .dfr → eget ([] ++ edel s3.heap s.cnt) i = some .dfr := fun i hi => by
    simp only [setLoop,get_set] at hi
    split at hi
    ·cases hi
    ·rename_i h2
     simp only [List.nil_append]
     rw [get_del,if_neg h2]; exact hi
   have xfin : Ext G s w G3 ⟨[] ++ edel s3.heap s.cnt,s3.cnt⟩ _ := xall.trans hs (Ext.drop dropH (Nat.le_refl _) dropD)
   have n4 : Now G3 N (some id0) env ⟨[] ++ edel s3.heap s.cnt,s3.cnt⟩ { a with defers := [] ++ a.defers } (w3.putObj w.heap.size (.loop { state := .exhausted,pending := l.pending,fn := fn3,tmps := tmps3,params := l.params.toArray,assign := l.assign,body := l.body,defers := d3 })) :=
    ⟨u1.drop dropH (Nat.le_refl _),hn.env.mono xall.le,hn.size,by simpa using (hn.defs.ext xall).drop dropD,hn.known.le xall.le⟩
   refine ⟨l.pending,_,run_endLoop hw3 hst,?_⟩
   cases hpe : l.pending with
   | none =>
    simp only [hpe] at hpost
    rw [hpe] at n4 xfin
    exact ⟨G3,env,_,n4,xfin,hpost⟩
   | some c =>
    simp only [hpe] at hpost
    rw [hpe] at n4 xfin
    exact AWp.later hpost hs hn.known xfin n4
end
end Go.Am
end
section
namespace Go.Am
open Go.RowKit
def allR (n : Nat) (p : Nat → Bool) : Bool := (List.range n).all p
def optAll {α : Type} (o : Option α) (p : α → Bool) : Bool := match o with
 | some x => p x
 | none => true
theorem optAll_iff {α : Type} {o : Option α} {p : α → Bool} : optAll o p = true ↔ ∀ x ∈ o,p x = true := by
 cases o <;> simp [optAll]
def memB (x : Nat) (l : List Nat) : Bool := l.any fun y => Nat.beq x y
theorem memB_iff {x : Nat} {l : List Nat} : memB x l = true ↔ x ∈ l := by
 simp only [memB,List.any_eq_true]
 constructor
 ·rintro ⟨y,h1,h2⟩; rw [Nat.eq_of_beq_eq_true h2]; exact h1
 ·intro h; exact ⟨x,h,Nat.beq_refl x⟩
def edgesB (l : List Oper) (pre : List (List Nat)) : Bool := allR l.length fun i => optAll l[i]? fun o =>
 (direct o).all (fun p => decide (p < i)) && (preI pre i).all fun p => decide (p < i) && (memB p (direct o) || (direct o).any fun d => memB p (preI pre d))
def eqO (a b : Option Nat) : Bool := match a,b with
 | some x,some y => Nat.beq x y
 | _,_ => false
theorem eqO_some {a b : Option Nat} {t : Nat} (ha : a = some t) (hb : b = some t) : eqO a b = true := by subst ha; subst hb; exact Nat.beq_refl t
theorem eqO_iff {a b : Option Nat} : eqO a b = true → ∃ t,a = some t ∧ b = some t := by
 unfold eqO
 split
 ·rename_i x y; intro h; exact ⟨x,rfl,by rw [Nat.eq_of_beq_eq_true h]⟩
 ·intro h; cases h
def dstsB (l : List Oper) : Bool := allR l.length fun i => allR l.length fun j => !(eqO (dstI l i) (dstI l j)) || Nat.beq i j
def readsB (l : List Oper) (pre : List (List Nat)) : Bool := allR l.length fun i => optAll l[i]? fun o => (slotsI o ++ gslot l o).all fun t =>
 (preI pre i).any (fun u => eqO (dstI l u) (some t)) || allR l.length fun u => !(eqO (dstI l u) (some t)) || memB i (preI pre u)
def permB (l : List Oper) (steps : List Step) : Bool := steps.all (fun st => decide (st.idx < l.length)) && allR l.length (fun i => memB i (steps.map Step.idx)) && decide (steps.map Step.idx).Nodup
def linearB (pre : List (List Nat)) (steps : List Step) : Bool := allR steps.length fun k => optAll steps[k]? fun st => (preI pre st.idx).all fun p => memB p ((steps.take k).map Step.idx)
def xB (xs : List (Nat × Nat)) (x y : Nat) : Bool := xs.any fun p => Nat.beq p.1 x && Nat.beq p.2 y
def waitsB (xs : List (Nat × Nat)) (pre : List (List Nat)) (steps : List Step) : Bool := allR steps.length fun k => optAll steps[k]? fun st => !st.waits || (steps.drop (k + 1)).all fun st2 => st2.isAlloc || memB st.idx (preI pre st2.idx) || xB xs st.idx st2.idx
def kindsB (P : Program) (l : List Oper) (steps : List Step) : Bool := steps.all fun st => optAll l[st.idx]? fun o => match st with
 | .light _ _ => isLight o.op
 | .heavy _ _ => true
 | .alloc _ => (match o.op with | .alloc t => (zeroT P t).isSome | _ => false) && o.guard.isNone && o.dst.isSome
def checksB (l : List Oper) (pre : List (List Nat)) (steps : List Step) : Bool := allR steps.length fun k => optAll steps[k]? fun st => match st with
 | .heavy h chk => (steps.take k).all fun st2 => match st2 with
  | .light j note => optAll l[j]? fun o => stateless o.op || memB j (preI pre h) || (note && memB j chk)
  | _ => true
 | _ => true
def planBX (xs : List (Nat × Nat)) (P : Program) (N : Nat) (l : List Oper) (pre : List (List Nat)) (steps : List Step) : Bool :=
 edgesB l pre && dstsB l && dstsOk N l && guardsOk l && readsB l pre && permB l steps && linearB pre steps && waitsB xs pre steps && kindsB P l steps && checksB l pre steps
def planB (P : Program) (N : Nat) (l : List Oper) (pre : List (List Nat)) (steps : List Step) : Bool := planBX [] P N l pre steps
theorem allR_iff {n : Nat} {p : Nat → Bool} : allR n p = true ↔ ∀ i ∈ List.range n,p i = true := by simp [allR,List.all_eq_true]
theorem planBX_ok {xs : List (Nat × Nat)} {P : Program} {N : Nat} {l : List Oper} {pre : List (List Nat)} {steps : List Step} (h : planBX xs P N l pre steps = true) : PlanOkX (fun x y => xB xs x y = true) P N l pre steps := by
 simp only [planBX,Bool.and_eq_true] at h
 obtain ⟨⟨⟨⟨⟨⟨⟨⟨⟨h1,h2⟩,h3⟩,h4⟩,h5⟩,h6⟩,h7⟩,h8⟩,h9⟩,h10⟩ := h
 refine ⟨?_,?_,h3,h4,?_,?_,?_,?_,?_,?_⟩
 ·intro i hi o ho
  have := optAll_iff.1 (allR_iff.1 h1 i hi) o ho
  simp only [Bool.and_eq_true,List.all_eq_true,decide_eq_true_eq,Bool.or_eq_true,List.any_eq_true,memB_iff] at this
  exact ⟨this.1,fun p hp => ⟨(this.2 p hp).1,(this.2 p hp).2⟩⟩
 ·intro i hi j hj t ht hjt
  have := allR_iff.1 (allR_iff.1 h2 i hi) j hj
  simp only [Bool.or_eq_true,Bool.not_eq_true'] at this
  rcases this with h | h
  ·rw [eqO_some (show dstI l i = some t from ht) hjt] at h; cases h
  ·exact Nat.eq_of_beq_eq_true h
 ·intro i hi o ho t ht
  have := List.all_eq_true.1 (optAll_iff.1 (allR_iff.1 h5 i hi) o ho) t ht
  simp only [Bool.or_eq_true,List.any_eq_true] at this
  rcases this with ⟨u,hu,h⟩ | h
  ·obtain ⟨t',e1,e2⟩ := eqO_iff h
   cases e2
   exact .inl ⟨u,hu,e1⟩
  ·refine .inr fun u hu hd => ?_
   have := allR_iff.1 h u hu
   simp only [Bool.or_eq_true,Bool.not_eq_true'] at this
   rcases this with g | g
   ·rw [eqO_some hd rfl] at g; cases g
   ·exact memB_iff.1 g
 ·simp only [permB,Bool.and_eq_true,List.all_eq_true,decide_eq_true_eq] at h6
  exact ⟨h6.1.1,fun i hi => memB_iff.1 (allR_iff.1 h6.1.2 i hi),h6.2⟩
 ·intro k hk st hst p hp
  exact memB_iff.1 (List.all_eq_true.1 (optAll_iff.1 (allR_iff.1 h7 k hk) st hst) p hp)
 ·intro k hk st hst hw st2 hst2
  have := optAll_iff.1 (allR_iff.1 h8 k hk) st hst
  simp only [hw,Bool.not_true,Bool.false_or,List.all_eq_true,Bool.or_eq_true,Bool.and_eq_true,Bool.not_eq_true',memB_iff] at this
  rcases this st2 hst2 with (g | g) | g
  ·exact .inl g
  ·exact .inr (.inl g)
  ·exact .inr (.inr g)
 ·intro st hst o ho
  have := optAll_iff.1 (List.all_eq_true.1 h9 st hst) o ho
  cases st with
  | light i n => exact this
  | heavy i c => trivial
  | alloc i =>
   simp only [Bool.and_eq_true,Option.isNone_iff_eq_none] at this
   refine ⟨?_,this.1.2,this.2⟩
   have h := this.1.1
   show (match o.op with | .alloc t => (zeroT P t).isSome = true | _ => False)
   cases hop : o.op <;> simp only [hop] at h ⊢ <;> first | exact h | (cases h; done)
 ·intro k hk st hst
  have := optAll_iff.1 (allR_iff.1 h10 k hk) st hst
  cases st with
  | light i n => trivial
  | alloc i => trivial
  | heavy h chk =>
   intro st2 hst2
   have := List.all_eq_true.1 this st2 hst2
   cases st2 with
   | light j note =>
    intro o ho
    have := optAll_iff.1 this o ho
    simp only [Bool.or_eq_true,Bool.and_eq_true,memB_iff] at this
    rcases this with (h | h) | h
    ·exact .inl h
    ·exact .inr (.inl h)
    ·exact .inr (.inr h)
   | heavy i c => trivial
   | alloc i => trivial
theorem planB_ok {P : Program} {N : Nat} {l : List Oper} {pre : List (List Nat)} {steps : List Step} (h : planB P N l pre steps = true) : PlanOk P N l pre steps :=
 let q := planBX_ok h
 ⟨q.edges,q.dsts,q.dstN,q.grd,q.reads,q.perm,q.linear,fun k hk st hst hw st2 h2 => (q.waits k hk st hst hw st2 h2).imp id (Or.imp id fun e => by cases e),q.kinds,q.checks⟩
end Go.Am
end
