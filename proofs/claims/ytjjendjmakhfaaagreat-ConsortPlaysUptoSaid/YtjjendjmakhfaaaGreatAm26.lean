/-
 The logic AM,part 26: the other operations that are told; regions.
 Own work. No Go text.
-/
import Derived.Test.YtjjendjmakhfaaaGreatAmD
set_option linter.all false
namespace Go.Am
open Go.RowKit
def xMake (P : Program) (h : Hint) (t : TypeId) (l c : AV) (s : St) : XR := match l,c,elemT P t with
 | .int _ n,.int _ m,some e => match sizeT P e,bytesT P e,zeroT P e with
  | some sz,some by_,some z => bif Nat.blt 0 sz && Nat.beq z.cells.length sz && z.cells.all AV.scalar && Nat.ble by_ 4096 then
    some (.ms s.cnt 0 h.n,⟨(s.cnt,.cells sz h.l) :: s.heap,s.cnt + 1⟩,[0 ≤ n,n ≤ m,m ≤ maxElems,n.toNat = h.n,List.replicate h.n z = h.l]) else none
  | _,_,_ => none
 | _,_,_ => none
theorem xMake_ok {P : Program} {h : Hint} {t : TypeId} {l c v : AV} {s s' : St} {obs : List Prop} (hx : xMake P h t l c s = some (v,s',obs)) (ho : conj obs) : aMake P t l c s = some (v,s') := by
 unfold xMake at hx
 split at hx
 case h_2 => cases hx
 rename_i n _ m e he
 split at hx
 case h_2 => cases hx
 rename_i sz by_ z h1 h2 h3
 cases hq : Nat.blt 0 sz && Nat.beq z.cells.length sz && z.cells.all AV.scalar && Nat.ble by_ 4096 with
 | false => simp [hq] at hx
 | true =>
  simp only [hq,cond_true] at hx
  cases hx
  obtain ⟨a1,a2,a3,a4,a5⟩ := ho
  simp only [conj] at a5
  simp only [Bool.and_eq_true,Nat.blt_eq,Nat.ble_eq,Nat.beq_eq] at hq
  obtain ⟨⟨⟨q1,q2⟩,q3⟩,q4⟩ := hq
  unfold aMake
  simp only [he,h1,h2,h3]
  rw [if_pos ⟨a1,a2,a3,q1,q2,q3,q4⟩,a4,a5]
def xSrcM (P : Program) (e : TypeId) (k : Nat) (id start : Nat) (s : St) : Option (List AV × Prop) := match eget s.heap id with
 | some (.cells esz elems) => bif eqLen (sizeT P e) esz then some ((elems.drop start).take k,start + k ≤ elems.length) else none
 | _ => none
def xCopyC (P : Program) (h : Hint) (t u : TypeId) (x y : AV) (s : St) : XR := match elemT P t with
 | some e => match y with
  | .mc id' start' len' _ => match xSrcM P e h.n id' start' s with
   | some (new,p) => match x with
    | .ms id start len => match eget s.heap id with
     | some (.cells esz elems) => bif eqLen (sizeT P e) esz then
       some (.int .i64 h.n,⟨eset s.heap id (.cells esz h.l),s.cnt⟩,[p,start + len ≤ elems.length,min len' len = h.n,elems.take start ++ (new ++ elems.drop (start + h.n)) = h.l]) else none
     | _ => none
    | .mc id start len _ => match eget s.heap id with
     | some (.cells esz elems) => bif eqLen (sizeT P e) esz then
       some (.int .i64 h.n,⟨eset s.heap id (.cells esz h.l),s.cnt⟩,[p,start ≤ elems.length,min len' len = h.n,elems.take start ++ (new ++ elems.drop (start + h.n)) = h.l]) else none
     | _ => none
    | _ => none
   | none => none
  | y => match xNew P e u y s,x with
   | some (new,o),.mc id start len _ => match eget s.heap id with
    | some (.cells esz elems) => bif eqLen (sizeT P e) esz then
      some (.int .i64 h.n,⟨eset s.heap id (.cells esz h.l),s.cnt⟩,(start ≤ elems.length) :: (min new.length len = h.n) :: (elems.take start ++ (new.take h.n ++ elems.drop (start + h.n)) = h.l) :: o) else none
    | _ => none
   | some (new,o),.ms id start len => match eget s.heap id with
    | some (.cells esz elems) => bif eqLen (sizeT P e) esz then
      some (.int .i64 h.n,⟨eset s.heap id (.cells esz h.l),s.cnt⟩,(start + len ≤ elems.length) :: (min new.length len = h.n) :: (elems.take start ++ (new.take h.n ++ elems.drop (start + h.n)) = h.l) :: o) else none
    | _ => none
   | _,_ => none
 | none => none
def aCopyB (P : Program) (t : TypeId) (x y : AV) (s : St) : Option (AV × St) := match y with
 | .mc id start len _ => aCopyM P t x id start len s
 | y => match elemT P t,elemsOf y s with
  | some e,some new => if fitsV P e y s then aCopy P t x new s else none
  | _,_ => none
theorem xSrcM_ok {P : Program} {e : TypeId} {k id start : Nat} {s : St} {l : List AV} {p : Prop} (h : xSrcM P e k id start s = some (l,p)) (hp : p) :
  ∃ esz elems,eget s.heap id = some (.cells esz elems) ∧ sizeT P e = some esz ∧ start + k ≤ elems.length ∧ l = (elems.drop start).take k := by
 unfold xSrcM at h
 split at h
 case h_2 => cases h
 rename_i esz elems hg
 cases hq : eqLen (sizeT P e) esz with
 | false => simp [hq] at h
 | true =>
  simp only [hq,cond_true] at h
  cases h
  exact ⟨esz,elems,hg,eqLen_iff.1 hq,hp,rfl⟩
theorem xCopyC_ok {P : Program} {h : Hint} {t u : TypeId} {x y v : AV} {s s' : St} {obs : List Prop} (hx : xCopyC P h t u x y s = some (v,s',obs)) (ho : conj obs) : aCopyB P t x y s = some (v,s') := by
 unfold xCopyC at hx
 split at hx
 case h_2 => cases hx
 rename_i e he
 split at hx
 ·rename_i id' start' len' cap'
  split at hx
  case h_2 => cases hx
  rename_i new p hn
  split at hx
  ·rename_i id start len
   split at hx
   case h_2 => cases hx
   rename_i esz elems hg
   cases hq : eqLen (sizeT P e) esz with
   | false => simp [hq] at hx
   | true =>
    simp only [hq,cond_true] at hx
    cases hx
    obtain ⟨a0,a1,a2,a3⟩ := ho
    simp only [conj] at a3
    obtain ⟨esz',elems',g1,g2,g3,rfl⟩ := xSrcM_ok hn a0
    have hl : ((elems'.drop start').take h.n).length = h.n := by simp; omega
    have hm : min h.n len = h.n := by omega
    simp only [aCopyB,aCopyM,he,g1,lenS,a2]
    rw [if_pos ⟨g2,g3⟩]
    simp only [aCopy,he,hg,hl,hm]
    rw [if_pos ⟨eqLen_iff.1 hq,a1⟩,List.take_of_length_le (Nat.le_of_eq hl),a3]
  ·rename_i id start len cap
   split at hx
   case h_2 => cases hx
   rename_i esz elems hg
   cases hq : eqLen (sizeT P e) esz with
   | false => simp [hq] at hx
   | true =>
    simp only [hq,cond_true] at hx
    cases hx
    obtain ⟨a0,a1,a2,a3⟩ := ho
    simp only [conj] at a3
    obtain ⟨esz',elems',g1,g2,g3,rfl⟩ := xSrcM_ok hn a0
    have hl : ((elems'.drop start').take h.n).length = h.n := by simp; omega
    have hm : min h.n len = h.n := by omega
    simp only [aCopyB,aCopyM,he,g1,lenS,a2]
    rw [if_pos ⟨g2,g3⟩]
    simp only [aCopy,he,hg,hl,hm]
    rw [if_pos ⟨eqLen_iff.1 hq,a1⟩,List.take_of_length_le (Nat.le_of_eq hl),a3]
  ·cases hx
 ·rename_i hy
  split at hx
  case h_3 => cases hx
  all_goals
   rename_i hn
   split at hx
   case h_2 => cases hx
   rename_i esz elems hg
   cases hq : eqLen (sizeT P e) esz with
   | false => simp [hq] at hx
   | true =>
    simp only [hq,cond_true] at hx
    cases hx
    obtain ⟨a1,a2,a3,a4⟩ := by simpa only [conj_cons] using ho
    obtain ⟨n1,n2,n3,n4⟩ := xNew_ok hn a4
    cases y <;> first | exact absurd rfl (hy _ _ _ _) | skip
    all_goals
     simp only [aCopyB,he,n1]
     rw [if_pos n2]
     simp only [aCopy,he,hg]
     rw [if_pos ⟨eqLen_iff.1 hq,a1⟩,a2,a3]
def xAppendC (P : Program) (h : Hint) (t u : TypeId) (x y : AV) (s : St) : XR := match elemT P t,y,x with
 | some e,.int _ n,.mc id start len cap => match sizeT P e,bytesT P e,zeroT P e,eget s.heap id with
  | some sz,some by_,some z,some (.cells esz elems) => bif Nat.blt 0 sz && Nat.ble by_ 4096 && zeroOk P e sz && (intT P u).isSome && Nat.beq sz z.cells.length && z.cells.all AV.scalar && Nat.beq esz sz then
    some (.ms s.cnt 0 h.n,⟨(s.cnt,.cells sz h.l) :: s.heap,s.cnt + 1⟩,[0 ≤ n,n ≤ maxElems,n.toNat = h.m,h.m ≠ 0,start + len ≤ elems.length,cap < len + h.m,len + h.m ≤ maxElems,len + h.m = h.n,(elems.drop start).take len ++ List.replicate h.m z = h.l]) else none
  | _,_,_,_ => none
 | _,_,_ => none
theorem xAppendC_ok {P : Program} {h : Hint} {t u : TypeId} {x y v : AV} {s s' : St} {obs : List Prop} (hx : xAppendC P h t u x y s = some (v,s',obs)) (ho : conj obs) :
  ∃ k n e z,y = .int k n ∧ elemT P t = some e ∧ zeroT P e = some z ∧ (0 ≤ n ∧ n ≤ maxElems ∧ (intT P u).isSome = true ∧ sizeT P e = some z.cells.length ∧ z.cells.all AV.scalar = true) ∧ aAppend P t x (List.replicate n.toNat z) s = some (v,s') := by
 unfold xAppendC at hx
 split at hx
 case h_2 => cases hx
 rename_i e k n id start len cap he
 split at hx
 case h_2 => cases hx
 rename_i sz by_ z esz elems hsz hby hz hg
 cases hq : Nat.blt 0 sz && Nat.ble by_ 4096 && zeroOk P e sz && (intT P u).isSome && Nat.beq sz z.cells.length && z.cells.all AV.scalar && Nat.beq esz sz with
 | false => simp [hq] at hx
 | true =>
  simp only [hq,cond_true] at hx
  cases hx
  simp only [Bool.and_eq_true,Nat.blt_eq,Nat.ble_eq,Nat.beq_eq] at hq
  obtain ⟨⟨⟨⟨⟨⟨q1,q2⟩,q3⟩,q4⟩,q5⟩,q6⟩,q7⟩ := hq
  obtain ⟨a1,a2,a3,a4,a5,a6,a7,a8,a9⟩ := ho
  simp only [conj] at a9
  refine ⟨k,n,e,z,rfl,he,hz,⟨a1,a2,q4,by rw [hsz,q5],q6⟩,?_⟩
  rw [a3]
  simp only [aAppend,he,hsz,hby,hg]
  rw [if_pos ⟨q1,q2,q3⟩,List.length_replicate,if_pos ⟨fun e => a4 (by have := congrArg List.length e; simpa using this),q7,a5,a6,a7⟩,a8,a9]
def xBound (env : Env) (x : Option Operand) (d k : Nat) : Option (List Prop) := match x with
 | none => some [d = k]
 | some o => match oper env o with
  | some (.int _ n) => some [0 ≤ n,n.toNat = k]
  | _ => none
theorem xBound_ok {env : Env} {x : Option Operand} {d k : Nat} {o : List Prop} (h : xBound env x d k = some o) (ho : conj o) : aBound env x d = some k := by
 unfold xBound at h
 unfold aBound
 split at h
 ·cases h
  have ho : d = k := ho
  rw [ho]
 ·split at h
  case h_2 => cases h
  rename_i n hn
  cases h
  obtain ⟨a1,a2⟩ := ho
  simp only [conj] at a2
  simp [hn,a1,a2]
def xSlice (P : Program) (h : Hint) (t : TypeId) (x : AV) (env : Env) (lo hi mx : Option Operand) (s : St) : XR := match x with
 | .str b => bif strT P t && mx.isNone then match xBound env lo 0 h.n,xBound env hi b.size h.m with
   | some o1,some o2 => some (.str (b.extract h.n h.m),s,(h.n ≤ h.m) :: (h.m ≤ b.size) :: (o1 ++ o2))
   | _,_ => none
  else none
 | .sl full elems => match elemT P t with
  | some e => bif (sizeT P e).isSome then match xBound env lo 0 h.n,xBound env hi elems.length h.m,mx with
   | some o1,some o2,none => some (.sl h.b h.l,s,(h.n ≤ h.m) :: (h.m ≤ elems.length) :: (fits P e elems) :: ((full && h.m == elems.length) = h.b) :: ((elems.take h.m).drop h.n = h.l) :: (o1 ++ o2))
   | some o1,some o2,some m => match xBound env (some m) 0 h.p,hi.isSome with
    | some o3,true => some (.sl h.b h.l,s,(h.n ≤ h.m) :: (h.m ≤ h.p) :: (h.p ≤ elems.length) :: (fits P e elems) :: ((h.p == h.m) = h.b) :: ((elems.take h.m).drop h.n = h.l) :: (o1 ++ (o2 ++ o3)))
    | _,_ => none
   | _,_,_ => none else none
  | none => none
 | .ms id start len => match elemT P t with
  | some e => match eget s.heap id with
   | some (.cells esz _) => bif eqLen (sizeT P e) esz then match xBound env lo 0 h.n,xBound env hi len h.m,mx with
    | some o1,some o2,none => some (.ms id h.q h.p,s,(h.n ≤ h.m) :: (h.m ≤ len) :: (start + h.n = h.q) :: (h.m - h.n = h.p) :: (o1 ++ o2))
    | some o1,some o2,some m => match xBound env (some m) 0 h.r,hi.isSome with
     | some o3,true => some (.ms id h.q h.p,s,(h.n ≤ h.m) :: (h.m ≤ h.r) :: (h.r ≤ len) :: (start + h.n = h.q) :: (h.m - h.n = h.p) :: (o1 ++ (o2 ++ o3)))
     | _,_ => none
    | _,_,_ => none else none
   | _ => none
  | none => none
 | .mc id start len cap => match elemT P t with
  | some e => match eget s.heap id with
   | some (.cells esz _) => bif eqLen (sizeT P e) esz then match xBound env lo 0 h.n,xBound env hi len h.m,mx with
    | some o1,some o2,none => some (.mc id h.q h.p h.r,s,(h.n ≤ h.m) :: (h.m ≤ cap) :: (start + h.n = h.q) :: (h.m - h.n = h.p) :: (cap - h.n = h.r) :: (o1 ++ o2))
    | _,_,_ => none else none
   | _ => none
  | none => none
 | _ => none
theorem xSlice_ok {P : Program} {h : Hint} {t : TypeId} {x v : AV} {env : Env} {lo hi mx : Option Operand} {s s' : St} {obs : List Prop} (hx : xSlice P h t x env lo hi mx s = some (v,s',obs)) (ho : conj obs) :
  aSlice P t x env lo hi mx s = some v ∧ s' = s := by
 unfold xSlice at hx
 unfold aSlice
 split at hx
 ·rename_i b
  cases hq : strT P t && mx.isNone with
  | false => simp [hq] at hx
  | true =>
   simp only [hq,cond_true] at hx
   split at hx
   case h_2 => cases hx
   rename_i o1 o2 h1 h2
   cases hx
   obtain ⟨a1,a2,a3⟩ := by simpa only [conj_cons] using ho
   obtain ⟨a3,a4⟩ := conj_append.1 a3
   simp only [Bool.and_eq_true] at hq
   simp only [xBound_ok h1 a3,xBound_ok h2 a4]
   rw [if_pos hq,if_pos ⟨a1,a2⟩]
   exact ⟨rfl,trivial⟩
 ·rename_i full elems
  split at hx
  case h_2 => cases hx
  rename_i e he
  simp only [he]
  cases hq : (sizeT P e).isSome with
  | false => simp [hq] at hx
  | true =>
   simp only [hq,cond_true] at hx
   split at hx
   ·rename_i o1 o2 h1 h2
    cases hx
    obtain ⟨a1,a2,a3,a4,a5,a6⟩ := by simpa only [conj_cons] using ho
    obtain ⟨a6,a7⟩ := conj_append.1 a6
    simp only [xBound_ok h1 a6,xBound_ok h2 a7]
    rw [if_pos ⟨a1,a2,a3,trivial⟩,a4,a5]
    exact ⟨rfl,trivial⟩
   ·rename_i o1 o2 mo h1 h2
    split at hx
    case h_2 => cases hx
    rename_i o3 h3 hs
    cases hx
    obtain ⟨a1,a2,a3,a4,a5,a6,a7⟩ := by simpa only [conj_cons] using ho
    obtain ⟨a7,a8⟩ := conj_append.1 a7
    obtain ⟨a8,a9⟩ := conj_append.1 a8
    simp only [xBound_ok h1 a7,xBound_ok h2 a8,xBound_ok h3 a9]
    rw [if_pos ⟨a1,a2,a3,hs,a4,trivial⟩,a5,a6]
    exact ⟨rfl,trivial⟩
   ·cases hx
 ·rename_i id start len
  split at hx
  case h_2 => cases hx
  rename_i e he
  simp only [he]
  split at hx
  case h_2 => cases hx
  rename_i esz elems hg
  simp only [hg]
  cases hq : eqLen (sizeT P e) esz with
  | false => simp [hq] at hx
  | true =>
   simp only [hq,cond_true] at hx
   split at hx
   ·rename_i o1 o2 h1 h2
    cases hx
    obtain ⟨a1,a2,a3,a4,a5⟩ := by simpa only [conj_cons] using ho
    obtain ⟨a5,a6⟩ := conj_append.1 a5
    simp only [xBound_ok h1 a5,xBound_ok h2 a6]
    rw [if_pos ⟨a1,a2,eqLen_iff.1 hq⟩,a3,a4]
    exact ⟨rfl,trivial⟩
   ·rename_i o1 o2 mo h1 h2
    split at hx
    case h_2 => cases hx
    rename_i o3 h3 hs
    cases hx
    obtain ⟨a1,a2,a3,a4,a5,a6⟩ := by simpa only [conj_cons] using ho
    obtain ⟨a6,a7⟩ := conj_append.1 a6
    obtain ⟨a7,a8⟩ := conj_append.1 a7
    simp only [xBound_ok h1 a6,xBound_ok h2 a7,xBound_ok h3 a8]
    rw [if_pos ⟨a1,a2,a3,hs,eqLen_iff.1 hq⟩,a4,a5]
    exact ⟨rfl,trivial⟩
   ·cases hx
 ·rename_i id start len cap
  split at hx
  case h_2 => cases hx
  rename_i e he
  simp only [he]
  split at hx
  case h_2 => cases hx
  rename_i esz elems hg
  simp only [hg]
  cases hq : eqLen (sizeT P e) esz with
  | false => simp [hq] at hx
  | true =>
   simp only [hq,cond_true] at hx
   split at hx
   case h_2 => cases hx
   rename_i o1 o2 h1 h2
   cases hx
   obtain ⟨a1,a2,a3,a4,a4',a5⟩ := by simpa only [conj_cons] using ho
   obtain ⟨a5,a6⟩ := conj_append.1 a5
   simp only [xBound_ok h1 a5,xBound_ok h2 a6]
   rw [if_pos ⟨a1,a2,eqLen_iff.1 hq⟩,a3,a4,a4']
   exact ⟨rfl,trivial⟩
 ·cases hx
def xIndex (P : Program) (h : Hint) (t : TypeId) (x i : AV) (s : St) : XR := match i,x with
 | .int _ n,.str b => bif strT P t then some (.int .u8 h.u.toNat,s,[0 ≤ n,b[n.toNat]? = some h.u]) else none
 | _,_ => none
theorem xIndex_ok {P : Program} {h : Hint} {t : TypeId} {x i v : AV} {s s' : St} {obs : List Prop} (hx : xIndex P h t x i s = some (v,s',obs)) (ho : conj obs) : aIndex P t x i = some v ∧ s' = s := by
 unfold xIndex at hx
 split at hx
 case h_2 => cases hx
 rename_i n b
 cases hq : strT P t with
 | false => simp [hq] at hx
 | true =>
  simp only [hq,cond_true] at hx
  cases hx
  obtain ⟨a1,a2⟩ := ho
  simp only [conj] at a2
  simp [aIndex,hq,a1,a2]
def xInt (op : BinOp) (k : IntKind) (x y : Int) : Option (AV × List Prop) := match op with
 | .quo => some (.int k (k.wrap (x.tdiv y)),[y ≠ 0])
 | .rem => some (.int k (x.tmod y),[y ≠ 0])
 | .shl => some (.int k (k.wrap (x * 2 ^ (min y.toNat k.bits))),[0 ≤ y])
 | .shr => some (.int k (x.fdiv (2 ^ (min y.toNat k.bits))),[0 ≤ y])
 | _ => none
def xBin (op : BinOp) (x y : AV) (s : St) : XR := match x,y with
 | .int k a,.int _ b => match xInt op k a b with
  | some (v,o) => some (v,s,o)
  | none => none
 | .str a,.str b => match op with
  | .add => some (.str (a ++ b),s,[a.size + b.size ≤ maxLen])
  | _ => none
 | _,_ => none
def kindEq (op : BinOp) (x y : AV) : Bool := match op,x,y with
 | .shl,_,_ => true
 | .shr,_,_ => true
 | _,.int k _,.int k' _ => decide (k = k')
 | _,_,_ => true
theorem xBin_ok {P : Program} {op : BinOp} {t : TypeId} {x y v : AV} {s s' : St} {obs : List Prop} (hk : kindEq op x y = true) (hx : xBin op x y s = some (v,s',obs)) (ho : conj obs) : aBin P op t x y = some v ∧ s' = s := by
 unfold xBin at hx
 split at hx
 ·rename_i k a k' b
  split at hx
  case h_2 => cases hx
  rename_i v0 o hi
  cases hx
  unfold xInt at hi
  cases op <;> simp only [] at hi <;> first | (cases hi; done) | skip
  all_goals
   cases hi
   simp only [conj] at ho
   simp only [kindEq,decide_eq_true_eq] at hk
   simp [aBin,aInt,hk,ho] <;> omega
 ·cases op <;> simp only [] at hx <;> first | (cases hx; done) | skip
  cases hx
  have ho : _ ≤ _ := ho
  simp [aBin,ho]
 ·cases hx
def xop (P : Program) (h : Hint) (op : Op) (env : Env) (s : St) : XR := bif Nat.beq h.k 0 then plain (aop P op env s) else match op with
 | .pick c a b => match oper env c with
  | some (.bool t) => match (bif h.b then oper env a else oper env b) with
   | some v => some (v,s,[t = h.b])
   | none => none
  | _ => none
 | .load t p => match oper env p with
  | some p => xLoad P h t p s
  | none => none
 | .store t p x => match oper env p,oper env x with
  | some p,some x => xStore P h t p x s
  | _,_ => none
 | .binOp op _ x y _ => match oper env x,oper env y with
  | some x,some y => bif kindEq op x y then xBin op x y s else none
  | _,_ => none
 | .slice t x lo hi mx => match oper env x with
  | some x => xSlice P h t x env lo hi mx s
  | none => none
 | .indexAddr t x i => match oper env x,oper env i with
  | some x,some i => xIdx P h t x i s
  | _,_ => none
 | .index t x i => match oper env x,oper env i with
  | some x,some i => xIndex P h t x i s
  | _,_ => none
 | .makeSlice t l c => match oper env l,oper env c with
  | some l,some c => xMake P h t l c s
  | _,_ => none
 | .call c => match c.callee with
  | .builtin .len => match opers env c.args.toList,c.argTypes[0]? with
   | some [x],some t => xLen P h t x s
   | _,_ => none
  | .builtin .append => match opers env c.args.toList,c.argTypes[0]?,c.argTypes[1]? with
   | some [x,y],some t,some u => bif Nat.beq h.k 5 then xAppendC P h t u x y s else xAppend P h t u x y s
   | _,_,_ => none
  | .builtin .copy => match opers env c.args.toList,c.argTypes[0]?,c.argTypes[1]? with
   | some [x,y],some t,some u => xCopyC P h t u x y s
   | _,_,_ => none
  | _ => none
 | _ => none
theorem xop_ok {P : Program} {h : Hint} {op : Op} {env : Env} {s s' : St} {v : AV} {obs : List Prop} (hx : xop P h op env s = some (v,s',obs)) (ho : conj obs) : aop P op env s = some (v,s') := by
 unfold xop at hx
 cases hk : Nat.beq h.k 0 with
 | true =>
  simp only [hk,cond_true] at hx
  unfold plain at hx
  split at hx
  ·rename_i hq; cases hx; exact hq
  ·cases hx
 | false =>
  simp only [hk,cond_false] at hx
  split at hx
  ·rename_i c a b
   split at hx
   case h_2 => cases hx
   rename_i t ht
   split at hx
   case h_2 => cases hx
   rename_i v0 hv
   cases hx
   have ho : t = h.b := ho
   simp only [aop,ht]
   subst ho
   cases hb : h.b with
   | true => simp only [hb,cond_true] at hv; simp [hv,ekeep]
   | false => simp only [hb,cond_false] at hv; simp [hv,ekeep]
  ·split at hx
   case h_2 => cases hx
   rename_i p hp
   obtain ⟨h1,rfl⟩ := xLoad_ok hx ho
   simp [aop,hp,h1,ekeep]
  ·split at hx
   case h_2 => cases hx
   rename_i p y hp hy
   obtain ⟨h1,rfl⟩ := xStore_ok hx ho
   simp [aop,hp,hy,h1]
  ·split at hx
   case h_2 => cases hx
   rename_i x y hp hy
   generalize hq : kindEq _ x y = q at hx
   cases q with
   | false => cases hx
   | true =>
    simp only [cond_true] at hx
    obtain ⟨h1,rfl⟩ := xBin_ok hq hx ho
    simp only [aop,hp,hy]
    rw [h1]; rfl
  ·split at hx
   case h_2 => cases hx
   rename_i p hp
   obtain ⟨h1,rfl⟩ := xSlice_ok hx ho
   simp [aop,hp,h1,ekeep]
  ·split at hx
   case h_2 => cases hx
   rename_i x y hp hy
   obtain ⟨h1,rfl⟩ := xIdx_ok hx ho
   simp [aop,hp,hy,h1,ekeep]
  ·split at hx
   case h_2 => cases hx
   rename_i x y hp hy
   obtain ⟨h1,rfl⟩ := xIndex_ok hx ho
   simp [aop,hp,hy,h1,ekeep]
  ·split at hx
   case h_2 => cases hx
   rename_i x y hp hy
   have h1 := xMake_ok hx ho
   simp [aop,hp,hy,h1]
  ·rename_i c
   split at hx
   ·rename_i hc
    split at hx
    case h_2 => cases hx
    rename_i x t h1 h2
    obtain ⟨h3,rfl⟩ := xLen_ok hx ho
    simp [aop,hc,h1,h2,h3,ekeep]
   ·rename_i hc
    split at hx
    case h_2 => cases hx
    rename_i x y t u h1 h2 h3
    cases hk5 : Nat.beq h.k 5 with
    | true =>
     simp only [hk5,cond_true] at hx
     obtain ⟨k,n,e,z,rfl,e1,e2,e3,e4⟩ := xAppendC_ok hx ho
     simp only [aop,hc,h1,h2,h3,e1,e2]
     rw [if_pos e3,e4]
    | false =>
     simp only [hk5,cond_false] at hx
     obtain ⟨e,new,e1,e2,e3,e4,e5,e6⟩ := xAppend_ok hx ho
     simp only [aop,hc,h1,h2,h3]
     cases y <;> simp only [AV.isInt] at e5 <;> first | (cases e5; done) | skip
     all_goals simp [e1,e2,e3,e4,e6]
   ·rename_i hc
    split at hx
    case h_2 => cases hx
    rename_i x y t u h1 h2 h3
    have h4 := xCopyC_ok hx ho
    simp only [aCopyB] at h4
    simp only [aop,hc,h1,h2]
    exact h4
   ·cases hx
  ·cases hx
def xstep (P : Program) (h : Hint) (op : Op) (env : Env) (s : St) : XR := match callOf op with
 | some (f,args) => match oper env f,opers env args,h.c with
  | some (.fn g caps),some l,some (v,s') => bif enters P g then some (v,s',[ACalls P g (l ++ caps) s fun y t => y = v ∧ t = s']) else none
  | some (.yld id),some l,some (v,s') => some (v,s',[AYield P id l s fun y t => y = v ∧ t = s'])
  | some (.fn g caps),some l,none => bif enters P g then some (h.x,s,[APure P g (l ++ caps) h.x]) else none
  | _,_,_ => none
 | none => xop P h op env s
theorem xstep_ok {P : Program} {h : Hint} {op : Op} {env : Env} {s s' : St} {v : AV} {obs : List Prop} {K : AV → St → Prop} (hx : xstep P h op env s = some (v,s',obs)) (ho : conj obs) (hk : K v s') : ows P op K env s := by
 unfold xstep at hx
 unfold ows
 split at hx
 ·rename_i f args hc
  simp only [hc]
  split at hx
  ·rename_i g caps l v0 s0 h1 h2 h3
   simp only [h1,h2]
   cases he : enters P g with
   | false => simp [he] at hx
   | true =>
    simp only [he,cond_true] at hx
    cases hx
    have ho : ACalls P g (l ++ caps) s _ := ho
    exact ⟨rfl,ho.mono fun y t ⟨e1,e2⟩ => by subst e1; subst e2; exact hk⟩
  ·rename_i id l v0 s0 h1 h2 h3
   simp only [h1,h2]
   cases hx
   have ho : AYield P id l s _ := ho
   exact AYield.mono ho fun y t ⟨e1,e2⟩ => by subst e1; subst e2; exact hk
  ·rename_i g caps l h1 h2 h3
   simp only [h1,h2]
   cases he : enters P g with
   | false => simp [he] at hx
   | true =>
    simp only [he,cond_true] at hx
    cases hx
    have ho : APure P g (l ++ caps) h.x := ho
    exact ⟨rfl,(ho s).mono fun y t ⟨e1,e2⟩ => by subst e1; subst e2; exact hk⟩
  ·cases hx
 ·rename_i hc
  simp only [hc,xop_ok hx ho]
  exact hk
def hd (hs : List Hint) : Hint := match hs with
 | h :: _ => h
 | [] => {}
structure Told where
 i : Nat
 op : Op
 e : Env
 v : AV
 h : Hint
def xchk (P : Program) (tr : List Told) (s : St) : List Nat → Option (List Prop)
 | [] => some []
 | j :: r => match tr.find? (fun t => Nat.beq t.i j) with
  | some t => match xop P t.h t.op t.e s,xchk P tr s r with
   | some (v,_,o),some o2 => some ((v = t.v) :: (o ++ o2))
   | _,_ => none
  | none => xchk P tr s r
def noted (b : Bool) (t : Told) (tr : List Told) : List Told := bif b then t :: tr else tr
def xdr (P : Program) : List DI → List Hint → List Told → Env → St → Option (Env × St × List Prop)
 | [],_,_,env,s => some (env,s,[])
 | ⟨.light i note,some n,sl⟩ :: r,hs,tr,env,s => match n.guard with
  | none => match xop P (hd hs) n.op (envOf sl env) s with
   | some (v,_,o) => match xdr P r hs.tail (noted note ⟨i,n.op,envOf sl env,v,hd hs⟩ tr) (eput n.dst v env) s with
    | some (e2,s2,o2) => some (e2,s2,o ++ o2)
    | none => none
   | none => none
  | some (d,want) => match eget env d with
   | some (.bool b) => bif (hd hs).g then (match xop P (hd hs) n.op (envOf sl (eset env d (.bool want))) s with
    | some (v,_,o) => match xdr P r hs.tail (noted note ⟨i,n.op,envOf sl (eset env d (.bool want)),v,hd hs⟩ tr) (eput n.dst v (eset env d (.bool want))) s with
     | some (e2,s2,o2) => some (e2,s2,(b = want) :: (o ++ o2))
     | none => none
    | none => none) else match xdr P r hs.tail tr (eput n.dst (.tup []) (eset env d (.bool (!want)))) s with
     | some (e2,s2,o2) => some (e2,s2,(b = !want) :: o2)
     | none => none
   | some (.tup []) => xdr P r hs.tail tr (eput n.dst (.tup []) env) s
   | _ => none
 | ⟨.heavy _ chk,some n,sl⟩ :: r,hs,tr,env,s => match n.guard with
  | none => match xstep P (hd hs) n.op (envOf sl env) s with
   | some (v,s',o) => match xchk P tr s' chk,xdr P r hs.tail tr (eput n.dst v env) s' with
    | some o1,some (e2,s2,o2) => some (e2,s2,o ++ (o1 ++ o2))
    | _,_ => none
   | none => none
  | some (d,want) => match eget env d with
   | some (.bool b) => bif (hd hs).g then (match xstep P (hd hs) n.op (envOf sl (eset env d (.bool want))) s with
    | some (v,s',o) => match xchk P tr s' chk,xdr P r hs.tail tr (eput n.dst v (eset env d (.bool want))) s' with
     | some o1,some (e2,s2,o2) => some (e2,s2,(b = want) :: (o ++ (o1 ++ o2)))
     | _,_ => none
    | none => none) else match xdr P r hs.tail tr (eput n.dst (.tup []) (eset env d (.bool (!want)))) s with
     | some (e2,s2,o2) => some (e2,s2,(b = !want) :: o2)
     | none => none
   | some (.tup []) => xdr P r hs.tail tr (eput n.dst (.tup []) env) s
   | _ => none
 | ⟨.alloc _,some n,_⟩ :: r,hs,tr,env,s => match aop P n.op [] s with
  | some (v,s') => xdr P r hs.tail tr (eput n.dst v env) s'
  | none => none
 | ⟨_,none,_⟩ :: _,_,_,_,_ => none
def told (t : Told) : Nat × Op × Env × AV := (t.i,t.op,t.e,t.v)
theorem findD_told : ∀ (tr : List Told) (j : Nat),findD (tr.map told) j = (tr.find? (fun t => Nat.beq t.i j)).map fun t => (t.op,t.e,t.v)
 | [],j => rfl
 | t :: r,j => by
  simp only [List.map_cons,told,findD,List.find?_cons]
  by_cases h : t.i = j
  ·have hb : Nat.beq t.i j = true := by rw [h]; exact Nat.beq_refl j
   rw [if_pos h,hb]; rfl
  ·have hb : Nat.beq t.i j = false := by
    cases hq : Nat.beq t.i j with
    | false => rfl
    | true => exact absurd (Nat.eq_of_beq_eq_true hq) h
   rw [if_neg h,hb]
   exact findD_told r j
theorem xchk_ok {P : Program} {tr : List Told} {s : St} (hl : ∀ t ∈ tr,isLight t.op = true) : ∀ {chk : List Nat} {o : List Prop},xchk P tr s chk = some o → conj o → chkD P (tr.map told) s chk
 | [],_,_,_ => trivial
 | j :: r,o,h,ho => by
  unfold xchk at h
  unfold chkD
  rw [findD_told]
  split at h
  ·rename_i t ht
   simp only [ht,Option.map_some]
   split at h
   case h_2 => cases h
   rename_i v s1 o1 o2 h1 h2
   cases h
   obtain ⟨a0,a1⟩ := conj_cons.1 ho
   obtain ⟨a1,a2⟩ := conj_append.1 a1
   have hx := xop_ok h1 a1
   have hs := light_same (hl t (List.mem_of_find?_eq_some ht)) hx
   subst hs
   subst a0
   exact ⟨hx,xchk_ok hl h2 a2⟩
  ·rename_i ht
   simp only [ht,Option.map_none]
   exact ⟨trivial,xchk_ok hl h ho⟩
def lightD : DI → Bool
 | ⟨.light _ _,some n,_⟩ => isLight n.op
 | _ => true
theorem noted_light {b : Bool} {t : Told} {tr : List Told} (h : ∀ t ∈ tr,isLight t.op = true) (ht : isLight t.op = true) : ∀ t' ∈ noted b t tr,isLight t'.op = true := by
 unfold noted
 cases b with
 | false => exact h
 | true =>
  intro t' h'
  simp only [cond_true,List.mem_cons] at h'
  rcases h' with rfl | h'
  ·exact ht
  ·exact h t' h'
theorem noted_told {b : Bool} {t : Told} {tr : List Told} : (noted b t tr).map told = if b then told t :: tr.map told else tr.map told := by cases b <;> rfl
theorem xdr_ok {P : Program} {K : Env → St → Prop} : ∀ {D : List DI} {hs : List Hint} {tr : List Told} {env e2 : Env} {s s2 : St} {obs : List Prop},D.all lightD = true → (∀ t ∈ tr,isLight t.op = true) →
  xdr P D hs tr env s = some (e2,s2,obs) → conj obs → K e2 s2 → dq P K D (tr.map told) env s
 | [],_,_,_,_,_,_,_,_,_,h,_,hk => by cases h; exact hk
 | ⟨.light i note,some n,sl⟩ :: r,hs,tr,env,e2,s,s2,obs,hD,hl,h,ho,hk => by
  simp only [List.all_cons,Bool.and_eq_true] at hD
  have ne : ∀ b w : Bool,b = w → ¬ b = !w := by decide
  have ne' : ∀ b w : Bool,(b = !w) → ¬ b = w := by decide
  have key : ∀ {env : Env} {v : AV} {s1 : St} {o : List Prop} {e3 : Env} {s3 : St} {o3 : List Prop},xop P (hd hs) n.op (envOf sl env) s = some (v,s1,o) → conj o →
    xdr P r hs.tail (noted note ⟨i,n.op,envOf sl env,v,hd hs⟩ tr) (eput n.dst v env) s = some (e3,s3,o3) → conj o3 → K e3 s3 →
    (match aop P n.op (envOf sl env) s with
    | some (v,_) => dq P K r (if note then (i,n.op,envOf sl env,v) :: tr.map told else tr.map told) (eput n.dst v env) s
    | none => False) := fun h1 a1 h2 a2 hk => by
   have hi : isLight n.op = true := hD.1
   have := xdr_ok hD.2 (noted_light hl hi) h2 a2 hk
   rw [noted_told] at this
   rw [xop_ok h1 a1]
   exact this
  unfold xdr at h
  unfold dq gwq
  split at h
  ·rename_i hg
   simp only [hg]
   split at h
   case h_2 => cases h
   rename_i v s' o h1
   split at h
   case h_2 => cases h
   rename_i e3 s3 o3 h2
   cases h
   obtain ⟨a1,a2⟩ := conj_append.1 ho
   exact key h1 a1 h2 a2 hk
  ·rename_i d want hg
   simp only [hg]
   split at h
   ·rename_i b hb
    simp only [hb]
    generalize hq : (hd hs).g = q at h
    cases q with
    | true =>
     simp only [cond_true] at h
     split at h
     case h_2 => cases h
     rename_i v s' o h1
     split at h
     case h_2 => cases h
     rename_i e3 s3 o3 h2
     cases h
     obtain ⟨a0,a1⟩ := conj_cons.1 ho
     obtain ⟨a1,a2⟩ := conj_append.1 a1
     exact ⟨fun _ => key h1 a1 h2 a2 hk,fun e => absurd e (ne _ _ a0)⟩
    | false =>
     simp only [cond_false] at h
     split at h
     case h_2 => cases h
     rename_i e3 s3 o3 h2
     cases h
     obtain ⟨a0,a1⟩ := conj_cons.1 ho
     exact ⟨fun e => absurd e (ne' _ _ a0),fun _ => xdr_ok hD.2 hl h2 a1 hk⟩
   ·rename_i hb
    simp only [hb]
    exact xdr_ok hD.2 hl h ho hk
   ·cases h
 | ⟨.heavy i chk,some n,sl⟩ :: r,hs,tr,env,e2,s,s2,obs,hD,hl,h,ho,hk => by
  simp only [List.all_cons,Bool.and_eq_true] at hD
  have ne : ∀ b w : Bool,b = w → ¬ b = !w := by decide
  have ne' : ∀ b w : Bool,(b = !w) → ¬ b = w := by decide
  unfold xdr at h
  unfold dq gwq
  split at h
  ·rename_i hg
   simp only [hg]
   split at h
   case h_2 => cases h
   rename_i v s' o h1
   split at h
   case h_2 => cases h
   rename_i o1 e3 s3 o3 h2 h3
   cases h
   obtain ⟨a1,a2⟩ := conj_append.1 ho
   obtain ⟨a2,a3⟩ := conj_append.1 a2
   exact xstep_ok (K := fun v s' => chkD P (tr.map told) s' chk ∧ dq P K r (tr.map told) (eput n.dst v env) s') h1 a1 ⟨xchk_ok hl h2 a2,xdr_ok hD.2 hl h3 a3 hk⟩
  ·rename_i d want hg
   simp only [hg]
   split at h
   ·rename_i b hb
    simp only [hb]
    generalize hq : (hd hs).g = q at h
    cases q with
    | true =>
     simp only [cond_true] at h
     split at h
     case h_2 => cases h
     rename_i v s' o h1
     split at h
     case h_2 => cases h
     rename_i o1 e3 s3 o3 h2 h3
     cases h
     obtain ⟨a0,a1⟩ := conj_cons.1 ho
     obtain ⟨a1,a2⟩ := conj_append.1 a1
     obtain ⟨a2,a3⟩ := conj_append.1 a2
     exact ⟨fun _ => xstep_ok (K := fun v s' => chkD P (tr.map told) s' chk ∧ dq P K r (tr.map told) (eput n.dst v (eset env d (.bool want))) s') h1 a1 ⟨xchk_ok hl h2 a2,xdr_ok hD.2 hl h3 a3 hk⟩,fun e => absurd e (ne _ _ a0)⟩
    | false =>
     simp only [cond_false] at h
     split at h
     case h_2 => cases h
     rename_i e3 s3 o3 h2
     cases h
     obtain ⟨a0,a1⟩ := conj_cons.1 ho
     exact ⟨fun e => absurd e (ne' _ _ a0),fun _ => xdr_ok hD.2 hl h2 a1 hk⟩
   ·rename_i hb
    simp only [hb]
    exact xdr_ok hD.2 hl h ho hk
   ·cases h
 | ⟨.alloc i,some n,sl⟩ :: r,hs,tr,env,e2,s,s2,obs,hD,hl,h,ho,hk => by
  simp only [List.all_cons,Bool.and_eq_true] at hD
  unfold xdr at h
  unfold dq
  split at h
  case h_2 => cases h
  rename_i v s' h1
  simp only [h1]
  exact xdr_ok hD.2 hl h ho hk
 | ⟨.light _ _,none,_⟩ :: _,_,_,_,_,_,_,_,_,_,h,_,_ => by cases h
 | ⟨.heavy _ _,none,_⟩ :: _,_,_,_,_,_,_,_,_,_,h,_,_ => by cases h
 | ⟨.alloc _,none,_⟩ :: _,_,_,_,_,_,_,_,_,_,h,_,_ => by cases h
section
variable {P : Program} {N : Nat} {ρ : Option Nat} {Q : Exit → Env → St → Prop} {env E2 : Env} {s S2 : St} {c : Code} {obs : List Prop}
theorem awp_y0 (hs : List Hint) {id : Nat} {ops : Array Oper} {pre : List (List Nat)} {steps : List Step} (hc : c = .region id ops true) (hp : PlanOk P N ops.toList pre steps) (hm : P.follows .mixedOrders = true)
  (hl : (mkD (ins ops.toList) steps).all lightD = true) (hx : xdr P (mkD (ins ops.toList) steps) hs [] env s = some (E2,S2,obs)) (ho : conj obs) (h : Q .normal E2 S2) : AWp P N ρ c Q env s := by
 have := xdr_ok (K := fun env s => Q .normal env s) hl (tr := []) (by simp) hx ho h
 subst hc
 exact awp_draw pre steps ops.toList rfl hm hp (dwq_dws (dq_dwq (tr := []) (by rw [mkD_eq] at this; exact this)))
theorem awp_y1 (hs : List Hint) {y : Code} {id : Nat} {ops : Array Oper} {pre : List (List Nat)} {steps : List Step} (hc : c = .seq (.region id ops true) y) (hp : PlanOk P N ops.toList pre steps) (hm : P.follows .mixedOrders = true)
  (hl : (mkD (ins ops.toList) steps).all lightD = true) (hx : xdr P (mkD (ins ops.toList) steps) hs [] env s = some (E2,S2,obs)) (ho : conj obs) (h : AWp P N ρ y Q E2 S2) : AWp P N ρ c Q env s := by
 subst hc
 exact awp_seq (awp_y0 hs rfl hp hm hl hx ho h)
end
end Go.Am
