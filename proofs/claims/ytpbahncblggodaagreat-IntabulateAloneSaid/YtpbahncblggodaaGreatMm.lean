/-
  Known calls as contracts of the interpreter; loops carried out in pieces.
  Own work. No Go text.
-/
import Derived.Test.YtpbahncblggodaaGreatAm31
set_option linter.all false
namespace Go.Am
open Go.RowKit
theorem acalls_fz{P:Program}{f:FuncId}{args:List AV}{s t S2:St}{v v2:AV}{id esz:Nat}{elems:List AV}(h:ACalls P f args s λy u=>y=v/\u=t)(hg:eget t.heap id=some (.cells esz elems))
  (hv:Fz id elems v2 v) (hS: ∀i b,eget S2.heap i=some b->i≠id/\ ∃b',eget t.heap i=some b'/\FzB id elems b b') (hc:S2.cnt=t.cnt)
  (hd: ∀i,eget t.heap i=some .dfr->eget S2.heap i=some .dfr):ACalls P f args s λy u=>y=v2/\u=S2:=λG0 w0 vs hs0 hvs=>by
 refine(h G0 w0 vs hs0 hvs).mono λe w ⟨x,G,y,u,he,hV,hsim0,hext0,hy,hu⟩=>?_
 subst hy;subst hu
 obtain⟨G',h1,h2,h3⟩:=freeze_ms hsim0 (start:=0) (len:=0) hg (Nat.zero_le _)
 have del: ∀{i b},i≠id->eget u.heap i=some b->eget (edel u.heap id) i=some b:=λ{i b}hne hb=>by
  rw[get_del,if_neg (λe=>hne e.symm)];exact hb
 have hsim:Sim G' S2 w:=⟨h1.imm,λi b hi=>by
   obtain⟨hne,b',hb',hf⟩:=hS i b hi
   rcases h1.heap i b' (del hne hb')with⟨r,o,e1,e2,_⟩|⟨e1,sz,h0,e2⟩
   ·refine .inl ⟨r,o,e1,e2,?_⟩
    rcases hsim0.heap i b' hb' with⟨r',o',q1,q2,q3⟩|⟨q1,_,_,q2⟩
    ·rw[h2.le.own _ _ q1]at e1;cases e1
     rw[e2]at q2;cases q2
     exact hf.holds h2.le h3 q3
    ·rw[h2.stay i (hsim0.lt _ _ hb') q1]at e1;cases e1
   ·refine .inr ⟨e1,sz,h0,?_⟩
    subst e2
    cases hf with
    |r=>rfl
    |cells hl=>
     rename_i xs
     have:xs=[]:=List.eq_nil_of_length_eq_zero (by simpa using hl.length)
     rw[this],
  λi i' b b' r r' g1 g2=>by
   obtain⟨n1,c1,k1,_⟩:=hS i b g1
   obtain⟨n2,c2,k2,_⟩:=hS i' b' g2
   exact h1.apart i i' c1 c2 r r' (del n1 k1) (del n2 k2),
  λi b r o g1=>by
   obtain⟨n1,c1,k1,_⟩:=hS i b g1
   exact h1.clear i c1 r o (del n1 k1),
  λi hi=>h1.fresh i (by rw[hc]at hi;exact hi),
  λi b g1=>by
   obtain⟨n1,c1,k1,_⟩:=hS i b g1
   rw[hc];exact hsim0.lt i c1 k1⟩
 have hext:Ext G u w G' S2 w:=⟨h2.le,rfl,rfl,rfl,Nat.le_refl _,λ_ _ _=>rfl,h2.immNew,h2.ownNew,λi b g1=>by
   obtain⟨n1,c1,k1,_⟩:=hS i b g1
   exact .inl ⟨c1,k1⟩,by rw[hc];exact Nat.le_refl _,hd,h2.stay,h2.drawn⟩
 exact⟨x,G',v2,S2,he,hv.V h2.le h3 hV,hsim,Ext.trans hs0 hext0 hext,rfl,rfl⟩
mutual
def fz1(id:Nat)(elems:List AV):AV->AV
 |.ms i st n=>bif Nat.beq i id&&Nat.ble (Nat.add st n) elems.length then .sl false ((elems.drop st).take n)else .ms i st n
 |.agg l=>.agg (fzL id elems l)
 |.tup l=>.tup (fzL id elems l)
 |v=>v
def fzL(id:Nat)(elems:List AV):List AV->List AV
 | []=>[]
 |x::r=>fz1 id elems x::fzL id elems r
end
mutual
theorem fz1_ok(id:Nat)(elems:List AV): ∀v,Fz id elems (fz1 id elems v) v
 |.ms i st n=>by
  simp only[fz1]
  cases hb:(Nat.beq i id&&Nat.ble (Nat.add st n) elems.length)with
  |false=>exact .r _
  |true=>
   simp only[Bool.and_eq_true]at hb
   have e:i=id:=Nat.eq_of_beq_eq_true hb.1
   subst e
   exact .m (Nat.le_of_ble_eq_true hb.2) rfl
 |.agg l=>by simp only[fz1];exact .a (fzL_ok id elems l)
 |.tup l=>by simp only[fz1];exact .t (fzL_ok id elems l)
 |.bool _=>.r _
 |.int _ _=>.r _
 |.str _=>.r _
 |.nilp=>.r _
 |.nilf=>.r _
 |.sl _ _=>.r _
 |.ip _=>.r _
 |.mp _ _ _=>.r _
 |.mc _ _ _ _=>.r _
 |.fn _ _=>.r _
 |.yld _=>.r _
 |.any=>.r _
theorem fzL_ok(id:Nat)(elems:List AV): ∀l,FzL id elems (fzL id elems l) l
 | []=>.z
 |x::r=>by simp only[fzL];exact .k (fz1_ok id elems x) (fzL_ok id elems r)
end
def fzBk(id:Nat)(elems:List AV):Blk->Blk
 |.cells esz l=>.cells esz (fzL id elems l)
 |b=>b
def fzH(id:Nat)(elems:List AV):List (Nat×Blk)->List (Nat×Blk)
 | []=>[]
 |p::r=>bif Nat.beq p.1 id then fzH id elems r else(p.1,fzBk id elems p.2)::fzH id elems r
theorem fzH_get{id:Nat}{elems:List AV}: ∀{h:List (Nat×Blk)}{i:Nat}{b:Blk},eget (fzH id elems h) i=some b->i≠id/\ ∃b',eget h i=some b'/\b=fzBk id elems b'
 | [],i,b,e=>by simp[fzH,egetN]at e
 |(k,x)::r,i,b,e=>by
  simp only[fzH]at e
  cases hk:Nat.beq k id with
  |true=>
   rw[hk]at e
   obtain⟨a,b',q,q'⟩:=fzH_get (h:=r) e
   have e1:k=id:=Nat.eq_of_beq_eq_true hk
   refine⟨a,b',?_,q'⟩
   rw[egetC,if_neg (λe=>a (by omega))];exact q
  |false=>
   rw[hk]at e
   simp only[cond_false,egetC]at e
   have e1:k≠id:=λe=>by subst e;simp at hk
   split at e
   ·rename_i hki
    cases e
    refine⟨by omega,x,?_,rfl⟩
    rw[egetC,if_pos hki]
   ·rename_i hki
    obtain⟨a,b',q,q'⟩:=fzH_get (h:=r) e
    refine⟨a,b',?_,q'⟩
    rw[egetC,if_neg hki];exact q
theorem fzH_dfr{id:Nat}{elems:List AV}: ∀{h:List (Nat×Blk)}{i:Nat},i≠id->eget h i=some .dfr->eget (fzH id elems h) i=some .dfr
 | [],i,_,e=>by simp[egetN]at e
 |(k,x)::r,i,hi,e=>by
  simp only[egetC]at e
  simp only[fzH]
  split at e
  ·rename_i hki
   cases e
   have:Nat.beq k id=false:=by
    cases hq:Nat.beq k id with
    |false=>rfl
    |true=>have:=Nat.eq_of_beq_eq_true hq;omega
   rw[this]
   simp only[cond_false,egetC,if_pos hki,fzBk]
  ·rename_i hki
   have ih:=fzH_dfr (elems:=elems) (h:=r) hi e
   cases Nat.beq k id with
   |true=>exact ih
   |false=>simp only[cond_false,egetC,if_neg hki];exact ih
def ripe:List (Nat×Blk)->Option Nat
 | []=>none
 |(i,.cells _ l)::r=>bif cleanL l then some i else ripe r
 |_::r=>ripe r
def fzRun:Nat->AV->List (Nat×Blk)->AV
 |0,v,_=>v
 |n+1,v,h=>match ripe h with
  |some i=>match eget h i with
   |some (.cells _ l)=>fzRun n (fz1 i l v) (fzH i l h)
   |_=>v
  |none=>v
theorem fzRun_ok{P:Program}{f:FuncId}{args:List AV}{s:St}: ∀{n:Nat}{v:AV}{h:List (Nat×Blk)}{c:Nat},(ACalls P f args s λy u=>y=v/\u=⟨h,c⟩)->ACalls P f args s λy _=>y=fzRun n v h
 |0,v,h,c,ha=>ha.mono λy u ⟨a,_⟩=>a
 |n+1,v,h,c,ha=>by
  simp only[fzRun]
  split
  ·rename_i i hi
   split
   ·rename_i esz l hg
    refine fzRun_ok (c:=c) (acalls_fz ha hg (fz1_ok i l v) (λk b hk=>?_) rfl (λk hk=>?_))
    ·obtain⟨a,b',q,q'⟩:=fzH_get hk
     refine⟨a,b',q,?_⟩
     rw[q']
     cases b' with
     |cells e m=>exact .cells (fzL_ok i l m)
     |loop _=>exact .r _
     |dfr=>exact .r _
    ·exact fzH_dfr (λe=>by rw[e]at hk;have hk':eget h i=some .dfr:=hk;rw[hg]at hk';cases hk') hk
   ·exact ha.mono λy u ⟨a,_⟩=>a
  ·exact ha.mono λy u ⟨a,_⟩=>a
def okVal(v:AV):Option (AV×St)->Bool
 |some (x,t)=>AV.beq (fzRun 400 x t.heap) v
 |none=>false
theorem apure_run{P:Program}{ora:Ora}(ho:OraOk P ora)(fuel d:Nat){f:FuncId}{args:List AV}{v:AV}(ha:cleanL args=true)(hv:v.clean=true)(h:okVal v (ifunc P (icall P ora fuel d) fuel f args St.nil)=true):APure P f args v:=by
 refine apure ha hv ?_
 cases hr:ifunc P (icall P ora fuel d) fuel f args St.nil with
 |none=>rw[hr]at h;cases h
 |some p=>
  obtain⟨x,t⟩:=p
  rw[hr]at h
  have e:fzRun 400 x t.heap=v:=AV.beq_eq h
  exact(fzRun_ok (n:=400) (h:=t.heap) (c:=t.cnt) (acalls_run ho fuel d hr)).mono λy u a=>by rw[a,e]
def sl:Code->Code
 |.seq a _=>a
 |c=>c
def lp:Code->Code
 |.loop c=>c
 |c=>c
section
variable {P:Program} {N base fuel:Nat} {ρ:Option Nat} {call:Inv}
end
end Go.Am
