/-
  The logic AM, F: the names of families of blocks.
  Own work. No Go text.
-/
import Derived.Test.YtpbahncblggodaaGreatAmX
set_option linter.all false
namespace Go.Am
open Go.RowKit
def findW:List (Nat×Nat)->Nat->Option (Nat×Nat)
 | [],_=>none
 |v::r,id=>bif outF v.1 id then findW r id else some v
def pw(L W:List (Nat×Nat))(id:Nat):Nat:=match findW W id with
 |some v=>v.2+(id-v.1)
 |none=>pi L id
theorem outF_no{w id:Nat}(h:outF w id=false):w<id/\id<w+famW:=by
 unfold outF at h
 rw[Bool.or_eq_false_iff]at h
 obtain⟨h1,h2⟩:=h
 constructor
 ·apply Nat.lt_of_not_le;intro h;rw[Nat.ble_eq_true_of_le h]at h1;cases h1
 ·apply Nat.lt_of_not_le;intro h;rw[Nat.ble_eq_true_of_le h]at h2;cases h2
theorem outF_of{w id:Nat}(h1:w<id)(h2:id<w+famW):outF w id=false:=by
 cases hq:outF w id with
 |false=>rfl
 |true=>
  unfold outF at hq
  rw[Bool.or_eq_true]at hq
  rcases hq with h|h
  ·have:=Nat.le_of_ble_eq_true h;omega
  ·have:=Nat.le_of_ble_eq_true h;omega
def disj(a b:Nat):Bool:=Nat.ble (a+famW) b||Nat.ble (b+famW) a
def pairOk{S:Nat->Type}(k:Nat)(b:TB S)(k':Nat)(b':TB S):Bool:=
 (bif isFr b then outF k k'&&!(Nat.beq k k')&&(bif isFr b' then disj k k' else true)else true)&&(bif isFr b' then outF k' k&&!(Nat.beq k k')else true)
def wfH{S:Nat->Type}:List (Nat×TB S)->Bool
 | []=>true
 |(k,b)::r=>(r.all λq=>pairOk k b q.1 q.2)&&wfH r
def famIn{S:Nat->Type}(n:Nat)(h:List (Nat×TB S)):Bool:=h.all λp=>!(isFr p.2)||Nat.ble (p.1+famW) n
def winL{S:Nat->Type}(L:List (Nat×Nat))(n:Nat):List (Nat×TB S)->List (Nat×Nat)
 | []=>[]
 |(k,b)::r=>bif isFr b&&Nat.blt (pi L k) n then(k,pi L k)::winL L n r else winL L n r
section
variable {B:Tab}
theorem beqF{a b:Nat}(h:Nat.beq a b=false):a≠b:=λe=>by subst e;rw[show Nat.beq a a=true from Nat.beq_refl a]at h;cases h
theorem eget_all{β:Type}{q:Nat×β->Bool}{l:List (Nat×β)}(h:l.all q=true){i:Nat}{x:β}(hg:eget l i=some x):q (i,x)=true:=List.all_eq_true.1 h _ (eget_mem hg)
theorem wf_fr{w id:Nat}{b:TB B.S}{x:Blk}: ∀{h:List (Nat×TB B.S)},wfH h=true->eget h w=some b->eget (erR1 B w b) id=some x->eget (erH B h) id=none/\eget (erR B h) id=some x
 | [],_,hg,_=>by simp[egetN]at hg
 |(k,c)::r,hw,hg,hx=>by
  have hb:=(erR1_in hx).1
  have ho:=(erR1_in hx).2
  obtain⟨o1,o2⟩:=outF_no ho
  simp only[wfH,Bool.and_eq_true]at hw
  obtain⟨hw1,hw2⟩:=hw
  simp only[egetC]at hg
  simp only[erH,erR,egetC]
  split at hg
  ·rename_i e
   cases hg;subst e
   have key: ∀i y,eget r i=some y->outF k i=true:=λi y hi=>by
    have:=eget_all hw1 hi
    simp only[pairOk,hb,cond_true,Bool.and_eq_true]at this
    exact this.1.1.1
   rw[if_neg (by omega),get_erH]
   constructor
   ·cases hr:eget r id with
    |none=>rfl
    |some y=>rw[key id y hr]at ho;cases ho
   ·rw[eget_app,hx]
  ·rename_i hne
   obtain⟨i1,i2⟩:=wf_fr hw2 hg hx
   have hp:=eget_all hw1 hg
   simp only[pairOk,hb,cond_true,Bool.and_eq_true]at hp
   have hk:k≠id:=λe=>by subst e;rw[hp.2.1]at ho;cases ho
   refine⟨by rw[if_neg hk];exact i1,?_⟩
   rw[eget_app]
   split
   ·rename_i y hy
    obtain⟨c1,c2⟩:=erR1_in hy
    obtain⟨c3,c4⟩:=outF_no c2
    have:=hp.1
    simp only[c1,cond_true,Bool.and_eq_true,disj,Bool.or_eq_true]at this
    rcases this.2 with h|h
    ·have:=Nat.le_of_ble_eq_true h;omega
    ·have:=Nat.le_of_ble_eq_true h;omega
   ·exact i2
theorem wf_get{id:Nat}{x:Blk}: ∀{h:List (Nat×TB B.S)},wfH h=true->eget (erR B h) id=some x-> ∃w b,eget h w=some b/\eget (erR1 B w b) id=some x
 | [],_,hx=>by simp[erR,egetN]at hx
 |(k,c)::r,hw,hx=>by
  simp only[wfH,Bool.and_eq_true]at hw
  obtain⟨hw1,hw2⟩:=hw
  simp only[erR]at hx
  rw[eget_app]at hx
  split at hx
  ·rename_i y hy
   cases hx
   exact⟨k,c,by simp[egetC],hy⟩
  ·obtain⟨w,b,h1,h2⟩:=wf_get hw2 hx
   refine⟨w,b,?_,h2⟩
   have hp:=eget_all hw1 h1
   simp only[pairOk,(erR1_in h2).1,cond_true,Bool.and_eq_true,Bool.not_eq_true']at hp
   rw[egetC,if_neg (beqF hp.2.2)];exact h1
theorem wf_erS{s:TSt B.S}{id:Nat}{x:Blk}(hw:wfH s.heap=true)(hx:eget (erS B s).heap id=some x):(∃b,eget s.heap id=some b/\x=erB B b)\/(eget s.heap id=none/\ ∃w b,eget s.heap w=some b/\eget (erR1 B w b) id=some x):=by
 simp only[erS]at hx
 rw[eget_app,get_erH]at hx
 cases hg:eget s.heap id with
 |some b=>rw[hg]at hx;cases hx;exact .inl ⟨b,rfl,rfl⟩
 |none=>rw[hg]at hx;exact .inr ⟨rfl,wf_get hw hx⟩
theorem wf_row{s:TSt B.S}{w id:Nat}{b:TB B.S}{x:Blk}(hw:wfH s.heap=true)(hg:eget s.heap w=some b)(hx:eget (erR1 B w b) id=some x):eget (erS B s).heap id=some x:=by
 obtain⟨h1,h2⟩:=wf_fr hw hg hx
 simp only[erS]
 rw[eget_app,h1];exact h2
theorem wf_two{w w' id:Nat}{b b':TB B.S}: ∀{h:List (Nat×TB B.S)},wfH h=true->eget h w=some b->eget h w'=some b'->isFr b=true->isFr b'=true->outF w id=false->outF w' id=false->w=w'
 | [],_,hg,_,_,_,_,_=>by simp[egetN]at hg
 |(k,c)::r,hw,g1,g2,f1,f2,o1,o2=>by
  simp only[wfH,Bool.and_eq_true]at hw
  obtain⟨hw1,hw2⟩:=hw
  obtain⟨a1,a2⟩:=outF_no o1
  obtain⟨a3,a4⟩:=outF_no o2
  simp only[egetC]at g1 g2
  split at g1
  ·rename_i e
   cases g1;subst e
   split at g2
   ·rename_i e;exact e
   ·have hp:=eget_all hw1 g2
    simp only[pairOk,f1,f2,cond_true,Bool.and_eq_true,disj,Bool.or_eq_true]at hp
    rcases hp.1.2 with h|h
    ·have:=Nat.le_of_ble_eq_true h;omega
    ·have:=Nat.le_of_ble_eq_true h;omega
  ·split at g2
   ·rename_i e
    cases g2;subst e
    have hp:=eget_all hw1 g1
    simp only[pairOk,f1,f2,cond_true,Bool.and_eq_true,disj,Bool.or_eq_true]at hp
    rcases hp.1.2 with h|h
    ·have:=Nat.le_of_ble_eq_true h;omega
    ·have:=Nat.le_of_ble_eq_true h;omega
   ·exact wf_two hw2 g1 g2 f1 f2 o1 o2
theorem wf_out{w id:Nat}{b b':TB B.S}: ∀{h:List (Nat×TB B.S)},wfH h=true->eget h w=some b->eget h id=some b'->isFr b=true->outF w id=true
 | [],_,hg,_,_=>by simp[egetN]at hg
 |(k,c)::r,hw,g1,g2,f1=>by
  simp only[wfH,Bool.and_eq_true]at hw
  obtain⟨hw1,hw2⟩:=hw
  have self:outF w w=true:=by unfold outF;rw[Nat.ble_eq_true_of_le (Nat.le_refl w)];rfl
  simp only[egetC]at g1 g2
  split at g1
  ·rename_i e
   cases g1;subst e
   split at g2
   ·rename_i e;subst e;exact self
   ·have hp:=eget_all hw1 g2
    simp only[pairOk,f1,cond_true,Bool.and_eq_true]at hp
    exact hp.1.1.1
  ·split at g2
   ·rename_i e
    cases g2;subst e
    have hp:=eget_all hw1 g1
    simp only[pairOk,f1,cond_true,Bool.and_eq_true]at hp
    exact hp.2.1
   ·exact wf_out hw2 g1 g2 f1
theorem winL_mem{L:List (Nat×Nat)}{n:Nat}{v:Nat×Nat}: ∀{h:List (Nat×TB B.S)},wfH h=true->v∈winL L n h->v.2=pi L v.1/\pi L v.1<n/\ ∃b,eget h v.1=some b/\isFr b=true
 | [],_,hm=>by simp[winL]at hm
 |(k,b)::r,hw,hm=>by
  simp only[wfH,Bool.and_eq_true]at hw
  obtain⟨hw1,hw2⟩:=hw
  have tail:v∈winL L n r->v.2=pi L v.1/\pi L v.1<n/\ ∃b',eget ((k,b)::r) v.1=some b'/\isFr b'=true:=λhm=>by
   obtain⟨h1,h2,b',h3,h4⟩:=winL_mem hw2 hm
   refine⟨h1,h2,b',?_,h4⟩
   have hp:=eget_all hw1 h3
   simp only[pairOk,h4,cond_true,Bool.and_eq_true,Bool.not_eq_true']at hp
   rw[egetC,if_neg (beqF hp.2.2)];exact h3
  simp only[winL]at hm
  cases hc:isFr b&&Nat.blt (pi L k) n with
  |false=>rw[hc]at hm;exact tail hm
  |true=>
   rw[hc]at hm
   simp only[cond_true,List.mem_cons]at hm
   rcases hm with rfl|hm
   ·simp only[Bool.and_eq_true,Nat.blt_eq]at hc
    exact⟨rfl,hc.2,b,by simp[egetC],hc.1⟩
   ·exact tail hm
theorem winL_in{L:List (Nat×Nat)}{n w:Nat}{b:TB B.S}(hb:isFr b=true)(hp:pi L w<n): ∀{h:List (Nat×TB B.S)},eget h w=some b->(w,pi L w)∈winL L n h
 | [],hg=>by simp[egetN]at hg
 |(k,c)::r,hg=>by
  simp only[egetC]at hg
  simp only[winL]
  split at hg
  ·rename_i e
   cases hg;subst e
   rw[hb,show Nat.blt (pi L k) n=true from bltT hp]
   simp
  ·cases isFr c&&Nat.blt (pi L k) n
   ·exact winL_in hb hp hg
   ·simp only[cond_true,List.mem_cons];exact .inr (winL_in hb hp hg)
theorem findW_some{id:Nat}{v:Nat×Nat}: ∀{W:List (Nat×Nat)},findW W id=some v->v∈W/\outF v.1 id=false
 | [],h=>by cases h
 |u::r,h=>by
  simp only[findW]at h
  cases ho:outF u.1 id with
  |true=>rw[ho]at h;exact⟨List.mem_cons_of_mem _ (findW_some h).1,(findW_some h).2⟩
  |false=>rw[ho]at h;cases h;exact⟨by simp,ho⟩
theorem findW_none{id:Nat}: ∀{W:List (Nat×Nat)},(∀v∈W,outF v.1 id=true)->findW W id=none
 | [],_=>rfl
 |u::r,h=>by
  simp only[findW,h u (by simp),cond_true]
  exact findW_none λv hv=>h v (by simp[hv])
theorem findW_iff{id:Nat}: ∀{W:List (Nat×Nat)},findW W id=none-> ∀v∈W,outF v.1 id=true
 | [],_,v,hv=>by simp at hv
 |u::r,h,v,hv=>by
  simp only[findW]at h
  cases hu:outF u.1 id with
  |false=>rw[hu]at h;cases h
  |true=>
   rw[hu]at h
   simp only[List.mem_cons]at hv
   rcases hv with rfl|hv
   ·exact hu
   ·exact findW_iff h v hv
theorem pw_key{L:List (Nat×Nat)}{n id:Nat}{b:TB B.S}{h:List (Nat×TB B.S)}(hw:wfH h=true)(hg:eget h id=some b):pw L (winL L n h) id=pi L id:=by
 unfold pw
 rw[findW_none λv hv=>by
  obtain⟨_,_,b',h1,h2⟩:=winL_mem hw hv
  exact wf_out hw h1 hg h2]
theorem pw_row{L:List (Nat×Nat)}{n w id:Nat}{b:TB B.S}{h:List (Nat×TB B.S)}(hw:wfH h=true)(hg:eget h w=some b)(hb:isFr b=true)(hp:pi L w<n)(ho:outF w id=false):pw L (winL L n h) id=pi L w+(id-w):=by
 have hm:=winL_in hb hp hg
 unfold pw
 cases hf:findW (winL L n h) id with
 |none=>
  have:=findW_iff hf _ hm
  simp only at this
  rw[ho]at this;cases this
 |some v=>
  obtain⟨h1,h2⟩:=findW_some hf
  obtain⟨e1,_,b',g1,f1⟩:=winL_mem hw h1
  have:=wf_two hw g1 hg f1 hb h2 ho
  simp only[e1,this]
def FamHyp(B:Tab)(h:List (Nat×TB B.S))(ok:Nat->Bool)(π:Nat->Nat):Prop:= ∀w b,eget h w=some b-> ∀id x,eget (erR1 B w b) id=some x->ok id=true/\π id=π w+(id-w)
theorem nameZ_get{l:List (ZB B.S)}{i id:Nat}:eget (nameZ B i l) id=if i<=id then(l[id-i]?).map λz=>blZ (erZ B.E z)else none:=by
 induction l generalizing i with
 |nil=>simp[nameZ,egetN]
 |cons z r ih=>
  simp only[nameZ,egetC]
  split
  ·rename_i e;subst e;simp
  ·rename_i hne
   rw[ih]
   by_cases h:i<=id
   ·rw[if_pos h,if_pos (by omega),show id-i=(id-(i+1))+1 from by omega];simp
   ·rw[if_neg h,if_neg (by omega)]
theorem famR_cons{c w i:Nat}{y:B.S c}{r:List (B.S c)}(h:i<famCap):famR B c w i (y::r)=nameZ B (w+1+B.K c*i) (B.Z c (w+1+B.K c*i) y)++famR B c w (i+1) r:=by
 simp only[famR,bltT h,cond_true]
theorem famL_cons{c w i:Nat}{y:B.S c}{r:List (B.S c)}(h:i<famCap):famL B c w i (y::r)=(B.Y c (w+1+B.K c*i) y).er B.E::famL B c w (i+1) r:=by
 simp only[famL,bltT h,cond_true]
theorem bltF{i n:Nat}(h: ¬i<n):Nat.blt i n=false:=by
 cases hq:Nat.blt i n with
 |false=>rfl
 |true=>exact absurd (bltE hq) h
theorem nameZ_has{c r:Nat}{y:B.S c}{j:Nat}(hj:j<B.K c): ∃x,eget (nameZ B r (B.Z c r y)) (r+j)=some x:=by
 rw[nameZ_get,if_pos (by omega),show r+j-r=j from by omega,List.getElem?_eq_getElem (by rw[(B.hF c).hz];exact hj)]
 exact⟨_,rfl⟩
theorem famL_co{c w w':Nat}{ok:Nat->Bool}{π:Nat->Nat}: ∀{l:List (B.S c)}{i:Nat},(∀id x,eget (famR B c w i l) id=some x->ok id=true/\π id=w'+(id-w))->CoL ok π (famL B c w i l) (famL B c w' i l)
 | [],i,_=>.z
 |y::r,i,h=>by
  by_cases hi:i<famCap
  ·rw[famL_cons hi,famL_cons hi]
   rw[famR_cons hi]at h
   refine .k ((B.hF c).hr ok π _ _ y λj hj=>?_).1 (famL_co λid x hx=>?_)
   ·obtain⟨x,hx⟩:=nameZ_has (r:=w+1+B.K c*i) (y:=y) hj
    obtain⟨h1,h2⟩:=h _ x (by rw[eget_app,hx])
    exact⟨h1,by rw[h2];omega⟩
   ·cases hq:eget (nameZ B (w+1+B.K c*i) (B.Z c (w+1+B.K c*i) y)) id with
    |none=>exact h id x (by rw[eget_app,hq];exact hx)
    |some x'=>exact h id x' (by rw[eget_app,hq])
  ·have e: ∀v,famL B c v i (y::r)=[]:=λv=>by simp only[famL,bltF hi,cond_false]
   rw[e,e];exact .z
theorem famR_co{c w w':Nat}{ok:Nat->Bool}{π:Nat->Nat}: ∀{l:List (B.S c)}{i:Nat},(∀id x,eget (famR B c w i l) id=some x->ok id=true/\π id=w'+(id-w))->
  ∀id x,eget (famR B c w i l) id=some x-> ∃x',eget (famR B c w' i l) (w'+(id-w))=some x'/\CoB ok π x x'
 | [],i,_,id,x,hx=>by simp[famR,egetN]at hx
 |y::r,i,h,id,x,hx=>by
  by_cases hi:i<famCap
  ·have hin:=(outF_no (famR_in hx)).1
   rw[famR_cons hi]at h hx ⊢
   have hz:=(B.hF c).hz
   have hro:=(B.hF c).hr ok π (w+1+B.K c*i) (w'+1+B.K c*i) y λj hj=>by
    obtain⟨x,hx⟩:=nameZ_has (r:=w+1+B.K c*i) (y:=y) hj
    obtain⟨h1,h2⟩:=h _ x (by rw[eget_app,hx])
    exact⟨h1,by rw[h2];omega⟩
   rw[eget_app]at hx ⊢
   cases hq:eget (nameZ B (w+1+B.K c*i) (B.Z c (w+1+B.K c*i) y)) id with
   |some x0=>
    rw[hq]at hx;cases hx
    rw[nameZ_get]at hq
    split at hq
    ·rename_i hle
     obtain⟨z,hz1,hz2⟩:=Option.map_eq_some_iff.1 hq
     have hl:id-(w+1+B.K c*i)<B.K c:=by have h:=(List.getElem?_eq_some_iff.1 hz1).1;rw[hz]at h;exact h
     have hz3:(B.Z c (w'+1+B.K c*i) y)[id-(w+1+B.K c*i)]? =some ((B.Z c (w'+1+B.K c*i) y)[id-(w+1+B.K c*i)]'(by rw[hz];exact hl)):=List.getElem?_eq_getElem _
     refine⟨_,?_,by rw[<-hz2];exact hro.2 _ _ _ hz1 hz3⟩
     rw[nameZ_get,if_pos (by omega),show w'+(id-w)-(w'+1+B.K c*i)=id-(w+1+B.K c*i)from by omega,hz3]
     rfl
    ·cases hq
   |none=>
    rw[hq]at hx
    have e:eget (nameZ B (w'+1+B.K c*i) (B.Z c (w'+1+B.K c*i) y)) (w'+(id-w))=none:=by
     rw[nameZ_get]at hq ⊢
     split
     ·rename_i hle
      rw[if_pos (by omega)]at hq
      have hl: ¬id-(w+1+B.K c*i)<B.K c:=λhl=>by
       rw[List.getElem?_eq_getElem (by rw[hz];exact hl)]at hq;cases hq
      rw[List.getElem?_eq_none (by rw[hz];omega)];rfl
     ·rfl
    rw[e]
    refine famR_co (λid2 x2 hx2=>?_) id x hx
    cases hq2:eget (nameZ B (w+1+B.K c*i) (B.Z c (w+1+B.K c*i) y)) id2 with
    |none=>exact h id2 x2 (by rw[eget_app,hq2];exact hx2)
    |some x'=>exact h id2 x' (by rw[eget_app,hq2])
  ·simp only[famR,bltF hi,cond_false]at hx
   simp[egetN]at hx
theorem erR1_co{c w w' n:Nat}{cl:Bool}{pre post:List (B.S c)}{ok:Nat->Bool}{π:Nat->Nat}(h: ∀id x,eget (erR1 B w (.fr c cl pre n post)) id=some x->ok id=true/\π id=w'+(id-w))(id:Nat)(x:Blk)(hx:eget (erR1 B w (.fr c cl pre n post)) id=some x):
  ∃x',eget (erR1 B w' (.fr c cl pre n post)) (w'+(id-w))=some x'/\CoB ok π x x':=by
 simp only[erR1]at h hx ⊢
 cases cl with
 |true=>
  simp only[cond_true,List.nil_append]at h hx ⊢
  exact famR_co h id x hx
 |false=>
  simp only[cond_false]at h hx ⊢
  rw[eget_app]at hx ⊢
  have hpre: ∀id x,eget (famR B c w 0 pre) id=some x->ok id=true/\π id=w'+(id-w):=λid x hx=>h id x (by rw[eget_app,hx])
  have hall: ∀id x,eget (famR B c w (pre.length+n) post) id=some x->ok id=true/\π id=w'+(id-w):=λid x hx=>by
   cases hq:eget (famR B c w 0 pre) id with
   |some y=>exact hpre id y hq
   |none=>exact h id x (by rw[eget_app,hq];exact hx)
  cases hq:eget (famR B c w 0 pre) id with
  |some x0=>
   rw[hq]at hx;cases hx
   obtain⟨x',h1,h2⟩:=famR_co hpre id x hq
   exact⟨x',by rw[h1],h2⟩
  |none=>
   rw[hq]at hx
   obtain⟨x',h1,h2⟩:=famR_co hall id x hx
   have:eget (famR B c w' 0 pre) (w'+(id-w))=none:=by
    cases hc:eget (famR B c w' 0 pre) (w'+(id-w))with
    |none=>rfl
    |some z=>
     exfalso
     have hin:=(outF_no (famR_in hx)).1
     obtain⟨z',hz,_⟩:=famR_co (w:=w') (w':=w) (ok:=λ_=>true) (π:=λi=>w+(i-w')) (λ_ _ _=>⟨rfl,rfl⟩) _ z hc
     rw[show w+(w'+(id-w)-w')=id from by omega,hq]at hz;cases hz
   rw[this]
   exact⟨x',h1,h2⟩
theorem map_inj{c:Nat}(hk:0<B.K c): ∀{x y:List (B.S c)},x.map (B.E c)=y.map (B.E c)->x=y
 | [],[],_=>rfl
 | [],_::_,h=>by cases h
 |_::_,[],h=>by cases h
 |a::x,b::y,h=>by
  simp only[List.map_cons,List.cons.injEq]at h
  rw[(B.hF c).hi hk _ _ h.1,map_inj hk h.2]
theorem isFr_iff{b:TB B.S}(h:isFr b=true): ∃c cl pre n post,b=.fr c cl pre n post:=by
 cases b<;>first|exact⟨_,_,_,_,_,rfl⟩|cases h
theorem famR_cells{c w:Nat}{l:List (B.S c)}{i id:Nat}:eget (famR B c w i l) id≠some .dfr:=λh=>by
 obtain⟨j,y,_,_,_,h4⟩:=famR_get h
 obtain⟨_,_,z,_,h5⟩:=nameZ_ge h4
 cases h5
theorem rowCells{w id:Nat}{b:TB B.S}(h:eget (erR1 B w b) id=some .dfr):False:=by
 unfold erR1 at h
 split at h
 ·rename_i c cl pre n post
  rw[eget_app]at h
  split at h
  ·rename_i x hx
   cases h
   cases cl with
   |true=>simp[egetN]at hx
   |false=>exact famR_cells hx
  ·exact famR_cells h
 ·simp[egetN]at h
end
end Go.Am
