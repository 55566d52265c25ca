/-
  The logic AM, G: families of blocks: an element opened, shut, put in; a family that becomes immutable.
  Own work. No Go text.
-/
import Derived.Test.YtpbahncblggodaaGreatAmR
set_option linter.all false
namespace Go.Am
open Go.RowKit
structure Adds (π:Nat->Nat) (S2 s:St):Prop where
 heap: ∀id b,eget S2.heap id=some b-> ∃b',eget s.heap (π id)=some b'/\(b=b'\/CoB (okId s.cnt S2.heap) π b b')
 low: ∀id,id<s.cnt->π id=id
 inj: ∀id id' b b',eget S2.heap id=some b->eget S2.heap id'=some b'->π id=π id'->id=id'
 lt: ∀id b,eget S2.heap id=some b->id<S2.cnt
 cb:s.cnt<=S2.cnt
 dfr: ∀id,eget s.heap id=some .dfr->eget S2.heap id=some .dfr
section
variable {π:Nat->Nat} {S2 s s0:St} {G G0:Ghost} {w w0:World}
theorem Adds.le(h:Adds π S2 s)(hs:Sim G s w):GLe G (ghostI s.cnt π S2.heap G):=⟨λ_ _ _ h=>h,λid r ho=>by
 have:id<s.cnt:=by
  by_cases hq:id<s.cnt
  ·exact hq
  ·rw[hs.fresh id (by omega)]at ho;cases ho
 simp only[ghostI,okId_low this,if_true,h.low id this];exact ho⟩
theorem Adds.sim(h:Adds π S2 s)(hs:Sim G s w):Sim (ghostI s.cnt π S2.heap G) S2 w:=by
 refine⟨hs.imm,λid b hg=>?_,λid id' b b' r r' h1 h2 o1 o2 hne=>?_,λid b r o hg ho=>?_,λid hid=>?_,h.lt⟩
 ·rw[ownI hg]
  obtain⟨b',hb',hc⟩:=h.heap id b hg
  rcases hs.heap _ _ hb' with⟨r,o,e1,e2,e3⟩|⟨e1,esz,h0,e2⟩
  ·refine .inl ⟨r,o,e1,e2,?_⟩
   rcases hc with rfl|hc
   ·exact e3.mono (h.le hs)
   ·exact hc.holds seenI e3
  ·refine .inr ⟨e1,esz,h0,?_⟩
   rcases hc with rfl|hc
   ·exact e2
   ·subst e2;exact hc.nil
 ·rw[ownI h1]at o1
  rw[ownI h2]at o2
  obtain⟨c,hc,_⟩:=h.heap id b h1
  obtain⟨c',hc',_⟩:=h.heap id' b' h2
  exact hs.apart _ _ c c' r r' hc hc' o1 o2 λe=>hne (h.inj id id' b b' h1 h2 e)
 ·rw[ownI hg]at ho
  obtain⟨c,hc,_⟩:=h.heap id b hg
  exact hs.clear _ c r o hc ho
 ·have hb:=h.cb
  have:okId s.cnt S2.heap id=false:=by
   cases hq:okId s.cnt S2.heap id with
   |false=>rfl
   |true=>
    simp only[okId,Bool.or_eq_true,Nat.blt_eq]at hq
    rcases hq with hq|hq
    ·omega
    ·obtain⟨b,hb⟩:=has_iff.1 hq
     have:=h.lt id b hb
     omega
  simp[ghostI,this]
theorem Adds.ext(h:Adds π S2 s)(h0:Sim G0 s0 w0)(hx:Ext G0 s0 w0 G s w)(hs:Sim G s w)(hb:s0.cnt<=s.cnt):Ext G0 s0 w0 (ghostI s.cnt π S2.heap G) S2 w:=by
 have lo: ∀id,id<s.cnt->(ghostI s.cnt π S2.heap G).own id=G.own id:=λid hl=>by simp only[ghostI,okId_low hl,if_true,h.low id hl]
 refine⟨hx.le.trans (h.le hs),hx.os,hx.tape,hx.output,hx.size,hx.keep,hx.immNew,λid r ho=>?_,λid b hg=>?_,Nat.le_trans hb h.cb,λid hd=>h.dfr id (hx.dfr id hd),λid hl ho=>?_,hx.drawn⟩
 ·by_cases hl:id<s.cnt
  ·rw[lo id hl]at ho;exact hx.ownNew id r ho
  ·have hok:okId s.cnt S2.heap id=true:=by
    cases hq:okId s.cnt S2.heap id with
    |true=>rfl
    |false=>simp[ghostI,hq]at ho
   have hh:has S2.heap id=true:=by
    simp only[okId,Bool.or_eq_true,Nat.blt_eq]at hok
    rcases hok with hq|hq
    ·exact absurd hq hl
    ·exact hq
   obtain⟨b,hg⟩:=has_iff.1 hh
   rw[ownI hg]at ho
   obtain⟨c,hc,_⟩:=h.heap id b hg
   rcases hx.ownNew _ r ho with q|q
   ·rcases hx.ids _ c hc with⟨c0,q0⟩|q0
    ·exact .inr (.inr ⟨_,c0,r,q0,q,rfl⟩)
    ·rw[h0.fresh _ q0]at q;cases q
   ·exact .inr q
 ·by_cases hl:id<s.cnt
  ·obtain⟨c,hc,_⟩:=h.heap id b hg
   rw[h.low id hl]at hc;exact hx.ids id c hc
  ·exact .inr (by omega)
 ·rw[lo id (by omega)];exact hx.stay id hl ho
theorem see_adds{N:Nat}{ρ:Option Nat}{env:Env}(h:Adds π S2 s):See N ρ s.cnt env S2 env s:=λhb h0 hx hn=>
 ⟨_,⟨h.sim hn.sim,hn.env.mono (h.le hn.sim),hn.size,hn.defs.ext (h.ext hn.sim (.refl _ _ _) hn.sim (Nat.le_refl _)),hn.known.le (h.le hn.sim)⟩,h.ext h0 hx hn.sim hb⟩
end
section
variable {B:Tab}
def toTB{S:Nat->Type}:ZB S->TB S
 |.o n l=>.els n l
 |.l n c x=>.lz n c x
theorem toTB_er(z:ZB B.S):erB B (toTB z)=blZ (erZ B.E z):=by cases z<;>rfl
theorem toTB_fr(z:ZB B.S):isFr (toTB z)=false:=by cases z<;>rfl
def nameT{S:Nat->Type}:Nat->List (ZB S)->List (Nat×TB S)
 |_,[]=>[]
 |i,z::r=>(i,toTB z)::nameT (i+1) r
theorem nameT_get{l:List (ZB B.S)}{i id:Nat}:eget (nameT i l) id=if i<=id then(l[id-i]?).map toTB else none:=by
 induction l generalizing i with
 |nil=>simp[nameT,egetN]
 |cons z r ih=>
  simp only[nameT,egetC]
  split
  ·rename_i e;subst e;simp
  ·rename_i hne
   rw[ih]
   by_cases h:i<=id
   ·rw[if_pos h,if_pos (by omega),show id-i=(id-(i+1))+1 from by omega];simp
   ·rw[if_neg h,if_neg (by omega)]
theorem keepH_in{h:List (Nat×TB B.S)}{id:Nat}{b:TB B.S}: ∀{ks:List Nat},eget (keepH ks h) id=some b->memB id ks=true
 | [],hg=>by simp[keepH,egetN]at hg
 |k::r,hg=>by
  unfold keepH at hg
  have hr:memB id r=true->memB id (k::r)=true:=λh=>by
   unfold memB at h ⊢
   simp only[List.any_cons,h,Bool.or_true]
  split at hg
  ·simp only[egetC]at hg
   split at hg
   ·rename_i e;subst e;exact memB_of (by simp)
   ·exact hr (keepH_in hg)
  ·exact hr (keepH_in hg)
theorem famL_app{c w:Nat}{b:List (B.S c)}: ∀{a:List (B.S c)}{i:Nat},famL B c w i (a++b)=famL B c w i a++famL B c w (i+a.length) b
 | [],i=>rfl
 |y::r,i=>by
  by_cases hi:i<famCap
  ·rw[List.cons_append,famL_cons hi,famL_cons hi,famL_app (a:=r),List.cons_append,List.length_cons,show i+1+r.length=i+(r.length+1)from by omega]
  ·have e: ∀(l:List (B.S c))j,i<=j->famL B c w j l=[]:=λl j hj=>by
    cases l with
    |nil=>rfl
    |cons z q=>simp only[famL,bltF (show¬j<famCap by omega),cond_false]
   rw[e _ _ (Nat.le_refl _),e _ _ (Nat.le_refl _),e _ _ (by omega)];rfl
theorem famR_app{c w:Nat}{b:List (B.S c)}: ∀{a:List (B.S c)}{i:Nat},famR B c w i (a++b)=famR B c w i a++famR B c w (i+a.length) b
 | [],i=>rfl
 |y::r,i=>by
  by_cases hi:i<famCap
  ·rw[List.cons_append,famR_cons hi,famR_cons hi,famR_app (a:=r),List.append_assoc,List.length_cons,show i+1+r.length=i+(r.length+1)from by omega]
  ·have e: ∀(l:List (B.S c))j,i<=j->famR B c w j l=[]:=λl j hj=>by
    cases l with
    |nil=>rfl
    |cons z q=>simp only[famR,bltF (show¬j<famCap by omega),cond_false]
   rw[e _ _ (Nat.le_refl _),e _ _ (Nat.le_refl _),e _ _ (by omega)];rfl
theorem famR_ge{c w i id:Nat}{l:List (B.S c)}{x:Blk}(h:eget (famR B c w i l) id=some x):w+1+B.K c*i<=id/\id<w+1+B.K c*(i+l.length):=by
 obtain⟨j,y,h1,h2,h3,h4⟩:=famR_get h
 obtain⟨g1,g2,_⟩:=nameZ_ge h4
 rw[(B.hF c).hz]at g2
 have hj:j-i<l.length:=(List.getElem?_eq_some_iff.1 h3).1
 have e1:B.K c*i<=B.K c*j:=Nat.mul_le_mul_left _ h1
 have e2:B.K c*(j+1)<=B.K c*(i+l.length):=Nat.mul_le_mul_left _ (by omega)
 rw[Nat.mul_add,Nat.mul_one]at e2
 constructor <;>omega
theorem nameZ_in{c r id:Nat}{y:B.S c}{x:Blk}(h:eget (nameZ B r (B.Z c r y)) id=some x):r<=id/\id<r+B.K c:=by
 obtain⟨g1,g2,_⟩:=nameZ_ge h
 rw[(B.hF c).hz]at g2
 exact⟨g1,g2⟩
section
variable {m w n c:Nat} {cl:Bool} {pre post:List (B.S c)} {y:B.S c} {ids:List Nat} {s:TSt B.S}
def opH(B:Tab)(m w n c:Nat)(cl:Bool)(pre:List (B.S c))(y:B.S c)(post:List (B.S c))(ids:List Nat)(s:TSt B.S):TSt B.S:=
 ⟨nameT s.cnt (B.Z c s.cnt y)++(m,.fm n c w cl pre [B.Y c s.cnt y] post)::(w,.fr c cl pre 1 post)::keepH ids s.heap,s.cnt+B.K c⟩
def opC(B:Tab)(m w:Nat)(ids:List Nat)(S2 s:TSt B.S):Bool:=
 wfH s.heap&&wfH S2.heap&&famIn s.cnt s.heap&&(s.heap.all λp=>Nat.blt p.1 s.cnt)&&!(memB m ids)&&!(memB w ids)&&keepD (erH B s.heap) (erH B S2.heap)
theorem mid3{A M Z:List (Nat×Blk)}{id:Nat}{x:Blk}(hA: ∀z z',eget A id=some z->eget M id=some z'->False)(hZ: ∀z z',eget Z id=some z->eget M id=some z'->False):
  eget (A++(M++Z)) id=some x↔(eget (A++Z) id=some x\/eget M id=some x):=by
 rw[eget_app,eget_app,eget_app]
 cases hq:eget A id with
 |some z=>
  cases hn:eget M id with
  |some z'=>exact(hA _ _ hq hn).elim
  |none=>simp
 |none=>
  cases hn:eget M id with
  |none=>simp
  |some z'=>
   cases hr:eget Z id with
   |some z=>exact(hZ _ _ hr hn).elim
   |none=>simp
theorem erR1_mid(hc:pre.length<famCap){id:Nat}{x:Blk}:eget (erR1 B w (.fr c cl pre 0 (y::post))) id=some x↔
  (eget (erR1 B w (.fr c cl pre 1 post)) id=some x\/eget (nameZ B (w+1+B.K c*pre.length) (B.Z c (w+1+B.K c*pre.length) y)) id=some x):=by
 simp only[erR1,Nat.add_zero]
 rw[famR_cons hc]
 refine mid3 (λz z' h h'=>?_) λz z' h h'=>?_
 ·have h2:=(nameZ_in h').1
  cases cl with
  |true=>simp[egetN]at h
  |false=>have h1:=(famR_ge h).2;rw[Nat.zero_add]at h1;omega
 ·have h2:=(nameZ_in h').2
  have h1:=(famR_ge h).1
  rw[Nat.mul_add]at h1
  omega
theorem open_adds{bm bw:TB B.S}(hm:eget s.heap m=some bm)(hme:erB B bm=erB B (.fm n c w cl pre [] (y::post)))(hmf:isFr bm=false)(hw:eget s.heap w=some bw)(hwf:isFr bw=true)(hwe:erR1 B w bw=erR1 B w (.fr c cl pre 0 (y::post)))(hc:pre.length<famCap)
  (hC:opC B m w ids (opH B m w n c cl pre y post ids s) s=true):Adds (λid=>if id<s.cnt then id else w+1+B.K c*pre.length+(id-s.cnt)) (erS B (opH B m w n c cl pre y post ids s)) (erS B s):=by
 simp only[opC,Bool.and_eq_true,Bool.not_eq_true']at hC
 obtain⟨⟨⟨⟨⟨⟨w1,w2⟩,w3⟩,w4⟩,d1⟩,d2⟩,d3⟩:=hC
 have low: ∀{id b},eget s.heap id=some b->id<s.cnt:=λhg=>by have:=eget_all w4 hg;simpa[Nat.blt_eq]using this
 have flow: ∀{k b id x},eget s.heap k=some b->eget (erR1 B k b) id=some x->id<s.cnt:=λ{k b id x}hg hx=>by
  obtain⟨f1,f2⟩:=erR1_in hx
  have:=eget_all w3 hg
  simp only[f1,Bool.not_true,Bool.false_or]at this
  have:=Nat.le_of_ble_eq_true this
  obtain⟨o1,o2⟩:=outF_no f2
  omega
 have hcnt:(erS B s).cnt=s.cnt:=rfl
 have hmw:m≠w:=λe=>by subst e;rw[hm]at hw;cases hw;rw[hmf]at hwf;cases hwf
 have hwb:erB B bw=.cells 1 []:=by
  obtain⟨_,_,_,_,_,rfl⟩:=isFr_iff hwf
  rfl
 have key: ∀{id b},eget (opH B m w n c cl pre y post ids s).heap id=some b->(s.cnt<=id/\ ∃z,(B.Z c s.cnt y)[id-s.cnt]? =some z/\b=toTB z)\/(id=m/\b=.fm n c w cl pre [B.Y c s.cnt y] post)\/(id=w/\b=.fr c cl pre 1 post)\/(id≠m/\id≠w/\eget s.heap id=some b):=λ{id b}hg=>by
  simp only[opH]at hg
  rw[eget_app,nameT_get]at hg
  by_cases hle:s.cnt<=id
  ·rw[if_pos hle]at hg
   cases hz:(B.Z c s.cnt y)[id-s.cnt]? with
   |some z=>rw[hz]at hg;cases hg;exact .inl ⟨hle,z,rfl,rfl⟩
   |none=>
    exfalso
    rw[hz]at hg
    simp only[Option.map_none,egetC]at hg
    have:=low hm
    have:=low hw
    rw[if_neg (by omega),if_neg (by omega)]at hg
    have:=low (keepH_get hg)
    omega
  ·rw[if_neg hle]at hg
   simp only[egetC]at hg
   split at hg
   ·rename_i e;cases hg;exact .inr (.inl ⟨e.symm,rfl⟩)
   ·split at hg
    ·rename_i e;cases hg;exact .inr (.inr (.inl ⟨e.symm,rfl⟩))
    ·rename_i e1 e2
     exact .inr (.inr (.inr ⟨λe=>e1 e.symm,λe=>e2 e.symm,keepH_get hg⟩))
 have row: ∀{k b id x},eget (opH B m w n c cl pre y post ids s).heap k=some b->eget (erR1 B k b) id=some x-> ∃b',eget s.heap k=some b'/\eget (erR1 B k b') id=some x/\(k=w->eget (erR1 B w (.fr c cl pre 1 post)) id=some x):=λ{k b id x}hg hx=>by
  obtain⟨f1,f2⟩:=erR1_in hx
  rcases key hg with⟨_,z,_,rfl⟩|⟨rfl,rfl⟩|⟨rfl,rfl⟩|⟨h1,h2,h3⟩
  ·rw[toTB_fr]at f1;cases f1
  ·cases f1
  ·exact⟨_,hw,by rw[hwe];exact(erR1_mid hc).2 (.inl hx),λ_=>hx⟩
  ·exact⟨b,h3,hx,λe=>absurd e h2⟩
 have ok: ∀j,j<B.K c->okId (erS B s).cnt (erS B (opH B m w n c cl pre y post ids s)).heap (s.cnt+j)=true:=λj hj=>by
  obtain⟨z,hz⟩: ∃z,(B.Z c s.cnt y)[j]? =some z:=⟨_,List.getElem?_eq_getElem (by rw[(B.hF c).hz];exact hj)⟩
  refine okId_has (b:=erB B (toTB z)) (get_erS (b:=toTB z) ?_)
  simp only[opH]
  rw[eget_app,nameT_get,if_pos (by omega),show s.cnt+j-s.cnt=j from by omega,hz]
  rfl
 have hro:=(B.hF c).hr (okId (erS B s).cnt (erS B (opH B m w n c cl pre y post ids s)).heap) (λid=>if id<s.cnt then id else w+1+B.K c*pre.length+(id-s.cnt)) s.cnt (w+1+B.K c*pre.length) y λj hj=>⟨ok j hj,by
  rw[if_neg (by omega)];omega⟩
 have same: ∀{i:Nat}{l:List (B.S c)},CoL (okId (erS B s).cnt (erS B (opH B m w n c cl pre y post ids s)).heap) (λid=>if id<s.cnt then id else w+1+B.K c*pre.length+(id-s.cnt)) (famL B c w i l) (famL B c w i l):=λ{i l}=>famL_co λid x hx=>by
  have hin:=famR_in hx
  obtain⟨o1,o2⟩:=outF_no hin
  have:=eget_all w3 hw
  simp only[hwf,Bool.not_true,Bool.false_or]at this
  have:=Nat.le_of_ble_eq_true this
  exact⟨okId_low (by show id<s.cnt;omega),by rw[if_pos (by omega)];omega⟩
 refine⟨?_,λid hl=>if_pos hl,?_,?_,by show s.cnt<=s.cnt+B.K c;omega,?_⟩
 ·intro id b hb
  rcases wf_erS w2 hb with⟨b0,hg,rfl⟩|⟨_,k,b0,hg,hr⟩
  ·rcases key hg with⟨hle,z,hz,rfl⟩|⟨rfl,rfl⟩|⟨rfl,rfl⟩|⟨h1,h2,h3⟩
   ·have hl:id-s.cnt<B.K c:=by rw[<-(B.hF c).hz s.cnt y];exact(List.getElem?_eq_some_iff.1 hz).1
    have hz2:(B.Z c (w+1+B.K c*pre.length) y)[id-s.cnt]? =some ((B.Z c (w+1+B.K c*pre.length) y)[id-s.cnt]'(by rw[(B.hF c).hz];exact hl)):=List.getElem?_eq_getElem _
    refine⟨_,?_,.inr (by rw[toTB_er];exact hro.2 _ _ _ hz hz2)⟩
    rw[if_neg (by omega)]
    refine wf_row w1 hw ?_
    rw[hwe]
    refine(erR1_mid hc).2 (.inr ?_)
    rw[nameZ_get,if_pos (by omega),show w+1+B.K c*pre.length+(id-s.cnt)-(w+1+B.K c*pre.length)=id-s.cnt from by omega,hz2]
    rfl
   ·refine⟨erB B (.fm n c w cl pre [] (y::post)),?_,.inr ?_⟩
    ·rw[if_pos (low hm),<-hme]
     exact get_erS hm
    ·simp only[erB,erL,List.length_nil,List.length_singleton,Nat.add_zero,List.nil_append]
     rw[famL_cons hc]
     refine .cells (.p ?_ (.k hro.1 same))
     cases cl with
     |true=>exact .r (cleanMapB c pre)
     |false=>exact same
   ·refine⟨erB B (.fr c cl pre 0 (y::post)),?_,.inl rfl⟩
    rw[if_pos (low hw)]
    exact(get_erS hw).trans (by rw[hwb];rfl)
   ·refine⟨_,?_,.inl rfl⟩
    rw[if_pos (low h3)]
    exact get_erS h3
  ·obtain⟨b',g1,g2,_⟩:=row hg hr
   refine⟨_,?_,.inl rfl⟩
   rw[if_pos (flow g1 g2)]
   exact wf_row w1 g1 g2
 ·intro id id' b b' hb hb' e
  have nm: ∀{id b},eget (erS B (opH B m w n c cl pre y post ids s)).heap id=some b->id<s.cnt-> ∀j,j<B.K c->id≠w+1+B.K c*pre.length+j:=λ{id b}hb hl j hj e=>by
   have hz:=nameZ_has (r:=w+1+B.K c*pre.length) (y:=y) hj
   obtain⟨z,hz⟩:=hz
   have hro:=(erR1_mid (cl:=cl) (post:=post) hc).2 (.inr hz)
   have hin:=(erR1_in hro).2
   rcases wf_erS w2 hb with⟨b0,hg,rfl⟩|⟨_,k,b0,hg,hr⟩
   ·have hk: ∃b1,eget s.heap id=some b1:=by
     rcases key hg with⟨hle,_⟩|⟨rfl,_⟩|⟨rfl,_⟩|⟨_,_,h3⟩
     ·omega
     ·exact⟨_,hm⟩
     ·exact⟨_,hw⟩
     ·exact⟨_,h3⟩
    obtain⟨b1,h1⟩:=hk
    have:=wf_out w1 hw h1 hwf
    rw[e,hin]at this;cases this
   ·obtain⟨b1,g1,g2,g3⟩:=row hg hr
    obtain⟨f1,f2⟩:=erR1_in g2
    have hkw:=wf_two w1 g1 hw f1 hwf f2 (by rw[e];exact hin)
    have:=g3 hkw
    simp only[erR1]at this
    rw[eget_app]at this
    split at this
    ·rename_i z hq
     cases cl with
     |true=>simp[egetN]at hq
     |false=>have h4:=(famR_ge hq).2;simp at h4;omega
    ·have h4:=(famR_ge this).1
     rw[Nat.mul_add]at h4
     omega
  have hi: ∀{id b},eget (erS B (opH B m w n c cl pre y post ids s)).heap id=some b-> ¬id<s.cnt->id-s.cnt<B.K c:=λ{id b}hb hl=>by
   rcases wf_erS w2 hb with⟨b0,hg,rfl⟩|⟨_,k,b0,hg,hr⟩
   ·rcases key hg with⟨_,z,hz,_⟩|⟨rfl,_⟩|⟨rfl,_⟩|⟨_,_,h3⟩
    ·rw[<-(B.hF c).hz s.cnt y];exact(List.getElem?_eq_some_iff.1 hz).1
    ·exact absurd (low hm) hl
    ·exact absurd (low hw) hl
    ·exact absurd (low h3) hl
   ·obtain⟨b1,g1,g2,_⟩:=row hg hr
    exact absurd (flow g1 g2) hl
  by_cases h1:id<s.cnt<;>by_cases h2:id'<s.cnt
  ·rw[if_pos h1,if_pos h2]at e;exact e
  ·rw[if_pos h1,if_neg h2]at e;exact absurd e (nm hb h1 _ (hi hb' h2))
  ·rw[if_neg h1,if_pos h2]at e;exact absurd e.symm (nm hb' h2 _ (hi hb h1))
  ·rw[if_neg h1,if_neg h2]at e;omega
 ·intro id b hb
  show id<s.cnt+B.K c
  rcases wf_erS w2 hb with⟨b0,hg,rfl⟩|⟨_,k,b0,hg,hr⟩
  ·rcases key hg with⟨_,z,hz,_⟩|⟨rfl,_⟩|⟨rfl,_⟩|⟨_,_,h3⟩
   ·have:id-s.cnt<B.K c:=by rw[<-(B.hF c).hz s.cnt y];exact(List.getElem?_eq_some_iff.1 hz).1
    omega
   ·have:=low hm;omega
   ·have:=low hw;omega
   ·have:=low h3;omega
  ·obtain⟨b1,g1,g2,_⟩:=row hg hr
   have:=flow g1 g2;omega
 ·intro id hd
  rcases wf_erS w1 hd with⟨b,hg,hb⟩|⟨hn,k,b,hg,hr⟩
  ·have:=keepD_iff d3 id (by rw[get_erH,hg,Option.map_some,<-hb])
   simp only[erS]
   rw[eget_app,this]
  ·exact(rowCells hr).elim
def shH(B:Tab)(m n c:Nat)(x:List (B.S c))(ids:List Nat)(s:TSt B.S):TSt B.S:=
 ⟨(m,.fm n c s.cnt false x [] [])::(s.cnt,.fr c false x 0 [])::keepH ids s.heap,s.cnt+famW+1⟩
def shC(B:Tab)(m w r k:Nat)(ids:List Nat)(S2 s:TSt B.S):Bool:=
 wfH s.heap&&wfH S2.heap&&famIn s.cnt s.heap&&(s.heap.all λp=>Nat.blt p.1 s.cnt)&&!(memB m ids)&&!(memB w ids)&&(ids.all λi=>!(Nat.ble r i&&Nat.blt i (r+k)))&&keepD (erH B s.heap) (erH B S2.heap)
theorem shut_adds{r:Nat}{x:List (B.S c)}(hx:x=pre++y::post)(hm:eget s.heap m=some (.fm n c w false pre [B.Y c r y] post))(hw:eget s.heap w=some (.fr c false pre 1 post))(hz: ∀p∈nameT r (B.Z c r y),eget s.heap p.1=some p.2)(hc:pre.length<famCap)
  (hC:shC B m w r (B.K c) ids (shH B m n c x ids s) s=true):
  Adds (λid=>if id<s.cnt then id else if s.cnt+1+B.K c*pre.length<=id/\id<s.cnt+1+B.K c*pre.length+B.K c then r+(id-(s.cnt+1+B.K c*pre.length))else w+(id-s.cnt)) (erS B (shH B m n c x ids s)) (erS B s):=by
 simp only[shC,Bool.and_eq_true,Bool.not_eq_true']at hC
 obtain⟨⟨⟨⟨⟨⟨⟨w1,w2⟩,w3⟩,w4⟩,d1⟩,d2⟩,d4⟩,d3⟩:=hC
 have low: ∀{id b},eget s.heap id=some b->id<s.cnt:=λhg=>by have:=eget_all w4 hg;simpa[Nat.blt_eq]using this
 have flow: ∀{k b id x},eget s.heap k=some b->eget (erR1 B k b) id=some x->id<s.cnt:=λ{k b id x}hg hx=>by
  obtain⟨f1,f2⟩:=erR1_in hx
  have:=eget_all w3 hg
  simp only[f1,Bool.not_true,Bool.false_or]at this
  have:=Nat.le_of_ble_eq_true this
  obtain⟨o1,o2⟩:=outF_no f2
  omega
 have hwl:=low hw
 have hml:=low hm
 have hwc:w+famW<=s.cnt:=by
  have:=eget_all w3 hw
  simp only[isFr,Bool.not_true,Bool.false_or]at this
  exact Nat.le_of_ble_eq_true this
 have hz: ∀j z,(B.Z c r y)[j]? =some z->eget s.heap (r+j)=some (toTB z):=λj z hj=>by
  refine hz (r+j,toTB z) ?_
  have: ∀{l:List (ZB B.S)}{r j:Nat},l[j]? =some z->(r+j,toTB z)∈nameT r l:=by
   intro l
   induction l with
   |nil=>intro r j h;simp at h
   |cons a q ih=>
    intro r j h
    cases j with
    |zero=>simp at h;subst h;simp[nameT]
    |succ j=>
     simp only[nameT,List.mem_cons]
     right
     have:=ih (r:=r+1) (j:=j) (by simpa using h)
     rw[show r+(j+1)=r+1+j from by omega];exact this
  exact this hj
 have hzk: ∀j,j<B.K c-> ∃z,(B.Z c r y)[j]? =some z:=λj hj=>⟨_,List.getElem?_eq_getElem (by rw[(B.hF c).hz];exact hj)⟩
 have key: ∀{id b},eget (shH B m n c x ids s).heap id=some b->(id=m/\b=.fm n c s.cnt false x [] [])\/(id=s.cnt/\b=.fr c false x 0 [])\/(id≠m/\id≠w/\id<s.cnt/\eget s.heap id=some b/\ ∀j,j<B.K c->id≠r+j):=λ{id b}hg=>by
  simp only[shH,egetC]at hg
  split at hg
  ·rename_i e;cases hg;exact .inl ⟨e.symm,rfl⟩
  ·split at hg
   ·rename_i e;cases hg;exact .inr (.inl ⟨e.symm,rfl⟩)
   ·rename_i e1 e2
    have hin:=keepH_in hg
    refine .inr (.inr ⟨λe=>e1 e.symm,λe=>(by rw[e,d2]at hin;cases hin),low (keepH_get hg),keepH_get hg,λj hj e=>?_⟩)
    unfold memB at hin
    obtain⟨i,hi,hb⟩:=List.any_eq_true.1 hin
    have:=List.all_eq_true.1 d4 i hi
    have hb:=Nat.eq_of_beq_eq_true hb
    subst hb
    subst e
    rw[Nat.ble_eq_true_of_le (by omega),bltT (by omega)]at this
    cases this
 have hL:famL B c s.cnt 0 x=famL B c s.cnt 0 pre++(B.Y c (s.cnt+1+B.K c*pre.length) y).er B.E::famL B c s.cnt (pre.length+1) post:=by
  rw[hx,famL_app,Nat.zero_add,famL_cons hc]
 have hfr:erR1 B s.cnt (.fr c false x 0 [])=famR B c s.cnt 0 x:=by simp[erR1,famR]
 have hmid: ∀{id b},eget (famR B c s.cnt 0 x) id=some b↔(eget (erR1 B s.cnt (.fr c false pre 1 post)) id=some b\/eget (nameZ B (s.cnt+1+B.K c*pre.length) (B.Z c (s.cnt+1+B.K c*pre.length) y)) id=some b):=λ{id b}=>by
  rw[<-erR1_mid (cl:=false) hc,hx,famR_app,Nat.zero_add]
  simp[erR1]
 have row: ∀{k b id x0},eget (shH B m n c x ids s).heap k=some b->eget (erR1 B k b) id=some x0->(k=s.cnt/\(eget (erR1 B s.cnt (.fr c false pre 1 post)) id=some x0\/eget (nameZ B (s.cnt+1+B.K c*pre.length) (B.Z c (s.cnt+1+B.K c*pre.length) y)) id=some x0))\/(k≠w/\eget s.heap k=some b):=λ{k b id x0}hg hr=>by
  obtain⟨f1,f2⟩:=erR1_in hr
  rcases key hg with⟨rfl,rfl⟩|⟨rfl,rfl⟩|⟨_,h2,_,h3,_⟩
  ·cases f1
  ·rw[hfr]at hr
   exact .inl ⟨rfl,hmid.1 hr⟩
  ·exact .inr ⟨h2,h3⟩
 have side: ∀{v id b},eget (erR1 B v (.fr c false pre 1 post)) id=some b->v<id/\id<v+famW/\(id<v+1+B.K c*pre.length\/v+1+B.K c*pre.length+B.K c<=id):=λ{v id b}h=>by
  obtain⟨o1,o2⟩:=outF_no (erR1_in h).2
  refine⟨o1,o2,?_⟩
  simp only[erR1,cond_false]at h
  rw[eget_app]at h
  split at h
  ·rename_i z hq
   have:=(famR_ge hq).2
   rw[Nat.zero_add]at this
   exact .inl this
  ·have h4:=(famR_ge h).1
   rw[Nat.mul_add]at h4
   right;omega
 have hpi: ∀{id b},eget (erR1 B s.cnt (.fr c false pre 1 post)) id=some b->(if id<s.cnt then id else if s.cnt+1+B.K c*pre.length<=id/\id<s.cnt+1+B.K c*pre.length+B.K c then r+(id-(s.cnt+1+B.K c*pre.length))else w+(id-s.cnt))=w+(id-s.cnt):=λ{id b}h=>by
  obtain⟨o1,o2,o3⟩:=side h
  rw[if_neg (by omega),if_neg (by omega)]
 have okR: ∀{id b},eget (famR B c s.cnt 0 x) id=some b->okId (erS B s).cnt (erS B (shH B m n c x ids s)).heap id=true:=λ{id b}h=>
  okId_has (wf_row (w:=s.cnt) (b:=.fr c false x 0 []) w2 (by simp only[shH,egetC];rw[if_neg (by omega)];simp) (by rw[hfr];exact h))
 have hro:=(B.hF c).hr (okId (erS B s).cnt (erS B (shH B m n c x ids s)).heap) (λid=>if id<s.cnt then id else if s.cnt+1+B.K c*pre.length<=id/\id<s.cnt+1+B.K c*pre.length+B.K c then r+(id-(s.cnt+1+B.K c*pre.length))else w+(id-s.cnt)) (s.cnt+1+B.K c*pre.length) r y λj hj=>⟨by
  obtain⟨z,hz⟩:=nameZ_has (r:=s.cnt+1+B.K c*pre.length) (y:=y) hj
  exact okR (hmid.2 (.inr hz)),by
  rw[if_neg (by omega),if_pos (by omega)];omega⟩
 have hpre: ∀{id b},eget (famR B c s.cnt 0 pre) id=some b->eget (erR1 B s.cnt (.fr c false pre 1 post)) id=some b:=λ{id b}h=>by
  simp only[erR1,cond_false];rw[eget_app,h]
 have hpost: ∀{id b},eget (famR B c s.cnt (pre.length+1) post) id=some b-> ∃b',eget (erR1 B s.cnt (.fr c false pre 1 post)) id=some b':=λ{id b}h=>by
  simp only[erR1,cond_false];rw[eget_app]
  cases hq:eget (famR B c s.cnt 0 pre) id with
  |some z=>exact⟨z,rfl⟩
  |none=>exact⟨b,h⟩
 have from_: ∀{id b},eget (erS B (shH B m n c x ids s)).heap id=some b->(id<s.cnt/\id≠w/\(∃b',eget (erS B s).heap id=some b')/\(∀j,j<B.K c->id≠r+j)/\outF w id=true)\/(id=s.cnt)\/(eget (erR1 B s.cnt (.fr c false pre 1 post)) id=some b)\/(eget (nameZ B (s.cnt+1+B.K c*pre.length) (B.Z c (s.cnt+1+B.K c*pre.length) y)) id=some b):=λ{id b}hb=>by
  rcases wf_erS w2 hb with⟨b0,hg,rfl⟩|⟨_,k,b0,hg,hr⟩
  ·rcases key hg with⟨rfl,_⟩|⟨h,_⟩|⟨h1,h2,h3,h4,h5⟩
   ·refine .inl ⟨hml,λe=>(by subst e;rw[hm]at hw;cases hw),⟨_,get_erS hm⟩,λj hj e=>?_,wf_out w1 hw hm rfl⟩
    obtain⟨z,hz'⟩:=hzk j hj
    have:=hz j z hz'
    rw[<-e,hm]at this
    cases z<;>cases this
   ·exact .inr (.inl h)
   ·exact .inl ⟨h3,h2,⟨_,get_erS h4⟩,h5,wf_out w1 hw h4 rfl⟩
  ·rcases row hg hr with⟨_,h|h⟩|⟨h1,h2⟩
   ·exact .inr (.inr (.inl h))
   ·exact .inr (.inr (.inr h))
   ·obtain⟨f1,f2⟩:=erR1_in hr
    refine .inl ⟨flow h2 hr,λe=>?_,⟨_,wf_row w1 h2 hr⟩,λj hj e=>?_,?_⟩
    ·subst e
     rw[wf_out w1 h2 hw f1]at f2;cases f2
    ·obtain⟨z,hz'⟩:=hzk j hj
     have:=wf_out w1 h2 (hz j z hz') f1
     rw[<-e,f2]at this;cases this
    ·cases ho:outF w id with
     |true=>rfl
     |false=>exact absurd (wf_two w1 hw h2 rfl f1 ho f2).symm h1
 refine⟨?_,λid hl=>if_pos hl,?_,?_,by show s.cnt<=s.cnt+famW+1;omega,?_⟩
 ·intro id b hb
  rcases wf_erS w2 hb with⟨b0,hg,rfl⟩|⟨_,k,b0,hg,hr⟩
  ·rcases key hg with⟨rfl,rfl⟩|⟨rfl,rfl⟩|⟨h1,h2,h3,h4,h5⟩
   ·refine⟨erB B (.fm n c w false pre [B.Y c r y] post),?_,.inr ?_⟩
    ·rw[if_pos hml];exact get_erS hm
    ·simp only[erB,erL,List.length_nil,List.length_singleton,cond_false,List.nil_append,famL]
     rw[hL,List.append_nil]
     refine .cells (.p ?_ (.k hro.1 ?_))
     ·exact famL_co λid x0 h=>⟨okR (hmid.2 (.inl (hpre h))),hpi (hpre h)⟩
     ·exact famL_co λid x0 h=>by
       obtain⟨b',h'⟩:=hpost h
       exact⟨okR (hmid.2 (.inl h')),hpi h'⟩
   ·refine⟨erB B (.fr c false pre 1 post),?_,.inl rfl⟩
    rw[if_neg (by omega),if_neg (by omega),Nat.sub_self,Nat.add_zero]
    exact get_erS hw
   ·refine⟨_,?_,.inl rfl⟩
    rw[if_pos h3];exact get_erS h4
  ·rcases row hg hr with⟨_,h|h⟩|⟨h1,h2⟩
   ·obtain⟨x',q1,q2⟩:=erR1_co (w':=w) (ok:=okId (erS B s).cnt (erS B (shH B m n c x ids s)).heap) (π:=λid=>if id<s.cnt then id else if s.cnt+1+B.K c*pre.length<=id/\id<s.cnt+1+B.K c*pre.length+B.K c then r+(id-(s.cnt+1+B.K c*pre.length))else w+(id-s.cnt)) (λid x0 h=>⟨okR (hmid.2 (.inl h)),hpi h⟩) id b h
    exact⟨x',by rw[hpi h];exact wf_row w1 hw q1,.inr q2⟩
   ·obtain⟨g1,g2⟩:=nameZ_in h
    rw[nameZ_get,if_pos g1]at h
    obtain⟨z,hz1,hz2⟩:=Option.map_eq_some_iff.1 h
    obtain⟨z',hz'⟩:=hzk (id-(s.cnt+1+B.K c*pre.length)) (by omega)
    refine⟨_,?_,.inr (by rw[<-hz2];exact hro.2 _ _ _ hz1 hz')⟩
    rw[if_neg (by omega),if_pos (by omega),<-toTB_er]
    exact get_erS (hz _ _ hz')
   ·exact⟨b,by rw[if_pos (flow h2 hr)];exact wf_row w1 h2 hr,.inl rfl⟩
 ·intro id id' b b' hb hb' e
  have hrk: ∀j,j<B.K c->r+j<s.cnt/\r+j≠w/\outF w (r+j)=true:=λj hj=>by
   obtain⟨z,hz'⟩:=hzk j hj
   have:=hz j z hz'
   refine⟨low this,λe=>?_,wf_out w1 hw this rfl⟩
   rw[e,hw]at this
   cases z<;>cases this
  rcases from_ hb with⟨a1,a2,_,a3,a4⟩|h|h|h<;>rcases from_ hb' with⟨c1,c2,_,c3,c4⟩|h'|h'|h'
  ·rw[if_pos a1,if_pos c1]at e;exact e
  ·rw[if_pos a1,h',if_neg (by omega),if_neg (by omega)]at e;omega
  ·rw[if_pos a1,hpi h']at e
   obtain⟨o1,o2,_⟩:=side h'
   rw[e,outF_of (by omega) (by omega)]at a4;cases a4
  ·obtain⟨g1,g2⟩:=nameZ_in h'
   rw[if_pos a1,if_neg (by omega),if_pos (by omega)]at e
   exact absurd e (a3 _ (by omega))
  ·rw[if_pos c1,h,if_neg (by omega),if_neg (by omega)]at e;omega
  ·omega
  ·rw[hpi h',h,if_neg (by omega),if_neg (by omega)]at e
   obtain⟨o1,_⟩:=side h'
   omega
  ·obtain⟨g1,g2⟩:=nameZ_in h'
   rw[h,if_neg (by omega),if_neg (by omega),if_neg (by omega),if_pos (by omega)]at e
   exact absurd e.symm (by rw[Nat.sub_self,Nat.add_zero];exact(hrk _ (by omega)).2.1)
  ·rw[if_pos c1,hpi h]at e
   obtain⟨o1,o2,_⟩:=side h
   rw[<-e,outF_of (by omega) (by omega)]at c4;cases c4
  ·rw[hpi h,h',if_neg (by omega),if_neg (by omega)]at e
   obtain⟨o1,_⟩:=side h
   omega
  ·rw[hpi h,hpi h']at e
   obtain⟨o1,_⟩:=side h
   obtain⟨o2,_⟩:=side h'
   omega
  ·obtain⟨g1,g2⟩:=nameZ_in h'
   rw[hpi h,if_neg (by omega),if_pos (by omega)]at e
   obtain⟨o1,o2,_⟩:=side h
   have:=(hrk (id'-(s.cnt+1+B.K c*pre.length)) (by omega)).2.2
   rw[<-e,outF_of (by omega) (by omega)]at this;cases this
  ·obtain⟨g1,g2⟩:=nameZ_in h
   rw[if_pos c1,if_neg (by omega),if_pos (by omega)]at e
   exact absurd e.symm (c3 _ (by omega))
  ·obtain⟨g1,g2⟩:=nameZ_in h
   rw[h',if_neg (by omega),if_pos (by omega),if_neg (by omega),if_neg (by omega)]at e
   exact absurd e (by rw[Nat.sub_self,Nat.add_zero];exact(hrk _ (by omega)).2.1)
  ·obtain⟨g1,g2⟩:=nameZ_in h
   rw[hpi h',if_neg (by omega),if_pos (by omega)]at e
   obtain⟨o1,o2,_⟩:=side h'
   have:=(hrk (id-(s.cnt+1+B.K c*pre.length)) (by omega)).2.2
   rw[e,outF_of (by omega) (by omega)]at this;cases this
  ·obtain⟨g1,g2⟩:=nameZ_in h
   obtain⟨g3,g4⟩:=nameZ_in h'
   rw[if_neg (by omega),if_pos (by omega),if_neg (by omega),if_pos (by omega)]at e
   omega
 ·intro id b hb
  show id<s.cnt+famW+1
  rcases from_ hb with⟨a1,_⟩|h|h|h
  ·omega
  ·omega
  ·have:=(side h).2.1;omega
  ·have:=(outF_no (famR_in (hmid.2 (.inr h)))).2;omega
 ·intro id hd
  rcases wf_erS w1 hd with⟨b,hg,hb⟩|⟨hn,k,b,hg,hr⟩
  ·have:=keepD_iff d3 id (by rw[get_erH,hg,Option.map_some,<-hb])
   simp only[erS]
   rw[eget_app,this]
  ·exact(rowCells hr).elim
theorem ixSplit{α:Type}{x:List α}{i:Int}{y:α}(h:ix x i=some y):x=x.take i.toNat++y::x.drop (i.toNat+1)/\(x.take i.toNat).length=i.toNat:=by
 obtain⟨_,hy⟩:=ixE h
 obtain⟨hl,e⟩:=List.getElem?_eq_some_iff.1 hy
 refine⟨?_,by rw[List.length_take];omega⟩
 have:=List.take_append_drop i.toNat x
 rw[List.drop_eq_getElem_cons hl,e]at this
 exact this.symm
theorem ixPut{α:Type}{x:List α}{i:Int}{y z:α}(h:ix x i=some y):x.set i.toNat z=x.take i.toNat++z::x.drop (i.toNat+1):=by
 obtain⟨_,hy⟩:=ixE h
 rw[List.set_eq_take_append_cons_drop,if_pos (List.getElem?_eq_some_iff.1 hy).1]
theorem ixLen{α:Type}{x:List α}{i:Int}{y:α}(h:ix x i=some y)(hc:i.toNat<famCap):i.toNat=(x.take i.toNat).length/\i.toNat<=famCap:=⟨(ixSplit h).2.symm,Nat.le_of_lt hc⟩
theorem seg_m{c n w i:Nat}{x:List (B.S c)}{y:B.S c}(h:x=x.take i++y::x.drop (i+1))(hl:(x.take i).length=i):erB B (.fm n c w false x [] [])=erB B (.fm n c w false (x.take i) [] (y::x.drop (i+1))):=by
 have:famL B c w 0 x=famL B c w 0 (x.take i)++famL B c w i (y::x.drop (i+1)):=by
  conv=>lhs;rw[h,famL_app,hl,Nat.zero_add]
 simp only[erB,erL,cond_false,List.length_nil,Nat.add_zero,List.nil_append,famL,List.append_nil,this,hl]
theorem seg_w{c w i:Nat}{x:List (B.S c)}{y:B.S c}(h:x=x.take i++y::x.drop (i+1))(hl:(x.take i).length=i):erR1 B w (.fr c false x 0 [])=erR1 B w (.fr c false (x.take i) 0 (y::x.drop (i+1))):=by
 have:famR B c w 0 x=famR B c w 0 (x.take i)++famR B c w i (y::x.drop (i+1)):=by
  conv=>lhs;rw[h,famR_app,hl,Nat.zero_add]
 simp only[erR1,cond_false,Nat.add_zero,famR,List.append_nil,this,hl]
end
theorem ixCap{α:Type}{x:List α}{i:Int}{y:α}(h:ix x i=some y)(hc:i.toNat<famCap):(x.take i.toNat).length<famCap:=by rw[(ixSplit h).2];exact hc
theorem ixRange{α:Type}{x:List α}{i:Int}{y:α}(h:ix x i=some y):0<=i/\i<(x.length:Int):=by
 have h1:=ixLt h
 have h0:=(ixE h).1
 omega
theorem headE{α:Type}{l:List α}{y:α}(h:ix l 0=some y):l=y::l.drop 1:=by
 have:=(ixE h).2
 cases l with
 |nil=>simp at this
 |cons a r=>simp at this;subst this;rfl
section
variable {c n w:Nat} {cl:Bool} {pre post x l:List (B.S c)} {y:B.S c}
theorem headM(h:ix l 0=some y):erB B (.fm n c w cl pre [] l)=erB B (.fm n c w cl pre [] (y::l.drop 1)):=by rw[<-headE h]
theorem headW(h:ix l 0=some y):erR1 B w (.fr c cl pre 0 l)=erR1 B w (.fr c cl pre 0 (y::l.drop 1)):=by rw[<-headE h]
theorem clM:erB B (.fm n c w false x [] [])=erB B (.fm n c w true [] [] x):=by simp[erB,famL,erL]
theorem clW:erR1 B w (.fr c false x 0 [])=erR1 B w (.fr c true [] 0 x):=by simp[erR1,famR]
theorem shM{v:TV B.S}(h:B.E c y=v.er B.E):erB B (.fm n c w true pre [v] post)=erB B (.fm n c w true (pre++[y]) [] post):=by simp[erB,erL,h]
theorem shW:erR1 B w (.fr c true pre 1 post)=erR1 B w (.fr c true (pre++[y]) 0 post):=by simp[erR1]
theorem endM{k:Nat}(h:post=[]/\k=pre.length):erB B (.fm n c w true pre [] post)=erB B (.ls n c pre k h.2):=by
 obtain⟨h,_⟩:=h
 subst h
 simp[erB,famL,erL]
end
theorem injSL{α:Type}{E:α->AV}(hE: ∀x y,E x=E y->x=y): ∀l m:List α,l.map E=m.map E->l=m
 | [],[],_=>rfl
 | [],_::_,h=>by cases h
 |_::_,[],h=>by cases h
 |a::x,b::y,h=>by
  simp only[List.map_cons,List.cons.injEq]at h
  rw[hE _ _ h.1,injSL hE x y h.2]
section
variable {P:Program} {N:Nat} {ρ:Option Nat} {Q:Exit->Env->St->Prop} {M:TM B.S}
theorem rt_see{o:TO B.S}{k:List Fr}{env:TEnv B.S}{S2 s:TSt B.S}(ho:isOut o=true)(h:See N ρ s.cnt (erE B env) (erS B S2) (erE B env) (erS B s))(hk:RT0 B P N ρ Q ⟨o,k,env,S2⟩):RT0 B P N ρ Q ⟨o,k,env,s⟩:=by
 cases o<;>simp only[isOut]at ho<;>first|(cases ho;done)|skip
 ·have hk:RW0 P N ρ Q ⟨.run _,k,erE B env,erS B S2⟩:=hk
  exact rw_see (base:=s.cnt) (Nat.le_refl _) h hk
 ·have hk:RW0 P N ρ Q ⟨.out _,k,erE B env,erS B S2⟩:=hk
  exact rw_see (base:=s.cnt) (Nat.le_refl _) h hk
theorem rt_adds{π:Nat->Nat}{o:TO B.S}{k:List Fr}{env:TEnv B.S}{S2 s:TSt B.S}(ho:isOut o=true)(h:Adds π (erS B S2) (erS B s))(hk:RT0 B P N ρ Q ⟨o,k,env,S2⟩):RT0 B P N ρ Q ⟨o,k,env,s⟩:=rt_see ho (see_adds h) hk
def putS{S:Nat->Type}(M:TM S)(s:TSt S):TM S:=⟨M.o,M.k,M.env,s⟩
theorem tOi(rid m w n c:Nat)(ids:List Nat){x:List (B.S c)}{i:Int}{y:B.S c}(h:ix x i=some y)(hc:i.toNat<famCap)
  (k:RT B P N ρ Q (putS (toReg B P N rid M).1 (opH B m w n c false (x.take i.toNat) y (x.drop (i.toNat+1)) ids (toReg B P N rid M).1.s)))
  (hx:(isOut (toReg B P N rid M).1.o,eget (toReg B P N rid M).1.s.heap m,eget (toReg B P N rid M).1.s.heap w,opC B m w ids (opH B m w n c false (x.take i.toNat) y (x.drop (i.toNat+1)) ids (toReg B P N rid M).1.s) (toReg B P N rid M).1.s,(toReg B P N rid M).2.map Prod.fst)=
   (true,some (.fm n c w false x [] []),some (.fr c false x 0 []),true,(toReg B P N rid M).2.map Prod.snd):=by kernel_rfl):RT B P N ρ Q M:=by
 simp only[Prod.mk.injEq]at hx
 obtain⟨h1,h2,h3,h4,h5⟩:=hx
 refine⟨goT_ok (pairs_ok h5) ?_⟩
 have k:=k.v
 unfold putS at k
 show RT0 B P N ρ Q (toReg B P N rid M).1
 obtain⟨e1,e2⟩:=ixSplit h
 exact rt_adds h1 (open_adds h2 (seg_m e1 e2) rfl h3 rfl (seg_w e1 e2) (by rw[e2];exact hc) h4) k
theorem tOh(rid m w n c:Nat)(ids:List Nat)(cl:Bool)(pre:List (B.S c))(y:B.S c)(post:List (B.S c))(hc:pre.length<famCap)
  (k:RT B P N ρ Q (putS (toReg B P N rid M).1 (opH B m w n c cl pre y post ids (toReg B P N rid M).1.s)))
  (hx:(isOut (toReg B P N rid M).1.o,eget (toReg B P N rid M).1.s.heap m,eget (toReg B P N rid M).1.s.heap w,opC B m w ids (opH B m w n c cl pre y post ids (toReg B P N rid M).1.s) (toReg B P N rid M).1.s,(toReg B P N rid M).2.map Prod.fst)=
   (true,some (.fm n c w cl pre [] (y::post)),some (.fr c cl pre 0 (y::post)),true,(toReg B P N rid M).2.map Prod.snd):=by kernel_rfl):RT B P N ρ Q M:=by
 simp only[Prod.mk.injEq]at hx
 obtain⟨h1,h2,h3,h4,h5⟩:=hx
 refine⟨goT_ok (pairs_ok h5) ?_⟩
 have k:=k.v
 unfold putS at k
 show RT0 B P N ρ Q (toReg B P N rid M).1
 exact rt_adds h1 (open_adds h2 rfl rfl h3 rfl rfl hc h4) k
def hasZ{S:Nat->Type}(h:List (Nat×TB S)):List (Nat×TB S)->List (Option (TB S))
 | []=>[]
 |p::r=>eget h p.1::hasZ h r
theorem hasZ_ok{h:List (Nat×TB B.S)}: ∀{l:List (Nat×TB B.S)},hasZ h l=l.map (λp=>some p.2)-> ∀p∈l,eget h p.1=some p.2
 | [],_,p,hp=>by simp at hp
 |a::r,e,p,hp=>by
  simp only[hasZ,List.map_cons,List.cons.injEq]at e
  simp only[List.mem_cons]at hp
  rcases hp with rfl|hp
  ·exact e.1
  ·exact hasZ_ok e.2 p hp
theorem tSh(rid m w n c r:Nat)(ids:List Nat)(pre:List (B.S c))(y:B.S c)(post x:List (B.S c))(hc:pre.length<famCap)(he:x=pre++y::post)
  (k:RT B P N ρ Q (putS (toReg B P N rid M).1 (shH B m n c x ids (toReg B P N rid M).1.s)))
  (hx:(isOut (toReg B P N rid M).1.o,eget (toReg B P N rid M).1.s.heap m,eget (toReg B P N rid M).1.s.heap w,hasZ (toReg B P N rid M).1.s.heap (nameT r (B.Z c r y)),shC B m w r (B.K c) ids (shH B m n c x ids (toReg B P N rid M).1.s) (toReg B P N rid M).1.s,(toReg B P N rid M).2.map Prod.fst)=
   (true,some (.fm n c w false pre [B.Y c r y] post),some (.fr c false pre 1 post),(nameT r (B.Z c r y)).map (λp=>some p.2),true,(toReg B P N rid M).2.map Prod.snd):=by kernel_rfl):RT B P N ρ Q M:=by
 simp only[Prod.mk.injEq]at hx
 obtain⟨h1,h2,h3,h4,h5,h6⟩:=hx
 refine⟨goT_ok (pairs_ok h6) ?_⟩
 have k:=k.v
 unfold putS at k
 show RT0 B P N ρ Q (toReg B P N rid M).1
 exact rt_adds h1 (shut_adds he h2 h3 (hasZ_ok h4) hc h5) k
end
theorem get_delR{id:Nat}: ∀{k:Nat}{h:List (Nat×Blk)}{r:Nat},eget (delR r k h) id=if r<=id/\id<r+k then none else eget h id
 |0,h,r=>by rw[if_neg (by omega)];rfl
 |k+1,h,r=>by
  simp only[delR]
  rw[get_delR (k:=k),get_del]
  by_cases h1:r<=id/\id<r+k
  ·rw[if_pos h1,if_pos (by omega)]
  ·rw[if_neg h1]
   by_cases h2:r+k=id
   ·rw[if_pos h2,if_pos (by omega)]
   ·rw[if_neg h2,if_neg (by omega)]
theorem flatSwap{A R:List AV}{e e':AV}(hl:e'.cells.length=e.cells.length){k:Nat}{x':AV}(h:(flat (A++e'::R))[k]? =some x'):
  (∃(j:Nat)(x:AV),e'.cells[j]? =some x'/\e.cells[j]? =some x/\(flat (A++e::R))[k]? =some x)\/(flat (A++e::R))[k]? =some x':=by
 rw[flat_append,flat_cons]at h ⊢
 by_cases h1:k<(flat A).length
 ·right
  rw[List.getElem?_append_left h1]at h ⊢;exact h
 ·rw[List.getElem?_append_right (by omega)]at h ⊢
  by_cases h2:k-(flat A).length<e.cells.length
  ·left
   rw[List.getElem?_append_left (by omega)]at h ⊢
   exact⟨k-(flat A).length,_,h,List.getElem?_eq_getElem h2,List.getElem?_eq_getElem h2⟩
  ·right
   rw[List.getElem?_append_right (by omega)]at h ⊢
   rw[hl]at h;exact h
section
variable {G G1:Ghost} {s s1:St} {w:World}
theorem Sim.swap(h:Sim G1 s1 w){m n:Nat}{es es':List AV}(hg:eget s1.heap m=some (.cells n es))(hn:es=[]->es'=[])(hh: ∀r o,G1.own m=some r->w.heap[r.block]? =some o->Holds G1 r (.cells n es') o):
  Sim G1 ⟨eset s1.heap m (.cells n es'),s1.cnt⟩ w:=by
 have gs: ∀{i b},eget (eset s1.heap m (.cells n es')) i=some b->(i=m/\b=.cells n es')\/(i≠m/\eget s1.heap i=some b):=λ{i b}hi=>by
  rw[get_set]at hi
  split at hi
  ·cases hi;exact .inl ⟨by omega,rfl⟩
  ·exact .inr ⟨by omega,hi⟩
 have gs': ∀{i b},eget (eset s1.heap m (.cells n es')) i=some b-> ∃b0,eget s1.heap i=some b0:=λ{i b}hi=>by
  rcases gs hi with⟨rfl,_⟩|⟨_,hb⟩
  ·exact⟨_,hg⟩
  ·exact⟨_,hb⟩
 refine⟨h.imm,λi b hi=>?_,λi i' b b' r r' h1 h2 o1 o2 hne=>?_,λi b r o hi ho=>?_,h.fresh,λi b hi=>?_⟩
 ·rcases gs hi with⟨rfl,rfl⟩|⟨_,hb⟩
  ·rcases h.heap _ _ hg with⟨r,o,e1,e2,_⟩|⟨e1,sz,h0,e2⟩
   ·exact .inl ⟨r,o,e1,e2,hh r o e1 e2⟩
   ·cases e2
    exact .inr ⟨e1,n,h0,by rw[hn rfl]⟩
  ·exact h.heap i b hb
 ·obtain⟨b1,g1⟩:=gs' h1
  obtain⟨b2,g2⟩:=gs' h2
  exact h.apart i i' b1 b2 r r' g1 g2 o1 o2 hne
 ·obtain⟨b1,g1⟩:=gs' hi
  exact h.clear i b1 r o g1 ho
 ·obtain⟨b1,g1⟩:=gs' hi
  exact h.lt i b1 g1
theorem Ext.swap(h:Ext G s w G1 s1 w){m n:Nat}{es es':List AV}(hg:eget s1.heap m=some (.cells n es)):Ext G s w G1 ⟨eset s1.heap m (.cells n es'),s1.cnt⟩ w:=
 ⟨h.le,h.os,h.tape,h.output,h.size,h.keep,h.immNew,h.ownNew,λid b hi=>by
  simp only at hi
  rw[get_set]at hi
  split at hi
  ·rename_i e;subst e;exact h.ids _ _ hg
  ·exact h.ids id b hi,h.cnt,λid hd=>by
  have:=h.dfr id hd
  rw[get_set,if_neg (λe=>by subst e;rw[hg]at this;cases this)];exact this,h.stay,h.drawn⟩
end
theorem frAll{c m n v:Nat}(hk:0<B.K c)(hmv:outF v m=true): ∀(post pre:List (B.S c))(s:St)(G:Ghost)(w:World),pre.length+post.length<=famCap->Sim G s w->
  eget s.heap m=some (.cells n (pre.map (B.E c)++famL B c v pre.length post))->(∀id x,eget (famR B c v pre.length post) id=some x->eget s.heap id=some x)->
  ∃G' s',Sim G' s' w/\Ext G s w G' s' w/\eget s'.heap m=some (.cells n ((pre++post).map (B.E c)))/\(∀id b,id≠m->outF v id=true->eget s.heap id=some b->eget s'.heap id=some b)/\s'.cnt=s.cnt
 | [],pre,s,G,w,_,hs,hm,_=>⟨G,s,hs,.refl _ _ _,by simpa[famL]using hm,λ_ _ _ _ h=>h,rfl⟩
 |y::r,pre,s,G,w,hl,hs,hm,hr=>by
  simp only[List.length_cons]at hl
  have hc:pre.length<famCap:=by omega
  rw[famL_cons hc]at hm
  rw[famR_cons hc]at hr
  have hF:=B.hF c
  have hz: ∀(j:Nat)(z:ZB B.S),(B.Z c (v+1+B.K c*pre.length) y)[j]? =some z->eget s.heap (v+1+B.K c*pre.length+j)=some (blZ (erZ B.E z)):=λj z hz=>by
   refine hr _ _ ?_
   rw[eget_app,nameZ_get,if_pos (by omega),show v+1+B.K c*pre.length+j-(v+1+B.K c*pre.length)=j from by omega,hz]
   rfl
  obtain⟨G1,s1,x1,hv⟩:=hF.hf (v+1+B.K c*pre.length) y s G w hs hz
  have nin: ∀{id},outF v id=true-> ¬(v+1+B.K c*pre.length<=id/\id<v+1+B.K c*pre.length+B.K c):=λ{id}ho hq=>by
   have hk4:=hF.hk
   have:B.K c*pre.length<=4*4095:=Nat.mul_le_mul hk4 (by unfold famCap at hc;omega)
   rw[outF_of (by omega) (by unfold famW;omega)]at ho;cases ho
  have hm1:eget (delR (v+1+B.K c*pre.length) (B.K c) s.heap) m=some (.cells n (pre.map (B.E c)++(B.Y c (v+1+B.K c*pre.length) y).er B.E::famL B c v (pre.length+1) r)):=by
   rw[get_delR,if_neg (nin hmv)];exact hm
  have hlen:(B.E c y).cells.length=((B.Y c (v+1+B.K c*pre.length) y).er B.E).cells.length:=by rw[B.hw,hF.hw]
  have hs2:=s1.swap (es':=(pre++[y]).map (B.E c)++famL B c v (pre.length+1) r) hm1 (λe=>by simp at e) λrg o ho hw=>by
   rcases hs.heap m _ hm with⟨r',o',e1,e2,e3⟩|⟨e1,sz,_,e2⟩
   ·have:=x1.le.own _ _ e1
    rw[ho]at this;cases this
    rw[hw]at e2;cases e2
    cases e3 with
    |cells _ _ cs e hsz hesz h0 hel hsc hin hV=>
     refine .cells _ _ cs e hsz hesz h0 (λx hx=>?_) (λx hx=>?_) (by simpa using hin) λk x hx=>?_
     ·simp only[List.map_append,List.map_cons,List.map_nil,List.append_assoc,List.cons_append,List.nil_append,List.mem_append,List.mem_cons]at hx
      rcases hx with h|rfl|h
      ·exact hel x (by simp[h])
      ·rw[hlen];exact hel _ (by simp)
      ·exact hel x (by simp[h])
     ·simp only[List.map_append,List.map_cons,List.map_nil,List.append_assoc,List.cons_append,List.nil_append]at hx
      rw[flat_append,flat_cons]at hx
      simp only[List.mem_append]at hx
      rcases hx with h|h|h
      ·exact hsc x (by rw[flat_append];simp[h])
      ·exact hF.hs hk y x h
      ·exact hsc x (by rw[flat_append,flat_cons];simp[h])
     ·simp only[List.map_append,List.map_cons,List.map_nil,List.append_assoc,List.cons_append,List.nil_append]at hx
      rcases flatSwap hlen hx with⟨j,x0,q1,q2,q3⟩|q
      ·obtain⟨u,p1,p2⟩:=hV k x0 q3
       exact⟨u,p1,hv j x0 x u q2 q1 p2⟩
      ·obtain⟨u,p1,p2⟩:=hV k x q
       exact⟨u,p1,p2.mono x1.le⟩
   ·exfalso
    have:=congrArg (λb=>match b with|Blk.cells _ l=>l.length|_=>0) e2
    simp at this
  have x2:=x1.swap (es':=(pre++[y]).map (B.E c)++famL B c v (pre.length+1) r) hm1
  have hne: ∀{id x},eget (famR B c v (pre.length+1) r) id=some x->id≠m/\ ¬(v+1+B.K c*pre.length<=id/\id<v+1+B.K c*pre.length+B.K c):=λ{id x}h=>by
   refine⟨λe=>?_,λhq=>?_⟩
   ·subst e
    rw[famR_in h]at hmv;cases hmv
   ·have:=(famR_ge h).1
    rw[Nat.mul_add]at this
    omega
  obtain⟨G',s',a1,a2,a3,a4,a5⟩:=frAll hk hmv r (pre++[y]) _ G1 w (by simp only[List.length_append,List.length_singleton];omega) hs2 (by
   rw[get_set,if_pos rfl,List.length_append,List.length_singleton]) λid x h=>by
   rw[List.length_append,List.length_singleton]at h
   obtain⟨n1,n2⟩:=hne h
   simp only
   rw[get_set,if_neg (λe=>n1 e.symm),get_delR,if_neg n2]
   refine hr id x ?_
   rw[eget_app]
   split
   ·rename_i z hq
    exact absurd (nameZ_in hq) n2
   ·exact h
  refine⟨G',s',a1,x2.trans hs a2,by rw[a3];simp,λid b h1 h2 h3=>?_,a5⟩
  refine a4 id b h1 h2 ?_
  simp only
  rw[get_set,if_neg (λe=>h1 e.symm),get_delR,if_neg (nin h2)]
  exact h3
section
variable {P:Program} {N:Nat} {ρ:Option Nat} {Q:Exit->Env->St->Prop} {M:TM B.S}
def faH(m n c:Nat)(x:List (B.S c))(ids:List Nat)(s:TSt B.S):TSt B.S:=⟨(m,.lz n c x)::keepH ids s.heap,s.cnt⟩
def faC(B:Tab)(m w c:Nat)(ids:List Nat)(S2 s:TSt B.S):Bool:=
 wfH s.heap&&wfH S2.heap&&!(memB m ids)&&!(memB w ids)&&outF w m&&Nat.blt 0 (B.K c)&&keepD (erH B s.heap) (erH B S2.heap)
theorem tFa(rid m w n c:Nat)(ids:List Nat)(x:List (B.S c))(hl:x.length<=famCap)
  (k:RT B P N ρ Q (putS (toReg B P N rid M).1 (faH m n c x ids (toReg B P N rid M).1.s)))
  (hx:(isOut (toReg B P N rid M).1.o,eget (toReg B P N rid M).1.s.heap m,eget (toReg B P N rid M).1.s.heap w,faC B m w c ids (faH m n c x ids (toReg B P N rid M).1.s) (toReg B P N rid M).1.s,(toReg B P N rid M).2.map Prod.fst)=
   (true,some (.fm n c w false x [] []),some (.fr c false x 0 []),true,(toReg B P N rid M).2.map Prod.snd):=by kernel_rfl):RT B P N ρ Q M:=by
 simp only[Prod.mk.injEq]at hx
 obtain⟨h1,h2,h3,h4,h5⟩:=hx
 refine⟨goT_ok (pairs_ok h5) ?_⟩
 have k:=k.v
 unfold putS at k
 show RT0 B P N ρ Q (toReg B P N rid M).1
 generalize(toReg B P N rid M).1=g at *
 obtain⟨o,kk,env,s⟩:=g
 simp only at h1 h2 h3 h4 k
 refine rt_see h1 ?_ k
 simp only[faC,Bool.and_eq_true,Bool.not_eq_true',Nat.blt_eq]at h4
 obtain⟨⟨⟨⟨⟨⟨w1,w2⟩,d1⟩,d2⟩,d3⟩,hk⟩,d4⟩:=h4
 intro G0 s0 w0 G w' a hb h0 hx hn
 have hm:=get_erS h2
 simp only[erB,erL,cond_false,List.length_nil,List.nil_append,famL,List.append_nil]at hm
 obtain⟨G',s',a1,a2,a3,a4,a5⟩:=frAll hk d3 x [] (erS B s) G w' (by simpa using hl) hn.sim (by simpa using hm) λid b hb=>wf_row w1 h3 (by simpa[erR1,famR]using hb)
 have hsub: ∀id b,eget (erS B (faH m n c x ids s)).heap id=some b->eget s'.heap id=some b:=λid b hb=>by
  have kk: ∀{i c'},eget (faH m n c x ids s).heap i=some c'->(i=m/\c'=.lz n c x)\/(i≠m/\i≠w/\eget s.heap i=some c'):=λ{i c'}hg=>by
   simp only[faH,egetC]at hg
   split at hg
   ·rename_i e;cases hg;exact .inl ⟨e.symm,rfl⟩
   ·rename_i e
    have hin:=keepH_in hg
    exact .inr ⟨λe'=>e e'.symm,λe'=>(by rw[e',d2]at hin;cases hin),keepH_get hg⟩
  rcases wf_erS w2 hb with⟨b0,hg,rfl⟩|⟨_,k,b0,hg,hr⟩
  ·rcases kk hg with⟨rfl,rfl⟩|⟨e1,e2,e3⟩
   ·rw[a3];rfl
   ·exact a4 id _ e1 (wf_out w1 h3 e3 rfl) (get_erS e3)
  ·obtain⟨f1,f2⟩:=erR1_in hr
   rcases kk hg with⟨rfl,rfl⟩|⟨e1,e2,e3⟩
   ·cases f1
   ·have ho:outF w id=true:=by
     cases ho:outF w id with
     |true=>rfl
     |false=>exact absurd (wf_two w1 h3 e3 rfl f1 ho f2).symm e2
    refine a4 id b (λe=>?_) ho (wf_row w1 e3 hr)
    subst e
    rw[wf_out w1 e3 h2 f1]at f2;cases f2
 have hdr: ∀id,eget s'.heap id=some .dfr->eget (erS B (faH m n c x ids s)).heap id=some .dfr:=λid hd=>by
  rcases a2.ids id _ hd with⟨b0,hb0⟩|hge
  ·by_cases e:id=m
   ·subst e;rw[a3]at hd;cases hd
   ·by_cases ho:outF w id=true
    ·have:=a4 id b0 e ho hb0
     rw[hd]at this;cases this
     rcases wf_erS w1 hb0 with⟨b,hg,hb⟩|⟨_,k,b,hg,hr⟩
     ·have:=keepD_iff d4 id (by rw[get_erH,hg,Option.map_some,<-hb])
      simp only[erS]
      rw[eget_app,this]
     ·exact(rowCells hr).elim
    ·exfalso
     rcases a1.heap id _ hd with⟨r,o,e1,e2,e3⟩|⟨_,_,_,e2⟩
     ·cases e3
      rcases hn.sim.heap id _ hb0 with⟨r',o',q1,q2,q3⟩|⟨q1,_,_,q2⟩
      ·have:=a2.le.own _ _ q1
       rw[e1]at this;cases this
       rw[e2]at q2;cases q2
       cases q3
       rcases wf_erS w1 hb0 with⟨b,hg,hb⟩|⟨_,k,b,hg,hr⟩
       ·exact ho (wf_out w1 h3 hg rfl)
       ·exact rowCells hr
      ·rw[a2.stay id (hn.sim.lt _ _ hb0) q1]at e1;cases e1
     ·cases e2
  ·have:=a1.lt id _ hd
   rw[a5]at this
   have h9:(erS B s).cnt=s.cnt:=rfl
   omega
 have hdrop:Ext G' s' w' G' (erS B (faH m n c x ids s)) w':=Ext.drop hsub (by rw[a5];exact Nat.le_refl _) hdr
 have hx2:=a2.trans hn.sim hdrop
 exact⟨G',⟨a1.drop hsub (by rw[a5];exact Nat.le_refl _),hn.env.mono a2.le,hn.size,hn.defs.ext hx2,hn.known.le a2.le⟩,hx.trans h0 hx2⟩
end
end
end Go.Am
section
namespace Go.Am
open Go.RowKit
variable {S:Nat->Type} {E:(c:Nat)->S c->AV} {W K:Nat->Nat} {Y:(c:Nat)->Nat->S c->TV S} {Z:(c:Nat)->Nat->S c->List (ZB S)} {c:Nat}
theorem famNone(hK:K c=0)(hZ: ∀r y,Z c r y=[])(hY: ∀r y,(Y c r y).er E=E c y)(hw: ∀y,(E c y).cells.length=W c)(hcl: ∀y,(E c y).clean=true):FamOk E W K Y Z c where
 hk:=by rw[hK];exact Nat.zero_le _
 hz:=λr y=>by rw[hZ,hK];rfl
 hw:=λr y=>by rw[hY];exact hw y
 hs:=λh=>by rw[hK]at h;cases h
 hf:=λr y s G w hs _=>⟨G,by rw[hK];exact hs,by rw[hK];exact .refl _ _ _,λj x x' v h1 h2 hv=>by
  rw[hY]at h1
  rw[h1]at h2;cases h2;exact hv⟩
 hi:=λh=>by rw[hK]at h;cases h
 hr:=λok π r r' y _=>⟨by rw[hY,hY];exact .c (hcl y),λj b b' h=>by rw[hZ]at h;simp at h⟩
theorem famLst{d n:Nat}(L:S c->List (S d))(hK:K c=1)(hW:W c=1)(hZ: ∀r y,Z c r y=[.l n d (L y)])(hY: ∀r y,(Y c r y).er E=.ms r 0 (L y).length)(hE: ∀y,E c y=.sl false ((L y).map (E d)))(hd: ∀z,(E d z).clean=true)
  (hi: ∀x y,E c x=E c y->x=y):FamOk E W K Y Z c where
 hk:=by rw[hK];decide
 hz:=λr y=>by rw[hZ,hK];rfl
 hw:=λr y=>by rw[hY,hW];rfl
 hs:=λ_ y x hx=>by
  rw[hE]at hx
  simp[AV.cells]at hx
  subst hx;rfl
 hf:=λr y s G w hs hz=>by
  have h0:=hz 0 (.l n d (L y)) (by rw[hZ];rfl)
  obtain⟨G',a1,a2,a3,_⟩:=freeze_ms hs (start:=0) (len:=0) h0 (Nat.zero_le _)
  rw[hK]
  refine⟨G',a1,a2,λj x x' v h1 h2 hv=>?_⟩
  rw[hY]at h1
  rw[hE]at h2
  cases j with
  |succ j=>simp[AV.cells]at h1
  |zero=>
   simp[AV.cells]at h1 h2
   subst h1;subst h2
   have:=a3 0 (L y).length v (by simp[erZ]) hv
   simpa[erZ,List.take_of_length_le]using this
 hi:=λ_=>hi
 hr:=λok π r r' y h=>by
  obtain⟨h1,h2⟩:=h 0 (by rw[hK];decide)
  refine⟨by rw[hY,hY];exact .ms h1 h2,λj b b' e1 e2=>?_⟩
  rw[hZ]at e1 e2
  cases j with
  |succ j=>simp at e1
  |zero=>
   simp at e1 e2
   subst e1;subst e2
   refine .cells (.r (cleanL_iff.2 λx hx=>?_))
   obtain⟨z,_,rfl⟩:=List.mem_map.1 hx
   exact hd z
theorem famAgg{d n p:Nat}(L:S c->List (S d))(a b:S c->List AV)(hp: ∀y,(a y).length=p)(hK:K c=1)(hW: ∀y,(a y).length+1+(b y).length=W c)(hZ: ∀r y,Z c r y=[.l n d (L y)])(hY: ∀r y,(Y c r y).er E=.agg (a y++ .ms r 0 (L y).length::b y))
  (hE: ∀y,E c y=.agg (a y++ .sl false ((L y).map (E d))::b y)) (hd: ∀z,(E d z).clean=true) (hab: ∀y,cleanL (a y)=true/\cleanL (b y)=true) (hsc: ∀y x,x∈a y++b y->x.scalar=true) (hi: ∀x y,E c x=E c y->x=y):FamOk E W K Y Z c where
 hk:=by rw[hK];decide
 hz:=λr y=>by rw[hZ,hK];rfl
 hw:=λr y=>by rw[hY,<-hW y];simp[AV.cells];omega
 hs:=λ_ y x hx=>by
  rw[hE]at hx
  simp only[AV.cells,List.mem_append,List.mem_cons]at hx
  rcases hx with h|rfl|h
  ·exact hsc y x (by simp[h])
  ·rfl
  ·exact hsc y x (by simp[h])
 hf:=λr y s G w hs hz=>by
  have h0:=hz 0 (.l n d (L y)) (by rw[hZ];rfl)
  obtain⟨G',a1,a2,a3,_⟩:=freeze_ms hs (start:=0) (len:=0) h0 (Nat.zero_le _)
  rw[hK]
  refine⟨G',a1,a2,λj x x' v h1 h2 hv=>?_⟩
  rw[hY]at h1
  rw[hE]at h2
  simp only[AV.cells]at h1 h2
  by_cases hj:j<(a y).length
  ·rw[List.getElem?_append_left hj]at h1 h2
   rw[h1]at h2;cases h2
   exact hv.mono a2.le
  ·rw[List.getElem?_append_right (by omega)]at h1 h2
   cases hq:j-(a y).length with
   |zero=>
    rw[hq]at h1 h2
    simp at h1 h2
    subst h1;subst h2
    have:=a3 0 (L y).length v (by simp[erZ]) hv
    simpa[erZ,List.take_of_length_le]using this
   |succ k=>
    rw[hq]at h1 h2
    simp at h1 h2
    rw[h1]at h2;cases h2
    exact hv.mono a2.le
 hi:=λ_=>hi
 hr:=λok π r r' y h=>by
  obtain⟨h1,h2⟩:=h 0 (by rw[hK];decide)
  refine⟨by rw[hY,hY];exact .a (.p (.r (hab y).1) (.k (.ms h1 h2) (.r (hab y).2))),λj b b' e1 e2=>?_⟩
  rw[hZ]at e1 e2
  cases j with
  |succ j=>simp at e1
  |zero=>
   simp at e1 e2
   subst e1;subst e2
   refine .cells (.r (cleanL_iff.2 λx hx=>?_))
   obtain⟨z,_,rfl⟩:=List.mem_map.1 hx
   exact hd z
theorem famObj{d n n2:Nat}(L:S c->List (S d))(T:Nat->S c->TV S)(a b:S c->List AV)(hK:K c=2)(hW:W c=1)(hZ: ∀r y,Z c r y=[.o n [T r y],.l n2 d (L y)])(hY: ∀r y,(Y c r y).er E=.mp r 0 0)(hT: ∀r y,(T r y).er E=.agg (a y++ .ms (r+1) 0 (L y).length::b y))
  (hE: ∀y,E c y=.ip (a y++ .sl false ((L y).map (E d))::b y)) (hd: ∀z,(E d z).clean=true) (hab: ∀y,cleanL (a y)=true/\cleanL (b y)=true) (hi: ∀x y,E c x=E c y->x=y):FamOk E W K Y Z c where
 hk:=by rw[hK];decide
 hz:=λr y=>by rw[hZ,hK];rfl
 hw:=λr y=>by rw[hY,hW];rfl
 hs:=λ_ y x hx=>by
  rw[hE]at hx
  simp[AV.cells]at hx
  subst hx;rfl
 hf:=λr y s G w hs hz=>by
  have h0:=hz 0 (.o n [T r y]) (by rw[hZ];rfl)
  have h1:=hz 1 (.l n2 d (L y)) (by rw[hZ];rfl)
  obtain⟨G1,a1,a2,a3,_⟩:=freeze_ms hs (start:=0) (len:=0) h1 (Nat.zero_le _)
  simp only[Nat.add_zero,erZ,erL,hT,blZ]at h0
  have g0:eget (edel s.heap (r+1)) r=some (.cells n [.agg (a y++ .ms (r+1) 0 (L y).length::b y)]):=by
   rw[get_del,if_neg (by omega)];exact h0
  have hs2:=a1.swap (es':=[.agg (a y++ .sl false ((L y).map (E d))::b y)]) g0 (λe=>by cases e) λrg o ho hw=>by
   rcases hs.heap r _ h0 with⟨r',o',e1,e2,e3⟩|⟨e1,sz,_,e2⟩
   ·have:=a2.le.own _ _ e1
    rw[ho]at this;cases this
    rw[hw]at e2;cases e2
    cases e3 with
    |cells _ _ cs e hsz hesz h0 hel hsc hin hV=>
     refine .cells _ _ cs e hsz hesz h0 (λx hx=>?_) (λx hx=>?_) (by simpa using hin) λk x hx=>?_
     ·simp only[List.mem_singleton]at hx
      subst hx
      have:=hel _ (List.mem_singleton.2 rfl)
      simpa[AV.cells]using this
     ·simp only[flat,List.flatMap_cons,List.flatMap_nil,List.append_nil,AV.cells,List.mem_append,List.mem_cons]at hx hsc
      rcases hx with h|rfl|h
      ·exact hsc x (.inl h)
      ·rfl
      ·exact hsc x (.inr (.inr h))
     ·simp only[flat,List.flatMap_cons,List.flatMap_nil,List.append_nil,AV.cells]at hx hV
      by_cases hj:k<(a y).length
      ·rw[List.getElem?_append_left hj]at hx
       obtain⟨u,p1,p2⟩:=hV k x (by rw[List.getElem?_append_left hj];exact hx)
       exact⟨u,p1,p2.mono a2.le⟩
      ·rw[List.getElem?_append_right (by omega)]at hx
       cases hq:k-(a y).length with
       |zero=>
        rw[hq]at hx
        simp at hx
        subst hx
        obtain⟨u,p1,p2⟩:=hV k (.ms (r+1) 0 (L y).length) (by rw[List.getElem?_append_right (by omega),hq];rfl)
        have:=a3 0 (L y).length u (by simp[erZ]) p2
        exact⟨u,p1,by simpa[erZ,List.take_of_length_le]using this⟩
       |succ j=>
        rw[hq]at hx
        obtain⟨u,p1,p2⟩:=hV k x (by rw[List.getElem?_append_right (by omega),hq];simpa using hx)
        exact⟨u,p1,p2.mono a2.le⟩
   ·exfalso
    have:=congrArg (λb=>match b with|Blk.cells _ l=>l.length|_=>0) e2
    simp at this
  have x2:=a2.swap (es':=[.agg (a y++ .sl false ((L y).map (E d))::b y)]) g0
  obtain⟨G2,b1,b2,_,b4⟩:=freeze_ms hs2 (start:=0) (len:=0) (id:=r) (by rw[get_set,if_pos rfl]) (Nat.zero_le _)
  have ed:edel (eset (edel s.heap (r+1)) r (.cells n [.agg (a y++ .sl false ((L y).map (E d))::b y)])) r=edel (edel s.heap (r+1)) r:=by
   have: ∀{h:List (Nat×Blk)}{i:Nat}{x:Blk},(∃b,eget h i=some b)->edel (eset h i x) i=edel h i:=by
    intro h i x
    induction h with
    |nil=>rintro⟨b,hb⟩;simp[egetN]at hb
    |cons p q ih=>
     rintro⟨b,hb⟩
     obtain⟨k,z⟩:=p
     simp only[egetC]at hb
     simp only[esetC]
     split
     ·rename_i e;subst e;simp[edel]
     ·rename_i e
      rw[if_neg e]at hb
      simp only[edel,if_neg e,ih ⟨b,hb⟩]
   exact this ⟨_,g0⟩
  rw[hK]
  have fin:delR r 2 s.heap=edel (edel s.heap (r+1)) r:=rfl
  rw[fin]
  rw[ed]at b1 b2
  refine⟨G2,b1,x2.trans hs b2,λj x x' v h1 h2 hv=>?_⟩
  rw[hY]at h1
  rw[hE]at h2
  cases j with
  |succ j=>simp[AV.cells]at h1
  |zero=>
   simp[AV.cells]at h1 h2
   subst h1;subst h2
   exact b4 _ v rfl (hv.mono x2.le)
 hi:=λ_=>hi
 hr:=λok π r r' y h=>by
  obtain⟨h1,h2⟩:=h 0 (by rw[hK];decide)
  obtain⟨h3,h4⟩:=h 1 (by rw[hK];decide)
  refine⟨by rw[hY,hY];exact .mp h1 h2,λj b b' e1 e2=>?_⟩
  rw[hZ]at e1 e2
  cases j with
  |zero=>
   simp at e1 e2
   subst e1;subst e2
   simp only[erZ,erL,hT,blZ]
   exact .cells (.k (.a (.p (.r (hab y).1) (.k (.ms h3 h4) (.r (hab y).2)))) .z)
  |succ j=>
   cases j with
   |zero=>
    simp at e1 e2
    subst e1;subst e2
    refine .cells (.r (cleanL_iff.2 λx hx=>?_))
    obtain⟨z,_,rfl⟩:=List.mem_map.1 hx
    exact hd z
   |succ j=>simp at e1
end Go.Am
end
