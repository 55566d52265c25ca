/- The logic AM, U: what an operation gives on typed states is what it gives. -/
import Derived.Test.YtpbahncblggodaaGreatAmT
set_option linter.all false
namespace Go.Am
open Go.RowKit
section
variable {B:jc}
theorem lB{bI:dK B.S}{t:Nat}:bH (eJ B bI) t=(bH bI t).map (TV.er B.E):=by
 induction bI with
 |nil=>rfl
 |cons p r ih=>
  obtain⟨k,x⟩:=p
  simp only[eJ,cM]
  split
  ·rfl
  ·exact ih
theorem xn{bI:dK B.S}{t:Nat}{x:TV B.S}:eJ B (eg bI t x)=eg (eJ B bI) t (x.er B.E):=by
 induction bI with
 |nil=>rfl
 |cons p r ih=>
  obtain⟨k,y⟩:=p
  simp only[eJ,tC]
  split
  ·rfl
  ·simp only[eJ,ih]
theorem fX{h:List (Nat×TB B.S)}{i:Nat}:bH (kC B h) i=(bH h i).map (fx B):=by
 induction h with
 |nil=>rfl
 |cons p r ih=>
  obtain⟨k,x⟩:=p
  simp only[kC,cM]
  split
  ·rfl
  ·exact ih
theorem Cp{h:List (Nat×TB B.S)}{i:Nat}{x:TB B.S}:kC B (eg h i x)=eg (kC B h) i (fx B x):=by
 induction h with
 |nil=>rfl
 |cons p r ih=>
  obtain⟨k,y⟩:=p
  simp only[kC,tC]
  split
  ·rfl
  ·simp only[kC,ih]
theorem Py{h:List (Nat×TB B.S)}{i:Nat}:kC B (eB h i)=eB (kC B h) i:=by
 induction h with
 |nil=>rfl
 |cons p r ih=>
  obtain⟨k,y⟩:=p
  simp only[kC,eB]
  split
  ·exact ih
  ·simp only[kC,ih]
theorem cZ{β:Type}{a b:List (Nat×β)}{i:Nat}:bH (a++b) i=match bH a i with
  |some x=>some x
  |none=>bH b i:=by
 induction a with
 |nil=>simp[cV]
 |cons p r ih=>
  obtain⟨k,x⟩:=p
  simp only[wI,cM,ih]
  split<;>rfl
theorem D8{β:Type}{a b:List (Nat×β)}{i:Nat}{x y:β}(h:bH a i=some x):eg (a++b) i y=eg a i y++b:=by
 induction a with
 |nil=>simp[cV]at h
 |cons p r ih=>
  obtain⟨k,z⟩:=p
  simp only[cM]at h
  simp only[wI,tC]
  split
  ·rfl
  ·rename_i hk
   rw[dM hk]at h
   rw[ih h];rfl
theorem Mp{β:Type}{a b:List (Nat×β)}{i:Nat}:eB (a++b) i=eB a i++eB b i:=by
 induction a with
 |nil=>simp[eB]
 |cons p r ih=>
  obtain⟨k,z⟩:=p
  simp only[wI,eB,ih]
  split<;>rfl
theorem JY{β:Type}{a:List (Nat×β)}{i:Nat}(h:bH a i=none):eB a i=a:=by
 induction a with
 |nil=>rfl
 |cons p r ih=>
  obtain⟨k,z⟩:=p
  simp only[cM]at h
  simp only[eB]
  split
  ·rename_i hk;rw[dD hk]at h;cases h
  ·rename_i hk;rw[dM hk]at h;rw[ih h]
theorem rq{w:Nat}{b:TB B.S}(h:fR b=false):eR B w b=[]:=by
 cases b<;>first|rfl|cases h
theorem Cz{h:List (Nat×TB B.S)}{c n:Nat}{b:TB B.S}(hb:fR b=false):dl B ⟨(c,b)::h,n⟩=⟨(c,fx B b)::(dl B ⟨h,n⟩).heap,n⟩:=by
 simp only[dl,kC,mi,rq hb,rN,wI]
theorem dp{s:dP B.S}{id:Nat}{b:TB B.S}(h:bH s.heap id=some b):bH (dl B s).heap id=some (fx B b):=by
 simp only[dl]
 rw[cZ,fX,h];rfl
theorem Pz{h:List (Nat×TB B.S)}{i:Nat}{b b0:TB B.S}(hg:bH h i=some b0)(h0:fR b0=false)(hb:fR b=false):mi B (eg h i b)=mi B h:=by
 induction h with
 |nil=>simp[cV]at hg
 |cons p r ih=>
  obtain⟨k,z⟩:=p
  simp only[cM]at hg
  simp only[tC]
  split
  ·rename_i hk
   rw[dD hk]at hg;cases hg
   simp only[mi,rq h0,rq hb]
  ·rename_i hk
   rw[dM hk]at hg
   simp only[mi,ih hg]
theorem rj{s:dP B.S}{i n:Nat}{b b0:TB B.S}(hg:bH s.heap i=some b0)(h0:fR b0=false)(hb:fR b=false):dl B ⟨eg s.heap i b,n⟩=⟨eg (dl B s).heap i (fx B b),n⟩:=by
 simp only[dl,Cp,Pz hg h0 hb]
 rw[D8 (x:=fx B b0) (by rw[fX,hg];rfl)]
theorem ud{l:List (ZB B.S)}{i id:Nat}{b:gD}(h:bH (jO B i l) id=some b):i<=id/\id<i+l.length/\ ∃z,l[id-i]? =some z/\b=L2 (FI B.E z):=by
 induction l generalizing i with
 |nil=>simp[jO,cV]at h
 |cons z r ih=>
  simp only[jO,cM]at h
  split at h
  ·rename_i e
   cases h;subst e
   exact⟨eF _,by simp,z,by simp,rfl⟩
  ·rename_i eV
   obtain⟨h1,h2,y,h3,h4⟩:=ih h
   refine⟨by omega,by simp only[oG];omega,y,?_,h4⟩
   rw[show id-i=(id-(i+1))+1 from by omega]
   simpa using h3
theorem uc{c w:Nat}: ∀{l:List (B.S c)}{i id:Nat}{b:gD},bH (gx B c w i l) id=some b-> ∃j y,i<=j/\j<cT/\l[j-i]? =some y/\bH (jO B (w+1+B.K c*j) (B.Z c (w+1+B.K c*j) y)) id=some b
 | [],i,id,b,h=>by simp[gx,cV]at h
 |y::r,i,id,b,h=>by
  unfold gx at h
  cases hb:Nat.blt i cT with
  |false=>rw[hb]at h;simp[cV]at h
  |true=>
   rw[hb]at h
   simp only[cS]at h
   rw[cZ]at h
   simp only[rO]at hb
   split at h
   ·rename_i x hx
    cases h
    exact⟨i,y,eF _,hb,by simp,hx⟩
   ·obtain⟨j,z,h1,h2,h3,h4⟩:=uc h
    exact⟨j,z,by omega,h2,by rw[show j-i=(j-(i+1))+1 from by omega];simpa using h3,h4⟩
theorem oX{c w:Nat}{l:List (B.S c)}{i id:Nat}{b:gD}(h:bH (gx B c w i l) id=some b):fL w id=false:=by
 obtain⟨j,y,h1,h2,h3,h4⟩:=uc h
 obtain⟨g1,g2,_⟩:=ud h4
 rw[(B.hF c).hz]at g2
 have hk:=(B.hF c).hk
 have:B.K c*j<=4*4095:=Nat.mul_le_mul hk (by unfold cT at h2;omega)
 unfold fL vr
 rw[Fx]
 constructor
 ·cases hq:Nat.ble id w with
  |false=>rfl
  |true=>have:=tA hq;omega
 ·cases hq:Nat.ble (w+20000) id with
  |false=>rfl
  |true=>have:=tA hq;omega
theorem ff{w id:Nat}{x:TB B.S}{b:gD}(h:bH (eR B w x) id=some b):fR x=true/\fL w id=false:=by
 unfold eR at h
 split at h
 ·rename_i c cl pre n post
  refine⟨rfl,?_⟩
  rw[cZ]at h
  split at h
  ·rename_i y hy
   cases cl with
   |true=>simp[cV]at hy
   |false=>exact oX hy
  ·exact oX h
 ·simp[cV]at h
theorem Ih{i:Nat}: ∀{h:List (Nat×TB B.S)},iu h i=true->mi B (eB h i)=mi B h/\bH (mi B h) i=none
 | [],_=>by simp[eB,mi,cV]
 |(k,x)::r,h=>by
  have key: ∀{y:TB B.S},fR y=false->iu r i=true->mi B (eB ((k,y)::r) i)=mi B ((k,y)::r)/\bH (mi B ((k,y)::r)) i=none:=λ{y}hy hr=>by
   obtain⟨h1,h2⟩:=Ih hr
   refine⟨?_,by simp only[mi,rq hy,rN];exact h2⟩
   simp only[eB]
   split
   ·simp only[mi,rq hy,rN];exact h1
   ·simp only[mi,h1]
  cases x with
  |fr c cl pre n post=>
   simp only[iu,fi,p9]at h
   obtain⟨⟨h1,h2⟩,h3⟩:=h
   obtain⟨g1,g2⟩:=Ih h3
   have eV:k≠i:=λe=>by subst e;rw[show Nat.beq k k=true from Og k]at h2;cases h2
   refine⟨by simp only[eB,dM eV,mi,g1],?_⟩
   simp only[mi]
   rw[cZ]
   split
   ·rename_i b hb
    have:=(ff hb).2
    rw[this]at h1;cases h1
   ·exact g2
  |cH n l=>exact key (y:=.cH n l) rfl h
  |ls n c x m hm=>exact key (y:=.ls n c x m hm) rfl h
  |raw b=>exact key (y:=.raw b) rfl h
  |rows n c x v m=>exact key (y:=.rows n c x v m) rfl h
  |lp c e st pd=>exact key (y:=.lp c e st pd) rfl h
  |fm n c w cl pre kO post=>exact key (y:=.fm n c w cl pre kO post) rfl h
theorem mn{s:dP B.S}{i n:Nat}(h:iu s.heap i=true):dl B ⟨eB s.heap i,n⟩=⟨eB (dl B s).heap i,n⟩:=by
 obtain⟨h1,h2⟩:=Ih h
 simp only[dl,Mp,Py,h1,JY h2]
theorem fE(x:TV B.S):(x.norm B).er B.E=x.er B.E:=by
 cases x<;>first|rfl|exact B.hX _ _
theorem yP(x:TV B.S):(x.norm B).Pt=false:=by
 cases x<;>first|rfl|exact B.hv _ _
theorem Ii{S:Nat->Type}{E:(c:Nat)->S c->AV}(l:List AV):dY E (l.map .a)=l:=by
 induction l with
 |nil=>rfl
 |cons x r ih=>simp only[xb,dY,TV.er,ih]
theorem Bq{S:Nat->Type}{E:(c:Nat)->S c->AV}{x:TV S}(h:x.Pt=false):dY E (Ct x)=(x.er E).cells:=by
 cases x<;>simp only[TV.Pt]at h<;>first|(cases h;done)|simp only[Ct,TV.er,dY,AV.cells,Ii]
theorem gF(x:TV B.S):dY B.E (dR B x)=(x.er B.E).cells:=by
 rw[dR,Bq (yP x),fE]
theorem gj(x:TV B.S):(dR B x).length=(x.er B.E).cells.length:=by
 rw[<-gF,eG,mB]
theorem xt{S:Nat->Type}{E:(c:Nat)->S c->AV}(l:List (TV S))(i:Nat):(dY E l)[i]? =l[i]?.map (TV.er E):=by rw[eG,tx]
theorem kq{P:Program}{t:TypeId}{cs:List (TV B.S)}:qa P t (dY B.E cs)=(nC B P t cs).map (TV.er B.E):=by
 unfold qa nC
 cases KZ P t with
 |none=>rfl
 |some b=>
  cases b with
  |true=>
   simp only
   cases dr P t with
   |none=>rfl
   |some n=>
    simp only[eG,mB]
    cases h:Nat.ble n cs.length with
    |true=>
     rw[dD (tA h)]
     simp[TV.er,eG,KT]
    |false=>
     rw[dM (λe=>by rw[U3 e]at h;cases h)]
     rfl
  |false=>cases cs<;>rfl
theorem Mq{S:Nat->Type}{E:(c:Nat)->S c->AV}{x:TV S}(h:pO x=true):(x.er E).cX=true:=by
 cases x<;>simp only[pO]at h<;>first|exact h|rfl|cases h
theorem Mr{S:Nat->Type}{E:(c:Nat)->S c->AV}{l:List (TV S)}(h:l.all pO=true):(dY E l).all AV.cX=true:=by
 rw[eG,List.all_map]
 rw[pT]at h |-
 exactλx hx=>Mq (h x hx)
theorem mN{x:TV B.S}(h:(dR B x).all pO=true):(x.er B.E).cells.all AV.cX=true:=by rw[<-gF];exact Mr h
theorem CA{S:Nat->Type}{E:(c:Nat)->S c->AV}{x:TV S}(hv:x.Pt=false)(h:Cu x=true): ∃l,x.er E=.agg l:=by
 cases x<;>simp only[Cu]at h<;>first|(cases h;done)|skip
 ·rename_i y;cases y<;>simp only[AV.isAgg]at h<;>first|(cases h;done)|exact⟨_,rfl⟩
 ·exact⟨_,rfl⟩
theorem PA{S:Nat->Type}{E:(c:Nat)->S c->AV}{x:TV S}(hv:x.Pt=false)(h:Cu x=false): ∀l,x.er E≠ .agg l:=by
 intro l e
 cases x<;>simp only[Cu,TV.er]at h e<;>first|(cases h;done)|(cases e;done)|skip
 ·subst e;cases h
 ·cases hv
theorem ru{e:TV B.S}{cs:List (TV B.S)}:(rn B e cs).er B.E=qb (e.er B.E) (dY B.E cs):=by
 unfold rn
 rw[<-fE e]
 cases h:Cu (e.norm B)with
 |true=>
  obtain⟨l,hl⟩:=CA (E:=B.E) (yP e) h
  rw[hl];rfl
 |false=>
  have hn:=PA (E:=B.E) (yP e) h
  simp only[dj]
  generalize(e.norm B).er B.E=u at hn
  cases u<;>first|exact absurd rfl (hn _)|(cases cs<;>rfl)
theorem og{S:Nat->Type}{E:(c:Nat)->S c->AV}{cs new:List (TV S)}{off:Nat}:dY E (pe cs off new)=jC (dY E cs) off (dY E new):=by
 simp only[pe,jC,eG,Dm,KT,Fy,mB]
theorem ew{bI:dK B.S}{x:Operand}:oper (eJ B bI) x=(fk bI x).map (TV.er B.E):=by
 cases x<;>simp only[oper,fk]
 ·exact lB
 ·cases ofValue _<;>rfl
 ·rfl
 ·rfl
theorem lb{bI:dK B.S}: ∀{l:List Operand},opers (eJ B bI) l=(pc bI l).map (dY B.E)
 | []=>rfl
 |x::r=>by
  simp only[opers,pc,ew,lb (l:=r)]
  cases fk bI x with
  |none=>rfl
  |some v=>cases pc bI r<;>rfl
def kP(B:jc)(tr:TR B.S)(o:Option AV)(s:dP B.S):Prop:= ∀K,tr.wp K-> ∃v,o=some (v.er B.E)/\K v s
def lU(B:jc)(tr:TR B.S)(o:Option (AV×St)):Prop:= ∀K,tr.wp K-> ∃v s',o=some (v.er B.E,dl B s')/\K v s'
variable {P:Program} {s:dP B.S}
theorem kP.sy{o:Option (TV B.S)}{o':Option AV}(h:o'=o.map (TV.er B.E)):kP B (sy o s) o' s:=by
 intro K hK
 cases o with
 |none=>exact hK.elim
 |some v=>exact⟨v,h,hK⟩
theorem kP.toS{tr:TR B.S}{o:Option AV}(h:kP B tr o s):lU B tr (gu o (dl B s)):=by
 intro K hK
 obtain⟨v,rfl,hk⟩:=h K hK
 exact⟨v,s,rfl,hk⟩
theorem kP.no{o:Option AV}:kP B .no o s:=λ_ h=>h.elim
theorem lU.no{o:Option (AV×St)}:lU B .no o:=λ_ h=>h.elim
theorem kP.ok{v:TV B.S}{o:Option AV}(h:o=some (v.er B.E)):kP B (.ok v s) o s:=λ_ hk=>⟨v,h,hk⟩
theorem lU.ok{v:TV B.S}{s':dP B.S}{o:Option (AV×St)}(h:o=some (v.er B.E,dl B s')):lU B (.ok v s') o:=λ_ hk=>⟨v,s',h,hk⟩
theorem gN{S:Nat->Type}{E:(c:Nat)->S c->AV}(l:List (TV S)):(dY E l).length=l.length:=by rw[eG,mB]
theorem Ms{α:Type}{f:α->AV}{x:List α}{w:AV}{r:List AV}:(x.map f++([w]++r))[x.length]? =some w:=by
 rw[pG (by simp)];simp
theorem SP{α:Type}{f:α->AV}{x:List α}{w y:AV}{r:List AV}:(x.map f++([w]++r)).set x.length y=x.map f++([y]++r):=by
 have e:x.length=(x.map f).length:=by simp
 rw[e,List.set_append];simp
theorem JP{i n:Nat}(h:i<n):Nat.blt i n=true:=by rw[rO];exact h
theorem Z0{i n:Nat}(h:Nat.blt i n=true):i<n:=by rw[rO]at h;exact h
theorem Ef{c w:Nat}: ∀{l:List (B.S c)}{i:Nat},i+l.length<=cT->(iK B c w i l).length=l.length
 | [],i,_=>rfl
 |y::r,i,h=>by
  simp only[oG]at h
  simp only[iK,JP (show i<cT by omega),cS,oG,Ef (l:=r) (i:=i+1) (by omega)]
theorem qz{c w:Nat}{cl:Bool}{pre:List (B.S c)}(h:pre.length<=cT):(bif cl then pre.map (B.E c)else iK B c w 0 pre).length=pre.length:=by
 cases cl
 ·exact Ef (by omega)
 ·simp
theorem Mt{c w:Nat}{cl:Bool}{pre:List (B.S c)}{x:AV}{r:List AV}(h:pre.length<=cT):((bif cl then pre.map (B.E c)else iK B c w 0 pre)++([x]++r))[pre.length]? =some x:=by
 rw[pG (by rw[qz h];exact eF _),qz h];simp
theorem SQ{c w:Nat}{cl:Bool}{pre:List (B.S c)}{x y:AV}{r:List AV}(h:pre.length<=cT):((bif cl then pre.map (B.E c)else iK B c w 0 pre)++([x]++r)).set pre.length y=(bif cl then pre.map (B.E c)else iK B c w 0 pre)++([y]++r):=by
 have e:pre.length=(bif cl then pre.map (B.E c)else iK B c w 0 pre).length:=(qz h).symm
 rw[e,List.set_append];simp
theorem Eg{t:TypeId}{p:TV B.S}:kP B (Ia B P t p s) (pJ P t (p.er B.E) (dl B s)) s:=by
 unfold Ia
 rw[<-fE p]
 generalize p.norm B=q
 split
 ·refine .sy ?_
  simp only[TV.er,pJ,na,kq]
 ·rename_i p
  split
  ·refine .sy ?_
   simp only[TV.er,pJ,na,<-kq,Ii]
  ·rename_i id el off
   simp only[TV.er,pJ,na]
   split
   ·rename_i n l hg
    simp only[dp hg,gy,fx,xt]
    split
    ·rename_i e he
     refine .sy ?_
     simp only[he,gy,<-kq,eG,Fy]
     rw[<-eG,gF]
    ·exact .no
   ·rename_i n c x _ _ hg
    rintro K ⟨y,hy,hK⟩
    simp only[dp hg,gy,fx,tx,hy]
    refine kP.sy (s:=s) ?_ K hK
    simp only[<-kq,eG,Fy]
    rw[<-eG,gF];rfl
   ·rename_i n c x v m hg
    split
    ·rename_i w
     rintro K ⟨hy,hK⟩
     subst hy
     simp only[dp hg,gy,fx,dY]
     rw[Ms]
     refine kP.sy (s:=s) ?_ K hK
     simp only[<-kq,eG,Fy]
     rw[<-eG,gF]
    ·exact .no
   ·rename_i n c w cl pre kO post hg
    split
    ·rename_i w
     rintro K ⟨⟨hy,jY⟩,hK⟩
     subst hy
     simp only[dp hg,gy,fx,dY]
     rw[Mt jY]
     refine kP.sy (s:=s) ?_ K hK
     simp only[<-kq,eG,Fy]
     rw[<-eG,gF]
    ·exact .no
   ·exact .no
  ·exact .no
 ·exact .no
theorem lU.dec{c:Nat}{x:TV B.S}{k:B.S c->TR B.S}{o:Option (AV×St)}(h: ∀y,B.E c y=x.er B.E->lU B (k y) o):lU B (Gv B c x k) o:=by
 unfold Gv
 split
 ·rintro K ⟨he,hK⟩;exact h _ he K hK
 ·exact .no
theorem lU.cu{p:Prop}{k:TR B.S}{o:Option (AV×St)}(h:p->lU B k o):lU B (.cu p k) o:=λK hK=>h hK.1 K hK.2
theorem kP.cu{p:Prop}{k:TR B.S}{o:Option AV}(h:p->kP B k o s):kP B (.cu p k) o s:=λK hK=>h hK.1 K hK.2
theorem lU.kF{b:Bool}{p:Prop}{k:TR B.S}{o:Option (AV×St)}(hb:b=true->p)(h:p->lU B k o):lU B (kF b p k) o:=by
 unfold Go.Am.kF
 cases b with
 |true=>exact h (hb rfl)
 |false=>exact .cu h
theorem kP.kF{b:Bool}{p:Prop}{k:TR B.S}{o:Option AV}(hb:b=true->p)(h:p->kP B k o s):kP B (kF b p k) o s:=by
 unfold Go.Am.kF
 cases b with
 |true=>exact h (hb rfl)
 |false=>exact .cu h
theorem lU.lf{st:Bool}{n:Int}{k:TR B.S}{o:Option (AV×St)}(h:0<=n->lU B k o):lU B (lf st n k) o:=by
 unfold Go.Am.lf
 cases st with
 |true=>
  cases n with
  |ofNat m=>exact h (Uj m)
  |negSucc m=>exact .no
 |false=>exact .cu h
theorem kP.lf{st:Bool}{n:Int}{k:TR B.S}{o:Option AV}(h:0<=n->kP B k o s):kP B (lf st n k) o s:=by
 unfold Go.Am.lf
 cases st with
 |true=>
  cases n with
  |ofNat m=>exact h (Uj m)
  |negSucc m=>exact .no
 |false=>exact .cu h
theorem lU.Dv{m n:Nat}{k:TR B.S}{o:Option (AV×St)}(h:m=n->lU B k o):lU B (Dv m n k) o:=by
 rintro K ⟨he,hK⟩;cases he;exact h rfl K hK
theorem kP.Dv{m n:Nat}{k:TR B.S}{o:Option AV}(h:m=n->kP B k o s):kP B (Dv m n k) o s:=by
 rintro K ⟨he,hK⟩;cases he;exact h rfl K hK
theorem lU.mM{c:Nat}{o:Option (AV×St)}: ∀{l:List (TV B.S)}{k:List (B.S c)->TR B.S},(∀ys,ys.map (B.E c)=dY B.E l->ys.length=l.length->lU B (k ys) o)->lU B (mM B c l k) o
 | [],k,h=>h [] rfl rfl
 |x::r,k,h=>by
  unfold Go.Am.mM
  exact lU.dec λy hy=>lU.mM λys B7 hl=>h _ (by simp[dY,hy,B7]) (by simp[hl])
theorem kP.mM{c:Nat}{o:Option AV}: ∀{l:List (TV B.S)}{k:List (B.S c)->TR B.S},(∀ys,ys.map (B.E c)=dY B.E l->ys.length=l.length->kP B (k ys) o s)->kP B (mM B c l k) o s
 | [],k,h=>h [] rfl rfl
 |x::r,k,h=>by
  unfold Go.Am.mM Gv
  split
  ·rintro K ⟨he,hK⟩
   exact kP.mM (λys B7 hl=>h _ (by simp[dY,he,B7]) (by simp[hl])) K hK
  ·exact .no
theorem lU.bif{c:Bool}{k:TR B.S}{o:Option (AV×St)}(h:c=true->lU B k o):lU B (bif c then k else .no) o:=by
 cases c with
 |true=>exact h rfl
 |false=>exact .no
theorem kP.bif{c:Bool}{k:TR B.S}{o:Option AV}(h:c=true->kP B k o s):kP B (bif c then k else .no) o s:=by
 cases c with
 |true=>exact h rfl
 |false=>exact .no
theorem lU.el{c:Nat}{l:List (B.S c)}{i:Nat}{k:B.S c->TR B.S}{o:Option (AV×St)}(h: ∀y,l[i]? =some y->lU B (k y) o):lU B (.el c l i k) o:=by
 rintro K ⟨y,hy,hK⟩;exact h y hy K hK
theorem kP.ix{c:Nat}{l:List (B.S c)}{i:Int}{k:B.S c->TR B.S}{o:Option AV}(h: ∀y,Go.Am.ix l i=some y->kP B (k y) o s):kP B (.ix c l i k) o s:=by
 rintro K ⟨y,hy,hK⟩;exact h y hy K hK
theorem PB{S:Nat->Type}{E:(c:Nat)->S c->AV}{l:List (TV S)}{i:Nat}{x:TV S}:dY E (l.set i x)=(dY E l).set i (x.er E):=by rw[eG,eG,List.map_set]
theorem JZ{t:TypeId}{p v:TV B.S}:lU B (Gw B P t p v s) (match xP P t (p.er B.E) (v.er B.E) (dl B s)with
  |some s'=>some (.any,s')
  |none=>none):=by
 unfold Gw
 rw[<-fE p]
 generalize p.norm B=q
 split
 case h_2=>exact .no
 rename_i id el off
 simp only[TV.er,xP]
 split
 ·rename_i cB l hg
  simp only[dp hg,gy,fx,xt]
  split
  ·rename_i e he
   simp only[he,gy]
   refine .bif λhc=>.ok ?_
   simp only[fi,fc,Ji]at hc
   obtain⟨⟨h1,h2⟩,h3⟩:=hc
   rw[gj]at h1 h2
   rw[gj]at h2
   rw[dD ⟨h1,h2,mN h3⟩]
   rw[rj hg rfl rfl]
   simp only[TV.er,fx,PB,ru,og,gF];rfl
  ·exact .no
 ·rename_i cB c x m hm hg
  refine .el λy hy=>.bif λhc=>.dec λy' On=>?_
  simp only[dp hg,gy,fx,tx,hy]
  simp only[fi,fc,Ji]at hc
  obtain⟨⟨h1,h2⟩,h3⟩:=hc
  rw[gj]at h1 h2
  rw[gj]at h2
  refine .ok ?_
  have h2:off+(v.er B.E).cells.length<=(B.E c y).cells.length:=h2
  rw[dD ⟨h1,h2,mN h3⟩]
  rw[rj hg rfl rfl]
  simp only[TV.er,fx,List.map_set,On,ru,og,gF];rfl
 ·rename_i cB c x w m hg
  split
  ·rename_i e
   refine .cu λhl=>.bif λhc=>.ok ?_
   subst hl
   simp only[dp hg,gy,fx,dY]
   rw[Ms]
   simp only[fi,fc,Ji]at hc
   obtain⟨⟨h1,h2⟩,h3⟩:=hc
   rw[gj]at h1 h2
   rw[gj]at h2
   simp only
   rw[dD ⟨h1,h2,mN h3⟩]
   rw[rj hg rfl rfl]
   simp only[TV.er,fx,dY,SP,ru,og,gF];rfl
  ·exact .no
 ·rename_i cB c w cl pre kO post hg
  split
  ·rename_i e
   refine .cu λhl=>.bif λhc=>.ok ?_
   obtain⟨hl,jY⟩:=hl
   subst hl
   simp only[dp hg,gy,fx,dY]
   rw[Mt jY]
   simp only[fi,fc,Ji]at hc
   obtain⟨⟨h1,h2⟩,h3⟩:=hc
   rw[gj]at h1 h2
   rw[gj]at h2
   simp only
   rw[dD ⟨h1,h2,mN h3⟩]
   rw[rj hg rfl rfl]
   simp only[TV.er,fx,dY,Ui,SQ jY,ru,og,gF];rfl
  ·exact .no
 ·exact .no
theorem Ij{v:TV B.S}:lU B (Pu B v s) (BX (v.er B.E) (dl B s)):=by
 unfold Pu BX
 refine .bif λhc=>.ok ?_
 simp only[fi,rO]at hc
 obtain⟨h1,h2⟩:=hc
 rw[gj]at h1
 rw[dD ⟨h1,mN h2⟩]
 rw[Cz rfl]
 simp only[TV.er,fx,dY,gj];rfl
theorem Mu{t:TypeId}{z:AV}:lU B (Mi B P t z s) (DF z (dl B s)):=by
 unfold Mi
 split
 case h_2=>exact .no
 split
 case h_2=>exact .no
 unfold DF
 refine .bif λhc=>.mM λys hy _=>.ok ?_
 simp only[fi,rO]at hc
 rw[dD hc,Cz rfl]
 have:dY B.E (z.cells.map .a)=z.cells:=by
  rw[eG,Jd]
  exact(List.map_congr_left λ_ _=>rfl).trans (List.map_id _)
 simp only[TV.er,fx,TB.lz,hy,this];rfl
theorem J0{t:TypeId}{p:TV B.S}{i:Nat}:xQ P t (p.er B.E) i=(Cv B P t p i).map (TV.er B.E)\/Cv B P t p i=none:=by
 unfold xQ Cv
 rw[<-fE p]
 generalize p.norm B=q
 cases nr P t i with
 |none=>exact .inr rfl
 |some r=>
  obtain⟨off,n⟩:=r
  simp only
  cases hn:Nat.beq n 0 with
  |true=>exact .inr rfl
  |false=>
   have:n≠0:=λe=>by subst e;cases hn
   rw[dM this]
   simp only[dj]
   cases q<;>first|exact .inr rfl|skip
   case a x=>cases x<;>first|exact .inr rfl|exact .inl rfl
   case ip cs=>
    refine .inl ?_
    simp only[TV.er,gy,eG,Fy]
theorem kP.SS{o:Option (TV B.S)}{o':Option AV}(h:o'=o.map (TV.er B.E)\/o=none):kP B (Go.Am.sy o s) o' s:=by
 rcases h with h|h
 ·exact .sy h
 ·subst h;exact .no
theorem GA{t:TypeId}{x:TV B.S}{i:Nat}:tF P t (x.er B.E) i=(xp B P t x i).map (TV.er B.E)\/xp B P t x i=none:=by
 unfold tF xp
 cases nr P t i with
 |none=>exact .inr rfl
 |some r=>
  obtain⟨off,n⟩:=r
  simp only
  cases BW P t i with
  |none=>exact .inr rfl
  |some ft=>
   simp only
   cases h:Cu (x.norm B)with
   |false=>exact .inr rfl
   |true=>
    refine .inl ?_
    simp only[cS]
    obtain⟨l,hl⟩:=CA (E:=B.E) (yP x) h
    rw[fE]at hl
    have hc:=gF x
    rw[hl]at hc
    simp only[hl,K0,<-kq,eG,Fy]
    rw[<-eG,hc];rfl
theorem mO{x:TV B.S}{st:Bool}{k:IntKind}{n:Int}(h:Ib B x=some (st,k,n)):x.er B.E=.int k n:=by
 unfold Ib at h
 rw[<-fE x]
 split at h
 ·rename_i hq;cases h;rw[hq];rfl
 ·rename_i hq;cases h;rw[hq];rfl
 ·cases h
theorem sU{x:TV B.S}{st b:Bool}(h:KJ B x=some (st,b)):x.er B.E=.bool b:=by
 unfold KJ at h
 rw[<-fE x]
 split at h
 ·rename_i hq;cases h;rw[hq];rfl
 ·rename_i hq;cases h;rw[hq];rfl
 ·cases h
theorem vx{st:Bool}{k:IntKind}{n:Int}:(Mh st k n:TV B.S).er B.E=.int k n:=by cases st<;>rfl
theorem GB{st b:Bool}:(Pv st b:TV B.S).er B.E=.bool b:=by cases st<;>rfl
theorem Eh{e c:Nat}{f:Bool}{xs:List (B.S c)}{n:Int}{t:TypeId}{k:IntKind}(he:eh P t=some e):kP B (Ic B P e c xs n s) (eX P t (.sl f (xs.map (B.E c))) (.int k n) (dl B s)) s:=by
 unfold Ic
 refine .bif λhc=>.ix λy hy=>.ok ?_
 obtain⟨h0,hy⟩:=Pd hy
 simp only[eX,he,tx,hy,gy]
 rw[dD h0,dD (by rw[fc.1 hc,B.hw])]
 simp only[TV.er,gF]
theorem Mw{t:TypeId}{x i:TV B.S}:kP B (Mj B P t x i s) (eX P t (x.er B.E) (i.er B.E) (dl B s)) s:=by
 unfold Mj
 split
 case h_2=>exact .no
 rename_i st k n hi
 rw[mO hi,<-fE x]
 generalize x.norm B=q
 split
 ·rename_i e he
  split
  ·exact Eh he
  ·rename_i f cs
   cases st with
   |true=>
    simp only[cS]
    split
    ·rename_i m
     split
     ·rename_i y hy
      refine .bif λhc=>.ok ?_
      have h0:(0:Int)<=Int.ofNat m:=Uj m
      simp only[eX,TV.er,he,xt]
      rw[dD h0]
      have:(Int.ofNat m).toNat=m:=rfl
      rw[this,hy]
      simp only[gy]
      rw[dD (by rw[fc.1 hc,gj]),gF]
     ·exact .no
    ·exact .no
   |false=>
    simp only[dj]
    split
    ·rename_i c hc
     refine .mM λys B7 _=>?_
     rw[TV.er,<-B7]
     exact Eh he
    ·exact .no
  ·rename_i id bL len
   simp only[eX,TV.er,he]
   split
   ·rename_i cB c xs m hm hg
    refine .bif λhc=>.Dv λhl=>.ix λy hy=>.ok ?_
    obtain⟨h0,hy⟩:=Pd hy
    simp only[fi,fc]at hc
    have hs:=jh hc.1
    subst hs;subst hl;subst hm
    have gq:n.toNat<xs.length:=(fP.1 hy).1
    simp only[dp hg,gy,fx]
    rw[dD ⟨h0,by omega,hc.2⟩,BU]
    rfl
   ·rename_i cB l hg
    refine .bif λhc=>?_
    simp only[fi,fc]at hc
    split
    ·rename_i m
     refine .bif λhm=>.ok ?_
     simp only[dp hg,gy,fx]
     have h0:(0:Int)<=Int.ofNat m:=Uj m
     simp only[rO]at hm
     have h1:Int.ofNat m<(len:Int):=Int.ofNat_lt.2 hm
     rw[dD ⟨h0,h1,hc.2⟩]
     rfl
    ·exact .no
   ·rename_i cB c x v m hg
    refine .bif λhc=>.cu λhl=>.ok ?_
    simp only[fi,fc]at hc
    have hs:=jh hc.1
    subst hs
    simp only[dp hg,gy,fx]
    rw[dD ⟨hl.1,hl.2,hc.2⟩,BU]
    rfl
   ·rename_i cB c w cl pre kO post hg
    refine .bif λhc=>.cu λhl=>.ok ?_
    simp only[fi,fc]at hc
    have hs:=jh hc.1
    subst hs
    simp only[dp hg,gy,fx]
    rw[dD ⟨hl.1,hl.2,hc.2⟩,BU]
    rfl
   ·exact .no
  ·exact .no
 ·rename_i he
  split
  ·rename_i m e ha
   split
   ·rename_i sz eC
    cases hb:Nat.blt 8 m with
    |true=>
     simp only[cS]
     split
     ·rename_i id el off
      split
      ·rename_i cB c xs m' hm hg
       refine .bif λhc=>.cu λhn=>.ix λy hy=>.ok ?_
       obtain⟨h0,hy⟩:=Pd hy
       simp only[fi]at hc
       have e1:=jh hc.1
       have e2:=jh hc.2.1
       have e3:=jh hc.2.2
       subst e1;subst e2;subst e3
       simp only[eX,TV.er,he,ha,eC,hb,cS,dp hg,gy,fx]
       rw[dD ⟨h0,hn⟩,dD (by simp),BU]
      ·exact .no
     ·exact .no
    |false=>
    simp only[dj]
    refine .bif λiz=>?_
    split
    ·rename_i j
     refine .bif λhm=>?_
     simp only[rO]at hm
     have h0:(0:Int)<=Int.ofNat j:=Uj j
     have h1:Int.ofNat j<(m:Int):=Int.ofNat_lt.2 hm
     have ht:(Int.ofNat j).toNat=j:=rfl
     split
     ·refine .ok ?_
      simp only[eX,TV.er,he,ha,eC,hb,dj]
      rw[dD ⟨h0,h1⟩,ht]
     ·refine .ok ?_
      simp only[eX,TV.er,he,ha,eC]
      rw[dD ⟨h0,h1⟩,ht]
     ·refine .ok ?_
      simp only[eX,TV.er,he,ha,eC]
      rw[dD ⟨h0,h1⟩,ht]
      simp only[eG,Fy]
     ·exact .no
    ·exact .no
   ·exact .no
  ·exact .no
theorem J1{t:TypeId}{x i:TV B.S}:kP B (Gx B P t x i s) (sJ P t (x.er B.E) (i.er B.E)) s:=by
 unfold Gx
 split
 case h_2=>exact .no
 rename_i st k n hi
 rw[mO hi]
 split
 ·rename_i b hb
  refine .bif λhs=>.cu λhn=>.ok ?_
  rw[<-fE x,hb]
  have hl:n.toNat<b.size:=by omega
  have e:b[n.toNat]? =some b[n.toNat]:=getElem?_pos b n.toNat hl
  simp only[sJ,TV.er,Av,e]
  rw[dD ⟨hs,hn.1⟩]
  rfl
 ·rename_i b hb
  refine .bif λhs=>.cu λhn=>.ok ?_
  rw[<-fE x,hb]
  have hl:n.toNat<b.size:=by omega
  have e:b[n.toNat]? =some b[n.toNat]:=getElem?_pos b n.toNat hl
  simp only[sJ,TV.er,Av,e]
  rw[dD ⟨hs,hn.1⟩]
  rfl
 refine .bif λhc=>?_
 simp only[fi]at hc
 obtain⟨l,hl⟩:=CA (E:=B.E) (yP x) hc.2
 rw[fE]at hl
 have tK:=gF x
 rw[hl]at tK |-
 split
 ·rename_i m e ha
  split
  ·rename_i sz eC
   split
   ·rename_i j
    refine .bif λhm=>.sy ?_
    simp only[rO]at hm
    have h0:(0:Int)<=Int.ofNat j:=Uj j
    have h1:Int.ofNat j<(m:Int):=Int.ofNat_lt.2 hm
    have ht:(Int.ofNat j).toNat=j:=rfl
    simp only[sJ,ha,eC]
    rw[dD ⟨h0,h1⟩,ht,<-kq,eG,Fy,<-eG,tK]
    rfl
   ·exact .no
  ·exact .no
 ·exact .no
theorem PC{t:TypeId}{x:TV B.S}:kP B (SK B P t x s) (Ad P t (x.er B.E)) s:=by
 unfold SK
 rw[<-fE x]
 generalize x.norm B=q
 split
 ·refine .bif λhc=>.ok ?_
  simp only[TV.er,Ad,mB];rw[dD hc]
 ·refine .bif λhc=>.ok ?_
  simp only[TV.er,Ad,gN];rw[dD hc]
 ·refine .bif λhc=>.ok ?_
  simp only[TV.er,Ad];rw[dD hc]
 ·refine .bif λhc=>.ok ?_
  simp only[TV.er,Ad];rw[dD hc]
 ·refine .bif λhc=>.ok ?_
  simp only[TV.er,Ad];rw[dD hc]
 ·split
  ·rename_i hq;exact .ok hq
  ·exact .no
 ·exact .no
theorem my{bI:dK B.S}{x:Option Operand}{d:Nat}{k:Nat->TR B.S}{o:Option AV}(h: ∀n,gl (eJ B bI) x d=some n->(x=none->n=d)->(Gy B bI x=true->d=0->n=0)->kP B (k n) o s):kP B (qx B bI x d k) o s:=by
 unfold qx
 split
 ·exact h d rfl (λ_=>rfl) (λ_ e=>e)
 ·rename_i y
  split
  ·rename_i v hv
   split
   ·rename_i st kk n hn
    refine .lf λh0=>h _ ?_ (λe=>by cases e) ?_
    ·simp only[gl,ew,hv,gy,mO hn]
     rw[dD h0]
    ·intro hz _
     simp only[Gy,hv]at hz
     split at hz
     ·rename_i hq
      cases hq
      simp only[Ib,TV.norm]at hn
      cases hn
      rfl
     ·cases hz
   ·exact .no
  ·exact .no
theorem ur{e c:Nat}{xs:List (B.S c)}(h:ju (dr P e) (B.W c)=true):fits P e (xs.map (B.E c)):=by
 intro y hy
 cases xs with
 |nil=>simp at hy
 |cons x r=>
  simp at hy;subst hy
  rw[fc.1 h,B.hw]
theorem yQ{t e:TypeId}{w:Bool}{id bL len:Nat}{bI:dK B.S}{lo hi:Option Operand}(he:eh P t=some e)(hw:w=true->bL=0):kP B (xq B P e w id bL len bI lo hi s) (oL P t (.ms id bL len) (eJ B bI) lo hi none (dl B s)) s:=by
 unfold xq
 refine .bif λhc=>?_
 have key: ∃cB elems,bH (dl B s).heap id=some (.cells cB elems)/\dr P e=some cB:=by
  split at hc
  ·rename_i hg;exact⟨_,_,by rw[dp hg];rfl,fc.1 hc⟩
  ·rename_i hg;exact⟨_,_,by rw[dp hg];rfl,fc.1 hc⟩
  ·cases hc
 obtain⟨cB,elems,hg,hs⟩:=key
 refine my λl hl h0 hz=>my λh hh h1 _=>.kF (λhb=>by rw[hz hb rfl];exact AK _) λRY=>.kF (λhb=>?_) λeE=>.ok ?_
 ·cases hi with
  |none=>rw[h1 rfl];exact eF _
  |some _=>cases hb
 ·simp only[oL,he,hg,hl,hh]
  rw[dD ⟨RY,eE,hs⟩]
  simp only[TV.er]
  have e1:(bif w then l else bL+l)=bL+l:=by
   cases w with
   |true=>rw[hw rfl];simp
   |false=>rfl
  have e2:(bif Gy B bI lo then h else h-l)=h-l:=by
   cases hq:Gy B bI lo with
   |true=>rw[hz hq rfl];simp
   |false=>rfl
  rw[e1,e2]
theorem J2{t:TypeId}{x:TV B.S}{bI:dK B.S}{lo hi mx:Option Operand}:kP B (Gz B P t x bI lo hi mx s) (oL P t (x.er B.E) (eJ B bI) lo hi mx (dl B s)) s:=by
 unfold Gz
 rw[<-fE x]
 generalize x.norm B=q
 split
 ·exact .no
 split
 case h_2=>
  split
  ·rename_i b
   refine .bif λhs=>my λl hl _ _=>my λh hh _ _=>.cu λhq=>.ok ?_
   simp only[oL,TV.er,hl,hh]
   rw[dD ⟨hs,rfl⟩,dD hq]
  ·exact .no
 rename_i e he
 split
 ·rename_i f c xs
  refine .bif λhc=>my λl hl h0 hz=>my λh hh h1 _=>.kF (λhb=>by rw[hz hb rfl];exact AK _) λRY=>.kF (λhb=>?_) λeE=>.ok ?_
  ·cases hi with
   |none=>rw[h1 rfl];exact eF _
   |some _=>cases hb
  ·simp only[oL,TV.er,he,hl,mB,hh]
   rw[dD ⟨RY,eE,ur hc,by rw[fc.1 hc];rfl⟩]
   simp only[Fy,KT]
   cases f<;>simp
   cases hq:Nat.beq h xs.length with
   |true=>exact xM (jh hq)
   |false=>exact mC (λe=>by rw[e,Og]at hq;cases hq)
 ·rename_i id bL len
  exact yQ he λhw=>jh hw
 ·exact yQ he λhw=>by cases hw
 ·exact .no
theorem uu{e sz:Nat}(h:yN P e=some sz): ∃b,dr P e=some sz/\oK P e=some b/\0<sz/\b<=4096/\vc P e sz=true:=by
 unfold yN at h
 split at h
 ·rename_i n b h1 h2
  cases hc:Nat.blt 0 n&&Nat.ble b 4096&&vc P e n with
  |false=>simp[hc]at h
  |true=>
   simp only[hc,cS]at h
   cases h
   simp only[fi,rO,Ji]at hc
   exact⟨b,h1,h2,hc.1.1,hc.1.2,hc.2⟩
 ·cases h
theorem iC{n:Nat}{b:TB B.S}{h:List (Nat×TB B.S)}{c:Nat}{o:Option (AV×St)}(hb:fR b=false)(ho:o=some (.ms c 0 n,⟨(c,fx B b)::(dl B ⟨h,c⟩).heap,c+1⟩)):lU B (oe n b h c) o:=.ok (by rw[Cz hb];exact ho)
theorem Mx{t e sz:Nat}{x:TV B.S}{cs:List (TV B.S)}(he:eh P t=some e)(ha:yN P e=some sz)(eV:cs≠[]):lU B (Mk B P e sz x cs s) (fW P t (x.er B.E) (dY B.E cs) (dl B s)):=by
 obtain⟨b,h1,h2,h3,h4,h5⟩:=uu ha
 have mW:dY B.E cs≠[]:=λe=>eV (by rw[eG]at e;exact List.map_eq_nil_iff.1 e)
 have top: ∀x,fW P t x (dY B.E cs) (dl B s)=match x with
    |.sl full elems=>if full=true/\elems.length+cs.length<=bJ/\fits P e elems then
      some (.ms s.bT 0 (elems.length+cs.length),⟨(s.bT,.cells sz (elems++dY B.E cs))::(dl B s).heap,s.bT+1⟩)else none
    |.ms id bL len=>match bH (dl B s).heap id with
     |some (.cells cB elems)=>if cB=sz/\bL+len<=elems.length/\len+cs.length<=bJ then
       some (.ms s.bT 0 (len+cs.length),⟨(s.bT,.cells sz ((elems.drop bL).take len++dY B.E cs))::eB (dl B s).heap id,s.bT+1⟩)else none
     |_=>none
    |.mc id bL len cap=>fW P t (.mc id bL len cap) (dY B.E cs) (dl B s)
    |_=>none:=by
  intro x
  cases x<;>simp only[fW,he,h1,h2]<;>first|rw[dD ⟨h3,h4,h5⟩]|skip
  ·rw[dM mW,gN];rfl
  ·rw[dM mW,gN];rfl
 unfold Mk
 rw[top,<-fE x]
 generalize x.norm B=q
 split
 ·refine .bif λhc=>?_
  have hc:=tA hc
  simp only[TV.er]
  rw[dD ⟨trivial,by simpa using hc,λy hy=>by simp at hy⟩]
  split
  ·rename_i c UH
   refine .mM λys B7 hl=>iC rfl ?_
   simp[fx,B7]
  ·refine iC rfl ?_
   simp[fx]
 ·rename_i c xs
  refine .bif λhc=>.mM λys B7 hl=>.cu λhm=>iC rfl ?_
  simp only[TV.er,mB]
  rw[dD ⟨trivial,hm,ur hc⟩]
  simp[fx,B7,hl]
 ·rename_i id bL n
  simp only[TV.er]
  split
  ·rename_i cB c xs m hm hg
   refine .bif λhc=>.mM λys B7 hl=>.Dv λhn=>.cu λhm=>iC rfl ?_
   simp only[fi]at hc
   have e1:=jh hc.1.1
   have e2:=jh hc.1.2
   subst e1;subst e2;subst hn;subst hm
   simp only[dp hg,gy,fx,mB]
   rw[dD ⟨trivial,by omega,hm⟩]
   rw[mn hc.2]
   simp[B7,hl,sG]
  ·rename_i cB l hg
   refine .bif λhc=>.Dv λhn=>iC rfl ?_
   simp only[fi,Ji]at hc
   have e1:=jh hc.1.1.1
   have e2:=jh hc.1.1.2
   subst e1;subst e2;subst hn
   simp only[dp hg,gy,fx,gN]
   rw[dD ⟨trivial,by omega,hc.1.2⟩]
   rw[mn hc.2]
   simp[eG,sG]
  ·rename_i cB c w cl pre kO post hg
   split
   ·split
    ·refine .bif λhc=>.Dv λhn=>.cu λhm=>iC rfl ?_
     simp only[fi,Ji]at hc
     have e1:=jh hc.1.1.1
     have e2:=jh hc.1.1.2
     subst e1;subst e2;subst hn
     simp only[dp hg,gy,fx,dY,iK,xa,Kz]
     have hp:pre.length<=cT:=by omega
     rw[dD ⟨trivial,by rw[qz hp];omega,by have:=hc.2;unfold cT at hm this;unfold bJ;omega⟩]
     rw[mn hc.1.2,XC,sG (by rw[qz hp];exact eF _)]
    ·exact .no
   ·exact .no
  ·exact .no
 ·rename_i id bL n
  simp only[TV.er]
  split
  ·rename_i cB c xs _ _ hg
   refine .bif λhc=>.mM λys B7 hl=>.cu λhn=>.cu λhm=>iC rfl ?_
   simp only[fi]at hc
   have e1:=jh hc.1
   subst e1
   simp only[dp hg,gy,fx,mB]
   rw[dD ⟨trivial,hn,hm⟩]
   rw[mn hc.2]
   simp[B7,hl,KT,Fy]
   omega
  ·exact .no
 ·exact .no
theorem uv{c d:Nat}{x:List (B.S c)}{y:List (B.S d)}(h:Bp c d x=some y):y.map (B.E d)=x.map (B.E c)/\y.length=x.length:=by
 unfold Bp at h
 split at h
 ·rename_i e;subst e;cases h;exact⟨rfl,rfl⟩
 ·cases h
theorem Ei{t e sz:Nat}{x:TV B.S}(he:eh P t=some e)(ha:yN P e=some sz):lU B (Ie B x s) (fW P t (x.er B.E) [] (dl B s)):=by
 obtain⟨b,h1,h2,h3,h4,h5⟩:=uu ha
 unfold Ie
 rw[<-fE x]
 generalize hq:x.norm B=q
 have key: ∀{y:AV},q.er B.E=y->(∃f l,y=.sl f l)\/(∃i a n,y=.ms i a n)->lU B (.ok x s) (fW P t y [] (dl B s)):=by
  intro y hy hs
  refine .ok ?_
  rw[<-fE x,hq,hy]
  rcases hs with⟨f,l,rfl⟩|⟨i,a,n,rfl⟩<;>simp only[fW,he,h1,h2,u0]<;>rw[dD ⟨h3,h4,h5⟩]
 split
 ·exact key rfl (.inl ⟨_,_,rfl⟩)
 ·exact key rfl (.inr ⟨_,_,_,rfl⟩)
 ·exact key rfl (.inl ⟨_,_,rfl⟩)
 ·exact key rfl (.inl ⟨_,_,rfl⟩)
 ·exact key rfl (.inr ⟨_,_,_,rfl⟩)
 ·exact .no
theorem My{t e sz:Nat}{x:TV B.S}{c:Nat}{ys:List (B.S c)}(he:eh P t=some e)(ha:yN P e=some sz):lU B (Ml B P e sz x c ys s) (fW P t (x.er B.E) (ys.map (B.E c)) (dl B s)):=by
 obtain⟨b,h1,h2,h3,h4,h5⟩:=uu ha
 intro K hK
 unfold Ml TR.wp at hK
 cases X9:ys.isEmpty with
 |true=>
  rw[X9]at hK
  simp only[cS]at hK
  have hn:ys=[]:=by simpa using X9
  subst hn
  exact Ei he ha K hK
 |false=>
  rw[X9]at hK
  simp only[dj]at hK
  have eV:ys≠[]:=by intro e;subst e;cases X9
  have mW:ys.map (B.E c)≠[]:=λe=>eV (List.map_eq_nil_iff.1 e)
  have top: ∀x,fW P t x (ys.map (B.E c)) (dl B s)=match x with
     |.sl full elems=>if full=true/\elems.length+ys.length<=bJ/\fits P e elems then
       some (.ms s.bT 0 (elems.length+ys.length),⟨(s.bT,.cells sz (elems++ys.map (B.E c)))::(dl B s).heap,s.bT+1⟩)else none
     |.ms id bL len=>match bH (dl B s).heap id with
      |some (.cells cB elems)=>if cB=sz/\bL+len<=elems.length/\len+ys.length<=bJ then
        some (.ms s.bT 0 (len+ys.length),⟨(s.bT,.cells sz ((elems.drop bL).take len++ys.map (B.E c)))::eB (dl B s).heap id,s.bT+1⟩)else none
      |_=>none
     |.mc id bL len cap=>fW P t (.mc id bL len cap) (ys.map (B.E c)) (dl B s)
     |_=>none:=by
   intro x
   cases x<;>simp only[fW,he,h1,h2]<;>first|rw[dD ⟨h3,h4,h5⟩]|skip
   ·rw[dM mW,mB];rfl
   ·rw[dM mW,mB];rfl
  rw[top,<-fE x]
  generalize x.norm B=q at hK
  have done: ∀{tr:TR B.S}{o:Option (AV×St)},lU B tr o->tr.wp K-> ∃v s',o=some (v.er B.E,dl B s')/\K v s':=λh hk=>h K hk
  refine done ?_ hK
  split
  ·refine .cu λhm=>iC rfl ?_
   simp only[TV.er]
   rw[dD ⟨trivial,by simpa using hm,λy hy=>by simp at hy⟩]
   simp[fx]
  ·rename_i d xs
   refine .bif λhc=>?_
   split
   ·rename_i zs hz
    obtain⟨z1,z2⟩:=uv hz
    refine .cu λhm=>iC rfl ?_
    simp only[TV.er,mB]
    rw[dD ⟨trivial,by omega,ur hc⟩]
    simp[fx,z1,z2]
   ·exact .no
  ·rename_i id bL n
   simp only[TV.er]
   split
   ·rename_i cB d xs m pM hg
    refine .bif λhc=>?_
    split
    ·rename_i zs hz
     obtain⟨z1,z2⟩:=uv hz
     refine .Dv λhn=>.cu λhm=>iC rfl ?_
     simp only[fi]at hc
     have e1:=jh hc.1.1
     have e2:=jh hc.1.2
     subst e1;subst e2;subst hn;subst pM
     simp only[dp hg,gy,fx,mB]
     rw[dD ⟨trivial,by omega,by omega⟩]
     rw[mn hc.2]
     simp[z1,z2,sG]
    ·exact .no
   ·exact .no
  ·rename_i id bL n
   simp only[TV.er]
   split
   ·rename_i cB d xs _ _ hg
    refine .bif λhc=>?_
    split
    ·rename_i zs hz
     obtain⟨z1,z2⟩:=uv hz
     refine .cu λhn=>.cu λhm=>iC rfl ?_
     simp only[fi]at hc
     have e1:=jh hc.1
     subst e1
     simp only[dp hg,gy,fx,mB]
     rw[dD ⟨trivial,hn,by omega⟩]
     rw[mn hc.2]
     simp[z1,z2,KT,Fy]
     omega
    ·exact .no
   ·exact .no
  ·exact .no
theorem Br{e:TypeId}{y:TV B.S}{k1:List (TV B.S)->TR B.S}{k2:(c:Nat)->List (B.S c)->TR B.S}{o:Option (AV×St)}{O:List AV->Option (AV×St)}
  (ho: ∀l,fO (y.er B.E) (dl B s)=some l->kT P e (y.er B.E) (dl B s)->o=O l)
  (h1: ∀cs,lU B (k1 cs) (O (dY B.E cs))) (h2: ∀c ys,lU B (k2 c ys) (O (ys.map (B.E c)))):lU B (Cw B P e y s k1 k2) o:=by
 unfold Cw
 rw[<-fE y]at ho
 generalize y.norm B=q at ho
 split
 ·rename_i f cs
  refine .bif λhc=>?_
  rw[ho _ rfl ?_]
  ·exact h1 cs
  ·intro z hz
   cases cs with
   |nil=>simp[dY]at hz
   |cons x r=>
    simp[dY]at hz;subst hz
    rw[fc.1 hc,gj]
 ·rw[ho _ rfl (λz hz=>by simp at hz)];exact h1 []
 ·rename_i f c ys
  refine .bif λhc=>?_
  rw[ho _ rfl (ur hc)];exact h2 c ys
 ·rename_i id bL n
  simp only[TV.er,fO,kT]at ho
  split
  ·rename_i cB c xs m hm hg
   refine .bif λhc=>.Dv λhn=>?_
   simp only[fi,fc]at hc
   have e1:=jh hc.2
   subst e1;subst hn;subst hm
   rw[ho (xs.map (B.E c)) (by simp only[dp hg,gy,fx];rw[dD (by simp)];simp[sG]) (by simp only[dp hg,gy,fx];exact hc.1)]
   exact h2 c xs
  ·rename_i cB l hg
   refine .bif λhc=>.Dv λhn=>?_
   simp only[fi,fc]at hc
   have e1:=jh hc.2
   subst e1;subst hn
   rw[ho (dY B.E l) (by simp only[dp hg,gy,fx];rw[dD (by simp[gN])];simp[sG,gN]) (by simp only[dp hg,gy,fx];exact hc.1)]
   exact h1 l
  ·exact .no
 ·rename_i id bL n
  simp only[TV.er,fO,kT]at ho
  split
  ·rename_i cB c xs _ _ hg
   refine .bif λhc=>.cu λhn=>?_
   rw[ho (((xs.drop bL).take n).map (B.E c)) (by simp only[dp hg,gy,fx];rw[dD (by simpa using hn)];simp[KT,Fy]) (by simp only[dp hg,gy,fx];exact fc.1 hc)]
   exact h2 c _
  ·exact .no
 ·exact .no
def yR(P:Program)(t u:TypeId)(x y:AV)(s:St):Option (AV×St):=match y with
 |.int _ n=>match eh P t with
  |some e=>match jB P e with
   |some z=>if 0<=n/\n<=bJ/\(FV P u).isSome=true/\dr P e=some z.cells.length/\z.cells.all AV.cX=true then fW P t x (List.replicate n.toNat z) s else none
   |none=>none
  |none=>none
 |y=>match eh P t,fO y s with
  |some e,some new=>if kT P e y s/\(eh P u).isSome=true then fW P t x new s else none
  |_,_=>none
theorem GC{t u:TypeId}{x y:TV B.S}:lU B (Cx B P t u x y s) (yR P t u (x.er B.E) (y.er B.E) (dl B s)):=by
 unfold Cx
 split
 case h_2=>exact .no
 rename_i e he
 split
 case h_2=>exact .no
 rename_i sz ha
 refine .bif λhu=>?_
 have h0: ∀k n,y.er B.E=.int k n->(∀l,fO (y.er B.E) (dl B s)≠some l):=λk n e l=>by rw[e];simp[fO]
 refine Br (P:=P) (e:=e) (O:=λl=>fW P t (x.er B.E) l (dl B s)) (λl hl hf=>?_) (λcs=>?_) (λc ys=>My he ha)
 ·generalize y.er B.E=v at hl hf h0
  cases v<;>first|exact absurd hl (h0 _ _ rfl _)|(simp only[yR,he,hl];rw[dD ⟨hf,hu⟩])
 ·cases cs with
  |nil=>exact Ei he ha
  |cons a r=>exact Mx he ha (by simp)
theorem Mz{t:TypeId}{lo co:Operand}{bI:dK B.S}:lU B (Mo B P t lo co bI s) (match oper (eJ B bI) lo,oper (eJ B bI) co with
  |some l,some c=>DG P t l c (dl B s)
  |_,_=>none):=by
 unfold Mo
 simp only[ew]
 split
 case h_2=>exact .no
 rename_i l c e hl hc he
 split
 case h_2=>exact .no
 rename_i sn kn n sm km m hn hm
 split
 case h_2=>exact .no
 rename_i sz z ha hz
 refine .bif λhq=>.lf λh0=>?_
 obtain⟨b,h1,h2,h3,h4,h5⟩:=uu ha
 simp only[fi]at hq
 have AR:=jh hq.1
 simp only[hl,hc,gy,mO hn,mO hm,DG,he,h1,h2,hz]
 have fin:n<=m->m<=(bJ:Int)->lU B (match B.T e with
     |some c=>bif Pw z then oe n.toNat (.rows sz c [] [] n.toNat) s.heap s.bT else Gv B c (.a z) λy=>oe (List.replicate n.toNat y).length (.lz sz c (List.replicate n.toNat y)) s.heap s.bT
     |none=>bif sn then oe n.toNat (.cH sz (List.replicate n.toNat (.a z))) s.heap s.bT else .no)
    (if 0<=n/\n<=m/\m<=bJ/\0<sz/\z.cells.length=sz/\z.cells.all AV.cX=true/\b<=4096 then some (.ms (dl B s).bT 0 n.toNat,⟨((dl B s).bT,.cells sz (List.replicate n.toNat z))::(dl B s).heap,(dl B s).bT+1⟩)else none):=by
  intro g1 g2
  rw[dD ⟨h0,g1,g2,h3,AR,hq.2,h4⟩]
  split
  ·rename_i c hc
   cases hz:Pw z with
   |true=>
    simp only[cS]
    refine iC rfl ?_
    have e:z=.sl true []:=by unfold Pw at hz;split at hz;rfl;cases hz
    subst e
    simp[fx,dY];first|done|rfl|exact⟨rfl,rfl⟩
   |false=>
    simp only[dj]
    refine .dec λy hy=>iC rfl ?_
    simp only[fx,List.map_replicate,U1,hy,TV.er];rfl
  ·refine .bif λ_=>iC rfl ?_
   simp only[fx,eG,List.map_replicate,TV.er];rfl
 cases hs:sn&&sm with
 |true=>
  simp only[cS]
  refine .bif λhd=>?_
  simp only[fi,xL]at hd
  exact fin hd.1 hd.2
 |false=>
  simp only[dj]
  refine .kF (λhb=>?_) λg1=>.cu λg2=>fin g1 g2
  have:lo=co:=by
   cases lo<;>cases co<;>simp only[Mn]at hb<;>first|(cases hb;done)|rw[jh hb]
  subst this
  rw[hl]at hc;cases hc
  rw[hn]at hm;cases hm
  exact Int.le_refl n
theorem yS{bQ:Nat->Option (Nat×Nat)}: ∀{cA:List (Nat×TV B.S)}{cells l:List (TV B.S)},Ee B bQ cells cA=some l->ss bQ (dY B.E cells) (cA.map λp=>(p.1,p.2.er B.E))=some (dY B.E l)
 | [],cells,l,h=>by cases h;rfl
 |(i,v)::r,cells,l,h=>by
  simp only[Ee]at h
  simp only[xb,ss]
  split at h
  ·rename_i off n hp
   simp only[hp]
   cases hq:Nat.beq (dR B v).length n&&(dR B v).all pO&&Nat.ble (off+n) cells.length with
   |false=>simp[hq]at h
   |true=>
    simp only[hq,cS]at h
    simp only[fi,Ji]at hq
    obtain⟨⟨h1,h2⟩,h3⟩:=hq
    have h1:=jh h1
    rw[gj]at h1
    rw[dD ⟨h1,mN h2,by rw[gN];exact h3⟩,<-gF,<-og]
    exact yS h
  ·cases h
theorem ry{bI:dK B.S}: ∀{l:List (Nat×Operand)},lV (eJ B bI) l=(sT bI l).map (λr=>r.map λp=>(p.1,p.2.er B.E))
 | []=>rfl
 |(i,x)::r=>by
  simp only[lV,sT,ew,ry (l:=r)]
  cases fk bI x with
  |none=>rfl
  |some v=>cases sT bI r<;>rfl
theorem J3{t:TypeId}{cA:List (Nat×TV B.S)}{v:TV B.S}(h:Cy B P t cA=some v):xS P t (cA.map λp=>(p.1,p.2.er B.E))=some (v.er B.E):=by
 unfold Cy at h
 unfold xS
 split at h
 case h_2=>cases h
 rename_i cs hz
 simp only[hz]
 cases hs:xd P t with
 |true=>
  simp only[hs,cS]at h
  rw[dD rfl]
  split at h
  ·rename_i l hl
   cases h
   have:=yS hl
   rw[Ii]at this
   simp only[this];rfl
  ·cases h
 |false=>
  simp only[hs,dj]at h
  rw[dM (by simp)]
  split at h
  ·rename_i m e ha
   simp only[ha]
   split at h
   ·rename_i sz eC
    simp only[eC]
    split at h
    ·rename_i l hl
     cases h
     have:=yS hl
     rw[Ii]at this
     simp only[this];rfl
    ·cases h
   ·cases h
  ·cases h
theorem uw: ∀{l:List (Nat×TV B.S)}{i:Nat},rp l i=true->nQ (l.map λp=>(p.1,p.2.er B.E)) i=true
 | [],_,_=>rfl
 |(j,x)::r,i,h=>by
  simp only[rp,fi]at h
  simp only[xb,nQ,fi]
  exact⟨by simp[jh h.1],uw h.2⟩
theorem qA{t:TypeId}{len:Nat}{own:Bool}{cA:List (Nat×TV B.S)}:lU B (qy B P t len own cA s) (bif own then(match fZ P t len (cA.map λp=>(p.1,p.2.er B.E)),eh P t with
   |some _,some e=>match dr P e with
    |some sz=>some (.ms s.bT 0 cA.length,⟨(s.bT,.cells sz ((cA.map λp=>(p.1,p.2.er B.E)).map (·.2)))::(dl B s).heap,s.bT+1⟩)
    |none=>none
   |_,_=>none)else gu (fZ P t len (cA.map λp=>(p.1,p.2.er B.E))) (dl B s)):=by
 unfold qy
 split
 case h_2=>exact .no
 rename_i e he
 split
 case h_2=>exact .no
 rename_i sz z eC hz
 refine .bif λhq=>?_
 simp only[fi,Ji,rO]at hq
 obtain⟨⟨⟨⟨⟨h1,h2⟩,h3⟩,h4⟩,h5⟩,h6⟩:=hq
 have h1:=jh h1
 have h6:=jh h6
 have hb:fZ P t len (cA.map λp=>(p.1,p.2.er B.E))=some (.sl true ((cA.map λp=>(p.1,p.2.er B.E)).map (·.2))):=by
  have iP: ∀p∈cA.map (λp=>(p.1,p.2.er B.E)),p.2.cells.length=sz/\p.2.cells.all AV.cX=true:=λp hp=>by
   obtain⟨q,hq,rfl⟩:=jJ.1 hp
   have:=pT.1 h3 q hq
   simp only[fi]at this
   exact⟨by rw[<-gj];exact jh this.1,mN this.2⟩
  unfold fZ
  simp only[he,eC,hz]
  rw[dD ⟨by simpa using h1,uw h2,iP,h4,h5,h6⟩]
 have hm:(cA.map λp=>(p.1,p.2.er B.E)).map (·.2)=dY B.E (cA.map (·.2)):=by rw[eG,Jd,Jd];rfl
 rw[hb]
 cases own with
 |true=>
  simp only[cS,he,eC]
  split
  ·rename_i c hc
   refine .mM λys B7 hl=>iC rfl ?_
   simp only[fx,B7,hm,h1]
  ·refine iC rfl ?_
   simp only[fx,hm,h1]
 |false=>
  simp only[dj]
  refine .ok ?_
  simp only[gu,hm]
  cases An:Nat.beq len 0 with
  |false=>rfl
  |true=>
   have e:=jh An
   rw[e]at h1
   have:cA=[]:=Kx h1
   subst this
   rfl
theorem PD{op:BinOp}{k:IntKind}{sa sb:Bool}{x y:Int}:kP B (SM B op k sa sb x y s) (xR op k x y) s:=by
 have q:(sb&&!(decide (y=0)))=true->y≠0:=λh=>by simp only[fi,p9,Jj]at h;exact h.2
 cases op<;>simp only[SM]<;>first
  |(refine .ok ?_;simp only[vx,GB,xR];done)
  |(refine .kF q λh=>.ok ?_;simp only[vx,xR];rw[dM h];done)
  |(refine .lf λh=>.ok ?_;simp only[vx,xR];rw[dM (by omega)];done)
  |exact .no
theorem PE{op:BinOp}{t:TypeId}{x y:TV B.S}:kP B (SN B P op t x y s) (FY P op t (x.er B.E) (y.er B.E)) s:=by
 unfold SN
 split
 ·rename_i sa k a sb k' b hx hy
  refine .bif λhq=>?_
  rw[mO hx,mO hy]
  have:FY P op t (.int k a) (.int k' b)=xR op k a b:=by
   simp only[tz,xL]at hq
   cases op<;>simp only[FY]<;>first
    |rfl
    |(rcases hq with hq|hq;cases hq;rw[dD hq])
  rw[this]
  exact PD
 ·split
  ·rename_i r hr
   exact .ok (by rw[hr,GB])
  ·exact .no
theorem SU{op:UnOp}{x:TV B.S}:kP B (Z9 B op x s) (Zd op (x.er B.E)) s:=by
 unfold Z9
 split
 ·split
  ·rename_i st b hb;refine .ok ?_;rw[sU hb,GB];rfl
  ·exact .no
 ·split
  ·rename_i st k n hb;refine .ok ?_;rw[mO hb,vx];rfl
  ·exact .no
 ·exact .no
theorem Ej{src dst:TypeId}{x:TV B.S}:kP B (yO B P src dst x s) (nP P src dst (x.er B.E)) s:=by
 unfold yO
 split
 ·rename_i st k n hn
  refine .bif λhq=>?_
  rw[mO hn]
  split
  ·rename_i k' hk
   refine .ok ?_
   simp only[nP,hk,vx];rw[dD hq]
  ·exact .no
 ·rw[<-fE x]
  split
  ·rename_i b hb
   refine .bif λhq=>.ok ?_
   simp only[fi]at hq
   rw[hb];simp only[TV.er,nP];rw[dD hq]
  ·rename_i b hb
   refine .bif λhq=>.ok ?_
   simp only[fi]at hq
   rw[hb];simp only[TV.er,nP];rw[dD hq]
  ·exact .no
theorem Ek{f:Int->Int->Int}{g:AV->AV->Option AV}(hg: ∀k a b,g (.int k a) (.int k b)=some (.int k (f a b))): ∀{r:List (TV B.S)}{st zZ:Bool}{k k':IntKind}{a n:Int},Ig B f (st,k,a) r=some (zZ,k',n)->vY g (.int k a) (dY B.E r)=some (.int k' n)
 | [],st,zZ,k,k',a,n,h=>by cases h;rfl
 |y::r,st,zZ,k,k',a,n,h=>by
  simp only[Ig]at h
  split at h
  ·rename_i s2 k2 b hb
   cases hq:decide (k=k2)with
   |false=>simp[hq]at h
   |true=>
    simp only[hq,cS]at h
    have e:=U7 hq
    subst e
    simp only[dY,mO hb,vY,hg]
    exact Ek hg h
  ·cases h
theorem yT{f:Int->Int->Int}{g:AV->AV->Option AV}(hg: ∀k a b,g (.int k a) (.int k b)=some (.int k (f a b))){l:List (TV B.S)}:kP B (xr B f l s) (match dY B.E l with
  |x::r=>vY g x r
  | []=>none) s:=by
 unfold xr
 split
 ·rename_i x r
  split
  ·rename_i q hq
   split
   ·rename_i st k n hn
    obtain⟨s0,k0,a0⟩:=q
    refine .ok ?_
    simp only[dY,mO hq,Ek hg hn,vx]
   ·exact .no
  ·exact .no
 ·exact .no
theorem GF{c:Call}{bI:Env}{s:St}{x y:AV}{t u:TypeId}(hc:c.callee=.builtin .append)(hl:opers bI c.args.toList=some [x,y])(h0:c.argTypes[0]? =some t)(h1:c.argTypes[1]? =some u):iX P (.call c) bI s=yR P t u x y s:=by
 simp only[iX,hc,hl,h0,h1];rfl
theorem MA{c:Call}{bI:Env}{s:St}{x y:AV}{t:TypeId}(hc:c.callee=.builtin .copy)(hl:opers bI c.args.toList=some [x,y])(h0:c.argTypes[0]? =some t):iX P (.call c) bI s=FN P t x y s:=by
 simp only[iX,hc,hl,h0];rfl
theorem MB{t:TypeId}{x y:TV B.S}:lU B (Mm B P t x y s) (FN P t (x.er B.E) (y.er B.E) (dl B s)):=by
 unfold Mm
 split
 case h_2=>exact .no
 rename_i e he
 refine Br (P:=P) (e:=e) (O:=λl=>xI P t (x.er B.E) l (dl B s)) (λl hl hf=>?_) (λcs=>.no) (λc ys=>?_)
 ·generalize y.er B.E=v at hl hf
  cases v<;>first|(simp only[FN,he,hl];rw[dD hf])|(simp[fO]at hl)
 ·unfold xI
  rw[he,<-fE x]
  generalize x.norm B=q
  split
  case h_2=>exact .no
  rename_i id bL n
  simp only[TV.er]
  split
  case h_2=>exact .no
  rename_i cB d xs _ _ hg
  refine .bif λhc=>?_
  split
  case h_2=>exact .no
  rename_i ys' hy
  obtain⟨y1,y2⟩:=uv hy
  refine .cu λhn=>.ok ?_
  simp only[dp hg,gy,fx,mB]
  rw[dD ⟨fc.1 hc,hn⟩,rj hg rfl rfl,<-y2,<-y1]
  simp only[TV.er,fx,Oy,Dm,KT,Fy,mB]
  rfl
theorem PF{b:Builtin}{c:Call}{bI:dK B.S}(hc:c.callee=.builtin b):lU B (SO B P b c bI s) (iX P (.call c) (eJ B bI) (dl B s)):=by
 unfold SO
 split
 case h_2=>exact .no
 rename_i l hl
 have uT:opers (eJ B bI) c.args.toList=some (dY B.E l):=by rw[lb,hl];rfl
 split
 ·split
  ·rename_i x t ht
   simp only[iX,hc,uT,dY,ht]
   exact PC.toS
  ·exact .no
 ·split
  ·rename_i x y t u ht hu
   rw[GF hc uT ht hu]
   exact GC
  ·exact .no
 ·split
  ·rename_i x y t ht
   rw[MA hc uT ht]
   exact MB
  ·exact .no
 ·simp only[iX,hc,uT]
  have:=yT (s:=s) (f:=Sv) (g:=OM) (λk a b=>by simp[OM,Sv]) (l:=l)
  cases l with
  |nil=>exact .no
  |cons x r=>exact this.toS
 ·simp only[iX,hc,uT]
  have:=yT (s:=s) (f:=kM) (g:=ON) (λk a b=>by simp[ON,kM]) (l:=l)
  cases l with
  |nil=>exact .no
  |cons x r=>exact this.toS
 ·exact .no
theorem yU{op:Op}{bI:dK B.S}(hc:ga op=none):lU B (top B P false op bI s) (iX P op (eJ B bI) (dl B s)):=by
 unfold top
 split
 ·simp only[iX,ew];exact(kP.sy rfl).toS
 ·simp only[iX,ew];exact(kP.sy rfl).toS
 ·rename_i c a b
  simp only[iX,ew]
  split
  case h_2=>exact .no
  rename_i v hv
  split
  case h_2=>exact .no
  rename_i st t ht
  simp only[hv,gy,sU ht]
  have key: ∀t:Bool,lU B (sy (bif t then fk bI a else fk bI b) s) (if t=true then gu ((fk bI a).map (TV.er B.E)) (dl B s)else gu ((fk bI b).map (TV.er B.E)) (dl B s)):=by
   intro t
   cases t with
   |true=>exact(kP.sy rfl).toS
   |false=>exact(kP.sy rfl).toS
  cases st with
  |true=>exact key t
  |false=>exactλK hK=>key t K hK
 ·rename_i t
  simp only[iX]
  split
  ·rename_i z hz;simp only[hz];exact Ij
  ·rename_i VI
   split
   ·rename_i z hz;simp only[VI,hz];exact Mu
   ·exact .no
 ·rename_i x
  simp only[iX,ew]
  split
  ·rename_i v hv;simp only[hv,gy];exact Ij
  ·exact .no
 ·rename_i t cA
  simp only[iX,ry]
  split
  ·rename_i l hl
   simp only[hl,gy]
   refine(kP.SS ?_).toS
   cases hb:Cy B P t l with
   |none=>exact .inr rfl
   |some v=>exact .inl (J3 hb)
  ·exact .no
 ·rename_i t len cA
  simp only[iX,ry]
  split
  ·rename_i l hl
   simp only[hl,gy]
   exact qA (own:=false)
  ·exact .no
 ·simp only[iX,ew]
  split
  ·rename_i v hv;simp only[hv,gy];exact Eg.toS
  ·exact .no
 ·simp only[iX,ew]
  split
  ·rename_i v hv
   split
   ·rename_i x hx
    simp only[hv,hx,gy];exact JZ
   ·exact .no
  ·exact .no
 ·simp only[iX,ew]
  split
  ·rename_i v hv
   simp only[hv,gy]
   rw[<-fE v]
   split
   ·rename_i hq;rw[hq];exact .ok rfl
   ·rename_i hq;rw[hq];exact .ok rfl
   ·rename_i hq;rw[hq];exact .ok rfl
   ·rename_i hq;rw[hq];exact .ok rfl
   ·exact .no
  ·exact .no
 ·simp only[iX,ew]
  split
  ·rename_i v hv
   split
   ·rename_i x hx
    simp only[hv,hx,gy];exact PE.toS
   ·exact .no
  ·exact .no
 ·simp only[iX,ew]
  split
  ·rename_i v hv;simp only[hv,gy];exact SU.toS
  ·exact .no
 ·simp only[iX,ew]
  split
  ·rename_i v hv;simp only[hv,gy];exact Ej.toS
  ·exact .no
 ·rename_i f first fQ
  refine .bif λhq=>?_
  simp only[iX,lb]
  rw[dD (jh hq)]
  split
  ·rename_i l hl;simp only[hl,gy];exact .ok rfl
  ·exact .no
 ·simp only[iX,ew]
  split
  ·rename_i v hv;simp only[hv,gy];exact J2.toS
  ·exact .no
 ·simp only[iX,ew]
  split
  ·rename_i v hv;simp only[hv,gy];exact(kP.SS J0).toS
  ·exact .no
 ·simp only[iX,ew]
  split
  ·rename_i v hv;simp only[hv,gy];exact(kP.SS GA).toS
  ·exact .no
 ·simp only[iX,ew]
  split
  ·rename_i v hv
   split
   ·rename_i x hx
    simp only[hv,hx,gy];exact Mw.toS
   ·exact .no
  ·exact .no
 ·simp only[iX,ew]
  split
  ·rename_i v hv
   split
   ·rename_i x hx
    simp only[hv,hx,gy];exact J1.toS
   ·exact .no
  ·exact .no
 ·simp only[iX,ew]
  split
  ·rename_i v hv
   simp only[hv,gy]
   rw[<-fE v]
   split
   ·rename_i vs hq
    rw[hq]
    simp only[TV.er]
    refine(kP.sy ?_).toS
    rw[xt]
   ·exact .no
  ·exact .no
 ·simp only[iX];exact Mz
 ·split
  ·rename_i b hb;exact PF hb
  ·exact .no
 ·exact .no
end
end Go.Am
