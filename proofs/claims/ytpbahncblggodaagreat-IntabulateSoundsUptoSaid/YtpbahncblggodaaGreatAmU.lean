/- The logic AM, U: what an operation gives on typed states is what it gives. -/
import Derived.Test.YtpbahncblggodaaGreatAmT
set_option linter.all false
namespace Go.Am
open Go.RowKit
section
variable {B:iP}
theorem k7{bI:dD B.S}{t:Nat}:bH (ez B bI) t=(bH bI t).map (TV.er B.E):=by
 induction bI with
 |nil=>rfl
 |cons p r ih=>
  obtain⟨k,x⟩:=p
  simp only[ez,cG]
  split
  ·rfl
  ·exact ih
theorem wK{bI:dD B.S}{t:Nat}{x:TV B.S}:ez B (dT bI t x)=dT (ez B bI) t (x.er B.E):=by
 induction bI with
 |nil=>rfl
 |cons p r ih=>
  obtain⟨k,y⟩:=p
  simp only[ez,sU]
  split
  ·rfl
  ·simp only[ez,ih]
theorem fP{h:List (Nat×TB B.S)}{i:Nat}:bH (kh B h) i=(bH h i).map (fB B):=by
 induction h with
 |nil=>rfl
 |cons p r ih=>
  obtain⟨k,x⟩:=p
  simp only[kh,cG]
  split
  ·rfl
  ·exact ih
theorem BH{h:List (Nat×TB B.S)}{i:Nat}{x:TB B.S}:kh B (dT h i x)=dT (kh B h) i (fB B x):=by
 induction h with
 |nil=>rfl
 |cons p r ih=>
  obtain⟨k,y⟩:=p
  simp only[kh,sU]
  split
  ·rfl
  ·simp only[kh,ih]
theorem OL{h:List (Nat×TB B.S)}{i:Nat}:kh B (eh h i)=eh (kh B h) i:=by
 induction h with
 |nil=>rfl
 |cons p r ih=>
  obtain⟨k,y⟩:=p
  simp only[kh,eh]
  split
  ·exact ih
  ·simp only[kh,ih]
theorem cU{β:Type}{a b:List (Nat×β)}{i:Nat}:bH (a++b) i=match bH a i with
  |some x=>some x
  |none=>bH b i:=by
 induction a with
 |nil=>simp[cR]
 |cons p r ih=>
  obtain⟨k,x⟩:=p
  simp only[vT,cG,ih]
  split<;>rfl
theorem Dm{β:Type}{a b:List (Nat×β)}{i:Nat}{x y:β}(h:bH a i=some x):dT (a++b) i y=dT a i y++b:=by
 induction a with
 |nil=>simp[cR]at h
 |cons p r ih=>
  obtain⟨k,z⟩:=p
  simp only[cG]at h
  simp only[vT,sU]
  split
  ·rfl
  ·rename_i hk
   rw[if_neg hk]at h
   rw[ih h];rfl
theorem LB{β:Type}{a b:List (Nat×β)}{i:Nat}:eh (a++b) i=eh a i++eh b i:=by
 induction a with
 |nil=>simp[eh]
 |cons p r ih=>
  obtain⟨k,z⟩:=p
  simp only[vT,eh,ih]
  split<;>rfl
theorem Jg{β:Type}{a:List (Nat×β)}{i:Nat}(h:bH a i=none):eh a i=a:=by
 induction a with
 |nil=>rfl
 |cons p r ih=>
  obtain⟨k,z⟩:=p
  simp only[cG]at h
  simp only[eh]
  split
  ·rename_i hk;rw[if_pos hk]at h;cases h
  ·rename_i hk;rw[if_neg hk]at h;rw[ih h]
theorem qI{w:Nat}{b:TB B.S}(h:fI b=false):eH B w b=[]:=by
 cases b<;>first|rfl|cases h
theorem BR{h:List (Nat×TB B.S)}{c n:Nat}{b:TB B.S}(hb:fI b=false):df B ⟨(c,b)::h,n⟩=⟨(c,fB B b)::(df B ⟨h,n⟩).heap,n⟩:=by
 simp only[df,kh,lS,qI hb,qY,vT]
theorem dj{s:dI B.S}{id:Nat}{b:TB B.S}(h:bH s.heap id=some b):bH (df B s).heap id=some (fB B b):=by
 simp only[df]
 rw[cU,fP,h];rfl
theorem OM{h:List (Nat×TB B.S)}{i:Nat}{b b0:TB B.S}(hg:bH h i=some b0)(h0:fI b0=false)(hb:fI b=false):lS B (dT h i b)=lS B h:=by
 induction h with
 |nil=>simp[cR]at hg
 |cons p r ih=>
  obtain⟨k,z⟩:=p
  simp only[cG]at hg
  simp only[sU]
  split
  ·rename_i hk
   rw[if_pos hk]at hg;cases hg
   simp only[lS,qI h0,qI hb]
  ·rename_i hk
   rw[if_neg hk]at hg
   simp only[lS,ih hg]
theorem qD{s:dI B.S}{i n:Nat}{b b0:TB B.S}(hg:bH s.heap i=some b0)(h0:fI b0=false)(hb:fI b=false):df B ⟨dT s.heap i b,n⟩=⟨dT (df B s).heap i (fB B b),n⟩:=by
 simp only[df,BH,OM hg h0 hb]
 rw[Dm (x:=fB B b0) (by rw[fP,hg];rfl)]
theorem tt{l:List (ZB B.S)}{i id:Nat}{b:gp}(h:bH (jv B i l) id=some b):i<=id/\id<i+l.length/\ ∃z,l[id-i]? =some z/\b=Lb (ET B.E z):=by
 induction l generalizing i with
 |nil=>simp[jv,cR]at h
 |cons z r ih=>
  simp only[jv,cG]at h
  split at h
  ·rename_i e
   cases h;subst e
   exact⟨eu _,by simp,z,by simp,rfl⟩
  ·rename_i eJ
   obtain⟨h1,h2,y,h3,h4⟩:=ih h
   refine⟨by omega,by simp only[oc];omega,y,?_,h4⟩
   rw[show id-i=(id-(i+1))+1 from by omega]
   simpa using h3
theorem tq{c w:Nat}: ∀{l:List (B.S c)}{i id:Nat}{b:gp},bH (gk B c w i l) id=some b-> ∃j y,i<=j/\j<cO/\l[j-i]? =some y/\bH (jv B (w+1+B.K c*j) (B.Z c (w+1+B.K c*j) y)) id=some b
 | [],i,id,b,h=>by simp[gk,cR]at h
 |y::r,i,id,b,h=>by
  unfold gk at h
  cases hb:Nat.blt i cO with
  |false=>rw[hb]at h;simp[cR]at h
  |true=>
   rw[hb]at h
   simp only[cond_true]at h
   rw[cU]at h
   simp only[qZ]at hb
   split at h
   ·rename_i x hx
    cases h
    exact⟨i,y,eu _,hb,by simp,hx⟩
   ·obtain⟨j,z,h1,h2,h3,h4⟩:=tq h
    exact⟨j,z,by omega,h2,by rw[show j-i=(j-(i+1))+1 from by omega];simpa using h3,h4⟩
theorem oF{c w:Nat}{l:List (B.S c)}{i id:Nat}{b:gp}(h:bH (gk B c w i l) id=some b):fC w id=false:=by
 obtain⟨j,y,h1,h2,h3,h4⟩:=tq h
 obtain⟨g1,g2,_⟩:=tt h4
 rw[(B.hF c).hz]at g2
 have hk:=(B.hF c).hk
 have:B.K c*j<=4*4095:=Nat.mul_le_mul hk (by unfold cO at h2;omega)
 unfold fC uP
 rw[EH]
 constructor
 ·cases hq:Nat.ble id w with
  |false=>rfl
  |true=>have:=sT hq;omega
 ·cases hq:Nat.ble (w+20000) id with
  |false=>rfl
  |true=>have:=sT hq;omega
theorem eT{w id:Nat}{x:TB B.S}{b:gp}(h:bH (eH B w x) id=some b):fI x=true/\fC w id=false:=by
 unfold eH at h
 split at h
 ·rename_i c cl pre n post
  refine⟨rfl,?_⟩
  rw[cU]at h
  split at h
  ·rename_i y hy
   cases cl with
   |true=>simp[cR]at hy
   |false=>exact oF hy
  ·exact oF h
 ·simp[cR]at h
theorem Ht{i:Nat}: ∀{h:List (Nat×TB B.S)},gX h i=true->lS B (eh h i)=lS B h/\bH (lS B h) i=none
 | [],_=>by simp[eh,lS,cR]
 |(k,x)::r,h=>by
  have key: ∀{y:TB B.S},fI y=false->gX r i=true->lS B (eh ((k,y)::r) i)=lS B ((k,y)::r)/\bH (lS B ((k,y)::r)) i=none:=λ{y}hy hr=>by
   obtain⟨h1,h2⟩:=Ht hr
   refine⟨?_,by simp only[lS,qI hy,qY];exact h2⟩
   simp only[eh]
   split
   ·simp only[lS,qI hy,qY];exact h1
   ·simp only[lS,h1]
  cases x with
  |fr c cl pre n post=>
   simp only[gX,eW,pC]at h
   obtain⟨⟨h1,h2⟩,h3⟩:=h
   obtain⟨g1,g2⟩:=Ht h3
   have eJ:k≠i:=λe=>by subst e;rw[show Nat.beq k k=true from Nu k]at h2;cases h2
   refine⟨by simp only[eh,if_neg eJ,lS,g1],?_⟩
   simp only[lS]
   rw[cU]
   split
   ·rename_i b hb
    have:=(eT hb).2
    rw[this]at h1;cases h1
   ·exact g2
  |cE n l=>exact key (y:=.cE n l) rfl h
  |ls n c x m hm=>exact key (y:=.ls n c x m hm) rfl h
  |raw b=>exact key (y:=.raw b) rfl h
  |rows n c x v m=>exact key (y:=.rows n c x v m) rfl h
  |lp c e st pd=>exact key (y:=.lp c e st pd) rfl h
  |fm n c w cl pre ky post=>exact key (y:=.fm n c w cl pre ky post) rfl h
theorem lV{s:dI B.S}{i n:Nat}(h:gX s.heap i=true):df B ⟨eh s.heap i,n⟩=⟨eh (df B s).heap i,n⟩:=by
 obtain⟨h1,h2⟩:=Ht h
 simp only[df,LB,OL,h1,Jg h2]
theorem fk(x:TV B.S):(x.norm B).er B.E=x.er B.E:=by
 cases x<;>first|rfl|exact B.hX _ _
theorem yc(x:TV B.S):(x.norm B).OG=false:=by
 cases x<;>first|rfl|exact B.hv _ _
theorem Hu{S:Nat->Type}{E:(c:Nat)->S c->AV}(l:List AV):dV E (l.map .a)=l:=by
 induction l with
 |nil=>rfl
 |cons x r ih=>simp only[wy,dV,TV.er,ih]
theorem Av{S:Nat->Type}{E:(c:Nat)->S c->AV}{x:TV S}(h:x.OG=false):dV E (BL x)=(x.er E).cells:=by
 cases x<;>simp only[TV.OG]at h<;>first|(cases h;done)|simp only[BL,TV.er,dV,AV.cells,Hu]
theorem gr(x:TV B.S):dV B.E (dK B x)=(x.er B.E).cells:=by
 rw[dK,Av (yc x),fk]
theorem fX(x:TV B.S):(dK B x).length=(x.er B.E).cells.length:=by
 rw[<-gr,ew,mA]
theorem wP{S:Nat->Type}{E:(c:Nat)->S c->AV}(l:List (TV S))(i:Nat):(dV E l)[i]? =l[i]?.map (TV.er E):=by rw[ew,sK]
theorem jV{P:Program}{t:TypeId}{cs:List (TV B.S)}:pE P t (dV B.E cs)=(nf B P t cs).map (TV.er B.E):=by
 unfold pE nf
 cases Kd P t with
 |none=>rfl
 |some b=>
  cases b with
  |true=>
   simp only
   cases dl P t with
   |none=>rfl
   |some n=>
    simp only[ew,mA]
    cases h:Nat.ble n cs.length with
    |true=>
     rw[if_pos (sT h)]
     simp[TV.er,ew,J9]
    |false=>
     rw[if_neg (λe=>by rw[Ud e]at h;cases h)]
     rfl
  |false=>cases cs<;>rfl
theorem LC{S:Nat->Type}{E:(c:Nat)->S c->AV}{x:TV S}(h:pe x=true):(x.er E).cS=true:=by
 cases x<;>simp only[pe]at h<;>first|exact h|rfl|cases h
theorem LD{S:Nat->Type}{E:(c:Nat)->S c->AV}{l:List (TV S)}(h:l.all pe=true):(dV E l).all AV.cS=true:=by
 rw[ew,List.all_map]
 rw[py]at h |-
 exactλx hx=>LC (h x hx)
theorem mq{x:TV B.S}(h:(dK B x).all pe=true):(x.er B.E).cells.all AV.cS=true:=by rw[<-gr];exact LD h
theorem BS{S:Nat->Type}{E:(c:Nat)->S c->AV}{x:TV S}(hv:x.OG=false)(h:BM x=true): ∃l,x.er E=.agg l:=by
 cases x<;>simp only[BM]at h<;>first|(cases h;done)|skip
 ·rename_i y;cases y<;>simp only[AV.isAgg]at h<;>first|(cases h;done)|exact⟨_,rfl⟩
 ·exact⟨_,rfl⟩
theorem ON{S:Nat->Type}{E:(c:Nat)->S c->AV}{x:TV S}(hv:x.OG=false)(h:BM x=false): ∀l,x.er E≠ .agg l:=by
 intro l e
 cases x<;>simp only[BM,TV.er]at h e<;>first|(cases h;done)|(cases e;done)|skip
 ·subst e;cases h
 ·cases hv
theorem qJ{e:TV B.S}{cs:List (TV B.S)}:(qG B e cs).er B.E=pF (e.er B.E) (dV B.E cs):=by
 unfold qG
 rw[<-fk e]
 cases h:BM (e.norm B)with
 |true=>
  obtain⟨l,hl⟩:=BS (E:=B.E) (yc e) h
  rw[hl];rfl
 |false=>
  have hn:=ON (E:=B.E) (yc e) h
  simp only[cond_false]
  generalize(e.norm B).er B.E=u at hn
  cases u<;>first|exact absurd rfl (hn _)|(cases cs<;>rfl)
theorem nM{S:Nat->Type}{E:(c:Nat)->S c->AV}{cs new:List (TV S)}{off:Nat}:dV E (oK cs off new)=jj (dV E cs) off (dV E new):=by
 simp only[oK,jj,ew,CE,J9,EJ,mA]
theorem ec{bI:dD B.S}{x:Operand}:oper (ez B bI) x=(eX bI x).map (TV.er B.E):=by
 cases x<;>simp only[oper,eX]
 ·exact k7
 ·cases ofValue _<;>rfl
 ·rfl
 ·rfl
theorem kO{bI:dD B.S}: ∀{l:List Operand},opers (ez B bI) l=(oI bI l).map (dV B.E)
 | []=>rfl
 |x::r=>by
  simp only[opers,oI,ec,kO (l:=r)]
  cases eX bI x with
  |none=>rfl
  |some v=>cases oI bI r<;>rfl
def kz(B:iP)(tr:TR B.S)(o:Option AV)(s:dI B.S):Prop:= ∀K,tr.wp K-> ∃v,o=some (v.er B.E)/\K v s
def lB(B:iP)(tr:TR B.S)(o:Option (AV×St)):Prop:= ∀K,tr.wp K-> ∃v s',o=some (v.er B.E,df B s')/\K v s'
variable {P:Program} {s:dI B.S}
theorem kz.rJ{o:Option (TV B.S)}{o':Option AV}(h:o'=o.map (TV.er B.E)):kz B (rJ o s) o' s:=by
 intro K hK
 cases o with
 |none=>exact hK.elim
 |some v=>exact⟨v,h,hK⟩
theorem kz.toS{tr:TR B.S}{o:Option AV}(h:kz B tr o s):lB B tr (gg o (df B s)):=by
 intro K hK
 obtain⟨v,rfl,hk⟩:=h K hK
 exact⟨v,s,rfl,hk⟩
theorem kz.no{o:Option AV}:kz B .no o s:=λ_ h=>h.elim
theorem lB.no{o:Option (AV×St)}:lB B .no o:=λ_ h=>h.elim
theorem kz.ok{v:TV B.S}{o:Option AV}(h:o=some (v.er B.E)):kz B (.ok v s) o s:=λ_ hk=>⟨v,h,hk⟩
theorem lB.ok{v:TV B.S}{s':dI B.S}{o:Option (AV×St)}(h:o=some (v.er B.E,df B s')):lB B (.ok v s') o:=λ_ hk=>⟨v,s',h,hk⟩
theorem gA{S:Nat->Type}{E:(c:Nat)->S c->AV}(l:List (TV S)):(dV E l).length=l.length:=by rw[ew,mA]
theorem LF{α:Type}{f:α->AV}{x:List α}{w:AV}{r:List AV}:(x.map f++([w]++r))[x.length]? =some w:=by
 rw[pn (by simp)];simp
theorem RW{α:Type}{f:α->AV}{x:List α}{w y:AV}{r:List AV}:(x.map f++([w]++r)).set x.length y=x.map f++([y]++r):=by
 have e:x.length=(x.map f).length:=by simp
 rw[e,List.set_append];simp
theorem I6{i n:Nat}(h:i<n):Nat.blt i n=true:=by rw[qZ];exact h
theorem Za{i n:Nat}(h:Nat.blt i n=true):i<n:=by rw[qZ]at h;exact h
theorem Du{c w:Nat}: ∀{l:List (B.S c)}{i:Nat},i+l.length<=cO->(iw B c w i l).length=l.length
 | [],i,_=>rfl
 |y::r,i,h=>by
  simp only[oc]at h
  simp only[iw,I6 (show i<cO by omega),cond_true,oc,Du (l:=r) (i:=i+1) (by omega)]
theorem p9{c w:Nat}{cl:Bool}{pre:List (B.S c)}(h:pre.length<=cO):(bif cl then pre.map (B.E c)else iw B c w 0 pre).length=pre.length:=by
 cases cl
 ·exact Du (by omega)
 ·simp
theorem LG{c w:Nat}{cl:Bool}{pre:List (B.S c)}{x:AV}{r:List AV}(h:pre.length<=cO):((bif cl then pre.map (B.E c)else iw B c w 0 pre)++([x]++r))[pre.length]? =some x:=by
 rw[pn (by rw[p9 h];exact eu _),p9 h];simp
theorem RX{c w:Nat}{cl:Bool}{pre:List (B.S c)}{x y:AV}{r:List AV}(h:pre.length<=cO):((bif cl then pre.map (B.E c)else iw B c w 0 pre)++([x]++r)).set pre.length y=(bif cl then pre.map (B.E c)else iw B c w 0 pre)++([y]++r):=by
 have e:pre.length=(bif cl then pre.map (B.E c)else iw B c w 0 pre).length:=(p9 h).symm
 rw[e,List.set_append];simp
theorem Dv{t:TypeId}{p:TV B.S}:kz B (Ho B P t p s) (oX P t (p.er B.E) (df B s)) s:=by
 unfold Ho
 rw[<-fk p]
 generalize p.norm B=q
 split
 ·refine .rJ ?_
  simp only[TV.er,oX,mI,jV]
 ·rename_i p
  split
  ·refine .rJ ?_
   simp only[TV.er,oX,mI,<-jV,Hu]
  ·rename_i id el off
   simp only[TV.er,oX,mI]
   split
   ·rename_i n l hg
    simp only[dj hg,gl,fB,wP]
    split
    ·rename_i e he
     refine .rJ ?_
     simp only[he,gl,<-jV,ew,EJ]
     rw[<-ew,gr]
    ·exact .no
   ·rename_i n c x _ _ hg
    rintro K ⟨y,hy,hK⟩
    simp only[dj hg,gl,fB,sK,hy]
    refine kz.rJ (s:=s) ?_ K hK
    simp only[<-jV,ew,EJ]
    rw[<-ew,gr];rfl
   ·rename_i n c x v m hg
    split
    ·rename_i w
     rintro K ⟨hy,hK⟩
     subst hy
     simp only[dj hg,gl,fB,dV]
     rw[LF]
     refine kz.rJ (s:=s) ?_ K hK
     simp only[<-jV,ew,EJ]
     rw[<-ew,gr]
    ·exact .no
   ·rename_i n c w cl pre ky post hg
    split
    ·rename_i w
     rintro K ⟨⟨hy,jG⟩,hK⟩
     subst hy
     simp only[dj hg,gl,fB,dV]
     rw[LG jG]
     refine kz.rJ (s:=s) ?_ K hK
     simp only[<-jV,ew,EJ]
     rw[<-ew,gr]
    ·exact .no
   ·exact .no
  ·exact .no
 ·exact .no
theorem lB.dec{c:Nat}{x:TV B.S}{k:B.S c->TR B.S}{o:Option (AV×St)}(h: ∀y,B.E c y=x.er B.E->lB B (k y) o):lB B (FL B c x k) o:=by
 unfold FL
 split
 ·rintro K ⟨he,hK⟩;exact h _ he K hK
 ·exact .no
theorem lB.cr{p:Prop}{k:TR B.S}{o:Option (AV×St)}(h:p->lB B k o):lB B (.cr p k) o:=λK hK=>h hK.1 K hK.2
theorem kz.cr{p:Prop}{k:TR B.S}{o:Option AV}(h:p->kz B k o s):kz B (.cr p k) o s:=λK hK=>h hK.1 K hK.2
theorem lB.ko{b:Bool}{p:Prop}{k:TR B.S}{o:Option (AV×St)}(hb:b=true->p)(h:p->lB B k o):lB B (ko b p k) o:=by
 unfold Go.Am.ko
 cases b with
 |true=>exact h (hb rfl)
 |false=>exact .cr h
theorem kz.ko{b:Bool}{p:Prop}{k:TR B.S}{o:Option AV}(hb:b=true->p)(h:p->kz B k o s):kz B (ko b p k) o s:=by
 unfold Go.Am.ko
 cases b with
 |true=>exact h (hb rfl)
 |false=>exact .cr h
theorem lB.kP{st:Bool}{n:Int}{k:TR B.S}{o:Option (AV×St)}(h:0<=n->lB B k o):lB B (kP st n k) o:=by
 unfold Go.Am.kP
 cases st with
 |true=>
  cases n with
  |ofNat m=>exact h (Tk m)
  |negSucc m=>exact .no
 |false=>exact .cr h
theorem kz.kP{st:Bool}{n:Int}{k:TR B.S}{o:Option AV}(h:0<=n->kz B k o s):kz B (kP st n k) o s:=by
 unfold Go.Am.kP
 cases st with
 |true=>
  cases n with
  |ofNat m=>exact h (Tk m)
  |negSucc m=>exact .no
 |false=>exact .cr h
theorem lB.CM{m n:Nat}{k:TR B.S}{o:Option (AV×St)}(h:m=n->lB B k o):lB B (CM m n k) o:=by
 rintro K ⟨he,hK⟩;cases he;exact h rfl K hK
theorem kz.CM{m n:Nat}{k:TR B.S}{o:Option AV}(h:m=n->kz B k o s):kz B (CM m n k) o s:=by
 rintro K ⟨he,hK⟩;cases he;exact h rfl K hK
theorem lB.mo{c:Nat}{o:Option (AV×St)}: ∀{l:List (TV B.S)}{k:List (B.S c)->TR B.S},(∀ys,ys.map (B.E c)=dV B.E l->ys.length=l.length->lB B (k ys) o)->lB B (mo B c l k) o
 | [],k,h=>h [] rfl rfl
 |x::r,k,h=>by
  unfold Go.Am.mo
  exact lB.dec λy hy=>lB.mo λys Br hl=>h _ (by simp[dV,hy,Br]) (by simp[hl])
theorem kz.mo{c:Nat}{o:Option AV}: ∀{l:List (TV B.S)}{k:List (B.S c)->TR B.S},(∀ys,ys.map (B.E c)=dV B.E l->ys.length=l.length->kz B (k ys) o s)->kz B (mo B c l k) o s
 | [],k,h=>h [] rfl rfl
 |x::r,k,h=>by
  unfold Go.Am.mo FL
  split
  ·rintro K ⟨he,hK⟩
   exact kz.mo (λys Br hl=>h _ (by simp[dV,he,Br]) (by simp[hl])) K hK
  ·exact .no
theorem lB.bif{c:Bool}{k:TR B.S}{o:Option (AV×St)}(h:c=true->lB B k o):lB B (bif c then k else .no) o:=by
 cases c with
 |true=>exact h rfl
 |false=>exact .no
theorem kz.bif{c:Bool}{k:TR B.S}{o:Option AV}(h:c=true->kz B k o s):kz B (bif c then k else .no) o s:=by
 cases c with
 |true=>exact h rfl
 |false=>exact .no
theorem lB.el{c:Nat}{l:List (B.S c)}{i:Nat}{k:B.S c->TR B.S}{o:Option (AV×St)}(h: ∀y,l[i]? =some y->lB B (k y) o):lB B (.el c l i k) o:=by
 rintro K ⟨y,hy,hK⟩;exact h y hy K hK
theorem kz.ix{c:Nat}{l:List (B.S c)}{i:Int}{k:B.S c->TR B.S}{o:Option AV}(h: ∀y,Go.Am.ix l i=some y->kz B (k y) o s):kz B (.ix c l i k) o s:=by
 rintro K ⟨y,hy,hK⟩;exact h y hy K hK
theorem OO{S:Nat->Type}{E:(c:Nat)->S c->AV}{l:List (TV S)}{i:Nat}{x:TV S}:dV E (l.set i x)=(dV E l).set i (x.er E):=by rw[ew,ew,List.map_set]
theorem Jh{t:TypeId}{p v:TV B.S}:lB B (FM B P t p v s) (match xc P t (p.er B.E) (v.er B.E) (df B s)with
  |some s'=>some (.any,s')
  |none=>none):=by
 unfold FM
 rw[<-fk p]
 generalize p.norm B=q
 split
 case h_2=>exact .no
 rename_i id el off
 simp only[TV.er,xc]
 split
 ·rename_i cz l hg
  simp only[dj hg,gl,fB,wP]
  split
  ·rename_i e he
   simp only[he,gl]
   refine .bif λhc=>.ok ?_
   simp only[eW,eQ,Iw]at hc
   obtain⟨⟨h1,h2⟩,h3⟩:=hc
   rw[fX]at h1 h2
   rw[fX]at h2
   rw[if_pos ⟨h1,h2,mq h3⟩]
   rw[qD hg rfl rfl]
   simp only[TV.er,fB,OO,qJ,nM,gr];rfl
  ·exact .no
 ·rename_i cz c x m hm hg
  refine .el λy hy=>.bif λhc=>.dec λy' ND=>?_
  simp only[dj hg,gl,fB,sK,hy]
  simp only[eW,eQ,Iw]at hc
  obtain⟨⟨h1,h2⟩,h3⟩:=hc
  rw[fX]at h1 h2
  rw[fX]at h2
  refine .ok ?_
  have h2:off+(v.er B.E).cells.length<=(B.E c y).cells.length:=h2
  rw[if_pos ⟨h1,h2,mq h3⟩]
  rw[qD hg rfl rfl]
  simp only[TV.er,fB,List.map_set,ND,qJ,nM,gr];rfl
 ·rename_i cz c x w m hg
  split
  ·rename_i e
   refine .cr λhl=>.bif λhc=>.ok ?_
   subst hl
   simp only[dj hg,gl,fB,dV]
   rw[LF]
   simp only[eW,eQ,Iw]at hc
   obtain⟨⟨h1,h2⟩,h3⟩:=hc
   rw[fX]at h1 h2
   rw[fX]at h2
   simp only
   rw[if_pos ⟨h1,h2,mq h3⟩]
   rw[qD hg rfl rfl]
   simp only[TV.er,fB,dV,RW,qJ,nM,gr];rfl
  ·exact .no
 ·rename_i cz c w cl pre ky post hg
  split
  ·rename_i e
   refine .cr λhl=>.bif λhc=>.ok ?_
   obtain⟨hl,jG⟩:=hl
   subst hl
   simp only[dj hg,gl,fB,dV]
   rw[LG jG]
   simp only[eW,eQ,Iw]at hc
   obtain⟨⟨h1,h2⟩,h3⟩:=hc
   rw[fX]at h1 h2
   rw[fX]at h2
   simp only
   rw[if_pos ⟨h1,h2,mq h3⟩]
   rw[qD hg rfl rfl]
   simp only[TV.er,fB,dV,Ti,RX jG,qJ,nM,gr];rfl
  ·exact .no
 ·exact .no
theorem Hv{v:TV B.S}:lB B (OH B v s) (Bg (v.er B.E) (df B s)):=by
 unfold OH Bg
 refine .bif λhc=>.ok ?_
 simp only[eW,qZ]at hc
 obtain⟨h1,h2⟩:=hc
 rw[fX]at h1
 rw[if_pos ⟨h1,mq h2⟩]
 rw[BR rfl]
 simp only[TV.er,fB,dV,fX];rfl
theorem LH{t:TypeId}{z:AV}:lB B (Lu B P t z s) (CV z (df B s)):=by
 unfold Lu
 split
 case h_2=>exact .no
 split
 case h_2=>exact .no
 unfold CV
 refine .bif λhc=>.mo λys hy _=>.ok ?_
 simp only[eW,qZ]at hc
 rw[if_pos hc,BR rfl]
 have:dV B.E (z.cells.map .a)=z.cells:=by
  rw[ew,Is]
  exact(List.map_congr_left λ_ _=>rfl).trans (List.map_id _)
 simp only[TV.er,fB,TB.lz,hy,this];rfl
theorem Ji{t:TypeId}{p:TV B.S}{i:Nat}:xd P t (p.er B.E) i=(BN B P t p i).map (TV.er B.E)\/BN B P t p i=none:=by
 unfold xd BN
 rw[<-fk p]
 generalize p.norm B=q
 cases mU P t i with
 |none=>exact .inr rfl
 |some r=>
  obtain⟨off,n⟩:=r
  simp only
  cases hn:Nat.beq n 0 with
  |true=>exact .inr rfl
  |false=>
   have:n≠0:=λe=>by subst e;cases hn
   rw[if_neg this]
   simp only[cond_false]
   cases q<;>first|exact .inr rfl|skip
   case a x=>cases x<;>first|exact .inr rfl|exact .inl rfl
   case ip cs=>
    refine .inl ?_
    simp only[TV.er,gl,ew,EJ]
theorem kz.RY{o:Option (TV B.S)}{o':Option AV}(h:o'=o.map (TV.er B.E)\/o=none):kz B (Go.Am.rJ o s) o' s:=by
 rcases h with h|h
 ·exact .rJ h
 ·subst h;exact .no
theorem FQ{t:TypeId}{x:TV B.S}{i:Nat}:sW P t (x.er B.E) i=(wM B P t x i).map (TV.er B.E)\/wM B P t x i=none:=by
 unfold sW wM
 cases mU P t i with
 |none=>exact .inr rfl
 |some r=>
  obtain⟨off,n⟩:=r
  simp only
  cases Bf P t i with
  |none=>exact .inr rfl
  |some ft=>
   simp only
   cases h:BM (x.norm B)with
   |false=>exact .inr rfl
   |true=>
    refine .inl ?_
    simp only[cond_true]
    obtain⟨l,hl⟩:=BS (E:=B.E) (yc x) h
    rw[fk]at hl
    have hc:=gr x
    rw[hl]at hc
    simp only[hl,Ke,<-jV,ew,EJ]
    rw[<-ew,hc];rfl
theorem mr{x:TV B.S}{st:Bool}{k:IntKind}{n:Int}(h:Hp B x=some (st,k,n)):x.er B.E=.int k n:=by
 unfold Hp at h
 rw[<-fk x]
 split at h
 ·rename_i hq;cases h;rw[hq];rfl
 ·rename_i hq;cases h;rw[hq];rfl
 ·cases h
theorem sf{x:TV B.S}{st b:Bool}(h:JY B x=some (st,b)):x.er B.E=.bool b:=by
 unfold JY at h
 rw[<-fk x]
 split at h
 ·rename_i hq;cases h;rw[hq];rfl
 ·rename_i hq;cases h;rw[hq];rfl
 ·cases h
theorem uU{st:Bool}{k:IntKind}{n:Int}:(Lt st k n:TV B.S).er B.E=.int k n:=by cases st<;>rfl
theorem FR{st b:Bool}:(OI st b:TV B.S).er B.E=.bool b:=by cases st<;>rfl
theorem Dw{e c:Nat}{f:Bool}{xs:List (B.S c)}{n:Int}{t:TypeId}{k:IntKind}(he:dU P t=some e):kz B (Hq B P e c xs n s) (eM P t (.sl f (xs.map (B.E c))) (.int k n) (df B s)) s:=by
 unfold Hq
 refine .bif λhc=>.ix λy hy=>.ok ?_
 obtain⟨h0,hy⟩:=Oq hy
 simp only[eM,he,sK,hy,gl]
 rw[if_pos h0,if_pos (by rw[eQ.1 hc,B.hw])]
 simp only[TV.er,gr]
theorem LI{t:TypeId}{x i:TV B.S}:kz B (Lv B P t x i s) (eM P t (x.er B.E) (i.er B.E) (df B s)) s:=by
 unfold Lv
 split
 case h_2=>exact .no
 rename_i st k n hi
 rw[mr hi,<-fk x]
 generalize x.norm B=q
 split
 ·rename_i e he
  split
  ·exact Dw he
  ·rename_i f cs
   cases st with
   |true=>
    simp only[cond_true]
    split
    ·rename_i m
     split
     ·rename_i y hy
      refine .bif λhc=>.ok ?_
      have h0:(0:Int)<=Int.ofNat m:=Tk m
      simp only[eM,TV.er,he,wP]
      rw[if_pos h0]
      have:(Int.ofNat m).toNat=m:=rfl
      rw[this,hy]
      simp only[gl]
      rw[if_pos (by rw[eQ.1 hc,fX]),gr]
     ·exact .no
    ·exact .no
   |false=>
    simp only[cond_false]
    split
    ·rename_i c hc
     refine .mo λys Br _=>?_
     rw[TV.er,<-Br]
     exact Dw he
    ·exact .no
  ·rename_i id bL len
   simp only[eM,TV.er,he]
   split
   ·rename_i cz c xs m hm hg
    refine .bif λhc=>.CM λhl=>.ix λy hy=>.ok ?_
    obtain⟨h0,hy⟩:=Oq hy
    simp only[eW,eQ]at hc
    have hs:=iU hc.1
    subst hs;subst hl;subst hm
    have gh:n.toNat<xs.length:=(fM.1 hy).1
    simp only[dj hg,gl,fB]
    rw[if_pos ⟨h0,by omega,hc.2⟩,Ba]
    rfl
   ·rename_i cz l hg
    refine .bif λhc=>?_
    simp only[eW,eQ]at hc
    split
    ·rename_i m
     refine .bif λhm=>.ok ?_
     simp only[dj hg,gl,fB]
     have h0:(0:Int)<=Int.ofNat m:=Tk m
     simp only[qZ]at hm
     have h1:Int.ofNat m<(len:Int):=Int.ofNat_lt.2 hm
     rw[if_pos ⟨h0,h1,hc.2⟩]
     rfl
    ·exact .no
   ·rename_i cz c x v m hg
    refine .bif λhc=>.cr λhl=>.ok ?_
    simp only[eW,eQ]at hc
    have hs:=iU hc.1
    subst hs
    simp only[dj hg,gl,fB]
    rw[if_pos ⟨hl.1,hl.2,hc.2⟩,Ba]
    rfl
   ·rename_i cz c w cl pre ky post hg
    refine .bif λhc=>.cr λhl=>.ok ?_
    simp only[eW,eQ]at hc
    have hs:=iU hc.1
    subst hs
    simp only[dj hg,gl,fB]
    rw[if_pos ⟨hl.1,hl.2,hc.2⟩,Ba]
    rfl
   ·exact .no
  ·exact .no
 ·rename_i he
  split
  ·rename_i m e ha
   split
   ·rename_i sz eo
    cases hb:Nat.blt 8 m with
    |true=>
     simp only[cond_true]
     split
     ·rename_i id el off
      split
      ·rename_i cz c xs m' hm hg
       refine .bif λhc=>.cr λhn=>.ix λy hy=>.ok ?_
       obtain⟨h0,hy⟩:=Oq hy
       simp only[eW]at hc
       have e1:=iU hc.1
       have e2:=iU hc.2.1
       have e3:=iU hc.2.2
       subst e1;subst e2;subst e3
       simp only[eM,TV.er,he,ha,eo,hb,cond_true,dj hg,gl,fB]
       rw[if_pos ⟨h0,hn⟩,if_pos (by simp),Ba]
      ·exact .no
     ·exact .no
    |false=>
    simp only[cond_false]
    refine .bif λia=>?_
    split
    ·rename_i j
     refine .bif λhm=>?_
     simp only[qZ]at hm
     have h0:(0:Int)<=Int.ofNat j:=Tk j
     have h1:Int.ofNat j<(m:Int):=Int.ofNat_lt.2 hm
     have ht:(Int.ofNat j).toNat=j:=rfl
     split
     ·refine .ok ?_
      simp only[eM,TV.er,he,ha,eo,hb,cond_false]
      rw[if_pos ⟨h0,h1⟩,ht]
     ·refine .ok ?_
      simp only[eM,TV.er,he,ha,eo]
      rw[if_pos ⟨h0,h1⟩,ht]
     ·refine .ok ?_
      simp only[eM,TV.er,he,ha,eo]
      rw[if_pos ⟨h0,h1⟩,ht]
      simp only[ew,EJ]
     ·exact .no
    ·exact .no
   ·exact .no
  ·exact .no
theorem Jj{t:TypeId}{x i:TV B.S}:kz B (FN B P t x i s) (rS P t (x.er B.E) (i.er B.E)) s:=by
 unfold FN
 split
 case h_2=>exact .no
 rename_i st k n hi
 rw[mr hi]
 split
 ·rename_i b hb
  refine .bif λhs=>.cr λhn=>.ok ?_
  rw[<-fk x,hb]
  have hl:n.toNat<b.size:=by omega
  have e:b[n.toNat]? =some b[n.toNat]:=getElem?_pos b n.toNat hl
  simp only[rS,TV.er,zK,e]
  rw[if_pos ⟨hs,hn.1⟩]
  rfl
 ·rename_i b hb
  refine .bif λhs=>.cr λhn=>.ok ?_
  rw[<-fk x,hb]
  have hl:n.toNat<b.size:=by omega
  have e:b[n.toNat]? =some b[n.toNat]:=getElem?_pos b n.toNat hl
  simp only[rS,TV.er,zK,e]
  rw[if_pos ⟨hs,hn.1⟩]
  rfl
 refine .bif λhc=>?_
 simp only[eW]at hc
 obtain⟨l,hl⟩:=BS (E:=B.E) (yc x) hc.2
 rw[fk]at hl
 have s7:=gr x
 rw[hl]at s7 |-
 split
 ·rename_i m e ha
  split
  ·rename_i sz eo
   split
   ·rename_i j
    refine .bif λhm=>.rJ ?_
    simp only[qZ]at hm
    have h0:(0:Int)<=Int.ofNat j:=Tk j
    have h1:Int.ofNat j<(m:Int):=Int.ofNat_lt.2 hm
    have ht:(Int.ofNat j).toNat=j:=rfl
    simp only[rS,ha,eo]
    rw[if_pos ⟨h0,h1⟩,ht,<-jV,ew,EJ,<-ew,s7]
    rfl
   ·exact .no
  ·exact .no
 ·exact .no
theorem OP{t:TypeId}{x:TV B.S}:kz B (RQ B P t x s) (zq P t (x.er B.E)) s:=by
 unfold RQ
 rw[<-fk x]
 generalize x.norm B=q
 split
 ·refine .bif λhc=>.ok ?_
  simp only[TV.er,zq,mA];rw[if_pos hc]
 ·refine .bif λhc=>.ok ?_
  simp only[TV.er,zq,gA];rw[if_pos hc]
 ·refine .bif λhc=>.ok ?_
  simp only[TV.er,zq];rw[if_pos hc]
 ·refine .bif λhc=>.ok ?_
  simp only[TV.er,zq];rw[if_pos hc]
 ·refine .bif λhc=>.ok ?_
  simp only[TV.er,zq];rw[if_pos hc]
 ·split
  ·rename_i hq;exact .ok hq
  ·exact .no
 ·exact .no
theorem l6{bI:dD B.S}{x:Option Operand}{d:Nat}{k:Nat->TR B.S}{o:Option AV}(h: ∀n,fZ (ez B bI) x d=some n->(x=none->n=d)->(FO B bI x=true->d=0->n=0)->kz B (k n) o s):kz B (pZ B bI x d k) o s:=by
 unfold pZ
 split
 ·exact h d rfl (λ_=>rfl) (λ_ e=>e)
 ·rename_i y
  split
  ·rename_i v hv
   split
   ·rename_i st kk n hn
    refine .kP λh0=>h _ ?_ (λe=>by cases e) ?_
    ·simp only[fZ,ec,hv,gl,mr hn]
     rw[if_pos h0]
    ·intro hz _
     simp only[FO,hv]at hz
     split at hz
     ·rename_i hq
      cases hq
      simp only[Hp,TV.norm]at hn
      cases hn
      rfl
     ·cases hz
   ·exact .no
  ·exact .no
theorem tI{e c:Nat}{xs:List (B.S c)}(h:jc (dl P e) (B.W c)=true):fits P e (xs.map (B.E c)):=by
 intro y hy
 cases xs with
 |nil=>simp at hy
 |cons x r=>
  simp at hy;subst hy
  rw[eQ.1 h,B.hw]
theorem yd{t e:TypeId}{w:Bool}{id bL len:Nat}{bI:dD B.S}{lo hi:Option Operand}(he:dU P t=some e)(hw:w=true->bL=0):kz B (wN B P e w id bL len bI lo hi s) (oi P t (.ms id bL len) (ez B bI) lo hi none (df B s)) s:=by
 unfold wN
 refine .bif λhc=>?_
 have key: ∃cz elems,bH (df B s).heap id=some (.cells cz elems)/\dl P e=some cz:=by
  split at hc
  ·rename_i hg;exact⟨_,_,by rw[dj hg];rfl,eQ.1 hc⟩
  ·rename_i hg;exact⟨_,_,by rw[dj hg];rfl,eQ.1 hc⟩
  ·cases hc
 obtain⟨cz,elems,hg,hs⟩:=key
 refine l6 λl hl h0 hz=>l6 λh hh h1 _=>.ko (λhb=>by rw[hz hb rfl];exact zX _) λQ4=>.ko (λhb=>?_) λep=>.ok ?_
 ·cases hi with
  |none=>rw[h1 rfl];exact eu _
  |some _=>cases hb
 ·simp only[oi,he,hg,hl,hh]
  rw[if_pos ⟨Q4,ep,hs⟩]
  simp only[TV.er]
  have e1:(bif w then l else bL+l)=bL+l:=by
   cases w with
   |true=>rw[hw rfl];simp
   |false=>rfl
  have e2:(bif FO B bI lo then h else h-l)=h-l:=by
   cases hq:FO B bI lo with
   |true=>rw[hz hq rfl];simp
   |false=>rfl
  rw[e1,e2]
theorem Jk{t:TypeId}{x:TV B.S}{bI:dD B.S}{lo hi mx:Option Operand}:kz B (FP B P t x bI lo hi mx s) (oi P t (x.er B.E) (ez B bI) lo hi mx (df B s)) s:=by
 unfold FP
 rw[<-fk x]
 generalize x.norm B=q
 split
 ·exact .no
 split
 case h_2=>
  split
  ·rename_i b
   refine .bif λhs=>l6 λl hl _ _=>l6 λh hh _ _=>.cr λhq=>.ok ?_
   simp only[oi,TV.er,hl,hh]
   rw[if_pos ⟨hs,rfl⟩,if_pos hq]
  ·exact .no
 rename_i e he
 split
 ·rename_i f c xs
  refine .bif λhc=>l6 λl hl h0 hz=>l6 λh hh h1 _=>.ko (λhb=>by rw[hz hb rfl];exact zX _) λQ4=>.ko (λhb=>?_) λep=>.ok ?_
  ·cases hi with
   |none=>rw[h1 rfl];exact eu _
   |some _=>cases hb
  ·simp only[oi,TV.er,he,hl,mA,hh]
   rw[if_pos ⟨Q4,ep,tI hc,by rw[eQ.1 hc];rfl⟩]
   simp only[EJ,J9]
   cases f<;>simp
   cases hq:Nat.beq h xs.length with
   |true=>exact decide_eq_true (iU hq)
   |false=>exact decide_eq_false (λe=>by rw[e,Nu]at hq;cases hq)
 ·rename_i id bL len
  exact yd he λhw=>iU hw
 ·exact yd he λhw=>by cases hw
 ·exact .no
theorem tK{e sz:Nat}(h:ya P e=some sz): ∃b,dl P e=some sz/\oh P e=some b/\0<sz/\b<=4096/\uC P e sz=true:=by
 unfold ya at h
 split at h
 ·rename_i n b h1 h2
  cases hc:Nat.blt 0 n&&Nat.ble b 4096&&uC P e n with
  |false=>simp[hc]at h
  |true=>
   simp only[hc,cond_true]at h
   cases h
   simp only[eW,qZ,Iw]at hc
   exact⟨b,h1,h2,hc.1.1,hc.1.2,hc.2⟩
 ·cases h
theorem ie{n:Nat}{b:TB B.S}{h:List (Nat×TB B.S)}{c:Nat}{o:Option (AV×St)}(hb:fI b=false)(ho:o=some (.ms c 0 n,⟨(c,fB B b)::(df B ⟨h,c⟩).heap,c+1⟩)):lB B (nL n b h c) o:=.ok (by rw[BR hb];exact ho)
theorem LJ{t e sz:Nat}{x:TV B.S}{cs:List (TV B.S)}(he:dU P t=some e)(ha:ya P e=some sz)(eJ:cs≠[]):lB B (Lw B P e sz x cs s) (fO P t (x.er B.E) (dV B.E cs) (df B s)):=by
 obtain⟨b,h1,h2,h3,h4,h5⟩:=tK ha
 have mE:dV B.E cs≠[]:=λe=>eJ (by rw[ew]at e;exact List.map_eq_nil_iff.1 e)
 have top: ∀x,fO P t x (dV B.E cs) (df B s)=match x with
    |.sl full elems=>if full=true/\elems.length+cs.length<=bJ/\fits P e elems then
      some (.ms s.bS 0 (elems.length+cs.length),⟨(s.bS,.cells sz (elems++dV B.E cs))::(df B s).heap,s.bS+1⟩)else none
    |.ms id bL len=>match bH (df B s).heap id with
     |some (.cells cz elems)=>if cz=sz/\bL+len<=elems.length/\len+cs.length<=bJ then
       some (.ms s.bS 0 (len+cs.length),⟨(s.bS,.cells sz ((elems.drop bL).take len++dV B.E cs))::eh (df B s).heap id,s.bS+1⟩)else none
     |_=>none
    |.mc id bL len cap=>fO P t (.mc id bL len cap) (dV B.E cs) (df B s)
    |_=>none:=by
  intro x
  cases x<;>simp only[fO,he,h1,h2]<;>first|rw[if_pos ⟨h3,h4,h5⟩]|skip
  ·rw[if_neg mE,gA];rfl
  ·rw[if_neg mE,gA];rfl
 unfold Lw
 rw[top,<-fk x]
 generalize x.norm B=q
 split
 ·refine .bif λhc=>?_
  have hc:=sT hc
  simp only[TV.er]
  rw[if_pos ⟨trivial,by simpa using hc,λy hy=>by simp at hy⟩]
  split
  ·rename_i c TK
   refine .mo λys Br hl=>ie rfl ?_
   simp[fB,Br]
  ·refine ie rfl ?_
   simp[fB]
 ·rename_i c xs
  refine .bif λhc=>.mo λys Br hl=>.cr λhm=>ie rfl ?_
  simp only[TV.er,mA]
  rw[if_pos ⟨trivial,hm,tI hc⟩]
  simp[fB,Br,hl]
 ·rename_i id bL n
  simp only[TV.er]
  split
  ·rename_i cz c xs m hm hg
   refine .bif λhc=>.mo λys Br hl=>.CM λhn=>.cr λhm=>ie rfl ?_
   simp only[eW]at hc
   have e1:=iU hc.1.1
   have e2:=iU hc.1.2
   subst e1;subst e2;subst hn;subst hm
   simp only[dj hg,gl,fB,mA]
   rw[if_pos ⟨trivial,by omega,hm⟩]
   rw[lV hc.2]
   simp[Br,hl,rP]
  ·rename_i cz l hg
   refine .bif λhc=>.CM λhn=>ie rfl ?_
   simp only[eW,Iw]at hc
   have e1:=iU hc.1.1.1
   have e2:=iU hc.1.1.2
   subst e1;subst e2;subst hn
   simp only[dj hg,gl,fB,gA]
   rw[if_pos ⟨trivial,by omega,hc.1.2⟩]
   rw[lV hc.2]
   simp[ew,rP]
  ·rename_i cz c w cl pre ky post hg
   split
   ·split
    ·refine .bif λhc=>.CM λhn=>.cr λhm=>ie rfl ?_
     simp only[eW,Iw]at hc
     have e1:=iU hc.1.1.1
     have e2:=iU hc.1.1.2
     subst e1;subst e2;subst hn
     simp only[dj hg,gl,fB,dV,iw,wx,JQ]
     have hp:pre.length<=cO:=by omega
     rw[if_pos ⟨trivial,by rw[p9 hp];omega,by have:=hc.2;unfold cO at hm this;unfold bJ;omega⟩]
     rw[lV hc.1.2,WN,rP (by rw[p9 hp];exact eu _)]
    ·exact .no
   ·exact .no
  ·exact .no
 ·rename_i id bL n
  simp only[TV.er]
  split
  ·rename_i cz c xs _ _ hg
   refine .bif λhc=>.mo λys Br hl=>.cr λhn=>.cr λhm=>ie rfl ?_
   simp only[eW]at hc
   have e1:=iU hc.1
   subst e1
   simp only[dj hg,gl,fB,mA]
   rw[if_pos ⟨trivial,hn,hm⟩]
   rw[lV hc.2]
   simp[Br,hl,J9,EJ]
   omega
  ·exact .no
 ·exact .no
theorem tP{c d:Nat}{x:List (B.S c)}{y:List (B.S d)}(h:Au c d x=some y):y.map (B.E d)=x.map (B.E c)/\y.length=x.length:=by
 unfold Au at h
 split at h
 ·rename_i e;subst e;cases h;exact⟨rfl,rfl⟩
 ·cases h
theorem Dx{t e sz:Nat}{x:TV B.S}(he:dU P t=some e)(ha:ya P e=some sz):lB B (Hr B x s) (fO P t (x.er B.E) [] (df B s)):=by
 obtain⟨b,h1,h2,h3,h4,h5⟩:=tK ha
 unfold Hr
 rw[<-fk x]
 generalize hq:x.norm B=q
 have key: ∀{y:AV},q.er B.E=y->(∃f l,y=.sl f l)\/(∃i a n,y=.ms i a n)->lB B (.ok x s) (fO P t y [] (df B s)):=by
  intro y hy hs
  refine .ok ?_
  rw[<-fk x,hq,hy]
  rcases hs with⟨f,l,rfl⟩|⟨i,a,n,rfl⟩<;>simp only[fO,he,h1,h2,if_true]<;>rw[if_pos ⟨h3,h4,h5⟩]
 split
 ·exact key rfl (.inl ⟨_,_,rfl⟩)
 ·exact key rfl (.inr ⟨_,_,_,rfl⟩)
 ·exact key rfl (.inl ⟨_,_,rfl⟩)
 ·exact key rfl (.inl ⟨_,_,rfl⟩)
 ·exact key rfl (.inr ⟨_,_,_,rfl⟩)
 ·exact .no
theorem LK{t e sz:Nat}{x:TV B.S}{c:Nat}{ys:List (B.S c)}(he:dU P t=some e)(ha:ya P e=some sz):lB B (Lx B P e sz x c ys s) (fO P t (x.er B.E) (ys.map (B.E c)) (df B s)):=by
 obtain⟨b,h1,h2,h3,h4,h5⟩:=tK ha
 intro K hK
 unfold Lx TR.wp at hK
 cases Xl:ys.isEmpty with
 |true=>
  rw[Xl]at hK
  simp only[cond_true]at hK
  have hn:ys=[]:=by simpa using Xl
  subst hn
  exact Dx he ha K hK
 |false=>
  rw[Xl]at hK
  simp only[cond_false]at hK
  have eJ:ys≠[]:=by intro e;subst e;cases Xl
  have mE:ys.map (B.E c)≠[]:=λe=>eJ (List.map_eq_nil_iff.1 e)
  have top: ∀x,fO P t x (ys.map (B.E c)) (df B s)=match x with
     |.sl full elems=>if full=true/\elems.length+ys.length<=bJ/\fits P e elems then
       some (.ms s.bS 0 (elems.length+ys.length),⟨(s.bS,.cells sz (elems++ys.map (B.E c)))::(df B s).heap,s.bS+1⟩)else none
     |.ms id bL len=>match bH (df B s).heap id with
      |some (.cells cz elems)=>if cz=sz/\bL+len<=elems.length/\len+ys.length<=bJ then
        some (.ms s.bS 0 (len+ys.length),⟨(s.bS,.cells sz ((elems.drop bL).take len++ys.map (B.E c)))::eh (df B s).heap id,s.bS+1⟩)else none
      |_=>none
     |.mc id bL len cap=>fO P t (.mc id bL len cap) (ys.map (B.E c)) (df B s)
     |_=>none:=by
   intro x
   cases x<;>simp only[fO,he,h1,h2]<;>first|rw[if_pos ⟨h3,h4,h5⟩]|skip
   ·rw[if_neg mE,mA];rfl
   ·rw[if_neg mE,mA];rfl
  rw[top,<-fk x]
  generalize x.norm B=q at hK
  have done: ∀{tr:TR B.S}{o:Option (AV×St)},lB B tr o->tr.wp K-> ∃v s',o=some (v.er B.E,df B s')/\K v s':=λh hk=>h K hk
  refine done ?_ hK
  split
  ·refine .cr λhm=>ie rfl ?_
   simp only[TV.er]
   rw[if_pos ⟨trivial,by simpa using hm,λy hy=>by simp at hy⟩]
   simp[fB]
  ·rename_i d xs
   refine .bif λhc=>?_
   split
   ·rename_i zs hz
    obtain⟨z1,z2⟩:=tP hz
    refine .cr λhm=>ie rfl ?_
    simp only[TV.er,mA]
    rw[if_pos ⟨trivial,by omega,tI hc⟩]
    simp[fB,z1,z2]
   ·exact .no
  ·rename_i id bL n
   simp only[TV.er]
   split
   ·rename_i cz d xs m nr hg
    refine .bif λhc=>?_
    split
    ·rename_i zs hz
     obtain⟨z1,z2⟩:=tP hz
     refine .CM λhn=>.cr λhm=>ie rfl ?_
     simp only[eW]at hc
     have e1:=iU hc.1.1
     have e2:=iU hc.1.2
     subst e1;subst e2;subst hn;subst nr
     simp only[dj hg,gl,fB,mA]
     rw[if_pos ⟨trivial,by omega,by omega⟩]
     rw[lV hc.2]
     simp[z1,z2,rP]
    ·exact .no
   ·exact .no
  ·rename_i id bL n
   simp only[TV.er]
   split
   ·rename_i cz d xs _ _ hg
    refine .bif λhc=>?_
    split
    ·rename_i zs hz
     obtain⟨z1,z2⟩:=tP hz
     refine .cr λhn=>.cr λhm=>ie rfl ?_
     simp only[eW]at hc
     have e1:=iU hc.1
     subst e1
     simp only[dj hg,gl,fB,mA]
     rw[if_pos ⟨trivial,hn,by omega⟩]
     rw[lV hc.2]
     simp[z1,z2,J9,EJ]
     omega
    ·exact .no
   ·exact .no
  ·exact .no
theorem Aw{e:TypeId}{y:TV B.S}{k1:List (TV B.S)->TR B.S}{k2:(c:Nat)->List (B.S c)->TR B.S}{o:Option (AV×St)}{O:List AV->Option (AV×St)}
  (ho: ∀l,fG (y.er B.E) (df B s)=some l->kE P e (y.er B.E) (df B s)->o=O l)
  (h1: ∀cs,lB B (k1 cs) (O (dV B.E cs))) (h2: ∀c ys,lB B (k2 c ys) (O (ys.map (B.E c)))):lB B (BO B P e y s k1 k2) o:=by
 unfold BO
 rw[<-fk y]at ho
 generalize y.norm B=q at ho
 split
 ·rename_i f cs
  refine .bif λhc=>?_
  rw[ho _ rfl ?_]
  ·exact h1 cs
  ·intro z hz
   cases cs with
   |nil=>simp[dV]at hz
   |cons x r=>
    simp[dV]at hz;subst hz
    rw[eQ.1 hc,fX]
 ·rw[ho _ rfl (λz hz=>by simp at hz)];exact h1 []
 ·rename_i f c ys
  refine .bif λhc=>?_
  rw[ho _ rfl (tI hc)];exact h2 c ys
 ·rename_i id bL n
  simp only[TV.er,fG,kE]at ho
  split
  ·rename_i cz c xs m hm hg
   refine .bif λhc=>.CM λhn=>?_
   simp only[eW,eQ]at hc
   have e1:=iU hc.2
   subst e1;subst hn;subst hm
   rw[ho (xs.map (B.E c)) (by simp only[dj hg,gl,fB];rw[if_pos (by simp)];simp[rP]) (by simp only[dj hg,gl,fB];exact hc.1)]
   exact h2 c xs
  ·rename_i cz l hg
   refine .bif λhc=>.CM λhn=>?_
   simp only[eW,eQ]at hc
   have e1:=iU hc.2
   subst e1;subst hn
   rw[ho (dV B.E l) (by simp only[dj hg,gl,fB];rw[if_pos (by simp[gA])];simp[rP,gA]) (by simp only[dj hg,gl,fB];exact hc.1)]
   exact h1 l
  ·exact .no
 ·rename_i id bL n
  simp only[TV.er,fG,kE]at ho
  split
  ·rename_i cz c xs _ _ hg
   refine .bif λhc=>.cr λhn=>?_
   rw[ho (((xs.drop bL).take n).map (B.E c)) (by simp only[dj hg,gl,fB];rw[if_pos (by simpa using hn)];simp[J9,EJ]) (by simp only[dj hg,gl,fB];exact eQ.1 hc)]
   exact h2 c _
  ·exact .no
 ·exact .no
def ye(P:Program)(t u:TypeId)(x y:AV)(s:St):Option (AV×St):=match y with
 |.int _ n=>match dU P t with
  |some e=>match ji P e with
   |some z=>if 0<=n/\n<=bJ/\(E8 P u).isSome=true/\dl P e=some z.cells.length/\z.cells.all AV.cS=true then fO P t x (List.replicate n.toNat z) s else none
   |none=>none
  |none=>none
 |y=>match dU P t,fG y s with
  |some e,some new=>if kE P e y s/\(dU P u).isSome=true then fO P t x new s else none
  |_,_=>none
theorem FU{t u:TypeId}{x y:TV B.S}:lB B (BP B P t u x y s) (ye P t u (x.er B.E) (y.er B.E) (df B s)):=by
 unfold BP
 split
 case h_2=>exact .no
 rename_i e he
 split
 case h_2=>exact .no
 rename_i sz ha
 refine .bif λhu=>?_
 have h0: ∀k n,y.er B.E=.int k n->(∀l,fG (y.er B.E) (df B s)≠some l):=λk n e l=>by rw[e];simp[fG]
 refine Aw (P:=P) (e:=e) (O:=λl=>fO P t (x.er B.E) l (df B s)) (λl hl hf=>?_) (λcs=>?_) (λc ys=>LK he ha)
 ·generalize y.er B.E=v at hl hf h0
  cases v<;>first|exact absurd hl (h0 _ _ rfl _)|(simp only[ye,he,hl];rw[if_pos ⟨hf,hu⟩])
 ·cases cs with
  |nil=>exact Dx he ha
  |cons a r=>exact LJ he ha (by simp)
theorem LL{t:TypeId}{lo co:Operand}{bI:dD B.S}:lB B (LA B P t lo co bI s) (match oper (ez B bI) lo,oper (ez B bI) co with
  |some l,some c=>CW P t l c (df B s)
  |_,_=>none):=by
 unfold LA
 simp only[ec]
 split
 case h_2=>exact .no
 rename_i l c e hl hc he
 split
 case h_2=>exact .no
 rename_i sn kn n sm km m hn hm
 split
 case h_2=>exact .no
 rename_i sz z ha hz
 refine .bif λhq=>.kP λh0=>?_
 obtain⟨b,h1,h2,h3,h4,h5⟩:=tK ha
 simp only[eW]at hq
 have z7:=iU hq.1
 simp only[hl,hc,gl,mr hn,mr hm,CW,he,h1,h2,hz]
 have fin:n<=m->m<=(bJ:Int)->lB B (match B.T e with
     |some c=>bif OJ z then nL n.toNat (.rows sz c [] [] n.toNat) s.heap s.bS else FL B c (.a z) λy=>nL (List.replicate n.toNat y).length (.lz sz c (List.replicate n.toNat y)) s.heap s.bS
     |none=>bif sn then nL n.toNat (.cE sz (List.replicate n.toNat (.a z))) s.heap s.bS else .no)
    (if 0<=n/\n<=m/\m<=bJ/\0<sz/\z.cells.length=sz/\z.cells.all AV.cS=true/\b<=4096 then some (.ms (df B s).bS 0 n.toNat,⟨((df B s).bS,.cells sz (List.replicate n.toNat z))::(df B s).heap,(df B s).bS+1⟩)else none):=by
  intro g1 g2
  rw[if_pos ⟨h0,g1,g2,h3,z7,hq.2,h4⟩]
  split
  ·rename_i c hc
   cases hz:OJ z with
   |true=>
    simp only[cond_true]
    refine ie rfl ?_
    have e:z=.sl true []:=by unfold OJ at hz;split at hz;rfl;cases hz
    subst e
    simp[fB,dV];first|done|rfl|exact⟨rfl,rfl⟩
   |false=>
    simp only[cond_false]
    refine .dec λy hy=>ie rfl ?_
    simp only[fB,List.map_replicate,Ub,hy,TV.er];rfl
  ·refine .bif λ_=>ie rfl ?_
   simp only[fB,ew,List.map_replicate,TV.er];rfl
 cases hs:sn&&sm with
 |true=>
  simp only[cond_true]
  refine .bif λhd=>?_
  simp only[eW,decide_eq_true_eq]at hd
  exact fin hd.1 hd.2
 |false=>
  simp only[cond_false]
  refine .ko (λhb=>?_) λg1=>.cr λg2=>fin g1 g2
  have:lo=co:=by
   cases lo<;>cases co<;>simp only[Lz]at hb<;>first|(cases hb;done)|rw[iU hb]
  subst this
  rw[hl]at hc;cases hc
  rw[hn]at hm;cases hm
  exact Int.le_refl n
theorem yf{bP:Nat->Option (Nat×Nat)}: ∀{cu:List (Nat×TV B.S)}{cells l:List (TV B.S)},Dt B bP cells cu=some l->rD bP (dV B.E cells) (cu.map λp=>(p.1,p.2.er B.E))=some (dV B.E l)
 | [],cells,l,h=>by cases h;rfl
 |(i,v)::r,cells,l,h=>by
  simp only[Dt]at h
  simp only[wy,rD]
  split at h
  ·rename_i off n hp
   simp only[hp]
   cases hq:Nat.beq (dK B v).length n&&(dK B v).all pe&&Nat.ble (off+n) cells.length with
   |false=>simp[hq]at h
   |true=>
    simp only[hq,cond_true]at h
    simp only[eW,Iw]at hq
    obtain⟨⟨h1,h2⟩,h3⟩:=hq
    have h1:=iU h1
    rw[fX]at h1
    rw[if_pos ⟨h1,mq h2,by rw[gA];exact h3⟩,<-gr,<-nM]
    exact yf h
  ·cases h
theorem qK{bI:dD B.S}: ∀{l:List (Nat×Operand)},lC (ez B bI) l=(se bI l).map (λr=>r.map λp=>(p.1,p.2.er B.E))
 | []=>rfl
 |(i,x)::r=>by
  simp only[lC,se,ec,qK (l:=r)]
  cases eX bI x with
  |none=>rfl
  |some v=>cases se bI r<;>rfl
theorem Jl{t:TypeId}{cu:List (Nat×TV B.S)}{v:TV B.S}(h:BQ B P t cu=some v):xf P t (cu.map λp=>(p.1,p.2.er B.E))=some (v.er B.E):=by
 unfold BQ at h
 unfold xf
 split at h
 case h_2=>cases h
 rename_i cs hz
 simp only[hz]
 cases hs:wA P t with
 |true=>
  simp only[hs,cond_true]at h
  rw[if_pos rfl]
  split at h
  ·rename_i l hl
   cases h
   have:=yf hl
   rw[Hu]at this
   simp only[this];rfl
  ·cases h
 |false=>
  simp only[hs,cond_false]at h
  rw[if_neg (by simp)]
  split at h
  ·rename_i m e ha
   simp only[ha]
   split at h
   ·rename_i sz eo
    simp only[eo]
    split at h
    ·rename_i l hl
     cases h
     have:=yf hl
     rw[Hu]at this
     simp only[this];rfl
    ·cases h
   ·cases h
  ·cases h
theorem tQ: ∀{l:List (Nat×TV B.S)}{i:Nat},qH l i=true->ny (l.map λp=>(p.1,p.2.er B.E)) i=true
 | [],_,_=>rfl
 |(j,x)::r,i,h=>by
  simp only[qH,eW]at h
  simp only[wy,ny,eW]
  exact⟨by simp[iU h.1],tQ h.2⟩
theorem qa{t:TypeId}{len:Nat}{own:Bool}{cu:List (Nat×TV B.S)}:lB B (p8 B P t len own cu s) (bif own then(match fR P t len (cu.map λp=>(p.1,p.2.er B.E)),dU P t with
   |some _,some e=>match dl P e with
    |some sz=>some (.ms s.bS 0 cu.length,⟨(s.bS,.cells sz ((cu.map λp=>(p.1,p.2.er B.E)).map (·.2)))::(df B s).heap,s.bS+1⟩)
    |none=>none
   |_,_=>none)else gg (fR P t len (cu.map λp=>(p.1,p.2.er B.E))) (df B s)):=by
 unfold p8
 split
 case h_2=>exact .no
 rename_i e he
 split
 case h_2=>exact .no
 rename_i sz z eo hz
 refine .bif λhq=>?_
 simp only[eW,Iw,qZ]at hq
 obtain⟨⟨⟨⟨⟨h1,h2⟩,h3⟩,h4⟩,h5⟩,h6⟩:=hq
 have h1:=iU h1
 have h6:=iU h6
 have hb:fR P t len (cu.map λp=>(p.1,p.2.er B.E))=some (.sl true ((cu.map λp=>(p.1,p.2.er B.E)).map (·.2))):=by
  have iA: ∀p∈cu.map (λp=>(p.1,p.2.er B.E)),p.2.cells.length=sz/\p.2.cells.all AV.cS=true:=λp hp=>by
   obtain⟨q,hq,rfl⟩:=kb.1 hp
   have:=py.1 h3 q hq
   simp only[eW]at this
   exact⟨by rw[<-fX];exact iU this.1,mq this.2⟩
  unfold fR
  simp only[he,eo,hz]
  rw[if_pos ⟨by simpa using h1,tQ h2,iA,h4,h5,h6⟩]
 have hm:(cu.map λp=>(p.1,p.2.er B.E)).map (·.2)=dV B.E (cu.map (·.2)):=by rw[ew,Is,Is];rfl
 rw[hb]
 cases own with
 |true=>
  simp only[cond_true,he,eo]
  split
  ·rename_i c hc
   refine .mo λys Br hl=>ie rfl ?_
   simp only[fB,Br,hm,h1]
  ·refine ie rfl ?_
   simp only[fB,hm,h1]
 |false=>
  simp only[cond_false]
  refine .ok ?_
  simp only[gg,hm]
  cases zB:Nat.beq len 0 with
  |false=>rfl
  |true=>
   have e:=iU zB
   rw[e]at h1
   have:cu=[]:=JO h1
   subst this
   rfl
theorem OQ{op:BinOp}{k:IntKind}{sa sb:Bool}{x y:Int}:kz B (RR B op k sa sb x y s) (xe op k x y) s:=by
 have q:(sb&&!(decide (y=0)))=true->y≠0:=λh=>by simp only[eW,pC,decide_eq_false_iff_not]at h;exact h.2
 cases op<;>simp only[RR]<;>first
  |(refine .ok ?_;simp only[uU,FR,xe];done)
  |(refine .ko q λh=>.ok ?_;simp only[uU,xe];rw[if_neg h];done)
  |(refine .kP λh=>.ok ?_;simp only[uU,xe];rw[if_neg (by omega)];done)
  |exact .no
theorem OR{op:BinOp}{t:TypeId}{x y:TV B.S}:kz B (RU B P op t x y s) (Fb P op t (x.er B.E) (y.er B.E)) s:=by
 unfold RU
 split
 ·rename_i sa k a sb k' b hx hy
  refine .bif λhq=>?_
  rw[mr hx,mr hy]
  have:Fb P op t (.int k a) (.int k' b)=xe op k a b:=by
   simp only[sS,decide_eq_true_eq]at hq
   cases op<;>simp only[Fb]<;>first
    |rfl
    |(rcases hq with hq|hq;cases hq;rw[if_pos hq])
  rw[this]
  exact OQ
 ·split
  ·rename_i r hr
   exact .ok (by rw[hr,FR])
  ·exact .no
theorem RZ{op:UnOp}{x:TV B.S}:kz B (Zj B op x s) (Yn op (x.er B.E)) s:=by
 unfold Zj
 split
 ·split
  ·rename_i st b hb;refine .ok ?_;rw[sf hb,FR];rfl
  ·exact .no
 ·split
  ·rename_i st k n hb;refine .ok ?_;rw[mr hb,uU];rfl
  ·exact .no
 ·exact .no
theorem Dy{src dst:TypeId}{x:TV B.S}:kz B (yb B P src dst x s) (nw P src dst (x.er B.E)) s:=by
 unfold yb
 split
 ·rename_i st k n hn
  refine .bif λhq=>?_
  rw[mr hn]
  split
  ·rename_i k' hk
   refine .ok ?_
   simp only[nw,hk,uU];rw[if_pos hq]
  ·exact .no
 ·rw[<-fk x]
  split
  ·rename_i b hb
   refine .bif λhq=>.ok ?_
   simp only[eW]at hq
   rw[hb];simp only[TV.er,nw];rw[if_pos hq]
  ·rename_i b hb
   refine .bif λhq=>.ok ?_
   simp only[eW]at hq
   rw[hb];simp only[TV.er,nw];rw[if_pos hq]
  ·exact .no
theorem Dz{f:Int->Int->Int}{g:AV->AV->Option AV}(hg: ∀k a b,g (.int k a) (.int k b)=some (.int k (f a b))): ∀{r:List (TV B.S)}{st zl:Bool}{k k':IntKind}{a n:Int},Hs B f (st,k,a) r=some (zl,k',n)->vt g (.int k a) (dV B.E r)=some (.int k' n)
 | [],st,zl,k,k',a,n,h=>by cases h;rfl
 |y::r,st,zl,k,k',a,n,h=>by
  simp only[Hs]at h
  split at h
  ·rename_i s2 k2 b hb
   cases hq:decide (k=k2)with
   |false=>simp[hq]at h
   |true=>
    simp only[hq,cond_true]at h
    have e:=of_decide_eq_true hq
    subst e
    simp only[dV,mr hb,vt,hg]
    exact Dz hg h
  ·cases h
theorem yg{f:Int->Int->Int}{g:AV->AV->Option AV}(hg: ∀k a b,g (.int k a) (.int k b)=some (.int k (f a b))){l:List (TV B.S)}:kz B (wO B f l s) (match dV B.E l with
  |x::r=>vt g x r
  | []=>none) s:=by
 unfold wO
 split
 ·rename_i x r
  split
  ·rename_i q hq
   split
   ·rename_i st k n hn
    obtain⟨s0,k0,a0⟩:=q
    refine .ok ?_
    simp only[dV,mr hq,Dz hg hn,uU]
   ·exact .no
  ·exact .no
 ·exact .no
theorem FV{c:Call}{bI:Env}{s:St}{x y:AV}{t u:TypeId}(hc:c.callee=.builtin .append)(hl:opers bI c.args.toList=some [x,y])(h0:c.argTypes[0]? =some t)(h1:c.argTypes[1]? =some u):iL P (.call c) bI s=ye P t u x y s:=by
 simp only[iL,hc,hl,h0,h1];rfl
theorem LM{c:Call}{bI:Env}{s:St}{x y:AV}{t:TypeId}(hc:c.callee=.builtin .copy)(hl:opers bI c.args.toList=some [x,y])(h0:c.argTypes[0]? =some t):iL P (.call c) bI s=EZ P t x y s:=by
 simp only[iL,hc,hl,h0];rfl
theorem LN{t:TypeId}{x y:TV B.S}:lB B (Ly B P t x y s) (EZ P t (x.er B.E) (y.er B.E) (df B s)):=by
 unfold Ly
 split
 case h_2=>exact .no
 rename_i e he
 refine Aw (P:=P) (e:=e) (O:=λl=>w6 P t (x.er B.E) l (df B s)) (λl hl hf=>?_) (λcs=>.no) (λc ys=>?_)
 ·generalize y.er B.E=v at hl hf
  cases v<;>first|(simp only[EZ,he,hl];rw[if_pos hf])|(simp[fG]at hl)
 ·unfold w6
  rw[he,<-fk x]
  generalize x.norm B=q
  split
  case h_2=>exact .no
  rename_i id bL n
  simp only[TV.er]
  split
  case h_2=>exact .no
  rename_i cz d xs _ _ hg
  refine .bif λhc=>?_
  split
  case h_2=>exact .no
  rename_i ys' hy
  obtain⟨y1,y2⟩:=tP hy
  refine .cr λhn=>.ok ?_
  simp only[dj hg,gl,fB,mA]
  rw[if_pos ⟨eQ.1 hc,hn⟩,qD hg rfl rfl,<-y2,<-y1]
  simp only[TV.er,fB,NM,CE,J9,EJ,mA]
  rfl
theorem OS{b:Builtin}{c:Call}{bI:dD B.S}(hc:c.callee=.builtin b):lB B (RV B P b c bI s) (iL P (.call c) (ez B bI) (df B s)):=by
 unfold RV
 split
 case h_2=>exact .no
 rename_i l hl
 have uv:opers (ez B bI) c.args.toList=some (dV B.E l):=by rw[kO,hl];rfl
 split
 ·split
  ·rename_i x t ht
   simp only[iL,hc,uv,dV,ht]
   exact OP.toS
  ·exact .no
 ·split
  ·rename_i x y t u ht hu
   rw[FV hc uv ht hu]
   exact FU
  ·exact .no
 ·split
  ·rename_i x y t ht
   rw[LM hc uv ht]
   exact LN
  ·exact .no
 ·simp only[iL,hc,uv]
  have:=yg (s:=s) (f:=RB) (g:=NY) (λk a b=>by simp[NY,RB]) (l:=l)
  cases l with
  |nil=>exact .no
  |cons x r=>exact this.toS
 ·simp only[iL,hc,uv]
  have:=yg (s:=s) (f:=kw) (g:=NZ) (λk a b=>by simp[NZ,kw]) (l:=l)
  cases l with
  |nil=>exact .no
  |cons x r=>exact this.toS
 ·exact .no
theorem yh{op:Op}{bI:dD B.S}(hc:fS op=none):lB B (top B P false op bI s) (iL P op (ez B bI) (df B s)):=by
 unfold top
 split
 ·simp only[iL,ec];exact(kz.rJ rfl).toS
 ·simp only[iL,ec];exact(kz.rJ rfl).toS
 ·rename_i c a b
  simp only[iL,ec]
  split
  case h_2=>exact .no
  rename_i v hv
  split
  case h_2=>exact .no
  rename_i st t ht
  simp only[hv,gl,sf ht]
  have key: ∀t:Bool,lB B (rJ (bif t then eX bI a else eX bI b) s) (if t=true then gg ((eX bI a).map (TV.er B.E)) (df B s)else gg ((eX bI b).map (TV.er B.E)) (df B s)):=by
   intro t
   cases t with
   |true=>exact(kz.rJ rfl).toS
   |false=>exact(kz.rJ rfl).toS
  cases st with
  |true=>exact key t
  |false=>exactλK hK=>key t K hK
 ·rename_i t
  simp only[iL]
  split
  ·rename_i z hz;simp only[hz];exact Hv
  ·rename_i UQ
   split
   ·rename_i z hz;simp only[UQ,hz];exact LH
   ·exact .no
 ·rename_i x
  simp only[iL,ec]
  split
  ·rename_i v hv;simp only[hv,gl];exact Hv
  ·exact .no
 ·rename_i t cu
  simp only[iL,qK]
  split
  ·rename_i l hl
   simp only[hl,gl]
   refine(kz.RY ?_).toS
   cases hb:BQ B P t l with
   |none=>exact .inr rfl
   |some v=>exact .inl (Jl hb)
  ·exact .no
 ·rename_i t len cu
  simp only[iL,qK]
  split
  ·rename_i l hl
   simp only[hl,gl]
   exact qa (own:=false)
  ·exact .no
 ·simp only[iL,ec]
  split
  ·rename_i v hv;simp only[hv,gl];exact Dv.toS
  ·exact .no
 ·simp only[iL,ec]
  split
  ·rename_i v hv
   split
   ·rename_i x hx
    simp only[hv,hx,gl];exact Jh
   ·exact .no
  ·exact .no
 ·simp only[iL,ec]
  split
  ·rename_i v hv
   simp only[hv,gl]
   rw[<-fk v]
   split
   ·rename_i hq;rw[hq];exact .ok rfl
   ·rename_i hq;rw[hq];exact .ok rfl
   ·rename_i hq;rw[hq];exact .ok rfl
   ·rename_i hq;rw[hq];exact .ok rfl
   ·exact .no
  ·exact .no
 ·simp only[iL,ec]
  split
  ·rename_i v hv
   split
   ·rename_i x hx
    simp only[hv,hx,gl];exact OR.toS
   ·exact .no
  ·exact .no
 ·simp only[iL,ec]
  split
  ·rename_i v hv;simp only[hv,gl];exact RZ.toS
  ·exact .no
 ·simp only[iL,ec]
  split
  ·rename_i v hv;simp only[hv,gl];exact Dy.toS
  ·exact .no
 ·rename_i f first fH
  refine .bif λhq=>?_
  simp only[iL,kO]
  rw[if_pos (iU hq)]
  split
  ·rename_i l hl;simp only[hl,gl];exact .ok rfl
  ·exact .no
 ·simp only[iL,ec]
  split
  ·rename_i v hv;simp only[hv,gl];exact Jk.toS
  ·exact .no
 ·simp only[iL,ec]
  split
  ·rename_i v hv;simp only[hv,gl];exact(kz.RY Ji).toS
  ·exact .no
 ·simp only[iL,ec]
  split
  ·rename_i v hv;simp only[hv,gl];exact(kz.RY FQ).toS
  ·exact .no
 ·simp only[iL,ec]
  split
  ·rename_i v hv
   split
   ·rename_i x hx
    simp only[hv,hx,gl];exact LI.toS
   ·exact .no
  ·exact .no
 ·simp only[iL,ec]
  split
  ·rename_i v hv
   split
   ·rename_i x hx
    simp only[hv,hx,gl];exact Jj.toS
   ·exact .no
  ·exact .no
 ·simp only[iL,ec]
  split
  ·rename_i v hv
   simp only[hv,gl]
   rw[<-fk v]
   split
   ·rename_i vs hq
    rw[hq]
    simp only[TV.er]
    refine(kz.rJ ?_).toS
    rw[wP]
   ·exact .no
  ·exact .no
 ·simp only[iL];exact LL
 ·split
  ·rename_i b hb;exact OS hb
  ·exact .no
 ·exact .no
end
end Go.Am
