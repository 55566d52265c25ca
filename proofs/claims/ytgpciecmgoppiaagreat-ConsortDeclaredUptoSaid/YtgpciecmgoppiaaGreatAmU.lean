/- The logic AM, U: what an operation gives on typed states is what it gives. -/
import Derived.Test.YtgpciecmgoppiaaGreatAmT
set_option linter.all false
namespace Go.Am
open Go.RowKit
section
variable {B:iU}
theorem lR{bf:dB B.S}{t:Nat}:bn (eI B bf) t=(bn bf t).map (TV.er B.E):=by
 induction bf with
 |nil=>rfl
 |cons p r ih=>
  obtain⟨k,x⟩:=p;simp only[eI,cG]
  grind
theorem xw{bf:dB B.S}{t:Nat}{x:TV B.S}:eI B (dM bf t x)=dM (eI B bf) t (x.er B.E):=by
 induction bf with
 |nil=>rfl
 |cons p r ih=>
  obtain⟨k,y⟩:=p;simp only[eI,tz];split
  ·rfl
  ·simp only[eI,ih]
theorem gv{h:List (Nat×TB B.S)}{i:Nat}:bn (kS B h) i=(bn h i).map (fT B):=by
 induction h with
 |nil=>rfl
 |cons p r ih=>
  obtain⟨k,x⟩:=p;simp only[kS,cG]
  grind
theorem CE{h:List (Nat×TB B.S)}{i:Nat}{x:TB B.S}:kS B (dM h i x)=dM (kS B h) i (fT B x):=by
 induction h with
 |nil=>rfl
 |cons p r ih=>
  obtain⟨k,y⟩:=p;simp only[kS,tz];split
  ·rfl
  ·simp only[kS,ih]
theorem QL{h:List (Nat×TB B.S)}{i:Nat}:kS B (dZ h i)=dZ (kS B h) i:=by
 induction h with
 |nil=>rfl
 |cons p r ih=>
  obtain⟨k,y⟩:=p;simp only[kS,dZ];split
  ·exact ih
  ·simp only[kS,ih]
theorem cX{β:Type}{a b:List (Nat×β)}{i:Nat}:bn (a++b) i=match bn a i with
  |some x=>some x
  |none=>bn b i:=by
 induction a with
 |nil=>simp[df]
 |cons p r ih=>
  grind [cG]
theorem Em{β:Type}{a b:List (Nat×β)}{i:Nat}{x y:β}(h:bn a i=some x):dM (a++b) i y=dM a i y++b:=by
 induction a with
 |nil=>simp[df]at h
 |cons p r ih=>
  obtain⟨k,z⟩:=p;simp only[cG]at h;simp only[Al,tz]
  grind
theorem Nq{β:Type}{a b:List (Nat×β)}{i:Nat}:dZ (a++b) i=dZ a i++dZ b i:=by
 induction a with
 |nil=>simp[dZ]
 |cons p r ih=>
  obtain⟨k,z⟩:=p;simp only[Al,dZ,ih];split<;>rfl
theorem KI{β:Type}{a:List (Nat×β)}{i:Nat}(h:bn a i=none):dZ a i=a:=by
 induction a with
 |nil=>rfl
 |cons p r ih=>
  obtain⟨k,z⟩:=p;simp only[cG]at h;simp only[dZ]
  grind
theorem rB{w:Nat}{b:TB B.S}(h:gi b=false):eP B w b=[]:=by
 cases b<;>first|rfl|cases h
theorem CF{h:List (Nat×TB B.S)}{c n:Nat}{b:TB B.S}(hb:gi b=false):db B ⟨(c,b)::h,n⟩=⟨(c,fT B b)::(db B ⟨h,n⟩).heap,n⟩:=by
 simp only[db,kS,mN,rB hb,xm,Al]
theorem dl{s:dH B.S}{id:Nat}{b:TB B.S}(h:bn s.heap id=some b):bn (db B s).heap id=some (fT B b):=by
 simp only[db];rw[cX,gv,h];rfl
theorem QM{h:List (Nat×TB B.S)}{i:Nat}{b b0:TB B.S}(hg:bn h i=some b0)(h0:gi b0=false)(hb:gi b=false):mN B (dM h i b)=mN B h:=by
 induction h with
 |nil=>simp[df]at hg
 |cons p r ih=>
  obtain⟨k,z⟩:=p;simp only[cG]at hg;simp only[tz];split
  ·rename_i hk;rw[ez hk]at hg;cases hg;simp only[mN,rB h0,rB hb]
  ·rename_i hk;rw[fN hk]at hg;simp only[mN,ih hg]
theorem rC{s:dH B.S}{i n:Nat}{b b0:TB B.S}(hg:bn s.heap i=some b0)(h0:gi b0=false)(hb:gi b=false):db B ⟨dM s.heap i b,n⟩=⟨dM (db B s).heap i (fT B b),n⟩:=by
 simp only[db,CE,QM hg h0 hb];simp_all[Em,gv]
theorem ue{l:List (ZB B.S)}{i id:Nat}{b:gM}(h:bn (jT B i l) id=some b):i<=id/\id<i+l.length/\ ∃z,l[id-i]? =some z/\b=Nc (Ga B.E z):=by
 induction l generalizing i with
 |nil=>simp[jT,df]at h
 |cons z r ih=>
  simp only[jT,cG]at h
  grind
theorem uf{c w:Nat}: ∀{l:List (B.S c)}{i id:Nat}{b:gM},bn (gW B c w i l) id=some b-> ∃j y,i<=j/\j<cO/\l[j-i]? =some y/\bn (jT B (w+1+B.K c*j) (B.Z c (w+1+B.K c*j) y)) id=some b
 | [],i,id,b,h=>by simp[gW,df]at h
 |y::r,i,id,b,h=>by
  unfold gW at h;cases hb:Nat.blt i cO with
  |false=>rw[hb]at h;simp[df]at h
  |true=>
   rw[hb]at h;simp only[cP]at h;rw[cX]at h;simp only[tv]at hb;split at h
   ·rename_i x hx;cases h;exact⟨i,y,fw _,hb,by simp,hx⟩
   ·obtain⟨j,z,h1,h2,h3,h4⟩:=uf h;exact⟨j,z,by omega,h2,by rw[show j-i=(j-(i+1))+1 from by omega];simpa using h3,h4⟩
theorem pu{c w:Nat}{l:List (B.S c)}{i id:Nat}{b:gM}(h:bn (gW B c w i l) id=some b):fV w id=false:=by
 obtain⟨j,y,h1,h2,h3,h4⟩:=uf h;obtain⟨g1,g2,_⟩:=ue h4;rw[(B.hF c).hz]at g2;have hk:=(B.hF c).hk;have:B.K c*j<=4*4095:=Nat.mul_le_mul hk (by unfold cO at h2;omega);unfold fV vF;rw[J3];constructor
 ·cases hq:Nat.ble id w with
  |false=>rfl
  |true=>have:=vd hq;omega
 ·cases hq:Nat.ble (w+20000) id with
  |false=>rfl
  |true=>have:=vd hq;omega
theorem fc{w id:Nat}{x:TB B.S}{b:gM}(h:bn (eP B w x) id=some b):gi x=true/\fV w id=false:=by
 unfold eP at h;split at h
 ·rename_i c cl pre n post;refine⟨rfl,?_⟩;rw[cX]at h;split at h
  ·rename_i y hy;cases cl with
   |true=>simp[df]at hy
   |false=>exact pu hy
  ·exact pu h
 ·simp[df]at h
theorem IR{i:Nat}: ∀{h:List (Nat×TB B.S)},ia h i=true->mN B (dZ h i)=mN B h/\bn (mN B h) i=none
 | [],_=>by simp[dZ,mN,df]
 |(k,x)::r,h=>by
  have key: ∀{y:TB B.S},gi y=false->ia r i=true->mN B (dZ ((k,y)::r) i)=mN B ((k,y)::r)/\bn (mN B ((k,y)::r)) i=none:=λ{y}hy hr=>by
   obtain⟨h1,h2⟩:=IR hr;refine⟨?_,by simp only[mN,rB hy,xm];exact h2⟩;simp only[dZ];split
   ·simp only[mN,rB hy,xm];exact h1
   ·simp only[mN,h1]
  cases x with
  |fr c cl pre n post=>
   simp only[ia,eU,sr]at h;obtain⟨⟨h1,h2⟩,h3⟩:=h;obtain⟨g1,g2⟩:=IR h3;have fG:k≠i:=λe=>by subst e;rw[show Nat.beq k k=true from Nat.beq_refl k]at h2;cases h2
   refine⟨by simp only[dZ,fN fG,mN,g1],?_⟩;simp only[mN];rw[cX];split
   ·rename_i b hb;have:=(fc hb).2;rw[this]at h1;cases h1
   ·exact g2
  |cu n l=>exact key (y:=.cu n l) rfl h
  |ls n c x m hm=>exact key (y:=.ls n c x m hm) rfl h
  |raw b=>exact key (y:=.raw b) rfl h
  |rows n c x v m=>exact key (y:=.rows n c x v m) rfl h
  |lp c e st pd=>exact key (y:=.lp c e st pd) rfl h
  |fm n c w cl pre lA post=>exact key (y:=.fm n c w cl pre lA post) rfl h
theorem lS{s:dH B.S}{i n:Nat}(h:ia s.heap i=true):db B ⟨dZ s.heap i,n⟩=⟨dZ (db B s).heap i,n⟩:=by
 obtain⟨h1,h2⟩:=IR h;simp only[db,Nq,QL,h1,KI h2]
theorem fJ(x:TV B.S):(x.norm B).er B.E=x.er B.E:=by
 cases x<;>first|rfl|exact B.hX _ _
theorem yO(x:TV B.S):(x.norm B).QD=false:=by
 cases x<;>first|rfl|exact B.hv _ _
theorem IU{S:Nat->Type}{E:(c:Nat)->S c->AV}(l:List AV):dY E (l.map .a)=l:=by
 induction l with
 |nil=>rfl
 |cons x r ih=>simp only[Aj,dY,TV.er,ih]
theorem Bn{S:Nat->Type}{E:(c:Nat)->S c->AV}{x:TV S}(h:x.QD=false):dY E (Cy x)=(x.er E).cells:=by
 cases x<;>simp only[TV.QD]at h<;>first|(cases h;done)|simp only[Cy,TV.er,dY,AV.cells,IU]
theorem gR(x:TV B.S):dY B.E (dQ B x)=(x.er B.E).cells:=by
 rw[dQ,Bn (yO x),fJ]
theorem gw(x:TV B.S):(dQ B x).length=(x.er B.E).cells.length:=by
 rw[<-gR,eD,vn]
theorem xx{S:Nat->Type}{E:(c:Nat)->S c->AV}(l:List (TV S))(i:Nat):(dY E l)[i]? =l[i]?.map (TV.er E):=by rw[eD,xR]
theorem kC{P:Program}{t:TypeId}{cs:List (TV B.S)}:nE P t (dY B.E cs)=(nT B P t cs).map (TV.er B.E):=by
 unfold nE nT;cases DC P t with
 |none=>rfl
 |some b=>
  cases b with
  |true=>
   simp only;cases cK P t with
   |none=>rfl
   |some n=>
    simp only[eD,vn];cases h:Nat.ble n cs.length with
    |true=>
     rw[ez (vd h)];simp[TV.er,eD,VM]
    |false=>
     rw[fN (λe=>by grind [Nat.ble_eq_true_of_le])];rfl
  |false=>cases cs<;>rfl
theorem Nr{S:Nat->Type}{E:(c:Nat)->S c->AV}{x:TV S}(h:pO x=true):(x.er E).cJ=true:=by
 cases x<;>simp only[pO]at h<;>first|exact h|rfl|cases h
theorem Ns{S:Nat->Type}{E:(c:Nat)->S c->AV}{l:List (TV S)}(h:l.all pO=true):(dY E l).all AV.cJ=true:=by
 rw[eD,List.all_map];rw[qc]at h |-
 exactλx hx=>Nr (h x hx)
theorem np{x:TV B.S}(h:(dQ B x).all pO=true):(x.er B.E).cells.all AV.cJ=true:=by rw[<-gR];exact Ns h
theorem CG{S:Nat->Type}{E:(c:Nat)->S c->AV}{x:TV S}(hv:x.QD=false)(h:Cz x=true): ∃l,x.er E=.agg l:=by
 cases x<;>simp only[Cz]at h<;>first|(cases h;done)|skip
 ·rename_i y;cases y<;>simp only[AV.isAgg]at h<;>first|(cases h;done)|exact⟨_,rfl⟩
 ·exact⟨_,rfl⟩
theorem QN{S:Nat->Type}{E:(c:Nat)->S c->AV}{x:TV S}(hv:x.QD=false)(h:Cz x=false): ∀l,x.er E≠ .agg l:=by
 intro l e;cases x<;>simp only[Cz,TV.er]at h e<;>first|(cases h;done)|(cases e;done)|skip
 ·subst e;cases h
 ·cases hv
theorem rD{e:TV B.S}{cs:List (TV B.S)}:(rz B e cs).er B.E=oT (e.er B.E) (dY B.E cs):=by
 unfold rz;rw[<-fJ e];cases h:Cz (e.norm B)with
 |true=>
  obtain⟨l,hl⟩:=CG (E:=B.E) (yO e) h;rw[hl];rfl
 |false=>
  have hn:=QN (E:=B.E) (yO e) h;simp only[dv];generalize(e.norm B).er B.E=u at hn;cases u<;>first|exact absurd rfl (hn _)|(cases cs<;>rfl)
theorem oF{S:Nat->Type}{E:(c:Nat)->S c->AV}{cs new:List (TV S)}{off:Nat}:dY E (pq cs off new)=jq (dY E cs) off (dY E new):=by
 simp only[pq,jq,eD,F4,VM,L0,vn]
theorem ee{bf:dB B.S}{x:Operand}:oper (eI B bf) x=(fp bf x).map (TV.er B.E):=by
 cases x<;>simp only[oper,fp]
 ·exact lR
 ·cases ofValue _<;>rfl
 ·rfl
 ·rfl
theorem lC{bf:dB B.S}: ∀{l:List Operand},opers (eI B bf) l=(nU bf l).map (dY B.E)
 | []=>rfl
 |x::r=>by
  simp only[opers,nU,ee,lC (l:=r)];cases fp bf x with
  |none=>rfl
  |some v=>cases nU bf r<;>rfl
def lg(B:iU)(tr:TR B.S)(o:Option AV)(s:dH B.S):Prop:= ∀K,tr.wp K-> ∃v,o=some (v.er B.E)/\K v s
def ml(B:iU)(tr:TR B.S)(o:Option (AV×St)):Prop:= ∀K,tr.wp K-> ∃v s',o=some (v.er B.E,db B s')/\K v s'
variable {P:Program} {s:dH B.S}
theorem lg.sx{o:Option (TV B.S)}{o':Option AV}(h:o'=o.map (TV.er B.E)):lg B (sx o s) o' s:=by
 intro K hK;cases o with
 |none=>exact hK.elim
 |some v=>exact⟨v,h,hK⟩
theorem lg.toS{tr:TR B.S}{o:Option AV}(h:lg B tr o s):ml B tr (fC o (db B s)):=by
 intro K hK;obtain⟨v,rfl,hk⟩:=h K hK;exact⟨v,s,rfl,hk⟩
theorem lg.no{o:Option AV}:lg B .no o s:=λ_ h=>h.elim
theorem ml.no{o:Option (AV×St)}:ml B .no o:=λ_ h=>h.elim
theorem lg.ok{v:TV B.S}{o:Option AV}(h:o=some (v.er B.E)):lg B (.ok v s) o s:=λ_ hk=>⟨v,h,hk⟩
theorem ml.ok{v:TV B.S}{s':dH B.S}{o:Option (AV×St)}(h:o=some (v.er B.E,db B s')):ml B (.ok v s') o:=λ_ hk=>⟨v,s',h,hk⟩
theorem iw{S:Nat->Type}{E:(c:Nat)->S c->AV}(l:List (TV S)):(dY E l).length=l.length:=by rw[eD,vn]
theorem Nt{α:Type}{f:α->AV}{x:List α}{w:AV}{r:List AV}:(x.map f++([w]++r))[x.length]? =some w:=by
 grind
theorem Ui{α:Type}{f:α->AV}{x:List α}{w y:AV}{r:List AV}:(x.map f++([w]++r)).set x.length y=x.map f++([y]++r):=by
 simp_all
theorem KJ{i n:Nat}(h:i<n):Nat.blt i n=true:=by rw[tv];exact h
theorem aaJ{i n:Nat}(h:Nat.blt i n=true):i<n:=by rw[tv]at h;exact h
theorem En{c w:Nat}: ∀{l:List (B.S c)}{i:Nat},i+l.length<=cO->(iS B c w i l).length=l.length
 | [],i,_=>rfl
 |y::r,i,h=>by
  simp only[vl]at h;simp only[iS,KJ (show i<cO by omega),cP,vl,En (l:=r) (i:=i+1) (by omega)]
theorem ug{c w:Nat}{cl:Bool}{pre:List (B.S c)}(h:pre.length<=cO):(bif cl then pre.map (B.E c)else iS B c w 0 pre).length=pre.length:=by
 grind [En]
theorem Nu{c w:Nat}{cl:Bool}{pre:List (B.S c)}{x:AV}{r:List AV}(h:pre.length<=cO):((bif cl then pre.map (B.E c)else iS B c w 0 pre)++([x]++r))[pre.length]? =some x:=by
 simp_all[ug]
theorem Uj{c w:Nat}{cl:Bool}{pre:List (B.S c)}{x y:AV}{r:List AV}(h:pre.length<=cO):((bif cl then pre.map (B.E c)else iS B c w 0 pre)++([x]++r)).set pre.length y=(bif cl then pre.map (B.E c)else iS B c w 0 pre)++([y]++r):=by
 simp_all[ug]
theorem Eo{t:TypeId}{p:TV B.S}:lg B (IK B P t p s) (nG P t (p.er B.E) (db B s)) s:=by
 unfold IK;rw[<-fJ p];generalize p.norm B=q;split
 ·refine .sx ?_;simp only[TV.er,nG,kM,kC]
 ·rename_i p;split
  ·refine .sx ?_;simp only[TV.er,nG,kM,<-kC,IU]
  ·rename_i id el off;simp only[TV.er,nG,kM];split
   ·rename_i n l hg;simp only[dl hg,iJ,fT,xx];split
    ·rename_i e he;refine .sx ?_;simp only[he,iJ,<-kC,eD,L0];rw[<-eD,gR]
    ·exact .no
   ·rename_i n c x _ _ hg;rintro K ⟨y,hy,hK⟩;simp only[dl hg,iJ,fT,xR,hy];refine lg.sx (s:=s) ?_ K hK;simp only[<-kC,eD,L0];rw[<-eD,gR];rfl
   ·rename_i n c x v m hg;split
    ·rename_i w;rintro K ⟨hy,hK⟩;subst hy;simp only[dl hg,iJ,fT,dY];rw[Nt];refine lg.sx (s:=s) ?_ K hK;simp only[<-kC,eD,L0];rw[<-eD,gR]
    ·exact .no
   ·rename_i n c w cl pre lA post hg;split
    ·rename_i w;rintro K ⟨⟨hy,jC⟩,hK⟩;subst hy;simp only[dl hg,iJ,fT,dY];rw[Nu jC];refine lg.sx (s:=s) ?_ K hK;simp only[<-kC,eD,L0];rw[<-eD,gR]
    ·exact .no
   ·exact .no
  ·exact .no
 ·exact .no
theorem ml.dec{c:Nat}{x:TV B.S}{k:B.S c->TR B.S}{o:Option (AV×St)}(h: ∀y,B.E c y=x.er B.E->ml B (k y) o):ml B (Ha B c x k) o:=by
 unfold Ha;split
 ·rintro K ⟨he,hK⟩;exact h _ he K hK
 ·exact .no
theorem ml.bZ{p:Prop}{k:TR B.S}{o:Option (AV×St)}(h:p->ml B k o):ml B (.bZ p k) o:=λK hK=>h hK.1 K hK.2
theorem lg.bZ{p:Prop}{k:TR B.S}{o:Option AV}(h:p->lg B k o s):lg B (.bZ p k) o s:=λK hK=>h hK.1 K hK.2
theorem ml.kT{b:Bool}{p:Prop}{k:TR B.S}{o:Option (AV×St)}(hb:b=true->p)(h:p->ml B k o):ml B (kT b p k) o:=by
 unfold Go.Am.kT;cases b with
 |true=>exact h (hb rfl)
 |false=>exact .bZ h
theorem lg.kT{b:Bool}{p:Prop}{k:TR B.S}{o:Option AV}(hb:b=true->p)(h:p->lg B k o s):lg B (kT b p k) o s:=by
 unfold Go.Am.kT;cases b with
 |true=>exact h (hb rfl)
 |false=>exact .bZ h
theorem ml.lB{st:Bool}{n:Int}{k:TR B.S}{o:Option (AV×St)}(h:0<=n->ml B k o):ml B (lB st n k) o:=by
 unfold Go.Am.lB;cases st with
 |true=>
  cases n with
  |ofNat m=>exact h (VN m)
  |negSucc m=>exact .no
 |false=>exact .bZ h
theorem lg.lB{st:Bool}{n:Int}{k:TR B.S}{o:Option AV}(h:0<=n->lg B k o s):lg B (lB st n k) o s:=by
 unfold Go.Am.lB;cases st with
 |true=>
  cases n with
  |ofNat m=>exact h (VN m)
  |negSucc m=>exact .no
 |false=>exact .bZ h
theorem ml.Dx{m n:Nat}{k:TR B.S}{o:Option (AV×St)}(h:m=n->ml B k o):ml B (Dx m n k) o:=by
 rintro K ⟨he,hK⟩;cases he;exact h rfl K hK
theorem lg.Dx{m n:Nat}{k:TR B.S}{o:Option AV}(h:m=n->lg B k o s):lg B (Dx m n k) o s:=by
 rintro K ⟨he,hK⟩;cases he;exact h rfl K hK
theorem ml.nn{c:Nat}{o:Option (AV×St)}: ∀{l:List (TV B.S)}{k:List (B.S c)->TR B.S},(∀ys,ys.map (B.E c)=dY B.E l->ys.length=l.length->ml B (k ys) o)->ml B (nn B c l k) o
 | [],k,h=>h [] rfl rfl
 |x::r,k,h=>by
  unfold Go.Am.nn;exact ml.dec λy hy=>ml.nn λys DO hl=>h _ (by simp[dY,hy,DO]) (by simp[hl])
theorem lg.nn{c:Nat}{o:Option AV}: ∀{l:List (TV B.S)}{k:List (B.S c)->TR B.S},(∀ys,ys.map (B.E c)=dY B.E l->ys.length=l.length->lg B (k ys) o s)->lg B (nn B c l k) o s
 | [],k,h=>h [] rfl rfl
 |x::r,k,h=>by
  unfold Go.Am.nn Ha;split
  ·rintro K ⟨he,hK⟩;exact lg.nn (λys DO hl=>h _ (by simp[dY,he,DO]) (by simp[hl])) K hK
  ·exact .no
theorem ml.bif{c:Bool}{k:TR B.S}{o:Option (AV×St)}(h:c=true->ml B k o):ml B (bif c then k else .no) o:=by
 grind [no]
theorem lg.bif{c:Bool}{k:TR B.S}{o:Option AV}(h:c=true->lg B k o s):lg B (bif c then k else .no) o s:=by
 grind [no]
theorem ml.el{c:Nat}{l:List (B.S c)}{i:Nat}{k:B.S c->TR B.S}{o:Option (AV×St)}(h: ∀y,l[i]? =some y->ml B (k y) o):ml B (.el c l i k) o:=by
 rintro K ⟨y,hy,hK⟩;exact h y hy K hK
theorem lg.ix{c:Nat}{l:List (B.S c)}{i:Int}{k:B.S c->TR B.S}{o:Option AV}(h: ∀y,Go.Am.ix l i=some y->lg B (k y) o s):lg B (.ix c l i k) o s:=by
 rintro K ⟨y,hy,hK⟩;exact h y hy K hK
theorem QO{S:Nat->Type}{E:(c:Nat)->S c->AV}{l:List (TV S)}{i:Nat}{x:TV S}:dY E (l.set i x)=(dY E l).set i (x.er E):=by rw[eD,eD,List.map_set]
theorem KK{t:TypeId}{p v:TV B.S}:ml B (Hb B P t p v s) (match sF P t (p.er B.E) (v.er B.E) (db B s)with
  |some s'=>some (.any,s')
  |none=>none):=by
 unfold Hb;rw[<-fJ p];generalize p.norm B=q;split
 case h_2=>exact .no
 rename_i id el off;simp only[TV.er,sF];split
 ·rename_i cq l hg;simp only[dl hg,iJ,fT,xx];split
  ·rename_i e he;simp only[he,iJ];refine .bif λhc=>.ok ?_;simp only[eU,dA,Gg]at hc;obtain⟨⟨h1,h2⟩,h3⟩:=hc;rw[gw]at h1 h2;rw[gw]at h2;rw[ez ⟨h1,h2,np h3⟩];rw[rC hg rfl rfl];simp only[TV.er,fT,QO,rD,oF,gR];rfl
  ·exact .no
 ·rename_i cq c x m hm hg;refine .el λy hy=>.bif λhc=>.dec λy' VR=>?_;simp only[dl hg,iJ,fT,xR,hy];simp only[eU,dA,Gg]at hc;obtain⟨⟨h1,h2⟩,h3⟩:=hc;rw[gw]at h1 h2;rw[gw]at h2;refine .ok ?_;have h2:off+(v.er B.E).cells.length<=(B.E c y).cells.length:=h2;rw[ez ⟨h1,h2,np h3⟩];rw[rC hg rfl rfl];simp only[TV.er,fT,List.map_set,VR,rD,oF,gR];rfl
 ·rename_i cq c x w m hg;split
  ·rename_i e;refine .bZ λhl=>.bif λhc=>.ok ?_;subst hl;simp only[dl hg,iJ,fT,dY];rw[Nt];simp only[eU,dA,Gg]at hc;obtain⟨⟨h1,h2⟩,h3⟩:=hc;rw[gw]at h1 h2;rw[gw]at h2;simp only;rw[ez ⟨h1,h2,np h3⟩];rw[rC hg rfl rfl];simp only[TV.er,fT,dY,Ui,rD,oF,gR];rfl
  ·exact .no
 ·rename_i cq c w cl pre lA post hg;split
  ·rename_i e;refine .bZ λhl=>.bif λhc=>.ok ?_;obtain⟨hl,jC⟩:=hl;subst hl;simp only[dl hg,iJ,fT,dY];rw[Nu jC];simp only[eU,dA,Gg]at hc;obtain⟨⟨h1,h2⟩,h3⟩:=hc;rw[gw]at h1 h2;rw[gw]at h2;simp only;rw[ez ⟨h1,h2,np h3⟩];rw[rC hg rfl rfl];simp only[TV.er,fT,dY,Wo,Uj jC,rD,oF,gR];rfl
  ·exact .no
 ·exact .no
theorem IV{v:TV B.S}:ml B (QE B v s) (B2 (v.er B.E) (db B s)):=by
 unfold QE B2;refine .bif λhc=>.ok ?_;simp only[eU,tv]at hc;obtain⟨h1,h2⟩:=hc;rw[gw]at h1;rw[ez ⟨h1,np h2⟩];rw[CF rfl];simp only[TV.er,fT,dY,gw];rfl
theorem Nv{t:TypeId}{z:AV}:ml B (Ng B P t z s) (DD P t z (db B s)):=by
 unfold Ng;split
 case h_2=>exact .no
 rename_i m e h1;split
 case h_2=>exact .no
 rename_i n h2;split
 case h_2=>exact .no
 refine .bif λhc=>.nn λys hy _=>.ok ?_;unfold DD;rw[h1];simp only[h2];rw[hc,cP,CF rfl];have:dY B.E ((chunk n m z.cells).map .a)=chunk n m z.cells:=by
  rw[eD,L1];exact(List.map_congr_left λ_ _=>rfl).trans (List.map_id _)
 simp only[TV.er,fT,TB.lz,hy,this];rfl
theorem KL{t:TypeId}{p:TV B.S}{i:Nat}:xV P t (p.er B.E) i=(CA B P t p i).map (TV.er B.E)\/CA B P t p i=none:=by
 unfold xV CA;rw[<-fJ p];generalize p.norm B=q;cases nN P t i with
 |none=>grind
 |some r=>
  obtain⟨off,n⟩:=r;simp only;cases hn:Nat.beq n 0 with
  |true=>grind
  |false=>
   have:n≠0:=λe=>by simp_all
   rw[fN this];simp only[dv];cases q<;>first|exact .inr rfl|skip
   case a x=>cases x<;>first|exact .inr rfl|exact .inl rfl
   case ip cs=>
    refine .inl ?_;simp only[TV.er,iJ,eD,L0]
theorem lg.Uk{o:Option (TV B.S)}{o':Option AV}(h:o'=o.map (TV.er B.E)\/o=none):lg B (Go.Am.sx o s) o' s:=by
 rcases h with h|h
 ·exact .sx h
 ·subst h;exact .no
theorem He{t:TypeId}{x:TV B.S}{i:Nat}:tG P t (x.er B.E) i=(xr B P t x i).map (TV.er B.E)\/xr B P t x i=none:=by
 unfold tG xr;cases nN P t i with
 |none=>grind
 |some r=>
  obtain⟨off,n⟩:=r;simp only;cases B0 P t i with
  |none=>grind
  |some ft=>
   simp only;cases h:Cz (x.norm B)with
   |false=>grind
   |true=>
    refine .inl ?_;simp only[cP];obtain⟨l,hl⟩:=CG (E:=B.E) (yO x) h;rw[fJ]at hl;have hc:=gR x;rw[hl]at hc;simp only[hl,L9,<-kC,eD,L0];rw[<-eD,hc];rfl
theorem nq{x:TV B.S}{st:Bool}{k:IntKind}{n:Int}(h:IL B x=some (st,k,n)):x.er B.E=.int k n:=by
 unfold IL at h;rw[<-fJ x];split at h
 ·rename_i hq;cases h;rw[hq];rfl
 ·rename_i hq;cases h;rw[hq];rfl
 ·cases h
theorem sQ{x:TV B.S}{st b:Bool}(h:LQ B x=some (st,b)):x.er B.E=.bool b:=by
 unfold LQ at h;rw[<-fJ x];split at h
 ·rename_i hq;cases h;rw[hq];rfl
 ·rename_i hq;cases h;rw[hq];rfl
 ·cases h
theorem vG{st:Bool}{k:IntKind}{n:Int}:(Nf st k n:TV B.S).er B.E=.int k n:=by cases st<;>rfl
theorem Hf{st b:Bool}:(QF st b:TV B.S).er B.E=.bool b:=by cases st<;>rfl
theorem Ep{e c:Nat}{f:Bool}{xs:List (B.S c)}{n:Int}{t:TypeId}{k:IntKind}(he:dy P t=some e):lg B (IM B P e c xs n s) (eC P t (.sl f (xs.map (B.E c))) (.int k n) (db B s)) s:=by
 unfold IM;refine .bif λhc=>.ix λy hy=>.ok ?_;obtain⟨h0,hy⟩:=Qw hy;simp only[eC,he,xR,hy,iJ];rw[ez h0,ez (by rw[dA.1 hc,B.hw])];simp only[TV.er,gR]
theorem Nw{t:TypeId}{x i:TV B.S}:lg B (Nh B P t x i s) (eC P t (x.er B.E) (i.er B.E) (db B s)) s:=by
 unfold Nh;split
 case h_2=>exact .no
 rename_i st k n hi;rw[nq hi,<-fJ x];generalize x.norm B=q;split
 ·rename_i e he;split
  ·exact Ep he
  ·rename_i f cs;cases st with
   |true=>
    simp only[cP];split
    ·rename_i m;split
     ·rename_i y hy;refine .bif λhc=>.ok ?_;have h0:(0:Int)<=Int.ofNat m:=VN m;simp only[eC,TV.er,he,xx];simp_all[dA,gw,gR]
     ·exact .no
    ·exact .no
   |false=>
    simp only[dv];split
    ·rename_i c hc;refine .nn λys DO _=>?_;rw[TV.er,<-DO];exact Ep he
    ·exact .no
  ·rename_i id bq len;simp only[eC,TV.er,he];split
   ·rename_i cq c xs m hm hg;refine .bif λhc=>.Dx λhl=>.ix λy hy=>.ok ?_;obtain⟨h0,hy⟩:=Qw hy;simp only[eU,dA]at hc;have hs:=jU hc.1;subst hs;subst hl;subst hm;have kc:n.toNat<xs.length:=(lf.1 hy).1;simp only[dl hg,iJ,fT];rw[ez ⟨h0,by omega,hc.2⟩,J0];rfl
   ·rename_i cq l hg;refine .bif λhc=>?_;simp only[eU,dA]at hc;split
    ·rename_i m;refine .bif λhm=>.ok ?_;simp only[dl hg,iJ,fT];have h0:(0:Int)<=Int.ofNat m:=VN m;simp only[tv]at hm;have h1:Int.ofNat m<(len:Int):=Int.ofNat_lt.2 hm;rw[ez ⟨h0,h1,hc.2⟩];rfl
    ·exact .no
   ·rename_i cq c x v m hg;refine .bif λhc=>.bZ λhl=>.ok ?_;simp only[eU,dA]at hc;have hs:=jU hc.1;subst hs;simp only[dl hg,iJ,fT];rw[ez ⟨hl.1,hl.2,hc.2⟩,J0];rfl
   ·rename_i cq c w cl pre lA post hg;refine .bif λhc=>.bZ λhl=>.ok ?_;simp only[eU,dA]at hc;have hs:=jU hc.1;subst hs;simp only[dl hg,iJ,fT];rw[ez ⟨hl.1,hl.2,hc.2⟩,J0];rfl
   ·exact .no
  ·exact .no
 ·rename_i he;split
  ·rename_i m e ha;split
   ·rename_i sz eB;cases hb:Nat.blt 8 (m*sz)with
    |true=>
     simp only[cP];split
     ·rename_i id el off;split
      ·rename_i cq c xs m' hm hg;refine .bif λhc=>.bZ λhn=>.ix λy hy=>.ok ?_;obtain⟨h0,hy⟩:=Qw hy;simp only[eU]at hc;have e1:=jU hc.1;have e2:=jU hc.2.1;have e3:=jU hc.2.2;subst e1;subst e2;subst e3;simp only[eC,TV.er,he,ha,eB,hb,cP,dl hg,iJ,fT]
       grind
      ·exact .no
     ·exact .no
    |false=>
    simp only[dv];refine .bif λja=>?_;split
    ·rename_i j;refine .bif λhm=>?_;simp only[tv]at hm;have h0:(0:Int)<=Int.ofNat j:=VN j;have h1:Int.ofNat j<(m:Int):=Int.ofNat_lt.2 hm;have ht:(Int.ofNat j).toNat=j:=rfl;split
     ·refine .ok ?_;simp only[eC,TV.er,he,ha,eB,hb,dv]
      grind
     ·refine .ok ?_;simp only[eC,TV.er,he,ha,eB]
      grind
     ·refine .ok ?_;simp only[eC,TV.er,he,ha,eB];simp_all[eD]
     ·exact .no
    ·exact .no
   ·exact .no
  ·exact .no
theorem KM{t:TypeId}{x i:TV B.S}:lg B (Hc B P t x i s) (oU P t (x.er B.E) (i.er B.E)) s:=by
 unfold Hc;split
 case h_2=>exact .no
 rename_i st k n hi;rw[nq hi];split
 ·rename_i b hb;refine .bif λhs=>.bZ λhn=>.ok ?_;rw[<-fJ x,hb];have hl:n.toNat<b.size:=by omega
  have e:b[n.toNat]? =some b[n.toNat]:=getElem?_pos b n.toNat hl;simp only[oU,TV.er,AG,e]
  grind
 ·rename_i b hb;refine .bif λhs=>.bZ λhn=>.ok ?_;rw[<-fJ x,hb];have hl:n.toNat<b.size:=by omega
  have e:b[n.toNat]? =some b[n.toNat]:=getElem?_pos b n.toNat hl;simp only[oU,TV.er,AG,e]
  grind
 refine .bif λhc=>?_;simp only[eU]at hc;obtain⟨l,hl⟩:=CG (E:=B.E) (yO x) hc.2;rw[fJ]at hl;have vr:=gR x;rw[hl]at vr |-
 split
 ·rename_i m e ha;split
  ·rename_i sz eB;split
   ·rename_i j;refine .bif λhm=>.sx ?_;simp only[tv]at hm;have h0:(0:Int)<=Int.ofNat j:=VN j;have h1:Int.ofNat j<(m:Int):=Int.ofNat_lt.2 hm;have ht:(Int.ofNat j).toNat=j:=rfl;simp only[oU,ha,eB];rw[ez ⟨h0,h1⟩,ht,<-kC,eD,L0,<-eD,vr];rfl
   ·exact .no
  ·exact .no
 ·exact .no
theorem QP{t:TypeId}{x:TV B.S}:lg B (Ue B P t x s) (wW P t (x.er B.E)) s:=by
 unfold Ue;rw[<-fJ x];generalize x.norm B=q;split
 ·refine .bif λhc=>.ok ?_;simp only[TV.er,wW,vn];grind
 ·refine .bif λhc=>.ok ?_;simp only[TV.er,wW,iw];grind
 ·refine .bif λhc=>.ok ?_;simp only[TV.er,wW];grind
 ·refine .bif λhc=>.ok ?_;simp only[TV.er,wW];grind
 ·refine .bif λhc=>.ok ?_;simp only[TV.er,wW];rw[ez hc]
 ·split
  ·rename_i hq;exact .ok hq
  ·exact .no
 ·exact .no
theorem mU{bf:dB B.S}{x:Option Operand}{d:Nat}{k:Nat->TR B.S}{o:Option AV}(h: ∀n,gh (eI B bf) x d=some n->(x=none->n=d)->(Ni B bf x=true->d=0->n=0)->lg B (k n) o s):lg B (qD B bf x d k) o s:=by
 unfold qD;split
 ·exact h d rfl (λ_=>rfl) (λ_ e=>e)
 ·rename_i y;split
  ·rename_i v hv;split
   ·rename_i st kk n hn;refine .lB λh0=>h _ ?_ (λe=>by cases e) ?_
    ·simp only[gh,ee,hv,iJ,nq hn]
     grind
    ·intro hz _;simp only[Ni,hv]at hz;split at hz
     ·rename_i hq;cases hq;simp only[IL,TV.norm]at hn
      grind
     ·cases hz
   ·exact .no
  ·exact .no
theorem uh{e c:Nat}{xs:List (B.S c)}(h:eV (cK P e) (B.W c)=true):fits P e (xs.map (B.E c)):=by
 intro y hy;cases xs with
 |nil=>simp at hy
 |cons x r=>
  simp at hy;subst hy;rw[dA.1 h,B.hw]
theorem yP{t e:TypeId}{w:Bool}{id bq len:Nat}{bf:dB B.S}{lo hi:Option Operand}(he:dy P t=some e)(hw:w=true->bq=0):lg B (xt B P e w id bq len bf lo hi s) (kf P t (.ms id bq len) (eI B bf) lo hi none (db B s)) s:=by
 unfold xt;refine .bif λhc=>?_;have key: ∃cq elems,bn (db B s).heap id=some (.cells cq elems)/\cK P e=some cq:=by
  split at hc
  ·rename_i hg;exact⟨_,_,by rw[dl hg];rfl,dA.1 hc⟩
  ·rename_i hg;exact⟨_,_,by rw[dl hg];rfl,dA.1 hc⟩
  ·cases hc
 obtain⟨cq,elems,hg,hs⟩:=key;refine mU λl hl h0 hz=>mU λh hh h1 _=>.kT (λhb=>by grind) λTk=>.kT (λhb=>?_) λeR=>.ok ?_
 ·simp_all
 ·simp only[kf,he,hg,hl,hh];rw[ez ⟨Tk,eR,hs⟩];simp only[TV.er]
  grind
theorem KN{t:TypeId}{x:TV B.S}{bf:dB B.S}{lo hi mx:Option Operand}:lg B (Hd B P t x bf lo hi mx s) (kf P t (x.er B.E) (eI B bf) lo hi mx (db B s)) s:=by
 unfold Hd;rw[<-fJ x];generalize x.norm B=q;split
 ·exact .no
 split
 case h_2=>
  split
  ·rename_i b;refine .bif λhs=>mU λl hl _ _=>mU λh hh _ _=>.bZ λhq=>.ok ?_;simp only[kf,TV.er,hl,hh]
   grind
  ·exact .no
 rename_i e he;split
 ·rename_i f c xs;refine .bif λhc=>mU λl hl h0 hz=>mU λh hh h1 _=>.kT (λhb=>by grind) λTk=>.kT (λhb=>?_) λeR=>.ok ?_
  ·simp_all
  ·simp only[kf,TV.er,he,hl,vn,hh];rw[ez ⟨Tk,eR,uh hc,by rw[dA.1 hc];rfl⟩]
   grind [List.map_drop,List.map_take,Nat.eq_of_beq_eq_true,decide_eq_false,Nat.beq_refl]
 ·rename_i id bq len;exact yP he λhw=>jU hw
 ·exact yP he λhw=>by cases hw
 ·exact .no
theorem ui{e sz:Nat}(h:yM P e=some sz): ∃b,cK P e=some sz/\mn P e=some b/\0<sz/\b<=4096/\nO P e sz=true:=by
 unfold yM at h;split at h
 ·rename_i n b h1 h2;cases hc:Nat.blt 0 n&&Nat.ble b 4096&&nO P e n with
  |false=>grind
  |true=>
   simp_all
 ·cases h
theorem iH{n:Nat}{b:TB B.S}{h:List (Nat×TB B.S)}{c:Nat}{o:Option (AV×St)}(hb:gi b=false)(ho:o=some (.ms c 0 n,⟨(c,fT B b)::(db B ⟨h,c⟩).heap,c+1⟩)):ml B (oD n b h c) o:=.ok (by rw[CF hb];exact ho)
theorem Ny{t e sz:Nat}{x:TV B.S}{cs:List (TV B.S)}(he:dy P t=some e)(ha:yM P e=some sz)(fG:cs≠[]):ml B (Nj B P e sz x cs s) (eX P t (x.er B.E) (dY B.E cs) (db B s)):=by
 obtain⟨b,h1,h2,h3,h4,h5⟩:=ui ha;have oz:dY B.E cs≠[]:=λe=>fG (by grind [eD,List.map_eq_nil_iff]);have top: ∀x,eX P t x (dY B.E cs) (db B s)=match x with
    |.sl full elems=>if full=true/\elems.length+cs.length<=bc/\fits P e elems then
      some (.ms s.bN 0 (elems.length+cs.length),⟨(s.bN,.cells sz (elems++dY B.E cs))::(db B s).heap,s.bN+1⟩)else none
    |.ms id bq len=>match bn (db B s).heap id with
     |some (.cells cq elems)=>if cq=sz/\bq+len<=elems.length/\len+cs.length<=bc then
       some (.ms s.bN 0 (len+cs.length),⟨(s.bN,.cells sz ((elems.drop bq).take len++dY B.E cs))::dZ (db B s).heap id,s.bN+1⟩)else none
     |_=>none
    |.mc id bq len cap=>eX P t (.mc id bq len cap) (dY B.E cs) (db B s)
    |_=>none:=by
  intro x;cases x<;>simp only[eX,he,h1,h2]<;>first|rw[ez ⟨h3,h4,h5⟩]|skip
  ·rw[fN oz,iw];rfl
  ·rw[fN oz,iw];rfl
 unfold Nj;rw[top,<-fJ x];generalize x.norm B=q;split
 ·refine .bif λhc=>?_;have hc:=vd hc;simp only[TV.er];rw[ez ⟨trivial,by grind,λy hy=>by simp at hy⟩];split
  ·rename_i c V5;refine .nn λys DO hl=>iH rfl ?_;simp[fT,DO]
  ·refine iH rfl ?_;simp[fT]
 ·rename_i c xs;refine .bif λhc=>.nn λys DO hl=>.bZ λhm=>iH rfl ?_;simp only[TV.er,vn];rw[ez ⟨trivial,hm,uh hc⟩];simp[fT,DO,hl]
 ·rename_i id bq n;simp only[TV.er];split
  ·rename_i cq c xs m hm hg;refine .bif λhc=>.nn λys DO hl=>.Dx λhn=>.bZ λhm=>iH rfl ?_;simp only[eU]at hc;have e1:=jU hc.1.1;have e2:=jU hc.1.2;subst e1;subst e2;subst hn;subst hm;simp only[dl hg,iJ,fT,vn];simp_all[lS,sq]
  ·rename_i cq l hg;refine .bif λhc=>.Dx λhn=>iH rfl ?_;simp only[eU,Gg]at hc;have e1:=jU hc.1.1.1;have e2:=jU hc.1.1.2;subst e1;subst e2;subst hn;simp only[dl hg,iJ,fT,iw];simp_all[lS,eD,sq]
  ·rename_i cq c w cl pre lA post hg;split
   ·split
    ·refine .bif λhc=>.Dx λhn=>.bZ λhm=>iH rfl ?_;simp only[eU,Gg]at hc;have e1:=jU hc.1.1.1;have e2:=jU hc.1.1.2;subst e1;subst e2;subst hn;simp only[dl hg,iJ,fT,dY,iS,wV,LY];have hp:pre.length<=cO:=by omega
     rw[ez ⟨trivial,by rw[ug hp];omega,by have:=hc.2;unfold cO at hm this;unfold bc;omega⟩];simp_all[lS,sq,ug]
    ·exact .no
   ·exact .no
  ·exact .no
 ·rename_i id bq n;simp only[TV.er];split
  ·rename_i cq c xs _ _ hg;refine .bif λhc=>.nn λys DO hl=>.bZ λhn=>.bZ λhm=>iH rfl ?_;simp only[eU]at hc;have e1:=jU hc.1;subst e1;simp only[dl hg,iJ,fT,vn];rw[ez ⟨trivial,hn,hm⟩]
   grind [lS,List.map_take,List.map_drop]
  ·exact .no
 ·exact .no
theorem uj{c d:Nat}{x:List (B.S c)}{y:List (B.S d)}(h:Bm c d x=some y):y.map (B.E d)=x.map (B.E c)/\y.length=x.length:=by
 unfold Bm at h
 grind
theorem Er{t e sz:Nat}{x:TV B.S}(he:dy P t=some e)(ha:yM P e=some sz):ml B (IP B x s) (eX P t (x.er B.E) [] (db B s)):=by
 obtain⟨b,h1,h2,h3,h4,h5⟩:=ui ha;unfold IP;rw[<-fJ x];generalize hq:x.norm B=q;have key: ∀{y:AV},q.er B.E=y->(∃f l,y=.sl f l)\/(∃i a n,y=.ms i a n)->ml B (.ok x s) (eX P t y [] (db B s)):=by
  intro y hy hs;refine .ok ?_;rw[<-fJ x,hq,hy];rcases hs with⟨f,l,rfl⟩|⟨i,a,n,rfl⟩<;>simp only[eX,he,h1,h2,Ak]<;>rw[ez ⟨h3,h4,h5⟩]
 split
 ·exact key rfl (.inl ⟨_,_,rfl⟩)
 ·exact key rfl (.inr ⟨_,_,_,rfl⟩)
 ·exact key rfl (.inl ⟨_,_,rfl⟩)
 ·exact key rfl (.inl ⟨_,_,rfl⟩)
 ·exact key rfl (.inr ⟨_,_,_,rfl⟩)
 ·exact .no
theorem Nz{t e sz:Nat}{x:TV B.S}{c:Nat}{ys:List (B.S c)}(he:dy P t=some e)(ha:yM P e=some sz):ml B (Nk B P e sz x c ys s) (eX P t (x.er B.E) (ys.map (B.E c)) (db B s)):=by
 obtain⟨b,h1,h2,h3,h4,h5⟩:=ui ha;intro K hK;unfold Nk TR.wp at hK;cases hem:ys.isEmpty with
 |true=>
  rw[hem]at hK;simp only[cP]at hK;have hn:ys=[]:=by grind
  subst hn;exact Er he ha K hK
 |false=>
  rw[hem]at hK;simp only[dv]at hK;have fG:ys≠[]:=by grind
  have oz:ys.map (B.E c)≠[]:=λe=>fG (List.map_eq_nil_iff.1 e);have top: ∀x,eX P t x (ys.map (B.E c)) (db B s)=match x with
     |.sl full elems=>if full=true/\elems.length+ys.length<=bc/\fits P e elems then
       some (.ms s.bN 0 (elems.length+ys.length),⟨(s.bN,.cells sz (elems++ys.map (B.E c)))::(db B s).heap,s.bN+1⟩)else none
     |.ms id bq len=>match bn (db B s).heap id with
      |some (.cells cq elems)=>if cq=sz/\bq+len<=elems.length/\len+ys.length<=bc then
        some (.ms s.bN 0 (len+ys.length),⟨(s.bN,.cells sz ((elems.drop bq).take len++ys.map (B.E c)))::dZ (db B s).heap id,s.bN+1⟩)else none
      |_=>none
     |.mc id bq len cap=>eX P t (.mc id bq len cap) (ys.map (B.E c)) (db B s)
     |_=>none:=by
   intro x;cases x<;>simp only[eX,he,h1,h2]<;>first|rw[ez ⟨h3,h4,h5⟩]|skip
   ·rw[fN oz,vn];rfl
   ·rw[fN oz,vn];rfl
  rw[top,<-fJ x];generalize x.norm B=q at hK;have done: ∀{tr:TR B.S}{o:Option (AV×St)},ml B tr o->tr.wp K-> ∃v s',o=some (v.er B.E,db B s')/\K v s':=λh hk=>h K hk;refine done ?_ hK;split
  ·refine .bZ λhm=>iH rfl ?_;simp only[TV.er];rw[ez ⟨trivial,by grind,λy hy=>by simp at hy⟩];simp[fT]
  ·rename_i d xs;refine .bif λhc=>?_;split
   ·rename_i zs hz;obtain⟨z1,z2⟩:=uj hz;refine .bZ λhm=>iH rfl ?_;simp only[TV.er,vn];rw[ez ⟨trivial,by omega,uh hc⟩];simp[fT,z1,z2]
   ·exact .no
  ·rename_i id bq n;simp only[TV.er];split
   ·rename_i cq d xs m ve hg;refine .bif λhc=>?_;split
    ·rename_i zs hz;obtain⟨z1,z2⟩:=uj hz;refine .Dx λhn=>.bZ λhm=>iH rfl ?_;simp only[eU]at hc;have e1:=jU hc.1.1;have e2:=jU hc.1.2;subst e1;subst e2;subst hn;subst ve;simp only[dl hg,iJ,fT,vn];simp_all[lS,sq]
    ·exact .no
   ·exact .no
  ·rename_i id bq n;simp only[TV.er];split
   ·rename_i cq d xs _ _ hg;refine .bif λhc=>?_;split
    ·rename_i zs hz;obtain⟨z1,z2⟩:=uj hz;refine .bZ λhn=>.bZ λhm=>iH rfl ?_;simp only[eU]at hc;have e1:=jU hc.1;subst e1;simp only[dl hg,iJ,fT,vn];rw[ez ⟨trivial,hn,by omega⟩]
     grind [lS,List.map_take,List.map_drop]
    ·exact .no
   ·exact .no
  ·exact .no
theorem Bo{e:TypeId}{y:TV B.S}{k1:List (TV B.S)->TR B.S}{k2:(c:Nat)->List (B.S c)->TR B.S}{o:Option (AV×St)}{O:List AV->Option (AV×St)}
  (ho: ∀l,fk (y.er B.E) (db B s)=some l->jS P e (y.er B.E) (db B s)->o=O l)
  (h1: ∀cs,ml B (k1 cs) (O (dY B.E cs))) (h2: ∀c ys,ml B (k2 c ys) (O (ys.map (B.E c)))):ml B (CB B P e y s k1 k2) o:=by
 unfold CB;rw[<-fJ y]at ho;generalize y.norm B=q at ho;split
 ·rename_i f cs;refine .bif λhc=>?_;rw[ho _ rfl ?_]
  ·exact h1 cs
  ·intro z hz;cases cs with
   |nil=>simp[dY]at hz
   |cons x r=>
    simp[dY]at hz;grind [dA,gw]
 ·rw[ho _ rfl (λz hz=>by simp at hz)];exact h1 []
 ·rename_i f c ys;refine .bif λhc=>?_;rw[ho _ rfl (uh hc)];exact h2 c ys
 ·rename_i id bq n;simp only[TV.er,fk,jS]at ho;split
  ·rename_i cq c xs m hm hg;refine .bif λhc=>.Dx λhn=>?_;simp only[eU,dA]at hc;have e1:=jU hc.2;subst e1;subst hn;subst hm;rw[ho (xs.map (B.E c)) (by simp only[dl hg,iJ,fT];grind) (by simp only[dl hg,iJ,fT];exact hc.1)];exact h2 c xs
  ·rename_i cq l hg;refine .bif λhc=>.Dx λhn=>?_;simp only[eU,dA]at hc;have e1:=jU hc.2;subst e1;subst hn;rw[ho (dY B.E l) (by simp only[dl hg,iJ,fT];simp_all[iw,sq]) (by simp only[dl hg,iJ,fT];exact hc.1)];exact h1 l
  ·exact .no
 ·rename_i id bq n;simp only[TV.er,fk,jS]at ho;split
  ·rename_i cq c xs _ _ hg;refine .bif λhc=>.bZ λhn=>?_;rw[ho (((xs.drop bq).take n).map (B.E c)) (by simp only[dl hg,iJ,fT];simp_all) (by simp only[dl hg,iJ,fT];exact dA.1 hc)];exact h2 c _
  ·exact .no
 ·exact .no
def yQ(P:Program)(t u:TypeId)(x y:AV)(s:St):Option (AV×St):=match y with
 |.int _ n=>match dy P t with
  |some e=>match iT P e with
   |some z=>if 0<=n/\n<=bc/\(Au P u).isSome=true/\cK P e=some z.cells.length/\z.cells.all AV.cJ=true then eX P t x (List.replicate n.toNat z) s else none
   |none=>none
  |none=>none
 |y=>match dy P t,fk y s with
  |some e,some new=>if jS P e y s/\(dy P u).isSome=true then eX P t x new s else none
  |_,_=>none
theorem Hg{t u:TypeId}{x y:TV B.S}:ml B (CC B P t u x y s) (yQ P t u (x.er B.E) (y.er B.E) (db B s)):=by
 unfold CC;split
 case h_2=>exact .no
 rename_i e he;split
 case h_2=>exact .no
 rename_i sz ha;refine .bif λhu=>?_;have h0: ∀k n,y.er B.E=.int k n->(∀l,fk (y.er B.E) (db B s)≠some l):=λk n e l=>by rw[e];simp[fk]
 refine Bo (P:=P) (e:=e) (O:=λl=>eX P t (x.er B.E) l (db B s)) (λl hl hf=>?_) (λcs=>?_) (λc ys=>Nz he ha)
 ·generalize y.er B.E=v at hl hf h0;cases v<;>first|exact absurd hl (h0 _ _ rfl _)|(simp only[yQ,he,hl];rw[ez ⟨hf,hu⟩])
 ·cases cs with
  |nil=>exact Er he ha
  |cons a r=>grind [Ny]
theorem NA{t:TypeId}{lo co:Operand}{bf:dB B.S}:ml B (Np B P t lo co bf s) (match oper (eI B bf) lo,oper (eI B bf) co with
  |some l,some c=>xW P t l c (db B s)
  |_,_=>none):=by
 unfold Np;simp only[ee];split
 case h_2=>exact .no
 rename_i l c e hl hc he;split
 case h_2=>exact .no
 rename_i sn kn n sm km m hn hm;split
 case h_2=>exact .no
 rename_i sz z ha hz;refine .bif λhq=>.lB λh0=>?_;obtain⟨b,h1,h2,h3,h4,h5⟩:=ui ha;simp only[eU]at hq;have DM:=jU hq.1;simp only[hl,hc,iJ,nq hn,nq hm,xW,he,h1,h2,hz];have fin:n<=m->m<=(bc:Int)->ml B (match B.T e with
     |some c=>bif QH z then oD n.toNat (.rows sz c [] [] n.toNat) s.heap s.bN else Ha B c (.a z) λy=>oD (List.replicate n.toNat y).length (.lz sz c (List.replicate n.toNat y)) s.heap s.bN
     |none=>bif sn then oD n.toNat (.cu sz (List.replicate n.toNat (.a z))) s.heap s.bN else .no)
    (if 0<=n/\n<=m/\m<=bc/\0<sz/\z.cells.length=sz/\z.cells.all AV.cJ=true/\b<=4096 then some (.ms (db B s).bN 0 n.toNat,⟨((db B s).bN,.cells sz (List.replicate n.toNat z))::(db B s).heap,(db B s).bN+1⟩)else none):=by
  intro g1 g2;rw[ez ⟨h0,g1,g2,h3,DM,hq.2,h4⟩];split
  ·rename_i c hc;cases hz:QH z with
   |true=>
    simp only[cP];refine iH rfl ?_;have e:z=.sl true []:=by unfold QH at hz;split at hz;rfl;cases hz
    subst e;simp[fT,dY];first|done|rfl|exact⟨rfl,rfl⟩
   |false=>
    simp only[dv];refine .dec λy hy=>iH rfl ?_;simp only[fT,List.map_replicate,Wm,hy,TV.er];rfl
  ·refine .bif λ_=>iH rfl ?_;simp only[fT,eD,List.map_replicate,TV.er];rfl
 cases hs:sn&&sm with
 |true=>
  simp only[cP];refine .bif λhd=>?_;simp only[eU,BW]at hd;exact fin hd.1 hd.2
 |false=>
  simp only[dv];refine .kT (λhb=>?_) λg1=>.bZ λg2=>fin g1 g2;have:lo=co:=by
   cases lo<;>cases co<;>simp only[Nn]at hb<;>first|(cases hb;done)|rw[jU hb]
  subst this;rw[hl]at hc;cases hc;rw[hn]at hm;cases hm;exact Int.le_refl n
theorem yR{bL:Nat->Option (Nat×Nat)}: ∀{bW:List (Nat×TV B.S)}{cells l:List (TV B.S)},El B bL cells bW=some l->su bL (dY B.E cells) (bW.map λp=>(p.1,p.2.er B.E))=some (dY B.E l)
 | [],cells,l,h=>by cases h;rfl
 |(i,v)::r,cells,l,h=>by
  simp only[El]at h;simp only[Aj,su];split at h
  ·rename_i off n hp;simp only[hp];cases hq:Nat.beq (dQ B v).length n&&(dQ B v).all pO&&Nat.ble (off+n) cells.length with
   |false=>simp[hq]at h
   |true=>
    simp only[hq,cP]at h;simp only[eU,Gg]at hq;obtain⟨⟨h1,h2⟩,h3⟩:=hq;have h1:=jU h1;rw[gw]at h1;rw[ez ⟨h1,np h2,by rw[iw];exact h3⟩,<-gR,<-oF];exact yR h
  ·cases h
theorem rE{bf:dB B.S}: ∀{l:List (Nat×Operand)},mq (eI B bf) l=(sP bf l).map (λr=>r.map λp=>(p.1,p.2.er B.E))
 | []=>rfl
 |(i,x)::r=>by
  simp only[mq,sP,ee,rE (l:=r)];cases fp bf x with
  |none=>rfl
  |some v=>cases sP bf r<;>rfl
theorem KO{t:TypeId}{bW:List (Nat×TV B.S)}{v:TV B.S}(h:CD B P t bW=some v):xX P t (bW.map λp=>(p.1,p.2.er B.E))=some (v.er B.E):=by
 unfold CD at h;unfold xX;split at h
 case h_2=>cases h
 rename_i cs hz;simp only[hz];cases hs:xn P t with
 |true=>
  simp only[hs,cP]at h;rw[ez rfl];split at h
  ·rename_i l hl;cases h;have:=yR hl;rw[IU]at this;simp only[this];rfl
  ·cases h
 |false=>
  simp only[hs,dv]at h;rw[fN (by simp)];split at h
  ·rename_i m e ha;simp only[ha];split at h
   ·rename_i sz eB;simp only[eB];split at h
    ·rename_i l hl;cases h;have:=yR hl;rw[IU]at this;simp only[this];rfl
    ·cases h
   ·cases h
  ·cases h
theorem uk: ∀{l:List (Nat×TV B.S)}{i:Nat},rA l i=true->ow (l.map λp=>(p.1,p.2.er B.E)) i=true
 | [],_,_=>rfl
 |(j,x)::r,i,h=>by
  simp only[rA,eU]at h;simp only[Aj,ow,eU];exact⟨by simp[jU h.1],uk h.2⟩
theorem qF{t:TypeId}{len:Nat}{own:Bool}{bW:List (Nat×TV B.S)}:ml B (qE B P t len own bW s) (bif own then(match gG P t len (bW.map λp=>(p.1,p.2.er B.E)),dy P t with
   |some _,some e=>match cK P e with
    |some sz=>some (.ms s.bN 0 bW.length,⟨(s.bN,.cells sz ((bW.map λp=>(p.1,p.2.er B.E)).map (·.2)))::(db B s).heap,s.bN+1⟩)
    |none=>none
   |_,_=>none)else fC (gG P t len (bW.map λp=>(p.1,p.2.er B.E))) (db B s)):=by
 unfold qE;split
 case h_2=>exact .no
 rename_i e he;split
 case h_2=>exact .no
 rename_i sz z eB hz;refine .bif λhq=>?_;simp only[eU,Gg,tv]at hq;obtain⟨⟨⟨⟨⟨h1,h2⟩,h3⟩,h4⟩,h5⟩,h6⟩:=hq;have h1:=jU h1;have h6:=jU h6;have hb:gG P t len (bW.map λp=>(p.1,p.2.er B.E))=some (.sl true ((bW.map λp=>(p.1,p.2.er B.E)).map (·.2))):=by
  have jB: ∀p∈bW.map (λp=>(p.1,p.2.er B.E)),p.2.cells.length=sz/\p.2.cells.all AV.cJ=true:=λp hp=>by
   obtain⟨q,hq,rfl⟩:=mS.1 hp;have:=qc.1 h3 q hq;simp_all[gw,np]
  unfold gG;simp only[he,eB,hz];rw[ez ⟨by grind,uk h2,jB,h4,h5,h6⟩]
 have hm:(bW.map λp=>(p.1,p.2.er B.E)).map (·.2)=dY B.E (bW.map (·.2)):=by simp_all[eD]
 rw[hb];cases own with
 |true=>
  simp only[cP,he,eB];split
  ·rename_i c hc;refine .nn λys DO hl=>iH rfl ?_;simp only[fT,DO,hm,h1]
  ·refine iH rfl ?_;simp only[fT,hm,h1]
 |false=>
  simp only[dv];refine .ok ?_;simp only[fC,hm];cases LM:Nat.beq len 0 with
  |false=>rfl
  |true=>
   have e:=jU LM;rw[e]at h1;have:bW=[]:=Py h1;subst this;rfl
theorem QQ{op:BinOp}{k:IntKind}{sa sb:Bool}{x y:Int}:lg B (Uf B op k sa sb x y s) (wX op k x y) s:=by
 have q:(sb&&!(decide (y=0)))=true->y≠0:=λh=>by grind
 cases op<;>simp only[Uf]<;>first
  |(refine .ok ?_;simp only[vG,Hf,wX];done)
  |(refine .kT q λh=>.ok ?_;simp only[vG,wX];grind)
  |(refine .lB λh=>.ok ?_;simp only[vG,wX];grind)
  |exact .no
theorem QR{op:BinOp}{t:TypeId}{x y:TV B.S}:lg B (Ug B P op t x y s) (Av P op t (x.er B.E) (y.er B.E)) s:=by
 unfold Ug;split
 ·rename_i sa k a sb k' b hx hy;refine .bif λhq=>?_;rw[nq hx,nq hy];have:Av P op t (.int k a) (.int k' b)=wX op k a b:=by
   simp only[vm,BW]at hq;cases op<;>simp only[Av]<;>first
    |rfl
    |(rcases hq with hq|hq;cases hq;rw[ez hq])
  grind [QQ]
 ·split
  ·rename_i r hr;exact .ok (by rw[hr,Hf])
  ·exact .no
theorem Ul{op:UnOp}{x:TV B.S}:lg B (tUn B op x s) (aUn op (x.er B.E)) s:=by
 unfold tUn;split
 ·split
  ·rename_i st b hb;refine .ok ?_;rw[sQ hb,Hf];rfl
  ·exact .no
 ·split
  ·rename_i st k n hb;refine .ok ?_;rw[nq hb,vG];rfl
  ·exact .no
 ·exact .no
theorem Es{src dst:TypeId}{x:TV B.S}:lg B (yN B P src dst x s) (ou P src dst (x.er B.E)) s:=by
 unfold yN;split
 ·rename_i st k n hn;refine .bif λhq=>?_;rw[nq hn];split
  ·rename_i k' hk;refine .ok ?_;simp only[ou,hk,vG];grind
  ·exact .no
 ·rw[<-fJ x];split
  ·rename_i b hb;refine .bif λhq=>.ok ?_;simp only[eU]at hq;rw[hb];simp only[TV.er,ou];grind
  ·rename_i b hb;refine .bif λhq=>.ok ?_;simp only[eU]at hq;rw[hb];simp only[TV.er,ou];grind
  ·exact .no
theorem Et{f:Int->Int->Int}{g:AV->AV->Option AV}(hg: ∀k a b,g (.int k a) (.int k b)=some (.int k (f a b))): ∀{r:List (TV B.S)}{st Ao:Bool}{k k':IntKind}{a n:Int},IQ B f (st,k,a) r=some (Ao,k',n)->wg g (.int k a) (dY B.E r)=some (.int k' n)
 | [],st,Ao,k,k',a,n,h=>by cases h;rfl
 |y::r,st,Ao,k,k',a,n,h=>by
  simp only[IQ]at h;split at h
  ·rename_i s2 k2 b hb;cases hq:decide (k=k2)with
   |false=>grind
   |true=>
    simp only[hq,cP]at h;have e:=Wp hq;subst e;simp only[dY,nq hb,wg,hg];exact Et hg h
  ·cases h
theorem yS{f:Int->Int->Int}{g:AV->AV->Option AV}(hg: ∀k a b,g (.int k a) (.int k b)=some (.int k (f a b))){l:List (TV B.S)}:lg B (xu B f l s) (match dY B.E l with
  |x::r=>wg g x r
  | []=>none) s:=by
 unfold xu;split
 ·rename_i x r;split
  ·rename_i q hq;split
   ·rename_i st k n hn;obtain⟨s0,k0,a0⟩:=q;refine .ok ?_;simp only[dY,nq hq,Et hg hn,vG]
   ·exact .no
  ·exact .no
 ·exact .no
theorem Hh{c:Call}{bf:Env}{s:St}{x y:AV}{t u:TypeId}(hc:c.callee=.builtin .append)(hl:opers bf c.args.toList=some [x,y])(h0:c.argTypes[0]? =some t)(h1:c.argTypes[1]? =some u):gH P (.call c) bf s=yQ P t u x y s:=by
 simp only[gH,hc,hl,h0,h1];rfl
theorem NB{c:Call}{bf:Env}{s:St}{x y:AV}{t:TypeId}(hc:c.callee=.builtin .copy)(hl:opers bf c.args.toList=some [x,y])(h0:c.argTypes[0]? =some t):gH P (.call c) bf s=qy P t x y s:=by
 simp only[gH,hc,hl,h0];rfl
theorem NC{t:TypeId}{x y:TV B.S}:ml B (Nl B P t x y s) (qy P t (x.er B.E) (y.er B.E) (db B s)):=by
 unfold Nl;split
 case h_2=>exact .no
 rename_i e he;refine Bo (P:=P) (e:=e) (O:=λl=>pJ P t (x.er B.E) l (db B s)) (λl hl hf=>?_) (λcs=>.no) (λc ys=>?_)
 ·generalize y.er B.E=v at hl hf;cases v<;>first|(simp only[qy,he,hl];rw[ez hf])|(simp[fk]at hl)
 ·unfold pJ;rw[he,<-fJ x];generalize x.norm B=q;split
  case h_2=>exact .no
  rename_i id bq n;simp only[TV.er];split
  case h_2=>exact .no
  rename_i cq d xs _ _ hg;refine .bif λhc=>?_;split
  case h_2=>exact .no
  rename_i ys' hy;obtain⟨y1,y2⟩:=uj hy;refine .bZ λhn=>.ok ?_;simp only[dl hg,iJ,fT,vn];rw[ez ⟨dA.1 hc,hn⟩,rC hg rfl rfl,<-y2,<-y1];simp only[TV.er,fT,QG,F4,VM,L0,vn];rfl
theorem QS{b:Builtin}{c:Call}{bf:dB B.S}(hc:c.callee=.builtin b):ml B (Uh B P b c bf s) (gH P (.call c) (eI B bf) (db B s)):=by
 unfold Uh;split
 case h_2=>exact .no
 rename_i l hl;have Gb:opers (eI B bf) c.args.toList=some (dY B.E l):=by rw[lC,hl];rfl
 split
 ·split
  ·rename_i x t ht;simp only[gH,hc,Gb,dY,ht];exact QP.toS
  ·exact .no
 ·split
  ·rename_i x y t u ht hu;rw[Hh hc Gb ht hu];exact Hg
  ·exact .no
 ·split
  ·rename_i x y t ht;rw[NB hc Gb ht];exact NC
  ·exact .no
 ·simp only[gH,hc,Gb];have:=yS (s:=s) (f:=Ej) (g:=P3) (λk a b=>by simp[P3,Ej]) (l:=l);cases l with
  |nil=>exact .no
  |cons x r=>exact this.toS
 ·simp only[gH,hc,Gb];have:=yS (s:=s) (f:=jZ) (g:=P4) (λk a b=>by simp[P4,jZ]) (l:=l);cases l with
  |nil=>exact .no
  |cons x r=>exact this.toS
 ·exact .no
theorem nr{op:Op}{bf:dB B.S}(hc:fW op=none):ml B (top B P false op bf s) (gH P op (eI B bf) (db B s)):=by
 unfold top;split
 ·simp only[gH,ee];exact(lg.sx rfl).toS
 ·simp only[gH,ee];exact(lg.sx rfl).toS
 ·rename_i c a b;simp only[gH,ee];split
  case h_2=>exact .no
  rename_i v hv;split
  case h_2=>exact .no
  rename_i st t ht;simp only[hv,iJ,sQ ht];have key: ∀t:Bool,ml B (sx (bif t then fp bf a else fp bf b) s) (if t=true then fC ((fp bf a).map (TV.er B.E)) (db B s)else fC ((fp bf b).map (TV.er B.E)) (db B s)):=by
   intro t;cases t with
   |true=>exact(lg.sx rfl).toS
   |false=>exact(lg.sx rfl).toS
  cases st with
  |true=>exact key t
  |false=>exactλK hK=>key t K hK
 ·rename_i t;simp only[gH];split
  ·rename_i z hz;simp only[hz];exact IV
  ·rename_i VV;split
   ·grind [Nv]
   ·exact .no
 ·rename_i x;simp only[gH,ee];split
  ·grind [IV]
  ·exact .no
 ·rename_i t bW;simp only[gH,rE];split
  ·rename_i l hl;simp only[hl,iJ];refine(lg.Uk ?_).toS;cases hb:CD B P t l with
   |none=>grind
   |some v=>grind [KO]
  ·exact .no
 ·rename_i t len bW;simp only[gH,rE];split
  ·grind [qF]
  ·exact .no
 ·simp only[gH,ee];split
  ·rename_i v hv;simp only[hv,iJ];exact Eo.toS
  ·exact .no
 ·simp only[gH,ee];split
  ·rename_i v hv;split
   ·grind [KK]
   ·exact .no
  ·exact .no
 ·simp only[gH,ee];split
  ·rename_i v hv;simp only[hv,iJ];rw[<-fJ v];split
   ·rename_i hq;rw[hq];exact .ok rfl
   ·rename_i hq;rw[hq];exact .ok rfl
   ·rename_i hq;rw[hq];exact .ok rfl
   ·rename_i hq;rw[hq];exact .ok rfl
   ·exact .no
  ·exact .no
 ·simp only[gH,ee];split
  ·rename_i v hv;split
   ·rename_i x hx;simp only[hv,hx,iJ];exact QR.toS
   ·exact .no
  ·exact .no
 ·simp only[gH,ee];split
  ·rename_i v hv;simp only[hv,iJ];exact Ul.toS
  ·exact .no
 ·simp only[gH,ee];split
  ·rename_i v hv;simp only[hv,iJ];exact Es.toS
  ·exact .no
 ·rename_i f first fi
  refine .bif λhq=>?_;simp only[gH,lC];rw[ez (jU hq)];split
  ·rename_i l hl;simp only[hl,iJ];exact .ok rfl
  ·exact .no
 ·simp only[gH,ee];split
  ·rename_i v hv;simp only[hv,iJ];exact KN.toS
  ·exact .no
 ·simp only[gH,ee];split
  ·rename_i v hv;simp only[hv,iJ];exact(lg.Uk KL).toS
  ·exact .no
 ·simp only[gH,ee];split
  ·rename_i v hv;simp only[hv,iJ];exact(lg.Uk He).toS
  ·exact .no
 ·simp only[gH,ee];split
  ·rename_i v hv;split
   ·rename_i x hx;simp only[hv,hx,iJ];exact Nw.toS
   ·exact .no
  ·exact .no
 ·simp only[gH,ee];split
  ·rename_i v hv;split
   ·rename_i x hx;simp only[hv,hx,iJ];exact KM.toS
   ·exact .no
  ·exact .no
 ·simp only[gH,ee];split
  ·rename_i v hv;simp only[hv,iJ];rw[<-fJ v];split
   ·rename_i vs hq;rw[hq];simp only[TV.er];refine(lg.sx ?_).toS;rw[xx]
   ·exact .no
  ·exact .no
 ·simp only[gH];exact NA
 ·split
  ·grind [QS]
  ·exact .no
 ·exact .no
end
end Go.Am
