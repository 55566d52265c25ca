/- The logic AM, B: soundness of the other operations. -/
import Derived.Test.YtfdnjgoegamonaaGreatDoorAmA
import Derived.Laws.AppendOwn
import Derived.Laws.StructEq
set_option linter.all false
section
namespace Go.Am
open Go.RowKit
section
variable {P:Program} {G:cx} {s s':St} {w:World} {bX:Env} {a:Act}
def Src(P:Program)(w:World)(u e:TypeId)(xv:Value)(size n:Nat)(news:Array Value):Prop:=
 ((∃d,P.underlying u=some (.slice d))/\(∀w',(Builtin.lenOf xv).run P w'=.ok n w')/\ ∀w',(∀a,w'.cell? a=w.cell? a)->(Builtin.firstCells size n xv).run P w'=.ok news w')\/
 (∃k k' m,P.underlying u=some (.int k)/\xv=.int k' m/\0<=m/\m<=(bQ:Int)/\n=m.toNat/\ ∃z,(∀w',(zeroValue e).run P w'=.ok z w')/\news=if n*size=0 then #[]else Builtin.zeroCells z.cells n)
theorem pJ{m:Int}(h0:0<=m)(h1:m<=(bQ:Int)):IntKind.i64.wrap m=m:=by
 unfold bQ at h1;simp only[IntKind.wrap,IntKind.bits,IntKind.signed];have:m%(2^64:Int)=m:=Int.emod_eq_of_lt h0 (by omega);simp only[this,U9,AE];rw[dY (by omega)]
theorem sN{t u e size Gx n:Nat}{xv:Value}{news:Array Value}(ht:P.underlying t=some (.slice e))(eG:dF P e=some size)(LM:pD P e=some Gx)(hb:Gx<=4096)
  (qz:Src P w u e xv size n news) {ad:Addr} {sLen sCap ty:Nat} (qf:sLen+n<=sCap) {w':World} (iA:(storeCells (ad.add (sLen*size)) news.toList).run P w=.ok () w'):
  (Builtin.append_ #[t,u] ty #[.slice (some ad) sLen sCap,xv]).run P w=.ok (.slice (some ad) (sLen+n) sCap) w':=by
 obtain⟨i,hi,rfl⟩:=nh eG;obtain⟨i',Ct,rfl⟩:=qw LM;rw[hi]at Ct;cases Ct;rcases qz with⟨⟨d,hu⟩,h1,h2⟩|⟨k,k',m,hu,rfl,h0,h1,rfl,z,hz,rfl⟩
 ·simp[Builtin.append_,run_underlying ht,run_underlying hu,sizeOf,iz hi,h1,qf,h2 w (λ_=>rfl),iA]
 ·have h2: ¬(m<0):=by omega
  have h3: ¬(281474976710656<m*(i.bytes:Int)):=by
   have h6:m*(i.bytes:Int)<=m*4096:=Int.mul_le_mul_of_nonneg_left (by omega) h0;unfold bQ at h1;omega
  by_cases hn:m.toNat*i.size=0
  ·rw[dP hn]at iA;simp[Builtin.append_,run_underlying ht,run_underlying hu,sizeOf,iz hi,asInt,asIntOf,pJ h0 h1,h2,h3,qf,iA];exactλh=>absurd hn h
  ·rw[dY hn]at iA;simp[Builtin.append_,run_underlying ht,run_underlying hu,sizeOf,iz hi,asInt,asIntOf,pJ h0 h1,h2,h3,qf,hz,iA];exactλh=>absurd h hn
theorem yw{t u e size Gx n:Nat}{xv:Value}{news AW:Array Value}(ht:P.underlying t=some (.slice e))(eG:dF P e=some size)(LM:pD P e=some Gx)(hb:Gx<=4096)
  (qz:Src P w u e xv size n news) {cn:Option Addr} {sLen sCap ty:Nat} (qf:sCap<sLen+n) (xh:sLen+n<=bQ) {z:Value} (hz: ∀w',(zeroValue e).run P w'=.ok z w')
  (hold: ∀w',(∀a,w'.cell? a=w.cell? a)->(Builtin.firstCells size sLen (.slice cn sLen sCap)).run P w'=.ok AW w'):
  (Builtin.append_ #[t,u] ty #[.slice cn sLen sCap,xv]).run P w=
   .ok (.slice (some ⟨w.heap.size,0,none⟩) (sLen+n) (grownCap w (sLen+n) sCap e))
    (w.drew.alloc (.cells (AW++news++Builtin.zeroCells z.cells (grownCap w (sLen+n) sCap e-(sLen+n))) e)):=by
 obtain⟨i,hi,rfl⟩:=nh eG;obtain⟨i',Ct,rfl⟩:=qw LM;rw[hi]at Ct;cases Ct;have hn: ¬(sLen+n<=sCap):=by omega
 have We:=xh;unfold bQ at We;have SI: ¬(9223372036854775807<((sLen:Int)+(n:Int))):=by omega
 have pH:Builtin.nextslicecap (sLen+n) sCap*i.bytes<=281474976710656:=growslice_fits qf (by
  have:(sLen+n)*i.bytes<=(sLen+n)*4096:=ZG _ hb;omega)
 have SJ: ¬(281474976710656<Builtin.nextslicecap (sLen+n) sCap*i.bytes):=by omega
 have LN:=hold w.drew (λ_=>rfl);rcases qz with⟨⟨d,hu⟩,h1,h2⟩|⟨k,k',m,hu,rfl,Cu,h1,rfl,z',Ge,rfl⟩
 ·have h2':=h2 w.drew (λ_=>rfl);simp[Builtin.append_,run_underlying ht,run_underlying hu,sizeOf,iz hi,h1,hn,SI,SJ,Question.forced,LN,h2',hz,newRow,grownCap]
 ·have h2: ¬(m<0):=by omega
  have h3: ¬(281474976710656<m*(i.bytes:Int)):=by
   have h6:m*(i.bytes:Int)<=m*4096:=Int.mul_le_mul_of_nonneg_left (by omega) Cu;unfold bQ at h1;omega
  have hc:((sLen:Int)+(m.toNat:Int))=sLen+m:=by omega
  have Vk:z'=z:=by have q:=hz w;rw[Ge w]at q;cases q;rfl
  subst Vk;have Pd:max m 0=m:=by omega
  by_cases hn:m.toNat*i.size=0
  ·have mU:m.toNat=0\/i.size=0:=Yp.1 hn;have aaa:m<=0\/i.size=0:=by omega
   simp only[hc]at SI;simp[Builtin.append_,run_underlying ht,run_underlying hu,sizeOf,iz hi,asInt,asIntOf,pJ Cu h1,h2,h3, *,SJ,Question.forced,LN,hz,newRow,grownCap]
  ·have mU: ¬(m.toNat=0\/i.size=0):=λh=>hn (Yp.2 h);have aaa: ¬(m<=0\/i.size=0):=by omega
   simp only[hc]at SI;simp[Builtin.append_,run_underlying ht,run_underlying hu,sizeOf,iz hi,asInt,asIntOf,pJ Cu h1,h2,h3, *,SJ,Question.forced,LN,hz,Ge,newRow,grownCap]
theorem xi{t u e size Gx:Nat}{xv:Value}(ht:P.underlying t=some (.slice e))(eG:dF P e=some size)(LM:pD P e=some Gx)
  (qz:Src P w u e xv size 0 #[]) {ty:Nat}:(Builtin.append_ #[t,u] ty #[.slice none 0 0,xv]).run P w=.ok (.slice none 0 0) w:=by
 obtain⟨i,hi,rfl⟩:=nh eG;rcases qz with⟨⟨d,hu⟩,h1,h2⟩|⟨k,k',m,hu,rfl,h0,h1,hm,z,hz,Ei⟩
 ·simp[Builtin.append_,run_underlying ht,run_underlying hu,sizeOf,iz hi,h1,h2 w (λ_=>rfl)]
 ·have oG:m=0:=by omega
  subst oG;have hw0:IntKind.i64.wrap 0=0:=pJ (by omega) (by unfold bQ;omega);simp[Builtin.append_,run_underlying ht,run_underlying hu,sizeOf,iz hi,asInt,asIntOf,hw0]
theorem GF{e sz:Nat}(h:vw P e sz=true): ∃z,(∀w',(zeroValue e).run P w'=.ok z w')/\z.cells.size=sz:=by
 unfold vw at h;split at h
 ·rename_i x hx;simp only[fE,beq_iff_eq]at h;unfold jK at hx;cases hi:P.info? e with
  |none=>simp[hi]at hx
  |some i=>
   cases hz:i.zero with
   |none=>simp[hi,hz]at hx
   |some v=>
    simp[hi,hz]at hx;have hv:V ⟨λ_ _=>none,λ_=>none⟩ x v:=rC hx;exact⟨v,λw'=>by simp[zeroValue,iz hi,hz],by rw[<-(VL.cells hv (nK h.2)).1,h.1]⟩
 ·cases h
theorem yx(hs:eQ G s w){t u ty e:Nat}{x z:AV}{xv yv:Value}(hx:V G x xv){new:List AV}{news:Array Value}(he:eH P t=some e)
  (qz: ∀sz,dF P e=some sz->(∀y∈new,y.cells.length=sz)/\Src P w u e yv sz new.length news) (jH: ∀y∈dB new,y.dn=true) (Ei:VL G (dB new) news)
  (h:gr P t x new s=some (z,s')):tS P G s w (Builtin.append_ #[t,u] ty #[xv,yv]) z s':=by
 unfold gr at h;rw[he]at h;simp only at h;split at h
 case h_2=>cases h
 rename_i sz Gx eG LM;split at h
 case isFalse=>cases h
 rename_i hc;obtain⟨h0,hb,hz⟩:=hc;obtain⟨SK,qz⟩:=qz sz eG;obtain⟨zv,Wf,PJ⟩:=GF hz;have ht:=fO he;have Ll:news.size=new.length*sz:=by rw[<-Ei.1,dO SK]
 have nothing:new=[]-> ∀{cn:Option Addr}{sLen sCap:Nat},xv=.slice cn sLen sCap->sLen<=sCap->(cn=none->sCap=0)->(Builtin.append_ #[t,u] ty #[xv,yv]).run P w=.ok xv w:=by
  intro hn cn sLen sCap Wg eP LO;subst hn;subst Wg;have eU:news= #[]:=by
   apply Sx;simpa using Ll
  subst eU;cases cn with
  |none=>
   have:=LO rfl;subst this;obtain rfl:sLen=0:=by omega
   exact xi ht eG LM qz
  |some ad=>exact sN ht eG LM hb qz (by simpa using eP) (by simp[storeCells])
 have grow: ∀{cn:Option Addr}{sLen sCap:Nat}{AW:Array Value}{qq:List AV},sCap<sLen+new.length->sLen+new.length<=bQ->qq.length=sLen->(∀y∈qq,y.cells.length=sz)->(∀y∈dB qq,y.dn=true)->
   VL G (dB qq) AW->(∀w',(∀a,w'.cell? a=w.cell? a)->(Builtin.firstCells sz sLen (.slice cn sLen sCap)).run P w'=.ok AW w')->
   ∃v w',(Builtin.append_ #[t,u] ty #[.slice cn sLen sCap,yv]).run P w=.ok v w'/\ ∃G',V G' (.ms s.cr 0 (sLen+new.length)) v/\
    eQ G' ⟨(s.cr,.cells sz (qq++new))::s.heap,s.cr+1⟩ w'/\Ext G s w G' ⟨(s.cr,.cells sz (qq++new))::s.heap,s.cr+1⟩ w':=by
  intro cn sLen sCap AW qq qf xh Gf Wh aab holds fM;have Ip:=yw (w:=w) (ty:=ty) ht eG LM hb qz qf xh Wf fM;have Rj:=holds.append Ei;have JS:=grownCap_ge w (sLen+new.length) sCap e;generalize grownCap w (sLen+new.length) sCap e=nc at Ip JS;have s8:(AW++news++Builtin.zeroCells zv.cells (nc-(sLen+new.length))).size=nc*sz:=by
   have h1:AW.size=sLen*sz:=by rw[<-holds.1,dO Wh,Gf]
   simp only[Array.size_append,size_zeroCells,PJ,h1,Ll];rw[<-vm,<-vm];congr 1;omega
  obtain⟨q1,q2⟩:=hs.drew.put (o:=.cells (AW++news++Builtin.zeroCells zv.cells (nc-(sLen+new.length))) e) (blk:=.cells sz (qq++new)) (r:=⟨w.heap.size,0,sz,nc*sz⟩) rfl
   (.cells _ _ _ _ s8 rfl h0 (λy hy=>by
     rcases lT.1 hy with hy|hy
     · exact Wh y hy
     · exact SK y hy) (λy hy=>by
     rw[dN]at hy;rcases lT.1 hy with hy|hy
     · exact aab y hy
     · exact jH y hy) (by simp only[Cd,lu,Gf];exact AM _ JS) λk y hy=>by
     rw[dN]at hy;obtain⟨v,e1,e2⟩:=Rj.get hy;refine⟨v,?_,e2.mono (.put (hs.cE _ (eD _)))⟩;have gl:k<(AW++news).size:=(Rc.1 e1).1;rw[Cd,Yn gl];exact e1)
  refine⟨_,_,Ip,_,?_,q1,(Ext.drew G s w).trans hs q2⟩;exact .ms s.cr 0 _ _ ⟨w.heap.size,0,sz,nc*sz⟩ 0 (by simp[cx.put]) JS (by simp) (λ_=>by simp)
 split at h
 ·rename_i full elems;obtain⟨cn,cap,rfl,eP,kc,LO,Vk⟩:=V.qy hx;split at h
  ·rename_i hn;cases h;exact ec hs (nothing hn rfl eP LO) hx
  ·rename_i hn;split at h
   case isFalse=>cases h
   rename_i hc;obtain⟨rfl,xh,pH⟩:=hc;cases h;have vz:0<new.length:=Pu.2 hn;obtain⟨f1,f2,f3,f4⟩:=fV (P:=P) (e:=e) hs hx (l:=elems) rfl eG pH;obtain⟨vs,g1,g2⟩:=f4 elems.length (eD _);rw[AN]at g2;obtain⟨v,w',e1,G',e2,e3,e4⟩:=grow (sCap:=cap) (by rw[kc rfl];omega) xh rfl f1 f2 g2 g1;exact⟨v,G',w',e1,e2,e3,e4⟩
 ·rename_i id b9 len;have PK:=hx;cases hx with
  |ia _ _ cap cn hc=>
   subst hc;split at h
   ·rename_i hn;cases h;exact ec hs (nothing hn rfl (eD _) (λ_=>rfl)) (.ia _ _ _ _ rfl)
   ·rename_i hn;split at h
    case h_2=>cases h
    rename_i cN elems hg;split at h
    case isFalse=>cases h
    rename_i hc;obtain⟨rfl,dJ,xh⟩:=hc;cases h;have vz:0<new.length:=Pu.2 hn;have LP:gh (.ms id b9 0) s=some ((elems.drop b9).take 0):=by simp[gh,hg];simpa using dJ
    obtain⟨f1,f2,f3,f4⟩:=fV (P:=P) (e:=e) hs PK LP eG (by simp[lx,hg,eG]);obtain⟨vs,g1,g2⟩:=f4 0 (by omega);rw[tP (by simp)]at g2;obtain⟨v,w',e1,G',Vj,e3,e4⟩:=grow (cn:=cn) (sCap:=0) (by omega) xh (by simp) f1 f2 g2 g1;have pK: ∀i b,bJ ((s.cr,gU.cells cN ((elems.drop b9).take 0++new))::eN s.heap id) i=some b->bJ ((s.cr,gU.cells cN ((elems.drop b9).take 0++new))::s.heap) i=some b:=λi b hi=>by
     simp only[di,cZ]at hi |-
     split at hi
     · rename_i hq;rw[dP hq];exact hi
     · rename_i hq;rw[dY hq];rw[fU]at hi;split at hi
       ·cases hi
       ·exact hi
    refine⟨v,G',w',e1,Vj,e3.drop pK (eD _),e4.trans hs (Ext.drop pK (eD _) λi hi=>?_)⟩;simp only[di,cZ]at hi |-
    split at hi
    ·cases hi
    ·rename_i hq;rw[dY hq,fU,dY (λe=>by subst e;rw[hg]at hi;cases hi)];exact hi
  |ms _ _ _ cap r addr ho eP fB gY=>
   split at h
   ·rename_i hn;cases h;exact ec hs (nothing hn rfl eP (λe=>by cases e)) (.ms _ _ _ cap r addr ho eP fB gY)
   ·rename_i hn;split at h
    case h_2=>cases h
    rename_i cN elems hg;split at h
    case isFalse=>cases h
    rename_i hc;obtain⟨rfl,dJ,xh⟩:=hc;cases h;have vz:0<new.length:=Pu.2 hn;obtain⟨o,e2,e3⟩:=hs.at hg ho;cases e3 with
    |cells _ _ cs te s8 eE h0' ja PL Ef hV=>
     subst eE;have LP:gh (.ms id b9 len) s=some ((elems.drop b9).take len):=by simp[gh,hg,dJ]
     obtain⟨f1,f2,f3,f4⟩:=fV (P:=P) (e:=e) hs PK LP eG (by simp[lx,hg,eG]);have Gf:((elems.drop b9).take len).length=len:=by simp;omega
     by_cases qf:len+new.length<=cap
     ·
       have Wi:=gY (by omega);subst Wi;have aac:b9*r.cN+len*r.cN+new.length*r.cN<=(b9+cap)*r.cN:=by
        rw[<-vm,<-vm];exact AM _ (by omega)
       have pH:r.cn+b9*r.cN+len*r.cN+news.toList.length<=cs.size:=by
        simp only[F8];rw[Ll,s8];omega
       have fM:=run_storeCells_at P r.block (r.cn+b9*r.cN+len*r.cN) te news.toList 0 cs w e2 (by simpa using pH) (Ei.ug jH);simp only[DO]at fM;have hA:=sN (w:=w) (ty:=ty) (ad:=⟨r.block,r.cn+b9*r.cN,none⟩) (sLen:=len) (sCap:=cap) ht eG LM hb qz qf (by rw[nW];exact fM);have pI:(dB ((elems.drop b9).take len)).length=len*r.cN:=by rw[dO f1,Gf]
       obtain⟨q1,q2⟩:=eQ.move (w':=w.setRow r.block (cs.toList.take (r.cn+b9*r.cN+len*r.cN)++news.toList++cs.toList.drop (r.cn+b9*r.cN+len*r.cN+news.toList.length)).toArray)
        (sX:=.cells r.cN ((elems.drop b9).take len++new)) (r':=⟨r.block,r.cn+b9*r.cN,r.cN,r.size⟩) hs hg ho rfl (by simp[World.setRow]) rfl rfl rfl
        (λb hb=>setRow_other w _ _ _ hb) (setRow_heap w _ cs _ te _ e2)
        (.cells _ _ _ _ (by simp only[VV,lu,F7,U8,F8]at pH |-;omega) rfl h0 (λy hy=>by
          rcases lT.1 hy with hy|hy
          ·exact f1 y hy
          ·exact SK y hy) (λy hy=>by
          rw[dN]at hy;rcases lT.1 hy with hy|hy
          ·exact f2 y hy
          ·exact jH y hy) (by rw[lu,Gf,vm];show r.cn+b9*r.cN+_<=r.size;omega) λk y hy=>by
          have Wj:sJ G (G.put s.cr ⟨r.block,r.cn+b9*r.cN,r.cN,r.size⟩):=.put (hs.cE _ (eD _));show∃v,_[r.cn+b9*r.cN+k]? =some v/\_;rw[dN]at hy;rw[lN _ _ _ _ pH];by_cases hk:k<len*r.cN
          ·rw[dP (by omega)];rw[nD (by omega)]at hy;have Ee:(dB (((elems.take (b9+len))).drop b9))[k]? =some y:=by
            rw[show(elems.take (b9+len)).drop b9=(elems.drop b9).take len from by rw[List.drop_take];congr 1;omega];exact hy
           have ky:=iP (n:=b9+len) ja h0 Ee;obtain⟨v,q1,q2⟩:=hV _ y ky;exact⟨v,by rw[DP];exact q1,q2.mono Wj⟩
          ·rw[dY (by omega)];rw[qb (by omega),pI]at hy;obtain⟨v,q1,q2⟩:=Ei.get hy;have gl:k-len*r.cN<news.size:=(Rc.1 q1).1;rw[dP (by simp only[F8];omega)];refine⟨v,?_,q2.mono Wj⟩;rw[show r.cn+b9*r.cN+k-(r.cn+b9*r.cN+len*r.cN)=k-len*r.cN from by omega];simpa using q1) (by simp)
       refine⟨_,_,_,hA,?_,q1,q2⟩;exact .ms s.cr 0 _ cap ⟨r.block,r.cn+b9*r.cN,r.cN,r.size⟩ _ (by simp[cx.put]) qf
        (by show r.cn+b9*r.cN+(0+cap)*r.cN<=r.size;rw[Cd,DP,<-vm];exact fB) (λ_=>by simp)
     ·
       obtain⟨vs,g1,g2⟩:=f4 len (by omega);rw[tP (by omega)]at g2;obtain⟨v,w',e1,G',Vj,e3,e4⟩:=grow (cn:=some ⟨r.block,addr,none⟩) (sCap:=cap) (by omega) xh Gf f1 f2 g2 g1;have pK: ∀i b,bJ ((s.cr,gU.cells r.cN ((elems.drop b9).take len++new))::eN s.heap id) i=some b->bJ ((s.cr,gU.cells r.cN ((elems.drop b9).take len++new))::s.heap) i=some b:=λi b hi=>by
        simp only[di,cZ]at hi |-
        split at hi
        ·rename_i hq;rw[dP hq];exact hi
        ·rename_i hq;rw[dY hq];rw[fU]at hi;split at hi
         ·cases hi
         ·exact hi
       refine⟨v,G',w',e1,Vj,e3.drop pK (eD _),e4.trans hs (Ext.drop pK (eD _) λi hi=>?_)⟩;simp only[di,cZ]at hi |-
       split at hi
       ·cases hi
       ·rename_i hq;rw[dY hq,fU,dY (λe=>by subst e;rw[hg]at hi;cases hi)];exact hi
 ·rename_i id b9 len cap;split at h
  case h_2=>cases h
  rename_i cN elems hg;split at h
  case isFalse=>cases h
  rename_i hc;obtain⟨hn,rfl,dJ,qf,xh⟩:=hc;cases h;have LP:gh (.ms id b9 len) s=some ((elems.drop b9).take len):=by simp[gh,hg,dJ]
  have Gf:((elems.drop b9).take len).length=len:=by simp;omega
  have fin: ∀{cn:Option Addr},V G (.ms id b9 len) (.slice cn len cap)->xv=.slice cn len cap->tS P G s w (Builtin.append_ #[t,u] ty #[xv,yv]) (.ms s.cr 0 (len+new.length)) ⟨(s.cr,.cells cN ((elems.drop b9).take len++new))::s.heap,s.cr+1⟩:=by
   intro cn PK Wg;subst Wg;obtain⟨f1,f2,f3,f4⟩:=fV (P:=P) (e:=e) hs PK LP eG (by simp[lx,hg,eG]);obtain⟨vs,g1,g2⟩:=f4 len (by omega);rw[tP (by omega)]at g2;obtain⟨v,w',e1,G',Vj,e3,e4⟩:=grow (cn:=cn) (sCap:=cap) qf xh Gf f1 f2 g2 g1;exact⟨v,G',w',e1,Vj,e3,e4⟩
  cases hx with
  |nI _ _ cn=>exact fin (.ia _ _ _ _ rfl) rfl
  |mc _ _ _ _ r addr ho eP fB gY=>exact fin (.ms _ _ _ _ r addr ho eP fB gY) rfl
 ·cases h
end
end Go.Am
end
section
namespace Go.Am
open Go.RowKit
section
variable {P:Program} {G:cx} {s s':St} {w:World} {bX:Env} {a:Act}
theorem Bs(hs:eQ G s w){t u ty e:Nat}{yv:Value}{y:AV}(hy:V G y yv){new:List AV}(he:eH P t=some e)(ja:gh y s=some new)(hf:lx P e y s)
  {id b9 len cap cN addr:Nat} {elems:List AV} {r:ua} (hg:bJ s.heap id=some (.cells cN elems)) (eG:dF P e=some cN) (LQ:b9<=elems.length)
  (ho:G.own id=some r) (eP:len<=cap) (fB:r.cn+(b9+cap)*r.cN<=r.size) (gY:0<cap->addr=r.cn+b9*r.cN):
  tS P G s w (Builtin.copy_ #[t,u] ty #[.slice (some ⟨r.block,addr,none⟩) len cap,yv]) (.int .i64 (min new.length len:Nat)) ⟨eF s.heap id (.cells cN (elems.take b9++(new.take (min new.length len)++elems.drop (b9+min new.length len)))),s.cr⟩:=by
 have ht:=fO he;obtain⟨o,e2,e3⟩:=hs.at hg ho;cases e3 with
 |cells _ _ cs te s8 eE h0 yy PL Ef hV=>
  subst eE;obtain⟨f1,f2,f3,f4⟩:=fV (P:=P) hs hy ja eG hf;have Wl:Nat.min new.length len<=new.length:=Nat.min_le_left _ _;obtain⟨vs,g1,g2⟩:=f4 (Nat.min new.length len) Wl;have SM:Nat.min new.length len<=len:=Nat.min_le_right _ _;have aad:min new.length len=Nat.min new.length len:=rfl;have Rk:(new.take (Nat.min new.length len)).length=Nat.min new.length len:=by rw[F7];exact O1 Wl
  have pI: ∀y∈new.take (Nat.min new.length len),y.cells.length=r.cN:=λy hy=>f1 y (xA hy);have DS:vs.size=Nat.min new.length len*r.cN:=by rw[<-g2.1,dO pI,Rk]
  have LR: ∀y∈dB (new.take (Nat.min new.length len)),y.dn=true:=λy hy=>f2 y (by
   rw[dB,tK]at hy |-
   obtain⟨q,hq,hy⟩:=hy;exact⟨q,xA hq,hy⟩)
  rw[aad];generalize hn:Nat.min new.length len=n at *;by_cases SG:n=0
  ·subst SG;have:vs= #[]:=Sx (by simpa using DS);subst this;have hid:elems.take b9++(new.take 0++elems.drop (b9+0))=elems:=by simp
   rw[hid];have fF: ∀i b,bJ (eF s.heap id (.cells r.cN elems)) i=some b->bJ s.heap i=some b:=λi b hi=>by
    rw[ff]at hi;split at hi
    ·rename_i hq;subst hq;rw[hg];exact hi
    ·exact hi
   refine⟨_,G,w,?_,V.int .i64 ((0:Nat):Int),hs.drop fF (eD _),Ext.drop fF (eD _) λi hi=>?_⟩
   ·simp[Builtin.copy_,run_underlying ht,f3,eI eG,hn,g1 w (λ_=>rfl),storeCells,goInt]
   ·rw[ff];split
    ·rename_i hq;subst hq;rw[hg]at hi;exact hi
    ·exact hi
  ·have Wi:=gY (by omega);subst Wi;have pH:r.cn+b9*r.cN+vs.toList.length<=cs.size:=by
    simp only[F8];rw[DS,s8,DP,<-vm];exact xz (Sv (AM _ (by omega)) _) fB
   have fM:=run_storeCells_at P r.block (r.cn+b9*r.cN) te vs.toList 0 cs w e2 (by simpa using pH) (g2.ug LR);simp only[DO]at fM;have JX: ∀y∈elems.take b9++(new.take n++elems.drop (b9+n)),y.cells.length=r.cN:=λy hy=>by
    simp only[lT]at hy;rcases hy with hy|hy|hy
    ·exact yy y (xA hy)
    ·exact pI y hy
    ·exact yy y (D4 hy)
   have hfs:(dB (elems.take b9)).length=b9*r.cN:=by
    rw[dO (cN:=r.cN) λy hy=>yy y (xA hy)];congr 1;simp;omega
   have LS:(dB (new.take n)).length=n*r.cN:=by rw[dO pI,Rk]
   obtain⟨q1,q2⟩:=yu hs hg ho e2 (elems':=elems.take b9++(new.take n++elems.drop (b9+n))) (cs':=(cs.toList.take (r.cn+b9*r.cN)++vs.toList++cs.toList.drop (r.cn+b9*r.cN+vs.toList.length)).toArray)
    (by simp only[VV,lu,F7,U8,F8]at pH |-;omega) rfl h0 JX (λy hy=>by
     rw[dN,dN]at hy;simp only[lT]at hy;have q: ∀(l:List AV),(∀z∈l,z∈elems)-> ∀y∈dB l,y.dn=true:=λl hl y hy=>PL y (by
      rw[dB,tK]at hy |-
      obtain⟨z,hz,hy⟩:=hy;exact⟨z,hl z hz,hy⟩)
     rcases hy with hy|hy|hy
     ·exact q _ (λz hz=>xA hz) y hy
     ·exact LR y hy
     ·exact q _ (λz hz=>D4 hz) y hy)
    (by
     have q:(elems.take b9++(new.take n++elems.drop (b9+n))).length=max elems.length (b9+n):=by simp[Rk];omega
     rw[q];rcases Nat.le_total elems.length (b9+n)with c|c
     ·rw[Nat.max_eq_right c];exact xz (Sv (AM _ (by omega)) _) fB
     ·rw[Nat.max_eq_left c];exact Ef) λk y hk=>by
     rw[dN,dN]at hk;rw[lN _ _ _ _ pH];by_cases c1:k<b9*r.cN
     ·rw[dP (by omega)];rw[nD (by omega)]at hk;have ky:=iP (n:=b9) (l:=0) yy h0 (k:=k) (x:=y) (by simpa using hk);simpa using hV _ y (by simpa using ky)
     ·rw[dY (by omega)];rw[qb (by omega),hfs]at hk;by_cases c2:k<b9*r.cN+n*r.cN
      ·rw[dP (by simp only[F8];omega)];rw[nD (by omega)]at hk;obtain⟨v,p1,p2⟩:=g2.get hk;refine⟨v,?_,p2⟩;rw[show r.cn+k-(r.cn+b9*r.cN)=k-b9*r.cN from by omega];simpa using p1
      ·rw[dY (by simp only[F8];omega)];rw[qb (by omega),LS]at hk;have ky:=iP (n:=elems.length) (l:=b9+n) yy h0 (k:=k-b9*r.cN-n*r.cN) (x:=y) (by rw[AN];exact hk);rw[show(b9+n)*r.cN+(k-b9*r.cN-n*r.cN)=k from by rw[vm];omega]at ky;exact hV k y ky
   refine⟨_,G,_,?_,V.int .i64 (n:Int),q1,q2⟩;simp[Builtin.copy_,run_underlying ht,f3,eI eG,hn,g1 w (λ_=>rfl),fM,goInt]
theorem Ej(hs:eQ G s w){t u ty e:Nat}{x z:AV}{xv yv:Value}(hx:V G x xv){y:AV}(hy:V G y yv){new:List AV}(he:eH P t=some e)(ja:gh y s=some new)(hf:lx P e y s)
  (h:yo P t x new s=some (z,s')):tS P G s w (Builtin.copy_ #[t,u] ty #[xv,yv]) z s':=by
 unfold yo at h;rw[he]at h;simp only at h;have ht:=fO he;split at h
 ·rename_i id b9 len;split at h
  case h_2=>cases h
  rename_i cN elems hg;split at h
  case isFalse=>cases h
  rename_i hc;obtain⟨eG,LQ⟩:=hc;cases h;cases hx with
  |ia _ _ cap cn hc=>
   subst hc;have hid:elems.take b9++(new.take (min new.length 0)++elems.drop (b9+min new.length 0))=elems:=by simp
   rw[hid];have fF: ∀i b,bJ (eF s.heap id (.cells cN elems)) i=some b->bJ s.heap i=some b:=λi b hi=>by
    rw[ff]at hi;split at hi
    ·rename_i hq;subst hq;rw[hg];exact hi
    ·exact hi
   obtain⟨f1,f2,f3,f4⟩:=fV (P:=P) hs hy ja eG hf;obtain⟨vs,g1,g2⟩:=f4 0 (xC _);have DS:vs= #[]:=Sx (by rw[<-g2.1];simp[dB]);subst DS;refine⟨_,G,w,?_,by simpa using V.int .i64 ((0:Nat):Int),hs.drop fF (eD _),Ext.drop fF (eD _) λi hi=>?_⟩
   ·cases cn<;>simp[Builtin.copy_,run_underlying ht,f3,eI eG,g1 w (λ_=>rfl),storeCells,goInt]
   ·rw[ff];split
    ·rename_i hq;subst hq;rw[hg]at hi;exact hi
    ·exact hi
  |ms _ _ _ cap r addr ho eP fB gY=>exact Bs hs hy he ja hf hg eG (by omega) ho eP fB gY
 ·rename_i id b9 len cap;split at h
  case h_2=>cases h
  rename_i cN elems hg;split at h
  case isFalse=>cases h
  rename_i hc;obtain⟨eG,LQ⟩:=hc;cases h;cases hx with
  |nI _ _ cn=>
   have hid:elems.take b9++(new.take (min new.length 0)++elems.drop (b9+min new.length 0))=elems:=by simp
   rw[hid];have fF: ∀i b,bJ (eF s.heap id (.cells cN elems)) i=some b->bJ s.heap i=some b:=λi b hi=>by
    rw[ff]at hi;split at hi
    ·rename_i hq;subst hq;rw[hg];exact hi
    ·exact hi
   obtain⟨f1,f2,f3,f4⟩:=fV (P:=P) hs hy ja eG hf;obtain⟨vs,g1,g2⟩:=f4 0 (xC _);have DS:vs= #[]:=Sx (by rw[<-g2.1];simp[dB]);subst DS;refine⟨_,G,w,?_,by simpa using V.int .i64 ((0:Nat):Int),hs.drop fF (eD _),Ext.drop fF (eD _) λi hi=>?_⟩
   ·cases cn<;>simp[Builtin.copy_,run_underlying ht,f3,eI eG,g1 w (λ_=>rfl),storeCells,goInt]
   ·rw[ff];split
    ·rename_i hq;subst hq;rw[hg]at hi;exact hi
    ·exact hi
  |mc _ _ _ _ r addr ho eP fB gY=>exact Bs hs hy he ja hf hg eG LQ ho eP fB gY
 ·rename_i full elems;split at h
  case isFalse=>cases h
  rename_i hc;cases h;obtain⟨cn,cap,rfl,eP,_,_,_⟩:=V.qy hx;cases hq:dF P e with
  |none=>rw[hq]at hc;cases hc.2
  |some sz=>
   obtain⟨f1,f2,f3,f4⟩:=fV (P:=P) hs hy ja hq hf;obtain⟨vs,g1,g2⟩:=f4 0 (xC _);have DS:vs= #[]:=Sx (by rw[<-g2.1];simp[dB]);subst DS;have hn:Nat.min new.length elems.length=0:=hc.1;refine ec hs (v:=goInt 0) ?_ (.int _ _);cases cn<;>simp[Builtin.copy_,run_underlying ht,f3,eI hq,hn,g1 w (λ_=>rfl),storeCells,goInt]
 ·cases h
theorem LU{x:AV}{v:Value}{n:Nat}(hx:V G x v)(h:V7 x=some n): ∃cn cap,v=.slice cn n cap:=by
 cases hx<;>cases h<;>exact⟨_,_,rfl⟩
theorem J2(hs:eQ G s w){t u ty:Nat}{x z:AV}{xv yv:Value}(hx:V G x xv){id b9 len cap:Nat}(hy:V G (.mc id b9 len cap) yv)
  (h:Cn P t x id b9 len s=some (z,s')):tS P G s w (Builtin.copy_ #[t,u] ty #[xv,yv]) z s':=by
 unfold Cn at h;split at h
 case h_2=>cases h
 rename_i e cN elems n he hg hn;split at h
 case isFalse=>cases h
 rename_i hc;obtain⟨eG,fB⟩:=hc;obtain⟨cn,c,rfl⟩:=LU hx hn;have trim: ∀b m,yv=.slice b len m->V G (.ms id b9 (min len n)) (.slice b (min len n) m)->tS P G s w (Builtin.copy_ #[t,u] ty #[.slice cn n c,yv]) z s':=λb m hb hv=>by
  have hd:=Ej (u:=u) (ty:=ty) hs hx hv he (new:=(elems.drop b9).take (min len n)) (by simp[gh,hg,fB]) (by simp[lx,hg,eG]) h;have e1:Nat.min (min len n) n=Nat.min len n:=by show min (min len n) n=min len n;omega
  obtain⟨v,G',w',h1,h2⟩:=hd;refine⟨v,G',w',?_,h2⟩;subst hb;rw[<-h1];simp only[Builtin.copy_,Builtin.lenOf];simp[run_underlying (fO he),eI eG,e1];cases b<;>simp[Builtin.firstCells]
 cases hy with
 |nI _ _ b=>
  refine trim b 0 rfl ?_;rw[Nat.zero_min];exact .ia _ _ _ _ rfl
 |mc _ _ _ _ r addr ho eP PI gY=>exact trim _ _ rfl (.ms _ _ _ _ r addr ho (by omega) PI gY)
theorem nj(n:Nat)(z:AV){k:Nat}{x:AV}(h0:0<z.cells.length)(h:(dB (List.replicate n z))[k]? =some x):k<n*z.cells.length/\z.cells[k%z.cells.length]? =some x:=by
 have jz: ∀y∈List.replicate n z,y.cells.length=z.cells.length:=λy hy=>by rw[Lx hy]
 have hk:k<n*z.cells.length:=by
  have:=(fT.1 h).1;rwa[dO jz,Sy]at this
 obtain⟨e,he,hx⟩:=yi jz h0 h;rw[Va]at he;split at he
 ·cases he;exact⟨hk,hx⟩
 ·cases he
theorem LW(hs:eQ G s w){t:Nat}{l c z:AV}{lv cv:Value}(hl:V G l lv)(hcv:V G c cv)(h:D9 P t l c s=some (z,s')):tS P G s w (Instr.makeSlice t lv cv) z s':=by
 unfold D9 at h;split at h
 case h_2=>cases h
 rename_i k1 n k2 m e he;cases hl;cases hcv;split at h
 case h_2=>cases h
 rename_i sz Gx zz eG LM hz;split at h
 case isFalse=>cases h
 rename_i hc;obtain⟨h1,h2,h3,h4,h5,h6,h7⟩:=hc;cases h;have ht:=fO he;obtain⟨i,hi,rfl⟩:=nh eG;obtain⟨i',Ct,rfl⟩:=qw LM;rw[hi]at Ct;cases Ct;obtain⟨zv,Wf,LX⟩:=kw hz w G;have Bt:=VL.cells LX (nK h6);have h3':=h3;unfold bQ at h3';have w1:IntKind.i64.wrap n=n:=pJ h1 (by omega);have w2:IntKind.i64.wrap m=m:=pJ (by omega) h3;have hb: ¬(281474976710656<(i.bytes:Int)*m):=by
  have h6:(i.bytes:Int)*m<=4096*m:=Int.mul_le_mul_of_nonneg_right (by omega) (by omega);omega
 have n1: ¬(m<0):=by omega
 have n2: ¬(n<0):=by omega
 have n3: ¬(m<n):=by omega
 have Vl:zv.cells.size=i.size:=by rw[<-Bt.1,h5]
 obtain⟨q1,q2⟩:=hs.put (o:=.cells ((Array.range (m.toNat*i.size)).map (λj=>(if m.toNat*i.size=0 then #[]else zv.cells)[j%(if m.toNat*i.size=0 then #[]else zv.cells).size]!)) e)
  (blk:=.cells i.size (List.replicate n.toNat zz)) (r:=⟨w.heap.size,0,i.size,m.toNat*i.size⟩) rfl
  (.cells _ _ _ _ (by simp) rfl h4 (λy hy=>by rw[Lx hy];exact h5) (λy hy=>by
    rw[dB,tK]at hy;obtain⟨q,hq,hy⟩:=hy;rw[Lx hq]at hy;exact kx h6 y hy) (by simp only[Cd,Sy];exact AM _ (by omega)) λk y hk=>by
    obtain⟨p1,p2⟩:=nj _ _ (by omega) hk;have gl:k<m.toNat*i.size:=by
     rw[h5]at p1;exact Sr p1 (AM _ (by omega))
    obtain⟨v,r1,r2⟩:=Bt.get p2;refine⟨v,?_,r2.mono (.put (hs.cE _ (eD _)))⟩;rw[dY (by omega)];rw[h5]at r1;have wE:zv.cells[k%i.size]! =v:=by rw[ZH,wx,r1];rfl
    simp[gl,Vl,wE])
 refine⟨.slice (some ⟨w.heap.size,0,none⟩) n.toNat m.toNat,_,_,?_,?_,q1,q2⟩
 ·by_cases hN:m.toNat*i.size=0
  ·have hN':m.toNat=0\/i.size=0:=Yp.1 hN;have Cu:m=0:=by omega
   have SG:n=0:=by omega
   subst Cu;subst SG;simp[Instr.makeSlice,run_underlying ht,asInt,asIntOf,iz hi,w1,sizeOf,newRow]
  ·simp only[dY hN];have hN': ¬(m.toNat=0\/i.size=0):=λh=>hN (Yp.2 h);have Cu: ¬(m<=0\/i.size=0):=by omega
   have oM: ¬(281474976710656<(i.bytes:Int)*m):=hb;simp[Instr.makeSlice,run_underlying ht,asInt,asIntOf,iz hi,w1,w2,n1,n2,n3,oM,sizeOf,newRow,hN,Wf]
 ·exact .ms s.cr 0 _ _ ⟨w.heap.size,0,i.size,m.toNat*i.size⟩ 0 (by simp[cx.put]) (by omega) (by simp) (λ_=>by simp)
theorem GG(hs:eQ G s w){id b9 len cap cN:Nat}{elems new:List AV}{r:ua}{vs:Array Value}(hg:bJ s.heap id=some (.cells cN elems))(ho:G.own id=some r)(eP:len<=cap)
  (fB:r.cn+(b9+cap)*r.cN<=r.size) (LQ:b9<=elems.length) (Ll:new.length=len) (pI: ∀y∈new,y.cells.length=cN) (LR: ∀y∈dB new,y.dn=true) (g2:VL G (dB new) vs):
  ∃w',(storeCells ⟨r.block,r.cn+b9*r.cN,none⟩ vs.toList 0).run P w=.ok () w'/\eQ G ⟨eF s.heap id (.cells cN (elems.take b9++(new++elems.drop (b9+len)))),s.cr⟩ w'/\
   Ext G s w G ⟨eF s.heap id (.cells cN (elems.take b9++(new++elems.drop (b9+len)))),s.cr⟩ w':=by
 obtain⟨o,e2,e3⟩:=hs.at hg ho;cases e3 with
 |cells _ _ cs te s8 eE h0 yy PL Ef hV=>
  subst eE;have DS:vs.size=len*r.cN:=by rw[<-g2.1,dO pI,Ll]
  have pH:r.cn+b9*r.cN+vs.toList.length<=cs.size:=by
   simp only[F8];rw[DS,s8,DP,<-vm];exact xz (Sv (AM _ (by omega)) _) fB
  have fM:=run_storeCells_at P r.block (r.cn+b9*r.cN) te vs.toList 0 cs w e2 (by simpa using pH) (g2.ug LR);simp only[DO]at fM;have JX: ∀y∈elems.take b9++(new++elems.drop (b9+len)),y.cells.length=r.cN:=λy hy=>by
   simp only[lT]at hy;rcases hy with hy|hy|hy
   ·exact yy y (xA hy)
   ·exact pI y hy
   ·exact yy y (D4 hy)
  have hfs:(dB (elems.take b9)).length=b9*r.cN:=by
   rw[dO (cN:=r.cN) λy hy=>yy y (xA hy)];congr 1;simp;omega
  have LS:(dB new).length=len*r.cN:=by rw[dO pI,Ll]
  obtain⟨q1,q2⟩:=yu hs hg ho e2 (elems':=elems.take b9++(new++elems.drop (b9+len))) (cs':=(cs.toList.take (r.cn+b9*r.cN)++vs.toList++cs.toList.drop (r.cn+b9*r.cN+vs.toList.length)).toArray)
   (by simp only[VV,lu,F7,U8,F8]at pH |-;omega) rfl h0 JX (λy hy=>by
    rw[dN,dN]at hy;simp only[lT]at hy;have q: ∀(l:List AV),(∀z∈l,z∈elems)-> ∀y∈dB l,y.dn=true:=λl hl y hy=>PL y (by
     rw[dB,tK]at hy |-
     obtain⟨z,hz,hy⟩:=hy;exact⟨z,hl z hz,hy⟩)
    rcases hy with hy|hy|hy
    ·exact q _ (λz hz=>xA hz) y hy
    ·exact LR y hy
    ·exact q _ (λz hz=>D4 hz) y hy)
   (by
    have q:(elems.take b9++(new++elems.drop (b9+len))).length=max elems.length (b9+len):=by simp[Ll];omega
    rw[q];rcases Nat.le_total elems.length (b9+len)with c|c
    ·rw[Nat.max_eq_right c];exact xz (Sv (AM _ (by omega)) _) fB
    ·rw[Nat.max_eq_left c];exact Ef) λk y hk=>by
    rw[dN,dN]at hk;rw[lN _ _ _ _ pH];by_cases c1:k<b9*r.cN
    ·rw[dP (by omega)];rw[nD (by omega)]at hk;have ky:=iP (n:=b9) (l:=0) yy h0 (k:=k) (x:=y) (by simpa using hk);simpa using hV _ y (by simpa using ky)
    ·rw[dY (by omega)];rw[qb (by omega),hfs]at hk;by_cases c2:k<b9*r.cN+len*r.cN
     ·rw[dP (by simp only[F8];omega)];rw[nD (by omega)]at hk;obtain⟨v,p1,p2⟩:=g2.get hk;refine⟨v,?_,p2⟩;rw[show r.cn+k-(r.cn+b9*r.cN)=k-b9*r.cN from by omega];simpa using p1
     ·rw[dY (by simp only[F8];omega)];rw[qb (by omega),LS]at hk;have ky:=iP (n:=elems.length) (l:=b9+len) yy h0 (k:=k-b9*r.cN-len*r.cN) (x:=y) (by rw[AN];exact hk);rw[show(b9+len)*r.cN+(k-b9*r.cN-len*r.cN)=k from by rw[vm];omega]at ky;exact hV k y ky
  exact⟨_,fM,q1,q2⟩
theorem J3(hs:eQ G s w){t ty:Nat}{x z:AV}{xv:Value}{ts:Array TypeId}(Yz:ts[0]? =some t)(hx:V G x xv)(h:Gy P t x s=some (z,s')):tS P G s w (Builtin.clear_ ts ty #[xv]) z s':=by
 unfold Gy at h;split at h
 case h_2=>cases h
 rename_i e id b9 len he;have ht:=fO he;split at h
 case h_2=>cases h
 rename_i cN elems zz hg hz;split at h
 case isFalse=>cases h
 rename_i hc;obtain⟨eG,Bt,Vl,LQ⟩:=hc;cases h;have nothing:len=0->eQ G ⟨eF s.heap id (.cells cN (elems.take b9++(List.replicate len zz++elems.drop (b9+len)))),s.cr⟩ w/\Ext G s w G ⟨eF s.heap id (.cells cN (elems.take b9++(List.replicate len zz++elems.drop (b9+len)))),s.cr⟩ w:=λh0=>by
  subst h0;have hid:elems.take b9++(List.replicate 0 zz++elems.drop (b9+0))=elems:=by simp
  rw[hid];have fF: ∀i b,bJ (eF s.heap id (.cells cN elems)) i=some b->bJ s.heap i=some b:=λi b hi=>by
   rw[ff]at hi;split at hi
   ·rename_i hq;subst hq;rw[hg];exact hi
   ·exact hi
  refine⟨hs.drop fF (eD _),Ext.drop fF (eD _) λi hi=>?_⟩;rw[ff];split
  ·rename_i hq;subst hq;rw[hg]at hi;exact hi
  ·exact hi
 have LY:V G (.eC []) (.tuple #[]):=.eC [] #[] rfl (by simp);cases hx with
 |ia _ _ cap cn hc=>
  obtain⟨q1,q2⟩:=nothing rfl;refine⟨_,G,w,?_,LY,q1,q2⟩;cases cn<;>simp[Builtin.clear_,Yz,run_underlying ht]
 |ms _ _ _ cap r addr ho eP fB gY=>
  by_cases h0:len=0
  ·obtain⟨q1,q2⟩:=nothing h0;refine⟨_,G,w,?_,LY,q1,q2⟩;subst h0;simp[Builtin.clear_,Yz,run_underlying ht]
  ·have Wi:=gY (by omega);subst Wi;obtain⟨zv,Wf,LX⟩:=kw hz w G;have Wm:=VL.cells LX (nK Vl);have PJ:zv.cells.size=cN:=by rw[<-Wm.1,Bt]
   have vz:0<cN:=by
    obtain⟨o,_,e3⟩:=hs.at hg ho;cases e3 with
    |cells _ _ _ _ _ _ h0=>exact h0
   have Rj:VL G (dB (List.replicate len zz)) (Builtin.zeroCells zv.cells len):=by
    have jz: ∀y∈List.replicate len zz,y.cells.length=cN:=λy hy=>by rw[Lx hy];exact Bt
    refine⟨by rw[dO jz];simp[Builtin.zeroCells,PJ],λk x y hk hy=>?_⟩;obtain⟨p1,p2⟩:=nj len zz (by omega) hk;obtain⟨v,r1,r2⟩:=Wm.get p2;have wE:zv.cells[k%cN]! =v:=by rw[ZH,wx,<-Bt,r1];rfl
    rw[Bt]at p1;simp only[Builtin.zeroCells,Array.getElem?_map,PJ]at hy;rw[Lj (by simpa using p1)]at hy;simp only[Array.getElem_range,gX,Option.some.injEq]at hy;rw[<-hy,wE];exact r2
   obtain⟨w',q0,q1,q2⟩:=GG (P:=P) hs hg ho eP fB (by omega) (Sy) (λy hy=>by rw[Lx hy];exact Bt) (λy hy=>by
    rw[dB,tK]at hy;obtain⟨q,hq,hy⟩:=hy;rw[Lx hq]at hy;exact kx Vl y hy) Rj
   refine⟨_,G,w',?_,LY,q1,q2⟩;obtain⟨n,rfl⟩: ∃n,len=n+1:=⟨len-1,by omega⟩;simp[Builtin.clear_,Yz,run_underlying ht,Wf,q0]
end
end Go.Am
end
section
namespace Go.Am
open Go.RowKit
section
variable {P:Program} {G:cx} {s s':St} {w:World} {bX:Env} {a:Act}
theorem yz(off:Nat): ∀(vs:List Value)(st:Nat)(cs:Array Value)(i:Nat),off+st+vs.length<=cs.size->
  (((vs.zipIdx st).foldl (λcs(x:Value×Nat)=>cs.setIfInBounds (off+x.2) x.1) cs))[i]? =if i<off+st then cs[i]? else if i<off+st+vs.length then vs[i-(off+st)]? else cs[i]?
 | [],st,cs,i,h=>by
  simp only[List.zipIdx_nil,List.foldl_nil,Ih,DO];split
  ·rfl
  ·rfl
 |v::r,st,cs,i,h=>by
  simp only[List.zipIdx_cons,Sz,oC]at h |-
  rw[yz off r (st+1) _ i (by simp;omega),Array.getElem?_setIfInBounds];by_cases h1:i<off+st
  ·simp only[dY (show¬off+st=i from by omega)];rw[dP (by omega),dP h1]
  ·by_cases h2:off+st=i
   ·subst h2;rw[dP (by omega),dP rfl,dP (by omega),dY (by omega),dP (by omega)];simp
   ·simp only[dY h2];rw[dY (by omega),dY h1];by_cases h3:i<off+st+(r.length+1)
    ·rw[dP (by omega),dP h3,show i-(off+st)=(i-(off+(st+1)))+1 from by omega];simp
    ·rw[dY (by omega),dY h3]
theorem wF(off:Nat): ∀(vs:List Value)(st:Nat)(cs:Array Value),((vs.zipIdx st).foldl (λcs(x:Value×Nat)=>cs.setIfInBounds (off+x.2) x.1) cs).size=cs.size
 | [],st,cs=>rfl
 |v::r,st,cs=>by simp only[List.zipIdx_cons,Sz];rw[wF off r];simp
theorem uh{cp place':Nat->Option (Nat×Nat)}(hp: ∀i q,cp i=some q->place' i=some q): ∀{cR:List (Nat×AV)}{s9:List (Nat×Value)}{cells l:List AV}{cv:Array Value},
  VL G cells cv->(cR.length=s9.length/\ ∀(i:Nat)p q,cR[i]? =some p->s9[i]? =some q->p.1=q.1/\V G p.2 q.2)->sL cp cells cR=some l->
  ∃out,Instr.fill place' cv s9=some out/\VL G l out
 | [],s9,cells,l,cv,hv,oH,h=>by
  cases s9 with
  |nil=>cases h;exact⟨cv,rfl,hv⟩
  |cons _ _=>simp at oH
 |(i,x)::r,s9,cells,l,cv,hv,oH,h=>by
  cases s9 with
  |nil=>simp at oH
  |cons q r'=>
   obtain⟨j,v⟩:=q;obtain⟨dJ,oH⟩:=oH;obtain⟨rfl,Wg⟩:i=j/\V G x v:=oH 0 (i,x) (j,v) rfl rfl;simp only[sL]at h;split at h
   case h_2=>cases h
   rename_i off n Cv;split at h
   case isFalse=>cases h
   rename_i hc;obtain⟨h1,h2,h3⟩:=hc;have hl:=VL.cells Wg (nK h2);have DS:v.cells.size=n:=by rw[<-hl.1,h1]
   have s8:cv.size=cells.length:=hv.1.symm;simp only[Instr.fill,hp i _ Cv];rw[dY (by simp[DS];omega)];refine uh hp ?_ ⟨by simpa using dJ,λk p q hk hq=>oH (k+1) p q (by simpa using hk) (by simpa using hq)⟩ h;have e:(v.cells.zipIdx.foldl (λcs(x:Value×Nat)=>cs.setIfInBounds (off+x.2) x.1) cv)=((v.cells.toList.zipIdx 0).foldl (λcs(x:Value×Nat)=>cs.setIfInBounds (off+x.2) x.1) cv):=by
    rw[<-Array.foldl_toList,Array.toList_zipIdx]
   refine⟨?_,λk y u hk hu=>?_⟩
   ·rw[nX _ _ _ (by omega)];show cells.length=(v.cells.zipIdx.foldl (λcs(x:Value×Nat)=>cs.setIfInBounds (off+x.2) x.1) cv).size;rw[e,wF,s8]
   ·rw[qe _ _ _ _ (by omega)]at hk;change (v.cells.zipIdx.foldl (λcs(x:Value×Nat)=>cs.setIfInBounds (off+x.2) x.1) cv)[k]? =some u at hu;rw[e,yz _ _ _ _ _ (by simp[DS];omega)]at hu;simp only[DO,F8,DS,h1]at hu hk;split at hk
    ·rename_i c;rw[dP c]at hu;exact hv.2 k y u hk hu
    ·rename_i c;rw[dY c]at hu;split at hk
     ·rename_i c2;rw[dP c2]at hu;exact hl.2 _ y u hk (by simpa using hu)
     ·rename_i c2;rw[dY c2]at hu;exact hv.2 k y u hk hu
theorem ui(he:jx G bX a.tmps): ∀{l:List (Nat×Operand)}{xs:List (Nat×AV)},my bX l=some xs->
  xs.length=(l.map λp=>(p.1,a.eval p.2)).length/\ ∀(i:Nat)p q,xs[i]? =some p->(l.map λp=>(p.1,a.eval p.2))[i]? =some q->p.1=q.1/\V G p.2 q.2
 | [],xs,h=>by simp[my]at h;subst h;simp
 |(j,o)::r,xs,h=>by
  simp only[my]at h;split at h
  ·rename_i x l h1 h2;cases h;obtain⟨e1,e2⟩:=ui he h2;refine⟨by simpa using e1,λi p q hp hq=>?_⟩;cases i with
   |zero=>simp at hp hq;subst hp;subst hq;exact⟨rfl,fe he h1⟩
   |succ i=>exact e2 i p q (by simpa using hp) (by simpa using hq)
  ·cases h
theorem qA(w:World): ∀(fs:List Field),(fs.all λf=>(dF P f.type).isSome)=true->
  (fs.mapM λf=>Functor.map (Prod.mk f.offset) (sizeOf f.type)).run P w=.ok (fs.map λf=>(f.offset,(dF P f.type).getD 0)) w
 | [],_=>rfl
 |f::r,h=>by
  simp only[Yk,fE]at h;cases hq:dF P f.type with
  |none=>rw[hq]at h;cases h.1
  |some n=>
   have ih:=qA w r h.2;simp only[List.mapM_cons,Sem.run_bind,Sem.run_map,eI hq,Result.andThen_ok,ih,Sem.run_pure,wy,hq,Ce]
theorem J4(hs:eQ G s w)(he:jx G bX a.tmps){t:Nat}{cR:Array (Nat×Operand)}{l:List (Nat×AV)}{x:AV}(hl:my bX cR.toList=some l)(h:yq P t l=some x):
  tS P G s w (Instr.build t (cR.map λ(i,x)=>(i,a.eval x))) x s:=by
 have hp:=ui he hl;unfold yq at h;split at h
 case h_2=>cases h
 rename_i cs hz;obtain⟨zv,Pe,LX⟩:=kw hz w G;have Bt:=VL.cells LX (by simp);split at h
 ·rename_i iA;split at h
  case h_2=>cases h
  rename_i out sC;cases h;unfold xE at iA;split at iA
  case h_2=>cases iA
  rename_i fs hu;have hm:=qA w fs.toList iA;obtain⟨ov,f1,f2⟩:=uh (place':=λi=>((fs.toList.map λ(f:Field)=>(f.offset,(dF P f.type).getD 0)).toArray)[i]?) (λi q hq=>by
   obtain⟨off,n⟩:=q;obtain⟨fs',f,YA,Vi,LL,hn⟩:=yr hq;rw[hu]at YA;cases YA;simp only[ZF,sW,ZI,Vi,gX,LL,hn,Ce]) Bt hp sC
  refine ec hs (v:=.agg ov) ?_ (.agg _ _ f2.1 f2.2);simp only[Instr.build,Sem.run_bind,Pe,Result.andThen_ok,run_underlying hu,Array.mapM_eq_mapM_toList,Sem.run_map];have Pd:(fs.toList.mapM λ(f:Field)=>do pure (f.offset,<-sizeOf f.type)).run P w=.ok (fs.toList.map λ(f:Field)=>(f.offset,(dF P f.type).getD 0)) w:=hm;simp only[Pd,Result.andThen_ok,Yq];have J5:Instr.fill (λi=>((fs.toList.map λ(f:Field)=>(f.offset,(dF P f.type).getD 0)).toArray)[i]?) zv.cells (cR.toList.map λp=>(p.1,a.eval p.2))=some ov:=f1;simp only[J5];rfl
 ·split at h
  case h_2=>cases h
  rename_i m e hu;split at h
  case h_2=>cases h
  rename_i sz eG;split at h
  case h_2=>cases h
  rename_i out sC;cases h;obtain⟨ov,f1,f2⟩:=uh (place':=λi=>some (i*sz,sz)) (λi q hq=>hq) Bt hp sC;refine ec hs (v:=.agg ov) ?_ (.agg _ _ f2.1 f2.2);simp only[Instr.build,Sem.run_bind,Pe,Result.andThen_ok,run_underlying (Cq hu),eI eG,Yq];have J5:Instr.fill (λi=>some (i*sz,sz)) zv.cells (cR.toList.map λp=>(p.1,a.eval p.2))=some ov:=f1;simp only[J5];rfl
end
end Go.Am
end
section
namespace Go.Am
open Go.RowKit
section
variable {P:Program} {G:cx} {s s':St} {w:World} {bX:Env} {a:Act}
theorem ta{sz:Nat}: ∀{cR:List (Nat×AV)}{st:Nat}{cells:List AV},oL cR st=true->(∀p∈cR,p.2.cells.length=sz/\p.2.cells.all AV.dn=true)->
  cells.length=(st+cR.length)*sz->sL (λi=>some (i*sz,sz)) cells cR=some (cells.take (st*sz)++dB (cR.map (·.2)))
 | [],st,cells,_,_,hl=>by
  simp only[Ih,DO]at hl;simp only[sL,Pv,LD,xD];rw[tP (Nat.le_of_eq hl)]
 |(j,x)::r,st,cells,hn,hp,hl=>by
  simp only[oL,fE,beq_iff_eq]at hn;obtain⟨rfl,hn⟩:=hn;obtain⟨h1,h2⟩:=hp (j,x) (by simp);simp only[]at h1 h2;have eP:j*sz+sz<=cells.length:=by
   rw[hl,oC,<-Nat.succ_mul];exact AM _ (by omega)
  simp only[sL,h1,h2,eP,and_self,wz];have J6:(jL cells (j*sz) x.cells).length=cells.length:=nX _ _ _ (by omega);rw[ta hn (λp SN=>hp p (by simp[SN])) (by rw[J6,hl,oC];congr 1;omega)];congr 1;rw[wy,ju,<-Ig];congr 1;rw[vm,Nat.one_mul];unfold jL;rw[<-Ig,Yo (by simp[h1];omega)];rw[tP (by simp[h1];omega)]
theorem yA(hs:eQ G s w)(he:jx G bX a.tmps){t len:Nat}{cR:Array (Nat×Operand)}{l:List (Nat×AV)}{x:AV}(hl:my bX cR.toList=some l)(h:gw P t len l=some x):
  tS P G s w (Instr.buildSlice t len (cR.map λ(i,x)=>(i,a.eval x))) x s:=by
 have hp:=ui he hl;unfold gw at h;split at h
 case h_2=>cases h
 rename_i e hu;split at h
 case h_2=>cases h
 rename_i sz z eG hz;split at h
 case isFalse=>cases h
 rename_i hc;obtain⟨rfl,h2,h3,h4,h5,h6⟩:=hc;cases h;obtain⟨zv,Pe,LX⟩:=kw hz w G;let zc:Array Value:=if l.length*sz=0 then #[]else zv.cells
 let c0:Array Value:=(Array.range (l.length*sz)).map (zc[· %zc.size]!);have Wn:VL G (List.replicate (l.length*sz) AV.any) c0:=⟨by simp[c0],λi x y hx _=>by
  rw[Va]at hx;split at hx
  ·cases hx;exact .any _
  ·cases hx⟩
 have pI:=ta (sz:=sz) (st:=0) (cells:=List.replicate (l.length*sz) AV.any) h2 h3 (by simp);simp only[VU,Re,sA]at pI;obtain⟨ov,f1,f2⟩:=uh (place':=λi=>some (i*sz,sz)) (λi q hq=>hq) Wn hp pI;have jz: ∀y∈l.map (·.2),y.cells.length=sz:=λy hy=>by
  obtain⟨p,hp,rfl⟩:=kl.1 hy;exact(h3 p hp).1
 have dJ:ov.size=l.length*sz:=by rw[<-f2.1,dO jz];simp
 obtain⟨q1,q2⟩:=hs.LC ov e;have fM:(Instr.buildSlice t l.length (cR.map λ(i,x)=>(i,a.eval x))).run P w=.ok (.slice (some ⟨w.heap.size,0,none⟩) l.length l.length) (w.alloc (.cells ov e)):=by
  have h4': ¬(2^24<l.length*sz):=by omega
  have aae: ¬(16777216<l.length*sz):=by omega
  simp only[Instr.buildSlice,Sem.run_bind,run_underlying (fO hu),eI eG,Result.andThen_ok,gt_iff_lt,dY h4',Yq];have J5:Instr.fill (λi=>some (i*sz,sz)) c0 (cR.toList.map λp=>(p.1,a.eval p.2))=some ov:=f1;by_cases hN:l.length*sz=0
  ·rw[dP hN];simp only[c0,zc,dP hN]at J5;simp only[pure_bind,J5];simp[newRow]
  ·rw[dY hN];simp only[c0,zc,dY hN]at J5;simp only[Sem.run_bind,Pe,Result.andThen_ok,Sem.run_pure,J5];simp[newRow]
 refine⟨_,_,_,fM,?_,q1,q2⟩;have eP:=q2.le;have kM: ∀k y,(dB (l.map (·.2)))[k]? =some y-> ∃v,ov[k]? =some v/\V G y v:=λk y hk=>f2.get hk;have key:=V.sl (G:=G.gM w.heap.size ov) true (l.map (·.2)) w.heap.size 0 sz l.length (λk=>ov.getD k undef) (by simp) (by simp) jz
  (λy hy=>by
   rw[dB,tK]at hy;obtain⟨q,hq,hy⟩:=hy;obtain⟨p,hp,rfl⟩:=kl.1 hq;exact kx (h3 p hp).2 y hy)
  (λk hk=>by
   have ky:k<ov.size:=by rw[dJ];simpa using hk
   simp[cx.gM,ky])
  (λk y hk=>by
   obtain⟨v,e1,e2⟩:=kM k y hk;simp only[wx,e1,Ce];exact e2.mono eP)
 simpa using key
theorem LZ{op:BinOp}{k:IntKind}{x y:Int}{z:AV}(yB:op≠ .shl)(aaf:op≠ .shr)(h:yp op k x y=some z)(t:TypeId):
  ∃v,(binOp op t (.int k x) (.int k y)).run P w=.ok v w/\V G z v:=by
 cases op<;>simp only[yp]at h<;>first
  |(cases h;done)
  |(exact absurd rfl yB)
  |(exact absurd rfl aaf)
  |(cases h;exact⟨_,by simp[binOp,Op.intArith],.int _ _⟩)
  |(cases h;exact⟨_,by simp only[binOp,rz,xb,if_false,Op.intCmp,Sem.run_pure];rfl,by
   have: ∀b c:Bool,b=c->V G (.bool b) (.bool c):=λb c e=>by subst e;exact .bool b
   apply this
   first|rfl|(rw[Bool.eq_iff_iff];simp)⟩)
  |(split at h;cases h;rename_i hy;cases h;exact⟨_,by simp[binOp,Op.intDiv,hy],.int _ _⟩)
theorem yC{op:BinOp}{k k':IntKind}{x y:Int}{z:AV}(yB:op=.shl\/op=.shr)(h:yp op k x y=some z)(t:TypeId):
  ∃v,(binOp op t (.int k x) (.int k' y)).run P w=.ok v w/\V G z v:=by
 rcases yB with rfl|rfl<;>simp only[yp]at h<;>(split at h)<;>first
  |(cases h;done)
  |(rename_i hy;cases h;exact⟨_,by simp[binOp,Op.shift,hy],.int _ _⟩)
theorem PM: ∀(d:Nat)(t:TypeId)(x y:AV)(xv yv:Value)(b:Bool)(n:Nat),V G x xv->V G y yv->Pc P d t x y=some b->d<=n->(Op.equalIn n t xv yv).run P w=.ok b w:=by
 intro d
 induction d with
 |zero=>intro t x y xv yv b n _ _ h;simp[Pc]at h
 |succ d ih=>
  intro t x y xv yv b n hx hy h hn;obtain⟨n,rfl⟩: ∃m,n=m+1:=⟨n-1,by omega⟩;simp only[Pc]at h;split at h
  ·rename_i hu;cases h;cases hx;cases hy;simp[Op.equalIn,run_underlying hu]
  ·rename_i hu;split at h
   ·rename_i hk;subst hk;cases h;cases hx;cases hy;simp only[Op.equalIn,Sem.run_bind,run_underlying hu,Result.andThen_ok,wz,Sem.run_pure];congr 1
   ·cases h
  ·rename_i hu;cases h;cases hx;cases hy;simp[Op.equalIn,run_underlying hu,beq_toListBytes]
  ·rename_i hu;cases h;cases hx;cases hy;simp[Op.equalIn,run_underlying hu]
  ·rename_i hu;cases h;cases hx;cases hy;simp[Op.equalIn,run_underlying hu]
  ·rename_i hu;cases h;cases hx;cases hy;simp[Op.equalIn,run_underlying hu]
  ·rename_i hu;cases h;cases hx;cases hy;simp[Op.equalIn,run_underlying hu]
  ·rename_i hu;cases h;cases hx;cases hy;simp[Op.equalIn,run_underlying hu]
  ·rename_i hu;cases h;cases hx;cases hy;simp[Op.equalIn,run_underlying hu]
  ·rename_i fs xs0 ys0 hu;split at h
   ·cases h
   ·rename_i iA;cases hx with
    |agg xs xvs hxl hxh=>
     cases hy with
     |agg ys yvs hyl hyh=>
      have hfo:P.fieldsOf t=fs:=by simp[Program.fieldsOf,hu]
      rw[run_equalIn_struct w n t xvs yvs (by rw[hfo];exact hu) (by simpa using iA),hfo];clear hu hfo;generalize fs.toList=l at h
      induction l generalizing b with
      |nil=>simp only[rB]at h;cases h;simp[Op.eqFields]
      |cons f r ihl=>
       simp only[rB]at h;split at h
       ·cases h
       ·rename_i Wo;split at h
        case h_2=>cases h
        rename_i p q hp hq;split at h
        case h_2=>cases h
        rename_i b1 b2 uj wE;cases h;obtain⟨pv,p1,p2⟩:=pG (P:=P) (w:=w) ⟨hxl,hxh⟩ hp;obtain⟨qv,q1,q2⟩:=pG (P:=P) (w:=w) ⟨hyl,hyh⟩ hq;have e1:=ih f.type p q pv qv b1 n p2 q2 uj (by omega);have e2:=ihl b2 wE;simp only[Op.eqFields,rz,Wo,O4,wz,Sem.run_bind,p1,q1,e1,Result.andThen_ok];cases b1
        ·simp
        ·simpa using e2
  ·cases h
theorem qB{op:BinOp}{t:TypeId}{x y:Operand}{xv yv:Value}(h:(∃cs ds,xv=.agg cs/\yv=.agg ds/\P.eqGuardType P.depth t=false)\/(xv≠ .nilIface/\ ∀cs,xv≠ .agg cs)):
  (eqGuard op t x y xv yv).run P w=.ok () w:=by
 rcases h with⟨cs,ds,rfl,rfl,hg⟩|⟨h1,h2⟩
 ·cases op<;>simp[eqGuard,hg]
 ·cases xv<;>first
   |exact absurd rfl h1
   |exact absurd rfl (h2 _)
   |(cases op<;>simp[eqGuard])
theorem L0{op:BinOp}{t:TypeId}{ox oy:Operand}{x y z:AV}{xv yv:Value}(hx:V G x xv)(hy:V G y yv)(h:Gz P op t x y=some z):
  ∃v,(do eqGuard op t ox oy xv yv;binOp op t xv yv:Sem Value).run P w=.ok v w/\V G z v:=by
 have guard: ∀{xv yv:Value},(xv≠ .nilIface/\ ∀cs,xv≠ .agg cs)-> ∀{v:Value},(binOp op t xv yv).run P w=.ok v w->(do eqGuard op t ox oy xv yv;binOp op t xv yv:Sem Value).run P w=.ok v w:=by
  intro xv yv hg v hv;rw[Sem.run_bind,qB (.inr hg),Result.andThen_ok,hv]
 unfold Gz at h;split at h
 ·cases hx;cases hy;split at h
  ·obtain⟨v,e1,e2⟩:=yC (P:=P) (G:=G) (w:=w) (.inl rfl) h t;exact⟨v,guard ⟨by simp,by simp⟩ e1,e2⟩
  ·obtain⟨v,e1,e2⟩:=yC (P:=P) (G:=G) (w:=w) (.inr rfl) h t;exact⟨v,guard ⟨by simp,by simp⟩ e1,e2⟩
  ·rename_i h1 h2;split at h
   ·rename_i hk;subst hk;obtain⟨v,e1,e2⟩:=LZ (P:=P) (G:=G) (w:=w) (λe=>h1 e) (λe=>h2 e) h t;exact⟨v,guard ⟨by simp,by simp⟩ e1,e2⟩
   ·cases h
 ·cases hx;cases hy;have hb: ∀{b c:Bool},b=c->V G (.bool b) (.bool c):=λe=>by subst e;exact .bool _
  split at h
  ·split at h
   ·rename_i eG;cases h;refine⟨_,guard ⟨by simp,by simp⟩ ?_,.str _⟩;unfold maxLen at eG;simp only[binOp,Op.stringOp];have hm:IntKind.i64.max=9223372036854775807:=by decide
    rw[hm,dY (by omega)];rfl
   ·cases h
  ·cases h;exact⟨_,guard ⟨by simp,by simp⟩ (by simp only[binOp,Op.stringOp];rfl),.bool _⟩
  ·cases h;exact⟨_,guard ⟨by simp,by simp⟩ (by simp only[binOp,Op.stringOp];rfl),.bool _⟩
  ·cases h;exact⟨_,guard ⟨by simp,by simp⟩ (by simp only[binOp,Op.stringOp];rfl),.bool _⟩
  ·cases h;exact⟨_,guard ⟨by simp,by simp⟩ (by simp only[binOp,Op.stringOp];rfl),.bool _⟩
  ·cases h;exact⟨_,guard ⟨by simp,by simp⟩ (by simp only[binOp,Op.stringOp];rfl),.bool _⟩
  ·cases h;exact⟨_,guard ⟨by simp,by simp⟩ (by simp only[binOp,Op.stringOp];rfl),.bool _⟩
  ·cases h
 ·rename_i n1 n2;split at h
  ·cases h
  ·rename_i hg;have main: ∀b,Pc P 8 t x y=some b->(eqGuard op t ox oy xv yv).run P w=.ok () w/\(Op.equal t xv yv).run P w=.ok b w/\
     (op=.eql->(binOp op t xv yv).run P w=.ok (.bool b) w)/\(op=.neq->(binOp op t xv yv).run P w=.ok (.bool !b) w):=by
    intro b hb;have he:(Op.equal t xv yv).run P w=.ok b w:=PM 8 t x y xv yv b Op.maxDepth hx hy hb (by decide);have AH:(∃cs ds,xv=.agg cs/\yv=.agg ds)\/(xv≠ .nilIface/\ ∀cs,xv≠ .agg cs):=by
     simp only[Pc]at hb;split at hb<;>first
      |(cases hb;done)
      |(cases hx;cases hy;exact .inl ⟨_,_,rfl,rfl⟩)
      |(cases hx;exact .inr ⟨by simp,by simp⟩)
    refine⟨qB ?_,he,λe=>?_,λe=>?_⟩
    ·rcases AH with⟨cs,ds,e1,e2⟩|h'
     ·exact .inl ⟨cs,ds,e1,e2,by simpa using hg⟩
     ·exact .inr h'
    ·subst e;simp only[Pc]at hb;split at hb<;>first
      |(exact(n1 _ _ _ _ rfl rfl).elim)
      |(exact(n2 _ _ rfl rfl).elim)
      |(cases hb;done)
      |(cases hx;cases hy;simp only[binOp,Sem.run_bind,he,Result.andThen_ok,Sem.run_pure])
    ·subst e;simp only[Pc]at hb;split at hb<;>first
      |(exact(n1 _ _ _ _ rfl rfl).elim)
      |(exact(n2 _ _ rfl rfl).elim)
      |(cases hb;done)
      |(cases hx;cases hy;simp only[binOp,Sem.run_bind,he,Result.andThen_ok,Sem.run_pure])
   split at h
   ·split at h
    ·rename_i b hb;cases h;obtain⟨m1,m2,m3,m4⟩:=main b hb;exact⟨.bool b,by rw[Sem.run_bind,m1,Result.andThen_ok,m3 rfl],.bool _⟩
    ·cases h
   ·split at h
    ·rename_i b hb;cases h;obtain⟨m1,m2,m3,m4⟩:=main b hb;exact⟨.bool !b,by rw[Sem.run_bind,m1,Result.andThen_ok,m4 rfl],.bool _⟩
    ·cases h
   ·cases h
end
end Go.Am
end
section
namespace Go.Am
open Go.RowKit
section
variable {P:Program} {G:cx} {s s':St} {w:World} {bX:Env} {a:Act}
def L1(P:Program)(G:cx)(s:St)(w:World)(PC:Sem Next)(x:AV)(s':St):Prop:=
 ∃nx v G' w',PC.run P w=.ok nx w'/\(nx=.value v\/(nx=.skip/\v=undef))/\V G' x v/\eQ G' s' w'/\Ext G s w G' s' w'
theorem tS.next{PC:Sem Value}{x:AV}(h:tS P G s w PC x s'):L1 P G s w (do pure (.value (<-PC))) x s':=by
 obtain⟨v,G',w',e1,e2,e3,e4⟩:=h;exact⟨.value v,v,G',w',by simp[e1],.inl rfl,e2,e3,e4⟩
theorem dS{v:Option AV}{x:AV}(h:gE v s=some (x,s')):v=some x/\s'=s:=by
 unfold gE at h;split at h
 ·cases h;exact⟨rfl,rfl⟩
 ·cases h
theorem Iq(hs:eQ G s w){x:AV}{v:Value}(hv:V G x v):L1 P G s w (pure (.value v)) x s:=⟨.value v,v,G,w,rfl,.inl rfl,hv,hs,.refl _ _ _⟩
theorem L2(hs:eQ G s w){t ty:TypeId}{ts:Array TypeId}(ht:ts[0]? =some t){x y:AV}{xv:Value}(hx:V G x xv)(h:AP P t x=some y):tS P G s w (Builtin.len_ ts ty #[xv]) y s:=by
 unfold AP at h;split at h
 ·split at h
  case isFalse=>cases h
  rename_i ja;cases h;obtain⟨e,ja⟩:=Bp.1 ja;cases hx
  all_goals exact ec hs (v:=goInt _) (by simp[Builtin.len_,ht,run_underlying (fO ja)]) (.int _ _)
 ·split at h
  case isFalse=>cases h
  rename_i ja;cases h;obtain⟨e,ja⟩:=Bp.1 ja;obtain⟨cn,cap,rfl,_⟩:=V.qy hx;exact ec hs (v:=goInt _) (by simp[Builtin.len_,ht,run_underlying (fO ja)]) (.int _ _)
 ·split at h
  case isFalse=>cases h
  rename_i ja;cases h;obtain⟨e,ja⟩:=Bp.1 ja;cases hx
  all_goals exact ec hs (v:=goInt _) (by simp[Builtin.len_,ht,run_underlying (fO ja)]) (.int _ _)
 ·split at h
  case isFalse=>cases h
  rename_i iA;cases h;cases hx;exact ec hs (v:=goInt _) (by simp[Builtin.len_,ht,run_underlying (Cr iA)]) (.int _ _)
 ·split at h
  case h_2=>cases h
  rename_i n e ja;cases h;refine ec hs (v:=goInt n) ?_ (.int _ _);cases xv<;>simp[Builtin.len_,ht,run_underlying (Cq ja)]
theorem L3(hs:eQ G s w){t ty:TypeId}{ts:Array TypeId}(ht:ts[0]? =some t){x y:AV}{xv:Value}(hx:V G x xv)(h:SD P t x=some y):tS P G s w (Builtin.cap_ ts ty #[xv]) y s:=by
 unfold SD at h;split at h
 case h_3=>cases h
 ·split at h
  case isFalse=>cases h
  rename_i ja;cases h;obtain⟨e,ja⟩:=Bp.1 ja;cases hx
  all_goals exact ec hs (v:=goInt _) (by simp[Builtin.cap_,ht,run_underlying (fO ja)]) (.int _ _)
 ·split at h
  case isFalse=>cases h
  rename_i ja;cases h;obtain⟨e,ja⟩:=Bp.1 ja;cases hx with
  |slnil _ cn cap hf hb=>
   rw[hf rfl];exact ec hs (v:=goInt 0) (by simp[Builtin.cap_,ht,run_underlying (fO ja)]) (.int _ _)
  |sl _ _ b off cN cap val ko kc eE jH iw hV=>
   rw[kc rfl];exact ec hs (v:=goInt _) (by simp[Builtin.cap_,ht,run_underlying (fO ja)]) (.int _ _)
theorem vA{f:AV->AV->Option AV}{g:Value->Value->Sem Value}(hf: ∀x y z xv yv,V G x xv->V G y yv->f x y=some z-> ∃v,(g xv yv).run P w=.ok v w/\V G z v):
  ∀{l:List AV}{lv:List Value}{x z:AV}{xv:Value},l.length=lv.length->(∀(i:Nat)p q,l[i]? =some p->lv[i]? =some q->V G p q)->V G x xv->wC f x l=some z->
   ∃v,(lv.foldlM g xv).run P w=.ok v w/\V G z v
 | [],lv,x,z,xv,hl,hV,hx,h=>by
  cases lv with
  |nil=>cases h;exact⟨xv,rfl,hx⟩
  |cons _ _=>simp at hl
 |y::r,lv,x,z,xv,hl,hV,hx,h=>by
  cases lv with
  |nil=>simp at hl
  |cons yv rv=>
   simp only[wC]at h;split at h
   case h_2=>cases h
   rename_i u hu;obtain⟨v,e1,e2⟩:=hf x y u xv yv hx (hV 0 y yv rfl rfl) hu;obtain⟨v',f1,f2⟩:=vA hf (l:=r) (lv:=rv) (by simpa using hl) (λi p q hp hq=>hV (i+1) p q (by simpa using hp) (by simpa using hq)) e2 h;exact⟨v',by simp[List.foldlM_cons,e1,f1],f2⟩
theorem Bu(he:jx G bX a.tmps){l:Array Operand}{x y:AV}(h:opers bX l.toList=some [x,y]): ∃o1 o2,l= #[o1,o2]/\V G x (a.eval o1)/\V G y (a.eval o2):=by
 obtain⟨ls⟩:=l;obtain⟨e1,e2⟩:=rD he h
 match ls,e1 with
 | [o1,o2],_=>exact⟨o1,o2,rfl,e2 0 _ _ rfl rfl,e2 1 _ _ rfl rfl⟩
theorem vB(he:jx G bX a.tmps){l:Array Operand}{x:AV}(h:opers bX l.toList=some [x]): ∃o1,l= #[o1]/\V G x (a.eval o1):=by
 obtain⟨ls⟩:=l;obtain⟨e1,e2⟩:=rD he h
 match ls,e1 with
 | [o1],_=>exact⟨o1,rfl,e2 0 _ _ rfl rfl⟩
theorem Cw{ts:Array TypeId}{t u ty:TypeId}{args:Array Value}(h0:ts[0]? =some t)(h1:ts[1]? =some u):Builtin.append_ ts ty args=Builtin.append_ #[t,u] ty args:=by
 unfold Builtin.append_;simp[h0,h1]
theorem yD{ts:Array TypeId}{t ty:TypeId}{args:Array Value}(h0:ts[0]? =some t):Builtin.copy_ ts ty args=Builtin.copy_ #[t,t] ty args:=by
 unfold Builtin.copy_;simp[h0]
theorem vC(hs:eQ G s w){t u ty e:TypeId}{x y z:AV}{xv yv:Value}(hx:V G x xv)(hy:V G y yv){new:List AV}(he:eH P t=some e)(hn:gh y s=some new)(hf:lx P e y s)
  (hu:(eH P u).isSome=true) (h:gr P t x new s=some (z,s')):tS P G s w (Builtin.append_ #[t,u] ty #[xv,yv]) z s':=by
 obtain⟨d,hu⟩:=Bp.1 hu;have Wp: ∃sz,dF P e=some sz:=by
  unfold gr at h;rw[he]at h;simp only at h;split at h
  ·rename_i sz _ eG _;exact⟨sz,eG⟩
  ·cases h
 obtain⟨sz,eG⟩:=Wp;obtain⟨f1,f2,f3,f4⟩:=fV (P:=P) hs hy hn eG hf;obtain⟨vs,g1,g2⟩:=f4 new.length (eD _);rw[AN]at g2;refine yx hs hx he (λsz' AU=>?_) f2 g2 h;rw[eG]at AU;cases AU;refine⟨f1,.inl ⟨⟨d,fO hu⟩,λw'=>?_,g1⟩⟩;have:(Builtin.lenOf yv).run P w=.ok new.length w:=f3;cases yv<;>simp[Builtin.lenOf]at this |- <;>exact this
theorem xj(hs:eQ G s w){t u ty e:TypeId}{x z zz:AV}{k:IntKind}{n:Int}{xv:Value}(hx:V G x xv)(he:eH P t=some e)(hz:jK P e=some zz)(h0:0<=n)(h1:n<=(bQ:Int))
  (hu:(Gw P u).isSome=true) (eG:dF P e=some zz.cells.length) (jH:zz.cells.all AV.dn=true) (h:gr P t x (List.replicate n.toNat zz) s=some (z,s')):
  tS P G s w (Builtin.append_ #[t,u] ty #[xv,.int k n]) z s':=by
 obtain⟨k',hu⟩:=Bp.1 hu;have fM: ∃zv,(∀w',(zeroValue e).run P w'=.ok zv w')/\V G zz zv:=by
  unfold jK at hz;cases hi:P.info? e with
  |none=>simp[hi]at hz
  |some i=>
   cases Vk:i.zero with
   |none=>simp[hi,Vk]at hz
   |some v=>
    simp[hi,Vk]at hz;exact⟨v,λw'=>by simp[zeroValue,iz hi,Vk],rC hz⟩
 obtain⟨zv,Pe,LX⟩:=fM;have Bt:=VL.cells LX (nK jH);refine yx hs hx he (news:=if n.toNat*zz.cells.length=0 then #[]else Builtin.zeroCells zv.cells n.toNat) (λsz' AU=>?_) (λy hy=>?_) ⟨?_,λi p q hp hq=>?_⟩ h
 ·rw[eG]at AU;cases AU;refine⟨λy hy=>by rw[Lx hy],.inr ⟨k',k,n,LH hu,rfl,h0,h1,by simp,zv,Pe,by simp⟩⟩
 ·rw[dB,tK]at hy;obtain⟨q,hq,hy⟩:=hy;rw[Lx hq]at hy;exact kx jH y hy
 ·rw[dO (cN:=zz.cells.length) λy hy=>by rw[Lx hy]];rw[Sy];split
  ·rename_i hn;rw[hn];rfl
  ·rw[size_zeroCells,<-Bt.1]
 ·have vz:0<zz.cells.length:=by
   rcases VW zz.cells.length with h|h
   ·exfalso;have hl:(dB (List.replicate n.toNat zz)).length=0:=by
     rw[dO (cN:=zz.cells.length) λy hy=>by rw[Lx hy]];rw[h];simp
    rw[Gs hl]at hp;simp at hp
   ·exact h
  obtain⟨p1,p2⟩:=nj _ _ vz hp;rw[dY (by omega)]at hq;obtain⟨v,r1,r2⟩:=Bt.get p2;have gl:i<n.toNat*zv.cells.size:=by rw[<-Bt.1];exact p1
  have Vl:zv.cells.size=zz.cells.length:=Bt.1.symm;have wE:zv.cells[i%zv.cells.size]! =v:=by rw[ZH,wx,Vl,r1];rfl
  simp[Builtin.zeroCells,gl,wE]at hq;subst hq;exact r2
theorem vD(hs:eQ G s w)(he:jx G bX a.tmps)(o:Oper){x:AV}(h:jc P o.op bX s=some (x,s')):L1 P G s w (execOp a.eval o) x s':=by
 unfold jc at h;obtain⟨dst,op,type,pos,after,guard⟩:=o;simp only at h;split at h
 ·
   obtain⟨h1,rfl⟩:=dS h;exact Iq hs (fe he h1)
 · obtain⟨h1,rfl⟩:=dS h;exact Iq hs (fe he h1)
 ·
   rename_i c oa ob;split at h
   case h_2=>cases h
   rename_i b hc;have hv:=fe he hc;generalize hq:a.eval c=cv at hv;cases hv;cases b
   · simp only[ZJ,if_false]at h;obtain⟨h1,rfl⟩:=dS h;exact⟨.value (a.eval ob),_,G,w,by simp[execOp,hq,asBool],.inl rfl,fe he h1,hs,.refl _ _ _⟩
   · simp only[wz]at h;obtain⟨h1,rfl⟩:=dS h;exact⟨.value (a.eval oa),_,G,w,by simp[execOp,hq,asBool],.inl rfl,fe he h1,hs,.refl _ _ _⟩
 · split at h
   · rename_i z hz;exact(JV hs (Cj hz) h).next
   · split at h
     case h_2=>cases h
     rename_i z hz;exact(GB hs hz h).next
 · split at h
   case h_2=>cases h
   rename_i v hv;exact(Il hs (fe he hv) h).next
 · split at h
   case h_2=>cases h
   rename_i l hl;obtain⟨h1,rfl⟩:=dS h;exact(J4 hs he hl h1).next
 · split at h
   case h_2=>cases h
   rename_i l hl;obtain⟨h1,rfl⟩:=dS h;exact(yA hs he hl h1).next
 · split at h
   case h_2=>cases h
   rename_i p hp;obtain⟨h1,rfl⟩:=dS h;exact(LJ hs (fe he hp) h1).next
 · split at h
   case h_2=>cases h
   rename_i p y hp hy;split at h
   case h_2=>cases h
   rename_i s2 iA;cases h;obtain⟨w',e1,e2,e3⟩:=JW hs (fe he hp) (fe he hy) iA;exact⟨.skip,undef,G,w',by simp[execOp,e1],.inr ⟨rfl,rfl⟩,.any _,e2,e3⟩
 ·
   rename_i ox;split at h
   · rename_i hq;cases h;have hv:=fe he hq;generalize Wq:a.eval ox=cv at hv;cases hv with
     |mp id el off r ho=>exact⟨.value _,_,G,w,by simp only[execOp,Wq];rfl,.inl rfl,.mp _ _ _ r ho,hs,.refl _ _ _⟩
   · rename_i hq;cases h;have hv:=fe he hq;generalize Wq:a.eval ox=cv at hv;have Wr:=hv;cases hv with
     |ip cells b off val h1 h2=>exact⟨.value _,_,G,w,by simp only[execOp,Wq];rfl,.inl rfl,Wr,hs,.refl _ _ _⟩
   · rename_i hq;cases h;have hv:=fe he hq;generalize Wq:a.eval ox=cv at hv;have Wr:=hv;cases hv with
     |fn f gk vs h1 h2=>exact⟨.value _,_,G,w,by simp only[execOp,Wq];rfl,.inl rfl,Wr,hs,.refl _ _ _⟩
   · cases h
 ·
   split at h
   case h_2=>cases h
   rename_i y z hy hz;obtain⟨h1,rfl⟩:=dS h;obtain⟨v,e1,e2⟩:=L0 (ox:=_) (oy:=_) (fe he hy) (fe he hz) h1;exact(ec hs e1 e2).next
 · split at h
   case h_2=>cases h
   rename_i y hy;obtain⟨h1,rfl⟩:=dS h;have hv:=fe he hy;unfold Z0 at h1;split at h1
   · cases h1;generalize hq:a.eval _=cv at hv;cases hv;exact⟨_,_,G,w,by simp only[execOp,hq,Op.unary,Sem.run_bind,Sem.run_pure,Result.andThen_ok],.inl rfl,.bool _,hs,.refl _ _ _⟩
   · cases h1;generalize hq:a.eval _=cv at hv;cases hv;exact⟨_,_,G,w,by simp only[execOp,hq,Op.unary,Op.intArith,Sem.run_bind,Sem.run_pure,Result.andThen_ok],.inl rfl,.int _ _,hs,.refl _ _ _⟩
   · cases h1
 ·
   split at h
   case h_2=>cases h
   rename_i y hy;obtain⟨h1,rfl⟩:=dS h;have hv:=fe he hy;unfold oK at h1;split at h1
   · split at h1
     case isFalse=>cases h1
     rename_i qz;split at h1
     case h_2=>cases h1
     rename_i k hk;cases h1;obtain⟨d,hd⟩:=Bp.1 qz;generalize hq:a.eval _=cv at hv;cases hv;exact⟨_,_,G,w,by simp[execOp,hq,convert,run_underlying hd,run_underlying (LH hk),Conv.intToInt],.inl rfl,.int _ _,hs,.refl _ _ _⟩
   · split at h1
     case isFalse=>cases h1
     rename_i qz;cases h1;obtain⟨d,hd⟩:=Bp.1 qz.1;generalize hq:a.eval _=cv at hv;cases hv;exact⟨_,_,G,w,by simp[execOp,hq,convert,run_underlying hd,run_underlying (Cr qz.2)],.inl rfl,.str _,hs,.refl _ _ _⟩
   · cases h1
 ·
   rename_i f first gk
   split at h
   case isFalse=>cases h
   rename_i hf;split at h
   case h_2=>cases h
   rename_i l hl;cases h;have hfe:first= #[]:=Sx hf
   subst hfe;have Rj:=ue he hl;exact⟨.value (.func (.func f) #[] (gk.map a.eval)),_,G,w,by simp[execOp,Instr.makeFunc],.inl rfl,.fn f l _ Rj.1 Rj.2,hs,.refl _ _ _⟩
 · split at h
   case h_2=>cases h
   rename_i y hy;obtain⟨h1,rfl⟩:=dS h;exact(J1 hs he (fe he hy) h1).next
 · split at h
   case h_2=>cases h
   rename_i y hy;obtain⟨h1,rfl⟩:=dS h;exact(AQ hs (fe he hy) h1).next
 · split at h
   case h_2=>cases h
   rename_i y hy;obtain⟨h1,rfl⟩:=dS h;exact(JY hs (fe he hy) h1).next
 · split at h
   case h_2=>cases h
   rename_i y z hy hz;obtain⟨h1,rfl⟩:=dS h;exact(AR hs (fe he hy) (fe he hz) h1).next
 · split at h
   case h_2=>cases h
   rename_i y z hy hz;obtain⟨h1,rfl⟩:=dS h;exact(J0 hs (fe he hy) (fe he hz) h1).next
 ·
   split at h
   case h_2=>cases h
   rename_i vs hy;obtain⟨h1,rfl⟩:=dS h;have hv:=fe he hy;generalize hq:a.eval _=cv at hv;cases hv with
   |eC _ us hl hh=>
     obtain⟨v,e1,e2⟩:=VL.get ⟨hl,hh⟩ h1;exact⟨.value v,v,G,w,by simp[execOp,hq,Instr.extract,e1],.inl rfl,e2,hs,.refl _ _ _⟩
 · split at h
   case h_2=>cases h
   rename_i y z hy hz;exact(LW hs (fe he hy) (fe he hz) h).next
 ·
   rename_i c;obtain⟨callee,args,argTypes⟩:=c;simp only at h;split at h
   ·
     split at h
     case h_2=>cases h
     rename_i y t hy ht;obtain⟨h1,rfl⟩:=dS h;obtain⟨o1,rfl,v1⟩:=vB he hy;have:=(L2 (ty:=type) hs ht v1 h1).next;simpa[execOp,resolve,invoke,builtin]using this
   ·
     split at h
     case h_2=>cases h
     rename_i y z t u hy ht hu;obtain⟨o1,o2,rfl,v1,v2⟩:=Bu he hy;have aag: ∀x,tS P G s w (Builtin.append_ #[t,u] type #[a.eval o1,a.eval o2]) x s'->
       L1 P G s w (execOp a.eval ⟨dst,.call ⟨.builtin .append,#[o1,o2],argTypes⟩,type,pos,after,guard⟩) x s':=λx hd=>by
      rw[<-Cw ht hu]at hd;simpa[execOp,resolve,invoke,builtin]using hd.next
     refine aag _ ?_;split at h
     ·rename_i k n;split at h
      case h_2=>cases h
      rename_i e ja;split at h
      case h_2=>cases h
      rename_i zz hz;split at h
      case isFalse=>cases h
      rename_i hc;generalize a.eval o2=cv at v2;cases v2;exact xj hs v1 ja hz hc.1 hc.2.1 hc.2.2.1 hc.2.2.2.1 hc.2.2.2.2 h
     ·split at h
      case h_2=>cases h
      rename_i e new ja hn;split at h
      case isFalse=>cases h
      rename_i hc;exact vC hs v1 v2 ja hn hc.1 hc.2 h
   ·
     split at h
     case h_2=>cases h
     rename_i y z t hy ht;obtain⟨o1,o2,rfl,v1,v2⟩:=Bu he hy;split at h
     ·have hd:=J2 (u:=t) (ty:=type) hs v1 v2 h;rw[<-yD ht]at hd;simpa[execOp,resolve,invoke,builtin]using hd.next
     ·split at h
      case h_2=>cases h
      rename_i e new ja hn;split at h
      case isFalse=>cases h
      rename_i hf;have hd:=Ej (u:=t) (ty:=type) hs v1 v2 ja hn hf h;rw[<-yD ht]at hd;simpa[execOp,resolve,invoke,builtin]using hd.next
   ·
     split at h
     case h_2=>cases h
     rename_i y t hy ht;obtain⟨h1,rfl⟩:=dS h;obtain⟨o1,rfl,v1⟩:=vB he hy;have:=(L3 (ty:=type) hs ht v1 h1).next;simpa[execOp,resolve,invoke,builtin]using this
   ·
     split at h
     case h_2=>cases h
     rename_i y t hy ht;obtain⟨o1,rfl,v1⟩:=vB he hy;have:=(J3 (ty:=type) hs ht v1 h).next;simpa[execOp,resolve,invoke,builtin]using this
   ·
     split at h
     case h_2=>cases h
     rename_i y r hy;obtain⟨h1,rfl⟩:=dS h;obtain⟨e1,e2⟩:=rD he hy;obtain⟨ls⟩:=args;cases ls with
     |nil=>simp at e1
     |cons o1 rest=>
      obtain⟨v,f1,f2⟩:=vA (P:=P) (w:=w) (g:=Builtin.min2) (λp q z pv qv hp hq hz=>by
       cases p<;>simp only[Py]at hz<;>first|(cases hz;done)|skip
       cases q<;>simp only[]at hz<;>first|(cases hz;done)|skip
       split at hz
       ·rename_i hk;subst hk;cases hz;cases hp;cases hq;exact⟨_,rfl,.int _ _⟩
       ·cases hz) (l:=r) (lv:=rest.map a.eval) (by simpa using e1) (λi p q hp hq=>e2 (i+1) p q (by simpa using hp) (by simpa using hq)) (e2 0 y _ rfl rfl) h1
      refine⟨.value v,v,G,w,?_,.inl rfl,f2,hs,.refl _ _ _⟩;simp[execOp,resolve,invoke,builtin,Builtin.min_,f1]
   ·
     split at h
     case h_2=>cases h
     rename_i y r hy;obtain⟨h1,rfl⟩:=dS h;obtain⟨e1,e2⟩:=rD he hy;obtain⟨ls⟩:=args;cases ls with
     |nil=>simp at e1
     |cons o1 rest=>
      obtain⟨v,f1,f2⟩:=vA (P:=P) (w:=w) (g:=Builtin.max2) (λp q z pv qv hp hq hz=>by
       cases p<;>simp only[Pz]at hz<;>first|(cases hz;done)|skip
       cases q<;>simp only[]at hz<;>first|(cases hz;done)|skip
       split at hz
       ·rename_i hk;subst hk;cases hz;cases hp;cases hq;exact⟨_,rfl,.int _ _⟩
       ·cases hz) (l:=r) (lv:=rest.map a.eval) (by simpa using e1) (λi p q hp hq=>e2 (i+1) p q (by simpa using hp) (by simpa using hq)) (e2 0 y _ rfl rfl) h1
      refine⟨.value v,v,G,w,?_,.inl rfl,f2,hs,.refl _ _ _⟩;simp[execOp,resolve,invoke,builtin,Builtin.max_,f1]
   · cases h
 · cases h
end
end Go.Am
end
