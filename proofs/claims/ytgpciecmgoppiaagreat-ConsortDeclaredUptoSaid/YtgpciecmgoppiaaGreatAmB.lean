/- The logic AM, B: soundness of the other operations. -/
import Derived.Test.YtgpciecmgoppiaaGreatAmA
import Derived.Laws.AppendOwn
import Derived.Laws.StructEq
set_option linter.all false
section
namespace Go.Am
open Go.RowKit
section
variable {P:Program} {G:bS} {s s':St} {w:World} {bf:Env} {a:Act}
def Src(P:Program)(w:World)(u e:TypeId)(xv:Value)(size n:Nat)(news:Array Value):Prop:=
 ((∃d,P.underlying u=some (.slice d))/\(∀w',(Builtin.lenOf xv).run P w'=.ok n w')/\ ∀w',(∀a,w'.cell? a=w.cell? a)->(Builtin.firstCells size n xv).run P w'=.ok news w')\/
 (∃k k' m,P.underlying u=some (.int k)/\xv=.int k' m/\0<=m/\m<=(bc:Int)/\n=m.toNat/\ ∃z,(∀w',(zeroValue e).run P w'=.ok z w')/\news=if n*size=0 then #[]else Builtin.zeroCells z.cells n)
theorem oZ{m:Int}(h0:0<=m)(h1:m<=(bc:Int)):IntKind.i64.wrap m=m:=by
 unfold bc at h1;simp only[IntKind.wrap,IntKind.bits,IntKind.signed]
 grind
theorem sw{t u e size vp n:Nat}{xv:Value}{news:Array Value}(ht:P.underlying t=some (.slice e))(eB:cK P e=some size)(Kg:mn P e=some vp)(hb:vp<=4096)
  (rY:Src P w u e xv size n news) {ad:Addr} {sLen sCap ty:Nat} (pL:sLen+n<=sCap) {w':World} (ja:(storeCells (ad.add (sLen*size)) news.toList).run P w=.ok () w'):
  (Builtin.append_ #[t,u] ty #[.slice (some ad) sLen sCap,xv]).run P w=.ok (.slice (some ad) (sLen+n) sCap) w':=by
 obtain⟨i,hi,rfl⟩:=mZ eB;obtain⟨i',F7,rfl⟩:=qi Kg;rw[hi]at F7;cases F7;rcases rY with⟨⟨d,hu⟩,h1,h2⟩|⟨k,k',m,hu,rfl,h0,h1,rfl,z,hz,rfl⟩
 ·simp[Builtin.append_,run_underlying ht,run_underlying hu,sizeOf,ir hi,h1,pL,h2 w (λ_=>rfl),ja]
 ·have h2: ¬(m<0):=by omega
  have h3: ¬(281474976710656<m*(i.bytes:Int)):=by
   have h6:m*(i.bytes:Int)<=m*4096:=Int.mul_le_mul_of_nonneg_left (by omega) h0;unfold bc at h1;omega
  by_cases hn:m.toNat*i.size=0
  ·rw[ez hn]at ja;simp[Builtin.append_,run_underlying ht,run_underlying hu,sizeOf,ir hi,asInt,asIntOf,oZ h0 h1,h2,h3,pL,ja]
   grind
  ·rw[fN hn]at ja;simp[Builtin.append_,run_underlying ht,run_underlying hu,sizeOf,ir hi,asInt,asIntOf,oZ h0 h1,h2,h3,pL,hz,ja]
   grind
theorem yc{t u e size vp n:Nat}{xv:Value}{news B8:Array Value}(ht:P.underlying t=some (.slice e))(eB:cK P e=some size)(Kg:mn P e=some vp)(hb:vp<=4096)
  (rY:Src P w u e xv size n news) {bG:Option Addr} {sLen sCap ty:Nat} (pL:sCap<sLen+n) (w8:sLen+n<=bc) {z:Value} (hz: ∀w',(zeroValue e).run P w'=.ok z w')
  (hold: ∀w',(∀a,w'.cell? a=w.cell? a)->(Builtin.firstCells size sLen (.slice bG sLen sCap)).run P w'=.ok B8 w'):
  (Builtin.append_ #[t,u] ty #[.slice bG sLen sCap,xv]).run P w=
   .ok (.slice (some ⟨w.heap.size,0,none⟩) (sLen+n) (grownCap w (sLen+n) sCap e))
    (w.drew.alloc (.cells (B8++news++Builtin.zeroCells z.cells (grownCap w (sLen+n) sCap e-(sLen+n))) e)):=by
 obtain⟨i,hi,rfl⟩:=mZ eB;obtain⟨i',F7,rfl⟩:=qi Kg;rw[hi]at F7;cases F7;have hn: ¬(sLen+n<=sCap):=by omega
 have WD:=w8;unfold bc at WD;have Tl: ¬(9223372036854775807<((sLen:Int)+(n:Int))):=by omega
 have tQ:Builtin.nextslicecap (sLen+n) sCap*i.bytes<=281474976710656:=growslice_fits pL (by
  have:(sLen+n)*i.bytes<=(sLen+n)*4096:=zD1 _ hb;omega)
 have Tm: ¬(281474976710656<Builtin.nextslicecap (sLen+n) sCap*i.bytes):=by omega
 have Mf:=hold w.drew (λ_=>rfl);rcases rY with⟨⟨d,hu⟩,h1,h2⟩|⟨k,k',m,hu,rfl,B9,h1,rfl,z',PD,rfl⟩
 ·have h2':=h2 w.drew (λ_=>rfl);simp[Builtin.append_,run_underlying ht,run_underlying hu,sizeOf,ir hi,h1,hn,Tl,Tm,Question.forced,Mf,h2',hz,newRow,grownCap]
 ·have h2: ¬(m<0):=by omega
  have h3: ¬(281474976710656<m*(i.bytes:Int)):=by
   have h6:m*(i.bytes:Int)<=m*4096:=Int.mul_le_mul_of_nonneg_left (by omega) B9
   grind
  have hc:((sLen:Int)+(m.toNat:Int))=sLen+m:=by omega
  have WE:z'=z:=by simp_all
  subst WE;have VT:max m 0=m:=by omega
  by_cases hn:m.toNat*i.size=0
  ·have mK:m.toNat=0\/i.size=0:=YO.1 hn;have aak:m<=0\/i.size=0:=by omega
   simp only[hc]at Tl;simp[Builtin.append_,run_underlying ht,run_underlying hu,sizeOf,ir hi,asInt,asIntOf,oZ B9 h1,h2,h3, *,Tm,Question.forced,Mf,hz,newRow,grownCap]
  ·have mK: ¬(m.toNat=0\/i.size=0):=λh=>hn (YO.2 h);have aak: ¬(m<=0\/i.size=0):=by omega
   simp only[hc]at Tl;simp[Builtin.append_,run_underlying ht,run_underlying hu,sizeOf,ir hi,asInt,asIntOf,oZ B9 h1,h2,h3, *,Tm,Question.forced,Mf,hz,PD,newRow,grownCap]
theorem w9{t u e size vp:Nat}{xv:Value}(ht:P.underlying t=some (.slice e))(eB:cK P e=some size)(Kg:mn P e=some vp)
  (rY:Src P w u e xv size 0 #[]) {ty:Nat}:(Builtin.append_ #[t,u] ty #[.slice none 0 0,xv]).run P w=.ok (.slice none 0 0) w:=by
 obtain⟨i,hi,rfl⟩:=mZ eB;rcases rY with⟨⟨d,hu⟩,h1,h2⟩|⟨k,k',m,hu,rfl,h0,h1,hm,z,hz,DK⟩
 ·simp[Builtin.append_,run_underlying ht,run_underlying hu,sizeOf,ir hi,h1,h2 w (λ_=>rfl)]
 ·have ve:m=0:=by omega
  subst ve;have Y1:IntKind.i64.wrap 0=0:=oZ (by omega) (by grind);simp[Builtin.append_,run_underlying ht,run_underlying hu,sizeOf,ir hi,asInt,asIntOf,Y1]
theorem Gr{e sz:Nat}(h:nO P e sz=true): ∃z,(∀w',(zeroValue e).run P w'=.ok z w')/\z.cells.size=sz:=by
 unfold nO at h;split at h
 ·rename_i x hx;simp only[eU,beq_iff_eq]at h;unfold iT at hx;cases hi:P.info? e with
  |none=>grind
  |some i=>
   cases hz:i.zero with
   |none=>grind
   |some v=>
    simp[hi,hz]at hx;have hv:V ⟨λ_ _=>none,λ_=>none⟩ x v:=rj hx;exact⟨v,λw'=>by simp[zeroValue,ir hi,hz],by rw[<-(VL.cells hv (mJ h.2)).1,h.1]⟩
 ·cases h
theorem yd(hs:eG G s w){t u ty e:Nat}{x z:AV}{xv yv:Value}(hx:V G x xv){new:List AV}{news:Array Value}(he:dy P t=some e)
  (rY: ∀sz,cK P e=some sz->(∀y∈new,y.cells.length=sz)/\Src P w u e yv sz new.length news) (kI: ∀y∈de new,y.cJ=true) (DK:VL G (de new) news)
  (h:eX P t x new s=some (z,s')):tu P G s w (Builtin.append_ #[t,u] ty #[xv,yv]) z s':=by
 unfold eX at h;rw[he]at h;simp only at h;split at h
 case h_2=>cases h
 rename_i sz vp eB Kg;split at h
 case isFalse=>cases h
 rename_i hc;obtain⟨h0,hb,hz⟩:=hc;obtain⟨aal,rY⟩:=rY sz eB;obtain⟨zv,WG,Qc⟩:=Gr hz;have ht:=fA he;have R0:news.size=new.length*sz:=by rw[<-DK.1,dD aal]
 have nothing:new=[]-> ∀{bG:Option Addr}{sLen sCap:Nat},xv=.slice bG sLen sCap->sLen<=sCap->(bG=none->sCap=0)->(Builtin.append_ #[t,u] ty #[xv,yv]).run P w=.ok xv w:=by
  intro hn bG sLen sCap WH eR Qd;subst hn;subst WH;have fG:news= #[]:=by
   grind
  subst fG;cases bG with
  |none=>
   grind [w9]
  |some ad=>exact sw ht eB Kg hb rY (by grind) (by rfl)
 have grow: ∀{bG:Option Addr}{sLen sCap:Nat}{B8:Array Value}{tq:List AV},sCap<sLen+new.length->sLen+new.length<=bc->tq.length=sLen->(∀y∈tq,y.cells.length=sz)->(∀y∈de tq,y.cJ=true)->
   VL G (de tq) B8->(∀w',(∀a,w'.cell? a=w.cell? a)->(Builtin.firstCells sz sLen (.slice bG sLen sCap)).run P w'=.ok B8 w')->
   ∃v w',(Builtin.append_ #[t,u] ty #[.slice bG sLen sCap,yv]).run P w=.ok v w'/\ ∃G',V G' (.ms s.bN 0 (sLen+new.length)) v/\
    eG G' ⟨(s.bN,.cells sz (tq++new))::s.heap,s.bN+1⟩ w'/\Ext G s w G' ⟨(s.bN,.cells sz (tq++new))::s.heap,s.bN+1⟩ w':=by
  intro bG sLen sCap B8 tq pL w8 Kh aam abw holds fP;have Im:=yc (w:=w) (ty:=ty) ht eB Kg hb rY pL w8 WG fP;have R2:=holds.append DK;have L7:=grownCap_ge w (sLen+new.length) sCap e;generalize grownCap w (sLen+new.length) sCap e=nc at Im L7;have vr:(B8++news++Builtin.zeroCells zv.cells (nc-(sLen+new.length))).size=nc*sz:=by
   have h1:B8.size=sLen*sz:=by rw[<-holds.1,dD aam,Kh]
   simp only[Array.size_append,size_zeroCells,Qc,h1,R0];rw[<-F3,<-F3]
   grind
  obtain⟨q1,q2⟩:=hs.drew.put (o:=.cells (B8++news++Builtin.zeroCells zv.cells (nc-(sLen+new.length))) e) (blk:=.cells sz (tq++new)) (r:=⟨w.heap.size,0,sz,nc*sz⟩) rfl
   (.cells _ _ _ _ vr rfl h0 (λy hy=>by
     grind) (λy hy=>by
     grind [dx]) (by simp_all[DA]) λk y hy=>by
     rw[dx]at hy;obtain⟨v,e1,e2⟩:=R2.get hy;refine⟨v,?_,e2.mono (.put (hs.cj _ (fw _)))⟩
     grind)
  refine⟨_,_,Im,_,?_,q1,(Ext.drew G s w).trans hs q2⟩;exact .ms s.bN 0 _ _ ⟨w.heap.size,0,sz,nc*sz⟩ 0 (by simp[bS.put]) L7 (by simp) (λ_=>by simp)
 split at h
 ·rename_i full elems;obtain⟨bG,cap,rfl,eR,jX,Qd,WE⟩:=V.oY hx;split at h
  ·grind [dN]
  ·rename_i hn;split at h
   case isFalse=>cases h
   rename_i hc;obtain⟨rfl,w8,tQ⟩:=hc;cases h;have Ax:0<new.length:=PX.2 hn;obtain⟨f1,f2,f3,f4⟩:=fQ (P:=P) (e:=e) hs hx (l:=elems) rfl eB tQ;obtain⟨vs,g1,g2⟩:=f4 elems.length (fw _);rw[LH]at g2;obtain⟨v,w',e1,G',e2,e3,e4⟩:=grow (sCap:=cap) (by grind) w8 rfl f1 f2 g2 g1;exact⟨v,G',w',e1,e2,e3,e4⟩
 ·rename_i id bq len;have Tn:=hx;cases hx with
  |gO _ _ cap bG hc=>
   subst hc;split at h
   ·simp_all[dN]
   ·rename_i hn;split at h
    case h_2=>cases h
    rename_i cq elems hg;split at h
    case isFalse=>cases h
    rename_i hc;obtain⟨rfl,dK,w8⟩:=hc;cases h;have Ax:0<new.length:=PX.2 hn;have Mg:fk (.ms id bq 0) s=some ((elems.drop bq).take 0):=by simp[fk,hg];grind
    obtain⟨f1,f2,f3,f4⟩:=fQ (P:=P) (e:=e) hs Tn Mg eB (by simp[jS,hg,eB]);obtain⟨vs,g1,g2⟩:=f4 0 (by omega);rw[sq (by simp)]at g2;obtain⟨v,w',e1,G',VS,e3,e4⟩:=grow (bG:=bG) (sCap:=0) (by omega) w8 (by simp) f1 f2 g2 g1;have xa: ∀i b,bn ((s.bN,gM.cells cq ((elems.drop bq).take 0++new))::dZ s.heap id) i=some b->bn ((s.bN,gM.cells cq ((elems.drop bq).take 0++new))::s.heap) i=some b:=λi b hi=>by
     simp only[df,cG]at hi |-
     split at hi
     all_goals simp_all[fO]
    refine⟨v,G',w',e1,VS,e3.drop xa (fw _),e4.trans hs (Ext.drop xa (fw _) λi hi=>?_)⟩;simp only[df,cG]at hi |-
    split at hi
    ·cases hi
    ·rename_i hq;rw[fN hq,fO,fN (λe=>by grind)];exact hi
  |ms _ _ _ cap r addr ho eR ga iK=>
   split at h
   ·grind [dN]
   ·rename_i hn;split at h
    case h_2=>cases h
    rename_i cq elems hg;split at h
    case isFalse=>cases h
    rename_i hc;obtain⟨rfl,dK,w8⟩:=hc;cases h;have Ax:0<new.length:=PX.2 hn;obtain⟨o,e2,e3⟩:=hs.at hg ho;cases e3 with
    |cells _ _ cs te vr eo h0' jR Mh Gn hV=>
     subst eo;have Mg:fk (.ms id bq len) s=some ((elems.drop bq).take len):=by simp[fk,hg,dK]
     obtain⟨f1,f2,f3,f4⟩:=fQ (P:=P) (e:=e) hs Tn Mg eB (by simp[jS,hg,eB]);have Kh:((elems.drop bq).take len).length=len:=by simp;omega
     by_cases pL:len+new.length<=cap
     ·
       have WI:=iK (by omega);subst WI;have aan:bq*r.cq+len*r.cq+new.length*r.cq<=(bq+cap)*r.cq:=by
        rw[<-F3,<-F3];exact DA _ (by omega)
       have tQ:r.bG+bq*r.cq+len*r.cq+news.toList.length<=cs.size:=by
        grind
       have fP:=run_storeCells_at P r.block (r.bG+bq*r.cq+len*r.cq) te news.toList 0 cs w e2 (by grind) (DK.tP kI);simp only[F0]at fP;have hA:=sw (w:=w) (ty:=ty) (ad:=⟨r.block,r.bG+bq*r.cq,none⟩) (sLen:=len) (sCap:=cap) ht eB Kg hb rY pL (by rw[nP];exact fP);have sH:(de ((elems.drop bq).take len)).length=len*r.cq:=by rw[dD f1,Kh]
       obtain⟨q1,q2⟩:=eG.move (w':=w.setRow r.block (cs.toList.take (r.bG+bq*r.cq+len*r.cq)++news.toList++cs.toList.drop (r.bG+bq*r.cq+len*r.cq+news.toList.length)).toArray)
        (sD:=.cells r.cq ((elems.drop bq).take len++new)) (r':=⟨r.block,r.bG+bq*r.cq,r.cq,r.size⟩) hs hg ho rfl (by simp_all) rfl rfl rfl
        (λb hb=>setRow_other w _ _ _ hb) (setRow_heap w _ cs _ te _ e2)
        (.cells _ _ _ _ (by grind) rfl h0 (λy hy=>by
         grind) (λy hy=>by
         grind [dx]) (by rw[re,Kh,F3];grind) λk y hy=>by
         have WJ:ss G (G.put s.bN ⟨r.block,r.bG+bq*r.cq,r.cq,r.size⟩):=.put (hs.cj _ (fw _));show∃v,_[r.bG+bq*r.cq+k]? =some v/\_;rw[dx]at hy;rw[lP _ _ _ _ tQ];by_cases hk:k<len*r.cq
         ·rw[ez (by omega)];rw[Aq (by omega)]at hy;have VR:(de (((elems.take (bq+len))).drop bq))[k]? =some y:=by
           grind
          have ye:=ij (n:=bq+len) jR h0 VR;obtain⟨v,q1,q2⟩:=hV _ y ye;exact⟨v,by grind,q2.mono WJ⟩
         ·rw[fN (by omega)];rw[DB (by omega),sH]at hy;obtain⟨v,q1,q2⟩:=DK.get hy;have kc:k-len*r.cq<news.size:=(VG.1 q1).1;rw[ez (by grind)];refine⟨v,?_,q2.mono WJ⟩;rw[show r.bG+bq*r.cq+k-(r.bG+bq*r.cq+len*r.cq)=k-len*r.cq from by omega]
          grind) (by simp)
       refine⟨_,_,_,hA,?_,q1,q2⟩;exact .ms s.bN 0 _ cap ⟨r.block,r.bG+bq*r.cq,r.cq,r.size⟩ _ (by simp[bS.put]) pL
        (by grind) (λ_=>by simp)
     ·
       obtain⟨vs,g1,g2⟩:=f4 len (by omega);rw[sq (by omega)]at g2;obtain⟨v,w',e1,G',VS,e3,e4⟩:=grow (bG:=some ⟨r.block,addr,none⟩) (sCap:=cap) (by omega) w8 Kh f1 f2 g2 g1;have xa: ∀i b,bn ((s.bN,gM.cells r.cq ((elems.drop bq).take len++new))::dZ s.heap id) i=some b->bn ((s.bN,gM.cells r.cq ((elems.drop bq).take len++new))::s.heap) i=some b:=λi b hi=>by
        simp only[df,cG]at hi |-
        split at hi
        all_goals simp_all[fO]
       refine⟨v,G',w',e1,VS,e3.drop xa (fw _),e4.trans hs (Ext.drop xa (fw _) λi hi=>?_)⟩;simp only[df,cG]at hi |-
       split at hi
       ·cases hi
       ·rename_i hq;rw[fN hq,fO,fN (λe=>by grind)];exact hi
 ·rename_i id bq len cap;split at h
  case h_2=>cases h
  rename_i cq elems hg;split at h
  case isFalse=>cases h
  rename_i hc;obtain⟨hn,rfl,dK,pL,w8⟩:=hc;cases h;have Mg:fk (.ms id bq len) s=some ((elems.drop bq).take len):=by simp[fk,hg,dK]
  have Kh:((elems.drop bq).take len).length=len:=by simp;omega
  have fin: ∀{bG:Option Addr},V G (.ms id bq len) (.slice bG len cap)->xv=.slice bG len cap->tu P G s w (Builtin.append_ #[t,u] ty #[xv,yv]) (.ms s.bN 0 (len+new.length)) ⟨(s.bN,.cells cq ((elems.drop bq).take len++new))::s.heap,s.bN+1⟩:=by
   intro bG Tn WH;subst WH;obtain⟨f1,f2,f3,f4⟩:=fQ (P:=P) (e:=e) hs Tn Mg eB (by simp[jS,hg,eB]);obtain⟨vs,g1,g2⟩:=f4 len (by omega);rw[sq (by omega)]at g2;obtain⟨v,w',e1,G',VS,e3,e4⟩:=grow (bG:=bG) (sCap:=cap) pL w8 Kh f1 f2 g2 g1;exact⟨v,G',w',e1,VS,e3,e4⟩
  cases hx with
  |mE _ _ bG=>exact fin (.gO _ _ _ _ rfl) rfl
  |mc _ _ _ _ r addr ho eR ga iK=>exact fin (.ms _ _ _ _ r addr ho eR ga iK) rfl
 ·cases h
end
end Go.Am
end
section
namespace Go.Am
open Go.RowKit
section
variable {P:Program} {G:bS} {s s':St} {w:World} {bf:Env} {a:Act}
theorem A0(hs:eG G s w){t u ty e:Nat}{yv:Value}{y:AV}(hy:V G y yv){new:List AV}(he:dy P t=some e)(jR:fk y s=some new)(hf:jS P e y s)
  {id bq len cap cq addr:Nat} {elems:List AV} {r:tx} (hg:bn s.heap id=some (.cells cq elems)) (eB:cK P e=some cq) (Qe:bq<=elems.length)
  (ho:G.own id=some r) (eR:len<=cap) (ga:r.bG+(bq+cap)*r.cq<=r.size) (iK:0<cap->addr=r.bG+bq*r.cq):
  tu P G s w (Builtin.copy_ #[t,u] ty #[.slice (some ⟨r.block,addr,none⟩) len cap,yv]) (.int .i64 (min new.length len:Nat)) ⟨dM s.heap id (.cells cq (elems.take bq++(new.take (min new.length len)++elems.drop (bq+min new.length len)))),s.bN⟩:=by
 have ht:=fA he;obtain⟨o,e2,e3⟩:=hs.at hg ho;cases e3 with
 |cells _ _ cs te vr eo h0 Mi Mh Gn hV=>
  subst eo;obtain⟨f1,f2,f3,f4⟩:=fQ (P:=P) hs hy jR eB hf;have Y2:Nat.min new.length len<=new.length:=Nat.min_le_left _ _;obtain⟨vs,g1,g2⟩:=f4 (Nat.min new.length len) Y2;have To:Nat.min new.length len<=len:=Nat.min_le_right _ _;have aao:min new.length len=Nat.min new.length len:=rfl;have Tp:(new.take (Nat.min new.length len)).length=Nat.min new.length len:=by grind
  have sH: ∀y∈new.take (Nat.min new.length len),y.cells.length=r.cq:=λy hy=>f1 y (JZ hy);have Gs:vs.size=Nat.min new.length len*r.cq:=by rw[<-g2.1,dD sH,Tp]
  have Tq: ∀y∈de (new.take (Nat.min new.length len)),y.cJ=true:=λy hy=>f2 y (by
   rw[de,tw]at hy |-
   grind)
  rw[aao];generalize hn:Nat.min new.length len=n at *;by_cases Tj:n=0
  ·subst Tj;have:vs= #[]:=VH (by grind);subst this;have nD:elems.take bq++(new.take 0++elems.drop (bq+0))=elems:=by simp
   rw[nD];have gn: ∀i b,bn (dM s.heap id (.cells r.cq elems)) i=some b->bn s.heap i=some b:=λi b hi=>by
    grind [eK]
   refine⟨_,G,w,?_,V.int .i64 ((0:Nat):Int),hs.drop gn (fw _),Ext.drop gn (fw _) λi hi=>?_⟩
   ·simp[Builtin.copy_,run_underlying ht,f3,dU eB,hn,g1 w (λ_=>rfl),storeCells,goInt]
   grind [eK]
  ·have WI:=iK (by omega);subst WI;have tQ:r.bG+bq*r.cq+vs.toList.length<=cs.size:=by
    simp only[zD2];rw[Gs,vr,RW,<-F3];exact AW (YN (DA _ (by omega)) _) ga
   have fP:=run_storeCells_at P r.block (r.bG+bq*r.cq) te vs.toList 0 cs w e2 (by grind) (g2.tP Tq);simp only[F0]at fP;have Kb: ∀y∈elems.take bq++(new.take n++elems.drop (bq+n)),y.cells.length=r.cq:=λy hy=>by
    grind
   have hfs:(de (elems.take bq)).length=bq*r.cq:=by
    simp_all[dD]
   have Qf:(de (new.take n)).length=n*r.cq:=by rw[dD sH,Tp]
   obtain⟨q1,q2⟩:=yb hs hg ho e2 (elems':=elems.take bq++(new.take n++elems.drop (bq+n))) (cs':=(cs.toList.take (r.bG+bq*r.cq)++vs.toList++cs.toList.drop (r.bG+bq*r.cq+vs.toList.length)).toArray)
    (by grind) rfl h0 Kb (λy hy=>by
     rw[dx,dx]at hy;simp only[oq]at hy;have q: ∀(l:List AV),(∀z∈l,z∈elems)-> ∀y∈de l,y.cJ=true:=λl hl y hy=>Mh y (by
      rw[de,tw]at hy |-
      grind)
     grind)
    (by
     have q:(elems.take bq++(new.take n++elems.drop (bq+n))).length=max elems.length (bq+n):=by grind
     rw[q];rcases Nat.le_total elems.length (bq+n)with c|c
     ·rw[Nat.max_eq_right c];grind
     grind) λk y hk=>by
     rw[dx,dx]at hk;rw[lP _ _ _ _ tQ];by_cases c1:k<bq*r.cq
     ·rw[ez (by omega)];rw[Aq (by omega)]at hk;have ye:=ij (n:=bq) (l:=0) Mi h0 (k:=k) (x:=y) (by grind)
      grind
     ·rw[fN (by omega)];rw[DB (by omega),hfs]at hk;by_cases c2:k<bq*r.cq+n*r.cq
      ·rw[ez (by grind)];rw[Aq (by omega)]at hk;obtain⟨v,p1,p2⟩:=g2.get hk;refine⟨v,?_,p2⟩;rw[show r.bG+k-(r.bG+bq*r.cq)=k-bq*r.cq from by omega]
       grind
      ·rw[fN (by grind)];rw[DB (by omega),Qf]at hk;have ye:=ij (n:=elems.length) (l:=bq+n) Mi h0 (k:=k-bq*r.cq-n*r.cq) (x:=y) (by grind);rw[show(bq+n)*r.cq+(k-bq*r.cq-n*r.cq)=k from by grind]at ye
       grind
   refine⟨_,G,_,?_,V.int .i64 (n:Int),q1,q2⟩;simp[Builtin.copy_,run_underlying ht,f3,dU eB,hn,g1 w (λ_=>rfl),fP,goInt]
theorem DL(hs:eG G s w){t u ty e:Nat}{x z:AV}{xv yv:Value}(hx:V G x xv){y:AV}(hy:V G y yv){new:List AV}(he:dy P t=some e)(jR:fk y s=some new)(hf:jS P e y s)
  (h:pJ P t x new s=some (z,s')):tu P G s w (Builtin.copy_ #[t,u] ty #[xv,yv]) z s':=by
 unfold pJ at h;rw[he]at h;simp only at h;have ht:=fA he;split at h
 ·rename_i id bq len;split at h
  case h_2=>cases h
  rename_i cq elems hg;split at h
  case isFalse=>cases h
  rename_i hc;obtain⟨eB,Qe⟩:=hc;cases h;cases hx with
  |gO _ _ cap bG hc=>
   subst hc;have nD:elems.take bq++(new.take (min new.length 0)++elems.drop (bq+min new.length 0))=elems:=by simp
   rw[nD];have gn: ∀i b,bn (dM s.heap id (.cells cq elems)) i=some b->bn s.heap i=some b:=λi b hi=>by
    grind [eK]
   obtain⟨f1,f2,f3,f4⟩:=fQ (P:=P) hs hy jR eB hf;obtain⟨vs,g1,g2⟩:=f4 0 (Ds _);have Gs:vs= #[]:=VH (by rw[<-g2.1];simp[de]);subst Gs;refine⟨_,G,w,?_,by simpa using V.int .i64 ((0:Nat):Int),hs.drop gn (fw _),Ext.drop gn (fw _) λi hi=>?_⟩
   ·cases bG<;>simp[Builtin.copy_,run_underlying ht,f3,dU eB,g1 w (λ_=>rfl),storeCells,goInt]
   grind [eK]
  |ms _ _ _ cap r addr ho eR ga iK=>grind [A0]
 ·rename_i id bq len cap;split at h
  case h_2=>cases h
  rename_i cq elems hg;split at h
  case isFalse=>cases h
  rename_i hc;obtain⟨eB,Qe⟩:=hc;cases h;cases hx with
  |mE _ _ bG=>
   have nD:elems.take bq++(new.take (min new.length 0)++elems.drop (bq+min new.length 0))=elems:=by simp
   rw[nD];have gn: ∀i b,bn (dM s.heap id (.cells cq elems)) i=some b->bn s.heap i=some b:=λi b hi=>by
    grind [eK]
   obtain⟨f1,f2,f3,f4⟩:=fQ (P:=P) hs hy jR eB hf;obtain⟨vs,g1,g2⟩:=f4 0 (Ds _);have Gs:vs= #[]:=VH (by rw[<-g2.1];simp[de]);subst Gs;refine⟨_,G,w,?_,by simpa using V.int .i64 ((0:Nat):Int),hs.drop gn (fw _),Ext.drop gn (fw _) λi hi=>?_⟩
   ·cases bG<;>simp[Builtin.copy_,run_underlying ht,f3,dU eB,g1 w (λ_=>rfl),storeCells,goInt]
   grind [eK]
  |mc _ _ _ _ r addr ho eR ga iK=>grind [A0]
 ·rename_i full elems;split at h
  case isFalse=>cases h
  rename_i hc;cases h;obtain⟨bG,cap,rfl,eR,_,_,_⟩:=V.oY hx;cases hq:cK P e with
  |none=>grind
  |some sz=>
   obtain⟨f1,f2,f3,f4⟩:=fQ (P:=P) hs hy jR hq hf;obtain⟨vs,g1,g2⟩:=f4 0 (Ds _);have Gs:vs= #[]:=VH (by rw[<-g2.1];simp[de]);subst Gs;have hn:Nat.min new.length elems.length=0:=hc.1;refine dN hs (v:=goInt 0) ?_ (.int _ _);cases bG<;>simp[Builtin.copy_,run_underlying ht,f3,dU hq,hn,g1 w (λ_=>rfl),storeCells,goInt]
 ·cases h
theorem Mj{x:AV}{v:Value}{n:Nat}(hx:V G x v)(h:P2 x=some n): ∃bG cap,v=.slice bG n cap:=by
 cases hx<;>cases h<;>exact⟨_,_,rfl⟩
theorem Ki(hs:eG G s w){t u ty:Nat}{x z:AV}{xv yv:Value}(hx:V G x xv){id bq len cap:Nat}(hy:V G (.mc id bq len cap) yv)
  (h:vq P t x id bq len s=some (z,s')):tu P G s w (Builtin.copy_ #[t,u] ty #[xv,yv]) z s':=by
 unfold vq at h;split at h
 case h_2=>cases h
 rename_i e cq elems n he hg hn;split at h
 case isFalse=>cases h
 rename_i hc;obtain⟨eB,ga⟩:=hc;obtain⟨bG,c,rfl⟩:=Mj hx hn;have trim: ∀b m,yv=.slice b len m->V G (.ms id bq (min len n)) (.slice b (min len n) m)->tu P G s w (Builtin.copy_ #[t,u] ty #[.slice bG n c,yv]) z s':=λb m hb hv=>by
  have hd:=DL (u:=u) (ty:=ty) hs hx hv he (new:=(elems.drop bq).take (min len n)) (by simp[fk,hg,ga]) (by simp[jS,hg,eB]) h;have e1:Nat.min (min len n) n=Nat.min len n:=by grind
  obtain⟨v,G',w',h1,h2⟩:=hd;refine⟨v,G',w',?_,h2⟩;subst hb;rw[<-h1];simp only[Builtin.copy_,Builtin.lenOf];simp[run_underlying (fA he),dU eB,e1];cases b<;>simp[Builtin.firstCells]
 cases hy with
 |mE _ _ b=>
  refine trim b 0 rfl ?_;rw[Nat.zero_min];exact .gO _ _ _ _ rfl
 |mc _ _ _ _ r addr ho eR Qb iK=>exact trim _ _ rfl (.ms _ _ _ _ r addr ho (by omega) Qb iK)
theorem nb(n:Nat)(z:AV){k:Nat}{x:AV}(h0:0<z.cells.length)(h:(de (List.replicate n z))[k]? =some x):k<n*z.cells.length/\z.cells[k%z.cells.length]? =some x:=by
 grind [dD,xS]
theorem Mk(hs:eG G s w){t:Nat}{l c z:AV}{lv cv:Value}(hl:V G l lv)(hcv:V G c cv)(h:xW P t l c s=some (z,s')):tu P G s w (Instr.makeSlice t lv cv) z s':=by
 unfold xW at h;split at h
 case h_2=>cases h
 rename_i k1 n k2 m e he;cases hl;cases hcv;split at h
 case h_2=>cases h
 rename_i sz vp zz eB Kg hz;split at h
 case isFalse=>cases h
 rename_i hc;obtain⟨h1,h2,h3,h4,h5,h6,h7⟩:=hc;cases h;have ht:=fA he;obtain⟨i,hi,rfl⟩:=mZ eB;obtain⟨i',F7,rfl⟩:=qi Kg;rw[hi]at F7;cases F7;obtain⟨zv,WG,Ml⟩:=kv hz w G;have DM:=VL.cells Ml (mJ h6);have h3':=h3;unfold bc at h3';have w1:IntKind.i64.wrap n=n:=oZ h1 (by omega);have w2:IntKind.i64.wrap m=m:=oZ (by omega) h3;have hb: ¬(281474976710656<(i.bytes:Int)*m):=by
  have h6:(i.bytes:Int)*m<=4096*m:=Int.mul_le_mul_of_nonneg_right (by omega) (by omega);omega
 have n1: ¬(m<0):=by omega
 have n2: ¬(n<0):=by omega
 have n3: ¬(m<n):=by omega
 have hzs:zv.cells.size=i.size:=by rw[<-DM.1,h5]
 obtain⟨q1,q2⟩:=hs.put (o:=.cells ((Array.range (m.toNat*i.size)).map (λj=>(if m.toNat*i.size=0 then #[]else zv.cells)[j%(if m.toNat*i.size=0 then #[]else zv.cells).size]!)) e)
  (blk:=.cells i.size (List.replicate n.toNat zz)) (r:=⟨w.heap.size,0,i.size,m.toNat*i.size⟩) rfl
  (.cells _ _ _ _ (by simp) rfl h4 (λy hy=>by grind) (λy hy=>by
    rw[de,tw]at hy
    grind) (by simp only[J0,Wm];exact DA _ (by omega)) λk y hk=>by
    obtain⟨p1,p2⟩:=nb _ _ (by omega) hk;have kc:k<m.toNat*i.size:=by
     rw[h5]at p1;exact RU p1 (DA _ (by omega))
    obtain⟨v,r1,r2⟩:=DM.get p2;refine⟨v,?_,r2.mono (.put (hs.cj _ (fw _)))⟩
    grind)
 refine⟨.slice (some ⟨w.heap.size,0,none⟩) n.toNat m.toNat,_,_,?_,?_,q1,q2⟩
 ·by_cases hN:m.toNat*i.size=0
  ·have hN':m.toNat=0\/i.size=0:=YO.1 hN;have B9:m=0:=by omega
   have Tj:n=0:=by omega
   subst B9;subst Tj;simp[Instr.makeSlice,run_underlying ht,asInt,asIntOf,ir hi,w1,sizeOf,newRow]
  ·simp only[fN hN];have hN': ¬(m.toNat=0\/i.size=0):=λh=>hN (YO.2 h);have B9: ¬(m<=0\/i.size=0):=by omega
   have pW: ¬(281474976710656<(i.bytes:Int)*m):=hb;simp[Instr.makeSlice,run_underlying ht,asInt,asIntOf,ir hi,w1,w2,n1,n2,n3,pW,sizeOf,newRow,hN,WG]
 ·exact .ms s.bN 0 _ _ ⟨w.heap.size,0,i.size,m.toNat*i.size⟩ 0 (by simp[bS.put]) (by omega) (by simp) (λ_=>by simp)
theorem Gt(hs:eG G s w){id bq len cap cq:Nat}{elems new:List AV}{r:tx}{vs:Array Value}(hg:bn s.heap id=some (.cells cq elems))(ho:G.own id=some r)(eR:len<=cap)
  (ga:r.bG+(bq+cap)*r.cq<=r.size) (Qe:bq<=elems.length) (R0:new.length=len) (sH: ∀y∈new,y.cells.length=cq) (Tq: ∀y∈de new,y.cJ=true) (g2:VL G (de new) vs):
  ∃w',(storeCells ⟨r.block,r.bG+bq*r.cq,none⟩ vs.toList 0).run P w=.ok () w'/\eG G ⟨dM s.heap id (.cells cq (elems.take bq++(new++elems.drop (bq+len)))),s.bN⟩ w'/\
   Ext G s w G ⟨dM s.heap id (.cells cq (elems.take bq++(new++elems.drop (bq+len)))),s.bN⟩ w':=by
 obtain⟨o,e2,e3⟩:=hs.at hg ho;cases e3 with
 |cells _ _ cs te vr eo h0 Mi Mh Gn hV=>
  subst eo;have Gs:vs.size=len*r.cq:=by rw[<-g2.1,dD sH,R0]
  have tQ:r.bG+bq*r.cq+vs.toList.length<=cs.size:=by
   simp only[zD2];rw[Gs,vr,RW,<-F3];exact AW (YN (DA _ (by omega)) _) ga
  have fP:=run_storeCells_at P r.block (r.bG+bq*r.cq) te vs.toList 0 cs w e2 (by grind) (g2.tP Tq);simp only[F0]at fP;have Kb: ∀y∈elems.take bq++(new++elems.drop (bq+len)),y.cells.length=r.cq:=λy hy=>by
   grind
  have hfs:(de (elems.take bq)).length=bq*r.cq:=by
   simp_all[dD]
  have Qf:(de new).length=len*r.cq:=by rw[dD sH,R0]
  obtain⟨q1,q2⟩:=yb hs hg ho e2 (elems':=elems.take bq++(new++elems.drop (bq+len))) (cs':=(cs.toList.take (r.bG+bq*r.cq)++vs.toList++cs.toList.drop (r.bG+bq*r.cq+vs.toList.length)).toArray)
   (by grind) rfl h0 Kb (λy hy=>by
    rw[dx,dx]at hy;simp only[oq]at hy;have q: ∀(l:List AV),(∀z∈l,z∈elems)-> ∀y∈de l,y.cJ=true:=λl hl y hy=>Mh y (by
     rw[de,tw]at hy |-
     grind)
    grind)
   (by
    have q:(elems.take bq++(new++elems.drop (bq+len))).length=max elems.length (bq+len):=by grind
    rw[q];rcases Nat.le_total elems.length (bq+len)with c|c
    ·rw[Nat.max_eq_right c];grind
    grind) λk y hk=>by
    rw[dx,dx]at hk;rw[lP _ _ _ _ tQ];by_cases c1:k<bq*r.cq
    ·rw[ez (by omega)];rw[Aq (by omega)]at hk;have ye:=ij (n:=bq) (l:=0) Mi h0 (k:=k) (x:=y) (by grind)
     grind
    ·rw[fN (by omega)];rw[DB (by omega),hfs]at hk;by_cases c2:k<bq*r.cq+len*r.cq
     ·rw[ez (by grind)];rw[Aq (by omega)]at hk;obtain⟨v,p1,p2⟩:=g2.get hk;refine⟨v,?_,p2⟩
      grind
     ·rw[fN (by grind)];rw[DB (by omega),Qf]at hk;have ye:=ij (n:=elems.length) (l:=bq+len) Mi h0 (k:=k-bq*r.cq-len*r.cq) (x:=y) (by grind);rw[show(bq+len)*r.cq+(k-bq*r.cq-len*r.cq)=k from by grind]at ye
      grind
  grind
theorem Kj(hs:eG G s w){t ty:Nat}{x z:AV}{xv:Value}{ts:Array TypeId}(ht0:ts[0]? =some t)(hx:V G x xv)(h:Gj P t x s=some (z,s')):tu P G s w (Builtin.clear_ ts ty #[xv]) z s':=by
 unfold Gj at h;split at h
 case h_2=>cases h
 rename_i e id bq len he;have ht:=fA he;split at h
 case h_2=>cases h
 rename_i cq elems zz hg hz;split at h
 case isFalse=>cases h
 rename_i hc;obtain⟨eB,DM,hzs,Qe⟩:=hc;cases h;have nothing:len=0->eG G ⟨dM s.heap id (.cells cq (elems.take bq++(List.replicate len zz++elems.drop (bq+len)))),s.bN⟩ w/\Ext G s w G ⟨dM s.heap id (.cells cq (elems.take bq++(List.replicate len zz++elems.drop (bq+len)))),s.bN⟩ w:=λh0=>by
  subst h0;have nD:elems.take bq++(List.replicate 0 zz++elems.drop (bq+0))=elems:=by simp
  rw[nD];have gn: ∀i b,bn (dM s.heap id (.cells cq elems)) i=some b->bn s.heap i=some b:=λi b hi=>by
   grind [eK]
  refine⟨hs.drop gn (fw _),Ext.drop gn (fw _) λi hi=>?_⟩
  grind [eK]
 have Mm:V G (.dS []) (.tuple #[]):=.dS [] #[] rfl (by simp);cases hx with
 |gO _ _ cap bG hc=>
  obtain⟨q1,q2⟩:=nothing rfl;refine⟨_,G,w,?_,Mm,q1,q2⟩;cases bG<;>simp[Builtin.clear_,ht0,run_underlying ht]
 |ms _ _ _ cap r addr ho eR ga iK=>
  by_cases h0:len=0
  ·obtain⟨q1,q2⟩:=nothing h0;refine⟨_,G,w,?_,Mm,q1,q2⟩;subst h0;simp[Builtin.clear_,ht0,run_underlying ht]
  ·have WI:=iK (by omega);subst WI;obtain⟨zv,WG,Ml⟩:=kv hz w G;have WK:=VL.cells Ml (mJ hzs);have Qc:zv.cells.size=cq:=by rw[<-WK.1,DM]
   have Ax:0<cq:=by
    obtain⟨o,_,e3⟩:=hs.at hg ho;cases e3 with
    |cells _ _ _ _ _ _ h0=>exact h0
   have R2:VL G (de (List.replicate len zz)) (Builtin.zeroCells zv.cells len):=by
    have jB: ∀y∈List.replicate len zz,y.cells.length=cq:=λy hy=>by grind
    refine⟨by rw[dD jB];simp[Builtin.zeroCells,Qc],λk x y hk hy=>?_⟩;obtain⟨p1,p2⟩:=nb len zz (by omega) hk;obtain⟨v,r1,r2⟩:=WK.get p2;have Gu:zv.cells[k%cq]! =v:=by grind
    rw[DM]at p1;simp only[Builtin.zeroCells,Array.getElem?_map,Qc]at hy
    grind
   obtain⟨w',q0,q1,q2⟩:=Gt (P:=P) hs hg ho eR ga (by omega) (Wm) (λy hy=>by grind) (λy hy=>by
    rw[de,tw]at hy
    grind) R2
   refine⟨_,G,w',?_,Mm,q1,q2⟩;obtain⟨n,rfl⟩: ∃n,len=n+1:=⟨len-1,by omega⟩;simp[Builtin.clear_,ht0,run_underlying ht,WG,q0]
end
end Go.Am
end
section
namespace Go.Am
open Go.RowKit
section
variable {P:Program} {G:bS} {s s':St} {w:World} {bf:Env} {a:Act}
theorem yf(off:Nat): ∀(vs:List Value)(st:Nat)(cs:Array Value)(i:Nat),off+st+vs.length<=cs.size->
  (((vs.zipIdx st).foldl (λcs(x:Value×Nat)=>cs.setIfInBounds (off+x.2) x.1) cs))[i]? =if i<off+st then cs[i]? else if i<off+st+vs.length then vs[i-(off+st)]? else cs[i]?
 | [],st,cs,i,h=>by
  simp_all
 |v::r,st,cs,i,h=>by
  simp only[List.zipIdx_cons,VI,vl]at h |-
  rw[yf off r (st+1) _ i (by simp;omega),Array.getElem?_setIfInBounds]
  grind
theorem wk(off:Nat): ∀(vs:List Value)(st:Nat)(cs:Array Value),((vs.zipIdx st).foldl (λcs(x:Value×Nat)=>cs.setIfInBounds (off+x.2) x.1) cs).size=cs.size
 | [],st,cs=>rfl
 |v::r,st,cs=>by simp_all[wk]
theorem tT{bL place':Nat->Option (Nat×Nat)}(hp: ∀i q,bL i=some q->place' i=some q): ∀{bW:List (Nat×AV)}{sI:List (Nat×Value)}{cells l:List AV}{cv:Array Value},
  VL G cells cv->(bW.length=sI.length/\ ∀(i:Nat)p q,bW[i]? =some p->sI[i]? =some q->p.1=q.1/\V G p.2 q.2)->su bL cells bW=some l->
  ∃out,Instr.fill place' cv sI=some out/\VL G l out
 | [],sI,cells,l,cv,hv,mj,h=>by
  cases sI with
  |nil=>cases h;exact⟨cv,rfl,hv⟩
  |cons _ _=>simp at mj
 |(i,x)::r,sI,cells,l,cv,hv,mj,h=>by
  cases sI with
  |nil=>simp at mj
  |cons q r'=>
   obtain⟨j,v⟩:=q;obtain⟨dK,mj⟩:=mj;obtain⟨rfl,WH⟩:i=j/\V G x v:=mj 0 (i,x) (j,v) rfl rfl;simp only[su]at h;split at h
   case h_2=>cases h
   rename_i off n wm;split at h
   case isFalse=>cases h
   rename_i hc;obtain⟨h1,h2,h3⟩:=hc;have hl:=VL.cells WH (mJ h2);have Gs:v.cells.size=n:=by rw[<-hl.1,h1]
   have vr:cv.size=cells.length:=hv.1.symm;simp only[Instr.fill,hp i _ wm];rw[fN (by grind)];refine tT hp ?_ ⟨by grind,λk p q hk hq=>mj (k+1) p q (by grind) (by grind)⟩ h;have e:(v.cells.zipIdx.foldl (λcs(x:Value×Nat)=>cs.setIfInBounds (off+x.2) x.1) cv)=((v.cells.toList.zipIdx 0).foldl (λcs(x:Value×Nat)=>cs.setIfInBounds (off+x.2) x.1) cv):=by
    rw[<-Array.foldl_toList,Array.toList_zipIdx]
   refine⟨?_,λk y u hk hu=>?_⟩
   ·simp_all[nQ,wk]
   ·rw[pK _ _ _ _ (by omega)]at hk;change (v.cells.zipIdx.foldl (λcs(x:Value×Nat)=>cs.setIfInBounds (off+x.2) x.1) cv)[k]? =some u at hu;rw[e,yf _ _ _ _ _ (by grind)]at hu;simp only[F0,zD2,Gs,h1]at hu hk;split at hk
    ·rename_i c;rw[ez c]at hu;exact hv.2 k y u hk hu
    ·rename_i c;rw[fN c]at hu;split at hk
     ·rename_i c2;rw[ez c2]at hu;exact hl.2 _ y u hk (by grind)
     ·rename_i c2;rw[fN c2]at hu;exact hv.2 k y u hk hu
theorem tU(he:iL G bf a.tmps): ∀{l:List (Nat×Operand)}{xs:List (Nat×AV)},mq bf l=some xs->
  xs.length=(l.map λp=>(p.1,a.eval p.2)).length/\ ∀(i:Nat)p q,xs[i]? =some p->(l.map λp=>(p.1,a.eval p.2))[i]? =some q->p.1=q.1/\V G p.2 q.2
 | [],xs,h=>by simp[mq]at h;subst h;simp
 |(j,o)::r,xs,h=>by
  simp only[mq]at h;split at h
  ·rename_i x l h1 h2;cases h;obtain⟨e1,e2⟩:=tU he h2;refine⟨by simpa using e1,λi p q hp hq=>?_⟩;cases i with
   |zero=>simp at hp hq;subst hp;subst hq;exact⟨rfl,eJ he h1⟩
   |succ i=>exact e2 i p q (by simpa using hp) (by simpa using hq)
  ·cases h
theorem qk(w:World): ∀(fs:List Field),(fs.all λf=>(cK P f.type).isSome)=true->
  (fs.mapM λf=>Functor.map (Prod.mk f.offset) (sizeOf f.type)).run P w=.ok (fs.map λf=>(f.offset,(cK P f.type).getD 0)) w
 | [],_=>rfl
 |f::r,h=>by
  simp only[VJ,eU]at h;cases hq:cK P f.type with
  |none=>rw[hq]at h;cases h.1
  |some n=>
   have ih:=qk w r h.2;simp only[List.mapM_cons,Sem.run_bind,Sem.run_map,dU hq,Result.andThen_ok,ih,Sem.run_pure,Aj,hq,J1]
theorem Kk(hs:eG G s w)(he:iL G bf a.tmps){t:Nat}{bW:Array (Nat×Operand)}{l:List (Nat×AV)}{x:AV}(hl:mq bf bW.toList=some l)(h:xX P t l=some x):
  tu P G s w (Instr.build t (bW.map λ(i,x)=>(i,a.eval x))) x s:=by
 have hp:=tU he hl;unfold xX at h;split at h
 case h_2=>cases h
 rename_i cs hz;obtain⟨zv,PE,Ml⟩:=kv hz w G;have DM:=VL.cells Ml (by simp);split at h
 ·rename_i ja;split at h
  case h_2=>cases h
  rename_i out As;cases h;unfold xn at ja;split at ja
  case h_2=>cases ja
  rename_i fs hu;have hm:=qk w fs.toList ja;obtain⟨ov,f1,f2⟩:=tT (place':=λi=>((fs.toList.map λ(f:Field)=>(f.offset,(cK P f.type).getD 0)).toArray)[i]?) (λi q hq=>by
   grind [ya]) DM hp As
  refine dN hs (v:=.agg ov) ?_ (.agg _ _ f2.1 f2.2);simp only[Instr.build,Sem.run_bind,PE,Result.andThen_ok,run_underlying hu,Array.mapM_eq_mapM_toList,Sem.run_map];simp_all
 ·split at h
  case h_2=>cases h
  rename_i m e hu;split at h
  case h_2=>cases h
  rename_i sz eB;split at h
  case h_2=>cases h
  rename_i out As;cases h;obtain⟨ov,f1,f2⟩:=tT (place':=λi=>some (i*sz,sz)) (λi q hq=>hq) DM hp As;refine dN hs (v:=.agg ov) ?_ (.agg _ _ f2.1 f2.2);simp only[Instr.build,Sem.run_bind,PE,Result.andThen_ok,run_underlying (B3 hu),dU eB,Array.toList_map];simp_all
end
end Go.Am
end
section
namespace Go.Am
open Go.RowKit
section
variable {P:Program} {G:bS} {s s':St} {w:World} {bf:Env} {a:Act}
theorem sJ{sz:Nat}: ∀{bW:List (Nat×AV)}{st:Nat}{cells:List AV},ow bW st=true->(∀p∈bW,p.2.cells.length=sz/\p.2.cells.all AV.cJ=true)->
  cells.length=(st+bW.length)*sz->su (λi=>some (i*sz,sz)) cells bW=some (cells.take (st*sz)++de (bW.map (·.2)))
 | [],st,cells,_,_,hl=>by
  simp only[LY,F0]at hl;simp only[su,Ta,L8,wV]
  grind
 |(j,x)::r,st,cells,hn,hp,hl=>by
  simp only[ow,eU,beq_iff_eq]at hn;obtain⟨rfl,hn⟩:=hn;obtain⟨h1,h2⟩:=hp (j,x) (by simp);simp only[]at h1 h2;have eR:j*sz+sz<=cells.length:=by
   rw[hl,vl,<-Nat.succ_mul]
   grind
  simp only[su,h1,h2,eR,and_self,Ak];have R3:(jq cells (j*sz) x.cells).length=cells.length:=nQ _ _ _ (by omega);rw[sJ hn (λp DN=>hp p (by simp[DN])) (by grind)];congr 1;rw[Aj,jl,<-LZ];congr 1;rw[F3,Nat.one_mul];unfold jq
  grind
theorem yg(hs:eG G s w)(he:iL G bf a.tmps){t len:Nat}{bW:Array (Nat×Operand)}{l:List (Nat×AV)}{x:AV}(hl:mq bf bW.toList=some l)(h:gG P t len l=some x):
  tu P G s w (Instr.buildSlice t len (bW.map λ(i,x)=>(i,a.eval x))) x s:=by
 have hp:=tU he hl;unfold gG at h;split at h
 case h_2=>cases h
 rename_i e hu;split at h
 case h_2=>cases h
 rename_i sz z eB hz;split at h
 case isFalse=>cases h
 rename_i hc;obtain⟨rfl,h2,h3,h4,h5,h6⟩:=hc;cases h;obtain⟨zv,PE,Ml⟩:=kv hz w G;let zc:Array Value:=if l.length*sz=0 then #[]else zv.cells
 let c0:Array Value:=(Array.range (l.length*sz)).map (zc[· %zc.size]!);have WL:VL G (List.replicate (l.length*sz) AV.any) c0:=⟨by simp[c0],λi x y hx _=>by
  rw[List.getElem?_replicate]at hx;split at hx
  ·cases hx;exact .any _
  ·cases hx⟩
 have sH:=sJ (sz:=sz) (st:=0) (cells:=List.replicate (l.length*sz) AV.any) h2 h3 (by simp);simp only[Nat.zero_mul,S9,xm]at sH;obtain⟨ov,f1,f2⟩:=tT (place':=λi=>some (i*sz,sz)) (λi q hq=>hq) WL hp sH;have jB: ∀y∈l.map (·.2),y.cells.length=sz:=λy hy=>by
  grind
 have dK:ov.size=l.length*sz:=by rw[<-f2.1,dD jB];simp
 obtain⟨q1,q2⟩:=hs.Tf ov e;have fP:(Instr.buildSlice t l.length (bW.map λ(i,x)=>(i,a.eval x))).run P w=.ok (.slice (some ⟨w.heap.size,0,none⟩) l.length l.length) (w.alloc (.cells ov e)):=by
  have h4': ¬(2^24<l.length*sz):=by omega
  have aap: ¬(16777216<l.length*sz):=by omega
  simp only[Instr.buildSlice,Sem.run_bind,run_underlying (fA hu),dU eB,Result.andThen_ok,gt_iff_lt,fN h4',Array.toList_map];have Qg:Instr.fill (λi=>some (i*sz,sz)) c0 (bW.toList.map λp=>(p.1,a.eval p.2))=some ov:=f1;by_cases hN:l.length*sz=0
  ·rw[ez hN];simp only[c0,zc,ez hN]at Qg;simp only[pure_bind,Qg];simp[newRow]
  ·rw[fN hN];simp only[c0,zc,fN hN]at Qg;simp only[Sem.run_bind,PE,Result.andThen_ok,Sem.run_pure,Qg];simp[newRow]
 refine⟨_,_,_,fP,?_,q1,q2⟩;have eR:=q2.le;have mu: ∀k y,(de (l.map (·.2)))[k]? =some y-> ∃v,ov[k]? =some v/\V G y v:=λk y hk=>f2.get hk;have key:=V.sl (G:=G.ib w.heap.size ov) true (l.map (·.2)) w.heap.size 0 sz l.length (λk=>ov.getD k undef) (by simp) (by simp) jB
  (λy hy=>by
   rw[de,tw]at hy
   grind)
  (λk hk=>by
   have ye:k<ov.size:=by grind
   simp[bS.ib,ye])
  (λk y hk=>by
   obtain⟨v,e1,e2⟩:=mu k y hk;simp only[Pz,e1,J1];exact e2.mono eR)
 grind
theorem Mn{op:BinOp}{k:IntKind}{x y:Int}{z:AV}(Dv:op≠ .shl)(aaq:op≠ .shr)(h:wX op k x y=some z)(t:TypeId):
  ∃v,(binOp op t (.int k x) (.int k y)).run P w=.ok v w/\V G z v:=by
 cases op<;>simp only[wX]at h<;>first
  |(cases h;done)
  |(exact absurd rfl Dv)
  |(exact absurd rfl aaq)
  |(cases h;exact⟨_,by simp[binOp,Op.intArith],.int _ _⟩)
  |(cases h;exact⟨_,by simp only[binOp,qd,qe,if_false,Op.intCmp,Sem.run_pure];rfl,by
   have: ∀b c:Bool,b=c->V G (.bool b) (.bool c):=λb c e=>by subst e;exact .bool b
   grind⟩)
  |(split at h;cases h;rename_i hy;cases h;exact⟨_,by simp[binOp,Op.intDiv,hy],.int _ _⟩)
theorem yh{op:BinOp}{k k':IntKind}{x y:Int}{z:AV}(Dv:op=.shl\/op=.shr)(h:wX op k x y=some z)(t:TypeId):
  ∃v,(binOp op t (.int k x) (.int k' y)).run P w=.ok v w/\V G z v:=by
 rcases Dv with rfl|rfl<;>simp only[wX]at h<;>(split at h)<;>first
  |(cases h;done)
  |(rename_i hy;cases h;exact⟨_,by simp[binOp,Op.shift,hy],.int _ _⟩)
theorem Qh: ∀(d:Nat)(t:TypeId)(x y:AV)(xv yv:Value)(b:Bool)(n:Nat),V G x xv->V G y yv->PC P d t x y=some b->d<=n->(Op.equalIn n t xv yv).run P w=.ok b w:=by
 intro d
 induction d with
 |zero=>intro t x y xv yv b n _ _ h;simp[PC]at h
 |succ d ih=>
  intro t x y xv yv b n hx hy h hn;obtain⟨n,rfl⟩: ∃m,n=m+1:=⟨n-1,by omega⟩;simp only[PC]at h;split at h
  ·rename_i hu;cases h;cases hx;cases hy;simp[Op.equalIn,run_underlying hu]
  ·rename_i hu;split at h
   ·rename_i hk;subst hk;cases h;cases hx;cases hy;simp only[Op.equalIn,Sem.run_bind,run_underlying hu,Result.andThen_ok,Ak,Sem.run_pure];congr 1
   ·cases h
  ·rename_i hu;cases h;cases hx;cases hy;simp[Op.equalIn,run_underlying hu,beq_toListBytes]
  ·rename_i hu;cases h;cases hx;cases hy;simp[Op.equalIn,run_underlying hu]
  ·rename_i hu;cases h;cases hx;cases hy;simp[Op.equalIn,run_underlying hu]
  ·rename_i hu;cases h;cases hx;cases hy;simp[Op.equalIn,run_underlying hu]
  ·rename_i hu;cases h;cases hx;cases hy;simp[Op.equalIn,run_underlying hu]
  ·rename_i hu;cases h;cases hx;cases hy;simp[Op.equalIn,run_underlying hu]
  ·rename_i hu;cases h;cases hx;cases hy;simp[Op.equalIn,run_underlying hu]
  ·rename_i fs xs0 ys0 hu;split at h
   ·cases h
   ·rename_i ja;cases hx with
    |agg xs xvs hxl hxh=>
     cases hy with
     |agg ys yvs hyl hyh=>
      have hfo:P.fieldsOf t=fs:=by simp[Program.fieldsOf,hu]
      rw[run_equalIn_struct w n t xvs yvs (by grind) (by grind),hfo];clear hu hfo;generalize fs.toList=l at h
      induction l generalizing b with
      |nil=>simp only[rh]at h;cases h;rfl
      |cons f r ihl=>
       simp only[rh]at h;split at h
       ·cases h
       ·rename_i Mo;split at h
        case h_2=>cases h
        rename_i p q hp hq;split at h
        case h_2=>cases h
        rename_i b1 b2 yi Gu;cases h;obtain⟨pv,p1,p2⟩:=oX (P:=P) (w:=w) ⟨hxl,hxh⟩ hp;obtain⟨qv,q1,q2⟩:=oX (P:=P) (w:=w) ⟨hyl,hyh⟩ hq;have e1:=ih f.type p q pv qv b1 n p2 q2 yi (by omega);have e2:=ihl b2 Gu;simp only[Op.eqFields,qd,Mo,YP,Ak,Sem.run_bind,p1,q1,e1,Result.andThen_ok];cases b1
        all_goals simp_all
  ·cases h
theorem qm{op:BinOp}{t:TypeId}{x y:Operand}{xv yv:Value}(h:(∃cs ds,xv=.agg cs/\yv=.agg ds/\P.eqGuardType P.depth t=false)\/(xv≠ .nilIface/\ ∀cs,xv≠ .agg cs)):
  (eqGuard op t x y xv yv).run P w=.ok () w:=by
 rcases h with⟨cs,ds,rfl,rfl,hg⟩|⟨h1,h2⟩
 ·cases op<;>simp[eqGuard,hg]
 ·cases xv<;>first
   |exact absurd rfl h1
   |exact absurd rfl (h2 _)
   |(cases op<;>simp[eqGuard])
theorem Mp{op:BinOp}{t:TypeId}{ox oy:Operand}{x y z:AV}{xv yv:Value}(hx:V G x xv)(hy:V G y yv)(h:Av P op t x y=some z):
  ∃v,(do eqGuard op t ox oy xv yv;binOp op t xv yv:Sem Value).run P w=.ok v w/\V G z v:=by
 have guard: ∀{xv yv:Value},(xv≠ .nilIface/\ ∀cs,xv≠ .agg cs)-> ∀{v:Value},(binOp op t xv yv).run P w=.ok v w->(do eqGuard op t ox oy xv yv;binOp op t xv yv:Sem Value).run P w=.ok v w:=by
  grind [Sem.run_bind,qm,Result.andThen_ok]
 unfold Av at h;split at h
 ·cases hx;cases hy;split at h
  ·obtain⟨v,e1,e2⟩:=yh (P:=P) (G:=G) (w:=w) (.inl rfl) h t;exact⟨v,guard ⟨by simp,by simp⟩ e1,e2⟩
  ·obtain⟨v,e1,e2⟩:=yh (P:=P) (G:=G) (w:=w) (.inr rfl) h t;exact⟨v,guard ⟨by simp,by simp⟩ e1,e2⟩
  ·rename_i h1 h2;split at h
   ·rename_i hk;subst hk;obtain⟨v,e1,e2⟩:=Mn (P:=P) (G:=G) (w:=w) (λe=>h1 e) (λe=>h2 e) h t
    grind
   ·cases h
 ·cases hx;cases hy;have hb: ∀{b c:Bool},b=c->V G (.bool b) (.bool c):=λe=>by subst e;exact .bool _
  split at h
  ·split at h
   ·rename_i eB;cases h;refine⟨_,guard ⟨by simp,by simp⟩ ?_,.str _⟩;unfold maxLen at eB;simp only[binOp,Op.stringOp];have hm:IntKind.i64.max=9223372036854775807:=by decide
    rw[hm,fN (by omega)];rfl
   ·cases h
  ·cases h;exact⟨_,guard ⟨by simp,by simp⟩ (by rfl),.bool _⟩
  ·cases h;exact⟨_,guard ⟨by simp,by simp⟩ (by rfl),.bool _⟩
  ·cases h;exact⟨_,guard ⟨by simp,by simp⟩ (by rfl),.bool _⟩
  ·cases h;exact⟨_,guard ⟨by simp,by simp⟩ (by rfl),.bool _⟩
  ·cases h;exact⟨_,guard ⟨by simp,by simp⟩ (by rfl),.bool _⟩
  ·cases h;exact⟨_,guard ⟨by simp,by simp⟩ (by rfl),.bool _⟩
  ·cases h
 ·rename_i n1 n2;split at h
  ·cases h
  ·rename_i hg;have main: ∀b,PC P 8 t x y=some b->(eqGuard op t ox oy xv yv).run P w=.ok () w/\(Op.equal t xv yv).run P w=.ok b w/\
     (op=.eql->(binOp op t xv yv).run P w=.ok (.bool b) w)/\(op=.neq->(binOp op t xv yv).run P w=.ok (.bool !b) w):=by
    intro b hb;have he:(Op.equal t xv yv).run P w=.ok b w:=Qh 8 t x y xv yv b Op.maxDepth hx hy hb (by decide);have AA:(∃cs ds,xv=.agg cs/\yv=.agg ds)\/(xv≠ .nilIface/\ ∀cs,xv≠ .agg cs):=by
     simp only[PC]at hb;split at hb<;>first
      |(cases hb;done)
      |(cases hx;cases hy;exact .inl ⟨_,_,rfl,rfl⟩)
      |(cases hx;exact .inr ⟨by simp,by simp⟩)
    refine⟨qm ?_,he,λe=>?_,λe=>?_⟩
    ·grind
    ·subst e;simp only[PC]at hb;split at hb<;>first
      |(exact(n1 _ _ _ _ rfl rfl).elim)
      |(exact(n2 _ _ rfl rfl).elim)
      |(cases hb;done)
      |(cases hx;cases hy;simp only[binOp,Sem.run_bind,he,Result.andThen_ok,Sem.run_pure])
    ·subst e;simp only[PC]at hb;split at hb<;>first
      |(exact(n1 _ _ _ _ rfl rfl).elim)
      |(exact(n2 _ _ rfl rfl).elim)
      |(cases hb;done)
      |(cases hx;cases hy;simp only[binOp,Sem.run_bind,he,Result.andThen_ok,Sem.run_pure])
   split at h
   ·split at h
    ·rename_i b hb;cases h;obtain⟨m1,m2,m3,m4⟩:=main b hb;exact⟨.bool b,by simp_all,.bool _⟩
    ·cases h
   ·split at h
    ·rename_i b hb;cases h;obtain⟨m1,m2,m3,m4⟩:=main b hb;exact⟨.bool !b,by simp_all,.bool _⟩
    ·cases h
   ·cases h
end
end Go.Am
end
section
namespace Go.Am
open Go.RowKit
section
variable {P:Program} {G:bS} {s s':St} {w:World} {bf:Env} {a:Act}
def Mq(P:Program)(G:bS)(s:St)(w:World)(P6:Sem Next)(x:AV)(s':St):Prop:=
 ∃nx v G' w',P6.run P w=.ok nx w'/\(nx=.value v\/(nx=.skip/\v=undef))/\V G' x v/\eG G' s' w'/\Ext G s w G' s' w'
theorem tu.next{P6:Sem Value}{x:AV}(h:tu P G s w P6 x s'):Mq P G s w (do pure (.value (<-P6))) x s':=by
 obtain⟨v,G',w',e1,e2,e3,e4⟩:=h;exact⟨.value v,v,G',w',by simp[e1],.inl rfl,e2,e3,e4⟩
theorem dC{v:Option AV}{x:AV}(h:fC v s=some (x,s')):v=some x/\s'=s:=by
 unfold fC at h
 grind
theorem Io(hs:eG G s w){x:AV}{v:Value}(hv:V G x v):Mq P G s w (pure (.value v)) x s:=⟨.value v,v,G,w,rfl,.inl rfl,hv,hs,.refl _ _ _⟩
theorem Mr(hs:eG G s w){t ty:TypeId}{ts:Array TypeId}(ht:ts[0]? =some t){x y:AV}{xv:Value}(hx:V G x xv)(h:wW P t x=some y):tu P G s w (Builtin.len_ ts ty #[xv]) y s:=by
 unfold wW at h;split at h
 ·split at h
  case isFalse=>cases h
  rename_i jR;cases h;obtain⟨e,jR⟩:=Ar.1 jR;cases hx
  all_goals exact dN hs (v:=goInt _) (by simp[Builtin.len_,ht,run_underlying (fA jR)]) (.int _ _)
 ·split at h
  case isFalse=>cases h
  rename_i jR;cases h;obtain⟨e,jR⟩:=Ar.1 jR;obtain⟨bG,cap,rfl,_⟩:=V.oY hx;exact dN hs (v:=goInt _) (by simp[Builtin.len_,ht,run_underlying (fA jR)]) (.int _ _)
 ·split at h
  case isFalse=>cases h
  rename_i jR;cases h;obtain⟨e,jR⟩:=Ar.1 jR;cases hx
  all_goals exact dN hs (v:=goInt _) (by simp[Builtin.len_,ht,run_underlying (fA jR)]) (.int _ _)
 ·split at h
  case isFalse=>cases h
  rename_i ja;cases h;cases hx;exact dN hs (v:=goInt _) (by simp[Builtin.len_,ht,run_underlying (B4 ja)]) (.int _ _)
 ·split at h
  case h_2=>cases h
  rename_i n e jR;cases h;refine dN hs (v:=goInt n) ?_ (.int _ _);cases xv<;>simp[Builtin.len_,ht,run_underlying (B3 jR)]
theorem Ms(hs:eG G s w){t ty:TypeId}{ts:Array TypeId}(ht:ts[0]? =some t){x y:AV}{xv:Value}(hx:V G x xv)(h:Tg P t x=some y):tu P G s w (Builtin.cap_ ts ty #[xv]) y s:=by
 unfold Tg at h;split at h
 case h_3=>cases h
 ·split at h
  case isFalse=>cases h
  rename_i jR;cases h;obtain⟨e,jR⟩:=Ar.1 jR;cases hx
  all_goals exact dN hs (v:=goInt _) (by simp[Builtin.cap_,ht,run_underlying (fA jR)]) (.int _ _)
 ·split at h
  case isFalse=>cases h
  rename_i jR;cases h;obtain⟨e,jR⟩:=Ar.1 jR;cases hx with
  |slnil _ bG cap hf hb=>
   rw[hf rfl];exact dN hs (v:=goInt 0) (by simp[Builtin.cap_,ht,run_underlying (fA jR)]) (.int _ _)
  |sl _ _ b off cq cap val jC jX eo kI gE hV=>
   rw[jX rfl];exact dN hs (v:=goInt _) (by simp[Builtin.cap_,ht,run_underlying (fA jR)]) (.int _ _)
theorem vt{f:AV->AV->Option AV}{g:Value->Value->Sem Value}(hf: ∀x y z xv yv,V G x xv->V G y yv->f x y=some z-> ∃v,(g xv yv).run P w=.ok v w/\V G z v):
  ∀{l:List AV}{lv:List Value}{x z:AV}{xv:Value},l.length=lv.length->(∀(i:Nat)p q,l[i]? =some p->lv[i]? =some q->V G p q)->V G x xv->wg f x l=some z->
   ∃v,(lv.foldlM g xv).run P w=.ok v w/\V G z v
 | [],lv,x,z,xv,hl,hV,hx,h=>by
  cases lv with
  |nil=>cases h;simp_all
  |cons _ _=>simp at hl
 |y::r,lv,x,z,xv,hl,hV,hx,h=>by
  cases lv with
  |nil=>simp at hl
  |cons yv rv=>
   simp only[wg]at h;split at h
   case h_2=>cases h
   rename_i u hu;obtain⟨v,e1,e2⟩:=hf x y u xv yv hx (hV 0 y yv rfl rfl) hu;obtain⟨v',f1,f2⟩:=vt hf (l:=r) (lv:=rv) (by grind) (λi p q hp hq=>hV (i+1) p q (by grind) (by grind)) e2 h;simp_all
theorem Ba(he:iL G bf a.tmps){l:Array Operand}{x y:AV}(h:opers bf l.toList=some [x,y]): ∃o1 o2,l= #[o1,o2]/\V G x (a.eval o1)/\V G y (a.eval o2):=by
 obtain⟨ls⟩:=l;obtain⟨e1,e2⟩:=rk he h
 match ls,e1 with
 | [o1,o2],_=>exact⟨o1,o2,rfl,e2 0 _ _ rfl rfl,e2 1 _ _ rfl rfl⟩
theorem vu(he:iL G bf a.tmps){l:Array Operand}{x:AV}(h:opers bf l.toList=some [x]): ∃o1,l= #[o1]/\V G x (a.eval o1):=by
 obtain⟨ls⟩:=l;obtain⟨e1,e2⟩:=rk he h
 match ls,e1 with
 | [o1],_=>exact⟨o1,rfl,e2 0 _ _ rfl rfl⟩
theorem Ca{ts:Array TypeId}{t u ty:TypeId}{args:Array Value}(h0:ts[0]? =some t)(h1:ts[1]? =some u):Builtin.append_ ts ty args=Builtin.append_ #[t,u] ty args:=by
 unfold Builtin.append_;simp[h0,h1]
theorem yj{ts:Array TypeId}{t ty:TypeId}{args:Array Value}(h0:ts[0]? =some t):Builtin.copy_ ts ty args=Builtin.copy_ #[t,t] ty args:=by
 unfold Builtin.copy_;simp[h0]
theorem vv(hs:eG G s w){t u ty e:TypeId}{x y z:AV}{xv yv:Value}(hx:V G x xv)(hy:V G y yv){new:List AV}(he:dy P t=some e)(hn:fk y s=some new)(hf:jS P e y s)
  (hu:(dy P u).isSome=true) (h:eX P t x new s=some (z,s')):tu P G s w (Builtin.append_ #[t,u] ty #[xv,yv]) z s':=by
 obtain⟨d,hu⟩:=Ar.1 hu;have WM: ∃sz,cK P e=some sz:=by
  unfold eX at h
  grind
 obtain⟨sz,eB⟩:=WM;obtain⟨f1,f2,f3,f4⟩:=fQ (P:=P) hs hy hn eB hf;obtain⟨vs,g1,g2⟩:=f4 new.length (fw _);rw[LH]at g2;refine yd hs hx he (λsz' B7=>?_) f2 g2 h;rw[eB]at B7;cases B7;refine⟨f1,.inl ⟨⟨d,fA hu⟩,λw'=>?_,g1⟩⟩;have:(Builtin.lenOf yv).run P w=.ok new.length w:=f3;cases yv<;>simp[Builtin.lenOf]at this |- <;>exact this
theorem xb(hs:eG G s w){t u ty e:TypeId}{x z zz:AV}{k:IntKind}{n:Int}{xv:Value}(hx:V G x xv)(he:dy P t=some e)(hz:iT P e=some zz)(h0:0<=n)(h1:n<=(bc:Int))
  (hu:(Au P u).isSome=true) (eB:cK P e=some zz.cells.length) (kI:zz.cells.all AV.cJ=true) (h:eX P t x (List.replicate n.toNat zz) s=some (z,s')):
  tu P G s w (Builtin.append_ #[t,u] ty #[xv,.int k n]) z s':=by
 obtain⟨k',hu⟩:=Ar.1 hu;have fP: ∃zv,(∀w',(zeroValue e).run P w'=.ok zv w')/\V G zz zv:=by
  unfold iT at hz;cases hi:P.info? e with
  |none=>grind
  |some i=>
   cases WE:i.zero with
   |none=>grind
   |some v=>
    simp[hi,WE]at hz;exact⟨v,λw'=>by simp[zeroValue,ir hi,WE],rj hz⟩
 obtain⟨zv,PE,Ml⟩:=fP;have DM:=VL.cells Ml (mJ kI);refine yd hs hx he (news:=if n.toNat*zz.cells.length=0 then #[]else Builtin.zeroCells zv.cells n.toNat) (λsz' B7=>?_) (λy hy=>?_) ⟨?_,λi p q hp hq=>?_⟩ h
 ·rw[eB]at B7;cases B7;refine⟨λy hy=>by grind,.inr ⟨k',k,n,Mc hu,rfl,h0,h1,by simp,zv,PE,by simp⟩⟩
 ·rw[de,tw]at hy
  grind
 ·rw[dD (cq:=zz.cells.length) λy hy=>by grind];rw[Wm];split
  ·grind
  ·rw[size_zeroCells,<-DM.1]
 ·have Ax:0<zz.cells.length:=by
   grind
  obtain⟨p1,p2⟩:=nb _ _ Ax hp;rw[fN (by omega)]at hq;obtain⟨v,r1,r2⟩:=DM.get p2;have kc:i<n.toNat*zv.cells.size:=by rw[<-DM.1];exact p1
  have hzs:zv.cells.size=zz.cells.length:=DM.1.symm;have Gu:zv.cells[i%zv.cells.size]! =v:=by grind
  simp[Builtin.zeroCells,kc,Gu]at hq
  grind
theorem rm(hs:eG G s w)(he:iL G bf a.tmps)(o:Oper){x:AV}(h:gH P o.op bf s=some (x,s')):Mq P G s w (execOp a.eval o) x s':=by
 unfold gH at h;obtain⟨dst,op,type,pos,after,guard⟩:=o;simp only at h;split at h
 ·
   obtain⟨h1,rfl⟩:=dC h;exact Io hs (eJ he h1)
 · obtain⟨h1,rfl⟩:=dC h;exact Io hs (eJ he h1)
 ·
   rename_i c oa ob;split at h
   case h_2=>cases h
   rename_i b hc;have hv:=eJ he hc;generalize hq:a.eval c=cv at hv;cases hv;cases b
   · simp only[Bool.false_eq_true,if_false]at h;obtain⟨h1,rfl⟩:=dC h;exact⟨.value (a.eval ob),_,G,w,by simp[execOp,hq,asBool],.inl rfl,eJ he h1,hs,.refl _ _ _⟩
   · simp only[Ak]at h;obtain⟨h1,rfl⟩:=dC h;exact⟨.value (a.eval oa),_,G,w,by simp[execOp,hq,asBool],.inl rfl,eJ he h1,hs,.refl _ _ _⟩
 · split at h
   · rename_i z hz;exact(J9 hs (BZ hz) h).next
   · split at h
     case h_2=>cases h
     rename_i z hz;exact(Gl hs hz h).next
 · split at h
   case h_2=>cases h
   rename_i v hv;exact(Ik hs (eJ he hv) h).next
 · split at h
   case h_2=>cases h
   rename_i l hl;obtain⟨h1,rfl⟩:=dC h;exact(Kk hs he hl h1).next
 · split at h
   case h_2=>cases h
   rename_i l hl;obtain⟨h1,rfl⟩:=dC h;exact(yg hs he hl h1).next
 · split at h
   case h_2=>cases h
   rename_i p hp;obtain⟨h1,rfl⟩:=dC h;exact(Md hs (eJ he hp) h1).next
 · split at h
   case h_2=>cases h
   rename_i p y hp hy;split at h
   case h_2=>cases h
   rename_i s2 ja;cases h;obtain⟨w',e1,e2,e3⟩:=Ka hs (eJ he hp) (eJ he hy) ja;exact⟨.skip,undef,G,w',by simp[execOp,e1],.inr ⟨rfl,rfl⟩,.any _,e2,e3⟩
 ·
   rename_i ox;split at h
   · rename_i hq;cases h;have hv:=eJ he hq;generalize WN:a.eval ox=cv at hv;cases hv with
     |mp id el off r ho=>exact⟨.value _,_,G,w,by simp only[execOp,WN];rfl,.inl rfl,.mp _ _ _ r ho,hs,.refl _ _ _⟩
   · rename_i hq;cases h;have hv:=eJ he hq;generalize WN:a.eval ox=cv at hv;have WO:=hv;cases hv with
     |ip cells b off val h1 h2=>exact⟨.value _,_,G,w,by simp only[execOp,WN];rfl,.inl rfl,WO,hs,.refl _ _ _⟩
   · rename_i hq;cases h;have hv:=eJ he hq;generalize WN:a.eval ox=cv at hv;have WO:=hv;cases hv with
     |fn f fi vs h1 h2=>exact⟨.value _,_,G,w,by simp only[execOp,WN];rfl,.inl rfl,WO,hs,.refl _ _ _⟩
   · cases h
 ·
   split at h
   case h_2=>cases h
   rename_i y z hy hz;obtain⟨h1,rfl⟩:=dC h;obtain⟨v,e1,e2⟩:=Mp (ox:=_) (oy:=_) (eJ he hy) (eJ he hz) h1;exact(dN hs e1 e2).next
 · split at h
   case h_2=>cases h
   rename_i y hy;obtain⟨h1,rfl⟩:=dC h;have hv:=eJ he hy;unfold aUn at h1;split at h1
   · cases h1;generalize hq:a.eval _=cv at hv;cases hv;exact⟨_,_,G,w,by simp only[execOp,hq,Op.unary,Sem.run_bind,Sem.run_pure,Result.andThen_ok],.inl rfl,.bool _,hs,.refl _ _ _⟩
   · cases h1;generalize hq:a.eval _=cv at hv;cases hv;exact⟨_,_,G,w,by simp only[execOp,hq,Op.unary,Op.intArith,Sem.run_bind,Sem.run_pure,Result.andThen_ok],.inl rfl,.int _ _,hs,.refl _ _ _⟩
   · cases h1
 ·
   split at h
   case h_2=>cases h
   rename_i y hy;obtain⟨h1,rfl⟩:=dC h;have hv:=eJ he hy;unfold ou at h1;split at h1
   · split at h1
     case isFalse=>cases h1
     rename_i rY;split at h1
     case h_2=>cases h1
     rename_i k hk;cases h1;obtain⟨d,hd⟩:=Ar.1 rY;generalize hq:a.eval _=cv at hv;cases hv;exact⟨_,_,G,w,by simp[execOp,hq,convert,run_underlying hd,run_underlying (Mc hk),Conv.intToInt],.inl rfl,.int _ _,hs,.refl _ _ _⟩
   · split at h1
     case isFalse=>cases h1
     rename_i rY;cases h1;obtain⟨d,hd⟩:=Ar.1 rY.1;generalize hq:a.eval _=cv at hv;cases hv;exact⟨_,_,G,w,by simp[execOp,hq,convert,run_underlying hd,run_underlying (B4 rY.2)],.inl rfl,.str _,hs,.refl _ _ _⟩
   · cases h1
 ·
   rename_i f first fi
   split at h
   case isFalse=>cases h
   rename_i hf;split at h
   case h_2=>cases h
   rename_i l hl;cases h;have hfe:first= #[]:=VH hf
   subst hfe;have R2:=tH he hl;exact⟨.value (.func (.func f) #[] (fi.map a.eval)),_,G,w,by simp[execOp,Instr.makeFunc],.inl rfl,.fn f l _ R2.1 R2.2,hs,.refl _ _ _⟩
 · split at h
   case h_2=>cases h
   rename_i y hy;obtain⟨h1,rfl⟩:=dC h;exact(Kf hs he (eJ he hy) h1).next
 · split at h
   case h_2=>cases h
   rename_i y hy;obtain⟨h1,rfl⟩:=dC h;exact(Ay hs (eJ he hy) h1).next
 · split at h
   case h_2=>cases h
   rename_i y hy;obtain⟨h1,rfl⟩:=dC h;exact(Kc hs (eJ he hy) h1).next
 · split at h
   case h_2=>cases h
   rename_i y z hy hz;obtain⟨h1,rfl⟩:=dC h;exact(Az hs (eJ he hy) (eJ he hz) h1).next
 · split at h
   case h_2=>cases h
   rename_i y z hy hz;obtain⟨h1,rfl⟩:=dC h;exact(Ke hs (eJ he hy) (eJ he hz) h1).next
 ·
   split at h
   case h_2=>cases h
   rename_i vs hy;obtain⟨h1,rfl⟩:=dC h;have hv:=eJ he hy;generalize hq:a.eval _=cv at hv;cases hv with
   |dS _ us hl hh=>
     obtain⟨v,e1,e2⟩:=VL.get ⟨hl,hh⟩ h1;exact⟨.value v,v,G,w,by simp[execOp,hq,Instr.extract,e1],.inl rfl,e2,hs,.refl _ _ _⟩
 · split at h
   case h_2=>cases h
   rename_i y z hy hz;exact(Mk hs (eJ he hy) (eJ he hz) h).next
 ·
   rename_i c;obtain⟨callee,args,argTypes⟩:=c;simp only at h;split at h
   ·
     split at h
     case h_2=>cases h
     rename_i y t hy ht;obtain⟨h1,rfl⟩:=dC h;obtain⟨o1,rfl,v1⟩:=vu he hy;have:=(Mr (ty:=type) hs ht v1 h1).next;simpa[execOp,resolve,invoke,builtin]using this
   ·
     split at h
     case h_2=>cases h
     rename_i y z t u hy ht hu;obtain⟨o1,o2,rfl,v1,v2⟩:=Ba he hy;have aar: ∀x,tu P G s w (Builtin.append_ #[t,u] type #[a.eval o1,a.eval o2]) x s'->
       Mq P G s w (execOp a.eval ⟨dst,.call ⟨.builtin .append,#[o1,o2],argTypes⟩,type,pos,after,guard⟩) x s':=λx hd=>by
      rw[<-Ca ht hu]at hd;simpa[execOp,resolve,invoke,builtin]using hd.next
     refine aar _ ?_;split at h
     ·rename_i k n;split at h
      case h_2=>cases h
      rename_i e jR;split at h
      case h_2=>cases h
      rename_i zz hz;split at h
      case isFalse=>cases h
      rename_i hc;generalize a.eval o2=cv at v2;cases v2
      grind [xb]
     grind [vv]
   ·
     split at h
     case h_2=>cases h
     rename_i y z t hy ht;obtain⟨o1,o2,rfl,v1,v2⟩:=Ba he hy;split at h
     ·have hd:=Ki (u:=t) (ty:=type) hs v1 v2 h;rw[<-yj ht]at hd;simpa[execOp,resolve,invoke,builtin]using hd.next
     ·split at h
      case h_2=>cases h
      rename_i e new jR hn;split at h
      case isFalse=>cases h
      rename_i hf;have hd:=DL (u:=t) (ty:=type) hs v1 v2 jR hn hf h;rw[<-yj ht]at hd;simpa[execOp,resolve,invoke,builtin]using hd.next
   ·
     split at h
     case h_2=>cases h
     rename_i y t hy ht;obtain⟨h1,rfl⟩:=dC h;obtain⟨o1,rfl,v1⟩:=vu he hy;have:=(Ms (ty:=type) hs ht v1 h1).next;simpa[execOp,resolve,invoke,builtin]using this
   ·
     split at h
     case h_2=>cases h
     rename_i y t hy ht;obtain⟨o1,rfl,v1⟩:=vu he hy;have:=(Kj (ty:=type) hs ht v1 h).next;simpa[execOp,resolve,invoke,builtin]using this
   ·
     split at h
     case h_2=>cases h
     rename_i y r hy;obtain⟨h1,rfl⟩:=dC h;obtain⟨e1,e2⟩:=rk he hy;obtain⟨ls⟩:=args;cases ls with
     |nil=>simp at e1
     |cons o1 rest=>
      obtain⟨v,f1,f2⟩:=vt (P:=P) (w:=w) (g:=Builtin.min2) (λp q z pv qv hp hq hz=>by
       cases p<;>simp only[P3]at hz<;>first|(cases hz;done)|skip
       cases q<;>simp only[]at hz<;>first|(cases hz;done)|skip
       split at hz
       ·rename_i hk;subst hk;cases hz;cases hp;cases hq;exact⟨_,rfl,.int _ _⟩
       ·cases hz) (l:=r) (lv:=rest.map a.eval) (by grind) (λi p q hp hq=>e2 (i+1) p q (by grind) (by grind)) (e2 0 y _ rfl rfl) h1
      refine⟨.value v,v,G,w,?_,.inl rfl,f2,hs,.refl _ _ _⟩;simp[execOp,resolve,invoke,builtin,Builtin.min_,f1]
   ·
     split at h
     case h_2=>cases h
     rename_i y r hy;obtain⟨h1,rfl⟩:=dC h;obtain⟨e1,e2⟩:=rk he hy;obtain⟨ls⟩:=args;cases ls with
     |nil=>simp at e1
     |cons o1 rest=>
      obtain⟨v,f1,f2⟩:=vt (P:=P) (w:=w) (g:=Builtin.max2) (λp q z pv qv hp hq hz=>by
       cases p<;>simp only[P4]at hz<;>first|(cases hz;done)|skip
       cases q<;>simp only[]at hz<;>first|(cases hz;done)|skip
       split at hz
       ·rename_i hk;subst hk;cases hz;cases hp;cases hq;exact⟨_,rfl,.int _ _⟩
       ·cases hz) (l:=r) (lv:=rest.map a.eval) (by grind) (λi p q hp hq=>e2 (i+1) p q (by grind) (by grind)) (e2 0 y _ rfl rfl) h1
      refine⟨.value v,v,G,w,?_,.inl rfl,f2,hs,.refl _ _ _⟩;simp[execOp,resolve,invoke,builtin,Builtin.max_,f1]
   · cases h
 · cases h
end
end Go.Am
end
