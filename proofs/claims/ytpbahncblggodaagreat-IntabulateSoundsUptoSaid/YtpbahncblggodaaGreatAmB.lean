/- The logic AM, B: soundness of the other operations. -/
import Derived.Test.YtpbahncblggodaaGreatAmA
import Derived.Laws.AppendOwn
import Derived.Laws.StructEq
set_option linter.all false
section
namespace Go.Am
open Go.RowKit
section
variable {P:Program} {G:bZ} {s s':St} {w:World} {bI:Env} {a:Act}
def Src(P:Program)(w:World)(u e:TypeId)(xv:Value)(size n:Nat)(news:Array Value):Prop:=
 ((∃d,P.underlying u=some (.slice d))/\(∀w',(Builtin.lenOf xv).run P w'=.ok n w')/\ ∀w',(∀a,w'.cell? a=w.cell? a)->(Builtin.firstCells size n xv).run P w'=.ok news w')\/
 (∃k k' m,P.underlying u=some (.int k)/\xv=.int k' m/\0<=m/\m<=(bJ:Int)/\n=m.toNat/\ ∃z,(∀w',(zeroValue e).run P w'=.ok z w')/\news=if n*size=0 then #[]else Builtin.zeroCells z.cells n)
theorem ow{m:Int}(h0:0<=m)(h1:m<=(bJ:Int)):IntKind.i64.wrap m=m:=by
 unfold bJ at h1
 simp only[IntKind.wrap,IntKind.bits,IntKind.signed]
 have:m%(2^64:Int)=m:=Int.emod_eq_of_lt h0 (by omega)
 simp only[this,Tg,decide_eq_true_eq]
 rw[if_neg (by omega)]
theorem rG{t u e size E9 n:Nat}{xv:Value}{news:Array Value}(ht:P.underlying t=some (.slice e))(eo:dl P e=some size)(Kk:oh P e=some E9)(hb:E9<=4096)
  (pK:Src P w u e xv size n news) {ad:Addr} {sLen sCap ty:Nat} (oZ:sLen+n<=sCap) {w':World} (ia:(storeCells (ad.add (sLen*size)) news.toList).run P w=.ok () w'):
  (Builtin.append_ #[t,u] ty #[.slice (some ad) sLen sCap,xv]).run P w=.ok (.slice (some ad) (sLen+n) sCap) w':=by
 obtain⟨i,hi,rfl⟩:=ma eo
 obtain⟨i',Bm,rfl⟩:=pH Kk
 rw[hi]at Bm;cases Bm
 rcases pK with⟨⟨d,hu⟩,h1,h2⟩|⟨k,k',m,hu,rfl,h0,h1,rfl,z,hz,rfl⟩
 ·simp[Builtin.append_,run_underlying ht,run_underlying hu,sizeOf,gN hi,h1,oZ,h2 w (λ_=>rfl),ia]
 ·have h2: ¬(m<0):=by omega
  have h3: ¬(281474976710656<m*(i.bytes:Int)):=by
   have h6:m*(i.bytes:Int)<=m*4096:=Int.mul_le_mul_of_nonneg_left (by omega) h0
   unfold bJ at h1
   omega
  by_cases hn:m.toNat*i.size=0
  ·rw[if_pos hn]at ia
   simp[Builtin.append_,run_underlying ht,run_underlying hu,sizeOf,gN hi,asInt,asIntOf,ow h0 h1,h2,h3,oZ,ia]
   exactλh=>absurd hn h
  ·rw[if_neg hn]at ia
   simp[Builtin.append_,run_underlying ht,run_underlying hu,sizeOf,gN hi,asInt,asIntOf,ow h0 h1,h2,h3,oZ,hz,ia]
   exactλh=>absurd h hn
theorem xj{t u e size E9 n:Nat}{xv:Value}{news zw:Array Value}(ht:P.underlying t=some (.slice e))(eo:dl P e=some size)(Kk:oh P e=some E9)(hb:E9<=4096)
  (pK:Src P w u e xv size n news) {bQ:Option Addr} {sLen sCap ty:Nat} (oZ:sCap<sLen+n) (v7:sLen+n<=bJ) {z:Value} (hz: ∀w',(zeroValue e).run P w'=.ok z w')
  (hold: ∀w',(∀a,w'.cell? a=w.cell? a)->(Builtin.firstCells size sLen (.slice bQ sLen sCap)).run P w'=.ok zw w'):
  (Builtin.append_ #[t,u] ty #[.slice bQ sLen sCap,xv]).run P w=
   .ok (.slice (some ⟨w.heap.size,0,none⟩) (sLen+n) (grownCap w (sLen+n) sCap e))
    (w.drew.alloc (.cells (zw++news++Builtin.zeroCells z.cells (grownCap w (sLen+n) sCap e-(sLen+n))) e)):=by
 obtain⟨i,hi,rfl⟩:=ma eo
 obtain⟨i',Bm,rfl⟩:=pH Kk
 rw[hi]at Bm;cases Bm
 have hn: ¬(sLen+n<=sCap):=by omega
 have Ur:=v7
 unfold bJ at Ur
 have Q5: ¬(9223372036854775807<((sLen:Int)+(n:Int))):=by omega
 have ou:Builtin.nextslicecap (sLen+n) sCap*i.bytes<=281474976710656:=growslice_fits oZ (by
  have:(sLen+n)*i.bytes<=(sLen+n)*4096:=X1 _ hb
  omega)
 have Q6: ¬(281474976710656<Builtin.nextslicecap (sLen+n) sCap*i.bytes):=by omega
 have Kl:=hold w.drew (λ_=>rfl)
 rcases pK with⟨⟨d,hu⟩,h1,h2⟩|⟨k,k',m,hu,rfl,Bo,h1,rfl,z',Km,rfl⟩
 ·have h2':=h2 w.drew (λ_=>rfl)
  simp[Builtin.append_,run_underlying ht,run_underlying hu,sizeOf,gN hi,h1,hn,Q5,Q6,Question.forced,Kl,h2',hz,newRow,grownCap]
 ·have h2: ¬(m<0):=by omega
  have h3: ¬(281474976710656<m*(i.bytes:Int)):=by
   have h6:m*(i.bytes:Int)<=m*4096:=Int.mul_le_mul_of_nonneg_left (by omega) Bo
   unfold bJ at h1
   omega
  have hc:((sLen:Int)+(m.toNat:Int))=sLen+m:=by omega
  have Tq:z'=z:=by have q:=hz w;rw[Km w]at q;cases q;rfl
  subst Tq
  have Ns:max m 0=m:=by omega
  by_cases hn:m.toNat*i.size=0
  ·have lY:m.toNat=0\/i.size=0:=WK.1 hn
   have Yy:m<=0\/i.size=0:=by omega
   simp only[hc]at Q5
   simp[Builtin.append_,run_underlying ht,run_underlying hu,sizeOf,gN hi,asInt,asIntOf,ow Bo h1,h2,h3, *,Q6,Question.forced,Kl,hz,newRow,grownCap]
  ·have lY: ¬(m.toNat=0\/i.size=0):=λh=>hn (WK.2 h)
   have Yy: ¬(m<=0\/i.size=0):=by omega
   simp only[hc]at Q5
   simp[Builtin.append_,run_underlying ht,run_underlying hu,sizeOf,gN hi,asInt,asIntOf,ow Bo h1,h2,h3, *,Q6,Question.forced,Kl,hz,Km,newRow,grownCap]
theorem v8{t u e size E9:Nat}{xv:Value}(ht:P.underlying t=some (.slice e))(eo:dl P e=some size)(Kk:oh P e=some E9)
  (pK:Src P w u e xv size 0 #[]) {ty:Nat}:(Builtin.append_ #[t,u] ty #[.slice none 0 0,xv]).run P w=.ok (.slice none 0 0) w:=by
 obtain⟨i,hi,rfl⟩:=ma eo
 rcases pK with⟨⟨d,hu⟩,h1,h2⟩|⟨k,k',m,hu,rfl,h0,h1,hm,z,hz,C1⟩
 ·simp[Builtin.append_,run_underlying ht,run_underlying hu,sizeOf,gN hi,h1,h2 w (λ_=>rfl)]
 ·have nr:m=0:=by omega
  subst nr
  have Us:IntKind.i64.wrap 0=0:=ow (by omega) (by unfold bJ;omega)
  simp[Builtin.append_,run_underlying ht,run_underlying hu,sizeOf,gN hi,asInt,asIntOf,Us]
theorem Fg{e sz:Nat}(h:uC P e sz=true): ∃z,(∀w',(zeroValue e).run P w'=.ok z w')/\z.cells.size=sz:=by
 unfold uC at h
 split at h
 ·rename_i x hx
  simp only[eW,beq_iff_eq]at h
  unfold ji at hx
  cases hi:P.info? e with
  |none=>simp[hi]at hx
  |some i=>
   cases hz:i.zero with
   |none=>simp[hi,hz]at hx
   |some v=>
    simp[hi,hz]at hx
    have hv:V ⟨λ_ _=>none,λ_=>none⟩ x v:=qq hx
    exact⟨v,λw'=>by simp[zeroValue,gN hi,hz],by rw[<-(VL.cells hv (lR h.2)).1,h.1]⟩
 ·cases h
theorem xk(hs:eA G s w){t u ty e:Nat}{x z:AV}{xv yv:Value}(hx:V G x xv){new:List AV}{news:Array Value}(he:dU P t=some e)
  (pK: ∀sz,dl P e=some sz->(∀y∈new,y.cells.length=sz)/\Src P w u e yv sz new.length news) (jg: ∀y∈di new,y.cS=true) (C1:VL G (di new) news)
  (h:fO P t x new s=some (z,s')):sN P G s w (Builtin.append_ #[t,u] ty #[xv,yv]) z s':=by
 unfold fO at h
 rw[he]at h
 simp only at h
 split at h
 case h_2=>cases h
 rename_i sz E9 eo Kk
 split at h
 case isFalse=>cases h
 rename_i hc
 obtain⟨h0,hb,hz⟩:=hc
 obtain⟨Q7,pK⟩:=pK sz eo
 obtain⟨zv,Ut,N7⟩:=Fg hz
 have ht:=fj he
 have JT:news.size=new.length*sz:=by rw[<-C1.1,dy Q7]
 have nothing:new=[]-> ∀{bQ:Option Addr}{sLen sCap:Nat},xv=.slice bQ sLen sCap->sLen<=sCap->(bQ=none->sCap=0)->(Builtin.append_ #[t,u] ty #[xv,yv]).run P w=.ok xv w:=by
  intro hn bQ sLen sCap Uu ep Kn
  subst hn
  subst Uu
  have eJ:news= #[]:=by
   apply QT
   simpa using JT
  subst eJ
  cases bQ with
  |none=>
   have:=Kn rfl
   subst this
   obtain rfl:sLen=0:=by omega
   exact v8 ht eo Kk pK
  |some ad=>exact rG ht eo Kk hb pK (by simpa using ep) (by simp[storeCells])
 have grow: ∀{bQ:Option Addr}{sLen sCap:Nat}{zw:Array Value}{pD:List AV},sCap<sLen+new.length->sLen+new.length<=bJ->pD.length=sLen->(∀y∈pD,y.cells.length=sz)->(∀y∈di pD,y.cS=true)->
   VL G (di pD) zw->(∀w',(∀a,w'.cell? a=w.cell? a)->(Builtin.firstCells sz sLen (.slice bQ sLen sCap)).run P w'=.ok zw w')->
   ∃v w',(Builtin.append_ #[t,u] ty #[.slice bQ sLen sCap,yv]).run P w=.ok v w'/\ ∃G',V G' (.ms s.bS 0 (sLen+new.length)) v/\
    eA G' ⟨(s.bS,.cells sz (pD++new))::s.heap,s.bS+1⟩ w'/\Ext G s w G' ⟨(s.bS,.cells sz (pD++new))::s.heap,s.bS+1⟩ w':=by
  intro bQ sLen sCap zw pD oZ v7 EO Uv Yz holds fh
  have GP:=xj (w:=w) (ty:=ty) ht eo Kk hb pK oZ v7 Ut fh
  have PN:=holds.append C1
  have JS:=grownCap_ge w (sLen+new.length) sCap e
  generalize grownCap w (sLen+new.length) sCap e=nc at GP JS
  have s7:(zw++news++Builtin.zeroCells zv.cells (nc-(sLen+new.length))).size=nc*sz:=by
   have h1:zw.size=sLen*sz:=by rw[<-holds.1,dy Uv,EO]
   simp only[Array.size_append,size_zeroCells,N7,h1,JT]
   rw[<-uw,<-uw]
   congr 1;omega
  obtain⟨q1,q2⟩:=hs.drew.put (o:=.cells (zw++news++Builtin.zeroCells zv.cells (nc-(sLen+new.length))) e) (blk:=.cells sz (pD++new)) (r:=⟨w.heap.size,0,sz,nc*sz⟩) rfl
   (.cells _ _ _ _ s7 rfl h0 (λy hy=>by
     rcases la.1 hy with hy|hy
     · exact Uv y hy
     · exact Q7 y hy) (λy hy=>by
     rw[dx]at hy
     rcases la.1 hy with hy|hy
     · exact Yz y hy
     · exact jg y hy) (by simp only[Ba,kc,EO];exact zp _ JS) λk y hy=>by
     rw[dx]at hy
     obtain⟨v,e1,e2⟩:=PN.get hy
     refine⟨v,?_,e2.mono (.put (hs.cq _ (eu _)))⟩
     have gh:k<(zw++news).size:=(PH.1 e1).1
     rw[Ba,WI gh];exact e1)
  refine⟨_,_,GP,_,?_,q1,(Ext.drew G s w).trans hs q2⟩
  exact .ms s.bS 0 _ _ ⟨w.heap.size,0,sz,nc*sz⟩ 0 (by simp[bZ.put]) JS (by simp) (λ_=>by simp)
 split at h
 ·rename_i full elems
  obtain⟨bQ,cap,rfl,ep,jB,Kn,Tq⟩:=V.pJ hx
  split at h
  ·rename_i hn
   cases h
   exact dG hs (nothing hn rfl ep Kn) hx
  ·rename_i hn
   split at h
   case isFalse=>cases h
   rename_i hc
   obtain⟨rfl,v7,ou⟩:=hc
   cases h
   have Bn:0<new.length:=QU.2 hn
   obtain⟨f1,f2,f3,f4⟩:=fx (P:=P) (e:=e) hs hx (l:=elems) rfl eo ou
   obtain⟨vs,g1,g2⟩:=f4 elems.length (eu _)
   rw[Bb]at g2
   obtain⟨v,w',e1,G',e2,e3,e4⟩:=grow (sCap:=cap) (by rw[jB rfl];omega) v7 rfl f1 f2 g2 g1
   exact⟨v,G',w',e1,e2,e3,e4⟩
 ·rename_i id bL len
  have N8:=hx
  cases hx with
  |gn _ _ cap bQ hc=>
   subst hc
   split at h
   ·rename_i hn
    cases h
    exact dG hs (nothing hn rfl (eu _) (λ_=>rfl)) (.gn _ _ _ _ rfl)
   ·rename_i hn
    split at h
    case h_2=>cases h
    rename_i cz elems hg
    split at h
    case isFalse=>cases h
    rename_i hc
    obtain⟨rfl,dt,v7⟩:=hc
    cases h
    have Bn:0<new.length:=QU.2 hn
    have Ko:fG (.ms id bL 0) s=some ((elems.drop bL).take 0):=by simp[fG,hg];simpa using dt
    obtain⟨f1,f2,f3,f4⟩:=fx (P:=P) (e:=e) hs N8 Ko eo (by simp[kE,hg,eo])
    obtain⟨vs,g1,g2⟩:=f4 0 (by omega)
    rw[rP (by simp)]at g2
    obtain⟨v,w',e1,G',Tp,e3,e4⟩:=grow (bQ:=bQ) (sCap:=0) (by omega) v7 (by simp) f1 f2 g2 g1
    have oz: ∀i b,bH ((s.bS,gp.cells cz ((elems.drop bL).take 0++new))::eh s.heap id) i=some b->bH ((s.bS,gp.cells cz ((elems.drop bL).take 0++new))::s.heap) i=some b:=λi b hi=>by
     simp only[cR,cG]at hi |-
     split at hi
     · rename_i hq;rw[if_pos hq];exact hi
     · rename_i hq
       rw[if_neg hq]
       rw[fw]at hi
       split at hi
       ·cases hi
       ·exact hi
    refine⟨v,G',w',e1,Tp,e3.drop oz (eu _),e4.trans hs (Ext.drop oz (eu _) λi hi=>?_)⟩
    simp only[cR,cG]at hi |-
    split at hi
    ·cases hi
    ·rename_i hq
     rw[if_neg hq,fw,if_neg (λe=>by subst e;rw[hg]at hi;cases hi)]
     exact hi
  |ms _ _ _ cap r addr ho ep eP gm=>
   split at h
   ·rename_i hn
    cases h
    exact dG hs (nothing hn rfl ep (λe=>by cases e)) (.ms _ _ _ cap r addr ho ep eP gm)
   ·rename_i hn
    split at h
    case h_2=>cases h
    rename_i cz elems hg
    split at h
    case isFalse=>cases h
    rename_i hc
    obtain⟨rfl,dt,v7⟩:=hc
    cases h
    have Bn:0<new.length:=QU.2 hn
    obtain⟨o,e2,e3⟩:=hs.at hg ho
    cases e3 with
    |cells _ _ cs te s7 dS h0' iz N9 CZ hV=>
     subst dS
     have Ko:fG (.ms id bL len) s=some ((elems.drop bL).take len):=by simp[fG,hg,dt]
     obtain⟨f1,f2,f3,f4⟩:=fx (P:=P) (e:=e) hs N8 Ko eo (by simp[kE,hg,eo])
     have EO:((elems.drop bL).take len).length=len:=by simp;omega
     by_cases oZ:len+new.length<=cap
     ·
       have Uw:=gm (by omega)
       subst Uw
       have YA:bL*r.cz+len*r.cz+new.length*r.cz<=(bL+cap)*r.cz:=by
        rw[<-uw,<-uw];exact zp _ (by omega)
       have ou:r.bQ+bL*r.cz+len*r.cz+news.toList.length<=cs.size:=by
        simp only[E6];rw[JT,s7];omega
       have fh:=run_storeCells_at P r.block (r.bQ+bL*r.cz+len*r.cz) te news.toList 0 cs w e2 (by simpa using ou) (C1.sZ jg)
       simp only[CD]at fh
       have hA:=rG (w:=w) (ty:=ty) (ad:=⟨r.block,r.bQ+bL*r.cz,none⟩) (sLen:=len) (sCap:=cap) ht eo Kk hb pK oZ (by rw[mV];exact fh)
       have pB:(di ((elems.drop bL).take len)).length=len*r.cz:=by rw[dy f1,EO]
       obtain⟨q1,q2⟩:=eA.move (w':=w.setRow r.block (cs.toList.take (r.bQ+bL*r.cz+len*r.cz)++news.toList++cs.toList.drop (r.bQ+bL*r.cz+len*r.cz+news.toList.length)).toArray)
        (rQ:=.cells r.cz ((elems.drop bL).take len++new)) (r':=⟨r.block,r.bQ+bL*r.cz,r.cz,r.size⟩) hs hg ho rfl (by simp[World.setRow]) rfl rfl rfl
        (λb hb=>setRow_other w _ _ _ hb) (setRow_heap w _ cs _ te _ e2)
        (.cells _ _ _ _ (by simp only[Ua,kc,CS,Tf,E6]at ou |-;omega) rfl h0 (λy hy=>by
          rcases la.1 hy with hy|hy
          ·exact f1 y hy
          ·exact Q7 y hy) (λy hy=>by
          rw[dx]at hy
          rcases la.1 hy with hy|hy
          ·exact f2 y hy
          ·exact jg y hy) (by rw[kc,EO,uw];show r.bQ+bL*r.cz+_<=r.size;omega) λk y hy=>by
          have Ux:rC G (G.put s.bS ⟨r.block,r.bQ+bL*r.cz,r.cz,r.size⟩):=.put (hs.cq _ (eu _))
          show∃v,_[r.bQ+bL*r.cz+k]? =some v/\_
          rw[dx]at hy
          rw[kW _ _ _ _ ou]
          by_cases hk:k<len*r.cz
          ·rw[if_pos (by omega)]
           rw[nq (by omega)]at hy
           have ND:(di (((elems.take (bL+len))).drop bL))[k]? =some y:=by
            rw[show(elems.take (bL+len)).drop bL=(elems.drop bL).take len from by rw[List.drop_take];congr 1;omega]
            exact hy
           have kX:=gJ (n:=bL+len) iz h0 ND
           obtain⟨v,q1,q2⟩:=hV _ y kX
           exact⟨v,by rw[CC];exact q1,q2.mono Ux⟩
          ·rw[if_neg (by omega)]
           rw[pn (by omega),pB]at hy
           obtain⟨v,q1,q2⟩:=C1.get hy
           have gh:k-len*r.cz<news.size:=(PH.1 q1).1
           rw[if_pos (by simp only[E6];omega)]
           refine⟨v,?_,q2.mono Ux⟩
           rw[show r.bQ+bL*r.cz+k-(r.bQ+bL*r.cz+len*r.cz)=k-len*r.cz from by omega]
           simpa using q1) (by simp)
       refine⟨_,_,_,hA,?_,q1,q2⟩
       exact .ms s.bS 0 _ cap ⟨r.block,r.bQ+bL*r.cz,r.cz,r.size⟩ _ (by simp[bZ.put]) oZ
        (by show r.bQ+bL*r.cz+(0+cap)*r.cz<=r.size;rw[Ba,CC,<-uw];exact eP) (λ_=>by simp)
     ·
       obtain⟨vs,g1,g2⟩:=f4 len (by omega)
       rw[rP (by omega)]at g2
       obtain⟨v,w',e1,G',Tp,e3,e4⟩:=grow (bQ:=some ⟨r.block,addr,none⟩) (sCap:=cap) (by omega) v7 EO f1 f2 g2 g1
       have oz: ∀i b,bH ((s.bS,gp.cells r.cz ((elems.drop bL).take len++new))::eh s.heap id) i=some b->bH ((s.bS,gp.cells r.cz ((elems.drop bL).take len++new))::s.heap) i=some b:=λi b hi=>by
        simp only[cR,cG]at hi |-
        split at hi
        ·rename_i hq;rw[if_pos hq];exact hi
        ·rename_i hq
         rw[if_neg hq]
         rw[fw]at hi
         split at hi
         ·cases hi
         ·exact hi
       refine⟨v,G',w',e1,Tp,e3.drop oz (eu _),e4.trans hs (Ext.drop oz (eu _) λi hi=>?_)⟩
       simp only[cR,cG]at hi |-
       split at hi
       ·cases hi
       ·rename_i hq
        rw[if_neg hq,fw,if_neg (λe=>by subst e;rw[hg]at hi;cases hi)]
        exact hi
 ·rename_i id bL len cap
  split at h
  case h_2=>cases h
  rename_i cz elems hg
  split at h
  case isFalse=>cases h
  rename_i hc
  obtain⟨hn,rfl,dt,oZ,v7⟩:=hc
  cases h
  have Ko:fG (.ms id bL len) s=some ((elems.drop bL).take len):=by simp[fG,hg,dt]
  have EO:((elems.drop bL).take len).length=len:=by simp;omega
  have fin: ∀{bQ:Option Addr},V G (.ms id bL len) (.slice bQ len cap)->xv=.slice bQ len cap->sN P G s w (Builtin.append_ #[t,u] ty #[xv,yv]) (.ms s.bS 0 (len+new.length)) ⟨(s.bS,.cells cz ((elems.drop bL).take len++new))::s.heap,s.bS+1⟩:=by
   intro bQ N8 Uu
   subst Uu
   obtain⟨f1,f2,f3,f4⟩:=fx (P:=P) (e:=e) hs N8 Ko eo (by simp[kE,hg,eo])
   obtain⟨vs,g1,g2⟩:=f4 len (by omega)
   rw[rP (by omega)]at g2
   obtain⟨v,w',e1,G',Tp,e3,e4⟩:=grow (bQ:=bQ) (sCap:=cap) oZ v7 EO f1 f2 g2 g1
   exact⟨v,G',w',e1,Tp,e3,e4⟩
  cases hx with
  |mH _ _ bQ=>exact fin (.gn _ _ _ _ rfl) rfl
  |mc _ _ _ _ r addr ho ep eP gm=>exact fin (.ms _ _ _ _ r addr ho ep eP gm) rfl
 ·cases h
end
end Go.Am
end
section
namespace Go.Am
open Go.RowKit
section
variable {P:Program} {G:bZ} {s s':St} {w:World} {bI:Env} {a:Act}
theorem z6(hs:eA G s w){t u ty e:Nat}{yv:Value}{y:AV}(hy:V G y yv){new:List AV}(he:dU P t=some e)(iz:fG y s=some new)(hf:kE P e y s)
  {id bL len cap cz addr:Nat} {elems:List AV} {r:ux} (hg:bH s.heap id=some (.cells cz elems)) (eo:dl P e=some cz) (Kp:bL<=elems.length)
  (ho:G.own id=some r) (ep:len<=cap) (eP:r.bQ+(bL+cap)*r.cz<=r.size) (gm:0<cap->addr=r.bQ+bL*r.cz):
  sN P G s w (Builtin.copy_ #[t,u] ty #[.slice (some ⟨r.block,addr,none⟩) len cap,yv]) (.int .i64 (min new.length len:Nat)) ⟨dT s.heap id (.cells cz (elems.take bL++(new.take (min new.length len)++elems.drop (bL+min new.length len)))),s.bS⟩:=by
 have ht:=fj he
 obtain⟨o,e2,e3⟩:=hs.at hg ho
 cases e3 with
 |cells _ _ cs te s7 dS h0 xm N9 CZ hV=>
  subst dS
  obtain⟨f1,f2,f3,f4⟩:=fx (P:=P) hs hy iz eo hf
  have Uy:Nat.min new.length len<=new.length:=Nat.min_le_left _ _
  obtain⟨vs,g1,g2⟩:=f4 (Nat.min new.length len) Uy
  have Q8:Nat.min new.length len<=len:=Nat.min_le_right _ _
  have YB:min new.length len=Nat.min new.length len:=rfl
  have NF:(new.take (Nat.min new.length len)).length=Nat.min new.length len:=by rw[CS];exact Nv Uy
  have pB: ∀y∈new.take (Nat.min new.length len),y.cells.length=r.cz:=λy hy=>f1 y (w8 hy)
  have CH:vs.size=Nat.min new.length len*r.cz:=by rw[<-g2.1,dy pB,NF]
  have Kq: ∀y∈di (new.take (Nat.min new.length len)),y.cS=true:=λy hy=>f2 y (by
   rw[di,sL]at hy |-
   obtain⟨q,hq,hy⟩:=hy
   exact⟨q,w8 hq,hy⟩)
  rw[YB]
  generalize hn:Nat.min new.length len=n at *
  by_cases Q3:n=0
  ·subst Q3
   have:vs= #[]:=QT (by simpa using CH)
   subst this
   have jC:elems.take bL++(new.take 0++elems.drop (bL+0))=elems:=by simp
   rw[jC]
   have ff: ∀i b,bH (dT s.heap id (.cells r.cz elems)) i=some b->bH s.heap i=some b:=λi b hi=>by
    rw[eC]at hi
    split at hi
    ·rename_i hq;subst hq;rw[hg];exact hi
    ·exact hi
   refine⟨_,G,w,?_,V.int .i64 ((0:Nat):Int),hs.drop ff (eu _),Ext.drop ff (eu _) λi hi=>?_⟩
   ·simp[Builtin.copy_,run_underlying ht,f3,dX eo,hn,g1 w (λ_=>rfl),storeCells,goInt]
   ·rw[eC];split
    ·rename_i hq;subst hq;rw[hg]at hi;exact hi
    ·exact hi
  ·have Uw:=gm (by omega)
   subst Uw
   have ou:r.bQ+bL*r.cz+vs.toList.length<=cs.size:=by
    simp only[E6]
    rw[CH,s7,CC,<-uw]
    exact vS (QQ (zp _ (by omega)) _) eP
   have fh:=run_storeCells_at P r.block (r.bQ+bL*r.cz) te vs.toList 0 cs w e2 (by simpa using ou) (g2.sZ Kq)
   simp only[CD]at fh
   have IC: ∀y∈elems.take bL++(new.take n++elems.drop (bL+n)),y.cells.length=r.cz:=λy hy=>by
    simp only[la]at hy
    rcases hy with hy|hy|hy
    ·exact xm y (w8 hy)
    ·exact pB y hy
    ·exact xm y (GF hy)
   have YC:(di (elems.take bL)).length=bL*r.cz:=by
    rw[dy (cz:=r.cz) λy hy=>xm y (w8 hy)];congr 1;simp;omega
   have NX:(di (new.take n)).length=n*r.cz:=by rw[dy pB,NF]
   obtain⟨q1,q2⟩:=xi hs hg ho e2 (elems':=elems.take bL++(new.take n++elems.drop (bL+n))) (cs':=(cs.toList.take (r.bQ+bL*r.cz)++vs.toList++cs.toList.drop (r.bQ+bL*r.cz+vs.toList.length)).toArray)
    (by simp only[Ua,kc,CS,Tf,E6]at ou |-;omega) rfl h0 IC (λy hy=>by
     rw[dx,dx]at hy
     simp only[la]at hy
     have q: ∀(l:List AV),(∀z∈l,z∈elems)-> ∀y∈di l,y.cS=true:=λl hl y hy=>N9 y (by
      rw[di,sL]at hy |-
      obtain⟨z,hz,hy⟩:=hy
      exact⟨z,hl z hz,hy⟩)
     rcases hy with hy|hy|hy
     ·exact q _ (λz hz=>w8 hz) y hy
     ·exact Kq y hy
     ·exact q _ (λz hz=>GF hz) y hy)
    (by
     have q:(elems.take bL++(new.take n++elems.drop (bL+n))).length=max elems.length (bL+n):=by simp[NF];omega
     rw[q]
     rcases Nat.le_total elems.length (bL+n)with c|c
     ·rw[Nat.max_eq_right c];exact vS (QQ (zp _ (by omega)) _) eP
     ·rw[Nat.max_eq_left c];exact CZ) λk y hk=>by
     rw[dx,dx]at hk
     rw[kW _ _ _ _ ou]
     by_cases c1:k<bL*r.cz
     ·rw[if_pos (by omega)]
      rw[nq (by omega)]at hk
      have kX:=gJ (n:=bL) (l:=0) xm h0 (k:=k) (x:=y) (by simpa using hk)
      simpa using hV _ y (by simpa using kX)
     ·rw[if_neg (by omega)]
      rw[pn (by omega),YC]at hk
      by_cases c2:k<bL*r.cz+n*r.cz
      ·rw[if_pos (by simp only[E6];omega)]
       rw[nq (by omega)]at hk
       obtain⟨v,p1,p2⟩:=g2.get hk
       refine⟨v,?_,p2⟩
       rw[show r.bQ+k-(r.bQ+bL*r.cz)=k-bL*r.cz from by omega]
       simpa using p1
      ·rw[if_neg (by simp only[E6];omega)]
       rw[pn (by omega),NX]at hk
       have kX:=gJ (n:=elems.length) (l:=bL+n) xm h0 (k:=k-bL*r.cz-n*r.cz) (x:=y) (by rw[Bb];exact hk)
       rw[show(bL+n)*r.cz+(k-bL*r.cz-n*r.cz)=k from by rw[uw];omega]at kX
       exact hV k y kX
   refine⟨_,G,_,?_,V.int .i64 (n:Int),q1,q2⟩
   simp[Builtin.copy_,run_underlying ht,f3,dX eo,hn,g1 w (λ_=>rfl),fh,goInt]
theorem C2(hs:eA G s w){t u ty e:Nat}{x z:AV}{xv yv:Value}(hx:V G x xv){y:AV}(hy:V G y yv){new:List AV}(he:dU P t=some e)(iz:fG y s=some new)(hf:kE P e y s)
  (h:w6 P t x new s=some (z,s')):sN P G s w (Builtin.copy_ #[t,u] ty #[xv,yv]) z s':=by
 unfold w6 at h
 rw[he]at h
 simp only at h
 have ht:=fj he
 split at h
 ·rename_i id bL len
  split at h
  case h_2=>cases h
  rename_i cz elems hg
  split at h
  case isFalse=>cases h
  rename_i hc
  obtain⟨eo,Kp⟩:=hc
  cases h
  cases hx with
  |gn _ _ cap bQ hc=>
   subst hc
   have jC:elems.take bL++(new.take (min new.length 0)++elems.drop (bL+min new.length 0))=elems:=by simp
   rw[jC]
   have ff: ∀i b,bH (dT s.heap id (.cells cz elems)) i=some b->bH s.heap i=some b:=λi b hi=>by
    rw[eC]at hi
    split at hi
    ·rename_i hq;subst hq;rw[hg];exact hi
    ·exact hi
   obtain⟨f1,f2,f3,f4⟩:=fx (P:=P) hs hy iz eo hf
   obtain⟨vs,g1,g2⟩:=f4 0 (zX _)
   have CH:vs= #[]:=QT (by rw[<-g2.1];simp[di])
   subst CH
   refine⟨_,G,w,?_,by simpa using V.int .i64 ((0:Nat):Int),hs.drop ff (eu _),Ext.drop ff (eu _) λi hi=>?_⟩
   ·cases bQ<;>simp[Builtin.copy_,run_underlying ht,f3,dX eo,g1 w (λ_=>rfl),storeCells,goInt]
   ·rw[eC];split
    ·rename_i hq;subst hq;rw[hg]at hi;exact hi
    ·exact hi
  |ms _ _ _ cap r addr ho ep eP gm=>exact z6 hs hy he iz hf hg eo (by omega) ho ep eP gm
 ·rename_i id bL len cap
  split at h
  case h_2=>cases h
  rename_i cz elems hg
  split at h
  case isFalse=>cases h
  rename_i hc
  obtain⟨eo,Kp⟩:=hc
  cases h
  cases hx with
  |mH _ _ bQ=>
   have jC:elems.take bL++(new.take (min new.length 0)++elems.drop (bL+min new.length 0))=elems:=by simp
   rw[jC]
   have ff: ∀i b,bH (dT s.heap id (.cells cz elems)) i=some b->bH s.heap i=some b:=λi b hi=>by
    rw[eC]at hi
    split at hi
    ·rename_i hq;subst hq;rw[hg];exact hi
    ·exact hi
   obtain⟨f1,f2,f3,f4⟩:=fx (P:=P) hs hy iz eo hf
   obtain⟨vs,g1,g2⟩:=f4 0 (zX _)
   have CH:vs= #[]:=QT (by rw[<-g2.1];simp[di])
   subst CH
   refine⟨_,G,w,?_,by simpa using V.int .i64 ((0:Nat):Int),hs.drop ff (eu _),Ext.drop ff (eu _) λi hi=>?_⟩
   ·cases bQ<;>simp[Builtin.copy_,run_underlying ht,f3,dX eo,g1 w (λ_=>rfl),storeCells,goInt]
   ·rw[eC];split
    ·rename_i hq;subst hq;rw[hg]at hi;exact hi
    ·exact hi
  |mc _ _ _ _ r addr ho ep eP gm=>exact z6 hs hy he iz hf hg eo Kp ho ep eP gm
 ·rename_i full elems
  split at h
  case isFalse=>cases h
  rename_i hc
  cases h
  obtain⟨bQ,cap,rfl,ep,_,_,_⟩:=V.pJ hx
  cases hq:dl P e with
  |none=>rw[hq]at hc;cases hc.2
  |some sz=>
   obtain⟨f1,f2,f3,f4⟩:=fx (P:=P) hs hy iz hq hf
   obtain⟨vs,g1,g2⟩:=f4 0 (zX _)
   have CH:vs= #[]:=QT (by rw[<-g2.1];simp[di])
   subst CH
   have hn:Nat.min new.length elems.length=0:=hc.1
   refine dG hs (v:=goInt 0) ?_ (.int _ _)
   cases bQ<;>simp[Builtin.copy_,run_underlying ht,f3,dX hq,hn,g1 w (λ_=>rfl),storeCells,goInt]
 ·cases h
theorem Kr{x:AV}{v:Value}{n:Nat}(hx:V G x v)(h:Ul x=some n): ∃bQ cap,v=.slice bQ n cap:=by
 cases hx<;>cases h<;>exact⟨_,_,rfl⟩
theorem IH(hs:eA G s w){t u ty:Nat}{x z:AV}{xv yv:Value}(hx:V G x xv){id bL len cap:Nat}(hy:V G (.mc id bL len cap) yv)
  (h:A0 P t x id bL len s=some (z,s')):sN P G s w (Builtin.copy_ #[t,u] ty #[xv,yv]) z s':=by
 unfold A0 at h
 split at h
 case h_2=>cases h
 rename_i e cz elems n he hg hn
 split at h
 case isFalse=>cases h
 rename_i hc
 obtain⟨eo,eP⟩:=hc
 obtain⟨bQ,c,rfl⟩:=Kr hx hn
 have trim: ∀b m,yv=.slice b len m->V G (.ms id bL (min len n)) (.slice b (min len n) m)->sN P G s w (Builtin.copy_ #[t,u] ty #[.slice bQ n c,yv]) z s':=λb m hb hv=>by
  have hd:=C2 (u:=u) (ty:=ty) hs hx hv he (new:=(elems.drop bL).take (min len n)) (by simp[fG,hg,eP]) (by simp[kE,hg,eo]) h
  have e1:Nat.min (min len n) n=Nat.min len n:=by show min (min len n) n=min len n;omega
  obtain⟨v,G',w',h1,h2⟩:=hd
  refine⟨v,G',w',?_,h2⟩
  subst hb
  rw[<-h1]
  simp only[Builtin.copy_,Builtin.lenOf]
  simp[run_underlying (fj he),dX eo,e1]
  cases b<;>simp[Builtin.firstCells]
 cases hy with
 |mH _ _ b=>
  refine trim b 0 rfl ?_
  rw[Nat.zero_min]
  exact .gn _ _ _ _ rfl
 |mc _ _ _ _ r addr ho ep N6 gm=>exact trim _ _ rfl (.ms _ _ _ _ r addr ho (by omega) N6 gm)
theorem mh(n:Nat)(z:AV){k:Nat}{x:AV}(h0:0<z.cells.length)(h:(di (List.replicate n z))[k]? =some x):k<n*z.cells.length/\z.cells[k%z.cells.length]? =some x:=by
 have iA: ∀y∈List.replicate n z,y.cells.length=z.cells.length:=λy hy=>by rw[Nw hy]
 have hk:k<n*z.cells.length:=by
  have:=(fM.1 h).1
  rwa[dy iA,Ub]at this
 obtain⟨e,he,hx⟩:=xa iA h0 h
 rw[WL]at he
 split at he
 ·cases he;exact⟨hk,hx⟩
 ·cases he
theorem Ks(hs:eA G s w){t:Nat}{l c z:AV}{lv cv:Value}(hl:V G l lv)(YD:V G c cv)(h:CW P t l c s=some (z,s')):sN P G s w (Instr.makeSlice t lv cv) z s':=by
 unfold CW at h
 split at h
 case h_2=>cases h
 rename_i k1 n k2 m e he
 cases hl;cases YD
 split at h
 case h_2=>cases h
 rename_i sz E9 zz eo Kk hz
 split at h
 case isFalse=>cases h
 rename_i hc
 obtain⟨h1,h2,h3,h4,h5,h6,h7⟩:=hc
 cases h
 have ht:=fj he
 obtain⟨i,hi,rfl⟩:=ma eo
 obtain⟨i',Bm,rfl⟩:=pH Kk
 rw[hi]at Bm;cases Bm
 obtain⟨zv,Ut,Kt⟩:=jO hz w G
 have z7:=VL.cells Kt (lR h6)
 have h3':=h3
 unfold bJ at h3'
 have w1:IntKind.i64.wrap n=n:=ow h1 (by omega)
 have w2:IntKind.i64.wrap m=m:=ow (by omega) h3
 have hb: ¬(281474976710656<(i.bytes:Int)*m):=by
  have h6:(i.bytes:Int)*m<=4096*m:=Int.mul_le_mul_of_nonneg_right (by omega) (by omega)
  omega
 have n1: ¬(m<0):=by omega
 have n2: ¬(n<0):=by omega
 have n3: ¬(m<n):=by omega
 have Tr:zv.cells.size=i.size:=by rw[<-z7.1,h5]
 obtain⟨q1,q2⟩:=hs.put (o:=.cells ((Array.range (m.toNat*i.size)).map (λj=>(if m.toNat*i.size=0 then #[]else zv.cells)[j%(if m.toNat*i.size=0 then #[]else zv.cells).size]!)) e)
  (blk:=.cells i.size (List.replicate n.toNat zz)) (r:=⟨w.heap.size,0,i.size,m.toNat*i.size⟩) rfl
  (.cells _ _ _ _ (by simp) rfl h4 (λy hy=>by rw[Nw hy];exact h5) (λy hy=>by
    rw[di,sL]at hy
    obtain⟨q,hq,hy⟩:=hy
    rw[Nw hq]at hy
    exact jP h6 y hy) (by simp only[Ba,Ub];exact zp _ (by omega)) λk y hk=>by
    obtain⟨p1,p2⟩:=mh _ _ (by omega) hk
    have gh:k<m.toNat*i.size:=by
     rw[h5]at p1
     exact QN p1 (zp _ (by omega))
    obtain⟨v,r1,r2⟩:=z7.get p2
    refine⟨v,?_,r2.mono (.put (hs.cq _ (eu _)))⟩
    rw[if_neg (by omega)]
    rw[h5]at r1
    have wC:zv.cells[k%i.size]! =v:=by rw[X2,wz,r1];rfl
    simp[gh,Tr,wC])
 refine⟨.slice (some ⟨w.heap.size,0,none⟩) n.toNat m.toNat,_,_,?_,?_,q1,q2⟩
 ·by_cases hN:m.toNat*i.size=0
  ·have hN':m.toNat=0\/i.size=0:=WK.1 hN
   have Bo:m=0:=by omega
   have Q3:n=0:=by omega
   subst Bo;subst Q3
   simp[Instr.makeSlice,run_underlying ht,asInt,asIntOf,gN hi,w1,sizeOf,newRow]
  ·simp only[if_neg hN]
   have hN': ¬(m.toNat=0\/i.size=0):=λh=>hN (WK.2 h)
   have Bo: ¬(m<=0\/i.size=0):=by omega
   have mT: ¬(281474976710656<(i.bytes:Int)*m):=hb
   simp[Instr.makeSlice,run_underlying ht,asInt,asIntOf,gN hi,w1,w2,n1,n2,n3,mT,sizeOf,newRow,hN,Ut]
 ·exact .ms s.bS 0 _ _ ⟨w.heap.size,0,i.size,m.toNat*i.size⟩ 0 (by simp[bZ.put]) (by omega) (by simp) (λ_=>by simp)
theorem Fh(hs:eA G s w){id bL len cap cz:Nat}{elems new:List AV}{r:ux}{vs:Array Value}(hg:bH s.heap id=some (.cells cz elems))(ho:G.own id=some r)(ep:len<=cap)
  (eP:r.bQ+(bL+cap)*r.cz<=r.size) (Kp:bL<=elems.length) (JT:new.length=len) (pB: ∀y∈new,y.cells.length=cz) (Kq: ∀y∈di new,y.cS=true) (g2:VL G (di new) vs):
  ∃w',(storeCells ⟨r.block,r.bQ+bL*r.cz,none⟩ vs.toList 0).run P w=.ok () w'/\eA G ⟨dT s.heap id (.cells cz (elems.take bL++(new++elems.drop (bL+len)))),s.bS⟩ w'/\
   Ext G s w G ⟨dT s.heap id (.cells cz (elems.take bL++(new++elems.drop (bL+len)))),s.bS⟩ w':=by
 obtain⟨o,e2,e3⟩:=hs.at hg ho
 cases e3 with
 |cells _ _ cs te s7 dS h0 xm N9 CZ hV=>
  subst dS
  have CH:vs.size=len*r.cz:=by rw[<-g2.1,dy pB,JT]
  have ou:r.bQ+bL*r.cz+vs.toList.length<=cs.size:=by
   simp only[E6]
   rw[CH,s7,CC,<-uw]
   exact vS (QQ (zp _ (by omega)) _) eP
  have fh:=run_storeCells_at P r.block (r.bQ+bL*r.cz) te vs.toList 0 cs w e2 (by simpa using ou) (g2.sZ Kq)
  simp only[CD]at fh
  have IC: ∀y∈elems.take bL++(new++elems.drop (bL+len)),y.cells.length=r.cz:=λy hy=>by
   simp only[la]at hy
   rcases hy with hy|hy|hy
   ·exact xm y (w8 hy)
   ·exact pB y hy
   ·exact xm y (GF hy)
  have YC:(di (elems.take bL)).length=bL*r.cz:=by
   rw[dy (cz:=r.cz) λy hy=>xm y (w8 hy)];congr 1;simp;omega
  have NX:(di new).length=len*r.cz:=by rw[dy pB,JT]
  obtain⟨q1,q2⟩:=xi hs hg ho e2 (elems':=elems.take bL++(new++elems.drop (bL+len))) (cs':=(cs.toList.take (r.bQ+bL*r.cz)++vs.toList++cs.toList.drop (r.bQ+bL*r.cz+vs.toList.length)).toArray)
   (by simp only[Ua,kc,CS,Tf,E6]at ou |-;omega) rfl h0 IC (λy hy=>by
    rw[dx,dx]at hy
    simp only[la]at hy
    have q: ∀(l:List AV),(∀z∈l,z∈elems)-> ∀y∈di l,y.cS=true:=λl hl y hy=>N9 y (by
     rw[di,sL]at hy |-
     obtain⟨z,hz,hy⟩:=hy
     exact⟨z,hl z hz,hy⟩)
    rcases hy with hy|hy|hy
    ·exact q _ (λz hz=>w8 hz) y hy
    ·exact Kq y hy
    ·exact q _ (λz hz=>GF hz) y hy)
   (by
    have q:(elems.take bL++(new++elems.drop (bL+len))).length=max elems.length (bL+len):=by simp[JT];omega
    rw[q]
    rcases Nat.le_total elems.length (bL+len)with c|c
    ·rw[Nat.max_eq_right c];exact vS (QQ (zp _ (by omega)) _) eP
    ·rw[Nat.max_eq_left c];exact CZ) λk y hk=>by
    rw[dx,dx]at hk
    rw[kW _ _ _ _ ou]
    by_cases c1:k<bL*r.cz
    ·rw[if_pos (by omega)]
     rw[nq (by omega)]at hk
     have kX:=gJ (n:=bL) (l:=0) xm h0 (k:=k) (x:=y) (by simpa using hk)
     simpa using hV _ y (by simpa using kX)
    ·rw[if_neg (by omega)]
     rw[pn (by omega),YC]at hk
     by_cases c2:k<bL*r.cz+len*r.cz
     ·rw[if_pos (by simp only[E6];omega)]
      rw[nq (by omega)]at hk
      obtain⟨v,p1,p2⟩:=g2.get hk
      refine⟨v,?_,p2⟩
      rw[show r.bQ+k-(r.bQ+bL*r.cz)=k-bL*r.cz from by omega]
      simpa using p1
     ·rw[if_neg (by simp only[E6];omega)]
      rw[pn (by omega),NX]at hk
      have kX:=gJ (n:=elems.length) (l:=bL+len) xm h0 (k:=k-bL*r.cz-len*r.cz) (x:=y) (by rw[Bb];exact hk)
      rw[show(bL+len)*r.cz+(k-bL*r.cz-len*r.cz)=k from by rw[uw];omega]at kX
      exact hV k y kX
  exact⟨_,fh,q1,q2⟩
theorem II(hs:eA G s w){t ty:Nat}{x z:AV}{xv:Value}{ts:Array TypeId}(YE:ts[0]? =some t)(hx:V G x xv)(h:Fa P t x s=some (z,s')):sN P G s w (Builtin.clear_ ts ty #[xv]) z s':=by
 unfold Fa at h
 split at h
 case h_2=>cases h
 rename_i e id bL len he
 have ht:=fj he
 split at h
 case h_2=>cases h
 rename_i cz elems zz hg hz
 split at h
 case isFalse=>cases h
 rename_i hc
 obtain⟨eo,z7,Tr,Kp⟩:=hc
 cases h
 have nothing:len=0->eA G ⟨dT s.heap id (.cells cz (elems.take bL++(List.replicate len zz++elems.drop (bL+len)))),s.bS⟩ w/\Ext G s w G ⟨dT s.heap id (.cells cz (elems.take bL++(List.replicate len zz++elems.drop (bL+len)))),s.bS⟩ w:=λh0=>by
  subst h0
  have jC:elems.take bL++(List.replicate 0 zz++elems.drop (bL+0))=elems:=by simp
  rw[jC]
  have ff: ∀i b,bH (dT s.heap id (.cells cz elems)) i=some b->bH s.heap i=some b:=λi b hi=>by
   rw[eC]at hi
   split at hi
   ·rename_i hq;subst hq;rw[hg];exact hi
   ·exact hi
  refine⟨hs.drop ff (eu _),Ext.drop ff (eu _) λi hi=>?_⟩
  rw[eC];split
  ·rename_i hq;subst hq;rw[hg]at hi;exact hi
  ·exact hi
 have Ku:V G (.dW []) (.tuple #[]):=.dW [] #[] rfl (by simp)
 cases hx with
 |gn _ _ cap bQ hc=>
  obtain⟨q1,q2⟩:=nothing rfl
  refine⟨_,G,w,?_,Ku,q1,q2⟩
  cases bQ<;>simp[Builtin.clear_,YE,run_underlying ht]
 |ms _ _ _ cap r addr ho ep eP gm=>
  by_cases h0:len=0
  ·obtain⟨q1,q2⟩:=nothing h0
   refine⟨_,G,w,?_,Ku,q1,q2⟩
   subst h0
   simp[Builtin.clear_,YE,run_underlying ht]
  ·have Uw:=gm (by omega)
   subst Uw
   obtain⟨zv,Ut,Kt⟩:=jO hz w G
   have Uz:=VL.cells Kt (lR Tr)
   have N7:zv.cells.size=cz:=by rw[<-Uz.1,z7]
   have Bn:0<cz:=by
    obtain⟨o,_,e3⟩:=hs.at hg ho
    cases e3 with
    |cells _ _ _ _ _ _ h0=>exact h0
   have PN:VL G (di (List.replicate len zz)) (Builtin.zeroCells zv.cells len):=by
    have iA: ∀y∈List.replicate len zz,y.cells.length=cz:=λy hy=>by rw[Nw hy];exact z7
    refine⟨by rw[dy iA];simp[Builtin.zeroCells,N7],λk x y hk hy=>?_⟩
    obtain⟨p1,p2⟩:=mh len zz (by omega) hk
    obtain⟨v,r1,r2⟩:=Uz.get p2
    have wC:zv.cells[k%cz]! =v:=by rw[X2,wz,<-z7,r1];rfl
    rw[z7]at p1
    simp only[Builtin.zeroCells,Array.getElem?_map,N7]at hy
    rw[JP (by simpa using p1)]at hy
    simp only[Array.getElem_range,gl,Option.some.injEq]at hy
    rw[<-hy,wC]
    exact r2
   obtain⟨w',q0,q1,q2⟩:=Fh (P:=P) hs hg ho ep eP (by omega) (Ub) (λy hy=>by rw[Nw hy];exact z7) (λy hy=>by
    rw[di,sL]at hy
    obtain⟨q,hq,hy⟩:=hy
    rw[Nw hq]at hy
    exact jP Tr y hy) PN
   refine⟨_,G,w',?_,Ku,q1,q2⟩
   obtain⟨n,rfl⟩: ∃n,len=n+1:=⟨len-1,by omega⟩
   simp[Builtin.clear_,YE,run_underlying ht,Ut,q0]
end
end Go.Am
end
section
namespace Go.Am
open Go.RowKit
section
variable {P:Program} {G:bZ} {s s':St} {w:World} {bI:Env} {a:Act}
theorem xn(off:Nat): ∀(vs:List Value)(st:Nat)(cs:Array Value)(i:Nat),off+st+vs.length<=cs.size->
  (((vs.zipIdx st).foldl (λcs(x:Value×Nat)=>cs.setIfInBounds (off+x.2) x.1) cs))[i]? =if i<off+st then cs[i]? else if i<off+st+vs.length then vs[i-(off+st)]? else cs[i]?
 | [],st,cs,i,h=>by
  simp only[List.zipIdx_nil,List.foldl_nil,JQ,CD]
  split
  ·rfl
  ·rfl
 |v::r,st,cs,i,h=>by
  simp only[List.zipIdx_cons,QV,oc]at h |-
  rw[xn off r (st+1) _ i (by simp;omega),Array.getElem?_setIfInBounds]
  by_cases h1:i<off+st
  ·simp only[if_neg (show¬off+st=i from by omega)]
   rw[if_pos (by omega),if_pos h1]
  ·by_cases h2:off+st=i
   ·subst h2
    rw[if_pos (by omega),if_pos rfl,if_pos (by omega),if_neg (by omega),if_pos (by omega)]
    simp
   ·simp only[if_neg h2]
    rw[if_neg (by omega),if_neg h1]
    by_cases h3:i<off+st+(r.length+1)
    ·rw[if_pos (by omega),if_pos h3,show i-(off+st)=(i-(off+(st+1)))+1 from by omega]
     simp
    ·rw[if_neg (by omega),if_neg h3]
theorem vv(off:Nat): ∀(vs:List Value)(st:Nat)(cs:Array Value),((vs.zipIdx st).foldl (λcs(x:Value×Nat)=>cs.setIfInBounds (off+x.2) x.1) cs).size=cs.size
 | [],st,cs=>rfl
 |v::r,st,cs=>by simp only[List.zipIdx_cons,QV];rw[vv off r];simp
theorem s8{bP place':Nat->Option (Nat×Nat)}(hp: ∀i q,bP i=some q->place' i=some q): ∀{cu:List (Nat×AV)}{rU:List (Nat×Value)}{cells l:List AV}{cv:Array Value},
  VL G cells cv->(cu.length=rU.length/\ ∀(i:Nat)p q,cu[i]? =some p->rU[i]? =some q->p.1=q.1/\V G p.2 q.2)->rD bP cells cu=some l->
  ∃out,Instr.fill place' cv rU=some out/\VL G l out
 | [],rU,cells,l,cv,hv,ku,h=>by
  cases rU with
  |nil=>cases h;exact⟨cv,rfl,hv⟩
  |cons _ _=>simp at ku
 |(i,x)::r,rU,cells,l,cv,hv,ku,h=>by
  cases rU with
  |nil=>simp at ku
  |cons q r'=>
   obtain⟨j,v⟩:=q
   obtain⟨dt,ku⟩:=ku
   obtain⟨rfl,Uu⟩:i=j/\V G x v:=ku 0 (i,x) (j,v) rfl rfl
   simp only[rD]at h
   split at h
   case h_2=>cases h
   rename_i off n sO
   split at h
   case isFalse=>cases h
   rename_i hc
   obtain⟨h1,h2,h3⟩:=hc
   have hl:=VL.cells Uu (lR h2)
   have CH:v.cells.size=n:=by rw[<-hl.1,h1]
   have s7:cv.size=cells.length:=hv.1.symm
   simp only[Instr.fill,hp i _ sO]
   rw[if_neg (by simp[CH];omega)]
   refine s8 hp ?_ ⟨by simpa using dt,λk p q hk hq=>ku (k+1) p q (by simpa using hk) (by simpa using hq)⟩ h
   have e:(v.cells.zipIdx.foldl (λcs(x:Value×Nat)=>cs.setIfInBounds (off+x.2) x.1) cv)=((v.cells.toList.zipIdx 0).foldl (λcs(x:Value×Nat)=>cs.setIfInBounds (off+x.2) x.1) cv):=by
    rw[<-Array.foldl_toList,Array.toList_zipIdx]
   refine⟨?_,λk y u hk hu=>?_⟩
   ·rw[mW _ _ _ (by omega)]
    show cells.length=(v.cells.zipIdx.foldl (λcs(x:Value×Nat)=>cs.setIfInBounds (off+x.2) x.1) cv).size
    rw[e,vv,s7]
   ·rw[oY _ _ _ _ (by omega)]at hk
    change (v.cells.zipIdx.foldl (λcs(x:Value×Nat)=>cs.setIfInBounds (off+x.2) x.1) cv)[k]? =some u at hu
    rw[e,xn _ _ _ _ _ (by simp[CH];omega)]at hu
    simp only[CD,E6,CH,h1]at hu hk
    split at hk
    ·rename_i c;rw[if_pos c]at hu;exact hv.2 k y u hk hu
    ·rename_i c
     rw[if_neg c]at hu
     split at hk
     ·rename_i c2;rw[if_pos c2]at hu;exact hl.2 _ y u hk (by simpa using hu)
     ·rename_i c2;rw[if_neg c2]at hu;exact hv.2 k y u hk hu
theorem s9(he:iX G bI a.tmps): ∀{l:List (Nat×Operand)}{xs:List (Nat×AV)},lC bI l=some xs->
  xs.length=(l.map λp=>(p.1,a.eval p.2)).length/\ ∀(i:Nat)p q,xs[i]? =some p->(l.map λp=>(p.1,a.eval p.2))[i]? =some q->p.1=q.1/\V G p.2 q.2
 | [],xs,h=>by simp[lC]at h;subst h;simp
 |(j,o)::r,xs,h=>by
  simp only[lC]at h
  split at h
  ·rename_i x l h1 h2
   cases h
   obtain⟨e1,e2⟩:=s9 he h2
   refine⟨by simpa using e1,λi p q hp hq=>?_⟩
   cases i with
   |zero=>simp at hp hq;subst hp;subst hq;exact⟨rfl,eB he h1⟩
   |succ i=>exact e2 i p q (by simpa using hp) (by simpa using hq)
  ·cases h
theorem pL(w:World): ∀(fs:List Field),(fs.all λf=>(dl P f.type).isSome)=true->
  (fs.mapM λf=>Functor.map (Prod.mk f.offset) (sizeOf f.type)).run P w=.ok (fs.map λf=>(f.offset,(dl P f.type).getD 0)) w
 | [],_=>rfl
 |f::r,h=>by
  simp only[WE,eW]at h
  cases hq:dl P f.type with
  |none=>rw[hq]at h;cases h.1
  |some n=>
   have ih:=pL w r h.2
   simp only[List.mapM_cons,Sem.run_bind,Sem.run_map,dX hq,Result.andThen_ok,ih,Sem.run_pure,wy,hq,Bc]
theorem IJ(hs:eA G s w)(he:iX G bI a.tmps){t:Nat}{cu:Array (Nat×Operand)}{l:List (Nat×AV)}{x:AV}(hl:lC bI cu.toList=some l)(h:xf P t l=some x):
  sN P G s w (Instr.build t (cu.map λ(i,x)=>(i,a.eval x))) x s:=by
 have hp:=s9 he hl
 unfold xf at h
 split at h
 case h_2=>cases h
 rename_i cs hz
 obtain⟨zv,NG,Kt⟩:=jO hz w G
 have z7:=VL.cells Kt (by simp)
 split at h
 ·rename_i ia
  split at h
  case h_2=>cases h
  rename_i out re
  cases h
  unfold wA at ia
  split at ia
  case h_2=>cases ia
  rename_i fs hu
  have hm:=pL w fs.toList ia
  obtain⟨ov,f1,f2⟩:=s8 (place':=λi=>((fs.toList.map λ(f:Field)=>(f.offset,(dl P f.type).getD 0)).toArray)[i]?) (λi q hq=>by
   obtain⟨off,n⟩:=q
   obtain⟨fs',f,hu',To,Kj,hn⟩:=xg hq
   rw[hu]at hu';cases hu'
   simp only[List.getElem?_toArray,sK,X3,To,gl,Kj,hn,Bc]) z7 hp re
  refine dG hs (v:=.agg ov) ?_ (.agg _ _ f2.1 f2.2)
  simp only[Instr.build,Sem.run_bind,NG,Result.andThen_ok,run_underlying hu,Array.mapM_eq_mapM_toList,Sem.run_map]
  have Ns:(fs.toList.mapM λ(f:Field)=>do pure (f.offset,<-sizeOf f.type)).run P w=.ok (fs.toList.map λ(f:Field)=>(f.offset,(dl P f.type).getD 0)) w:=hm
  simp only[Ns,Result.andThen_ok,WM]
  have IK:Instr.fill (λi=>((fs.toList.map λ(f:Field)=>(f.offset,(dl P f.type).getD 0)).toArray)[i]?) zv.cells (cu.toList.map λp=>(p.1,a.eval p.2))=some ov:=f1
  simp only[IK]
  rfl
 ·split at h
  case h_2=>cases h
  rename_i m e hu
  split at h
  case h_2=>cases h
  rename_i sz eo
  split at h
  case h_2=>cases h
  rename_i out re
  cases h
  obtain⟨ov,f1,f2⟩:=s8 (place':=λi=>some (i*sz,sz)) (λi q hq=>hq) z7 hp re
  refine dG hs (v:=.agg ov) ?_ (.agg _ _ f2.1 f2.2)
  simp only[Instr.build,Sem.run_bind,NG,Result.andThen_ok,run_underlying (Bi hu),dX eo,WM]
  have IK:Instr.fill (λi=>some (i*sz,sz)) zv.cells (cu.toList.map λp=>(p.1,a.eval p.2))=some ov:=f1
  simp only[IK]
  rfl
end
end Go.Am
end
section
namespace Go.Am
open Go.RowKit
section
variable {P:Program} {G:bZ} {s s':St} {w:World} {bI:Env} {a:Act}
theorem rV{sz:Nat}: ∀{cu:List (Nat×AV)}{st:Nat}{cells:List AV},ny cu st=true->(∀p∈cu,p.2.cells.length=sz/\p.2.cells.all AV.cS=true)->
  cells.length=(st+cu.length)*sz->rD (λi=>some (i*sz,sz)) cells cu=some (cells.take (st*sz)++di (cu.map (·.2)))
 | [],st,cells,_,_,hl=>by
  simp only[JQ,CD]at hl
  simp only[rD,PK,Kc,wx]
  rw[rP (Nat.le_of_eq hl)]
 |(j,x)::r,st,cells,hn,hp,hl=>by
  simp only[ny,eW,beq_iff_eq]at hn
  obtain⟨rfl,hn⟩:=hn
  obtain⟨h1,h2⟩:=hp (j,x) (by simp)
  simp only[]at h1 h2
  have ep:j*sz+sz<=cells.length:=by
   rw[hl,oc,<-Nat.succ_mul]
   exact zp _ (by omega)
  simp only[rD,h1,h2,ep,and_self,if_true]
  have IL:(jj cells (j*sz) x.cells).length=cells.length:=mW _ _ _ (by omega)
  rw[rV hn (λp CI=>hp p (by simp[CI])) (by rw[IL,hl,oc];congr 1;omega)]
  congr 1
  rw[wy,iV,<-CT]
  congr 1
  rw[uw,Nat.one_mul]
  unfold jj
  rw[<-CT,WJ (by simp[h1];omega)]
  rw[rP (by simp[h1];omega)]
theorem xo(hs:eA G s w)(he:iX G bI a.tmps){t len:Nat}{cu:Array (Nat×Operand)}{l:List (Nat×AV)}{x:AV}(hl:lC bI cu.toList=some l)(h:fR P t len l=some x):
  sN P G s w (Instr.buildSlice t len (cu.map λ(i,x)=>(i,a.eval x))) x s:=by
 have hp:=s9 he hl
 unfold fR at h
 split at h
 case h_2=>cases h
 rename_i e hu
 split at h
 case h_2=>cases h
 rename_i sz z eo hz
 split at h
 case isFalse=>cases h
 rename_i hc
 obtain⟨rfl,h2,h3,h4,h5,h6⟩:=hc
 cases h
 obtain⟨zv,NG,Kt⟩:=jO hz w G
 let zc:Array Value:=if l.length*sz=0 then #[]else zv.cells
 let c0:Array Value:=(Array.range (l.length*sz)).map (zc[· %zc.size]!)
 have UA:VL G (List.replicate (l.length*sz) AV.any) c0:=⟨by simp[c0],λi x y hx _=>by
  rw[WL]at hx
  split at hx
  ·cases hx;exact .any _
  ·cases hx⟩
 have pB:=rV (sz:=sz) (st:=0) (cells:=List.replicate (l.length*sz) AV.any) h2 h3 (by simp)
 simp only[T7,QR,qY]at pB
 obtain⟨ov,f1,f2⟩:=s8 (place':=λi=>some (i*sz,sz)) (λi q hq=>hq) UA hp pB
 have iA: ∀y∈l.map (·.2),y.cells.length=sz:=λy hy=>by
  obtain⟨p,hp,rfl⟩:=kb.1 hy
  exact(h3 p hp).1
 have dt:ov.size=l.length*sz:=by rw[<-f2.1,dy iA];simp
 obtain⟨q1,q2⟩:=hs.QX ov e
 have fh:(Instr.buildSlice t l.length (cu.map λ(i,x)=>(i,a.eval x))).run P w=.ok (.slice (some ⟨w.heap.size,0,none⟩) l.length l.length) (w.alloc (.cells ov e)):=by
  have YF: ¬(2^24<l.length*sz):=by omega
  have YG: ¬(16777216<l.length*sz):=by omega
  simp only[Instr.buildSlice,Sem.run_bind,run_underlying (fj hu),dX eo,Result.andThen_ok,gt_iff_lt,if_neg YF,WM]
  have IK:Instr.fill (λi=>some (i*sz,sz)) c0 (cu.toList.map λp=>(p.1,a.eval p.2))=some ov:=f1
  by_cases hN:l.length*sz=0
  ·rw[if_pos hN]
   simp only[c0,zc,if_pos hN]at IK
   simp only[pure_bind,IK]
   simp[newRow]
  ·rw[if_neg hN]
   simp only[c0,zc,if_neg hN]at IK
   simp only[Sem.run_bind,NG,Result.andThen_ok,Sem.run_pure,IK]
   simp[newRow]
 refine⟨_,_,_,fh,?_,q1,q2⟩
 have ep:=q2.le
 have jZ: ∀k y,(di (l.map (·.2)))[k]? =some y-> ∃v,ov[k]? =some v/\V G y v:=λk y hk=>f2.get hk
 have key:=V.sl (G:=G.gG w.heap.size ov) true (l.map (·.2)) w.heap.size 0 sz l.length (λk=>ov.getD k undef) (by simp) (by simp) iA
  (λy hy=>by
   rw[di,sL]at hy
   obtain⟨q,hq,hy⟩:=hy
   obtain⟨p,hp,rfl⟩:=kb.1 hq
   exact jP (h3 p hp).2 y hy)
  (λk hk=>by
   have kX:k<ov.size:=by rw[dt];simpa using hk
   simp[bZ.gG,kX])
  (λk y hk=>by
   obtain⟨v,e1,e2⟩:=jZ k y hk
   simp only[wz,e1,Bc]
   exact e2.mono ep)
 simpa using key
theorem Kv{op:BinOp}{k:IntKind}{x y:Int}{z:AV}(xp:op≠ .shl)(YH:op≠ .shr)(h:xe op k x y=some z)(t:TypeId):
  ∃v,(binOp op t (.int k x) (.int k y)).run P w=.ok v w/\V G z v:=by
 cases op<;>simp only[xe]at h<;>first
  |(cases h;done)
  |(exact absurd rfl xp)
  |(exact absurd rfl YH)
  |(cases h;exact⟨_,by simp[binOp,Op.intArith],.int _ _⟩)
  |(cases h;exact⟨_,by simp only[binOp,ne_eq,not_true_eq_false,if_false,Op.intCmp,Sem.run_pure];rfl,by
   have: ∀b c:Bool,b=c->V G (.bool b) (.bool c):=λb c e=>by subst e;exact .bool b
   apply this
   first|rfl|(rw[Bool.eq_iff_iff];simp)⟩)
  |(split at h;cases h;rename_i hy;cases h;exact⟨_,by simp[binOp,Op.intDiv,hy],.int _ _⟩)
theorem xq{op:BinOp}{k k':IntKind}{x y:Int}{z:AV}(xp:op=.shl\/op=.shr)(h:xe op k x y=some z)(t:TypeId):
  ∃v,(binOp op t (.int k x) (.int k' y)).run P w=.ok v w/\V G z v:=by
 rcases xp with rfl|rfl<;>simp only[xe]at h<;>(split at h)<;>first
  |(cases h;done)
  |(rename_i hy;cases h;exact⟨_,by simp[binOp,Op.shift,hy],.int _ _⟩)
theorem Oa: ∀(d:Nat)(t:TypeId)(x y:AV)(xv yv:Value)(b:Bool)(n:Nat),V G x xv->V G y yv->NC P d t x y=some b->d<=n->(Op.equalIn n t xv yv).run P w=.ok b w:=by
 intro d
 induction d with
 |zero=>intro t x y xv yv b n _ _ h;simp[NC]at h
 |succ d ih=>
  intro t x y xv yv b n hx hy h hn
  obtain⟨n,rfl⟩: ∃m,n=m+1:=⟨n-1,by omega⟩
  simp only[NC]at h
  split at h
  ·rename_i hu;cases h;cases hx;cases hy;simp[Op.equalIn,run_underlying hu]
  ·rename_i hu
   split at h
   ·rename_i hk;subst hk;cases h;cases hx;cases hy
    simp only[Op.equalIn,Sem.run_bind,run_underlying hu,Result.andThen_ok,if_true,Sem.run_pure]
    congr 1
   ·cases h
  ·rename_i hu;cases h;cases hx;cases hy
   simp[Op.equalIn,run_underlying hu,beq_toListBytes]
  ·rename_i hu;cases h;cases hx;cases hy;simp[Op.equalIn,run_underlying hu]
  ·rename_i hu;cases h;cases hx;cases hy;simp[Op.equalIn,run_underlying hu]
  ·rename_i hu;cases h;cases hx;cases hy;simp[Op.equalIn,run_underlying hu]
  ·rename_i hu;cases h;cases hx;cases hy;simp[Op.equalIn,run_underlying hu]
  ·rename_i hu;cases h;cases hx;cases hy;simp[Op.equalIn,run_underlying hu]
  ·rename_i hu;cases h;cases hx;cases hy;simp[Op.equalIn,run_underlying hu]
  ·rename_i fs xs0 ys0 hu
   split at h
   ·cases h
   ·rename_i ia
    cases hx with
    |agg xs xvs YI hxh=>
     cases hy with
     |agg ys yvs hyl hyh=>
      have YJ:P.fieldsOf t=fs:=by simp[Program.fieldsOf,hu]
      rw[run_equalIn_struct w n t xvs yvs (by rw[YJ];exact hu) (by simpa using ia),YJ]
      clear hu YJ
      generalize fs.toList=l at h
      induction l generalizing b with
      |nil=>simp only[qp]at h;cases h;simp[Op.eqFields]
      |cons f r ihl=>
       simp only[qp]at h
       split at h
       ·cases h
       ·rename_i UB
        split at h
        case h_2=>cases h
        rename_i p q hp hq
        split at h
        case h_2=>cases h
        rename_i b1 b2 uF wC
        cases h
        obtain⟨pv,p1,p2⟩:=ot (P:=P) (w:=w) ⟨YI,hxh⟩ hp
        obtain⟨qv,q1,q2⟩:=ot (P:=P) (w:=w) ⟨hyl,hyh⟩ hq
        have e1:=ih f.type p q pv qv b1 n p2 q2 uF (by omega)
        have e2:=ihl b2 wC
        simp only[Op.eqFields,ne_eq,UB,not_false_eq_true,if_true,Sem.run_bind,p1,q1,e1,Result.andThen_ok]
        cases b1
        ·simp
        ·simpa using e2
  ·cases h
theorem pM{op:BinOp}{t:TypeId}{x y:Operand}{xv yv:Value}(h:(∃cs ds,xv=.agg cs/\yv=.agg ds/\P.eqGuardType P.depth t=false)\/(xv≠ .nilIface/\ ∀cs,xv≠ .agg cs)):
  (eqGuard op t x y xv yv).run P w=.ok () w:=by
 rcases h with⟨cs,ds,rfl,rfl,hg⟩|⟨h1,h2⟩
 ·cases op<;>simp[eqGuard,hg]
 ·cases xv<;>first
   |exact absurd rfl h1
   |exact absurd rfl (h2 _)
   |(cases op<;>simp[eqGuard])
theorem Kw{op:BinOp}{t:TypeId}{ox oy:Operand}{x y z:AV}{xv yv:Value}(hx:V G x xv)(hy:V G y yv)(h:Fb P op t x y=some z):
  ∃v,(do eqGuard op t ox oy xv yv;binOp op t xv yv:Sem Value).run P w=.ok v w/\V G z v:=by
 have guard: ∀{xv yv:Value},(xv≠ .nilIface/\ ∀cs,xv≠ .agg cs)-> ∀{v:Value},(binOp op t xv yv).run P w=.ok v w->(do eqGuard op t ox oy xv yv;binOp op t xv yv:Sem Value).run P w=.ok v w:=by
  intro xv yv hg v hv
  rw[Sem.run_bind,pM (.inr hg),Result.andThen_ok,hv]
 unfold Fb at h
 split at h
 ·cases hx;cases hy
  split at h
  ·obtain⟨v,e1,e2⟩:=xq (P:=P) (G:=G) (w:=w) (.inl rfl) h t
   exact⟨v,guard ⟨by simp,by simp⟩ e1,e2⟩
  ·obtain⟨v,e1,e2⟩:=xq (P:=P) (G:=G) (w:=w) (.inr rfl) h t
   exact⟨v,guard ⟨by simp,by simp⟩ e1,e2⟩
  ·rename_i h1 h2
   split at h
   ·rename_i hk;subst hk
    obtain⟨v,e1,e2⟩:=Kv (P:=P) (G:=G) (w:=w) (λe=>h1 e) (λe=>h2 e) h t
    exact⟨v,guard ⟨by simp,by simp⟩ e1,e2⟩
   ·cases h
 ·cases hx;cases hy
  have hb: ∀{b c:Bool},b=c->V G (.bool b) (.bool c):=λe=>by subst e;exact .bool _
  split at h
  ·split at h
   ·rename_i eo
    cases h
    refine⟨_,guard ⟨by simp,by simp⟩ ?_,.str _⟩
    unfold maxLen at eo
    simp only[binOp,Op.stringOp]
    have hm:IntKind.i64.max=9223372036854775807:=by decide
    rw[hm,if_neg (by omega)]
    rfl
   ·cases h
  ·cases h;exact⟨_,guard ⟨by simp,by simp⟩ (by simp only[binOp,Op.stringOp];rfl),.bool _⟩
  ·cases h;exact⟨_,guard ⟨by simp,by simp⟩ (by simp only[binOp,Op.stringOp];rfl),.bool _⟩
  ·cases h;exact⟨_,guard ⟨by simp,by simp⟩ (by simp only[binOp,Op.stringOp];rfl),.bool _⟩
  ·cases h;exact⟨_,guard ⟨by simp,by simp⟩ (by simp only[binOp,Op.stringOp];rfl),.bool _⟩
  ·cases h;exact⟨_,guard ⟨by simp,by simp⟩ (by simp only[binOp,Op.stringOp];rfl),.bool _⟩
  ·cases h;exact⟨_,guard ⟨by simp,by simp⟩ (by simp only[binOp,Op.stringOp];rfl),.bool _⟩
  ·cases h
 ·rename_i n1 n2
  split at h
  ·cases h
  ·rename_i hg
   have main: ∀b,NC P 8 t x y=some b->(eqGuard op t ox oy xv yv).run P w=.ok () w/\(Op.equal t xv yv).run P w=.ok b w/\
     (op=.eql->(binOp op t xv yv).run P w=.ok (.bool b) w)/\(op=.neq->(binOp op t xv yv).run P w=.ok (.bool !b) w):=by
    intro b hb
    have he:(Op.equal t xv yv).run P w=.ok b w:=Oa 8 t x y xv yv b Op.maxDepth hx hy hb (by decide)
    have zh:(∃cs ds,xv=.agg cs/\yv=.agg ds)\/(xv≠ .nilIface/\ ∀cs,xv≠ .agg cs):=by
     simp only[NC]at hb
     split at hb<;>first
      |(cases hb;done)
      |(cases hx;cases hy;exact .inl ⟨_,_,rfl,rfl⟩)
      |(cases hx;exact .inr ⟨by simp,by simp⟩)
    refine⟨pM ?_,he,λe=>?_,λe=>?_⟩
    ·rcases zh with⟨cs,ds,e1,e2⟩|h'
     ·exact .inl ⟨cs,ds,e1,e2,by simpa using hg⟩
     ·exact .inr h'
    ·subst e
     simp only[NC]at hb
     split at hb<;>first
      |(exact(n1 _ _ _ _ rfl rfl).elim)
      |(exact(n2 _ _ rfl rfl).elim)
      |(cases hb;done)
      |(cases hx;cases hy;simp only[binOp,Sem.run_bind,he,Result.andThen_ok,Sem.run_pure])
    ·subst e
     simp only[NC]at hb
     split at hb<;>first
      |(exact(n1 _ _ _ _ rfl rfl).elim)
      |(exact(n2 _ _ rfl rfl).elim)
      |(cases hb;done)
      |(cases hx;cases hy;simp only[binOp,Sem.run_bind,he,Result.andThen_ok,Sem.run_pure])
   split at h
   ·split at h
    ·rename_i b hb
     cases h
     obtain⟨m1,m2,m3,m4⟩:=main b hb
     exact⟨.bool b,by rw[Sem.run_bind,m1,Result.andThen_ok,m3 rfl],.bool _⟩
    ·cases h
   ·split at h
    ·rename_i b hb
     cases h
     obtain⟨m1,m2,m3,m4⟩:=main b hb
     exact⟨.bool !b,by rw[Sem.run_bind,m1,Result.andThen_ok,m4 rfl],.bool _⟩
    ·cases h
   ·cases h
end
end Go.Am
end
section
namespace Go.Am
open Go.RowKit
section
variable {P:Program} {G:bZ} {s s':St} {w:World} {bI:Env} {a:Act}
def Kx(P:Program)(G:bZ)(s:St)(w:World)(N2:Sem Next)(x:AV)(s':St):Prop:=
 ∃nx v G' w',N2.run P w=.ok nx w'/\(nx=.value v\/(nx=.skip/\v=undef))/\V G' x v/\eA G' s' w'/\Ext G s w G' s' w'
theorem sN.next{N2:Sem Value}{x:AV}(h:sN P G s w N2 x s'):Kx P G s w (do pure (.value (<-N2))) x s':=by
 obtain⟨v,G',w',e1,e2,e3,e4⟩:=h
 exact⟨.value v,v,G',w',by simp[e1],.inl rfl,e2,e3,e4⟩
theorem dF{v:Option AV}{x:AV}(h:gg v s=some (x,s')):v=some x/\s'=s:=by
 unfold gg at h
 split at h
 ·cases h;exact⟨rfl,rfl⟩
 ·cases h
theorem GQ(hs:eA G s w){x:AV}{v:Value}(hv:V G x v):Kx P G s w (pure (.value v)) x s:=⟨.value v,v,G,w,rfl,.inl rfl,hv,hs,.refl _ _ _⟩
theorem Ky(hs:eA G s w){t ty:TypeId}{ts:Array TypeId}(ht:ts[0]? =some t){x y:AV}{xv:Value}(hx:V G x xv)(h:zq P t x=some y):sN P G s w (Builtin.len_ ts ty #[xv]) y s:=by
 unfold zq at h
 split at h
 ·split at h
  case isFalse=>cases h
  rename_i iz
  cases h
  obtain⟨e,iz⟩:=zY.1 iz
  cases hx
  all_goals exact dG hs (v:=goInt _) (by simp[Builtin.len_,ht,run_underlying (fj iz)]) (.int _ _)
 ·split at h
  case isFalse=>cases h
  rename_i iz
  cases h
  obtain⟨e,iz⟩:=zY.1 iz
  obtain⟨bQ,cap,rfl,_⟩:=V.pJ hx
  exact dG hs (v:=goInt _) (by simp[Builtin.len_,ht,run_underlying (fj iz)]) (.int _ _)
 ·split at h
  case isFalse=>cases h
  rename_i iz
  cases h
  obtain⟨e,iz⟩:=zY.1 iz
  cases hx
  all_goals exact dG hs (v:=goInt _) (by simp[Builtin.len_,ht,run_underlying (fj iz)]) (.int _ _)
 ·split at h
  case isFalse=>cases h
  rename_i ia
  cases h
  cases hx
  exact dG hs (v:=goInt _) (by simp[Builtin.len_,ht,run_underlying (Bj ia)]) (.int _ _)
 ·split at h
  case h_2=>cases h
  rename_i n e iz
  cases h
  refine dG hs (v:=goInt n) ?_ (.int _ _)
  cases xv<;>simp[Builtin.len_,ht,run_underlying (Bi iz)]
theorem Kz(hs:eA G s w){t ty:TypeId}{ts:Array TypeId}(ht:ts[0]? =some t){x y:AV}{xv:Value}(hx:V G x xv)(h:QY P t x=some y):sN P G s w (Builtin.cap_ ts ty #[xv]) y s:=by
 unfold QY at h
 split at h
 case h_3=>cases h
 ·split at h
  case isFalse=>cases h
  rename_i iz
  cases h
  obtain⟨e,iz⟩:=zY.1 iz
  cases hx
  all_goals exact dG hs (v:=goInt _) (by simp[Builtin.cap_,ht,run_underlying (fj iz)]) (.int _ _)
 ·split at h
  case isFalse=>cases h
  rename_i iz
  cases h
  obtain⟨e,iz⟩:=zY.1 iz
  cases hx with
  |slnil _ bQ cap hf hb=>
   rw[hf rfl]
   exact dG hs (v:=goInt 0) (by simp[Builtin.cap_,ht,run_underlying (fj iz)]) (.int _ _)
  |sl _ _ b off cz cap val jG jB dS jg gF hV=>
   rw[jB rfl]
   exact dG hs (v:=goInt _) (by simp[Builtin.cap_,ht,run_underlying (fj iz)]) (.int _ _)
theorem uG{f:AV->AV->Option AV}{g:Value->Value->Sem Value}(hf: ∀x y z xv yv,V G x xv->V G y yv->f x y=some z-> ∃v,(g xv yv).run P w=.ok v w/\V G z v):
  ∀{l:List AV}{lv:List Value}{x z:AV}{xv:Value},l.length=lv.length->(∀(i:Nat)p q,l[i]? =some p->lv[i]? =some q->V G p q)->V G x xv->vt f x l=some z->
   ∃v,(lv.foldlM g xv).run P w=.ok v w/\V G z v
 | [],lv,x,z,xv,hl,hV,hx,h=>by
  cases lv with
  |nil=>cases h;exact⟨xv,rfl,hx⟩
  |cons _ _=>simp at hl
 |y::r,lv,x,z,xv,hl,hV,hx,h=>by
  cases lv with
  |nil=>simp at hl
  |cons yv rv=>
   simp only[vt]at h
   split at h
   case h_2=>cases h
   rename_i u hu
   obtain⟨v,e1,e2⟩:=hf x y u xv yv hx (hV 0 y yv rfl rfl) hu
   obtain⟨v',f1,f2⟩:=uG hf (l:=r) (lv:=rv) (by simpa using hl) (λi p q hp hq=>hV (i+1) p q (by simpa using hp) (by simpa using hq)) e2 h
   exact⟨v',by simp[List.foldlM_cons,e1,f1],f2⟩
theorem z8(he:iX G bI a.tmps){l:Array Operand}{x y:AV}(h:opers bI l.toList=some [x,y]): ∃o1 o2,l= #[o1,o2]/\V G x (a.eval o1)/\V G y (a.eval o2):=by
 obtain⟨ls⟩:=l
 obtain⟨e1,e2⟩:=qs he h
 match ls,e1 with
 | [o1,o2],_=>exact⟨o1,o2,rfl,e2 0 _ _ rfl rfl,e2 1 _ _ rfl rfl⟩
theorem uH(he:iX G bI a.tmps){l:Array Operand}{x:AV}(h:opers bI l.toList=some [x]): ∃o1,l= #[o1]/\V G x (a.eval o1):=by
 obtain⟨ls⟩:=l
 obtain⟨e1,e2⟩:=qs he h
 match ls,e1 with
 | [o1],_=>exact⟨o1,rfl,e2 0 _ _ rfl rfl⟩
theorem Bp{ts:Array TypeId}{t u ty:TypeId}{args:Array Value}(h0:ts[0]? =some t)(h1:ts[1]? =some u):Builtin.append_ ts ty args=Builtin.append_ #[t,u] ty args:=by
 unfold Builtin.append_;simp[h0,h1]
theorem xr{ts:Array TypeId}{t ty:TypeId}{args:Array Value}(h0:ts[0]? =some t):Builtin.copy_ ts ty args=Builtin.copy_ #[t,t] ty args:=by
 unfold Builtin.copy_;simp[h0]
theorem uI(hs:eA G s w){t u ty e:TypeId}{x y z:AV}{xv yv:Value}(hx:V G x xv)(hy:V G y yv){new:List AV}(he:dU P t=some e)(hn:fG y s=some new)(hf:kE P e y s)
  (hu:(dU P u).isSome=true) (h:fO P t x new s=some (z,s')):sN P G s w (Builtin.append_ #[t,u] ty #[xv,yv]) z s':=by
 obtain⟨d,hu⟩:=zY.1 hu
 have UC: ∃sz,dl P e=some sz:=by
  unfold fO at h
  rw[he]at h
  simp only at h
  split at h
  ·rename_i sz _ eo _;exact⟨sz,eo⟩
  ·cases h
 obtain⟨sz,eo⟩:=UC
 obtain⟨f1,f2,f3,f4⟩:=fx (P:=P) hs hy hn eo hf
 obtain⟨vs,g1,g2⟩:=f4 new.length (eu _)
 rw[Bb]at g2
 refine xk hs hx he (λsz' zu=>?_) f2 g2 h
 rw[eo]at zu;cases zu
 refine⟨f1,.inl ⟨⟨d,fj hu⟩,λw'=>?_,g1⟩⟩
 have:(Builtin.lenOf yv).run P w=.ok new.length w:=f3
 cases yv<;>simp[Builtin.lenOf]at this |- <;>exact this
theorem wa(hs:eA G s w){t u ty e:TypeId}{x z zz:AV}{k:IntKind}{n:Int}{xv:Value}(hx:V G x xv)(he:dU P t=some e)(hz:ji P e=some zz)(h0:0<=n)(h1:n<=(bJ:Int))
  (hu:(E8 P u).isSome=true) (eo:dl P e=some zz.cells.length) (jg:zz.cells.all AV.cS=true) (h:fO P t x (List.replicate n.toNat zz) s=some (z,s')):
  sN P G s w (Builtin.append_ #[t,u] ty #[xv,.int k n]) z s':=by
 obtain⟨k',hu⟩:=zY.1 hu
 have fh: ∃zv,(∀w',(zeroValue e).run P w'=.ok zv w')/\V G zz zv:=by
  unfold ji at hz
  cases hi:P.info? e with
  |none=>simp[hi]at hz
  |some i=>
   cases Tq:i.zero with
   |none=>simp[hi,Tq]at hz
   |some v=>
    simp[hi,Tq]at hz
    exact⟨v,λw'=>by simp[zeroValue,gN hi,Tq],qq hz⟩
 obtain⟨zv,NG,Kt⟩:=fh
 have z7:=VL.cells Kt (lR jg)
 refine xk hs hx he (news:=if n.toNat*zz.cells.length=0 then #[]else Builtin.zeroCells zv.cells n.toNat) (λsz' zu=>?_) (λy hy=>?_) ⟨?_,λi p q hp hq=>?_⟩ h
 ·rw[eo]at zu;cases zu
  refine⟨λy hy=>by rw[Nw hy],.inr ⟨k',k,n,Kf hu,rfl,h0,h1,by simp,zv,NG,by simp⟩⟩
 ·rw[di,sL]at hy
  obtain⟨q,hq,hy⟩:=hy
  rw[Nw hq]at hy
  exact jP jg y hy
 ·rw[dy (cz:=zz.cells.length) λy hy=>by rw[Nw hy]]
  rw[Ub]
  split
  ·rename_i hn;rw[hn];rfl
  ·rw[size_zeroCells,<-z7.1]
 ·have Bn:0<zz.cells.length:=by
   rcases Nat.eq_zero_or_pos zz.cells.length with h|h
   ·exfalso
    have hl:(di (List.replicate n.toNat zz)).length=0:=by
     rw[dy (cz:=zz.cells.length) λy hy=>by rw[Nw hy]];rw[h];simp
    rw[JO hl]at hp
    simp at hp
   ·exact h
  obtain⟨p1,p2⟩:=mh _ _ Bn hp
  rw[if_neg (by omega)]at hq
  obtain⟨v,r1,r2⟩:=z7.get p2
  have gh:i<n.toNat*zv.cells.size:=by rw[<-z7.1];exact p1
  have Tr:zv.cells.size=zz.cells.length:=z7.1.symm
  have wC:zv.cells[i%zv.cells.size]! =v:=by rw[X2,wz,Tr,r1];rfl
  simp[Builtin.zeroCells,gh,wC]at hq
  subst hq;exact r2
theorem uJ(hs:eA G s w)(he:iX G bI a.tmps)(o:Oper){x:AV}(h:iL P o.op bI s=some (x,s')):Kx P G s w (execOp a.eval o) x s':=by
 unfold iL at h
 obtain⟨dst,op,type,pos,after,guard⟩:=o
 simp only at h
 split at h
 ·
   obtain⟨h1,rfl⟩:=dF h
   exact GQ hs (eB he h1)
 · obtain⟨h1,rfl⟩:=dF h
   exact GQ hs (eB he h1)
 ·
   rename_i c oa ob
   split at h
   case h_2=>cases h
   rename_i b hc
   have hv:=eB he hc
   generalize hq:a.eval c=cv at hv
   cases hv
   cases b
   · simp only[X4,if_false]at h
     obtain⟨h1,rfl⟩:=dF h
     exact⟨.value (a.eval ob),_,G,w,by simp[execOp,hq,asBool],.inl rfl,eB he h1,hs,.refl _ _ _⟩
   · simp only[if_true]at h
     obtain⟨h1,rfl⟩:=dF h
     exact⟨.value (a.eval oa),_,G,w,by simp[execOp,hq,asBool],.inl rfl,eB he h1,hs,.refl _ _ _⟩
 · split at h
   · rename_i z hz
     exact(IA hs (Be hz) h).next
   · split at h
     case h_2=>cases h
     rename_i z hz
     exact(Fe hs hz h).next
 · split at h
   case h_2=>cases h
   rename_i v hv
   exact(GM hs (eB he hv) h).next
 · split at h
   case h_2=>cases h
   rename_i l hl
   obtain⟨h1,rfl⟩:=dF h
   exact(IJ hs he hl h1).next
 · split at h
   case h_2=>cases h
   rename_i l hl
   obtain⟨h1,rfl⟩:=dF h
   exact(xo hs he hl h1).next
 · split at h
   case h_2=>cases h
   rename_i p hp
   obtain⟨h1,rfl⟩:=dF h
   exact(Kh hs (eB he hp) h1).next
 · split at h
   case h_2=>cases h
   rename_i p y hp hy
   split at h
   case h_2=>cases h
   rename_i s2 ia
   cases h
   obtain⟨w',e1,e2,e3⟩:=IB hs (eB he hp) (eB he hy) ia
   exact⟨.skip,undef,G,w',by simp[execOp,e1],.inr ⟨rfl,rfl⟩,.any _,e2,e3⟩
 ·
   rename_i ox
   split at h
   · rename_i hq
     cases h
     have hv:=eB he hq
     generalize UD:a.eval ox=cv at hv
     cases hv with
     |mp id el off r ho=>exact⟨.value _,_,G,w,by simp only[execOp,UD];rfl,.inl rfl,.mp _ _ _ r ho,hs,.refl _ _ _⟩
   · rename_i hq
     cases h
     have hv:=eB he hq
     generalize UD:a.eval ox=cv at hv
     have UE:=hv
     cases hv with
     |ip cells b off val h1 h2=>exact⟨.value _,_,G,w,by simp only[execOp,UD];rfl,.inl rfl,UE,hs,.refl _ _ _⟩
   · rename_i hq
     cases h
     have hv:=eB he hq
     generalize UD:a.eval ox=cv at hv
     have UE:=hv
     cases hv with
     |fn f fH vs h1 h2=>exact⟨.value _,_,G,w,by simp only[execOp,UD];rfl,.inl rfl,UE,hs,.refl _ _ _⟩
   · cases h
 ·
   split at h
   case h_2=>cases h
   rename_i y z hy hz
   obtain⟨h1,rfl⟩:=dF h
   obtain⟨v,e1,e2⟩:=Kw (ox:=_) (oy:=_) (eB he hy) (eB he hz) h1
   exact(dG hs e1 e2).next
 · split at h
   case h_2=>cases h
   rename_i y hy
   obtain⟨h1,rfl⟩:=dF h
   have hv:=eB he hy
   unfold Yn at h1
   split at h1
   · cases h1
     generalize hq:a.eval _=cv at hv
     cases hv
     exact⟨_,_,G,w,by simp only[execOp,hq,Op.unary,Sem.run_bind,Sem.run_pure,Result.andThen_ok],.inl rfl,.bool _,hs,.refl _ _ _⟩
   · cases h1
     generalize hq:a.eval _=cv at hv
     cases hv
     exact⟨_,_,G,w,by simp only[execOp,hq,Op.unary,Op.intArith,Sem.run_bind,Sem.run_pure,Result.andThen_ok],.inl rfl,.int _ _,hs,.refl _ _ _⟩
   · cases h1
 ·
   split at h
   case h_2=>cases h
   rename_i y hy
   obtain⟨h1,rfl⟩:=dF h
   have hv:=eB he hy
   unfold nw at h1
   split at h1
   · split at h1
     case isFalse=>cases h1
     rename_i pK
     split at h1
     case h_2=>cases h1
     rename_i k hk
     cases h1
     obtain⟨d,hd⟩:=zY.1 pK
     generalize hq:a.eval _=cv at hv
     cases hv
     exact⟨_,_,G,w,by simp[execOp,hq,convert,run_underlying hd,run_underlying (Kf hk),Conv.intToInt],.inl rfl,.int _ _,hs,.refl _ _ _⟩
   · split at h1
     case isFalse=>cases h1
     rename_i pK
     cases h1
     obtain⟨d,hd⟩:=zY.1 pK.1
     generalize hq:a.eval _=cv at hv
     cases hv
     exact⟨_,_,G,w,by simp[execOp,hq,convert,run_underlying hd,run_underlying (Bj pK.2)],.inl rfl,.str _,hs,.refl _ _ _⟩
   · cases h1
 ·
   rename_i f first fH
   split at h
   case isFalse=>cases h
   rename_i hf
   split at h
   case h_2=>cases h
   rename_i l hl
   cases h
   have hfe:first= #[]:=QT hf
   subst hfe
   have PN:=sX he hl
   exact⟨.value (.func (.func f) #[] (fH.map a.eval)),_,G,w,by simp[execOp,Instr.makeFunc],.inl rfl,.fn f l _ PN.1 PN.2,hs,.refl _ _ _⟩
 · split at h
   case h_2=>cases h
   rename_i y hy
   obtain⟨h1,rfl⟩:=dF h
   exact(IG hs he (eB he hy) h1).next
 · split at h
   case h_2=>cases h
   rename_i y hy
   obtain⟨h1,rfl⟩:=dF h
   exact(zr hs (eB he hy) h1).next
 · split at h
   case h_2=>cases h
   rename_i y hy
   obtain⟨h1,rfl⟩:=dF h
   exact(ID hs (eB he hy) h1).next
 · split at h
   case h_2=>cases h
   rename_i y z hy hz
   obtain⟨h1,rfl⟩:=dF h
   exact(zt hs (eB he hy) (eB he hz) h1).next
 · split at h
   case h_2=>cases h
   rename_i y z hy hz
   obtain⟨h1,rfl⟩:=dF h
   exact(IF hs (eB he hy) (eB he hz) h1).next
 ·
   split at h
   case h_2=>cases h
   rename_i vs hy
   obtain⟨h1,rfl⟩:=dF h
   have hv:=eB he hy
   generalize hq:a.eval _=cv at hv
   cases hv with
   |dW _ us hl hh=>
     obtain⟨v,e1,e2⟩:=VL.get ⟨hl,hh⟩ h1
     exact⟨.value v,v,G,w,by simp[execOp,hq,Instr.extract,e1],.inl rfl,e2,hs,.refl _ _ _⟩
 · split at h
   case h_2=>cases h
   rename_i y z hy hz
   exact(Ks hs (eB he hy) (eB he hz) h).next
 ·
   rename_i c
   obtain⟨callee,args,argTypes⟩:=c
   simp only at h
   split at h
   ·
     split at h
     case h_2=>cases h
     rename_i y t hy ht
     obtain⟨h1,rfl⟩:=dF h
     obtain⟨o1,rfl,v1⟩:=uH he hy
     have:=(Ky (ty:=type) hs ht v1 h1).next
     simpa[execOp,resolve,invoke,builtin]using this
   ·
     split at h
     case h_2=>cases h
     rename_i y z t u hy ht hu
     obtain⟨o1,o2,rfl,v1,v2⟩:=z8 he hy
     have YL: ∀x,sN P G s w (Builtin.append_ #[t,u] type #[a.eval o1,a.eval o2]) x s'->
       Kx P G s w (execOp a.eval ⟨dst,.call ⟨.builtin .append,#[o1,o2],argTypes⟩,type,pos,after,guard⟩) x s':=λx hd=>by
      rw[<-Bp ht hu]at hd
      simpa[execOp,resolve,invoke,builtin]using hd.next
     refine YL _ ?_
     split at h
     ·rename_i k n
      split at h
      case h_2=>cases h
      rename_i e iz
      split at h
      case h_2=>cases h
      rename_i zz hz
      split at h
      case isFalse=>cases h
      rename_i hc
      generalize a.eval o2=cv at v2
      cases v2
      exact wa hs v1 iz hz hc.1 hc.2.1 hc.2.2.1 hc.2.2.2.1 hc.2.2.2.2 h
     ·split at h
      case h_2=>cases h
      rename_i e new iz hn
      split at h
      case isFalse=>cases h
      rename_i hc
      exact uI hs v1 v2 iz hn hc.1 hc.2 h
   ·
     split at h
     case h_2=>cases h
     rename_i y z t hy ht
     obtain⟨o1,o2,rfl,v1,v2⟩:=z8 he hy
     split at h
     ·have hd:=IH (u:=t) (ty:=type) hs v1 v2 h
      rw[<-xr ht]at hd
      simpa[execOp,resolve,invoke,builtin]using hd.next
     ·split at h
      case h_2=>cases h
      rename_i e new iz hn
      split at h
      case isFalse=>cases h
      rename_i hf
      have hd:=C2 (u:=t) (ty:=type) hs v1 v2 iz hn hf h
      rw[<-xr ht]at hd
      simpa[execOp,resolve,invoke,builtin]using hd.next
   ·
     split at h
     case h_2=>cases h
     rename_i y t hy ht
     obtain⟨h1,rfl⟩:=dF h
     obtain⟨o1,rfl,v1⟩:=uH he hy
     have:=(Kz (ty:=type) hs ht v1 h1).next
     simpa[execOp,resolve,invoke,builtin]using this
   ·
     split at h
     case h_2=>cases h
     rename_i y t hy ht
     obtain⟨o1,rfl,v1⟩:=uH he hy
     have:=(II (ty:=type) hs ht v1 h).next
     simpa[execOp,resolve,invoke,builtin]using this
   ·
     split at h
     case h_2=>cases h
     rename_i y r hy
     obtain⟨h1,rfl⟩:=dF h
     obtain⟨e1,e2⟩:=qs he hy
     obtain⟨ls⟩:=args
     cases ls with
     |nil=>simp at e1
     |cons o1 rest=>
      obtain⟨v,f1,f2⟩:=uG (P:=P) (w:=w) (g:=Builtin.min2) (λp q z pv qv hp hq hz=>by
       cases p<;>simp only[NY]at hz<;>first|(cases hz;done)|skip
       cases q<;>simp only[]at hz<;>first|(cases hz;done)|skip
       split at hz
       ·rename_i hk;subst hk;cases hz;cases hp;cases hq;exact⟨_,rfl,.int _ _⟩
       ·cases hz) (l:=r) (lv:=rest.map a.eval) (by simpa using e1) (λi p q hp hq=>e2 (i+1) p q (by simpa using hp) (by simpa using hq)) (e2 0 y _ rfl rfl) h1
      refine⟨.value v,v,G,w,?_,.inl rfl,f2,hs,.refl _ _ _⟩
      simp[execOp,resolve,invoke,builtin,Builtin.min_,f1]
   ·
     split at h
     case h_2=>cases h
     rename_i y r hy
     obtain⟨h1,rfl⟩:=dF h
     obtain⟨e1,e2⟩:=qs he hy
     obtain⟨ls⟩:=args
     cases ls with
     |nil=>simp at e1
     |cons o1 rest=>
      obtain⟨v,f1,f2⟩:=uG (P:=P) (w:=w) (g:=Builtin.max2) (λp q z pv qv hp hq hz=>by
       cases p<;>simp only[NZ]at hz<;>first|(cases hz;done)|skip
       cases q<;>simp only[]at hz<;>first|(cases hz;done)|skip
       split at hz
       ·rename_i hk;subst hk;cases hz;cases hp;cases hq;exact⟨_,rfl,.int _ _⟩
       ·cases hz) (l:=r) (lv:=rest.map a.eval) (by simpa using e1) (λi p q hp hq=>e2 (i+1) p q (by simpa using hp) (by simpa using hq)) (e2 0 y _ rfl rfl) h1
      refine⟨.value v,v,G,w,?_,.inl rfl,f2,hs,.refl _ _ _⟩
      simp[execOp,resolve,invoke,builtin,Builtin.max_,f1]
   · cases h
 · cases h
end
end Go.Am
end
