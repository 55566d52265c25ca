/- The logic AM, B: soundness of the other operations. -/
import Derived.Test.YtpbahncblggodaaGreatAmA
import Derived.Laws.AppendOwn
import Derived.Laws.StructEq
set_option linter.all false
section
namespace Go.Am
open Go.RowKit
section
variable {P:Program} {G:cg} {s s':St} {w:World} {bI:Env} {a:Act}
def Src(P:Program)(w:World)(u e:TypeId)(xv:Value)(size n:Nat)(news:Array Value):Prop:=
 ((∃d,P.underlying u=some (.slice d))/\(∀w',(Builtin.lenOf xv).run P w'=.ok n w')/\ ∀w',(∀a,w'.cell? a=w.cell? a)->(Builtin.firstCells size n xv).run P w'=.ok news w')\/
 (∃k k' m,P.underlying u=some (.int k)/\xv=.int k' m/\0<=m/\m<=(bJ:Int)/\n=m.toNat/\ ∃z,(∀w',(zeroValue e).run P w'=.ok z w')/\news=if n*size=0 then #[]else Builtin.zeroCells z.cells n)
theorem oQ{m:Int}(h0:0<=m)(h1:m<=(bJ:Int)):IntKind.i64.wrap m=m:=by
 unfold bJ at h1
 simp only[IntKind.wrap,IntKind.bits,IntKind.signed]
 have:m%(2^64:Int)=m:=Int.emod_eq_of_lt h0 (by omega)
 simp only[this,Uh,xL]
 rw[dM (by omega)]
theorem sv{t u e size FW n:Nat}{xv:Value}{news:Array Value}(ht:P.underlying t=some (.slice e))(eC:dr P e=some size)(Ld:oK P e=some FW)(hb:FW<=4096)
  (qg:Src P w u e xv size n news) {ad:Addr} {sLen sCap ty:Nat} (pL:sLen+n<=sCap) {w':World} (iz:(storeCells (ad.add (sLen*size)) news.toList).run P w=.ok () w'):
  (Builtin.append_ #[t,u] ty #[.slice (some ad) sLen sCap,xv]).run P w=.ok (.slice (some ad) (sLen+n) sCap) w':=by
 obtain⟨i,hi,rfl⟩:=mF eC
 obtain⟨i',AP,rfl⟩:=qd Ld
 rw[hi]at AP;cases AP
 rcases qg with⟨⟨d,hu⟩,h1,h2⟩|⟨k,k',m,hu,rfl,h0,h1,rfl,z,hz,rfl⟩
 ·simp[Builtin.append_,run_underlying ht,run_underlying hu,sizeOf,ib hi,h1,pL,h2 w (λ_=>rfl),iz]
 ·have h2: ¬(m<0):=by omega
  have h3: ¬(281474976710656<m*(i.bytes:Int)):=by
   have h6:m*(i.bytes:Int)<=m*4096:=Int.mul_le_mul_of_nonneg_left (by omega) h0
   unfold bJ at h1
   omega
  by_cases hn:m.toNat*i.size=0
  ·rw[dD hn]at iz
   simp[Builtin.append_,run_underlying ht,run_underlying hu,sizeOf,ib hi,asInt,asIntOf,oQ h0 h1,h2,h3,pL,iz]
   exactλh=>absurd hn h
  ·rw[dM hn]at iz
   simp[Builtin.append_,run_underlying ht,run_underlying hu,sizeOf,ib hi,asInt,asIntOf,oQ h0 h1,h2,h3,pL,hz,iz]
   exactλh=>absurd h hn
theorem xW{t u e size FW n:Nat}{xv:Value}{news Ai:Array Value}(ht:P.underlying t=some (.slice e))(eC:dr P e=some size)(Ld:oK P e=some FW)(hb:FW<=4096)
  (qg:Src P w u e xv size n news) {bR:Option Addr} {sLen sCap ty:Nat} (pL:sCap<sLen+n) (wP:sLen+n<=bJ) {z:Value} (hz: ∀w',(zeroValue e).run P w'=.ok z w')
  (hold: ∀w',(∀a,w'.cell? a=w.cell? a)->(Builtin.firstCells size sLen (.slice bR sLen sCap)).run P w'=.ok Ai w'):
  (Builtin.append_ #[t,u] ty #[.slice bR sLen sCap,xv]).run P w=
   .ok (.slice (some ⟨w.heap.size,0,none⟩) (sLen+n) (grownCap w (sLen+n) sCap e))
    (w.drew.alloc (.cells (Ai++news++Builtin.zeroCells z.cells (grownCap w (sLen+n) sCap e-(sLen+n))) e)):=by
 obtain⟨i,hi,rfl⟩:=mF eC
 obtain⟨i',AP,rfl⟩:=qd Ld
 rw[hi]at AP;cases AP
 have hn: ¬(sLen+n<=sCap):=by omega
 have Vj:=wP
 unfold bJ at Vj
 have RZ: ¬(9223372036854775807<((sLen:Int)+(n:Int))):=by omega
 have oP:Builtin.nextslicecap (sLen+n) sCap*i.bytes<=281474976710656:=growslice_fits pL (by
  have:(sLen+n)*i.bytes<=(sLen+n)*4096:=YS _ hb
  omega)
 have R0: ¬(281474976710656<Builtin.nextslicecap (sLen+n) sCap*i.bytes):=by omega
 have Le:=hold w.drew (λ_=>rfl)
 rcases qg with⟨⟨d,hu⟩,h1,h2⟩|⟨k,k',m,hu,rfl,B4,h1,rfl,z',Lf,rfl⟩
 ·have h2':=h2 w.drew (λ_=>rfl)
  simp[Builtin.append_,run_underlying ht,run_underlying hu,sizeOf,ib hi,h1,hn,RZ,R0,Question.forced,Le,h2',hz,newRow,grownCap]
 ·have h2: ¬(m<0):=by omega
  have h3: ¬(281474976710656<m*(i.bytes:Int)):=by
   have h6:m*(i.bytes:Int)<=m*4096:=Int.mul_le_mul_of_nonneg_left (by omega) B4
   unfold bJ at h1
   omega
  have hc:((sLen:Int)+(m.toNat:Int))=sLen+m:=by omega
  have Up:z'=z:=by have q:=hz w;rw[Lf w]at q;cases q;rfl
  subst Up
  have Oe:max m 0=m:=by omega
  by_cases hn:m.toNat*i.size=0
  ·have mu:m.toNat=0\/i.size=0:=Xy.1 hn
   have Zo:m<=0\/i.size=0:=by omega
   simp only[hc]at RZ
   simp[Builtin.append_,run_underlying ht,run_underlying hu,sizeOf,ib hi,asInt,asIntOf,oQ B4 h1,h2,h3, *,R0,Question.forced,Le,hz,newRow,grownCap]
  ·have mu: ¬(m.toNat=0\/i.size=0):=λh=>hn (Xy.2 h)
   have Zo: ¬(m<=0\/i.size=0):=by omega
   simp only[hc]at RZ
   simp[Builtin.append_,run_underlying ht,run_underlying hu,sizeOf,ib hi,asInt,asIntOf,oQ B4 h1,h2,h3, *,R0,Question.forced,Le,hz,Lf,newRow,grownCap]
theorem wQ{t u e size FW:Nat}{xv:Value}(ht:P.underlying t=some (.slice e))(eC:dr P e=some size)(Ld:oK P e=some FW)
  (qg:Src P w u e xv size 0 #[]) {ty:Nat}:(Builtin.append_ #[t,u] ty #[.slice none 0 0,xv]).run P w=.ok (.slice none 0 0) w:=by
 obtain⟨i,hi,rfl⟩:=mF eC
 rcases qg with⟨⟨d,hu⟩,h1,h2⟩|⟨k,k',m,hu,rfl,h0,h1,hm,z,hz,DM⟩
 ·simp[Builtin.append_,run_underlying ht,run_underlying hu,sizeOf,ib hi,h1,h2 w (λ_=>rfl)]
 ·have pM:m=0:=by omega
  subst pM
  have Vk:IntKind.i64.wrap 0=0:=oQ (by omega) (by unfold bJ;omega)
  simp[Builtin.append_,run_underlying ht,run_underlying hu,sizeOf,ib hi,asInt,asIntOf,Vk]
theorem F2{e sz:Nat}(h:vc P e sz=true): ∃z,(∀w',(zeroValue e).run P w'=.ok z w')/\z.cells.size=sz:=by
 unfold vc at h
 split at h
 ·rename_i x hx
  simp only[fi,beq_iff_eq]at h
  unfold jB at hx
  cases hi:P.info? e with
  |none=>simp[hi]at hx
  |some i=>
   cases hz:i.zero with
   |none=>simp[hi,hz]at hx
   |some v=>
    simp[hi,hz]at hx
    have hv:V ⟨λ_ _=>none,λ_=>none⟩ x v:=qS hx
    exact⟨v,λw'=>by simp[zeroValue,ib hi,hz],by rw[<-(VL.cells hv (mh h.2)).1,h.1]⟩
 ·cases h
theorem xX(hs:eL G s w){t u ty e:Nat}{x z:AV}{xv yv:Value}(hx:V G x xv){new:List AV}{news:Array Value}(he:eh P t=some e)
  (qg: ∀sz,dr P e=some sz->(∀y∈new,y.cells.length=sz)/\Src P w u e yv sz new.length news) (jz: ∀y∈dn new,y.cX=true) (DM:VL G (dn new) news)
  (h:fW P t x new s=some (z,s')):tu P G s w (Builtin.append_ #[t,u] ty #[xv,yv]) z s':=by
 unfold fW at h
 rw[he]at h
 simp only at h
 split at h
 case h_2=>cases h
 rename_i sz FW eC Ld
 split at h
 case isFalse=>cases h
 rename_i hc
 obtain⟨h0,hb,hz⟩:=hc
 obtain⟨R1,qg⟩:=qg sz eC
 obtain⟨zv,Vl,OV⟩:=F2 hz
 have ht:=fD he
 have KD:news.size=new.length*sz:=by rw[<-DM.1,dF R1]
 have nothing:new=[]-> ∀{bR:Option Addr}{sLen sCap:Nat},xv=.slice bR sLen sCap->sLen<=sCap->(bR=none->sCap=0)->(Builtin.append_ #[t,u] ty #[xv,yv]).run P w=.ok xv w:=by
  intro hn bR sLen sCap Vm eE Lg
  subst hn
  subst Vm
  have eV:news= #[]:=by
   apply RN
   simpa using KD
  subst eV
  cases bR with
  |none=>
   have:=Lg rfl
   subst this
   obtain rfl:sLen=0:=by omega
   exact wQ ht eC Ld qg
  |some ad=>exact sv ht eC Ld hb qg (by simpa using eE) (by simp[storeCells])
 have grow: ∀{bR:Option Addr}{sLen sCap:Nat}{Ai:Array Value}{pI:List AV},sCap<sLen+new.length->sLen+new.length<=bJ->pI.length=sLen->(∀y∈pI,y.cells.length=sz)->(∀y∈dn pI,y.cX=true)->
   VL G (dn pI) Ai->(∀w',(∀a,w'.cell? a=w.cell? a)->(Builtin.firstCells sz sLen (.slice bR sLen sCap)).run P w'=.ok Ai w')->
   ∃v w',(Builtin.append_ #[t,u] ty #[.slice bR sLen sCap,yv]).run P w=.ok v w'/\ ∃G',V G' (.ms s.bT 0 (sLen+new.length)) v/\
    eL G' ⟨(s.bT,.cells sz (pI++new))::s.heap,s.bT+1⟩ w'/\Ext G s w G' ⟨(s.bT,.cells sz (pI++new))::s.heap,s.bT+1⟩ w':=by
  intro bR sLen sCap Ai pI pL wP FD Vn Zp holds fB
  have HF:=xW (w:=w) (ty:=ty) ht eC Ld hb qg pL wP Vl fB
  have QC:=holds.append DM
  have KC:=grownCap_ge w (sLen+new.length) sCap e
  generalize grownCap w (sLen+new.length) sCap e=nc at HF KC
  have tK:(Ai++news++Builtin.zeroCells zv.cells (nc-(sLen+new.length))).size=nc*sz:=by
   have h1:Ai.size=sLen*sz:=by rw[<-holds.1,dF Vn,FD]
   simp only[Array.size_append,size_zeroCells,OV,h1,KD]
   rw[<-uV,<-uV]
   congr 1;omega
  obtain⟨q1,q2⟩:=hs.drew.put (o:=.cells (Ai++news++Builtin.zeroCells zv.cells (nc-(sLen+new.length))) e) (blk:=.cells sz (pI++new)) (r:=⟨w.heap.size,0,sz,nc*sz⟩) rfl
   (.cells _ _ _ _ tK rfl h0 (λy hy=>by
     rcases lr.1 hy with hy|hy
     · exact Vn y hy
     · exact R1 y hy) (λy hy=>by
     rw[dE]at hy
     rcases lr.1 hy with hy|hy
     · exact Zp y hy
     · exact jz y hy) (by simp only[BU,jW,FD];exact Aa _ KC) λk y hy=>by
     rw[dE]at hy
     obtain⟨v,e1,e2⟩:=QC.get hy
     refine⟨v,?_,e2.mono (.put (hs.ct _ (eF _)))⟩
     have gq:k<(Ai++news).size:=(Qr.1 e1).1
     rw[BU,Xw gq];exact e1)
  refine⟨_,_,HF,_,?_,q1,(Ext.drew G s w).trans hs q2⟩
  exact .ms s.bT 0 _ _ ⟨w.heap.size,0,sz,nc*sz⟩ 0 (by simp[cg.put]) KC (by simp) (λ_=>by simp)
 split at h
 ·rename_i full elems
  obtain⟨bR,cap,rfl,eE,jS,Lg,Up⟩:=V.qf hx
  split at h
  ·rename_i hn
   cases h
   exact dN hs (nothing hn rfl eE Lg) hx
  ·rename_i hn
   split at h
   case isFalse=>cases h
   rename_i hc
   obtain⟨rfl,wP,oP⟩:=hc
   cases h
   have Ah:0<new.length:=RO.2 hn
   obtain⟨f1,f2,f3,f4⟩:=fI (P:=P) (e:=e) hs hx (l:=elems) rfl eC oP
   obtain⟨vs,g1,g2⟩:=f4 elems.length (eF _)
   rw[AL]at g2
   obtain⟨v,w',e1,G',e2,e3,e4⟩:=grow (sCap:=cap) (by rw[jS rfl];omega) wP rfl f1 f2 g2 g1
   exact⟨v,G',w',e1,e2,e3,e4⟩
 ·rename_i id bL len
  have OW:=hx
  cases hx with
  |gC _ _ cap bR hc=>
   subst hc
   split at h
   ·rename_i hn
    cases h
    exact dN hs (nothing hn rfl (eF _) (λ_=>rfl)) (.gC _ _ _ _ rfl)
   ·rename_i hn
    split at h
    case h_2=>cases h
    rename_i cB elems hg
    split at h
    case isFalse=>cases h
    rename_i hc
    obtain⟨rfl,dA,wP⟩:=hc
    cases h
    have Ah:0<new.length:=RO.2 hn
    have Lh:fO (.ms id bL 0) s=some ((elems.drop bL).take 0):=by simp[fO,hg];simpa using dA
    obtain⟨f1,f2,f3,f4⟩:=fI (P:=P) (e:=e) hs OW Lh eC (by simp[kT,hg,eC])
    obtain⟨vs,g1,g2⟩:=f4 0 (by omega)
    rw[sG (by simp)]at g2
    obtain⟨v,w',e1,G',Uo,e3,e4⟩:=grow (bR:=bR) (sCap:=0) (by omega) wP (by simp) f1 f2 g2 g1
    have oR: ∀i b,bH ((s.bT,gD.cells cB ((elems.drop bL).take 0++new))::eB s.heap id) i=some b->bH ((s.bT,gD.cells cB ((elems.drop bL).take 0++new))::s.heap) i=some b:=λi b hi=>by
     simp only[cV,cM]at hi |-
     split at hi
     · rename_i hq;rw[dD hq];exact hi
     · rename_i hq
       rw[dM hq]
       rw[fH]at hi
       split at hi
       ·cases hi
       ·exact hi
    refine⟨v,G',w',e1,Uo,e3.drop oR (eF _),e4.trans hs (Ext.drop oR (eF _) λi hi=>?_)⟩
    simp only[cV,cM]at hi |-
    split at hi
    ·cases hi
    ·rename_i hq
     rw[dM hq,fH,dM (λe=>by subst e;rw[hg]at hi;cases hi)]
     exact hi
  |ms _ _ _ cap r addr ho eE eZ gA=>
   split at h
   ·rename_i hn
    cases h
    exact dN hs (nothing hn rfl eE (λe=>by cases e)) (.ms _ _ _ cap r addr ho eE eZ gA)
   ·rename_i hn
    split at h
    case h_2=>cases h
    rename_i cB elems hg
    split at h
    case isFalse=>cases h
    rename_i hc
    obtain⟨rfl,dA,wP⟩:=hc
    cases h
    have Ah:0<new.length:=RO.2 hn
    obtain⟨o,e2,e3⟩:=hs.at hg ho
    cases e3 with
    |cells _ _ cs te tK ee h0' iM OX DK hV=>
     subst ee
     have Lh:fO (.ms id bL len) s=some ((elems.drop bL).take len):=by simp[fO,hg,dA]
     obtain⟨f1,f2,f3,f4⟩:=fI (P:=P) (e:=e) hs OW Lh eC (by simp[kT,hg,eC])
     have FD:((elems.drop bL).take len).length=len:=by simp;omega
     by_cases pL:len+new.length<=cap
     ·
       have Vo:=gA (by omega)
       subst Vo
       have Zq:bL*r.cB+len*r.cB+new.length*r.cB<=(bL+cap)*r.cB:=by
        rw[<-uV,<-uV];exact Aa _ (by omega)
       have oP:r.bR+bL*r.cB+len*r.cB+news.toList.length<=cs.size:=by
        simp only[FR];rw[KD,tK];omega
       have fB:=run_storeCells_at P r.block (r.bR+bL*r.cB+len*r.cB) te news.toList 0 cs w e2 (by simpa using oP) (DM.tI jz)
       simp only[Dl]at fB
       have hA:=sv (w:=w) (ty:=ty) (ad:=⟨r.block,r.bR+bL*r.cB,none⟩) (sLen:=len) (sCap:=cap) ht eC Ld hb qg pL (by rw[nu];exact fB)
       have pZ:(dn ((elems.drop bL).take len)).length=len*r.cB:=by rw[dF f1,FD]
       obtain⟨q1,q2⟩:=eL.move (w':=w.setRow r.block (cs.toList.take (r.bR+bL*r.cB+len*r.cB)++news.toList++cs.toList.drop (r.bR+bL*r.cB+len*r.cB+news.toList.length)).toArray)
        (sH:=.cells r.cB ((elems.drop bL).take len++new)) (r':=⟨r.block,r.bR+bL*r.cB,r.cB,r.size⟩) hs hg ho rfl (by simp[World.setRow]) rfl rfl rfl
        (λb hb=>setRow_other w _ _ _ hb) (setRow_heap w _ cs _ te _ e2)
        (.cells _ _ _ _ (by simp only[U0,jW,DB,Ug,FR]at oP |-;omega) rfl h0 (λy hy=>by
          rcases lr.1 hy with hy|hy
          ·exact f1 y hy
          ·exact R1 y hy) (λy hy=>by
          rw[dE]at hy
          rcases lr.1 hy with hy|hy
          ·exact f2 y hy
          ·exact jz y hy) (by rw[jW,FD,uV];show r.bR+bL*r.cB+_<=r.size;omega) λk y hy=>by
          have Vp:sr G (G.put s.bT ⟨r.block,r.bR+bL*r.cB,r.cB,r.size⟩):=.put (hs.ct _ (eF _))
          show∃v,_[r.bR+bL*r.cB+k]? =some v/\_
          rw[dE]at hy
          rw[lu _ _ _ _ oP]
          by_cases hk:k<len*r.cB
          ·rw[dD (by omega)]
           rw[np (by omega)]at hy
           have On:(dn (((elems.take (bL+len))).drop bL))[k]? =some y:=by
            rw[show(elems.take (bL+len)).drop bL=(elems.drop bL).take len from by rw[List.drop_take];congr 1;omega]
            exact hy
           have lx:=gX (n:=bL+len) iM h0 On
           obtain⟨v,q1,q2⟩:=hV _ y lx
           exact⟨v,by rw[Dk];exact q1,q2.mono Vp⟩
          ·rw[dM (by omega)]
           rw[pG (by omega),pZ]at hy
           obtain⟨v,q1,q2⟩:=DM.get hy
           have gq:k-len*r.cB<news.size:=(Qr.1 q1).1
           rw[dD (by simp only[FR];omega)]
           refine⟨v,?_,q2.mono Vp⟩
           rw[show r.bR+bL*r.cB+k-(r.bR+bL*r.cB+len*r.cB)=k-len*r.cB from by omega]
           simpa using q1) (by simp)
       refine⟨_,_,_,hA,?_,q1,q2⟩
       exact .ms s.bT 0 _ cap ⟨r.block,r.bR+bL*r.cB,r.cB,r.size⟩ _ (by simp[cg.put]) pL
        (by show r.bR+bL*r.cB+(0+cap)*r.cB<=r.size;rw[BU,Dk,<-uV];exact eZ) (λ_=>by simp)
     ·
       obtain⟨vs,g1,g2⟩:=f4 len (by omega)
       rw[sG (by omega)]at g2
       obtain⟨v,w',e1,G',Uo,e3,e4⟩:=grow (bR:=some ⟨r.block,addr,none⟩) (sCap:=cap) (by omega) wP FD f1 f2 g2 g1
       have oR: ∀i b,bH ((s.bT,gD.cells r.cB ((elems.drop bL).take len++new))::eB s.heap id) i=some b->bH ((s.bT,gD.cells r.cB ((elems.drop bL).take len++new))::s.heap) i=some b:=λi b hi=>by
        simp only[cV,cM]at hi |-
        split at hi
        ·rename_i hq;rw[dD hq];exact hi
        ·rename_i hq
         rw[dM hq]
         rw[fH]at hi
         split at hi
         ·cases hi
         ·exact hi
       refine⟨v,G',w',e1,Uo,e3.drop oR (eF _),e4.trans hs (Ext.drop oR (eF _) λi hi=>?_)⟩
       simp only[cV,cM]at hi |-
       split at hi
       ·cases hi
       ·rename_i hq
        rw[dM hq,fH,dM (λe=>by subst e;rw[hg]at hi;cases hi)]
        exact hi
 ·rename_i id bL len cap
  split at h
  case h_2=>cases h
  rename_i cB elems hg
  split at h
  case isFalse=>cases h
  rename_i hc
  obtain⟨hn,rfl,dA,pL,wP⟩:=hc
  cases h
  have Lh:fO (.ms id bL len) s=some ((elems.drop bL).take len):=by simp[fO,hg,dA]
  have FD:((elems.drop bL).take len).length=len:=by simp;omega
  have fin: ∀{bR:Option Addr},V G (.ms id bL len) (.slice bR len cap)->xv=.slice bR len cap->tu P G s w (Builtin.append_ #[t,u] ty #[xv,yv]) (.ms s.bT 0 (len+new.length)) ⟨(s.bT,.cells cB ((elems.drop bL).take len++new))::s.heap,s.bT+1⟩:=by
   intro bR OW Vm
   subst Vm
   obtain⟨f1,f2,f3,f4⟩:=fI (P:=P) (e:=e) hs OW Lh eC (by simp[kT,hg,eC])
   obtain⟨vs,g1,g2⟩:=f4 len (by omega)
   rw[sG (by omega)]at g2
   obtain⟨v,w',e1,G',Uo,e3,e4⟩:=grow (bR:=bR) (sCap:=cap) pL wP FD f1 f2 g2 g1
   exact⟨v,G',w',e1,Uo,e3,e4⟩
  cases hx with
  |mZ _ _ bR=>exact fin (.gC _ _ _ _ rfl) rfl
  |mc _ _ _ _ r addr ho eE eZ gA=>exact fin (.ms _ _ _ _ r addr ho eE eZ gA) rfl
 ·cases h
end
end Go.Am
end
section
namespace Go.Am
open Go.RowKit
section
variable {P:Program} {G:cg} {s s':St} {w:World} {bI:Env} {a:Act}
theorem AQ(hs:eL G s w){t u ty e:Nat}{yv:Value}{y:AV}(hy:V G y yv){new:List AV}(he:eh P t=some e)(iM:fO y s=some new)(hf:kT P e y s)
  {id bL len cap cB addr:Nat} {elems:List AV} {r:uW} (hg:bH s.heap id=some (.cells cB elems)) (eC:dr P e=some cB) (Li:bL<=elems.length)
  (ho:G.own id=some r) (eE:len<=cap) (eZ:r.bR+(bL+cap)*r.cB<=r.size) (gA:0<cap->addr=r.bR+bL*r.cB):
  tu P G s w (Builtin.copy_ #[t,u] ty #[.slice (some ⟨r.block,addr,none⟩) len cap,yv]) (.int .i64 (min new.length len:Nat)) ⟨eg s.heap id (.cells cB (elems.take bL++(new.take (min new.length len)++elems.drop (bL+min new.length len)))),s.bT⟩:=by
 have ht:=fD he
 obtain⟨o,e2,e3⟩:=hs.at hg ho
 cases e3 with
 |cells _ _ cs te tK ee h0 xY OX DK hV=>
  subst ee
  obtain⟨f1,f2,f3,f4⟩:=fI (P:=P) hs hy iM eC hf
  have Vq:Nat.min new.length len<=new.length:=Nat.min_le_left _ _
  obtain⟨vs,g1,g2⟩:=f4 (Nat.min new.length len) Vq
  have R2:Nat.min new.length len<=len:=Nat.min_le_right _ _
  have Zr:min new.length len=Nat.min new.length len:=rfl
  have Oo:(new.take (Nat.min new.length len)).length=Nat.min new.length len:=by rw[DB];exact Oh Vq
  have pZ: ∀y∈new.take (Nat.min new.length len),y.cells.length=r.cB:=λy hy=>f1 y (xK hy)
  have Ds:vs.size=Nat.min new.length len*r.cB:=by rw[<-g2.1,dF pZ,Oo]
  have Lj: ∀y∈dn (new.take (Nat.min new.length len)),y.cX=true:=λy hy=>f2 y (by
   rw[dn,sF]at hy |-
   obtain⟨q,hq,hy⟩:=hy
   exact⟨q,xK hq,hy⟩)
  rw[Zr]
  generalize hn:Nat.min new.length len=n at *
  by_cases RX:n=0
  ·subst RX
   have:vs= #[]:=RN (by simpa using Ds)
   subst this
   have jT:elems.take bL++(new.take 0++elems.drop (bL+0))=elems:=by simp
   rw[jT]
   have eN: ∀i b,bH (eg s.heap id (.cells r.cB elems)) i=some b->bH s.heap i=some b:=λi b hi=>by
    rw[eO]at hi
    split at hi
    ·rename_i hq;subst hq;rw[hg];exact hi
    ·exact hi
   refine⟨_,G,w,?_,V.int .i64 ((0:Nat):Int),hs.drop eN (eF _),Ext.drop eN (eF _) λi hi=>?_⟩
   ·simp[Builtin.copy_,run_underlying ht,f3,eo eC,hn,g1 w (λ_=>rfl),storeCells,goInt]
   ·rw[eO];split
    ·rename_i hq;subst hq;rw[hg]at hi;exact hi
    ·exact hi
  ·have Vo:=gA (by omega)
   subst Vo
   have oP:r.bR+bL*r.cB+vs.toList.length<=cs.size:=by
    simp only[FR]
    rw[Ds,tK,Dk,<-uV]
    exact vU (RK (Aa _ (by omega)) _) eZ
   have fB:=run_storeCells_at P r.block (r.bR+bL*r.cB) te vs.toList 0 cs w e2 (by simpa using oP) (g2.tI Lj)
   simp only[Dl]at fB
   have Jq: ∀y∈elems.take bL++(new.take n++elems.drop (bL+n)),y.cells.length=r.cB:=λy hy=>by
    simp only[lr]at hy
    rcases hy with hy|hy|hy
    ·exact xY y (xK hy)
    ·exact pZ y hy
    ·exact xY y (Hv hy)
   have Zs:(dn (elems.take bL)).length=bL*r.cB:=by
    rw[dF (cB:=r.cB) λy hy=>xY y (xK hy)];congr 1;simp;omega
   have OK:(dn (new.take n)).length=n*r.cB:=by rw[dF pZ,Oo]
   obtain⟨q1,q2⟩:=xV hs hg ho e2 (elems':=elems.take bL++(new.take n++elems.drop (bL+n))) (cs':=(cs.toList.take (r.bR+bL*r.cB)++vs.toList++cs.toList.drop (r.bR+bL*r.cB+vs.toList.length)).toArray)
    (by simp only[U0,jW,DB,Ug,FR]at oP |-;omega) rfl h0 Jq (λy hy=>by
     rw[dE,dE]at hy
     simp only[lr]at hy
     have q: ∀(l:List AV),(∀z∈l,z∈elems)-> ∀y∈dn l,y.cX=true:=λl hl y hy=>OX y (by
      rw[dn,sF]at hy |-
      obtain⟨z,hz,hy⟩:=hy
      exact⟨z,hl z hz,hy⟩)
     rcases hy with hy|hy|hy
     ·exact q _ (λz hz=>xK hz) y hy
     ·exact Lj y hy
     ·exact q _ (λz hz=>Hv hz) y hy)
    (by
     have q:(elems.take bL++(new.take n++elems.drop (bL+n))).length=max elems.length (bL+n):=by simp[Oo];omega
     rw[q]
     rcases Nat.le_total elems.length (bL+n)with c|c
     ·rw[Nat.max_eq_right c];exact vU (RK (Aa _ (by omega)) _) eZ
     ·rw[Nat.max_eq_left c];exact DK) λk y hk=>by
     rw[dE,dE]at hk
     rw[lu _ _ _ _ oP]
     by_cases c1:k<bL*r.cB
     ·rw[dD (by omega)]
      rw[np (by omega)]at hk
      have lx:=gX (n:=bL) (l:=0) xY h0 (k:=k) (x:=y) (by simpa using hk)
      simpa using hV _ y (by simpa using lx)
     ·rw[dM (by omega)]
      rw[pG (by omega),Zs]at hk
      by_cases c2:k<bL*r.cB+n*r.cB
      ·rw[dD (by simp only[FR];omega)]
       rw[np (by omega)]at hk
       obtain⟨v,p1,p2⟩:=g2.get hk
       refine⟨v,?_,p2⟩
       rw[show r.bR+k-(r.bR+bL*r.cB)=k-bL*r.cB from by omega]
       simpa using p1
      ·rw[dM (by simp only[FR];omega)]
       rw[pG (by omega),OK]at hk
       have lx:=gX (n:=elems.length) (l:=bL+n) xY h0 (k:=k-bL*r.cB-n*r.cB) (x:=y) (by rw[AL];exact hk)
       rw[show(bL+n)*r.cB+(k-bL*r.cB-n*r.cB)=k from by rw[uV];omega]at lx
       exact hV k y lx
   refine⟨_,G,_,?_,V.int .i64 (n:Int),q1,q2⟩
   simp[Builtin.copy_,run_underlying ht,f3,eo eC,hn,g1 w (λ_=>rfl),fB,goInt]
theorem DN(hs:eL G s w){t u ty e:Nat}{x z:AV}{xv yv:Value}(hx:V G x xv){y:AV}(hy:V G y yv){new:List AV}(he:eh P t=some e)(iM:fO y s=some new)(hf:kT P e y s)
  (h:xI P t x new s=some (z,s')):tu P G s w (Builtin.copy_ #[t,u] ty #[xv,yv]) z s':=by
 unfold xI at h
 rw[he]at h
 simp only at h
 have ht:=fD he
 split at h
 ·rename_i id bL len
  split at h
  case h_2=>cases h
  rename_i cB elems hg
  split at h
  case isFalse=>cases h
  rename_i hc
  obtain⟨eC,Li⟩:=hc
  cases h
  cases hx with
  |gC _ _ cap bR hc=>
   subst hc
   have jT:elems.take bL++(new.take (min new.length 0)++elems.drop (bL+min new.length 0))=elems:=by simp
   rw[jT]
   have eN: ∀i b,bH (eg s.heap id (.cells cB elems)) i=some b->bH s.heap i=some b:=λi b hi=>by
    rw[eO]at hi
    split at hi
    ·rename_i hq;subst hq;rw[hg];exact hi
    ·exact hi
   obtain⟨f1,f2,f3,f4⟩:=fI (P:=P) hs hy iM eC hf
   obtain⟨vs,g1,g2⟩:=f4 0 (AK _)
   have Ds:vs= #[]:=RN (by rw[<-g2.1];simp[dn])
   subst Ds
   refine⟨_,G,w,?_,by simpa using V.int .i64 ((0:Nat):Int),hs.drop eN (eF _),Ext.drop eN (eF _) λi hi=>?_⟩
   ·cases bR<;>simp[Builtin.copy_,run_underlying ht,f3,eo eC,g1 w (λ_=>rfl),storeCells,goInt]
   ·rw[eO];split
    ·rename_i hq;subst hq;rw[hg]at hi;exact hi
    ·exact hi
  |ms _ _ _ cap r addr ho eE eZ gA=>exact AQ hs hy he iM hf hg eC (by omega) ho eE eZ gA
 ·rename_i id bL len cap
  split at h
  case h_2=>cases h
  rename_i cB elems hg
  split at h
  case isFalse=>cases h
  rename_i hc
  obtain⟨eC,Li⟩:=hc
  cases h
  cases hx with
  |mZ _ _ bR=>
   have jT:elems.take bL++(new.take (min new.length 0)++elems.drop (bL+min new.length 0))=elems:=by simp
   rw[jT]
   have eN: ∀i b,bH (eg s.heap id (.cells cB elems)) i=some b->bH s.heap i=some b:=λi b hi=>by
    rw[eO]at hi
    split at hi
    ·rename_i hq;subst hq;rw[hg];exact hi
    ·exact hi
   obtain⟨f1,f2,f3,f4⟩:=fI (P:=P) hs hy iM eC hf
   obtain⟨vs,g1,g2⟩:=f4 0 (AK _)
   have Ds:vs= #[]:=RN (by rw[<-g2.1];simp[dn])
   subst Ds
   refine⟨_,G,w,?_,by simpa using V.int .i64 ((0:Nat):Int),hs.drop eN (eF _),Ext.drop eN (eF _) λi hi=>?_⟩
   ·cases bR<;>simp[Builtin.copy_,run_underlying ht,f3,eo eC,g1 w (λ_=>rfl),storeCells,goInt]
   ·rw[eO];split
    ·rename_i hq;subst hq;rw[hg]at hi;exact hi
    ·exact hi
  |mc _ _ _ _ r addr ho eE eZ gA=>exact AQ hs hy he iM hf hg eC Li ho eE eZ gA
 ·rename_i full elems
  split at h
  case isFalse=>cases h
  rename_i hc
  cases h
  obtain⟨bR,cap,rfl,eE,_,_,_⟩:=V.qf hx
  cases hq:dr P e with
  |none=>rw[hq]at hc;cases hc.2
  |some sz=>
   obtain⟨f1,f2,f3,f4⟩:=fI (P:=P) hs hy iM hq hf
   obtain⟨vs,g1,g2⟩:=f4 0 (AK _)
   have Ds:vs= #[]:=RN (by rw[<-g2.1];simp[dn])
   subst Ds
   have hn:Nat.min new.length elems.length=0:=hc.1
   refine dN hs (v:=goInt 0) ?_ (.int _ _)
   cases bR<;>simp[Builtin.copy_,run_underlying ht,f3,eo hq,hn,g1 w (λ_=>rfl),storeCells,goInt]
 ·cases h
theorem Lk{x:AV}{v:Value}{n:Nat}(hx:V G x v)(h:Vc x=some n): ∃bR cap,v=.slice bR n cap:=by
 cases hx<;>cases h<;>exact⟨_,_,rfl⟩
theorem Jv(hs:eL G s w){t u ty:Nat}{x z:AV}{xv yv:Value}(hx:V G x xv){id bL len cap:Nat}(hy:V G (.mc id bL len cap) yv)
  (h:BT P t x id bL len s=some (z,s')):tu P G s w (Builtin.copy_ #[t,u] ty #[xv,yv]) z s':=by
 unfold BT at h
 split at h
 case h_2=>cases h
 rename_i e cB elems n he hg hn
 split at h
 case isFalse=>cases h
 rename_i hc
 obtain⟨eC,eZ⟩:=hc
 obtain⟨bR,c,rfl⟩:=Lk hx hn
 have trim: ∀b m,yv=.slice b len m->V G (.ms id bL (min len n)) (.slice b (min len n) m)->tu P G s w (Builtin.copy_ #[t,u] ty #[.slice bR n c,yv]) z s':=λb m hb hv=>by
  have hd:=DN (u:=u) (ty:=ty) hs hx hv he (new:=(elems.drop bL).take (min len n)) (by simp[fO,hg,eZ]) (by simp[kT,hg,eC]) h
  have e1:Nat.min (min len n) n=Nat.min len n:=by show min (min len n) n=min len n;omega
  obtain⟨v,G',w',h1,h2⟩:=hd
  refine⟨v,G',w',?_,h2⟩
  subst hb
  rw[<-h1]
  simp only[Builtin.copy_,Builtin.lenOf]
  simp[run_underlying (fD he),eo eC,e1]
  cases b<;>simp[Builtin.firstCells]
 cases hy with
 |mZ _ _ b=>
  refine trim b 0 rfl ?_
  rw[Nat.zero_min]
  exact .gC _ _ _ _ rfl
 |mc _ _ _ _ r addr ho eE OU gA=>exact trim _ _ rfl (.ms _ _ _ _ r addr ho (by omega) OU gA)
theorem mH(n:Nat)(z:AV){k:Nat}{x:AV}(h0:0<z.cells.length)(h:(dn (List.replicate n z))[k]? =some x):k<n*z.cells.length/\z.cells[k%z.cells.length]? =some x:=by
 have iP: ∀y∈List.replicate n z,y.cells.length=z.cells.length:=λy hy=>by rw[Oi hy]
 have hk:k<n*z.cells.length:=by
  have:=(fP.1 h).1
  rwa[dF iP,U1]at this
 obtain⟨e,he,hx⟩:=xN iP h0 h
 rw[Xz]at he
 split at he
 ·cases he;exact⟨hk,hx⟩
 ·cases he
theorem Ll(hs:eL G s w){t:Nat}{l c z:AV}{lv cv:Value}(hl:V G l lv)(Zt:V G c cv)(h:DG P t l c s=some (z,s')):tu P G s w (Instr.makeSlice t lv cv) z s':=by
 unfold DG at h
 split at h
 case h_2=>cases h
 rename_i k1 n k2 m e he
 cases hl;cases Zt
 split at h
 case h_2=>cases h
 rename_i sz FW zz eC Ld hz
 split at h
 case isFalse=>cases h
 rename_i hc
 obtain⟨h1,h2,h3,h4,h5,h6,h7⟩:=hc
 cases h
 have ht:=fD he
 obtain⟨i,hi,rfl⟩:=mF eC
 obtain⟨i',AP,rfl⟩:=qd Ld
 rw[hi]at AP;cases AP
 obtain⟨zv,Vl,Lm⟩:=ke hz w G
 have AR:=VL.cells Lm (mh h6)
 have h3':=h3
 unfold bJ at h3'
 have w1:IntKind.i64.wrap n=n:=oQ h1 (by omega)
 have w2:IntKind.i64.wrap m=m:=oQ (by omega) h3
 have hb: ¬(281474976710656<(i.bytes:Int)*m):=by
  have h6:(i.bytes:Int)*m<=4096*m:=Int.mul_le_mul_of_nonneg_right (by omega) (by omega)
  omega
 have n1: ¬(m<0):=by omega
 have n2: ¬(n<0):=by omega
 have n3: ¬(m<n):=by omega
 have Uq:zv.cells.size=i.size:=by rw[<-AR.1,h5]
 obtain⟨q1,q2⟩:=hs.put (o:=.cells ((Array.range (m.toNat*i.size)).map (λj=>(if m.toNat*i.size=0 then #[]else zv.cells)[j%(if m.toNat*i.size=0 then #[]else zv.cells).size]!)) e)
  (blk:=.cells i.size (List.replicate n.toNat zz)) (r:=⟨w.heap.size,0,i.size,m.toNat*i.size⟩) rfl
  (.cells _ _ _ _ (by simp) rfl h4 (λy hy=>by rw[Oi hy];exact h5) (λy hy=>by
    rw[dn,sF]at hy
    obtain⟨q,hq,hy⟩:=hy
    rw[Oi hq]at hy
    exact kf h6 y hy) (by simp only[BU,U1];exact Aa _ (by omega)) λk y hk=>by
    obtain⟨p1,p2⟩:=mH _ _ (by omega) hk
    have gq:k<m.toNat*i.size:=by
     rw[h5]at p1
     exact RH p1 (Aa _ (by omega))
    obtain⟨v,r1,r2⟩:=AR.get p2
    refine⟨v,?_,r2.mono (.put (hs.ct _ (eF _)))⟩
    rw[dM (by omega)]
    rw[h5]at r1
    have xf:zv.cells[k%i.size]! =v:=by rw[YT,xc,r1];rfl
    simp[gq,Uq,xf])
 refine⟨.slice (some ⟨w.heap.size,0,none⟩) n.toNat m.toNat,_,_,?_,?_,q1,q2⟩
 ·by_cases hN:m.toNat*i.size=0
  ·have hN':m.toNat=0\/i.size=0:=Xy.1 hN
   have B4:m=0:=by omega
   have RX:n=0:=by omega
   subst B4;subst RX
   simp[Instr.makeSlice,run_underlying ht,asInt,asIntOf,ib hi,w1,sizeOf,newRow]
  ·simp only[dM hN]
   have hN': ¬(m.toNat=0\/i.size=0):=λh=>hN (Xy.2 h)
   have B4: ¬(m<=0\/i.size=0):=by omega
   have nq: ¬(281474976710656<(i.bytes:Int)*m):=hb
   simp[Instr.makeSlice,run_underlying ht,asInt,asIntOf,ib hi,w1,w2,n1,n2,n3,nq,sizeOf,newRow,hN,Vl]
 ·exact .ms s.bT 0 _ _ ⟨w.heap.size,0,i.size,m.toNat*i.size⟩ 0 (by simp[cg.put]) (by omega) (by simp) (λ_=>by simp)
theorem F3(hs:eL G s w){id bL len cap cB:Nat}{elems new:List AV}{r:uW}{vs:Array Value}(hg:bH s.heap id=some (.cells cB elems))(ho:G.own id=some r)(eE:len<=cap)
  (eZ:r.bR+(bL+cap)*r.cB<=r.size) (Li:bL<=elems.length) (KD:new.length=len) (pZ: ∀y∈new,y.cells.length=cB) (Lj: ∀y∈dn new,y.cX=true) (g2:VL G (dn new) vs):
  ∃w',(storeCells ⟨r.block,r.bR+bL*r.cB,none⟩ vs.toList 0).run P w=.ok () w'/\eL G ⟨eg s.heap id (.cells cB (elems.take bL++(new++elems.drop (bL+len)))),s.bT⟩ w'/\
   Ext G s w G ⟨eg s.heap id (.cells cB (elems.take bL++(new++elems.drop (bL+len)))),s.bT⟩ w':=by
 obtain⟨o,e2,e3⟩:=hs.at hg ho
 cases e3 with
 |cells _ _ cs te tK ee h0 xY OX DK hV=>
  subst ee
  have Ds:vs.size=len*r.cB:=by rw[<-g2.1,dF pZ,KD]
  have oP:r.bR+bL*r.cB+vs.toList.length<=cs.size:=by
   simp only[FR]
   rw[Ds,tK,Dk,<-uV]
   exact vU (RK (Aa _ (by omega)) _) eZ
  have fB:=run_storeCells_at P r.block (r.bR+bL*r.cB) te vs.toList 0 cs w e2 (by simpa using oP) (g2.tI Lj)
  simp only[Dl]at fB
  have Jq: ∀y∈elems.take bL++(new++elems.drop (bL+len)),y.cells.length=r.cB:=λy hy=>by
   simp only[lr]at hy
   rcases hy with hy|hy|hy
   ·exact xY y (xK hy)
   ·exact pZ y hy
   ·exact xY y (Hv hy)
  have Zs:(dn (elems.take bL)).length=bL*r.cB:=by
   rw[dF (cB:=r.cB) λy hy=>xY y (xK hy)];congr 1;simp;omega
  have OK:(dn new).length=len*r.cB:=by rw[dF pZ,KD]
  obtain⟨q1,q2⟩:=xV hs hg ho e2 (elems':=elems.take bL++(new++elems.drop (bL+len))) (cs':=(cs.toList.take (r.bR+bL*r.cB)++vs.toList++cs.toList.drop (r.bR+bL*r.cB+vs.toList.length)).toArray)
   (by simp only[U0,jW,DB,Ug,FR]at oP |-;omega) rfl h0 Jq (λy hy=>by
    rw[dE,dE]at hy
    simp only[lr]at hy
    have q: ∀(l:List AV),(∀z∈l,z∈elems)-> ∀y∈dn l,y.cX=true:=λl hl y hy=>OX y (by
     rw[dn,sF]at hy |-
     obtain⟨z,hz,hy⟩:=hy
     exact⟨z,hl z hz,hy⟩)
    rcases hy with hy|hy|hy
    ·exact q _ (λz hz=>xK hz) y hy
    ·exact Lj y hy
    ·exact q _ (λz hz=>Hv hz) y hy)
   (by
    have q:(elems.take bL++(new++elems.drop (bL+len))).length=max elems.length (bL+len):=by simp[KD];omega
    rw[q]
    rcases Nat.le_total elems.length (bL+len)with c|c
    ·rw[Nat.max_eq_right c];exact vU (RK (Aa _ (by omega)) _) eZ
    ·rw[Nat.max_eq_left c];exact DK) λk y hk=>by
    rw[dE,dE]at hk
    rw[lu _ _ _ _ oP]
    by_cases c1:k<bL*r.cB
    ·rw[dD (by omega)]
     rw[np (by omega)]at hk
     have lx:=gX (n:=bL) (l:=0) xY h0 (k:=k) (x:=y) (by simpa using hk)
     simpa using hV _ y (by simpa using lx)
    ·rw[dM (by omega)]
     rw[pG (by omega),Zs]at hk
     by_cases c2:k<bL*r.cB+len*r.cB
     ·rw[dD (by simp only[FR];omega)]
      rw[np (by omega)]at hk
      obtain⟨v,p1,p2⟩:=g2.get hk
      refine⟨v,?_,p2⟩
      rw[show r.bR+k-(r.bR+bL*r.cB)=k-bL*r.cB from by omega]
      simpa using p1
     ·rw[dM (by simp only[FR];omega)]
      rw[pG (by omega),OK]at hk
      have lx:=gX (n:=elems.length) (l:=bL+len) xY h0 (k:=k-bL*r.cB-len*r.cB) (x:=y) (by rw[AL];exact hk)
      rw[show(bL+len)*r.cB+(k-bL*r.cB-len*r.cB)=k from by rw[uV];omega]at lx
      exact hV k y lx
  exact⟨_,fB,q1,q2⟩
theorem Jw(hs:eL G s w){t ty:Nat}{x z:AV}{xv:Value}{ts:Array TypeId}(Zu:ts[0]? =some t)(hx:V G x xv)(h:FX P t x s=some (z,s')):tu P G s w (Builtin.clear_ ts ty #[xv]) z s':=by
 unfold FX at h
 split at h
 case h_2=>cases h
 rename_i e id bL len he
 have ht:=fD he
 split at h
 case h_2=>cases h
 rename_i cB elems zz hg hz
 split at h
 case isFalse=>cases h
 rename_i hc
 obtain⟨eC,AR,Uq,Li⟩:=hc
 cases h
 have nothing:len=0->eL G ⟨eg s.heap id (.cells cB (elems.take bL++(List.replicate len zz++elems.drop (bL+len)))),s.bT⟩ w/\Ext G s w G ⟨eg s.heap id (.cells cB (elems.take bL++(List.replicate len zz++elems.drop (bL+len)))),s.bT⟩ w:=λh0=>by
  subst h0
  have jT:elems.take bL++(List.replicate 0 zz++elems.drop (bL+0))=elems:=by simp
  rw[jT]
  have eN: ∀i b,bH (eg s.heap id (.cells cB elems)) i=some b->bH s.heap i=some b:=λi b hi=>by
   rw[eO]at hi
   split at hi
   ·rename_i hq;subst hq;rw[hg];exact hi
   ·exact hi
  refine⟨hs.drop eN (eF _),Ext.drop eN (eF _) λi hi=>?_⟩
  rw[eO];split
  ·rename_i hq;subst hq;rw[hg]at hi;exact hi
  ·exact hi
 have Ln:V G (.ec []) (.tuple #[]):=.ec [] #[] rfl (by simp)
 cases hx with
 |gC _ _ cap bR hc=>
  obtain⟨q1,q2⟩:=nothing rfl
  refine⟨_,G,w,?_,Ln,q1,q2⟩
  cases bR<;>simp[Builtin.clear_,Zu,run_underlying ht]
 |ms _ _ _ cap r addr ho eE eZ gA=>
  by_cases h0:len=0
  ·obtain⟨q1,q2⟩:=nothing h0
   refine⟨_,G,w,?_,Ln,q1,q2⟩
   subst h0
   simp[Builtin.clear_,Zu,run_underlying ht]
  ·have Vo:=gA (by omega)
   subst Vo
   obtain⟨zv,Vl,Lm⟩:=ke hz w G
   have Vr:=VL.cells Lm (mh Uq)
   have OV:zv.cells.size=cB:=by rw[<-Vr.1,AR]
   have Ah:0<cB:=by
    obtain⟨o,_,e3⟩:=hs.at hg ho
    cases e3 with
    |cells _ _ _ _ _ _ h0=>exact h0
   have QC:VL G (dn (List.replicate len zz)) (Builtin.zeroCells zv.cells len):=by
    have iP: ∀y∈List.replicate len zz,y.cells.length=cB:=λy hy=>by rw[Oi hy];exact AR
    refine⟨by rw[dF iP];simp[Builtin.zeroCells,OV],λk x y hk hy=>?_⟩
    obtain⟨p1,p2⟩:=mH len zz (by omega) hk
    obtain⟨v,r1,r2⟩:=Vr.get p2
    have xf:zv.cells[k%cB]! =v:=by rw[YT,xc,<-AR,r1];rfl
    rw[AR]at p1
    simp only[Builtin.zeroCells,Array.getElem?_map,OV]at hy
    rw[Ky (by simpa using p1)]at hy
    simp only[Array.getElem_range,gy,Option.some.injEq]at hy
    rw[<-hy,xf]
    exact r2
   obtain⟨w',q0,q1,q2⟩:=F3 (P:=P) hs hg ho eE eZ (by omega) (U1) (λy hy=>by rw[Oi hy];exact AR) (λy hy=>by
    rw[dn,sF]at hy
    obtain⟨q,hq,hy⟩:=hy
    rw[Oi hq]at hy
    exact kf Uq y hy) QC
   refine⟨_,G,w',?_,Ln,q1,q2⟩
   obtain⟨n,rfl⟩: ∃n,len=n+1:=⟨len-1,by omega⟩
   simp[Builtin.clear_,Zu,run_underlying ht,Vl,q0]
end
end Go.Am
end
section
namespace Go.Am
open Go.RowKit
section
variable {P:Program} {G:cg} {s s':St} {w:World} {bI:Env} {a:Act}
theorem xZ(off:Nat): ∀(vs:List Value)(st:Nat)(cs:Array Value)(i:Nat),off+st+vs.length<=cs.size->
  (((vs.zipIdx st).foldl (λcs(x:Value×Nat)=>cs.setIfInBounds (off+x.2) x.1) cs))[i]? =if i<off+st then cs[i]? else if i<off+st+vs.length then vs[i-(off+st)]? else cs[i]?
 | [],st,cs,i,h=>by
  simp only[List.zipIdx_nil,List.foldl_nil,Kz,Dl]
  split
  ·rfl
  ·rfl
 |v::r,st,cs,i,h=>by
  simp only[List.zipIdx_cons,RP,oG]at h |-
  rw[xZ off r (st+1) _ i (by simp;omega),Array.getElem?_setIfInBounds]
  by_cases h1:i<off+st
  ·simp only[dM (show¬off+st=i from by omega)]
   rw[dD (by omega),dD h1]
  ·by_cases h2:off+st=i
   ·subst h2
    rw[dD (by omega),dD rfl,dD (by omega),dM (by omega),dD (by omega)]
    simp
   ·simp only[dM h2]
    rw[dM (by omega),dM h1]
    by_cases h3:i<off+st+(r.length+1)
    ·rw[dD (by omega),dD h3,show i-(off+st)=(i-(off+(st+1)))+1 from by omega]
     simp
    ·rw[dM (by omega),dM h3]
theorem v7(off:Nat): ∀(vs:List Value)(st:Nat)(cs:Array Value),((vs.zipIdx st).foldl (λcs(x:Value×Nat)=>cs.setIfInBounds (off+x.2) x.1) cs).size=cs.size
 | [],st,cs=>rfl
 |v::r,st,cs=>by simp only[List.zipIdx_cons,RP];rw[v7 off r];simp
theorem tP{bQ place':Nat->Option (Nat×Nat)}(hp: ∀i q,bQ i=some q->place' i=some q): ∀{cA:List (Nat×AV)}{sL:List (Nat×Value)}{cells l:List AV}{cv:Array Value},
  VL G cells cv->(cA.length=sL.length/\ ∀(i:Nat)p q,cA[i]? =some p->sL[i]? =some q->p.1=q.1/\V G p.2 q.2)->ss bQ cells cA=some l->
  ∃out,Instr.fill place' cv sL=some out/\VL G l out
 | [],sL,cells,l,cv,hv,jN,h=>by
  cases sL with
  |nil=>cases h;exact⟨cv,rfl,hv⟩
  |cons _ _=>simp at jN
 |(i,x)::r,sL,cells,l,cv,hv,jN,h=>by
  cases sL with
  |nil=>simp at jN
  |cons q r'=>
   obtain⟨j,v⟩:=q
   obtain⟨dA,jN⟩:=jN
   obtain⟨rfl,Vm⟩:i=j/\V G x v:=jN 0 (i,x) (j,v) rfl rfl
   simp only[ss]at h
   split at h
   case h_2=>cases h
   rename_i off n v8
   split at h
   case isFalse=>cases h
   rename_i hc
   obtain⟨h1,h2,h3⟩:=hc
   have hl:=VL.cells Vm (mh h2)
   have Ds:v.cells.size=n:=by rw[<-hl.1,h1]
   have tK:cv.size=cells.length:=hv.1.symm
   simp only[Instr.fill,hp i _ v8]
   rw[dM (by simp[Ds];omega)]
   refine tP hp ?_ ⟨by simpa using dA,λk p q hk hq=>jN (k+1) p q (by simpa using hk) (by simpa using hq)⟩ h
   have e:(v.cells.zipIdx.foldl (λcs(x:Value×Nat)=>cs.setIfInBounds (off+x.2) x.1) cv)=((v.cells.toList.zipIdx 0).foldl (λcs(x:Value×Nat)=>cs.setIfInBounds (off+x.2) x.1) cv):=by
    rw[<-Array.foldl_toList,Array.toList_zipIdx]
   refine⟨?_,λk y u hk hu=>?_⟩
   ·rw[nv _ _ _ (by omega)]
    show cells.length=(v.cells.zipIdx.foldl (λcs(x:Value×Nat)=>cs.setIfInBounds (off+x.2) x.1) cv).size
    rw[e,v7,tK]
   ·rw[pK _ _ _ _ (by omega)]at hk
    change (v.cells.zipIdx.foldl (λcs(x:Value×Nat)=>cs.setIfInBounds (off+x.2) x.1) cv)[k]? =some u at hu
    rw[e,xZ _ _ _ _ _ (by simp[Ds];omega)]at hu
    simp only[Dl,FR,Ds,h1]at hu hk
    split at hk
    ·rename_i c;rw[dD c]at hu;exact hv.2 k y u hk hu
    ·rename_i c
     rw[dM c]at hu
     split at hk
     ·rename_i c2;rw[dD c2]at hu;exact hl.2 _ y u hk (by simpa using hu)
     ·rename_i c2;rw[dM c2]at hu;exact hv.2 k y u hk hu
theorem tQ(he:jm G bI a.tmps): ∀{l:List (Nat×Operand)}{xs:List (Nat×AV)},lV bI l=some xs->
  xs.length=(l.map λp=>(p.1,a.eval p.2)).length/\ ∀(i:Nat)p q,xs[i]? =some p->(l.map λp=>(p.1,a.eval p.2))[i]? =some q->p.1=q.1/\V G p.2 q.2
 | [],xs,h=>by simp[lV]at h;subst h;simp
 |(j,o)::r,xs,h=>by
  simp only[lV]at h
  split at h
  ·rename_i x l h1 h2
   cases h
   obtain⟨e1,e2⟩:=tQ he h2
   refine⟨by simpa using e1,λi p q hp hq=>?_⟩
   cases i with
   |zero=>simp at hp hq;subst hp;subst hq;exact⟨rfl,eM he h1⟩
   |succ i=>exact e2 i p q (by simpa using hp) (by simpa using hq)
  ·cases h
theorem qh(w:World): ∀(fs:List Field),(fs.all λf=>(dr P f.type).isSome)=true->
  (fs.mapM λf=>Functor.map (Prod.mk f.offset) (sizeOf f.type)).run P w=.ok (fs.map λf=>(f.offset,(dr P f.type).getD 0)) w
 | [],_=>rfl
 |f::r,h=>by
  simp only[Xt,fi]at h
  cases hq:dr P f.type with
  |none=>rw[hq]at h;cases h.1
  |some n=>
   have ih:=qh w r h.2
   simp only[List.mapM_cons,Sem.run_bind,Sem.run_map,eo hq,Result.andThen_ok,ih,Sem.run_pure,xb,hq,Ab]
theorem Jx(hs:eL G s w)(he:jm G bI a.tmps){t:Nat}{cA:Array (Nat×Operand)}{l:List (Nat×AV)}{x:AV}(hl:lV bI cA.toList=some l)(h:xS P t l=some x):
  tu P G s w (Instr.build t (cA.map λ(i,x)=>(i,a.eval x))) x s:=by
 have hp:=tQ he hl
 unfold xS at h
 split at h
 case h_2=>cases h
 rename_i cs hz
 obtain⟨zv,Oq,Lm⟩:=ke hz w G
 have AR:=VL.cells Lm (by simp)
 split at h
 ·rename_i iz
  split at h
  case h_2=>cases h
  rename_i out rP
  cases h
  unfold xd at iz
  split at iz
  case h_2=>cases iz
  rename_i fs hu
  have hm:=qh w fs.toList iz
  obtain⟨ov,f1,f2⟩:=tP (place':=λi=>((fs.toList.map λ(f:Field)=>(f.offset,(dr P f.type).getD 0)).toArray)[i]?) (λi q hq=>by
   obtain⟨off,n⟩:=q
   obtain⟨fs',f,hu',Un,Lc,hn⟩:=xT hq
   rw[hu]at hu';cases hu'
   simp only[List.getElem?_toArray,tx,YU,Un,gy,Lc,hn,Ab]) AR hp rP
  refine dN hs (v:=.agg ov) ?_ (.agg _ _ f2.1 f2.2)
  simp only[Instr.build,Sem.run_bind,Oq,Result.andThen_ok,run_underlying hu,Array.mapM_eq_mapM_toList,Sem.run_map]
  have Oe:(fs.toList.mapM λ(f:Field)=>do pure (f.offset,<-sizeOf f.type)).run P w=.ok (fs.toList.map λ(f:Field)=>(f.offset,(dr P f.type).getD 0)) w:=hm
  simp only[Oe,Result.andThen_ok,XA]
  have Jy:Instr.fill (λi=>((fs.toList.map λ(f:Field)=>(f.offset,(dr P f.type).getD 0)).toArray)[i]?) zv.cells (cA.toList.map λp=>(p.1,a.eval p.2))=some ov:=f1
  simp only[Jy]
  rfl
 ·split at h
  case h_2=>cases h
  rename_i m e hu
  split at h
  case h_2=>cases h
  rename_i sz eC
  split at h
  case h_2=>cases h
  rename_i out rP
  cases h
  obtain⟨ov,f1,f2⟩:=tP (place':=λi=>some (i*sz,sz)) (λi q hq=>hq) AR hp rP
  refine dN hs (v:=.agg ov) ?_ (.agg _ _ f2.1 f2.2)
  simp only[Instr.build,Sem.run_bind,Oq,Result.andThen_ok,run_underlying (B0 hu),eo eC,XA]
  have Jy:Instr.fill (λi=>some (i*sz,sz)) zv.cells (cA.toList.map λp=>(p.1,a.eval p.2))=some ov:=f1
  simp only[Jy]
  rfl
end
end Go.Am
end
section
namespace Go.Am
open Go.RowKit
section
variable {P:Program} {G:cg} {s s':St} {w:World} {bI:Env} {a:Act}
theorem sM{sz:Nat}: ∀{cA:List (Nat×AV)}{st:Nat}{cells:List AV},nQ cA st=true->(∀p∈cA,p.2.cells.length=sz/\p.2.cells.all AV.cX=true)->
  cells.length=(st+cA.length)*sz->ss (λi=>some (i*sz,sz)) cells cA=some (cells.take (st*sz)++dn (cA.map (·.2)))
 | [],st,cells,_,_,hl=>by
  simp only[Kz,Dl]at hl
  simp only[ss,Qu,KY,xa]
  rw[sG (Nat.le_of_eq hl)]
 |(j,x)::r,st,cells,hn,hp,hl=>by
  simp only[nQ,fi,beq_iff_eq]at hn
  obtain⟨rfl,hn⟩:=hn
  obtain⟨h1,h2⟩:=hp (j,x) (by simp)
  simp only[]at h1 h2
  have eE:j*sz+sz<=cells.length:=by
   rw[hl,oG,<-Nat.succ_mul]
   exact Aa _ (by omega)
  simp only[ss,h1,h2,eE,and_self,u0]
  have Jz:(jC cells (j*sz) x.cells).length=cells.length:=nv _ _ _ (by omega)
  rw[sM hn (λp AS=>hp p (by simp[AS])) (by rw[Jz,hl,oG];congr 1;omega)]
  congr 1
  rw[xb,ji,<-DC]
  congr 1
  rw[uV,Nat.one_mul]
  unfold jC
  rw[<-DC,Xx (by simp[h1];omega)]
  rw[sG (by simp[h1];omega)]
theorem ya(hs:eL G s w)(he:jm G bI a.tmps){t len:Nat}{cA:Array (Nat×Operand)}{l:List (Nat×AV)}{x:AV}(hl:lV bI cA.toList=some l)(h:fZ P t len l=some x):
  tu P G s w (Instr.buildSlice t len (cA.map λ(i,x)=>(i,a.eval x))) x s:=by
 have hp:=tQ he hl
 unfold fZ at h
 split at h
 case h_2=>cases h
 rename_i e hu
 split at h
 case h_2=>cases h
 rename_i sz z eC hz
 split at h
 case isFalse=>cases h
 rename_i hc
 obtain⟨rfl,h2,h3,h4,h5,h6⟩:=hc
 cases h
 obtain⟨zv,Oq,Lm⟩:=ke hz w G
 let zc:Array Value:=if l.length*sz=0 then #[]else zv.cells
 let c0:Array Value:=(Array.range (l.length*sz)).map (zc[· %zc.size]!)
 have Vs:VL G (List.replicate (l.length*sz) AV.any) c0:=⟨by simp[c0],λi x y hx _=>by
  rw[Xz]at hx
  split at hx
  ·cases hx;exact .any _
  ·cases hx⟩
 have pZ:=sM (sz:=sz) (st:=0) (cells:=List.replicate (l.length*sz) AV.any) h2 h3 (by simp)
 simp only[UY,RL,rN]at pZ
 obtain⟨ov,f1,f2⟩:=tP (place':=λi=>some (i*sz,sz)) (λi q hq=>hq) Vs hp pZ
 have iP: ∀y∈l.map (·.2),y.cells.length=sz:=λy hy=>by
  obtain⟨p,hp,rfl⟩:=jJ.1 hy
  exact(h3 p hp).1
 have dA:ov.size=l.length*sz:=by rw[<-f2.1,dF iP];simp
 obtain⟨q1,q2⟩:=hs.RR ov e
 have fB:(Instr.buildSlice t l.length (cA.map λ(i,x)=>(i,a.eval x))).run P w=.ok (.slice (some ⟨w.heap.size,0,none⟩) l.length l.length) (w.alloc (.cells ov e)):=by
  have Zv: ¬(2^24<l.length*sz):=by omega
  have Zw: ¬(16777216<l.length*sz):=by omega
  simp only[Instr.buildSlice,Sem.run_bind,run_underlying (fD hu),eo eC,Result.andThen_ok,gt_iff_lt,dM Zv,XA]
  have Jy:Instr.fill (λi=>some (i*sz,sz)) c0 (cA.toList.map λp=>(p.1,a.eval p.2))=some ov:=f1
  by_cases hN:l.length*sz=0
  ·rw[dD hN]
   simp only[c0,zc,dD hN]at Jy
   simp only[pure_bind,Jy]
   simp[newRow]
  ·rw[dM hN]
   simp only[c0,zc,dM hN]at Jy
   simp only[Sem.run_bind,Oq,Result.andThen_ok,Sem.run_pure,Jy]
   simp[newRow]
 refine⟨_,_,_,fB,?_,q1,q2⟩
 have eE:=q2.le
 have ku: ∀k y,(dn (l.map (·.2)))[k]? =some y-> ∃v,ov[k]? =some v/\V G y v:=λk y hk=>f2.get hk
 have key:=V.sl (G:=G.gT w.heap.size ov) true (l.map (·.2)) w.heap.size 0 sz l.length (λk=>ov.getD k undef) (by simp) (by simp) iP
  (λy hy=>by
   rw[dn,sF]at hy
   obtain⟨q,hq,hy⟩:=hy
   obtain⟨p,hp,rfl⟩:=jJ.1 hq
   exact kf (h3 p hp).2 y hy)
  (λk hk=>by
   have lx:k<ov.size:=by rw[dA];simpa using hk
   simp[cg.gT,lx])
  (λk y hk=>by
   obtain⟨v,e1,e2⟩:=ku k y hk
   simp only[xc,e1,Ab]
   exact e2.mono eE)
 simpa using key
theorem Lo{op:BinOp}{k:IntKind}{x y:Int}{z:AV}(yb:op≠ .shl)(Zx:op≠ .shr)(h:xR op k x y=some z)(t:TypeId):
  ∃v,(binOp op t (.int k x) (.int k y)).run P w=.ok v w/\V G z v:=by
 cases op<;>simp only[xR]at h<;>first
  |(cases h;done)
  |(exact absurd rfl yb)
  |(exact absurd rfl Zx)
  |(cases h;exact⟨_,by simp[binOp,Op.intArith],.int _ _⟩)
  |(cases h;exact⟨_,by simp only[binOp,pU,tt,if_false,Op.intCmp,Sem.run_pure];rfl,by
   have: ∀b c:Bool,b=c->V G (.bool b) (.bool c):=λb c e=>by subst e;exact .bool b
   apply this
   first|rfl|(rw[Bool.eq_iff_iff];simp)⟩)
  |(split at h;cases h;rename_i hy;cases h;exact⟨_,by simp[binOp,Op.intDiv,hy],.int _ _⟩)
theorem yc{op:BinOp}{k k':IntKind}{x y:Int}{z:AV}(yb:op=.shl\/op=.shr)(h:xR op k x y=some z)(t:TypeId):
  ∃v,(binOp op t (.int k x) (.int k' y)).run P w=.ok v w/\V G z v:=by
 rcases yb with rfl|rfl<;>simp only[xR]at h<;>(split at h)<;>first
  |(cases h;done)
  |(rename_i hy;cases h;exact⟨_,by simp[binOp,Op.shift,hy],.int _ _⟩)
theorem OY: ∀(d:Nat)(t:TypeId)(x y:AV)(xv yv:Value)(b:Bool)(n:Nat),V G x xv->V G y yv->Om P d t x y=some b->d<=n->(Op.equalIn n t xv yv).run P w=.ok b w:=by
 intro d
 induction d with
 |zero=>intro t x y xv yv b n _ _ h;simp[Om]at h
 |succ d ih=>
  intro t x y xv yv b n hx hy h hn
  obtain⟨n,rfl⟩: ∃m,n=m+1:=⟨n-1,by omega⟩
  simp only[Om]at h
  split at h
  ·rename_i hu;cases h;cases hx;cases hy;simp[Op.equalIn,run_underlying hu]
  ·rename_i hu
   split at h
   ·rename_i hk;subst hk;cases h;cases hx;cases hy
    simp only[Op.equalIn,Sem.run_bind,run_underlying hu,Result.andThen_ok,u0,Sem.run_pure]
    congr 1
   ·cases h
  ·rename_i hu;cases h;cases hx;cases hy
   simp[Op.equalIn,run_underlying hu,beq_toListBytes]
  ·rename_i hu;cases h;cases hx;cases hy;simp[Op.equalIn,run_underlying hu]
  ·rename_i hu;cases h;cases hx;cases hy;simp[Op.equalIn,run_underlying hu]
  ·rename_i hu;cases h;cases hx;cases hy;simp[Op.equalIn,run_underlying hu]
  ·rename_i hu;cases h;cases hx;cases hy;simp[Op.equalIn,run_underlying hu]
  ·rename_i hu;cases h;cases hx;cases hy;simp[Op.equalIn,run_underlying hu]
  ·rename_i hu;cases h;cases hx;cases hy;simp[Op.equalIn,run_underlying hu]
  ·rename_i fs xs0 ys0 hu
   split at h
   ·cases h
   ·rename_i iz
    cases hx with
    |agg xs xvs Zy hxh=>
     cases hy with
     |agg ys yvs hyl hyh=>
      have Zz:P.fieldsOf t=fs:=by simp[Program.fieldsOf,hu]
      rw[run_equalIn_struct w n t xvs yvs (by rw[Zz];exact hu) (by simpa using iz),Zz]
      clear hu Zz
      generalize fs.toList=l at h
      induction l generalizing b with
      |nil=>simp only[qR]at h;cases h;simp[Op.eqFields]
      |cons f r ihl=>
       simp only[qR]at h
       split at h
       ·cases h
       ·rename_i Vt
        split at h
        case h_2=>cases h
        rename_i p q hp hq
        split at h
        case h_2=>cases h
        rename_i b1 b2 vf xf
        cases h
        obtain⟨pv,p1,p2⟩:=oO (P:=P) (w:=w) ⟨Zy,hxh⟩ hp
        obtain⟨qv,q1,q2⟩:=oO (P:=P) (w:=w) ⟨hyl,hyh⟩ hq
        have e1:=ih f.type p q pv qv b1 n p2 q2 vf (by omega)
        have e2:=ihl b2 xf
        simp only[Op.eqFields,pU,Vt,Hw,u0,Sem.run_bind,p1,q1,e1,Result.andThen_ok]
        cases b1
        ·simp
        ·simpa using e2
  ·cases h
theorem qi{op:BinOp}{t:TypeId}{x y:Operand}{xv yv:Value}(h:(∃cs ds,xv=.agg cs/\yv=.agg ds/\P.eqGuardType P.depth t=false)\/(xv≠ .nilIface/\ ∀cs,xv≠ .agg cs)):
  (eqGuard op t x y xv yv).run P w=.ok () w:=by
 rcases h with⟨cs,ds,rfl,rfl,hg⟩|⟨h1,h2⟩
 ·cases op<;>simp[eqGuard,hg]
 ·cases xv<;>first
   |exact absurd rfl h1
   |exact absurd rfl (h2 _)
   |(cases op<;>simp[eqGuard])
theorem Lq{op:BinOp}{t:TypeId}{ox oy:Operand}{x y z:AV}{xv yv:Value}(hx:V G x xv)(hy:V G y yv)(h:FY P op t x y=some z):
  ∃v,(do eqGuard op t ox oy xv yv;binOp op t xv yv:Sem Value).run P w=.ok v w/\V G z v:=by
 have guard: ∀{xv yv:Value},(xv≠ .nilIface/\ ∀cs,xv≠ .agg cs)-> ∀{v:Value},(binOp op t xv yv).run P w=.ok v w->(do eqGuard op t ox oy xv yv;binOp op t xv yv:Sem Value).run P w=.ok v w:=by
  intro xv yv hg v hv
  rw[Sem.run_bind,qi (.inr hg),Result.andThen_ok,hv]
 unfold FY at h
 split at h
 ·cases hx;cases hy
  split at h
  ·obtain⟨v,e1,e2⟩:=yc (P:=P) (G:=G) (w:=w) (.inl rfl) h t
   exact⟨v,guard ⟨by simp,by simp⟩ e1,e2⟩
  ·obtain⟨v,e1,e2⟩:=yc (P:=P) (G:=G) (w:=w) (.inr rfl) h t
   exact⟨v,guard ⟨by simp,by simp⟩ e1,e2⟩
  ·rename_i h1 h2
   split at h
   ·rename_i hk;subst hk
    obtain⟨v,e1,e2⟩:=Lo (P:=P) (G:=G) (w:=w) (λe=>h1 e) (λe=>h2 e) h t
    exact⟨v,guard ⟨by simp,by simp⟩ e1,e2⟩
   ·cases h
 ·cases hx;cases hy
  have hb: ∀{b c:Bool},b=c->V G (.bool b) (.bool c):=λe=>by subst e;exact .bool _
  split at h
  ·split at h
   ·rename_i eC
    cases h
    refine⟨_,guard ⟨by simp,by simp⟩ ?_,.str _⟩
    unfold maxLen at eC
    simp only[binOp,Op.stringOp]
    have hm:IntKind.i64.max=9223372036854775807:=by decide
    rw[hm,dM (by omega)]
    rfl
   ·cases h
  ·cases h;exact⟨_,guard ⟨by simp,by simp⟩ (by simp only[binOp,Op.stringOp];rfl),.bool _⟩
  ·cases h;exact⟨_,guard ⟨by simp,by simp⟩ (by simp only[binOp,Op.stringOp];rfl),.bool _⟩
  ·cases h;exact⟨_,guard ⟨by simp,by simp⟩ (by simp only[binOp,Op.stringOp];rfl),.bool _⟩
  ·cases h;exact⟨_,guard ⟨by simp,by simp⟩ (by simp only[binOp,Op.stringOp];rfl),.bool _⟩
  ·cases h;exact⟨_,guard ⟨by simp,by simp⟩ (by simp only[binOp,Op.stringOp];rfl),.bool _⟩
  ·cases h;exact⟨_,guard ⟨by simp,by simp⟩ (by simp only[binOp,Op.stringOp];rfl),.bool _⟩
  ·cases h
 ·rename_i n1 n2
  split at h
  ·cases h
  ·rename_i hg
   have main: ∀b,Om P 8 t x y=some b->(eqGuard op t ox oy xv yv).run P w=.ok () w/\(Op.equal t xv yv).run P w=.ok b w/\
     (op=.eql->(binOp op t xv yv).run P w=.ok (.bool b) w)/\(op=.neq->(binOp op t xv yv).run P w=.ok (.bool !b) w):=by
    intro b hb
    have he:(Op.equal t xv yv).run P w=.ok b w:=OY 8 t x y xv yv b Op.maxDepth hx hy hb (by decide)
    have zW:(∃cs ds,xv=.agg cs/\yv=.agg ds)\/(xv≠ .nilIface/\ ∀cs,xv≠ .agg cs):=by
     simp only[Om]at hb
     split at hb<;>first
      |(cases hb;done)
      |(cases hx;cases hy;exact .inl ⟨_,_,rfl,rfl⟩)
      |(cases hx;exact .inr ⟨by simp,by simp⟩)
    refine⟨qi ?_,he,λe=>?_,λe=>?_⟩
    ·rcases zW with⟨cs,ds,e1,e2⟩|h'
     ·exact .inl ⟨cs,ds,e1,e2,by simpa using hg⟩
     ·exact .inr h'
    ·subst e
     simp only[Om]at hb
     split at hb<;>first
      |(exact(n1 _ _ _ _ rfl rfl).elim)
      |(exact(n2 _ _ rfl rfl).elim)
      |(cases hb;done)
      |(cases hx;cases hy;simp only[binOp,Sem.run_bind,he,Result.andThen_ok,Sem.run_pure])
    ·subst e
     simp only[Om]at hb
     split at hb<;>first
      |(exact(n1 _ _ _ _ rfl rfl).elim)
      |(exact(n2 _ _ rfl rfl).elim)
      |(cases hb;done)
      |(cases hx;cases hy;simp only[binOp,Sem.run_bind,he,Result.andThen_ok,Sem.run_pure])
   split at h
   ·split at h
    ·rename_i b hb
     cases h
     obtain⟨m1,m2,m3,m4⟩:=main b hb
     exact⟨.bool b,by rw[Sem.run_bind,m1,Result.andThen_ok,m3 rfl],.bool _⟩
    ·cases h
   ·split at h
    ·rename_i b hb
     cases h
     obtain⟨m1,m2,m3,m4⟩:=main b hb
     exact⟨.bool !b,by rw[Sem.run_bind,m1,Result.andThen_ok,m4 rfl],.bool _⟩
    ·cases h
   ·cases h
end
end Go.Am
end
section
namespace Go.Am
open Go.RowKit
section
variable {P:Program} {G:cg} {s s':St} {w:World} {bI:Env} {a:Act}
def Lt(P:Program)(G:cg)(s:St)(w:World)(OQ:Sem Next)(x:AV)(s':St):Prop:=
 ∃nx v G' w',OQ.run P w=.ok nx w'/\(nx=.value v\/(nx=.skip/\v=undef))/\V G' x v/\eL G' s' w'/\Ext G s w G' s' w'
theorem tu.next{OQ:Sem Value}{x:AV}(h:tu P G s w OQ x s'):Lt P G s w (do pure (.value (<-OQ))) x s':=by
 obtain⟨v,G',w',e1,e2,e3,e4⟩:=h
 exact⟨.value v,v,G',w',by simp[e1],.inl rfl,e2,e3,e4⟩
theorem dL{v:Option AV}{x:AV}(h:gu v s=some (x,s')):v=some x/\s'=s:=by
 unfold gu at h
 split at h
 ·cases h;exact⟨rfl,rfl⟩
 ·cases h
theorem HG(hs:eL G s w){x:AV}{v:Value}(hv:V G x v):Lt P G s w (pure (.value v)) x s:=⟨.value v,v,G,w,rfl,.inl rfl,hv,hs,.refl _ _ _⟩
theorem Lu(hs:eL G s w){t ty:TypeId}{ts:Array TypeId}(ht:ts[0]? =some t){x y:AV}{xv:Value}(hx:V G x xv)(h:Ad P t x=some y):tu P G s w (Builtin.len_ ts ty #[xv]) y s:=by
 unfold Ad at h
 split at h
 ·split at h
  case isFalse=>cases h
  rename_i iM
  cases h
  obtain⟨e,iM⟩:=AM.1 iM
  cases hx
  all_goals exact dN hs (v:=goInt _) (by simp[Builtin.len_,ht,run_underlying (fD iM)]) (.int _ _)
 ·split at h
  case isFalse=>cases h
  rename_i iM
  cases h
  obtain⟨e,iM⟩:=AM.1 iM
  obtain⟨bR,cap,rfl,_⟩:=V.qf hx
  exact dN hs (v:=goInt _) (by simp[Builtin.len_,ht,run_underlying (fD iM)]) (.int _ _)
 ·split at h
  case isFalse=>cases h
  rename_i iM
  cases h
  obtain⟨e,iM⟩:=AM.1 iM
  cases hx
  all_goals exact dN hs (v:=goInt _) (by simp[Builtin.len_,ht,run_underlying (fD iM)]) (.int _ _)
 ·split at h
  case isFalse=>cases h
  rename_i iz
  cases h
  cases hx
  exact dN hs (v:=goInt _) (by simp[Builtin.len_,ht,run_underlying (B2 iz)]) (.int _ _)
 ·split at h
  case h_2=>cases h
  rename_i n e iM
  cases h
  refine dN hs (v:=goInt n) ?_ (.int _ _)
  cases xv<;>simp[Builtin.len_,ht,run_underlying (B0 iM)]
theorem Lv(hs:eL G s w){t ty:TypeId}{ts:Array TypeId}(ht:ts[0]? =some t){x y:AV}{xv:Value}(hx:V G x xv)(h:RU P t x=some y):tu P G s w (Builtin.cap_ ts ty #[xv]) y s:=by
 unfold RU at h
 split at h
 case h_3=>cases h
 ·split at h
  case isFalse=>cases h
  rename_i iM
  cases h
  obtain⟨e,iM⟩:=AM.1 iM
  cases hx
  all_goals exact dN hs (v:=goInt _) (by simp[Builtin.cap_,ht,run_underlying (fD iM)]) (.int _ _)
 ·split at h
  case isFalse=>cases h
  rename_i iM
  cases h
  obtain⟨e,iM⟩:=AM.1 iM
  cases hx with
  |slnil _ bR cap hf hb=>
   rw[hf rfl]
   exact dN hs (v:=goInt 0) (by simp[Builtin.cap_,ht,run_underlying (fD iM)]) (.int _ _)
  |sl _ _ b off cB cap val jY jS ee jz gS hV=>
   rw[jS rfl]
   exact dN hs (v:=goInt _) (by simp[Builtin.cap_,ht,run_underlying (fD iM)]) (.int _ _)
theorem vg{f:AV->AV->Option AV}{g:Value->Value->Sem Value}(hf: ∀x y z xv yv,V G x xv->V G y yv->f x y=some z-> ∃v,(g xv yv).run P w=.ok v w/\V G z v):
  ∀{l:List AV}{lv:List Value}{x z:AV}{xv:Value},l.length=lv.length->(∀(i:Nat)p q,l[i]? =some p->lv[i]? =some q->V G p q)->V G x xv->vY f x l=some z->
   ∃v,(lv.foldlM g xv).run P w=.ok v w/\V G z v
 | [],lv,x,z,xv,hl,hV,hx,h=>by
  cases lv with
  |nil=>cases h;exact⟨xv,rfl,hx⟩
  |cons _ _=>simp at hl
 |y::r,lv,x,z,xv,hl,hV,hx,h=>by
  cases lv with
  |nil=>simp at hl
  |cons yv rv=>
   simp only[vY]at h
   split at h
   case h_2=>cases h
   rename_i u hu
   obtain⟨v,e1,e2⟩:=hf x y u xv yv hx (hV 0 y yv rfl rfl) hu
   obtain⟨v',f1,f2⟩:=vg hf (l:=r) (lv:=rv) (by simpa using hl) (λi p q hp hq=>hV (i+1) p q (by simpa using hp) (by simpa using hq)) e2 h
   exact⟨v',by simp[List.foldlM_cons,e1,f1],f2⟩
theorem AU(he:jm G bI a.tmps){l:Array Operand}{x y:AV}(h:opers bI l.toList=some [x,y]): ∃o1 o2,l= #[o1,o2]/\V G x (a.eval o1)/\V G y (a.eval o2):=by
 obtain⟨ls⟩:=l
 obtain⟨e1,e2⟩:=qT he h
 match ls,e1 with
 | [o1,o2],_=>exact⟨o1,o2,rfl,e2 0 _ _ rfl rfl,e2 1 _ _ rfl rfl⟩
theorem vh(he:jm G bI a.tmps){l:Array Operand}{x:AV}(h:opers bI l.toList=some [x]): ∃o1,l= #[o1]/\V G x (a.eval o1):=by
 obtain⟨ls⟩:=l
 obtain⟨e1,e2⟩:=qT he h
 match ls,e1 with
 | [o1],_=>exact⟨o1,rfl,e2 0 _ _ rfl rfl⟩
theorem B5{ts:Array TypeId}{t u ty:TypeId}{args:Array Value}(h0:ts[0]? =some t)(h1:ts[1]? =some u):Builtin.append_ ts ty args=Builtin.append_ #[t,u] ty args:=by
 unfold Builtin.append_;simp[h0,h1]
theorem yd{ts:Array TypeId}{t ty:TypeId}{args:Array Value}(h0:ts[0]? =some t):Builtin.copy_ ts ty args=Builtin.copy_ #[t,t] ty args:=by
 unfold Builtin.copy_;simp[h0]
theorem vk(hs:eL G s w){t u ty e:TypeId}{x y z:AV}{xv yv:Value}(hx:V G x xv)(hy:V G y yv){new:List AV}(he:eh P t=some e)(hn:fO y s=some new)(hf:kT P e y s)
  (hu:(eh P u).isSome=true) (h:fW P t x new s=some (z,s')):tu P G s w (Builtin.append_ #[t,u] ty #[xv,yv]) z s':=by
 obtain⟨d,hu⟩:=AM.1 hu
 have Vu: ∃sz,dr P e=some sz:=by
  unfold fW at h
  rw[he]at h
  simp only at h
  split at h
  ·rename_i sz _ eC _;exact⟨sz,eC⟩
  ·cases h
 obtain⟨sz,eC⟩:=Vu
 obtain⟨f1,f2,f3,f4⟩:=fI (P:=P) hs hy hn eC hf
 obtain⟨vs,g1,g2⟩:=f4 new.length (eF _)
 rw[AL]at g2
 refine xX hs hx he (λsz' Ag=>?_) f2 g2 h
 rw[eC]at Ag;cases Ag
 refine⟨f1,.inl ⟨⟨d,fD hu⟩,λw'=>?_,g1⟩⟩
 have:(Builtin.lenOf yv).run P w=.ok new.length w:=f3
 cases yv<;>simp[Builtin.lenOf]at this |- <;>exact this
theorem wR(hs:eL G s w){t u ty e:TypeId}{x z zz:AV}{k:IntKind}{n:Int}{xv:Value}(hx:V G x xv)(he:eh P t=some e)(hz:jB P e=some zz)(h0:0<=n)(h1:n<=(bJ:Int))
  (hu:(FV P u).isSome=true) (eC:dr P e=some zz.cells.length) (jz:zz.cells.all AV.cX=true) (h:fW P t x (List.replicate n.toNat zz) s=some (z,s')):
  tu P G s w (Builtin.append_ #[t,u] ty #[xv,.int k n]) z s':=by
 obtain⟨k',hu⟩:=AM.1 hu
 have fB: ∃zv,(∀w',(zeroValue e).run P w'=.ok zv w')/\V G zz zv:=by
  unfold jB at hz
  cases hi:P.info? e with
  |none=>simp[hi]at hz
  |some i=>
   cases Up:i.zero with
   |none=>simp[hi,Up]at hz
   |some v=>
    simp[hi,Up]at hz
    exact⟨v,λw'=>by simp[zeroValue,ib hi,Up],qS hz⟩
 obtain⟨zv,Oq,Lm⟩:=fB
 have AR:=VL.cells Lm (mh jz)
 refine xX hs hx he (news:=if n.toNat*zz.cells.length=0 then #[]else Builtin.zeroCells zv.cells n.toNat) (λsz' Ag=>?_) (λy hy=>?_) ⟨?_,λi p q hp hq=>?_⟩ h
 ·rw[eC]at Ag;cases Ag
  refine⟨λy hy=>by rw[Oi hy],.inr ⟨k',k,n,K6 hu,rfl,h0,h1,by simp,zv,Oq,by simp⟩⟩
 ·rw[dn,sF]at hy
  obtain⟨q,hq,hy⟩:=hy
  rw[Oi hq]at hy
  exact kf jz y hy
 ·rw[dF (cB:=zz.cells.length) λy hy=>by rw[Oi hy]]
  rw[U1]
  split
  ·rename_i hn;rw[hn];rfl
  ·rw[size_zeroCells,<-AR.1]
 ·have Ah:0<zz.cells.length:=by
   rcases Nat.eq_zero_or_pos zz.cells.length with h|h
   ·exfalso
    have hl:(dn (List.replicate n.toNat zz)).length=0:=by
     rw[dF (cB:=zz.cells.length) λy hy=>by rw[Oi hy]];rw[h];simp
    rw[Kx hl]at hp
    simp at hp
   ·exact h
  obtain⟨p1,p2⟩:=mH _ _ Ah hp
  rw[dM (by omega)]at hq
  obtain⟨v,r1,r2⟩:=AR.get p2
  have gq:i<n.toNat*zv.cells.size:=by rw[<-AR.1];exact p1
  have Uq:zv.cells.size=zz.cells.length:=AR.1.symm
  have xf:zv.cells[i%zv.cells.size]! =v:=by rw[YT,xc,Uq,r1];rfl
  simp[Builtin.zeroCells,gq,xf]at hq
  subst hq;exact r2
theorem vl(hs:eL G s w)(he:jm G bI a.tmps)(o:Oper){x:AV}(h:iX P o.op bI s=some (x,s')):Lt P G s w (execOp a.eval o) x s':=by
 unfold iX at h
 obtain⟨dst,op,type,pos,after,guard⟩:=o
 simp only at h
 split at h
 ·
   obtain⟨h1,rfl⟩:=dL h
   exact HG hs (eM he h1)
 · obtain⟨h1,rfl⟩:=dL h
   exact HG hs (eM he h1)
 ·
   rename_i c oa ob
   split at h
   case h_2=>cases h
   rename_i b hc
   have hv:=eM he hc
   generalize hq:a.eval c=cv at hv
   cases hv
   cases b
   · simp only[YV,if_false]at h
     obtain⟨h1,rfl⟩:=dL h
     exact⟨.value (a.eval ob),_,G,w,by simp[execOp,hq,asBool],.inl rfl,eM he h1,hs,.refl _ _ _⟩
   · simp only[u0]at h
     obtain⟨h1,rfl⟩:=dL h
     exact⟨.value (a.eval oa),_,G,w,by simp[execOp,hq,asBool],.inl rfl,eM he h1,hs,.refl _ _ _⟩
 · split at h
   · rename_i z hz
     exact(Jo hs (BV hz) h).next
   · split at h
     case h_2=>cases h
     rename_i z hz
     exact(F0 hs hz h).next
 · split at h
   case h_2=>cases h
   rename_i v hv
   exact(HC hs (eM he hv) h).next
 · split at h
   case h_2=>cases h
   rename_i l hl
   obtain⟨h1,rfl⟩:=dL h
   exact(Jx hs he hl h1).next
 · split at h
   case h_2=>cases h
   rename_i l hl
   obtain⟨h1,rfl⟩:=dL h
   exact(ya hs he hl h1).next
 · split at h
   case h_2=>cases h
   rename_i p hp
   obtain⟨h1,rfl⟩:=dL h
   exact(La hs (eM he hp) h1).next
 · split at h
   case h_2=>cases h
   rename_i p y hp hy
   split at h
   case h_2=>cases h
   rename_i s2 iz
   cases h
   obtain⟨w',e1,e2,e3⟩:=Jp hs (eM he hp) (eM he hy) iz
   exact⟨.skip,undef,G,w',by simp[execOp,e1],.inr ⟨rfl,rfl⟩,.any _,e2,e3⟩
 ·
   rename_i ox
   split at h
   · rename_i hq
     cases h
     have hv:=eM he hq
     generalize Vv:a.eval ox=cv at hv
     cases hv with
     |mp id el off r ho=>exact⟨.value _,_,G,w,by simp only[execOp,Vv];rfl,.inl rfl,.mp _ _ _ r ho,hs,.refl _ _ _⟩
   · rename_i hq
     cases h
     have hv:=eM he hq
     generalize Vv:a.eval ox=cv at hv
     have Vw:=hv
     cases hv with
     |ip cells b off val h1 h2=>exact⟨.value _,_,G,w,by simp only[execOp,Vv];rfl,.inl rfl,Vw,hs,.refl _ _ _⟩
   · rename_i hq
     cases h
     have hv:=eM he hq
     generalize Vv:a.eval ox=cv at hv
     have Vw:=hv
     cases hv with
     |fn f fQ vs h1 h2=>exact⟨.value _,_,G,w,by simp only[execOp,Vv];rfl,.inl rfl,Vw,hs,.refl _ _ _⟩
   · cases h
 ·
   split at h
   case h_2=>cases h
   rename_i y z hy hz
   obtain⟨h1,rfl⟩:=dL h
   obtain⟨v,e1,e2⟩:=Lq (ox:=_) (oy:=_) (eM he hy) (eM he hz) h1
   exact(dN hs e1 e2).next
 · split at h
   case h_2=>cases h
   rename_i y hy
   obtain⟨h1,rfl⟩:=dL h
   have hv:=eM he hy
   unfold Zd at h1
   split at h1
   · cases h1
     generalize hq:a.eval _=cv at hv
     cases hv
     exact⟨_,_,G,w,by simp only[execOp,hq,Op.unary,Sem.run_bind,Sem.run_pure,Result.andThen_ok],.inl rfl,.bool _,hs,.refl _ _ _⟩
   · cases h1
     generalize hq:a.eval _=cv at hv
     cases hv
     exact⟨_,_,G,w,by simp only[execOp,hq,Op.unary,Op.intArith,Sem.run_bind,Sem.run_pure,Result.andThen_ok],.inl rfl,.int _ _,hs,.refl _ _ _⟩
   · cases h1
 ·
   split at h
   case h_2=>cases h
   rename_i y hy
   obtain⟨h1,rfl⟩:=dL h
   have hv:=eM he hy
   unfold nP at h1
   split at h1
   · split at h1
     case isFalse=>cases h1
     rename_i qg
     split at h1
     case h_2=>cases h1
     rename_i k hk
     cases h1
     obtain⟨d,hd⟩:=AM.1 qg
     generalize hq:a.eval _=cv at hv
     cases hv
     exact⟨_,_,G,w,by simp[execOp,hq,convert,run_underlying hd,run_underlying (K6 hk),Conv.intToInt],.inl rfl,.int _ _,hs,.refl _ _ _⟩
   · split at h1
     case isFalse=>cases h1
     rename_i qg
     cases h1
     obtain⟨d,hd⟩:=AM.1 qg.1
     generalize hq:a.eval _=cv at hv
     cases hv
     exact⟨_,_,G,w,by simp[execOp,hq,convert,run_underlying hd,run_underlying (B2 qg.2)],.inl rfl,.str _,hs,.refl _ _ _⟩
   · cases h1
 ·
   rename_i f first fQ
   split at h
   case isFalse=>cases h
   rename_i hf
   split at h
   case h_2=>cases h
   rename_i l hl
   cases h
   have hfe:first= #[]:=RN hf
   subst hfe
   have QC:=tG he hl
   exact⟨.value (.func (.func f) #[] (fQ.map a.eval)),_,G,w,by simp[execOp,Instr.makeFunc],.inl rfl,.fn f l _ QC.1 QC.2,hs,.refl _ _ _⟩
 · split at h
   case h_2=>cases h
   rename_i y hy
   obtain⟨h1,rfl⟩:=dL h
   exact(Ju hs he (eM he hy) h1).next
 · split at h
   case h_2=>cases h
   rename_i y hy
   obtain⟨h1,rfl⟩:=dL h
   exact(Ae hs (eM he hy) h1).next
 · split at h
   case h_2=>cases h
   rename_i y hy
   obtain⟨h1,rfl⟩:=dL h
   exact(Jr hs (eM he hy) h1).next
 · split at h
   case h_2=>cases h
   rename_i y z hy hz
   obtain⟨h1,rfl⟩:=dL h
   exact(Af hs (eM he hy) (eM he hz) h1).next
 · split at h
   case h_2=>cases h
   rename_i y z hy hz
   obtain⟨h1,rfl⟩:=dL h
   exact(Jt hs (eM he hy) (eM he hz) h1).next
 ·
   split at h
   case h_2=>cases h
   rename_i vs hy
   obtain⟨h1,rfl⟩:=dL h
   have hv:=eM he hy
   generalize hq:a.eval _=cv at hv
   cases hv with
   |ec _ us hl hh=>
     obtain⟨v,e1,e2⟩:=VL.get ⟨hl,hh⟩ h1
     exact⟨.value v,v,G,w,by simp[execOp,hq,Instr.extract,e1],.inl rfl,e2,hs,.refl _ _ _⟩
 · split at h
   case h_2=>cases h
   rename_i y z hy hz
   exact(Ll hs (eM he hy) (eM he hz) h).next
 ·
   rename_i c
   obtain⟨callee,args,argTypes⟩:=c
   simp only at h
   split at h
   ·
     split at h
     case h_2=>cases h
     rename_i y t hy ht
     obtain⟨h1,rfl⟩:=dL h
     obtain⟨o1,rfl,v1⟩:=vh he hy
     have:=(Lu (ty:=type) hs ht v1 h1).next
     simpa[execOp,resolve,invoke,builtin]using this
   ·
     split at h
     case h_2=>cases h
     rename_i y z t u hy ht hu
     obtain⟨o1,o2,rfl,v1,v2⟩:=AU he hy
     have ZA: ∀x,tu P G s w (Builtin.append_ #[t,u] type #[a.eval o1,a.eval o2]) x s'->
       Lt P G s w (execOp a.eval ⟨dst,.call ⟨.builtin .append,#[o1,o2],argTypes⟩,type,pos,after,guard⟩) x s':=λx hd=>by
      rw[<-B5 ht hu]at hd
      simpa[execOp,resolve,invoke,builtin]using hd.next
     refine ZA _ ?_
     split at h
     ·rename_i k n
      split at h
      case h_2=>cases h
      rename_i e iM
      split at h
      case h_2=>cases h
      rename_i zz hz
      split at h
      case isFalse=>cases h
      rename_i hc
      generalize a.eval o2=cv at v2
      cases v2
      exact wR hs v1 iM hz hc.1 hc.2.1 hc.2.2.1 hc.2.2.2.1 hc.2.2.2.2 h
     ·split at h
      case h_2=>cases h
      rename_i e new iM hn
      split at h
      case isFalse=>cases h
      rename_i hc
      exact vk hs v1 v2 iM hn hc.1 hc.2 h
   ·
     split at h
     case h_2=>cases h
     rename_i y z t hy ht
     obtain⟨o1,o2,rfl,v1,v2⟩:=AU he hy
     split at h
     ·have hd:=Jv (u:=t) (ty:=type) hs v1 v2 h
      rw[<-yd ht]at hd
      simpa[execOp,resolve,invoke,builtin]using hd.next
     ·split at h
      case h_2=>cases h
      rename_i e new iM hn
      split at h
      case isFalse=>cases h
      rename_i hf
      have hd:=DN (u:=t) (ty:=type) hs v1 v2 iM hn hf h
      rw[<-yd ht]at hd
      simpa[execOp,resolve,invoke,builtin]using hd.next
   ·
     split at h
     case h_2=>cases h
     rename_i y t hy ht
     obtain⟨h1,rfl⟩:=dL h
     obtain⟨o1,rfl,v1⟩:=vh he hy
     have:=(Lv (ty:=type) hs ht v1 h1).next
     simpa[execOp,resolve,invoke,builtin]using this
   ·
     split at h
     case h_2=>cases h
     rename_i y t hy ht
     obtain⟨o1,rfl,v1⟩:=vh he hy
     have:=(Jw (ty:=type) hs ht v1 h).next
     simpa[execOp,resolve,invoke,builtin]using this
   ·
     split at h
     case h_2=>cases h
     rename_i y r hy
     obtain⟨h1,rfl⟩:=dL h
     obtain⟨e1,e2⟩:=qT he hy
     obtain⟨ls⟩:=args
     cases ls with
     |nil=>simp at e1
     |cons o1 rest=>
      obtain⟨v,f1,f2⟩:=vg (P:=P) (w:=w) (g:=Builtin.min2) (λp q z pv qv hp hq hz=>by
       cases p<;>simp only[OM]at hz<;>first|(cases hz;done)|skip
       cases q<;>simp only[]at hz<;>first|(cases hz;done)|skip
       split at hz
       ·rename_i hk;subst hk;cases hz;cases hp;cases hq;exact⟨_,rfl,.int _ _⟩
       ·cases hz) (l:=r) (lv:=rest.map a.eval) (by simpa using e1) (λi p q hp hq=>e2 (i+1) p q (by simpa using hp) (by simpa using hq)) (e2 0 y _ rfl rfl) h1
      refine⟨.value v,v,G,w,?_,.inl rfl,f2,hs,.refl _ _ _⟩
      simp[execOp,resolve,invoke,builtin,Builtin.min_,f1]
   ·
     split at h
     case h_2=>cases h
     rename_i y r hy
     obtain⟨h1,rfl⟩:=dL h
     obtain⟨e1,e2⟩:=qT he hy
     obtain⟨ls⟩:=args
     cases ls with
     |nil=>simp at e1
     |cons o1 rest=>
      obtain⟨v,f1,f2⟩:=vg (P:=P) (w:=w) (g:=Builtin.max2) (λp q z pv qv hp hq hz=>by
       cases p<;>simp only[ON]at hz<;>first|(cases hz;done)|skip
       cases q<;>simp only[]at hz<;>first|(cases hz;done)|skip
       split at hz
       ·rename_i hk;subst hk;cases hz;cases hp;cases hq;exact⟨_,rfl,.int _ _⟩
       ·cases hz) (l:=r) (lv:=rest.map a.eval) (by simpa using e1) (λi p q hp hq=>e2 (i+1) p q (by simpa using hp) (by simpa using hq)) (e2 0 y _ rfl rfl) h1
      refine⟨.value v,v,G,w,?_,.inl rfl,f2,hs,.refl _ _ _⟩
      simp[execOp,resolve,invoke,builtin,Builtin.max_,f1]
   · cases h
 · cases h
end
end Go.Am
end
