/- A value whose inner literal slices are seen without their capacity. -/
import Derived.Test.YtgpciecmgoppiaaGreatAmI
set_option linter.all false
namespace Go.Am
open Go.RowKit
mutual
inductive Rw:AV->AV->Prop
 |r (x:AV):Rw x x
 |s {b:Bool} {xs ys:List AV} (h:uJ (de xs) (de ys)) (hl:xs.length=ys.length) (he:(xs.map λx=>x.cells.length)=ys.map λx=>x.cells.length) (hs:(de ys).all AV.cJ=true):Rw (.sl b xs) (.sl false ys)
 |a {xs ys:List AV} (h:uJ xs ys):Rw (.agg xs) (.agg ys)
inductive uJ:List AV->List AV->Prop
 |z:uJ [] []
 |k {x y:AV} {xs ys:List AV} (h:Rw x y) (hs:uJ xs ys):uJ (x::xs) (y::ys)
end
mutual
theorem Rw.to: ∀{x y:AV}{G:bS}{v:Value},Rw x y->V G x v->V G y v
 |_,_,G,v,.r x,hv=>hv
 |_,_,G,v,.s (b:=b) (xs:=xs) (ys:=ys) h hl he hs,hv=>by
  have hg:=uJ.get h;cases hv with
  |slnil _ bG cap hf hb=>
   cases ys with
   |nil=>exact .slnil false bG cap (λe=>by cases e) hb
   |cons y r=>simp at hl
  |sl _ _ b2 off cq cap val jC jX eo kI gE hV=>
   rw[hl]at jC gE |-
   refine .sl false ys b2 off cq cap val jC (λe=>by cases e) (λe hm=>?_) (λx hx=>(qc.1 hs) x hx) gE λk y hy=>?_
   ·obtain⟨i,hi,rfl⟩:=qZ hm;have h1:=fL (λl:List Nat=>l[i]?) he;simp only[xR,dF hi,dF (show i<xs.length by omega),iJ]at h1;rw[<-Option.some.inj h1];exact eo _ (F2 _)
   ·obtain⟨x,h1,h2⟩:=hg k y hy;exact h2 G _ (hV k x h1)
 |_,_,G,v,.a h,hv=>by
  have hg:=uJ.get h;have hl:=uJ.len h;cases hv with
  |agg cs vs dK hh=>
   refine .agg _ vs (by omega) λi x y hx hy=>?_;obtain⟨z,h1,h2⟩:=hg i x hx;exact h2 G _ (hh i z y h1 hy)
theorem uJ.get: ∀{xs ys:List AV},uJ xs ys-> ∀(i:Nat)(y:AV),ys[i]? =some y-> ∃x,xs[i]? =some x/\ ∀(G:bS)(v:Value),V G x v->V G y v
 |_,_,.z,i,y,h=>by simp at h
 |_,_,.k h hs,0,y,hy=>by
  simp at hy;subst hy;exact⟨_,rfl,λG v hv=>Rw.to h hv⟩
 |_,_,.k h hs,i+1,y,hy=>by
  obtain⟨x,h1,h2⟩:=uJ.get hs i y (by simpa using hy);exact⟨x,by simpa using h1,h2⟩
theorem uJ.len: ∀{xs ys:List AV},uJ xs ys->xs.length=ys.length
 |_,_,.z=>rfl
 |_,_,.k h hs=>by simp[uJ.len hs]
end
section
variable {α:Type} {B:iU} {P:Program} {M:TM B.S}
theorem tfW{f:FuncId}{args:List (TV B.S)}{X:α->TV B.S}{a:α}(z:AV)(hz:Rw z ((X a).er B.E))(h:RT B P (nF P f) none (DP P (rF P f).toArray (KX B (λ_:Unit=>.a z) ())) ⟨.run (cF P f),[],KS args 0,⟨[],0⟩⟩)
  (hx:((Bv P f).isSome&&Nat.ble args.length (nF P f)&&Dy args&&(X a).cl)=true:=by kernel_rfl):cH B P f args X a:=by
 simp only[eU]at hx;obtain⟨⟨⟨h1,h2⟩,h3⟩,h4⟩:=hx;have h:=h.v;obtain⟨⟨n,rs,c⟩,hb⟩:=Ar.1 h1;have e1:nF P f=n:=by simp[nF,hb]
 have e2:rF P f=rs:=by simp[rF,hb]
 have e3:cF P f=c:=by simp[cF,hb]
 rw[e1,e2,e3]at h;rw[e1]at h2;refine R4 (nu h3) (za h4) (dw.turn ((IH (s:=St.nil) n rs c _ hb CT.symm (by rw[iw];exact h2) rfl h:dw P f _ St.nil (KX B (λ_:Unit=>.a z) ())).mono λy s hq=>⟨(Mx y s).2,(X a).er B.E,λG w v hs hv=>?_,rfl⟩));obtain⟨G',g1,g2,g3⟩:=yn s y G w v hs hv;have hq:dT (Mx y s).1=z:=hq;exact⟨G',g1,g2,hz.to (hq ▸ Sv g3)⟩
end
end Go.Am
