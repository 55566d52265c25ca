/-
  The logic AM, U: what an operation gives on typed states is what it gives.
  Own work. No Go text.
-/
import Derived.Test.YtpbahncblggodaaGreatAmT
set_option linter.all false
namespace Go.Am
open Go.RowKit
section
variable {B:Tab}
theorem get_erE{env:TEnv B.S}{t:Nat}:eget (erE B env) t=(eget env t).map (TV.er B.E):=by
 induction env with
 |nil=>rfl
 |cons p r ih=>
  obtain⟨k,x⟩:=p
  simp only[erE,egetC]
  split
  ·rfl
  ·exact ih
theorem set_erE{env:TEnv B.S}{t:Nat}{x:TV B.S}:erE B (eset env t x)=eset (erE B env) t (x.er B.E):=by
 induction env with
 |nil=>rfl
 |cons p r ih=>
  obtain⟨k,y⟩:=p
  simp only[erE,esetC]
  split
  ·rfl
  ·simp only[erE,ih]
theorem get_erH{h:List (Nat×TB B.S)}{i:Nat}:eget (erH B h) i=(eget h i).map (erB B):=by
 induction h with
 |nil=>rfl
 |cons p r ih=>
  obtain⟨k,x⟩:=p
  simp only[erH,egetC]
  split
  ·rfl
  ·exact ih
theorem set_erH{h:List (Nat×TB B.S)}{i:Nat}{x:TB B.S}:erH B (eset h i x)=eset (erH B h) i (erB B x):=by
 induction h with
 |nil=>rfl
 |cons p r ih=>
  obtain⟨k,y⟩:=p
  simp only[erH,esetC]
  split
  ·rfl
  ·simp only[erH,ih]
theorem del_erH{h:List (Nat×TB B.S)}{i:Nat}:erH B (edel h i)=edel (erH B h) i:=by
 induction h with
 |nil=>rfl
 |cons p r ih=>
  obtain⟨k,y⟩:=p
  simp only[erH,edel]
  split
  ·exact ih
  ·simp only[erH,ih]
theorem eget_app{β:Type}{a b:List (Nat×β)}{i:Nat}:eget (a++b) i=match eget a i with
  |some x=>some x
  |none=>eget b i:=by
 induction a with
 |nil=>simp[egetN]
 |cons p r ih=>
  obtain⟨k,x⟩:=p
  simp only[List.cons_append,egetC,ih]
  split<;>rfl
theorem eset_app{β:Type}{a b:List (Nat×β)}{i:Nat}{x y:β}(h:eget a i=some x):eset (a++b) i y=eset a i y++b:=by
 induction a with
 |nil=>simp[egetN]at h
 |cons p r ih=>
  obtain⟨k,z⟩:=p
  simp only[egetC]at h
  simp only[List.cons_append,esetC]
  split
  ·rfl
  ·rename_i hk
   rw[if_neg hk]at h
   rw[ih h];rfl
theorem edel_app{β:Type}{a b:List (Nat×β)}{i:Nat}:edel (a++b) i=edel a i++edel b i:=by
 induction a with
 |nil=>simp[edel]
 |cons p r ih=>
  obtain⟨k,z⟩:=p
  simp only[List.cons_append,edel,ih]
  split<;>rfl
theorem edel_none{β:Type}{a:List (Nat×β)}{i:Nat}(h:eget a i=none):edel a i=a:=by
 induction a with
 |nil=>rfl
 |cons p r ih=>
  obtain⟨k,z⟩:=p
  simp only[egetC]at h
  simp only[edel]
  split
  ·rename_i hk;rw[if_pos hk]at h;cases h
  ·rename_i hk;rw[if_neg hk]at h;rw[ih h]
theorem erR1_no{w:Nat}{b:TB B.S}(h:isFr b=false):erR1 B w b=[]:=by
 cases b<;>first|rfl|cases h
theorem erS_new{h:List (Nat×TB B.S)}{c n:Nat}{b:TB B.S}(hb:isFr b=false):erS B ⟨(c,b)::h,n⟩=⟨(c,erB B b)::(erS B ⟨h,n⟩).heap,n⟩:=by
 simp only[erS,erH,erR,erR1_no hb,List.nil_append,List.cons_append]
theorem get_erS{s:TSt B.S}{id:Nat}{b:TB B.S}(h:eget s.heap id=some b):eget (erS B s).heap id=some (erB B b):=by
 simp only[erS]
 rw[eget_app,get_erH,h];rfl
theorem erR_set{h:List (Nat×TB B.S)}{i:Nat}{b b0:TB B.S}(hg:eget h i=some b0)(h0:isFr b0=false)(hb:isFr b=false):erR B (eset h i b)=erR B h:=by
 induction h with
 |nil=>simp[egetN]at hg
 |cons p r ih=>
  obtain⟨k,z⟩:=p
  simp only[egetC]at hg
  simp only[esetC]
  split
  ·rename_i hk
   rw[if_pos hk]at hg;cases hg
   simp only[erR,erR1_no h0,erR1_no hb]
  ·rename_i hk
   rw[if_neg hk]at hg
   simp only[erR,ih hg]
theorem set_erS{s:TSt B.S}{i n:Nat}{b b0:TB B.S}(hg:eget s.heap i=some b0)(h0:isFr b0=false)(hb:isFr b=false):erS B ⟨eset s.heap i b,n⟩=⟨eset (erS B s).heap i (erB B b),n⟩:=by
 simp only[erS,set_erH,erR_set hg h0 hb]
 rw[eset_app (x:=erB B b0) (by rw[get_erH,hg];rfl)]
theorem nameZ_ge{l:List (ZB B.S)}{i id:Nat}{b:Blk}(h:eget (nameZ B i l) id=some b):i<=id/\id<i+l.length/\ ∃z,l[id-i]? =some z/\b=blZ (erZ B.E z):=by
 induction l generalizing i with
 |nil=>simp[nameZ,egetN]at h
 |cons z r ih=>
  simp only[nameZ,egetC]at h
  split at h
  ·rename_i e
   cases h;subst e
   exact⟨Nat.le_refl _,by simp,z,by simp,rfl⟩
  ·rename_i hne
   obtain⟨h1,h2,y,h3,h4⟩:=ih h
   refine⟨by omega,by simp only[List.length_cons];omega,y,?_,h4⟩
   rw[show id-i=(id-(i+1))+1 from by omega]
   simpa using h3
theorem famR_get{c w:Nat}: ∀{l:List (B.S c)}{i id:Nat}{b:Blk},eget (famR B c w i l) id=some b-> ∃j y,i<=j/\j<famCap/\l[j-i]? =some y/\eget (nameZ B (w+1+B.K c*j) (B.Z c (w+1+B.K c*j) y)) id=some b
 | [],i,id,b,h=>by simp[famR,egetN]at h
 |y::r,i,id,b,h=>by
  unfold famR at h
  cases hb:Nat.blt i famCap with
  |false=>rw[hb]at h;simp[egetN]at h
  |true=>
   rw[hb]at h
   simp only[cond_true]at h
   rw[eget_app]at h
   simp only[Nat.blt_eq]at hb
   split at h
   ·rename_i x hx
    cases h
    exact⟨i,y,Nat.le_refl _,hb,by simp,hx⟩
   ·obtain⟨j,z,h1,h2,h3,h4⟩:=famR_get h
    exact⟨j,z,by omega,h2,by rw[show j-i=(j-(i+1))+1 from by omega];simpa using h3,h4⟩
theorem famR_in{c w:Nat}{l:List (B.S c)}{i id:Nat}{b:Blk}(h:eget (famR B c w i l) id=some b):outF w id=false:=by
 obtain⟨j,y,h1,h2,h3,h4⟩:=famR_get h
 obtain⟨g1,g2,_⟩:=nameZ_ge h4
 rw[(B.hF c).hz]at g2
 have hk:=(B.hF c).hk
 have:B.K c*j<=4*4095:=Nat.mul_le_mul hk (by unfold famCap at h2;omega)
 unfold outF famW
 rw[Bool.or_eq_false_iff]
 constructor
 ·cases hq:Nat.ble id w with
  |false=>rfl
  |true=>have:=Nat.le_of_ble_eq_true hq;omega
 ·cases hq:Nat.ble (w+20000) id with
  |false=>rfl
  |true=>have:=Nat.le_of_ble_eq_true hq;omega
theorem erR1_in{w id:Nat}{x:TB B.S}{b:Blk}(h:eget (erR1 B w x) id=some b):isFr x=true/\outF w id=false:=by
 unfold erR1 at h
 split at h
 ·rename_i c cl pre n post
  refine⟨rfl,?_⟩
  rw[eget_app]at h
  split at h
  ·rename_i y hy
   cases cl with
   |true=>simp[egetN]at hy
   |false=>exact famR_in hy
  ·exact famR_in h
 ·simp[egetN]at h
theorem del_R{i:Nat}: ∀{h:List (Nat×TB B.S)},delOk h i=true->erR B (edel h i)=erR B h/\eget (erR B h) i=none
 | [],_=>by simp[edel,erR,egetN]
 |(k,x)::r,h=>by
  have key: ∀{y:TB B.S},isFr y=false->delOk r i=true->erR B (edel ((k,y)::r) i)=erR B ((k,y)::r)/\eget (erR B ((k,y)::r)) i=none:=λ{y}hy hr=>by
   obtain⟨h1,h2⟩:=del_R hr
   refine⟨?_,by simp only[erR,erR1_no hy,List.nil_append];exact h2⟩
   simp only[edel]
   split
   ·simp only[erR,erR1_no hy,List.nil_append];exact h1
   ·simp only[erR,h1]
  cases x with
  |fr c cl pre n post=>
   simp only[delOk,Bool.and_eq_true,Bool.not_eq_true']at h
   obtain⟨⟨h1,h2⟩,h3⟩:=h
   obtain⟨g1,g2⟩:=del_R h3
   have hne:k≠i:=λe=>by subst e;rw[show Nat.beq k k=true from Nat.beq_refl k]at h2;cases h2
   refine⟨by simp only[edel,if_neg hne,erR,g1],?_⟩
   simp only[erR]
   rw[eget_app]
   split
   ·rename_i b hb
    have:=(erR1_in hb).2
    rw[this]at h1;cases h1
   ·exact g2
  |els n l=>exact key (y:=.els n l) rfl h
  |ls n c x m hm=>exact key (y:=.ls n c x m hm) rfl h
  |raw b=>exact key (y:=.raw b) rfl h
  |rows n c x v m=>exact key (y:=.rows n c x v m) rfl h
  |lp c e st pd=>exact key (y:=.lp c e st pd) rfl h
  |fm n c w cl pre mid post=>exact key (y:=.fm n c w cl pre mid post) rfl h
theorem del_erS{s:TSt B.S}{i n:Nat}(h:delOk s.heap i=true):erS B ⟨edel s.heap i,n⟩=⟨edel (erS B s).heap i,n⟩:=by
 obtain⟨h1,h2⟩:=del_R h
 simp only[erS,edel_app,del_erH,h1,edel_none h2]
theorem er_norm(x:TV B.S):(x.norm B).er B.E=x.er B.E:=by
 cases x<;>first|rfl|exact B.hX _ _
theorem norm_v(x:TV B.S):(x.norm B).isV=false:=by
 cases x<;>first|rfl|exact B.hv _ _
theorem erL_a{S:Nat->Type}{E:(c:Nat)->S c->AV}(l:List AV):erL E (l.map .a)=l:=by
 induction l with
 |nil=>rfl
 |cons x r ih=>simp only[List.map_cons,erL,TV.er,ih]
theorem er_cells0{S:Nat->Type}{E:(c:Nat)->S c->AV}{x:TV S}(h:x.isV=false):erL E (cells0 x)=(x.er E).cells:=by
 cases x<;>simp only[TV.isV]at h<;>first|(cases h;done)|simp only[cells0,TV.er,erL,AV.cells,erL_a]
theorem er_cells(x:TV B.S):erL B.E (cellsT B x)=(x.er B.E).cells:=by
 rw[cellsT,er_cells0 (norm_v x),er_norm]
theorem len_cells(x:TV B.S):(cellsT B x).length=(x.er B.E).cells.length:=by
 rw[<-er_cells,erL_map,List.length_map]
theorem get_erL{S:Nat->Type}{E:(c:Nat)->S c->AV}(l:List (TV S))(i:Nat):(erL E l)[i]? =l[i]?.map (TV.er E):=by rw[erL_map,List.getElem?_map]
theorem readTT_ok{P:Program}{t:TypeId}{cs:List (TV B.S)}:readT P t (erL B.E cs)=(readTT B P t cs).map (TV.er B.E):=by
 unfold readT readTT
 cases aggT P t with
 |none=>rfl
 |some b=>
  cases b with
  |true=>
   simp only
   cases sizeT P t with
   |none=>rfl
   |some n=>
    simp only[erL_map,List.length_map]
    cases h:Nat.ble n cs.length with
    |true=>
     rw[if_pos (Nat.le_of_ble_eq_true h)]
     simp[TV.er,erL_map,List.map_take]
    |false=>
     rw[if_neg (λe=>by rw[Nat.ble_eq_true_of_le e]at h;cases h)]
     rfl
  |false=>cases cs<;>rfl
theorem scalT_ok{S:Nat->Type}{E:(c:Nat)->S c->AV}{x:TV S}(h:scalT x=true):(x.er E).scalar=true:=by
 cases x<;>simp only[scalT]at h<;>first|exact h|rfl|cases h
theorem scalL_ok{S:Nat->Type}{E:(c:Nat)->S c->AV}{l:List (TV S)}(h:l.all scalT=true):(erL E l).all AV.scalar=true:=by
 rw[erL_map,List.all_map]
 rw[List.all_eq_true]at h ⊢
 exactλx hx=>scalT_ok (h x hx)
theorem cells_of{x:TV B.S}(h:(cellsT B x).all scalT=true):(x.er B.E).cells.all AV.scalar=true:=by rw[<-er_cells];exact scalL_ok h
theorem aggV_ok{S:Nat->Type}{E:(c:Nat)->S c->AV}{x:TV S}(hv:x.isV=false)(h:aggV x=true): ∃l,x.er E=.agg l:=by
 cases x<;>simp only[aggV]at h<;>first|(cases h;done)|skip
 ·rename_i y;cases y<;>simp only[AV.isAgg]at h<;>first|(cases h;done)|exact⟨_,rfl⟩
 ·exact⟨_,rfl⟩
theorem aggV_no{S:Nat->Type}{E:(c:Nat)->S c->AV}{x:TV S}(hv:x.isV=false)(h:aggV x=false): ∀l,x.er E≠ .agg l:=by
 intro l e
 cases x<;>simp only[aggV,TV.er]at h e<;>first|(cases h;done)|(cases e;done)|skip
 ·subst e;cases h
 ·cases hv
theorem reElem_ok{e:TV B.S}{cs:List (TV B.S)}:(reElemT B e cs).er B.E=reElem (e.er B.E) (erL B.E cs):=by
 unfold reElemT
 rw[<-er_norm e]
 cases h:aggV (e.norm B)with
 |true=>
  obtain⟨l,hl⟩:=aggV_ok (E:=B.E) (norm_v e) h
  rw[hl];rfl
 |false=>
  have hn:=aggV_no (E:=B.E) (norm_v e) h
  simp only[cond_false]
  generalize(e.norm B).er B.E=u at hn
  cases u<;>first|exact absurd rfl (hn _)|(cases cs<;>rfl)
theorem splice_ok{S:Nat->Type}{E:(c:Nat)->S c->AV}{cs new:List (TV S)}{off:Nat}:erL E (spliceT cs off new)=splice (erL E cs) off (erL E new):=by
 simp only[spliceT,splice,erL_map,List.map_append,List.map_take,List.map_drop,List.length_map]
theorem toper_ok{env:TEnv B.S}{x:Operand}:oper (erE B env) x=(toper env x).map (TV.er B.E):=by
 cases x<;>simp only[oper,toper]
 ·exact get_erE
 ·cases ofValue _<;>rfl
 ·rfl
 ·rfl
theorem topers_ok{env:TEnv B.S}: ∀{l:List Operand},opers (erE B env) l=(topers env l).map (erL B.E)
 | []=>rfl
 |x::r=>by
  simp only[opers,topers,toper_ok,topers_ok (l:=r)]
  cases toper env x with
  |none=>rfl
  |some v=>cases topers env r<;>rfl
def IsV(B:Tab)(tr:TR B.S)(o:Option AV)(s:TSt B.S):Prop:= ∀K,tr.wp K-> ∃v,o=some (v.er B.E)/\K v s
def IsS(B:Tab)(tr:TR B.S)(o:Option (AV×St)):Prop:= ∀K,tr.wp K-> ∃v s',o=some (v.er B.E,erS B s')/\K v s'
variable {P:Program} {s:TSt B.S}
theorem IsV.ofO{o:Option (TV B.S)}{o':Option AV}(h:o'=o.map (TV.er B.E)):IsV B (ofO o s) o' s:=by
 intro K hK
 cases o with
 |none=>exact hK.elim
 |some v=>exact⟨v,h,hK⟩
theorem IsV.toS{tr:TR B.S}{o:Option AV}(h:IsV B tr o s):IsS B tr (ekeep o (erS B s)):=by
 intro K hK
 obtain⟨v,rfl,hk⟩:=h K hK
 exact⟨v,s,rfl,hk⟩
theorem IsV.no{o:Option AV}:IsV B .no o s:=λ_ h=>h.elim
theorem IsS.no{o:Option (AV×St)}:IsS B .no o:=λ_ h=>h.elim
theorem IsV.ok{v:TV B.S}{o:Option AV}(h:o=some (v.er B.E)):IsV B (.ok v s) o s:=λ_ hk=>⟨v,h,hk⟩
theorem IsS.ok{v:TV B.S}{s':TSt B.S}{o:Option (AV×St)}(h:o=some (v.er B.E,erS B s')):IsS B (.ok v s') o:=λ_ hk=>⟨v,s',h,hk⟩
theorem len_erL{S:Nat->Type}{E:(c:Nat)->S c->AV}(l:List (TV S)):(erL E l).length=l.length:=by rw[erL_map,List.length_map]
theorem rowGet{α:Type}{f:α->AV}{x:List α}{w:AV}{r:List AV}:(x.map f++([w]++r))[x.length]? =some w:=by
 rw[List.getElem?_append_right (by simp)];simp
theorem rowSet{α:Type}{f:α->AV}{x:List α}{w y:AV}{r:List AV}:(x.map f++([w]++r)).set x.length y=x.map f++([y]++r):=by
 have e:x.length=(x.map f).length:=by simp
 rw[e,List.set_append];simp
theorem bltT{i n:Nat}(h:i<n):Nat.blt i n=true:=by rw[Nat.blt_eq];exact h
theorem bltE{i n:Nat}(h:Nat.blt i n=true):i<n:=by rw[Nat.blt_eq]at h;exact h
theorem famL_len{c w:Nat}: ∀{l:List (B.S c)}{i:Nat},i+l.length<=famCap->(famL B c w i l).length=l.length
 | [],i,_=>rfl
 |y::r,i,h=>by
  simp only[List.length_cons]at h
  simp only[famL,bltT (show i<famCap by omega),cond_true,List.length_cons,famL_len (l:=r) (i:=i+1) (by omega)]
theorem famP_len{c w:Nat}{cl:Bool}{pre:List (B.S c)}(h:pre.length<=famCap):(bif cl then pre.map (B.E c)else famL B c w 0 pre).length=pre.length:=by
 cases cl
 ·exact famL_len (by omega)
 ·simp
theorem famGet{c w:Nat}{cl:Bool}{pre:List (B.S c)}{x:AV}{r:List AV}(h:pre.length<=famCap):((bif cl then pre.map (B.E c)else famL B c w 0 pre)++([x]++r))[pre.length]? =some x:=by
 rw[List.getElem?_append_right (by rw[famP_len h];exact Nat.le_refl _),famP_len h];simp
theorem famSet{c w:Nat}{cl:Bool}{pre:List (B.S c)}{x y:AV}{r:List AV}(h:pre.length<=famCap):((bif cl then pre.map (B.E c)else famL B c w 0 pre)++([x]++r)).set pre.length y=(bif cl then pre.map (B.E c)else famL B c w 0 pre)++([y]++r):=by
 have e:pre.length=(bif cl then pre.map (B.E c)else famL B c w 0 pre).length:=(famP_len h).symm
 rw[e,List.set_append];simp
theorem tLoad_ok{t:TypeId}{p:TV B.S}:IsV B (tLoad B P t p s) (aLoad P t (p.er B.E) (erS B s)) s:=by
 unfold tLoad
 rw[<-er_norm p]
 generalize p.norm B=q
 split
 ·refine .ofO ?_
  simp only[TV.er,aLoad,cellsAt,readTT_ok]
 ·rename_i p
  split
  ·refine .ofO ?_
   simp only[TV.er,aLoad,cellsAt,<-readTT_ok,erL_a]
  ·rename_i id el off
   simp only[TV.er,aLoad,cellsAt]
   split
   ·rename_i n l hg
    simp only[get_erS hg,Option.map_some,erB,get_erL]
    split
    ·rename_i e he
     refine .ofO ?_
     simp only[he,Option.map_some,<-readTT_ok,erL_map,List.map_drop]
     rw[<-erL_map,er_cells]
    ·exact .no
   ·rename_i n c x _ _ hg
    rintro K ⟨y,hy,hK⟩
    simp only[get_erS hg,Option.map_some,erB,List.getElem?_map,hy]
    refine IsV.ofO (s:=s) ?_ K hK
    simp only[<-readTT_ok,erL_map,List.map_drop]
    rw[<-erL_map,er_cells];rfl
   ·rename_i n c x v m hg
    split
    ·rename_i w
     rintro K ⟨hy,hK⟩
     subst hy
     simp only[get_erS hg,Option.map_some,erB,erL]
     rw[rowGet]
     refine IsV.ofO (s:=s) ?_ K hK
     simp only[<-readTT_ok,erL_map,List.map_drop]
     rw[<-erL_map,er_cells]
    ·exact .no
   ·rename_i n c w cl pre mid post hg
    split
    ·rename_i w
     rintro K ⟨⟨hy,hcap⟩,hK⟩
     subst hy
     simp only[get_erS hg,Option.map_some,erB,erL]
     rw[famGet hcap]
     refine IsV.ofO (s:=s) ?_ K hK
     simp only[<-readTT_ok,erL_map,List.map_drop]
     rw[<-erL_map,er_cells]
    ·exact .no
   ·exact .no
  ·exact .no
 ·exact .no
theorem IsS.dec{c:Nat}{x:TV B.S}{k:B.S c->TR B.S}{o:Option (AV×St)}(h: ∀y,B.E c y=x.er B.E->IsS B (k y) o):IsS B (decT B c x k) o:=by
 unfold decT
 split
 ·rintro K ⟨he,hK⟩;exact h _ he K hK
 ·exact .no
theorem IsS.need{p:Prop}{k:TR B.S}{o:Option (AV×St)}(h:p->IsS B k o):IsS B (.need p k) o:=λK hK=>h hK.1 K hK.2
theorem IsV.need{p:Prop}{k:TR B.S}{o:Option AV}(h:p->IsV B k o s):IsV B (.need p k) o s:=λK hK=>h hK.1 K hK.2
theorem IsS.need1{b:Bool}{p:Prop}{k:TR B.S}{o:Option (AV×St)}(hb:b=true->p)(h:p->IsS B k o):IsS B (need1 b p k) o:=by
 unfold Go.Am.need1
 cases b with
 |true=>exact h (hb rfl)
 |false=>exact .need h
theorem IsV.need1{b:Bool}{p:Prop}{k:TR B.S}{o:Option AV}(hb:b=true->p)(h:p->IsV B k o s):IsV B (need1 b p k) o s:=by
 unfold Go.Am.need1
 cases b with
 |true=>exact h (hb rfl)
 |false=>exact .need h
theorem IsS.nonneg{st:Bool}{n:Int}{k:TR B.S}{o:Option (AV×St)}(h:0<=n->IsS B k o):IsS B (nonneg st n k) o:=by
 unfold Go.Am.nonneg
 cases st with
 |true=>
  cases n with
  |ofNat m=>exact h (Int.natCast_nonneg m)
  |negSucc m=>exact .no
 |false=>exact .need h
theorem IsV.nonneg{st:Bool}{n:Int}{k:TR B.S}{o:Option AV}(h:0<=n->IsV B k o s):IsV B (nonneg st n k) o s:=by
 unfold Go.Am.nonneg
 cases st with
 |true=>
  cases n with
  |ofNat m=>exact h (Int.natCast_nonneg m)
  |negSucc m=>exact .no
 |false=>exact .need h
theorem IsS.eqN{m n:Nat}{k:TR B.S}{o:Option (AV×St)}(h:m=n->IsS B k o):IsS B (eqN m n k) o:=by
 rintro K ⟨he,hK⟩;cases he;exact h rfl K hK
theorem IsV.eqN{m n:Nat}{k:TR B.S}{o:Option AV}(h:m=n->IsV B k o s):IsV B (eqN m n k) o s:=by
 rintro K ⟨he,hK⟩;cases he;exact h rfl K hK
theorem IsS.decL{c:Nat}{o:Option (AV×St)}: ∀{l:List (TV B.S)}{k:List (B.S c)->TR B.S},(∀ys,ys.map (B.E c)=erL B.E l->ys.length=l.length->IsS B (k ys) o)->IsS B (decL B c l k) o
 | [],k,h=>h [] rfl rfl
 |x::r,k,h=>by
  unfold Go.Am.decL
  exact IsS.dec λy hy=>IsS.decL λys hys hl=>h _ (by simp[erL,hy,hys]) (by simp[hl])
theorem IsV.decL{c:Nat}{o:Option AV}: ∀{l:List (TV B.S)}{k:List (B.S c)->TR B.S},(∀ys,ys.map (B.E c)=erL B.E l->ys.length=l.length->IsV B (k ys) o s)->IsV B (decL B c l k) o s
 | [],k,h=>h [] rfl rfl
 |x::r,k,h=>by
  unfold Go.Am.decL decT
  split
  ·rintro K ⟨he,hK⟩
   exact IsV.decL (λys hys hl=>h _ (by simp[erL,he,hys]) (by simp[hl])) K hK
  ·exact .no
theorem IsS.bif{c:Bool}{k:TR B.S}{o:Option (AV×St)}(h:c=true->IsS B k o):IsS B (bif c then k else .no) o:=by
 cases c with
 |true=>exact h rfl
 |false=>exact .no
theorem IsV.bif{c:Bool}{k:TR B.S}{o:Option AV}(h:c=true->IsV B k o s):IsV B (bif c then k else .no) o s:=by
 cases c with
 |true=>exact h rfl
 |false=>exact .no
theorem IsS.el{c:Nat}{l:List (B.S c)}{i:Nat}{k:B.S c->TR B.S}{o:Option (AV×St)}(h: ∀y,l[i]? =some y->IsS B (k y) o):IsS B (.el c l i k) o:=by
 rintro K ⟨y,hy,hK⟩;exact h y hy K hK
theorem IsV.ix{c:Nat}{l:List (B.S c)}{i:Int}{k:B.S c->TR B.S}{o:Option AV}(h: ∀y,Go.Am.ix l i=some y->IsV B (k y) o s):IsV B (.ix c l i k) o s:=by
 rintro K ⟨y,hy,hK⟩;exact h y hy K hK
theorem set_erL{S:Nat->Type}{E:(c:Nat)->S c->AV}{l:List (TV S)}{i:Nat}{x:TV S}:erL E (l.set i x)=(erL E l).set i (x.er E):=by rw[erL_map,erL_map,List.map_set]
theorem tStore_ok{t:TypeId}{p v:TV B.S}:IsS B (tStore B P t p v s) (match aStore P t (p.er B.E) (v.er B.E) (erS B s)with
  |some s'=>some (.any,s')
  |none=>none):=by
 unfold tStore
 rw[<-er_norm p]
 generalize p.norm B=q
 split
 case h_2=>exact .no
 rename_i id el off
 simp only[TV.er,aStore]
 split
 ·rename_i esz l hg
  simp only[get_erS hg,Option.map_some,erB,get_erL]
  split
  ·rename_i e he
   simp only[he,Option.map_some]
   refine .bif λhc=>.ok ?_
   simp only[Bool.and_eq_true,eqLen_iff,Nat.ble_eq]at hc
   obtain⟨⟨h1,h2⟩,h3⟩:=hc
   rw[len_cells]at h1 h2
   rw[len_cells]at h2
   rw[if_pos ⟨h1,h2,cells_of h3⟩]
   rw[set_erS hg rfl rfl]
   simp only[TV.er,erB,set_erL,reElem_ok,splice_ok,er_cells];rfl
  ·exact .no
 ·rename_i esz c x m hm hg
  refine .el λy hy=>.bif λhc=>.dec λy' hy'=>?_
  simp only[get_erS hg,Option.map_some,erB,List.getElem?_map,hy]
  simp only[Bool.and_eq_true,eqLen_iff,Nat.ble_eq]at hc
  obtain⟨⟨h1,h2⟩,h3⟩:=hc
  rw[len_cells]at h1 h2
  rw[len_cells]at h2
  refine .ok ?_
  have h2:off+(v.er B.E).cells.length<=(B.E c y).cells.length:=h2
  rw[if_pos ⟨h1,h2,cells_of h3⟩]
  rw[set_erS hg rfl rfl]
  simp only[TV.er,erB,List.map_set,hy',reElem_ok,splice_ok,er_cells];rfl
 ·rename_i esz c x w m hg
  split
  ·rename_i e
   refine .need λhl=>.bif λhc=>.ok ?_
   subst hl
   simp only[get_erS hg,Option.map_some,erB,erL]
   rw[rowGet]
   simp only[Bool.and_eq_true,eqLen_iff,Nat.ble_eq]at hc
   obtain⟨⟨h1,h2⟩,h3⟩:=hc
   rw[len_cells]at h1 h2
   rw[len_cells]at h2
   simp only
   rw[if_pos ⟨h1,h2,cells_of h3⟩]
   rw[set_erS hg rfl rfl]
   simp only[TV.er,erB,erL,rowSet,reElem_ok,splice_ok,er_cells];rfl
  ·exact .no
 ·rename_i esz c w cl pre mid post hg
  split
  ·rename_i e
   refine .need λhl=>.bif λhc=>.ok ?_
   obtain⟨hl,hcap⟩:=hl
   subst hl
   simp only[get_erS hg,Option.map_some,erB,erL]
   rw[famGet hcap]
   simp only[Bool.and_eq_true,eqLen_iff,Nat.ble_eq]at hc
   obtain⟨⟨h1,h2⟩,h3⟩:=hc
   rw[len_cells]at h1 h2
   rw[len_cells]at h2
   simp only
   rw[if_pos ⟨h1,h2,cells_of h3⟩]
   rw[set_erS hg rfl rfl]
   simp only[TV.er,erB,erL,List.length_singleton,famSet hcap,reElem_ok,splice_ok,er_cells];rfl
  ·exact .no
 ·exact .no
theorem tNew_ok{v:TV B.S}:IsS B (tNew B v s) (aNew (v.er B.E) (erS B s)):=by
 unfold tNew aNew
 refine .bif λhc=>.ok ?_
 simp only[Bool.and_eq_true,Nat.blt_eq]at hc
 obtain⟨h1,h2⟩:=hc
 rw[len_cells]at h1
 rw[if_pos ⟨h1,cells_of h2⟩]
 rw[erS_new rfl]
 simp only[TV.er,erB,erL,len_cells];rfl
theorem tField_ok{t:TypeId}{p:TV B.S}{i:Nat}:aField P t (p.er B.E) i=(tField B P t p i).map (TV.er B.E)\/tField B P t p i=none:=by
 unfold aField tField
 rw[<-er_norm p]
 generalize p.norm B=q
 cases fieldT P t i with
 |none=>exact .inr rfl
 |some r=>
  obtain⟨off,n⟩:=r
  simp only
  cases hn:Nat.beq n 0 with
  |true=>exact .inr rfl
  |false=>
   have:n≠0:=λe=>by subst e;cases hn
   rw[if_neg this]
   simp only[cond_false]
   cases q<;>first|exact .inr rfl|skip
   case a x=>cases x<;>first|exact .inr rfl|exact .inl rfl
   case ip cs=>
    refine .inl ?_
    simp only[TV.er,Option.map_some,erL_map,List.map_drop]
theorem IsV.ofO'{o:Option (TV B.S)}{o':Option AV}(h:o'=o.map (TV.er B.E)\/o=none):IsV B (Go.Am.ofO o s) o' s:=by
 rcases h with h|h
 ·exact .ofO h
 ·subst h;exact .no
theorem tFieldV_ok{t:TypeId}{x:TV B.S}{i:Nat}:aFieldV P t (x.er B.E) i=(tFieldV B P t x i).map (TV.er B.E)\/tFieldV B P t x i=none:=by
 unfold aFieldV tFieldV
 cases fieldT P t i with
 |none=>exact .inr rfl
 |some r=>
  obtain⟨off,n⟩:=r
  simp only
  cases ftypeT P t i with
  |none=>exact .inr rfl
  |some ft=>
   simp only
   cases h:aggV (x.norm B)with
   |false=>exact .inr rfl
   |true=>
    refine .inl ?_
    simp only[cond_true]
    obtain⟨l,hl⟩:=aggV_ok (E:=B.E) (norm_v x) h
    rw[er_norm]at hl
    have hc:=er_cells x
    rw[hl]at hc
    simp only[hl,aPart,<-readTT_ok,erL_map,List.map_drop]
    rw[<-erL_map,hc];rfl
theorem asI_ok{x:TV B.S}{st:Bool}{k:IntKind}{n:Int}(h:asI B x=some (st,k,n)):x.er B.E=.int k n:=by
 unfold asI at h
 rw[<-er_norm x]
 split at h
 ·rename_i hq;cases h;rw[hq];rfl
 ·rename_i hq;cases h;rw[hq];rfl
 ·cases h
theorem asB_ok{x:TV B.S}{st b:Bool}(h:asB B x=some (st,b)):x.er B.E=.bool b:=by
 unfold asB at h
 rw[<-er_norm x]
 split at h
 ·rename_i hq;cases h;rw[hq];rfl
 ·rename_i hq;cases h;rw[hq];rfl
 ·cases h
theorem mkI_er{st:Bool}{k:IntKind}{n:Int}:(mkI st k n:TV B.S).er B.E=.int k n:=by cases st<;>rfl
theorem mkB_er{st b:Bool}:(mkB st b:TV B.S).er B.E=.bool b:=by cases st<;>rfl
theorem tIdxL_ok{e c:Nat}{f:Bool}{xs:List (B.S c)}{n:Int}{t:TypeId}{k:IntKind}(he:elemT P t=some e):IsV B (tIdxL B P e c xs n s) (aIndexAddr P t (.sl f (xs.map (B.E c))) (.int k n) (erS B s)) s:=by
 unfold tIdxL
 refine .bif λhc=>.ix λy hy=>.ok ?_
 obtain⟨h0,hy⟩:=ixE hy
 simp only[aIndexAddr,he,List.getElem?_map,hy,Option.map_some]
 rw[if_pos h0,if_pos (by rw[eqLen_iff.1 hc,B.hw])]
 simp only[TV.er,er_cells]
theorem tIdxA_ok{t:TypeId}{x i:TV B.S}:IsV B (tIdxA B P t x i s) (aIndexAddr P t (x.er B.E) (i.er B.E) (erS B s)) s:=by
 unfold tIdxA
 split
 case h_2=>exact .no
 rename_i st k n hi
 rw[asI_ok hi,<-er_norm x]
 generalize x.norm B=q
 split
 ·rename_i e he
  split
  ·exact tIdxL_ok he
  ·rename_i f cs
   cases st with
   |true=>
    simp only[cond_true]
    split
    ·rename_i m
     split
     ·rename_i y hy
      refine .bif λhc=>.ok ?_
      have h0:(0:Int)<=Int.ofNat m:=Int.natCast_nonneg m
      simp only[aIndexAddr,TV.er,he,get_erL]
      rw[if_pos h0]
      have:(Int.ofNat m).toNat=m:=rfl
      rw[this,hy]
      simp only[Option.map_some]
      rw[if_pos (by rw[eqLen_iff.1 hc,len_cells]),er_cells]
     ·exact .no
    ·exact .no
   |false=>
    simp only[cond_false]
    split
    ·rename_i c hc
     refine .decL λys hys _=>?_
     rw[TV.er,<-hys]
     exact tIdxL_ok he
    ·exact .no
  ·rename_i id start len
   simp only[aIndexAddr,TV.er,he]
   split
   ·rename_i esz c xs m hm hg
    refine .bif λhc=>.eqN λhl=>.ix λy hy=>.ok ?_
    obtain⟨h0,hy⟩:=ixE hy
    simp only[Bool.and_eq_true,eqLen_iff]at hc
    have hs:=Nat.eq_of_beq_eq_true hc.1
    subst hs;subst hl;subst hm
    have hlt:n.toNat<xs.length:=(List.getElem?_eq_some_iff.1 hy).1
    simp only[get_erS hg,Option.map_some,erB]
    rw[if_pos ⟨h0,by omega,hc.2⟩,Nat.zero_add]
    rfl
   ·rename_i esz l hg
    refine .bif λhc=>?_
    simp only[Bool.and_eq_true,eqLen_iff]at hc
    split
    ·rename_i m
     refine .bif λhm=>.ok ?_
     simp only[get_erS hg,Option.map_some,erB]
     have h0:(0:Int)<=Int.ofNat m:=Int.natCast_nonneg m
     simp only[Nat.blt_eq]at hm
     have h1:Int.ofNat m<(len:Int):=Int.ofNat_lt.2 hm
     rw[if_pos ⟨h0,h1,hc.2⟩]
     rfl
    ·exact .no
   ·rename_i esz c x v m hg
    refine .bif λhc=>.need λhl=>.ok ?_
    simp only[Bool.and_eq_true,eqLen_iff]at hc
    have hs:=Nat.eq_of_beq_eq_true hc.1
    subst hs
    simp only[get_erS hg,Option.map_some,erB]
    rw[if_pos ⟨hl.1,hl.2,hc.2⟩,Nat.zero_add]
    rfl
   ·rename_i esz c w cl pre mid post hg
    refine .bif λhc=>.need λhl=>.ok ?_
    simp only[Bool.and_eq_true,eqLen_iff]at hc
    have hs:=Nat.eq_of_beq_eq_true hc.1
    subst hs
    simp only[get_erS hg,Option.map_some,erB]
    rw[if_pos ⟨hl.1,hl.2,hc.2⟩,Nat.zero_add]
    rfl
   ·exact .no
  ·exact .no
 ·rename_i he
  split
  ·rename_i m e ha
   split
   ·rename_i sz hsz
    refine .bif λhst=>?_
    split
    ·rename_i j
     refine .bif λhm=>?_
     simp only[Nat.blt_eq]at hm
     have h0:(0:Int)<=Int.ofNat j:=Int.natCast_nonneg j
     have h1:Int.ofNat j<(m:Int):=Int.ofNat_lt.2 hm
     have ht:(Int.ofNat j).toNat=j:=rfl
     split
     ·refine .ok ?_
      simp only[aIndexAddr,TV.er,he,ha,hsz]
      rw[if_pos ⟨h0,h1⟩,ht]
     ·refine .ok ?_
      simp only[aIndexAddr,TV.er,he,ha,hsz]
      rw[if_pos ⟨h0,h1⟩,ht]
     ·refine .ok ?_
      simp only[aIndexAddr,TV.er,he,ha,hsz]
      rw[if_pos ⟨h0,h1⟩,ht]
      simp only[erL_map,List.map_drop]
     ·exact .no
    ·exact .no
   ·exact .no
  ·exact .no
theorem tIndex_ok{t:TypeId}{x i:TV B.S}:IsV B (tIndex B P t x i s) (aIndex P t (x.er B.E) (i.er B.E)) s:=by
 unfold tIndex
 split
 case h_2=>exact .no
 rename_i st k n hi
 rw[asI_ok hi]
 refine .bif λhc=>?_
 simp only[Bool.and_eq_true]at hc
 obtain⟨l,hl⟩:=aggV_ok (E:=B.E) (norm_v x) hc.2
 rw[er_norm]at hl
 have hcs:=er_cells x
 rw[hl]at hcs ⊢
 split
 ·rename_i m e ha
  split
  ·rename_i sz hsz
   split
   ·rename_i j
    refine .bif λhm=>.ofO ?_
    simp only[Nat.blt_eq]at hm
    have h0:(0:Int)<=Int.ofNat j:=Int.natCast_nonneg j
    have h1:Int.ofNat j<(m:Int):=Int.ofNat_lt.2 hm
    have ht:(Int.ofNat j).toNat=j:=rfl
    simp only[aIndex,ha,hsz]
    rw[if_pos ⟨h0,h1⟩,ht,<-readTT_ok,erL_map,List.map_drop,<-erL_map,hcs]
    rfl
   ·exact .no
  ·exact .no
 ·exact .no
theorem tLen_ok{t:TypeId}{x:TV B.S}:IsV B (tLen B P t x s) (aLen P t (x.er B.E)) s:=by
 unfold tLen
 rw[<-er_norm x]
 generalize x.norm B=q
 split
 ·refine .bif λhc=>.ok ?_
  simp only[TV.er,aLen,List.length_map];rw[if_pos hc]
 ·refine .bif λhc=>.ok ?_
  simp only[TV.er,aLen,len_erL];rw[if_pos hc]
 ·refine .bif λhc=>.ok ?_
  simp only[TV.er,aLen];rw[if_pos hc]
 ·refine .bif λhc=>.ok ?_
  simp only[TV.er,aLen];rw[if_pos hc]
 ·refine .bif λhc=>.ok ?_
  simp only[TV.er,aLen];rw[if_pos hc]
 ·split
  ·rename_i hq;exact .ok hq
  ·exact .no
 ·exact .no
theorem tBound_ok{env:TEnv B.S}{x:Option Operand}{d:Nat}{k:Nat->TR B.S}{o:Option AV}(h: ∀n,aBound (erE B env) x d=some n->(x=none->n=d)->(lowZ B env x=true->d=0->n=0)->IsV B (k n) o s):IsV B (tBound B env x d k) o s:=by
 unfold tBound
 split
 ·exact h d rfl (λ_=>rfl) (λ_ e=>e)
 ·rename_i y
  split
  ·rename_i v hv
   split
   ·rename_i st kk n hn
    refine .nonneg λh0=>h _ ?_ (λe=>by cases e) ?_
    ·simp only[aBound,toper_ok,hv,Option.map_some,asI_ok hn]
     rw[if_pos h0]
    ·intro hz _
     simp only[lowZ,hv]at hz
     split at hz
     ·rename_i hq
      cases hq
      simp only[asI,TV.norm]at hn
      cases hn
      rfl
     ·cases hz
   ·exact .no
  ·exact .no
theorem fits_map{e c:Nat}{xs:List (B.S c)}(h:eqLen (sizeT P e) (B.W c)=true):fits P e (xs.map (B.E c)):=by
 intro y hy
 cases xs with
 |nil=>simp at hy
 |cons x r=>
  simp at hy;subst hy
  rw[eqLen_iff.1 h,B.hw]
theorem tSliceM_ok{t e:TypeId}{w:Bool}{id start len:Nat}{env:TEnv B.S}{lo hi:Option Operand}(he:elemT P t=some e)(hw:w=true->start=0):IsV B (tSliceM B P e w id start len env lo hi s) (aSlice P t (.ms id start len) (erE B env) lo hi none (erS B s)) s:=by
 unfold tSliceM
 refine .bif λhc=>?_
 have key: ∃esz elems,eget (erS B s).heap id=some (.cells esz elems)/\sizeT P e=some esz:=by
  split at hc
  ·rename_i hg;exact⟨_,_,by rw[get_erS hg];rfl,eqLen_iff.1 hc⟩
  ·rename_i hg;exact⟨_,_,by rw[get_erS hg];rfl,eqLen_iff.1 hc⟩
  ·cases hc
 obtain⟨esz,elems,hg,hs⟩:=key
 refine tBound_ok λl hl h0 hz=>tBound_ok λh hh h1 _=>.need1 (λhb=>by rw[hz hb rfl];exact Nat.zero_le _) λhlh=>.need1 (λhb=>?_) λhle=>.ok ?_
 ·cases hi with
  |none=>rw[h1 rfl];exact Nat.le_refl _
  |some _=>cases hb
 ·simp only[aSlice,he,hg,hl,hh]
  rw[if_pos ⟨hlh,hle,hs⟩]
  simp only[TV.er]
  have e1:(bif w then l else start+l)=start+l:=by
   cases w with
   |true=>rw[hw rfl];simp
   |false=>rfl
  have e2:(bif lowZ B env lo then h else h-l)=h-l:=by
   cases hq:lowZ B env lo with
   |true=>rw[hz hq rfl];simp
   |false=>rfl
  rw[e1,e2]
theorem tSlice_ok{t:TypeId}{x:TV B.S}{env:TEnv B.S}{lo hi mx:Option Operand}:IsV B (tSlice B P t x env lo hi mx s) (aSlice P t (x.er B.E) (erE B env) lo hi mx (erS B s)) s:=by
 unfold tSlice
 rw[<-er_norm x]
 generalize x.norm B=q
 split
 ·exact .no
 split
 case h_2=>exact .no
 rename_i e he
 split
 ·rename_i f c xs
  refine .bif λhc=>tBound_ok λl hl h0 hz=>tBound_ok λh hh h1 _=>.need1 (λhb=>by rw[hz hb rfl];exact Nat.zero_le _) λhlh=>.need1 (λhb=>?_) λhle=>.ok ?_
  ·cases hi with
   |none=>rw[h1 rfl];exact Nat.le_refl _
   |some _=>cases hb
  ·simp only[aSlice,TV.er,he,hl,List.length_map,hh]
   rw[if_pos ⟨hlh,hle,fits_map hc,by rw[eqLen_iff.1 hc];rfl⟩]
   simp only[List.map_drop,List.map_take]
   cases f<;>simp
   cases hq:Nat.beq h xs.length with
   |true=>exact decide_eq_true (Nat.eq_of_beq_eq_true hq)
   |false=>exact decide_eq_false (λe=>by rw[e,Nat.beq_refl]at hq;cases hq)
 ·rename_i id start len
  exact tSliceM_ok he λhw=>Nat.eq_of_beq_eq_true hw
 ·exact tSliceM_ok he λhw=>by cases hw
 ·exact .no
theorem appOk_ok{e sz:Nat}(h:appOk P e=some sz): ∃b,sizeT P e=some sz/\bytesT P e=some b/\0<sz/\b<=4096/\zeroOk P e sz=true:=by
 unfold appOk at h
 split at h
 ·rename_i n b h1 h2
  cases hc:Nat.blt 0 n&&Nat.ble b 4096&&zeroOk P e n with
  |false=>simp[hc]at h
  |true=>
   simp only[hc,cond_true]at h
   cases h
   simp only[Bool.and_eq_true,Nat.blt_eq,Nat.ble_eq]at hc
   exact⟨b,h1,h2,hc.1.1,hc.1.2,hc.2⟩
 ·cases h
theorem mNew_ok{n:Nat}{b:TB B.S}{h:List (Nat×TB B.S)}{c:Nat}{o:Option (AV×St)}(hb:isFr b=false)(ho:o=some (.ms c 0 n,⟨(c,erB B b)::(erS B ⟨h,c⟩).heap,c+1⟩)):IsS B (mNew n b h c) o:=.ok (by rw[erS_new hb];exact ho)
theorem tApp1_ok{t e sz:Nat}{x:TV B.S}{cs:List (TV B.S)}(he:elemT P t=some e)(ha:appOk P e=some sz)(hne:cs≠[]):IsS B (tApp1 B P e sz x cs s) (aAppend P t (x.er B.E) (erL B.E cs) (erS B s)):=by
 obtain⟨b,h1,h2,h3,h4,h5⟩:=appOk_ok ha
 have hne':erL B.E cs≠[]:=λe=>hne (by rw[erL_map]at e;exact List.map_eq_nil_iff.1 e)
 have top: ∀x,aAppend P t x (erL B.E cs) (erS B s)=match x with
    |.sl full elems=>if full=true/\elems.length+cs.length<=maxElems/\fits P e elems then
      some (.ms s.cnt 0 (elems.length+cs.length),⟨(s.cnt,.cells sz (elems++erL B.E cs))::(erS B s).heap,s.cnt+1⟩)else none
    |.ms id start len=>match eget (erS B s).heap id with
     |some (.cells esz elems)=>if esz=sz/\start+len<=elems.length/\len+cs.length<=maxElems then
       some (.ms s.cnt 0 (len+cs.length),⟨(s.cnt,.cells sz ((elems.drop start).take len++erL B.E cs))::edel (erS B s).heap id,s.cnt+1⟩)else none
     |_=>none
    |.mc id start len cap=>aAppend P t (.mc id start len cap) (erL B.E cs) (erS B s)
    |_=>none:=by
  intro x
  cases x<;>simp only[aAppend,he,h1,h2]<;>first|rw[if_pos ⟨h3,h4,h5⟩]|skip
  ·rw[if_neg hne',len_erL];rfl
  ·rw[if_neg hne',len_erL];rfl
 unfold tApp1
 rw[top,<-er_norm x]
 generalize x.norm B=q
 split
 ·refine .bif λhc=>?_
  have hc:=Nat.le_of_ble_eq_true hc
  simp only[TV.er]
  rw[if_pos ⟨trivial,by simpa using hc,λy hy=>by simp at hy⟩]
  split
  ·rename_i c hcc
   refine .decL λys hys hl=>mNew_ok rfl ?_
   simp[erB,hys]
  ·refine mNew_ok rfl ?_
   simp[erB]
 ·rename_i c xs
  refine .bif λhc=>.decL λys hys hl=>.need λhm=>mNew_ok rfl ?_
  simp only[TV.er,List.length_map]
  rw[if_pos ⟨trivial,hm,fits_map hc⟩]
  simp[erB,hys,hl]
 ·rename_i id start n
  simp only[TV.er]
  split
  ·rename_i esz c xs m hm hg
   refine .bif λhc=>.decL λys hys hl=>.eqN λhn=>.need λhm=>mNew_ok rfl ?_
   simp only[Bool.and_eq_true]at hc
   have e1:=Nat.eq_of_beq_eq_true hc.1.1
   have e2:=Nat.eq_of_beq_eq_true hc.1.2
   subst e1;subst e2;subst hn;subst hm
   simp only[get_erS hg,Option.map_some,erB,List.length_map]
   rw[if_pos ⟨trivial,by omega,hm⟩]
   rw[del_erS hc.2]
   simp[hys,hl,List.take_of_length_le]
  ·rename_i esz l hg
   refine .bif λhc=>.eqN λhn=>mNew_ok rfl ?_
   simp only[Bool.and_eq_true,Nat.ble_eq]at hc
   have e1:=Nat.eq_of_beq_eq_true hc.1.1.1
   have e2:=Nat.eq_of_beq_eq_true hc.1.1.2
   subst e1;subst e2;subst hn
   simp only[get_erS hg,Option.map_some,erB,len_erL]
   rw[if_pos ⟨trivial,by omega,hc.1.2⟩]
   rw[del_erS hc.2]
   simp[erL_map,List.take_of_length_le]
  ·rename_i esz c w cl pre mid post hg
   split
   ·split
    ·refine .bif λhc=>.eqN λhn=>.need λhm=>mNew_ok rfl ?_
     simp only[Bool.and_eq_true,Nat.ble_eq]at hc
     have e1:=Nat.eq_of_beq_eq_true hc.1.1.1
     have e2:=Nat.eq_of_beq_eq_true hc.1.1.2
     subst e1;subst e2;subst hn
     simp only[get_erS hg,Option.map_some,erB,erL,famL,List.append_nil,List.length_nil]
     have hp:pre.length<=famCap:=by omega
     rw[if_pos ⟨trivial,by rw[famP_len hp];omega,by have:=hc.2;unfold famCap at hm this;unfold maxElems;omega⟩]
     rw[del_erS hc.1.2,List.drop_zero,List.take_of_length_le (by rw[famP_len hp];exact Nat.le_refl _)]
    ·exact .no
   ·exact .no
  ·exact .no
 ·rename_i id start n
  simp only[TV.er]
  split
  ·rename_i esz c xs _ _ hg
   refine .bif λhc=>.decL λys hys hl=>.need λhn=>.need λhm=>mNew_ok rfl ?_
   simp only[Bool.and_eq_true]at hc
   have e1:=Nat.eq_of_beq_eq_true hc.1
   subst e1
   simp only[get_erS hg,Option.map_some,erB,List.length_map]
   rw[if_pos ⟨trivial,hn,hm⟩]
   rw[del_erS hc.2]
   simp[hys,hl,List.map_take,List.map_drop]
   omega
  ·exact .no
 ·exact .no
theorem castL_ok{c d:Nat}{x:List (B.S c)}{y:List (B.S d)}(h:castL c d x=some y):y.map (B.E d)=x.map (B.E c)/\y.length=x.length:=by
 unfold castL at h
 split at h
 ·rename_i e;subst e;cases h;exact⟨rfl,rfl⟩
 ·cases h
theorem keepX_ok{t e sz:Nat}{x:TV B.S}(he:elemT P t=some e)(ha:appOk P e=some sz):IsS B (keepX B x s) (aAppend P t (x.er B.E) [] (erS B s)):=by
 obtain⟨b,h1,h2,h3,h4,h5⟩:=appOk_ok ha
 unfold keepX
 rw[<-er_norm x]
 generalize hq:x.norm B=q
 have key: ∀{y:AV},q.er B.E=y->(∃f l,y=.sl f l)\/(∃i a n,y=.ms i a n)->IsS B (.ok x s) (aAppend P t y [] (erS B s)):=by
  intro y hy hs
  refine .ok ?_
  rw[<-er_norm x,hq,hy]
  rcases hs with⟨f,l,rfl⟩|⟨i,a,n,rfl⟩<;>simp only[aAppend,he,h1,h2,if_true]<;>rw[if_pos ⟨h3,h4,h5⟩]
 split
 ·exact key rfl (.inl ⟨_,_,rfl⟩)
 ·exact key rfl (.inr ⟨_,_,_,rfl⟩)
 ·exact key rfl (.inl ⟨_,_,rfl⟩)
 ·exact key rfl (.inl ⟨_,_,rfl⟩)
 ·exact key rfl (.inr ⟨_,_,_,rfl⟩)
 ·exact .no
theorem tApp2_ok{t e sz:Nat}{x:TV B.S}{c:Nat}{ys:List (B.S c)}(he:elemT P t=some e)(ha:appOk P e=some sz):IsS B (tApp2 B P e sz x c ys s) (aAppend P t (x.er B.E) (ys.map (B.E c)) (erS B s)):=by
 obtain⟨b,h1,h2,h3,h4,h5⟩:=appOk_ok ha
 intro K hK
 unfold tApp2 TR.wp at hK
 cases hem:ys.isEmpty with
 |true=>
  rw[hem]at hK
  simp only[cond_true]at hK
  have hn:ys=[]:=by simpa using hem
  subst hn
  exact keepX_ok he ha K hK
 |false=>
  rw[hem]at hK
  simp only[cond_false]at hK
  have hne:ys≠[]:=by intro e;subst e;cases hem
  have hne':ys.map (B.E c)≠[]:=λe=>hne (List.map_eq_nil_iff.1 e)
  have top: ∀x,aAppend P t x (ys.map (B.E c)) (erS B s)=match x with
     |.sl full elems=>if full=true/\elems.length+ys.length<=maxElems/\fits P e elems then
       some (.ms s.cnt 0 (elems.length+ys.length),⟨(s.cnt,.cells sz (elems++ys.map (B.E c)))::(erS B s).heap,s.cnt+1⟩)else none
     |.ms id start len=>match eget (erS B s).heap id with
      |some (.cells esz elems)=>if esz=sz/\start+len<=elems.length/\len+ys.length<=maxElems then
        some (.ms s.cnt 0 (len+ys.length),⟨(s.cnt,.cells sz ((elems.drop start).take len++ys.map (B.E c)))::edel (erS B s).heap id,s.cnt+1⟩)else none
      |_=>none
     |.mc id start len cap=>aAppend P t (.mc id start len cap) (ys.map (B.E c)) (erS B s)
     |_=>none:=by
   intro x
   cases x<;>simp only[aAppend,he,h1,h2]<;>first|rw[if_pos ⟨h3,h4,h5⟩]|skip
   ·rw[if_neg hne',List.length_map];rfl
   ·rw[if_neg hne',List.length_map];rfl
  rw[top,<-er_norm x]
  generalize x.norm B=q at hK
  have done: ∀{tr:TR B.S}{o:Option (AV×St)},IsS B tr o->tr.wp K-> ∃v s',o=some (v.er B.E,erS B s')/\K v s':=λh hk=>h K hk
  refine done ?_ hK
  split
  ·refine .need λhm=>mNew_ok rfl ?_
   simp only[TV.er]
   rw[if_pos ⟨trivial,by simpa using hm,λy hy=>by simp at hy⟩]
   simp[erB]
  ·rename_i d xs
   refine .bif λhc=>?_
   split
   ·rename_i zs hz
    obtain⟨z1,z2⟩:=castL_ok hz
    refine .need λhm=>mNew_ok rfl ?_
    simp only[TV.er,List.length_map]
    rw[if_pos ⟨trivial,by omega,fits_map hc⟩]
    simp[erB,z1,z2]
   ·exact .no
  ·rename_i id start n
   simp only[TV.er]
   split
   ·rename_i esz d xs m hm' hg
    refine .bif λhc=>?_
    split
    ·rename_i zs hz
     obtain⟨z1,z2⟩:=castL_ok hz
     refine .eqN λhn=>.need λhm=>mNew_ok rfl ?_
     simp only[Bool.and_eq_true]at hc
     have e1:=Nat.eq_of_beq_eq_true hc.1.1
     have e2:=Nat.eq_of_beq_eq_true hc.1.2
     subst e1;subst e2;subst hn;subst hm'
     simp only[get_erS hg,Option.map_some,erB,List.length_map]
     rw[if_pos ⟨trivial,by omega,by omega⟩]
     rw[del_erS hc.2]
     simp[z1,z2,List.take_of_length_le]
    ·exact .no
   ·exact .no
  ·rename_i id start n
   simp only[TV.er]
   split
   ·rename_i esz d xs _ _ hg
    refine .bif λhc=>?_
    split
    ·rename_i zs hz
     obtain⟨z1,z2⟩:=castL_ok hz
     refine .need λhn=>.need λhm=>mNew_ok rfl ?_
     simp only[Bool.and_eq_true]at hc
     have e1:=Nat.eq_of_beq_eq_true hc.1
     subst e1
     simp only[get_erS hg,Option.map_some,erB,List.length_map]
     rw[if_pos ⟨trivial,hn,by omega⟩]
     rw[del_erS hc.2]
     simp[z1,z2,List.map_take,List.map_drop]
     omega
    ·exact .no
   ·exact .no
  ·exact .no
theorem tElems_ok{e:TypeId}{y:TV B.S}{k1:List (TV B.S)->TR B.S}{k2:(c:Nat)->List (B.S c)->TR B.S}{o:Option (AV×St)}{O:List AV->Option (AV×St)}
  (ho: ∀l,elemsOf (y.er B.E) (erS B s)=some l->fitsV P e (y.er B.E) (erS B s)->o=O l)
  (h1: ∀cs,IsS B (k1 cs) (O (erL B.E cs))) (h2: ∀c ys,IsS B (k2 c ys) (O (ys.map (B.E c)))):IsS B (tElems B P e y s k1 k2) o:=by
 unfold tElems
 rw[<-er_norm y]at ho
 generalize y.norm B=q at ho
 split
 ·rename_i f cs
  refine .bif λhc=>?_
  rw[ho _ rfl ?_]
  ·exact h1 cs
  ·intro z hz
   cases cs with
   |nil=>simp[erL]at hz
   |cons x r=>
    simp[erL]at hz;subst hz
    rw[eqLen_iff.1 hc,len_cells]
 ·rw[ho _ rfl (λz hz=>by simp at hz)];exact h1 []
 ·rename_i f c ys
  refine .bif λhc=>?_
  rw[ho _ rfl (fits_map hc)];exact h2 c ys
 ·rename_i id start n
  simp only[TV.er,elemsOf,fitsV]at ho
  split
  ·rename_i esz c xs m hm hg
   refine .bif λhc=>.eqN λhn=>?_
   simp only[Bool.and_eq_true,eqLen_iff]at hc
   have e1:=Nat.eq_of_beq_eq_true hc.2
   subst e1;subst hn;subst hm
   rw[ho (xs.map (B.E c)) (by simp only[get_erS hg,Option.map_some,erB];rw[if_pos (by simp)];simp[List.take_of_length_le]) (by simp only[get_erS hg,Option.map_some,erB];exact hc.1)]
   exact h2 c xs
  ·rename_i esz l hg
   refine .bif λhc=>.eqN λhn=>?_
   simp only[Bool.and_eq_true,eqLen_iff]at hc
   have e1:=Nat.eq_of_beq_eq_true hc.2
   subst e1;subst hn
   rw[ho (erL B.E l) (by simp only[get_erS hg,Option.map_some,erB];rw[if_pos (by simp[len_erL])];simp[List.take_of_length_le,len_erL]) (by simp only[get_erS hg,Option.map_some,erB];exact hc.1)]
   exact h1 l
  ·exact .no
 ·rename_i id start n
  simp only[TV.er,elemsOf,fitsV]at ho
  split
  ·rename_i esz c xs _ _ hg
   refine .bif λhc=>.need λhn=>?_
   rw[ho (((xs.drop start).take n).map (B.E c)) (by simp only[get_erS hg,Option.map_some,erB];rw[if_pos (by simpa using hn)];simp[List.map_take,List.map_drop]) (by simp only[get_erS hg,Option.map_some,erB];exact eqLen_iff.1 hc)]
   exact h2 c _
  ·exact .no
 ·exact .no
def aAppendB(P:Program)(t u:TypeId)(x y:AV)(s:St):Option (AV×St):=match y with
 |.int _ n=>match elemT P t with
  |some e=>match zeroT P e with
   |some z=>if 0<=n/\n<=maxElems/\(intT P u).isSome=true/\sizeT P e=some z.cells.length/\z.cells.all AV.scalar=true then aAppend P t x (List.replicate n.toNat z) s else none
   |none=>none
  |none=>none
 |y=>match elemT P t,elemsOf y s with
  |some e,some new=>if fitsV P e y s/\(elemT P u).isSome=true then aAppend P t x new s else none
  |_,_=>none
theorem tAppend_ok{t u:TypeId}{x y:TV B.S}:IsS B (tAppend B P t u x y s) (aAppendB P t u (x.er B.E) (y.er B.E) (erS B s)):=by
 unfold tAppend
 split
 case h_2=>exact .no
 rename_i e he
 split
 case h_2=>exact .no
 rename_i sz ha
 refine .bif λhu=>?_
 have h0: ∀k n,y.er B.E=.int k n->(∀l,elemsOf (y.er B.E) (erS B s)≠some l):=λk n e l=>by rw[e];simp[elemsOf]
 refine tElems_ok (P:=P) (e:=e) (O:=λl=>aAppend P t (x.er B.E) l (erS B s)) (λl hl hf=>?_) (λcs=>?_) (λc ys=>tApp2_ok he ha)
 ·generalize y.er B.E=v at hl hf h0
  cases v<;>first|exact absurd hl (h0 _ _ rfl _)|(simp only[aAppendB,he,hl];rw[if_pos ⟨hf,hu⟩])
 ·cases cs with
  |nil=>exact keepX_ok he ha
  |cons a r=>exact tApp1_ok he ha (by simp)
theorem tMake_ok{t:TypeId}{lo co:Operand}{env:TEnv B.S}:IsS B (tMake B P t lo co env s) (match oper (erE B env) lo,oper (erE B env) co with
  |some l,some c=>aMake P t l c (erS B s)
  |_,_=>none):=by
 unfold tMake
 simp only[toper_ok]
 split
 case h_2=>exact .no
 rename_i l c e hl hc he
 split
 case h_2=>exact .no
 rename_i sn kn n sm km m hn hm
 split
 case h_2=>exact .no
 rename_i sz z ha hz
 refine .bif λhq=>.nonneg λh0=>?_
 obtain⟨b,h1,h2,h3,h4,h5⟩:=appOk_ok ha
 simp only[Bool.and_eq_true]at hq
 have hzl:=Nat.eq_of_beq_eq_true hq.1
 simp only[hl,hc,Option.map_some,asI_ok hn,asI_ok hm,aMake,he,h1,h2,hz]
 have fin:n<=m->m<=(maxElems:Int)->IsS B (match B.T e with
     |some c=>bif nilZ z then mNew n.toNat (.rows sz c [] [] n.toNat) s.heap s.cnt else decT B c (.a z) λy=>mNew (List.replicate n.toNat y).length (.lz sz c (List.replicate n.toNat y)) s.heap s.cnt
     |none=>bif sn then mNew n.toNat (.els sz (List.replicate n.toNat (.a z))) s.heap s.cnt else .no)
    (if 0<=n/\n<=m/\m<=maxElems/\0<sz/\z.cells.length=sz/\z.cells.all AV.scalar=true/\b<=4096 then some (.ms (erS B s).cnt 0 n.toNat,⟨((erS B s).cnt,.cells sz (List.replicate n.toNat z))::(erS B s).heap,(erS B s).cnt+1⟩)else none):=by
  intro g1 g2
  rw[if_pos ⟨h0,g1,g2,h3,hzl,hq.2,h4⟩]
  split
  ·rename_i c hc
   cases hz:nilZ z with
   |true=>
    simp only[cond_true]
    refine mNew_ok rfl ?_
    have e:z=.sl true []:=by unfold nilZ at hz;split at hz;rfl;cases hz
    subst e
    simp[erB,erL];first|done|rfl|exact⟨rfl,rfl⟩
   |false=>
    simp only[cond_false]
    refine .dec λy hy=>mNew_ok rfl ?_
    simp only[erB,List.map_replicate,List.length_replicate,hy,TV.er];rfl
  ·refine .bif λ_=>mNew_ok rfl ?_
   simp only[erB,erL_map,List.map_replicate,TV.er];rfl
 cases hs:sn&&sm with
 |true=>
  simp only[cond_true]
  refine .bif λhd=>?_
  simp only[Bool.and_eq_true,decide_eq_true_eq]at hd
  exact fin hd.1 hd.2
 |false=>
  simp only[cond_false]
  refine .need1 (λhb=>?_) λg1=>.need λg2=>fin g1 g2
  have:lo=co:=by
   cases lo<;>cases co<;>simp only[sameOp]at hb<;>first|(cases hb;done)|rw[Nat.eq_of_beq_eq_true hb]
  subst this
  rw[hl]at hc;cases hc
  rw[hn]at hm;cases hm
  exact Int.le_refl n
theorem tFill_ok{place:Nat->Option (Nat×Nat)}: ∀{parts:List (Nat×TV B.S)}{cells l:List (TV B.S)},tFill B place cells parts=some l->aFill place (erL B.E cells) (parts.map λp=>(p.1,p.2.er B.E))=some (erL B.E l)
 | [],cells,l,h=>by cases h;rfl
 |(i,v)::r,cells,l,h=>by
  simp only[tFill]at h
  simp only[List.map_cons,aFill]
  split at h
  ·rename_i off n hp
   simp only[hp]
   cases hq:Nat.beq (cellsT B v).length n&&(cellsT B v).all scalT&&Nat.ble (off+n) cells.length with
   |false=>simp[hq]at h
   |true=>
    simp only[hq,cond_true]at h
    simp only[Bool.and_eq_true,Nat.ble_eq]at hq
    obtain⟨⟨h1,h2⟩,h3⟩:=hq
    have h1:=Nat.eq_of_beq_eq_true h1
    rw[len_cells]at h1
    rw[if_pos ⟨h1,cells_of h2,by rw[len_erL];exact h3⟩,<-er_cells,<-splice_ok]
    exact tFill_ok h
  ·cases h
theorem tParts_ok{env:TEnv B.S}: ∀{l:List (Nat×Operand)},aParts (erE B env) l=(tParts env l).map (λr=>r.map λp=>(p.1,p.2.er B.E))
 | []=>rfl
 |(i,x)::r=>by
  simp only[aParts,tParts,toper_ok,tParts_ok (l:=r)]
  cases toper env x with
  |none=>rfl
  |some v=>cases tParts env r<;>rfl
theorem tBuild_ok{t:TypeId}{parts:List (Nat×TV B.S)}{v:TV B.S}(h:tBuild B P t parts=some v):aBuild P t (parts.map λp=>(p.1,p.2.er B.E))=some (v.er B.E):=by
 unfold tBuild at h
 unfold aBuild
 split at h
 case h_2=>cases h
 rename_i cs hz
 simp only[hz]
 cases hs:structT P t with
 |true=>
  simp only[hs,cond_true]at h
  rw[if_pos rfl]
  split at h
  ·rename_i l hl
   cases h
   have:=tFill_ok hl
   rw[erL_a]at this
   simp only[this];rfl
  ·cases h
 |false=>
  simp only[hs,cond_false]at h
  rw[if_neg (by simp)]
  split at h
  ·rename_i m e ha
   simp only[ha]
   split at h
   ·rename_i sz hsz
    simp only[hsz]
    split at h
    ·rename_i l hl
     cases h
     have:=tFill_ok hl
     rw[erL_a]at this
     simp only[this];rfl
    ·cases h
   ·cases h
  ·cases h
theorem numberedT_ok: ∀{l:List (Nat×TV B.S)}{i:Nat},numberedT l i=true->numbered (l.map λp=>(p.1,p.2.er B.E)) i=true
 | [],_,_=>rfl
 |(j,x)::r,i,h=>by
  simp only[numberedT,Bool.and_eq_true]at h
  simp only[List.map_cons,numbered,Bool.and_eq_true]
  exact⟨by simp[Nat.eq_of_beq_eq_true h.1],numberedT_ok h.2⟩
theorem tBuildSlice_ok{t:TypeId}{len:Nat}{own:Bool}{parts:List (Nat×TV B.S)}:IsS B (tBuildSlice B P t len own parts s) (bif own then(match aBuildSlice P t len (parts.map λp=>(p.1,p.2.er B.E)),elemT P t with
   |some _,some e=>match sizeT P e with
    |some sz=>some (.ms s.cnt 0 parts.length,⟨(s.cnt,.cells sz ((parts.map λp=>(p.1,p.2.er B.E)).map (·.2)))::(erS B s).heap,s.cnt+1⟩)
    |none=>none
   |_,_=>none)else ekeep (aBuildSlice P t len (parts.map λp=>(p.1,p.2.er B.E))) (erS B s)):=by
 unfold tBuildSlice
 split
 case h_2=>exact .no
 rename_i e he
 split
 case h_2=>exact .no
 rename_i sz z hsz hz
 refine .bif λhq=>?_
 simp only[Bool.and_eq_true,Nat.ble_eq,Nat.blt_eq]at hq
 obtain⟨⟨⟨⟨⟨h1,h2⟩,h3⟩,h4⟩,h5⟩,h6⟩:=hq
 have h1:=Nat.eq_of_beq_eq_true h1
 have h6:=Nat.eq_of_beq_eq_true h6
 have hb:aBuildSlice P t len (parts.map λp=>(p.1,p.2.er B.E))=some (.sl true ((parts.map λp=>(p.1,p.2.er B.E)).map (·.2))):=by
  have hall: ∀p∈parts.map (λp=>(p.1,p.2.er B.E)),p.2.cells.length=sz/\p.2.cells.all AV.scalar=true:=λp hp=>by
   obtain⟨q,hq,rfl⟩:=List.mem_map.1 hp
   have:=List.all_eq_true.1 h3 q hq
   simp only[Bool.and_eq_true]at this
   exact⟨by rw[<-len_cells];exact Nat.eq_of_beq_eq_true this.1,cells_of this.2⟩
  unfold aBuildSlice
  simp only[he,hsz,hz]
  rw[if_pos ⟨by simpa using h1,numberedT_ok h2,hall,h4,h5,h6⟩]
 have hm:(parts.map λp=>(p.1,p.2.er B.E)).map (·.2)=erL B.E (parts.map (·.2)):=by rw[erL_map,List.map_map,List.map_map];rfl
 rw[hb]
 cases own with
 |true=>
  simp only[cond_true,he,hsz]
  split
  ·rename_i c hc
   refine .decL λys hys hl=>mNew_ok rfl ?_
   simp only[erB,hys,hm,h1]
  ·refine mNew_ok rfl ?_
   simp only[erB,hm,h1]
 |false=>
  simp only[cond_false]
  refine .ok ?_
  simp only[ekeep,hm]
  cases hl0:Nat.beq len 0 with
  |false=>rfl
  |true=>
   have e:=Nat.eq_of_beq_eq_true hl0
   rw[e]at h1
   have:parts=[]:=List.eq_nil_of_length_eq_zero h1
   subst this
   rfl
theorem tInt_ok{op:BinOp}{k:IntKind}{sa sb:Bool}{x y:Int}:IsV B (tInt B op k sa sb x y s) (aInt op k x y) s:=by
 have q:(sb&&!(decide (y=0)))=true->y≠0:=λh=>by simp only[Bool.and_eq_true,Bool.not_eq_true',decide_eq_false_iff_not]at h;exact h.2
 cases op<;>simp only[tInt]<;>first
  |(refine .ok ?_;simp only[mkI_er,mkB_er,aInt];done)
  |(refine .need1 q λh=>.ok ?_;simp only[mkI_er,aInt];rw[if_neg h];done)
  |(refine .nonneg λh=>.ok ?_;simp only[mkI_er,aInt];rw[if_neg (by omega)];done)
  |exact .no
theorem tBin_ok{op:BinOp}{t:TypeId}{x y:TV B.S}:IsV B (tBin B P op t x y s) (aBin P op t (x.er B.E) (y.er B.E)) s:=by
 unfold tBin
 split
 ·rename_i sa k a sb k' b hx hy
  refine .bif λhq=>?_
  rw[asI_ok hx,asI_ok hy]
  have:aBin P op t (.int k a) (.int k' b)=aInt op k a b:=by
   simp only[Bool.or_eq_true,decide_eq_true_eq]at hq
   cases op<;>simp only[aBin]<;>first
    |rfl
    |(rcases hq with hq|hq;cases hq;rw[if_pos hq])
  rw[this]
  exact tInt_ok
 ·split
  ·rename_i r hr
   exact .ok (by rw[hr,mkB_er])
  ·exact .no
theorem tUn_ok{op:UnOp}{x:TV B.S}:IsV B (tUn B op x s) (aUn op (x.er B.E)) s:=by
 unfold tUn
 split
 ·split
  ·rename_i st b hb;refine .ok ?_;rw[asB_ok hb,mkB_er];rfl
  ·exact .no
 ·split
  ·rename_i st k n hb;refine .ok ?_;rw[asI_ok hb,mkI_er];rfl
  ·exact .no
 ·exact .no
theorem tConvert_ok{src dst:TypeId}{x:TV B.S}:IsV B (tConvert B P src dst x s) (aConvert P src dst (x.er B.E)) s:=by
 unfold tConvert
 split
 ·rename_i st k n hn
  refine .bif λhq=>?_
  rw[asI_ok hn]
  split
  ·rename_i k' hk
   refine .ok ?_
   simp only[aConvert,hk,mkI_er];rw[if_pos hq]
  ·exact .no
 ·rw[<-er_norm x]
  split
  ·rename_i b hb
   refine .bif λhq=>.ok ?_
   simp only[Bool.and_eq_true]at hq
   rw[hb];simp only[TV.er,aConvert];rw[if_pos hq]
  ·rename_i b hb
   refine .bif λhq=>.ok ?_
   simp only[Bool.and_eq_true]at hq
   rw[hb];simp only[TV.er,aConvert];rw[if_pos hq]
  ·exact .no
theorem tFold_ok{f:Int->Int->Int}{g:AV->AV->Option AV}(hg: ∀k a b,g (.int k a) (.int k b)=some (.int k (f a b))): ∀{r:List (TV B.S)}{st st':Bool}{k k':IntKind}{a n:Int},tFold B f (st,k,a) r=some (st',k',n)->aFold g (.int k a) (erL B.E r)=some (.int k' n)
 | [],st,st',k,k',a,n,h=>by cases h;rfl
 |y::r,st,st',k,k',a,n,h=>by
  simp only[tFold]at h
  split at h
  ·rename_i s2 k2 b hb
   cases hq:decide (k=k2)with
   |false=>simp[hq]at h
   |true=>
    simp only[hq,cond_true]at h
    have e:=of_decide_eq_true hq
    subst e
    simp only[erL,asI_ok hb,aFold,hg]
    exact tFold_ok hg h
  ·cases h
theorem tMinMax_ok{f:Int->Int->Int}{g:AV->AV->Option AV}(hg: ∀k a b,g (.int k a) (.int k b)=some (.int k (f a b))){l:List (TV B.S)}:IsV B (tMinMax B f l s) (match erL B.E l with
  |x::r=>aFold g x r
  | []=>none) s:=by
 unfold tMinMax
 split
 ·rename_i x r
  split
  ·rename_i q hq
   split
   ·rename_i st k n hn
    obtain⟨s0,k0,a0⟩:=q
    refine .ok ?_
    simp only[erL,asI_ok hq,tFold_ok hg hn,mkI_er]
   ·exact .no
  ·exact .no
 ·exact .no
theorem aop_append{c:Call}{env:Env}{s:St}{x y:AV}{t u:TypeId}(hc:c.callee=.builtin .append)(hl:opers env c.args.toList=some [x,y])(h0:c.argTypes[0]? =some t)(h1:c.argTypes[1]? =some u):aop P (.call c) env s=aAppendB P t u x y s:=by
 simp only[aop,hc,hl,h0,h1];rfl
theorem aop_copy{c:Call}{env:Env}{s:St}{x y:AV}{t:TypeId}(hc:c.callee=.builtin .copy)(hl:opers env c.args.toList=some [x,y])(h0:c.argTypes[0]? =some t):aop P (.call c) env s=aCopyB P t x y s:=by
 simp only[aop,hc,hl,h0];rfl
theorem tCopy_ok{t:TypeId}{x y:TV B.S}:IsS B (tCopy B P t x y s) (aCopyB P t (x.er B.E) (y.er B.E) (erS B s)):=by
 unfold tCopy
 split
 case h_2=>exact .no
 rename_i e he
 refine tElems_ok (P:=P) (e:=e) (O:=λl=>aCopy P t (x.er B.E) l (erS B s)) (λl hl hf=>?_) (λcs=>.no) (λc ys=>?_)
 ·generalize y.er B.E=v at hl hf
  cases v<;>first|(simp only[aCopyB,he,hl];rw[if_pos hf])|(simp[elemsOf]at hl)
 ·unfold aCopy
  rw[he,<-er_norm x]
  generalize x.norm B=q
  split
  case h_2=>exact .no
  rename_i id start n
  simp only[TV.er]
  split
  case h_2=>exact .no
  rename_i esz d xs _ _ hg
  refine .bif λhc=>?_
  split
  case h_2=>exact .no
  rename_i ys' hy
  obtain⟨y1,y2⟩:=castL_ok hy
  refine .need λhn=>.ok ?_
  simp only[get_erS hg,Option.map_some,erB,List.length_map]
  rw[if_pos ⟨eqLen_iff.1 hc,hn⟩,set_erS hg rfl rfl,<-y2,<-y1]
  simp only[TV.er,erB,cpL,List.map_append,List.map_take,List.map_drop,List.length_map]
  rfl
theorem topC_ok{b:Builtin}{c:Call}{env:TEnv B.S}(hc:c.callee=.builtin b):IsS B (topC B P b c env s) (aop P (.call c) (erE B env) (erS B s)):=by
 unfold topC
 split
 case h_2=>exact .no
 rename_i l hl
 have hl':opers (erE B env) c.args.toList=some (erL B.E l):=by rw[topers_ok,hl];rfl
 split
 ·split
  ·rename_i x t ht
   simp only[aop,hc,hl',erL,ht]
   exact tLen_ok.toS
  ·exact .no
 ·split
  ·rename_i x y t u ht hu
   rw[aop_append hc hl' ht hu]
   exact tAppend_ok
  ·exact .no
 ·split
  ·rename_i x y t ht
   rw[aop_copy hc hl' ht]
   exact tCopy_ok
  ·exact .no
 ·simp only[aop,hc,hl']
  have:=tMinMax_ok (s:=s) (f:=minI) (g:=aMin) (λk a b=>by simp[aMin,minI]) (l:=l)
  cases l with
  |nil=>exact .no
  |cons x r=>exact this.toS
 ·simp only[aop,hc,hl']
  have:=tMinMax_ok (s:=s) (f:=maxI) (g:=aMax) (λk a b=>by simp[aMax,maxI]) (l:=l)
  cases l with
  |nil=>exact .no
  |cons x r=>exact this.toS
 ·exact .no
theorem top_ok{op:Op}{env:TEnv B.S}(hc:callOf op=none):IsS B (top B P false op env s) (aop P op (erE B env) (erS B s)):=by
 unfold top
 split
 ·simp only[aop,toper_ok];exact(IsV.ofO rfl).toS
 ·simp only[aop,toper_ok];exact(IsV.ofO rfl).toS
 ·rename_i c a b
  simp only[aop,toper_ok]
  split
  case h_2=>exact .no
  rename_i v hv
  split
  case h_2=>exact .no
  rename_i st t ht
  simp only[hv,Option.map_some,asB_ok ht]
  have key: ∀t:Bool,IsS B (ofO (bif t then toper env a else toper env b) s) (if t=true then ekeep ((toper env a).map (TV.er B.E)) (erS B s)else ekeep ((toper env b).map (TV.er B.E)) (erS B s)):=by
   intro t
   cases t with
   |true=>exact(IsV.ofO rfl).toS
   |false=>exact(IsV.ofO rfl).toS
  cases st with
  |true=>exact key t
  |false=>exactλK hK=>key t K hK
 ·rename_i t
  simp only[aop]
  split
  ·rename_i z hz;simp only[hz];exact tNew_ok
  ·exact .no
 ·rename_i x
  simp only[aop,toper_ok]
  split
  ·rename_i v hv;simp only[hv,Option.map_some];exact tNew_ok
  ·exact .no
 ·rename_i t parts
  simp only[aop,tParts_ok]
  split
  ·rename_i l hl
   simp only[hl,Option.map_some]
   refine(IsV.ofO' ?_).toS
   cases hb:tBuild B P t l with
   |none=>exact .inr rfl
   |some v=>exact .inl (tBuild_ok hb)
  ·exact .no
 ·rename_i t len parts
  simp only[aop,tParts_ok]
  split
  ·rename_i l hl
   simp only[hl,Option.map_some]
   exact tBuildSlice_ok (own:=false)
  ·exact .no
 ·simp only[aop,toper_ok]
  split
  ·rename_i v hv;simp only[hv,Option.map_some];exact tLoad_ok.toS
  ·exact .no
 ·simp only[aop,toper_ok]
  split
  ·rename_i v hv
   split
   ·rename_i x hx
    simp only[hv,hx,Option.map_some];exact tStore_ok
   ·exact .no
  ·exact .no
 ·simp only[aop,toper_ok]
  split
  ·rename_i v hv
   simp only[hv,Option.map_some]
   rw[<-er_norm v]
   split
   ·rename_i hq;rw[hq];exact .ok rfl
   ·rename_i hq;rw[hq];exact .ok rfl
   ·rename_i hq;rw[hq];exact .ok rfl
   ·rename_i hq;rw[hq];exact .ok rfl
   ·exact .no
  ·exact .no
 ·simp only[aop,toper_ok]
  split
  ·rename_i v hv
   split
   ·rename_i x hx
    simp only[hv,hx,Option.map_some];exact tBin_ok.toS
   ·exact .no
  ·exact .no
 ·simp only[aop,toper_ok]
  split
  ·rename_i v hv;simp only[hv,Option.map_some];exact tUn_ok.toS
  ·exact .no
 ·simp only[aop,toper_ok]
  split
  ·rename_i v hv;simp only[hv,Option.map_some];exact tConvert_ok.toS
  ·exact .no
 ·rename_i f first caps
  refine .bif λhq=>?_
  simp only[aop,topers_ok]
  rw[if_pos (Nat.eq_of_beq_eq_true hq)]
  split
  ·rename_i l hl;simp only[hl,Option.map_some];exact .ok rfl
  ·exact .no
 ·simp only[aop,toper_ok]
  split
  ·rename_i v hv;simp only[hv,Option.map_some];exact tSlice_ok.toS
  ·exact .no
 ·simp only[aop,toper_ok]
  split
  ·rename_i v hv;simp only[hv,Option.map_some];exact(IsV.ofO' tField_ok).toS
  ·exact .no
 ·simp only[aop,toper_ok]
  split
  ·rename_i v hv;simp only[hv,Option.map_some];exact(IsV.ofO' tFieldV_ok).toS
  ·exact .no
 ·simp only[aop,toper_ok]
  split
  ·rename_i v hv
   split
   ·rename_i x hx
    simp only[hv,hx,Option.map_some];exact tIdxA_ok.toS
   ·exact .no
  ·exact .no
 ·simp only[aop,toper_ok]
  split
  ·rename_i v hv
   split
   ·rename_i x hx
    simp only[hv,hx,Option.map_some];exact tIndex_ok.toS
   ·exact .no
  ·exact .no
 ·simp only[aop,toper_ok]
  split
  ·rename_i v hv
   simp only[hv,Option.map_some]
   rw[<-er_norm v]
   split
   ·rename_i vs hq
    rw[hq]
    simp only[TV.er]
    refine(IsV.ofO ?_).toS
    rw[get_erL]
   ·exact .no
  ·exact .no
 ·simp only[aop];exact tMake_ok
 ·split
  ·rename_i b hb;exact topC_ok hb
  ·exact .no
 ·exact .no
end
end Go.Am
