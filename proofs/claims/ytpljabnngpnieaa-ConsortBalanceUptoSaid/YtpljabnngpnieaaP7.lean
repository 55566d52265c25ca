/-
 Plain laws of the player,part 14: the statement on what sounds.
 Own work. No Go text.
-/
import Derived.Test.YtpljabnngpnieaaPy
import Derived.Test.YtpljabnngpnieaaP5
import Derived.Test.YtpljabnngpnieaaV7
set_option linter.all false
namespace Go.Proofs.Ytpljabnngpnieaa
open Go Go.Am
theorem eq_voice (x y : GVoice) : eq_GVoice x y = decide (x = y) := by
 obtain ⟨a,b,c⟩ := x
 obtain ⟨d,e,f⟩ := y
 unfold eq_GVoice
 by_cases h1 : a = d <;> by_cases h2 : b = e <;> by_cases h3 : c = f <;> simp [h1,h2,h3]
theorem f42_1_eq (l : List GCLive) (h : l.length ≤ 4000000) : f42_1 l = some (l.map voiceS) := by
 have := f42_eq l h
 unfold f42 at this
 unfold f42_1
 exact this
theorem f26_1_refl (l : List GVoice) (hs : Small l) : f26_1 l l = some true := by
 unfold f26_1
 have hd : decide ((l.length : Int) ≠ (l.length : Int)) = false := by simp
 rw [hd,cond_false,loop_none l hs]
 ·rfl
 ·intro i y hy
  have : eq_GVoice y y = true := by simp [eq_GVoice]
  simp only [dltLen hy,cond_true,ixNat hy,Option.bind_some,this,Bool.not_true,cond_false]
 ·simp
theorem find_voice (l : List GVoice) (k : Nat) (v : GVoice) (hs : Small l) (hk : l[k]? = some v) (hn : ∀ m y,m < k → l[m]? = some y → y ≠ v) :
  loopN (σ := Int) (τ := Int) (fun (l5_13 : Int) => ((bif (decide (l5_13 < (l.length : Int))) then ((ix l l5_13).bind fun y22 => some (!(eq_GVoice y22 v))) else (some false)) : Option Bool).bind fun (j6_101 : Bool) => bif j6_101 then (some (.inl (wr (l5_13 + 1)))) else (some (.inr l5_13))) FUEL 0 = some (k : Int) := by
 have hkl := (List.getElem?_eq_some_iff.1 hk).1
 refine loop_all (fun k => (k : Int)) k (by simp only [Small] at hs; omega) rfl (fun m hm => ?_) ?_
 ·have hg : l[m]? = some (l[m]'(by omega)) := List.getElem?_eq_getElem (by omega)
  have hne := hn m _ hm hg
  simp only [dltLen hg,cond_true,ixNat hg,Option.bind_some,eq_voice]
  have : decide (l[m]'(by omega) = v) = false := decide_eq_false hne
  simp only [this,Bool.not_false,cond_true,wrLen hs hg]
 ·simp only [dltLen hk,cond_true,ixNat hk,Option.bind_some,eq_voice,decide_true,Bool.not_true,cond_false]
theorem cut_voice (l : List GVoice) (k : Nat) (hs : Small l) (hk : k < l.length) :
  (((need (0 ≤ (k : Int)) <| need ((k : Int).toNat ≤ l.length) <| need (0 ≤ (wr ((k : Int) + 1))) <| need ((wr ((k : Int) + 1)).toNat ≤ l.length) <| bif (decide (((l.drop (wr ((k : Int) + 1)).toNat).take (l.length - (wr ((k : Int) + 1)).toNat)) = [])) then (need ((wr ((k : Int) + 1)).toNat + (l.length - (wr ((k : Int) + 1)).toNat) ≤ l.length) <| some (l.take (k : Int).toNat)) else (need ((wr ((k : Int) + 1)).toNat + (l.length - (wr ((k : Int) + 1)).toNat) ≤ l.length) <| need (0 + (k : Int).toNat ≤ l.length) <| need ((k : Int).toNat + ((l.drop (wr ((k : Int) + 1)).toNat).take (l.length - (wr ((k : Int) + 1)).toNat)).length ≤ maxElems) <| some (((l.drop 0).take (k : Int).toNat) ++ ((l.drop (wr ((k : Int) + 1)).toNat).take (l.length - (wr ((k : Int) + 1)).toNat))))) : Option (List GVoice))) = some (l.take k ++ l.drop (k + 1)) := by
 simp only [Small] at hs
 have hw : wr ((k : Int) + 1) = ((k + 1 : Nat) : Int) := wrNat (by omega)
 have h1 : (0 : Int) ≤ (k : Int) := by omega
 have h2 : k ≤ l.length := by omega
 have h3 : (0 : Int) ≤ ((k + 1 : Nat) : Int) := by omega
 have h4 : k + 1 ≤ l.length := by omega
 have h5 : k + 1 + (l.length - (k + 1)) ≤ l.length := by omega
 have h6 : 0 + k ≤ l.length := by omega
 have ht : (l.drop (k + 1)).take (l.length - (k + 1)) = l.drop (k + 1) := by rw [List.take_of_length_le]; simp
 have h7 : k + (l.drop (k + 1)).length ≤ maxElems := by rw [List.length_drop]; unfold maxElems; omega
 simp only [hw,Int.toNat_natCast,need,if_pos h1,if_pos h2,if_pos h3,if_pos h4,if_pos h5,if_pos h6,ht,if_pos h7,List.drop_zero]
 by_cases he : l.drop (k + 1) = []
 ·have hd : decide (l.drop (k + 1) = []) = true := by simpa using he
  rw [hd,cond_true,he,List.append_nil]
 ·have hd : decide (l.drop (k + 1) = []) = false := by simpa using he
  rw [hd]; rfl
theorem find_less (l : List GVoice) (k : Nat) (v : GVoice) (hs : Small l) (hkl : k ≤ l.length) (h1 : ∀ m y,m < k → l[m]? = some y → y.desk < v.desk ∨ (y.desk = v.desk ∧ y.course < v.course)) (h2 : ∀ y,l[k]? = some y → ¬ (y.desk < v.desk ∨ (y.desk = v.desk ∧ y.course < v.course))) :
  loopN (σ := Int) (τ := Int) (fun (l9_16 : Int) => ((bif (decide (l9_16 < (l.length : Int))) then ((ix l l9_16).bind fun y38 => bif (decide (y38.desk < v.desk)) then (some true) else (bif (decide (y38.desk = v.desk)) then (some (decide (y38.course < v.course))) else (some false))) else (some false)) : Option Bool).bind fun (j10_158 : Bool) => bif j10_158 then (some (.inl (wr (l9_16 + 1)))) else (some (.inr l9_16))) FUEL 0 = some (k : Int) := by
 have hs' := hs
 simp only [Small] at hs
 have key : ∀ y : GVoice,((bif (decide (y.desk < v.desk)) then (some true) else (bif (decide (y.desk = v.desk)) then (some (decide (y.course < v.course))) else (some false))) : Option Bool) = some (decide (y.desk < v.desk ∨ (y.desk = v.desk ∧ y.course < v.course))) := by
  intro y
  by_cases a1 : y.desk < v.desk
  ·simp [a1]
  ·by_cases a2 : y.desk = v.desk
   ·simp [a2]
   ·simp [a1,a2]
 refine loop_all (fun k => (k : Int)) k (by omega) rfl (fun m hm => ?_) ?_
 ·have hg : l[m]? = some (l[m]'(by omega)) := List.getElem?_eq_getElem (by omega)
  have hd : decide ((l[m]'(by omega)).desk < v.desk ∨ ((l[m]'(by omega)).desk = v.desk ∧ (l[m]'(by omega)).course < v.course)) = true := decide_eq_true (h1 m _ hm hg)
  simp only [dltLen hg,cond_true,ixNat hg,Option.bind_some,key,hd,wrLen hs' hg]
 ·by_cases hlt : k < l.length
  ·have hg : l[k]? = some (l[k]'hlt) := List.getElem?_eq_getElem hlt
   have hd : decide ((l[k]'hlt).desk < v.desk ∨ ((l[k]'hlt).desk = v.desk ∧ (l[k]'hlt).course < v.course)) = false := decide_eq_false (h2 _ hg)
   simp only [dltLen hg,cond_true,ixNat hg,Option.bind_some,key,hd,cond_false]
  ·have hd : decide ((k : Int) < (l.length : Int)) = false := by simp; omega
   simp only [hd,cond_false,Option.bind_some]
theorem ins_voice (l : List GVoice) (k : Nat) (v : GVoice) (hs : Small l) (hk : k ≤ l.length) :
  (((need (0 ≤ (k : Int)) <| need ((k : Int).toNat ≤ l.length) <| bif (decide (((l.drop (k : Int).toNat).take (l.length - (k : Int).toNat)) = [])) then (need ((k : Int).toNat + (l.length - (k : Int).toNat) ≤ l.length) <| need (0 + (k : Int).toNat ≤ l.length) <| need ((k : Int).toNat + 1 ≤ maxElems) <| some (((l.drop 0).take (k : Int).toNat) ++ ([v] : List GVoice))) else (need ((k : Int).toNat + (l.length - (k : Int).toNat) ≤ l.length) <| need (([v] : List GVoice).length + ((l.drop (k : Int).toNat).take (l.length - (k : Int).toNat)).length ≤ maxElems) <| bif (decide ((([v] : List GVoice) ++ ((l.drop (k : Int).toNat).take (l.length - (k : Int).toNat))) = [])) then (some (l.take (k : Int).toNat)) else (need (0 + (k : Int).toNat ≤ l.length) <| need ((k : Int).toNat + (([v] : List GVoice) ++ ((l.drop (k : Int).toNat).take (l.length - (k : Int).toNat))).length ≤ maxElems) <| some (((l.drop 0).take (k : Int).toNat) ++ (([v] : List GVoice) ++ ((l.drop (k : Int).toNat).take (l.length - (k : Int).toNat))))))) : Option (List GVoice))) = some (l.take k ++ v :: l.drop k) := by
 simp only [Small] at hs
 have h1 : (0 : Int) ≤ (k : Int) := by omega
 have h3 : k + (l.length - k) ≤ l.length := by omega
 have h4 : 0 + k ≤ l.length := by omega
 have h5 : k + 1 ≤ maxElems := by unfold maxElems; omega
 have ht : (l.drop k).take (l.length - k) = l.drop k := by rw [List.take_of_length_le]; simp
 have h6 : ([v] : List GVoice).length + (l.drop k).length ≤ maxElems := by simp only [List.length_cons,List.length_nil,List.length_drop]; unfold maxElems; omega
 have h7 : k + (([v] : List GVoice) ++ l.drop k).length ≤ maxElems := by simp only [List.length_append,List.length_cons,List.length_nil,List.length_drop]; unfold maxElems; omega
 have h8 : decide ((([v] : List GVoice) ++ l.drop k) = []) = false := by simp
 simp only [Int.toNat_natCast,need,if_pos h1,if_pos hk,if_pos h3,if_pos h4,if_pos h5,ht,if_pos h6,h8,cond_false,if_pos h7,List.drop_zero]
 by_cases he : l.drop k = []
 ·have hd : decide (l.drop k = []) = true := by simpa using he
  rw [hd,cond_true,he]
 ·have hd : decide (l.drop k = []) = false := by simpa using he
  rw [hd]; rfl
theorem good_new (c : GConsort) (hv : ValidC c.pieces) (hb : bigS c.pieces = false) (hsame : ∀ p ∈ c.pieces,endP p = endC c.pieces) : GoodD (endC c.pieces) (c.pieces.map deskP) := by
 intro d hd
 have hk := (new_keeps hv hb).notes d hd
 obtain ⟨p,hp,rfl⟩ := List.mem_map.1 hd
 obtain ⟨i,hi⟩ := List.getElem?_of_mem hp
 obtain ⟨v1,v2⟩ := hv.2.2 i p hi
 refine ⟨hk,?_,fun n hn => ?_⟩
 ·obtain ⟨r,h1,h2⟩ := notes_exact p v1
  have d0 : decide ((0 : Int) ≠ 0) = false := rfl
  have hn : notesP p = notesN p := by
   unfold notesP f32 f54
   rw [v2]
   simp only [Option.bind_some,d0,cond_false,h1]
   exact h2
  rw [desk_notes,hn]
  exact notes_disj v1
 ·rw [← hsame p hp]
  exact notes_in v1 v2 n hn
theorem binv_new (c : GConsort) (hv : ValidC c.pieces) (hb : bigS c.pieces = false) (hsame : ∀ p ∈ c.pieces,endP p = endC c.pieces) : BInv 0 (newS c.pieces) := by
 have hk := new_keeps hv hb
 exact ⟨hk.now,hk.desks,good_new c hv hb hsame,(fun h => absurd h (by show ¬ (0 : Int) < 0; omega)),⟨Int.le_refl _,by show (0 : Int) ≤ 100; omega⟩,fun _ => rfl,(fun x hx => by cases hx),List.Pairwise.nil,by show 0 ≤ _; omega⟩
def callB (p : GCPlayer) (x : GLaw09Call) (r s : Int) : GFrame × GCPlayer :=
 bif decide (r = 4) then seekB p x.a else bif decide (r = 5) then (noFrame,repB p x.a x.b x.c) else bif decide (r = 6) then muteB p x.a (decide (s = 1)) else ((stepS p).1,(stepS p).2.2)
theorem call_b {k : Nat} {p : GCPlayer} (h : BInv k p) (hk : k ≤ 90) (x : GLaw09Call) (r s : Int) : BInv (k + 1) (callB p x r s).2 ∧ (callB p x r s).2.end_ = p.end_ ∧ Fr p.sounding.l (callB p x r s).1.end_ (callB p x r s).1.begin (callB p x r s).2.sounding.l := by
 unfold callB
 cases decide (r = 4) with
 | true => exact seek_b h x.a
 | false =>
  simp only [cond_false]
  cases decide (r = 5) with
  | true =>
   obtain ⟨h1,h2,h3⟩ := rep_b h x.a x.b x.c
   simp only [cond_true]
   exact ⟨h1,h2,by rw [h3]; exact fr_same _⟩
  | false =>
   simp only [cond_false]
   cases decide (r = 6) with
   | true => exact mute_b h hk x.a _
   | false =>
    obtain ⟨h1,h2,_,_,h5⟩ := step_b h hk
    exact ⟨h1,h2,h5⟩
theorem seek_rest (p : GCPlayer) (t : Int) : (seekB p t).2.clock = p.clock ∧ (seekB p t).2.from_ = p.from_ ∧ (seekB p t).2.to_ = p.to_ ∧ (seekB p t).2.times = p.times := by
 unfold seekB
 cases (decide (0 ≤ t) && decide (t ≤ p.end_)) <;> exact ⟨rfl,rfl,rfl,rfl⟩
theorem rep_rest (p : GCPlayer) (a b t : Int) : (repB p a b t).clock = p.clock ∧ (repB p a b t).now = p.now ∧ (repB p a b t).waiting = p.waiting ∧ (repB p a b t).desks = p.desks ∧ (repB p a b t).sounding = p.sounding ∧ (repB p a b t).takes = p.takes := by
 unfold repB
 cases (decide (0 ≤ a) && (decide (a < b) && (decide (b ≤ p.end_) && (decide (0 ≤ t) && decide (t ≤ 100))))) <;> exact ⟨rfl,rfl,rfl,rfl,rfl,rfl⟩
theorem mute_rest (p : GCPlayer) (i : Int) (s : Bool) : (muteB p i s).2.clock = p.clock ∧ (muteB p i s).2.now = p.now ∧ (muteB p i s).2.waiting = p.waiting ∧ (muteB p i s).2.from_ = p.from_ ∧ (muteB p i s).2.to_ = p.to_ ∧ (muteB p i s).2.times = p.times := by
 unfold muteB
 cases ix p.desks i with
 | none => exact ⟨rfl,rfl,rfl,rfl,rfl,rfl⟩
 | some d => simp only; cases (d.silent == s) <;> cases s <;> exact ⟨rfl,rfl,rfl,rfl,rfl,rfl⟩
def partsB (p : GCPlayer) (f : GFrame) : Int × Int × Bool × List GCDesk × Int × Int × Int × List GCLive × List GTake × GFrame := (p.clock.ticks,p.now,p.waiting,p.desks,p.from_,p.to_,p.times,p.sounding.l,p.takes,f)
set_option maxHeartbeats 1000000 in
theorem f7_eq (c : GConsort) (calls : List GLaw09Call) (hcs : Small calls) (hs : SizeC c.pieces) : f7 c calls = some true := by
 suffices h : ∃ r,f7 c calls = some r ∧ r = true by
  obtain ⟨r,h,rfl⟩ := h; exact h
 have hcs2 := hcs
 unfold f7
 rw [f9_eq c.pieces hs.1]
 simp only [Option.bind_some]
 cases hb : bigS c.pieces with
 | true => exact ⟨true,rfl,rfl⟩
 | false =>
  simp only [cond_false]
  obtain ⟨r,h1,h2⟩ := new_ok c hs
  have h1' := h1
  rw [h1]
  simp only [Option.bind_some]
  rcases h2 with ⟨e,rfl,he⟩ | ⟨hv,rfl⟩
  ·have de : decide (e ≠ 0) = true := by simpa using he
   simp only [Sum.elim_inl,de,cond_true]
   exact ⟨true,rfl,rfl⟩
  ·have hsame := ends_same c hs _ h1'
   have hnew := binv_new c hv hb hsame
   simp only [Sum.elim_inr]
   refine bind_inv (fun k (s : Int × Int × Bool × List GCDesk × Int × Int × Int × List GCLive × List GTake × List GVoice × Int) => ∃ p : GCPlayer,s = (p.clock.ticks,p.now,p.waiting,p.desks,p.from_,p.to_,p.times,p.sounding.l,p.takes,p.sounding.l.map voiceS,(k : Int)) ∧ p.end_ = endC c.pieces ∧ BInv k p) (fun t => t = .inl ()) (min calls.length 60) (by omega) ⟨newS c.pieces,rfl,rfl,hnew⟩ ?_ ?_ (fun t ht => by subst ht; exact ⟨true,rfl,rfl⟩)
   ·rintro k s hk ⟨p,rfl,hpe,hi⟩
    have hg : calls[k]? = some (calls[k]'(by omega)) := List.getElem?_eq_getElem (by omega)
    generalize calls[k]'(by omega) = x at hg
    have d60 : decide ((k : Int) < 60) = true := by simp; omega
    simp only [dltLen hg,cond_true,d60,Option.bind_some,ixNat hg]
    obtain ⟨r8,r1,r2,r3⟩ := rest_ok x.what 8 (by omega) (by omega)
    obtain ⟨r2',q1,q2,q3⟩ := rest_ok x.b 2 (by omega) (by omega)
    rw [r1,q1]
    simp only [Option.bind_some]
    have hcall := call_b hi (by omega) x r8 r2'
    have hmk : (⟨(⟨p.clock.ticks⟩ : GCClock),p.now,endC c.pieces,p.waiting,p.desks,p.from_,p.to_,p.times,(⟨p.sounding.l⟩ : GCShelf_live),p.takes⟩ : GCPlayer) = p := by rw [← hpe]
    have hsw : ((bif (decide (r8 = 4)) then ((f15_1 (⟨(⟨p.clock.ticks⟩ : GCClock),p.now,endC c.pieces,p.waiting,p.desks,p.from_,p.to_,p.times,(⟨p.sounding.l⟩ : GCShelf_live),p.takes⟩ : GCPlayer) x.a).bind fun r67 => some (p.clock.ticks,r67.2.2.1,r67.2.2.2.1,r67.2.2.2.2.1,p.from_,p.to_,p.times,r67.2.2.2.2.2.1,r67.2.2.2.2.2.2,(⟨r67.1.time,r67.1.begin,r67.1.end_⟩ : GFrame))) else (bif (decide (r8 = 5)) then ((f18_1 (⟨(⟨p.clock.ticks⟩ : GCClock),p.now,endC c.pieces,p.waiting,p.desks,p.from_,p.to_,p.times,(⟨p.sounding.l⟩ : GCShelf_live),p.takes⟩ : GCPlayer) x.a x.b x.c).bind fun r69 => some (p.clock.ticks,p.now,p.waiting,p.desks,r69.2.1,r69.2.2.1,r69.2.2.2,p.sounding.l,p.takes,(⟨0,([] : List GVoice),([] : List GVoice)⟩ : GFrame))) else (bif (decide (r8 = 6)) then ((f25_1 (⟨(⟨p.clock.ticks⟩ : GCClock),p.now,endC c.pieces,p.waiting,p.desks,p.from_,p.to_,p.times,(⟨p.sounding.l⟩ : GCShelf_live),p.takes⟩ : GCPlayer) x.a (decide (r2' = 1))).bind fun r72 => some (p.clock.ticks,p.now,p.waiting,r72.2.2.1,p.from_,p.to_,p.times,r72.2.2.2.1,r72.2.2.2.2,(⟨r72.1.time,r72.1.begin,r72.1.end_⟩ : GFrame))) else ((f13_1 (⟨(⟨p.clock.ticks⟩ : GCClock),p.now,endC c.pieces,p.waiting,p.desks,p.from_,p.to_,p.times,(⟨p.sounding.l⟩ : GCShelf_live),p.takes⟩ : GCPlayer)).bind fun r73 => some (r73.2.2.1,r73.2.2.2.1,r73.2.2.2.2.1,r73.2.2.2.2.2.1,p.from_,p.to_,r73.2.2.2.2.2.2.1,r73.2.2.2.2.2.2.2.1,r73.2.2.2.2.2.2.2.2,(⟨r73.1.time,r73.1.begin,r73.1.end_⟩ : GFrame)))))) : Option (Int × Int × Bool × List GCDesk × Int × Int × Int × List GCLive × List GTake × GFrame)) = some (partsB (callB p x r8 r2').2 (callB p x r8 r2').1) := by
     rw [hmk]
     unfold callB
     cases decide (r8 = 4) with
     | true =>
      obtain ⟨e,h⟩ := f15_b hi (by omega) x.a
      obtain ⟨u1,u2,u3,u4⟩ := seek_rest p x.a
      simp only [cond_true,h,Option.bind_some,partsB,u1,u2,u3,u4]
     | false =>
      simp only [cond_false]
      cases decide (r8 = 5) with
      | true =>
       obtain ⟨e,h⟩ := f18_b p x.a x.b x.c
       obtain ⟨u1,u2,u3,u4,u5,u6⟩ := rep_rest p x.a x.b x.c
       simp only [cond_true,h,Option.bind_some,partsB,u1,u2,u3,u4,u5,u6,noFrame]
      | false =>
       simp only [cond_false]
       cases decide (r8 = 6) with
       | true =>
        obtain ⟨e,h⟩ := f25_b hi (by omega) x.a (decide (r2' = 1))
        obtain ⟨u1,u2,u3,u4,u5,u6⟩ := mute_rest p x.a (decide (r2' = 1))
        simp only [cond_true,h,Option.bind_some,partsB,u1,u2,u3,u4,u5,u6]
       | false =>
        obtain ⟨_,_,u1,u2,_⟩ := step_b hi (by omega)
        rw [cond_false,cond_false,f13_1_eq p (binv_roomy hi (by omega))]
        simp only [Option.bind_some,partsB,outS,u1,u2]
    rw [hsw]
    obtain ⟨c1,c2,q,xs,c3,c4,c5⟩ := hcall
    generalize (callB p x r8 r2').2 = p' at c1 c2 c5
    generalize (callB p x r8 r2').1 = fr at c3 c4
    simp only [Option.bind_some,partsB]
    have hsz := hi.size
    have hsz' := c1.size
    -- what ends
    refine bind_invL (fun j (s : List GVoice × Int) => s.2 = (j : Int) ∧ ∃ A B : List GCLive,s.1 = (A ++ B).map voiceS ∧ Srt (A ++ B) ∧ (A ++ B).length ≤ 1000000 ∧ (B.filter q).map voiceS = fr.end_.drop j ∧ A ++ B.filter (fun x => !q x) = p.sounding.l.filter fun x => !q x) (fun t => t = .inl ((p.sounding.l.filter fun x => !q x).map voiceS)) fr.end_.length (by rw [c3,List.length_map]; have := List.length_filter_le q p.sounding.l; omega)
     ⟨rfl,[],p.sounding.l,rfl,hi.srt,by simp only [List.nil_append]; omega,by rw [List.drop_zero]; exact c3.symm,rfl⟩ ?_ ?_ ?_
    ·rintro j ⟨l,jj⟩ hj ⟨rfl,A,B,rfl,a2,a3,a4,a5⟩
     have hgv : fr.end_[j]? = some (fr.end_[j]'hj) := List.getElem?_eq_getElem hj
     rw [List.drop_eq_getElem_cons hj] at a4
     generalize fr.end_[j]'hj = v at hgv a4
     obtain ⟨y,ys,b1,b2,b3⟩ := List.map_eq_cons_iff.1 a4
     obtain ⟨B1,B2,b4,b5,b6,b7⟩ := List.filter_eq_cons_iff.1 b1
     subst b4
     have hsm : Small ((A ++ (B1 ++ y :: B2)).map voiceS) := by simp only [Small,List.length_map]; omega
     have hsplit : (A ++ (B1 ++ y :: B2)) = (A ++ B1) ++ y :: B2 := by simp
     have hky : ((A ++ (B1 ++ y :: B2)).map voiceS)[(A ++ B1).length]? = some v := by
      rw [hsplit,List.map_append,List.getElem?_append_right (by simp),List.length_map,Nat.sub_self]
      simp [b2]
     rw [hsplit] at a2 a3 hsm hky ⊢
     obtain ⟨s1,s2,s3⟩ := List.pairwise_append.1 a2
     have hlt : (A ++ B1).length < ((A ++ B1 ++ y :: B2).map voiceS).length := by simp [-List.append_assoc]
     have hfv := find_voice ((A ++ B1 ++ y :: B2).map voiceS) (A ++ B1).length v hsm hky (fun m z hm hz => by
      rw [List.map_append,List.getElem?_append_left (by simpa using hm)] at hz
      obtain ⟨w,hw,rfl⟩ := List.mem_map.1 (List.mem_of_getElem? hz)
      rw [← b2]
      exact keyLt_voice (s3 w hw y (by simp)))
     simp only [dltLen hgv,cond_true,ixNat hgv,Option.bind_some]
     rw [hfv]
     have hdn : decide (((A ++ B1).length : Int) = (((A ++ B1 ++ y :: B2).map voiceS).length : Int)) = false := by
      apply decide_eq_false; omega
     simp only [Option.bind_some]
     rw [hdn,cond_false,cut_voice _ _ hsm hlt]
     have hend : Small fr.end_ := by rw [c3]; simp only [Small,List.length_map]; have := List.length_filter_le q p.sounding.l; omega
     simp only [Option.bind_some,wrLen hend hgv]
     refine ⟨_,rfl,rfl,A ++ B1,B2,?_,?_,by simp at a3 ⊢; omega,?_,?_⟩
     ·have hlen : (A ++ B1).length = ((A ++ B1).map voiceS).length := by rw [List.length_map]
      rw [List.map_append,List.map_cons,hlen,List.take_left,List.drop_append,List.drop_eq_nil_of_le (by omega),List.nil_append,Nat.add_sub_cancel_left,List.drop_one,List.tail_cons,← List.map_append]
     ·refine List.pairwise_append.2 ⟨s1,(List.pairwise_cons.1 s2).2,fun a ha b hb => s3 a ha b (by simp [hb])⟩
     ·rw [b7,b3]
     ·rw [← a5]
      have e1 : B1.filter (fun x => !q x) = B1 := List.filter_eq_self.2 fun z hz => by simpa using b5 z hz
      have e2 : (y :: B2).filter (fun x => !q x) = B2.filter fun x => !q x := by rw [List.filter_cons]; simp [b6]
      rw [List.filter_append,e1,e2]; simp
    ·rintro ⟨l,jj⟩ ⟨rfl,A,B,rfl,a2,a3,a4,a5⟩
     refine ⟨.inl ((A ++ B).map voiceS),by simp,?_⟩
     rw [List.drop_length] at a4
     have e1 : B.filter q = [] := List.map_eq_nil_iff.1 a4
     have e2 : B.filter (fun x => !q x) = B := by
      refine List.filter_eq_self.2 fun z hz => ?_
      have := List.filter_eq_nil_iff.1 e1 z hz
      simpa using this
     rw [e2] at a5
     rw [a5]
    ·intro t ht
     subst ht
     simp only [Sum.elim_inl]
     have hadl := adds_len c5
     -- what begins
     refine bind_invL (fun j (s : List GVoice × Int) => s.2 = (j : Int) ∧ ∃ l ys : List GCLive,s.1 = l.map voiceS ∧ ys.map voiceS = fr.begin.drop j ∧ Adds l ys p'.sounding.l) (fun t => t = .inl (p'.sounding.l.map voiceS)) fr.begin.length (by rw [c4,List.length_map]; omega)
      ⟨rfl,_,xs,rfl,by rw [List.drop_zero]; exact c4.symm,c5⟩ ?_ ?_ ?_
     ·rintro j ⟨l,jj⟩ hj ⟨rfl,l,ys,rfl,a2,a3⟩
      have hgv : fr.begin[j]? = some (fr.begin[j]'hj) := List.getElem?_eq_getElem hj
      rw [List.drop_eq_getElem_cons hj] at a2
      generalize fr.begin[j]'hj = v at hgv a2
      obtain ⟨y,ys,rfl,b2,b3⟩ := List.map_eq_cons_iff.1 a2
      obtain ⟨g1,g2,g3,g4⟩ := a3
      have hsm : Small (l.map voiceS) := by simp only [Small,List.length_map]; exact g1
      obtain ⟨k1,k2,k3⟩ := bsS_srt l y g1 g2
      have hfl := find_less (l.map voiceS) (bsS l y) v hsm (by rw [List.length_map]; exact k1) (fun m z hm hz => by
        rw [List.getElem?_map] at hz
        obtain ⟨w,hw,rfl⟩ := Option.map_eq_some_iff.1 hz
        rw [← b2]
        exact k2 m w hm hw) (fun z hz => by
        rw [List.getElem?_map] at hz
        obtain ⟨w,hw,rfl⟩ := Option.map_eq_some_iff.1 hz
        rw [← b2]
        exact k3 _ w (Nat.le_refl _) hw)
      simp only [dltLen hgv,cond_true,ixNat hgv,Option.bind_some]
      rw [hfl]
      simp only [Option.bind_some]
      have hno : ((bif (decide ((bsS l y : Int) < ((l.map voiceS).length : Int))) then ((ix (l.map voiceS) (bsS l y : Int)).bind fun y43 => bif (decide (y43.desk = v.desk)) then (some (decide (y43.course = v.course))) else (some false)) else (some false)) : Option Bool) = some false := by
       by_cases hlt : bsS l y < l.length
       ·have hg1 : l[bsS l y]? = some (l[bsS l y]'hlt) := List.getElem?_eq_getElem hlt
        have hg2 : (l.map voiceS)[bsS l y]? = some (voiceS (l[bsS l y]'hlt)) := by rw [List.getElem?_map,hg1]; rfl
        have hne := g3 _ (List.mem_of_getElem? hg1)
        simp only [dltLen hg2,cond_true,ixNat hg2,Option.bind_some]
        rw [← b2]
        unfold sameK at hne
        by_cases hd : (voiceS (l[bsS l y]'hlt)).desk = (voiceS y).desk
        ·have hc : ¬ (voiceS (l[bsS l y]'hlt)).course = (voiceS y).course := fun hc => hne ⟨hd,hc⟩
         rw [decide_eq_true hd,decide_eq_false hc]; rfl
        ·rw [decide_eq_false hd]; rfl
       ·have hd : decide ((bsS l y : Int) < ((l.map voiceS).length : Int)) = false := by rw [List.length_map]; apply decide_eq_false; omega
        rw [hd]; rfl
      rw [hno]
      simp only [Option.bind_some,cond_false]
      rw [ins_voice _ _ v hsm (by rw [List.length_map]; exact k1)]
      have hbs : Small fr.begin := by rw [c4]; simp only [Small,List.length_map]; omega
      simp only [Option.bind_some,wrLen hbs hgv]
      refine ⟨_,rfl,rfl,putS l y,ys,?_,b3,g4⟩
      unfold putS
      rw [List.map_append,List.map_cons,List.map_take,List.map_drop,b2]
     ·rintro ⟨l,jj⟩ ⟨rfl,l,ys,rfl,a2,a3⟩
      refine ⟨_,by simp; rfl,?_⟩
      rw [List.drop_length] at a2
      have e1 : ys = [] := List.map_eq_nil_iff.1 a2
      subst e1
      cases a3
      rfl
     ·intro t ht
      subst ht
      simp only [Sum.elim_inl]
      have h23 : ∀ q : GCPlayer,q.sounding.l.length ≤ 1000000 → f23_1 q = some (q.sounding.l.map voiceS) := fun q hq => by
       unfold f23_1
       rw [f42_1_eq _ (by omega)]; rfl
      have hsm : Small (p'.sounding.l.map voiceS) := by simp only [Small,List.length_map]; omega
      rw [h23 _ (by show p'.sounding.l.length ≤ _; omega)]
      simp only [Option.bind_some,f26_1_refl _ hsm,Bool.not_true,cond_false,wrLen hcs hg]
      exact ⟨_,rfl,p',rfl,by rw [c2,hpe],c1⟩
   ·rintro s ⟨p,rfl,hpe,hi⟩
    refine ⟨_,?_,rfl⟩
    have hcond : ((bif (decide (((min calls.length 60 : Nat) : Int) < (calls.length : Int))) then (some (decide (((min calls.length 60 : Nat) : Int) < 60))) else (some false)) : Option Bool) = some false := by
     by_cases hlt : min calls.length 60 < calls.length
     ·have h1 : decide (((min calls.length 60 : Nat) : Int) < (calls.length : Int)) = true := by apply decide_eq_true; omega
      have h2 : decide (((min calls.length 60 : Nat) : Int) < 60) = false := by apply decide_eq_false; omega
      rw [h1,h2]; rfl
     ·have h1 : decide (((min calls.length 60 : Nat) : Int) < (calls.length : Int)) = false := by apply decide_eq_false; omega
      rw [h1]; rfl
    simp only
    rw [hcond]
    rfl
end Go.Proofs.Ytpljabnngpnieaa
