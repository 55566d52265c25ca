/-
 ConsortOne: the law's function gives true. Plain law.
 Own work. No Go text.
-/
import Derived.Test.YtodkhgjhodmeoaaGreatOa
import Derived.Test.YtodkhgjhodmeoaaGreatV6
set_option linter.all false
namespace Go.Proofs.YtodkhgjhodmeoaaGreat
open Go Go.Am
theorem signs_zero : signsS 0 = ([],0) := by
 unfold signsS
 simp [signsR,V_zero,greedy]
theorem pad_one (p : GPiece) (h : pieceS p = 0) : padS [p] = (⟨[p]⟩,0) := by
 have hb : (bandS [p]).2 = 0 := by simp [bandS,lensS,h]
 have hm : maxE [p] = endP p := rfl
 have hl := (pieceS_ok h).2.1
 unfold padS
 rw [if_neg (by simp [hb]),hm]
 simp only [foldE]
 unfold padStep
 have hw : wr (endP p - endP p) = 0 := by rw [Int.sub_self]; rfl
 rw [hw,signs_zero]
 have hd : decide (400 < wr ((p.events.length : Int) + ((([] : List GSign).length : Nat) : Int))) = false := by
  rw [wrI (by simp; try omega) (by simp; omega)]
  simp; omega
 simp only [ne_eq,not_true_eq_false,if_false,hd,cond_false,foldE,padOut,Sum.elim_inl,padP,List.map_nil,List.append_nil,List.nil_append]
theorem f6_eq (p : GPiece) (hp : SmallP p) : f6 p = some true := by
 have hs : SizeC [p] := ⟨by simp [Small],fun q hq => by rw [List.mem_singleton.1 hq]; exact hp⟩
 obtain ⟨r,r1,r2,r3,r4⟩ := sounds_one p hp
 unfold f6
 rw [f9_eq [p] hs.1]
 simp only [Option.bind_some,f10]
 cases bigS [p] with
 | true => rfl
 | false =>
  have d0 : decide (r.2 ≠ r.2) = false := by simp
  simp only [cond_false,r1,r2,Option.bind_some,d0,same_tones r.1 r3,Bool.not_true]
  by_cases h : pieceS p = 0
  ·have hm := (pieceS_ok h).2.1
   have hol : (onsS p).length = p.events.length + 1 := by unfold onsS; rw [ons_len]; simp; omega
   have ho : onsetS p = (onsS p,0) := by unfold onsetS; rw [if_pos h]
   have d1 : decide (r.2 ≠ 0) = false := by simp [r4.2 h]
   have d2 : decide ((0 : Int) ≠ 0) = false := rfl
   have d3 : decide (((cuesAt 0 p p.events.length).length : Int) ≠ (p.events.length : Int)) = false := by simp [cuesAt_len]
   have d4 : decide (((onsS p).length : Int) ≠ wr ((p.events.length : Int) + 1)) = false := by
    rw [wrNat (by omega),hol]; simp
   simp only [d1,cond_false,score_one p hp h,prog_onsets p hp,ho,Option.bind_some,d2,d3,d4]
   rw [loop_none (cuesAt 0 p p.events.length) (by simp only [Small,cuesAt_len]; omega) (fun i y hy => by
    have hi : i < p.events.length := by have := (List.getElem?_eq_some_iff.1 hy).1; rw [cuesAt_len] at this; exact this
    have hyy : y = ⟨onN p i,0,(i : Int)⟩ := by
     unfold cuesAt at hy
     rw [List.getElem?_map,List.getElem?_range hi] at hy
     exact (Option.some.inj hy).symm
    simp only [dltLen hy,cond_true,ixNat hy,ixNat (ons_at hm hi),Option.bind_some,hyy,eq_cue,Bool.not_true,cond_false]) (by simp)]
   have d5 : decide ((0 : Int) = 0) = true := rfl
   simp only [Option.bind_some,Sum.elim_inl,prog_pad [p] hs,pad_one p h,d5,cond_true]
   rw [same_consort ⟨[p]⟩ (by simp [Small]) (fun q hq => by rw [List.mem_singleton.1 hq]; exact valid_q hp h)]
   rfl
  ·have d1 : decide (r.2 ≠ 0) = true := by
    have : ¬ r.2 = 0 := fun e => h (r4.1 e)
    simpa using this
   simp only [d1,cond_true,cond_false]
end Go.Proofs.YtodkhgjhodmeoaaGreat
