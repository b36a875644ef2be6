import Derived.Test.YtclekllaikcglaaGreatMap
import Derived.Test.YtclekllaikcglaaGreatSortD
import Derived.Test.YtclekllaikcglaaGreatSortE
import Derived.RangeFuncFrom
import Derived.RangeFuncCalls
import Derived.RangeFuncLeaves
import Derived.RangeFuncNested
import Derived.OwnWalkIn
import Derived.TacticsInMore
import Derived.LoopNIn
import Derived.LoopIn

/- The library's sort at uint32: whatever the row, it is sorted. -/
namespace Go.Proofs.YtclekllaikcglaaGreat
open Go Go.RowKit
open Go.Sort (swp PermIn SortedIn ltInt Holds permIn_trans permIn_refl swo_ltInt insertionSort_holds heapSort_holds reverseRange_holds partialInsertionSort_holds partition_holds partitionEqual_holds round_eq round_part)
def PQ (g off n a b : Nat) (w0 : World) (d : Array Int) (e : Ending) (w' : World) : Prop := ∃ d', e = .returned (.tuple #[]) ∧ PermIn a b d d' ∧ SortedIn ltInt a b d' ∧ SW g off n w0 d' w'
def TODO (a b : Nat) (d : Array Int) (a' b' : Nat) (dk : Array Int) : Prop := ∀ R, PermIn a' b' dk R → SortedIn ltInt a' b' R → PermIn a b d R ∧ SortedIn ltInt a b R
theorem TODO.perm {a b a' b' : Nat} {d dk d2 : Array Int} (h : TODO a b d a' b' dk) (hp : PermIn a' b' dk d2) : TODO a b d a' b' d2 := fun R h1 h2 => h R (permIn_trans _ _ _ _ _ hp h1) h2
theorem TODO.done {g off n a b a' b' : Nat} {w0 w : World} {d dk R : Array Int} (h : TODO a b d a' b' dk) (hp : PermIn a' b' dk R ∧ SortedIn ltInt a' b' R) (hs : SW g off n w0 R w) : PQ g off n a b w0 d (.returned (.tuple #[])) w :=
 ⟨R, rfl, (h R hp.1 hp.2).1, (h R hp.1 hp.2).2, hs⟩
set_option maxRecDepth 1000000 in
set_option maxHeartbeats 16000000 in
theorem pdq32 (g off cap n : Nat) (w0 : World) (hg : g < w0.heap.size) (hsz : n ≤ 255) : ∀ (N a b limit : Nat) (d : Array Int) (w : World), b - a < N → SW g off n w0 d w → a ≤ b → b ≤ n → limit ≤ 1000 → Sort.Below ltInt a b d →
  Calls Tryz.prog 117 #[.slice (some ⟨g, off, none⟩) n cap, .int .i64 a, .int .i64 b, .int .i64 limit] w (PQ g off n a b w0 d) := by
 intro N
 induction N with
 | zero => intro a b limit d w h; exact absurd h (Nat.not_lt_zero _)
 | succ N ih =>
  intro a b limit d w hN hs hab hb hlim hBel
  have IH := Lib.hid ih
  have HS := Lib.hid hs
  have HB := Lib.hid hBel
  clear ih hs hBel
  go_enter Tryz.func117, Tryz.ntmps117
  go_wp2
  go_loopg [1, 2, 3, 8, 9] (b - a) (fun k s1 s2 s3 s8 s9 wr => ∃ (a' b' lim : Nat) (wb wp : Bool) (dk : Array Int), s1 = .int .i64 a' ∧ s2 = .int .i64 b' ∧ s3 = .int .i64 lim ∧ s8 = .bool wb ∧ s9 = .bool wp ∧
   a' ≤ b' ∧ b' ≤ n ∧ b' - a' ≤ k ∧ k ≤ b - a ∧ lim ≤ 1000 ∧ Hid (Sort.Below ltInt a' b' dk) ∧ SW g off n w0 dk wr ∧ Hid (TODO a b d a' b' dk))
  case atStart => exact ⟨a, b, limit, true, true, d, rfl, rfl, rfl, rfl, rfl, hab, hb, Nat.le_refl _, Nat.le_refl _, hlim, HB, HS.out, Lib.hid (fun R h1 h2 => ⟨h1, h2⟩)⟩
  case round =>
   obtain ⟨a', b', lim, wb, wp, dk, rfl, rfl, rfl, rfl, rfl, hab', hb', hk, hkN, hlim', HB', hs, HT⟩ := hrel
   have hab2 : a' ≤ b' := hab'
   have HK := Lib.hid hs
   clear hs HS HB
   by_cases h12 : b' - a' ≤ 12
   ·have h12z : (b' : Int) - (a' : Int) ≤ 12 := by omega
    have GC := Lib.hid (ins32 g off cap a' b' n dk wr HK.out.holds HK.out.size hab' hb' (by omega))
    have HP := Lib.hid (insertionSort_holds (lt := ltInt) swo_ltInt dk a' b' hab' (by rw [HK.out.size]; exact hb'))
    go_wp2_with (go_at_call 130; (with_reducible refine GC.out.mono ?_); rintro e w1 ⟨rfl, hw1⟩)
    (try simp only [Exit.inBlock, Exit.then]); refine bodyPost_ret (results_none rfl _ _ _) rfl ?_
    exact HT.out.done HP.out (HK.out.trans hw1)
   ·have h12z : ¬ ((b' : Int) - (a' : Int) ≤ 12) := by omega
    by_cases hl0 : lim = 0
    ·subst hl0
     have GC := Lib.hid (heap32 g off cap a' b' n dk wr HK.out.holds HK.out.size hab' hb' (by omega))
     have HP := Lib.hid (heapSort_holds (lt := ltInt) swo_ltInt dk a' b' hab' (by rw [HK.out.size]; exact hb'))
     go_wp2_with (go_at_call 131; (with_reducible refine GC.out.mono ?_); rintro e w1 ⟨rfl, hw1⟩)
     (try simp only [Exit.inBlock, Exit.then]); refine bodyPost_ret (results_none rfl _ _ _) rfl ?_
     exact HT.out.done HP.out (HK.out.trans hw1)
    ·have hl0z : ¬ ((lim : Int) = 0) := by omega
     have hl0b : ((lim : Int) == 0) = false := by simp; omega
     go_upto_if 35 with fail
     go_cut [3] from 19 to 133 (fun s3 wc => ∃ (l2 : Nat) (d1 : Array Int), s3 = .int .i64 l2 ∧ l2 ≤ 1000 ∧ Hid (PermIn a' b' dk d1) ∧ SW g off n w0 d1 wc)
     case first =>
      cases wb
      ·have GC := Lib.hid (break32 g off cap a' b' n dk w0 wr HK.out hg hab' hb' hsz)
       go_wp2_with (go_at_call 132; (with_reducible refine GC.out.mono ?_); rintro e w1 ⟨d1, rfl, hp1, hw1⟩; have HP1 := Lib.hid hp1; have HW1 := Lib.hid hw1; clear hp1 hw1)
       go_meet
       case rel => exact ⟨lim - 1, d1, by go_num, by omega, HP1, HW1.out⟩
      ·go_wp2_with fail
       go_meet
       case rel => exact ⟨lim, dk, rfl, hlim', Lib.hid (permIn_refl _ _ _), HK.out⟩
     case rest =>
     obtain ⟨l2, d1, rfl, hl2, HP1, hs⟩ := hcut
     have HK1 := Lib.hid hs
     clear hs
     have GC := Lib.hid (pivot32 g off cap a' b' n d1 wc HK1.out.holds HK1.out.size (HK1.out.lt hg) (by omega) hb' (by omega))
     go_upto_if 50 with (go_at_call 133; (with_reducible refine GC.out.mono ?_); rintro e w2 ⟨pv, h, rfl, hpa, hpb, hx2⟩; have HK2 := Lib.hid (HK1.out.ext hg hx2); clear hx2)
     go_cut [11, 12] from 19 to 133 (fun s11 s12 wc => ∃ (p2 : Nat) (h2 : Int) (d2 : Array Int), s11 = .int .i64 p2 ∧ s12 = .int .i64 h2 ∧ a' ≤ p2 ∧ p2 < b' ∧ Hid (PermIn a' b' dk d2) ∧ SW g off n w0 d2 wc)
     case first =>
      by_cases hh : h = 2
      ·subst hh
       have GV := Lib.hid (rev32 g off cap a' b' n d1 w0 w2 HK2.out (by omega) hb' (by omega))
       have HPV := Lib.hid (reverseRange_holds d1 a' b' hab' (by rw [HK1.out.size]; exact hb'))
       go_wp2_with (go_at_call 134; (with_reducible refine GV.out.mono ?_); rintro e w3 ⟨rfl, hw3⟩; have HW3 := Lib.hid hw3; clear hw3)
       go_meet
       case rel => exact ⟨(b' - 1) - (pv - a'), 1, _, by congr 1; omega, rfl, by omega, by omega, Lib.hid (permIn_trans _ _ _ _ _ HP1.out HPV.out), HW3.out⟩
      ·have hhb : (h == 2) = false := by simpa using hh
       go_wp2_with fail
       go_meet
       case rel => exact ⟨pv, h, d1, rfl, rfl, hpa, hpb, HP1, HK2.out⟩
     case rest =>
     clear HK HK1 HK2 HP1 GC
     obtain ⟨p2, h2, d2, rfl, rfl, hp2a, hp2b, HP2, hs⟩ := hcut
     have HK2 := Lib.hid hs
     clear hs
     go_upto_region 15 with fail
     go_cut [68] from 19 to 133 (fun s68 wx => ∃ v : Bool, s68 = .bool v ∧ wx = wc)
     case first =>
      cases wb <;> cases wp
      all_goals go_wp2_with fail
      all_goals go_meet
      all_goals exact ⟨_, rfl, rfl⟩
     case rest =>
     obtain ⟨v, rfl, hwx⟩ := hcut
     subst hwx
     go_upto_if 68 with fail
     go_cut [11] from 19 to 133 (fun s11 wc3 => ∃ d3 : Array Int, s11 = .int .i64 p2 ∧ Hid (PermIn a' b' dk d3) ∧ SW g off n w0 d3 wc3)
     case first =>
      cases v
      ·go_wp2_with fail
       go_meet
       case rel => exact ⟨d2, rfl, HP2, HK2.out⟩
      ·have GI := Lib.hid (partIns32 g off cap a' b' n d2 w0 wc HK2.out (by omega) hb' (by omega))
       have hb2 : b' ≤ dk.size ∧ b' ≤ d2.size := by
        have h1 := HK2.out.size
        have h2 := HP2.out.1
        omega
       have HPI := Lib.hid (partialInsertionSort_holds (lt := ltInt) swo_ltInt d2 a' b' (by omega) hb2.2 (HB'.out.perm hb2.1 HP2.out))
       clear hb2
       generalize Sort.partialInsertionSort ltInt d2 a' b' = Rp at *
       obtain ⟨d3, v3⟩ := Rp
       cases v3
       ·go_wp2_with (go_at_call 135; (with_reducible refine GI.out.mono ?_); rintro e w3 ⟨rfl, hw3⟩; have HW3 := Lib.hid hw3; clear hw3)
        go_meet
        case rel => exact ⟨d3, rfl, Lib.hid (permIn_trans _ _ _ _ _ HP2.out HPI.out.1), HW3.out⟩
       ·go_wp2_with (go_at_call 135; (with_reducible refine GI.out.mono ?_); rintro e w3 ⟨rfl, hw3⟩; have HW3 := Lib.hid hw3; clear hw3)
        (try simp only [Exit.inBlock, Exit.then]); refine bodyPost_ret (results_none rfl _ _ _) rfl ?_
        exact HT.out.done ⟨permIn_trans _ _ _ _ _ HP2.out HPI.out.1, HPI.out.2 (by first | exact rfl | exact trivial)⟩ HW3.out
     case rest =>
     clear HK2 HP2
     obtain ⟨d3, rfl, HP3, hs⟩ := hcut
     have hsz3 : b' ≤ dk.size ∧ b' ≤ d3.size := by
      have h1 := hs.size
      have h2 := HP3.out.1
      omega
     have HB3 : Hid (Sort.Below ltInt a' b' d3) := Lib.hid (HB'.out.perm hsz3.1 HP3.out)
     have HT3 : Hid (TODO a b d a' b' d3) := Lib.hid (HT.out.perm HP3.out)
     have HZ3 := Lib.hid hsz3.2
     have HK3 := Lib.hid hs
     obtain ⟨G, hG⟩ := names_of d3
     have hcw := hs.cells G hG
     have HG := Lib.hid hG
     clear hs hsz3 HP3 HT HB' hG
     go_upto_region 17 with fail
     go_cut [87] from 19 to 133 (fun s87 wc4 => ∃ v : Bool, s87 = .bool v ∧ Hid (v = true → 0 < a' ∧ ltInt d3[a' - 1]! d3[p2]! = false) ∧ SW g off n w0 d3 wc4)
     case first =>
      by_cases ha0 : 0 < a'
      ·have ha0i : (0 : Int) < (a' : Int) := by omega
       go_quiet (first | (go_at_call 136; refine Calls.quiet_of_same (less32 _ _ _)))
       go_wp2_with fail
       go_meet
       case rel => exact ⟨_, rfl, Lib.hid (fun h => ⟨ha0, by rw [← HG.out, ← HG.out]; simpa using h⟩), HK3.out.drewN nq⟩
      ·have ha0d : decide (0 < a') = false := by simpa using ha0
       have ha0e : decide ((0 : Int) < (a' : Int)) = false := by simp; omega
       go_quiet (first | (go_at_call 136; refine Calls.quiet_of_same (less32 _ _ _)))
       go_wp2_with fail
       go_meet
       case rel => exact ⟨false, rfl, Lib.hid (fun h => by cases h), HK3.out.drewN nq⟩
     case rest =>
     clear hcw HG HK3
     obtain ⟨v, rfl, HV, hs⟩ := hcut
     have HK3 := Lib.hid hs
     clear hs
     cases v
     ·have GP := Lib.hid (part32 g off cap a' b' p2 n d3 w0 _ HK3.out hp2a hp2b hb' (by omega))
      obtain ⟨Rp, hRp⟩ : ∃ Rp, Sort.partition ltInt d3 a' b' p2 = Rp := ⟨_, rfl⟩
      rw [hRp] at GP
      obtain ⟨mid, ap, d4⟩ := Rp
      have HRP := Lib.hid (round_part (lt := ltInt) swo_ltInt (partition_holds ltInt) (d3 := d3) (a := a') (b := b') (pivot := p2) hp2a hp2b HZ3.out HB3.out hRp)
      obtain ⟨hm1, hm2, _⟩ := HRP.out
      clear hRp
      have hmid1 : a' ≤ mid := hm1
      have hmid2 : mid < b' := hm2
      clear hm1 hm2
      by_cases hlr : mid - a' < b' - mid
      ·have hlri : (mid : Int) - (a' : Int) < (b' : Int) - (mid : Int) := by omega
       go_wp2_with (first
        | (go_at_call 138; (with_reducible refine GP.out.mono ?_); rintro e w5 ⟨ap2, rfl, hw5⟩; have GR := Lib.hid (IH.out a' mid l2 d4 w5 (by omega) hw5 hmid1 (by omega) hl2 HRP.out.2.2.2.1); clear hw5)
        | (go_at_call 117; (with_reducible refine GR.out.mono ?_); rintro e w6 ⟨d5, rfl, hp5, hs5, hw6⟩; have HP5 := Lib.hid hp5; have HS5 := Lib.hid hs5; have HW6 := Lib.hid hw6; clear hp5 hs5 hw6))
       have HQ := Lib.hid (HRP.out.2.2.2.2.2.1 d5 HP5.out HS5.out)
       go_roundg (b' - (mid + 1))
       case measure => omega
       case rel => exact ⟨mid + 1, b', l2, _, ap2, d5, by go_num, rfl, rfl, rfl, rfl, by omega, hb', Nat.le_refl _, by omega, hl2, Lib.hid HQ.out.1, HW6.out, Lib.hid (fun R h1 h2 => HT3.out R (HQ.out.2 R h1 h2).1 (HQ.out.2 R h1 h2).2)⟩
      ·have hlri : ¬ (mid : Int) - (a' : Int) < (b' : Int) - (mid : Int) := by omega
       go_wp2_with (first
        | (go_at_call 138; (with_reducible refine GP.out.mono ?_); rintro e w5 ⟨ap2, rfl, hw5⟩; have GR := Lib.hid (IH.out (mid + 1) b' l2 d4 w5 (by omega) hw5 (by omega) hb' hl2 HRP.out.2.2.2.2.1); clear hw5; rw [show ((mid + 1 : Nat) : Int) = (mid : Int) + 1 from rfl] at GR)
        | (go_at_call 117; (with_reducible refine GR.out.mono ?_); rintro e w6 ⟨d5, rfl, hp5, hs5, hw6⟩; have HP5 := Lib.hid hp5; have HS5 := Lib.hid hs5; have HW6 := Lib.hid hw6; clear hp5 hs5 hw6))
       have HQ := Lib.hid (HRP.out.2.2.2.2.2.2 d5 HP5.out HS5.out)
       go_roundg (mid - a')
       case measure => omega
       case rel => exact ⟨a', mid, l2, _, ap2, d5, rfl, rfl, rfl, rfl, rfl, by omega, by omega, Nat.le_refl _, by omega, hl2, Lib.hid HQ.out.1, HW6.out, Lib.hid (fun R h1 h2 => HT3.out R (HQ.out.2 R h1 h2).1 (HQ.out.2 R h1 h2).2)⟩
     ·obtain ⟨ha0, hnl⟩ := HV.out rfl
      have GP := Lib.hid (partEq32 g off cap a' b' p2 n d3 w0 _ HK3.out hp2a hp2b hb' (by omega))
      obtain ⟨Rp, hRp⟩ : ∃ Rp, Sort.partitionEqual ltInt d3 a' b' p2 = Rp := ⟨_, rfl⟩
      rw [hRp] at GP
      obtain ⟨mid, d4⟩ := Rp
      have HRP := Lib.hid (round_eq (lt := ltInt) swo_ltInt (partitionEqual_holds ltInt) (d3 := d3) (a := a') (b := b') (pivot := p2) ha0 hp2a hp2b HZ3.out HB3.out hnl hRp)
      obtain ⟨hm1, hm2, _⟩ := HRP.out
      clear hnl HV hRp
      have hmid1 : a' < mid := hm1
      have hmid2 : mid ≤ b' := hm2
      clear hm1 hm2
      go_wp2_with (go_at_call 137; (with_reducible refine GP.out.mono ?_); rintro e w5 ⟨rfl, hw5⟩; have HW5 := Lib.hid hw5; clear hw5)
      go_roundg (b' - mid)
      case measure => omega
      case rel => exact ⟨mid, b', l2, wb, wp, d4, rfl, rfl, rfl, rfl, rfl, hmid2, hb', Nat.le_refl _, by omega, hl2, Lib.hid HRP.out.2.2.2.1, HW5.out, Lib.hid (fun R h1 h2 => HT3.out R (HRP.out.2.2.2.2 R h1 h2).1 (HRP.out.2.2.2.2 R h1 h2).2)⟩
end Go.Proofs.YtclekllaikcglaaGreat

/- slices.Sorted of what an iterator gives, at uint32. -/
namespace Go.Proofs.YtclekllaikcglaaGreat
open Go Go.RowKit
open Go.Sort (swp PermIn SortedIn ltInt Holds)
attribute [local go_sem] Oper.semAt_some
theorem und_sl32 : Tryz.prog.underlying 43 = some (.slice 46) := by kernel_rfl
theorem info_e32 : (Tryz.prog.info? 46).map (fun i => (i.zero, i.size, i.bytes)) = some (some (.int .u32 0), 1, 4) := by kernel_rfl
set_option maxRecDepth 100000 in
theorem sort32 (g off cap n : Nat) (d : Array Int) (w : World) (hH : Holds e32 w g off d) (hn : d.size = n) (hg : g < w.heap.size) (hsz : n ≤ 255) :
  Calls Tryz.prog 95 #[.slice (some ⟨g, off, none⟩) n cap] w (PQ g off n 0 n w d) := by
 have hl := (Sort.bitsLen_le_iff n 8).2 (by omega)
 have GL := Lib.hid (lenU n (by omega))
 have hs := SW.start hH
 rw [hn] at hs
 have GP := Lib.hid (pdq32 g off cap n w hg hsz (n + 1) 0 n (Sort.bitsLen n) d w (by omega) hs (by omega) (by omega) (by omega) (.inl rfl))
 rw [show ((0 : Nat) : Int) = (0 : Int) from rfl] at GP
 have hw : IntKind.u64.wrap (n : Int) = (n : Int) := by rw [IntKind.wrap_u64]; omega
 generalize Sort.bitsLen n = l at *
 clear hs hH hn
 go_enter Tryz.func95, Tryz.ntmps95
 go_wp2_with (first
  | (go_at_call 118; (with_reducible refine (GL.out _).mono ?_); rintro e w1 ⟨rfl, rfl⟩)
  | (go_at_call 117; (with_reducible refine GP.out.mono ?_); rintro e w1 ⟨d', rfl, h1, h2, h3⟩))
 go_end0
 exact ⟨d', rfl, h1, h2, h3⟩
theorem row_holds {w : World} {B g cap n : Nat} {xs : List Int} (h : Row w B 46 (.slice (some ⟨g, 0, none⟩) n cap) (xs.map e32)) : Holds e32 w g 0 xs.toArray ∧ g < w.heap.size ∧ n = xs.length := by
 rcases h.look with ⟨h1, _⟩ | ⟨g', cap', cur, hv, hg, hh, h3, h5, h6⟩
 ·cases h1
 ·cases hv
  refine ⟨fun j hj => ⟨?_, frozen_blk hh⟩, blk_lt hh, by simp⟩
  have := Row.cellAt h j (by simpa using hj)
  rw [Nat.zero_add, this]
  simp at hj
  simp [getElem!_pos, hj]
theorem sw_row {w w' : World} {B g cap : Nat} {xs : List Int} {d' : Array Int} (h : Row w B 46 (.slice (some ⟨g, 0, none⟩) xs.length cap) (xs.map e32)) (hs : SW g 0 xs.length w d' w') :
  Row w' B 46 (.slice (some ⟨g, 0, none⟩) xs.length cap) (d'.toList.map e32) := by
 obtain ⟨h1, h2⟩ := h
 rcases h2 with ⟨h2, _⟩ | ⟨g', cap', cur, hv, hg, hh, h3, h4, h5, h6⟩
 ·cases h2
 ·simp only [Value.slice.injEq, Option.some.injEq, Addr.mk.injEq] at hv
  obtain ⟨⟨hgg, _, _⟩, _, hcc⟩ := hv
  subst hgg hcc
  obtain ⟨cur', k1, k2⟩ := hs.shape _ _ _ hh
  have hl : (d'.toList.map e32).length = xs.length := by simp [hs.size]
  refine ⟨by simp, .inr ⟨g, cap, cur', by rw [hl], hg, k1, by rw [hl]; simpa using h3, h4, by rw [k2]; exact h5, ?_⟩⟩
  rw [hl, Nat.mul_one]
  apply List.ext_getElem?
  intro i
  rw [List.getElem?_take]
  by_cases hi : i < xs.length
  ·rw [if_pos hi]
   have := (hs.holds i (by rw [hs.size]; exact hi)).1
   rw [Nat.zero_add] at this
   have h7 : cur'[i]? = some (e32 d'[i]!) := by simpa [World.cell?, k1] using this
   have hid : i < d'.size := by rw [hs.size]; exact hi
   simp [h7, hid, getElem!_pos]
  ·rw [if_neg hi]
   exact (List.getElem?_eq_none (by rw [hl]; omega)).symm
def APS (S : List Int → Prop) (w : World) (e : Ending) (w' : World) : Prop := ∃ v xs, e = .returned v ∧ S xs ∧ Row w' w.heap.size 46 v (xs.map e32) ∧ Ext w w'
structure AP (w0 : World) (Bs : Nat) (xs : List Int) (W : World) : Prop where
 box : ∃ v, W.heap[Bs]? = some (.cells #[v] 43) ∧ Row W w0.heap.size 46 v (xs.map e32)
 ext : Ext w0 W
theorem row_other {W W' : World} {B : Nat} {e : TypeId} {v : Value} {xs : List Value} {row : Option Nat} (h : Row W B e v xs) (hg : W.grownBy W' row) (hr : ∀ r o, row = some r → W.heap[r]? = some o → ∀ cur, o ≠ .cells cur e (0, 0)) (_hr2 : ∀ r, row = some r → r < W.heap.size) : Row W' B e v xs := by
 obtain ⟨h1, h2⟩ := h
 refine ⟨h1, ?_⟩
 rcases h2 with h2 | ⟨g, cap, cur, hv, hgb, hh, r⟩
 ·exact .inl h2
 ·refine .inr ⟨g, cap, cur, hv, hgb, ?_, r⟩
  rw [hg.block g (blk_lt hh) (fun e => hr g _ e.symm hh cur rfl)]
  exact hh
theorem ap_own (w0 : World) (Bs B : Nat) (hB : w0.heap.size ≤ B) : OwnFrom B (AP w0 Bs) := fun s W W' row h hg hr => by
 obtain ⟨v, hv, hrow⟩ := h.box
 refine ⟨⟨v, ?_, ?_⟩, h.ext.below.grown hg h.ext.size (fun k e => Nat.le_trans hB (hr k e).1)⟩
 ·rw [hg.block Bs (blk_lt hv) (fun e => by
   obtain ⟨_, o, ho, hc⟩ := hr Bs e.symm
   rw [hv] at ho; cases ho; cases hc)]
  exact hv
 ·refine row_other hrow hg (fun r o e ho cur hoc => ?_) (fun r e => blk_lt (hr r e).2.choose_spec.1)
  obtain ⟨_, o', ho', hc⟩ := hr r e
  rw [ho] at ho'; cases ho'
  rw [hoc] at hc; cases hc
theorem row_block_ne {W : World} {B : Nat} {e : TypeId} {v : Value} {xs : List Value} (h : Row W B e v xs) {j : Nat} {o : Obj} (hj : W.heap[j]? = some o) (ho : ∀ cur, o ≠ .cells cur e (0, 0)) : some j ≠ v.ownBlock := by
 intro he
 rcases h.2 with ⟨rfl, _⟩ | ⟨g, cap, cur, rfl, _, hh, _⟩
 ·cases he
 ·simp only [Value.ownBlock, Option.some.injEq] at he
  subst he
  rw [hh] at hj
  cases hj
  exact ho _ rfl
theorem own_slice {W : World} {B n : Nat} {e : TypeId} {v : Value} {xs : List Value} (h : W.ownsRow B e 1 v n xs) : ∃ ad n c, v = .slice ad n c := by
 rcases h.2 with ⟨rfl, _⟩ | ⟨g, cap, cur, rfl, _⟩
 ·exact ⟨_, _, _, rfl⟩
 ·exact ⟨_, _, _, rfl⟩
theorem sbox_ne (v : Value) : ∀ cur, Obj.cells #[v] 43 (0, 0) ≠ .cells cur 46 (0, 0) := fun cur e => by cases e
theorem ap_step {w0 W w3 : World} {Bs : Nat} {pre : List Int} {v v' : Value} {x : Int} (hB : w0.heap.size ≤ Bs) (hv : W.heap[Bs]? = some (.cells #[v] 43)) (hrow : Row W w0.heap.size 46 v (pre.map e32)) (hx : Ext w0 W)
  (h1 : w3.ownsRow w0.heap.size 46 1 v' ((pre.map e32).length + 1) (pre.map e32 ++ [e32 x])) (hg : (W.alloc (.cells #[e32 x] 46)).grownBy w3 v.ownBlock) :
  w3.heap[Bs]? = some (.cells #[v] 43) ∧ KeepsOthers W (w3.setCell ⟨Bs, 0, none⟩ v') ∧ AP w0 Bs (pre ++ [x]) (w3.setCell ⟨Bs, 0, none⟩ v') := by
 have hrow1 : Row (W.alloc (.cells #[e32 x] 46)) w0.heap.size 46 v (pre.map e32) := hrow.ext ((Ext.refl W).alloc _)
 have hv1 := heap_alloc_old W (.cells #[e32 x] 46) hv
 have hv3 : w3.heap[Bs]? = some (.cells #[v] 43) := by
  rw [hg.block Bs (blk_lt hv1) (row_block_ne hrow1 hv1 (sbox_ne v))]
  exact hv1
 refine ⟨hv3, ((KeepsOthers.alloc W _).trans (KeepsOthers.of_grownBy hg fun j o hj ho => ?_)).trans (KeepsOthers.setCell _ _ _), ⟨⟨v', ?_, ?_⟩, ?_⟩⟩
 ·rcases hrow1.2 with ⟨rfl, _⟩ | ⟨g, cap, cur, rfl, _, hh, _⟩
  ·cases hj
  ·simp only [Value.ownBlock, Option.some.injEq] at hj
   subst hj
   rw [hh] at ho
   cases ho
   rfl
 ·exact heap_setCell_same (i := 0) _ hv3
 ·have h2 : Row w3 w0.heap.size 46 v' ((pre ++ [x]).map e32) := by
   rw [List.map_append]
   unfold Row
   rw [List.length_append]
   exact h1
  refine ⟨h2.1, ?_⟩
  rcases h2.2 with h3 | ⟨g, cap, cur, e1, e2, hh, r⟩
  ·exact .inl h3
  ·refine .inr ⟨g, cap, cur, e1, e2, ?_, r⟩
   rw [heap_setCell_other _ _ _ (fun e => by
    have e : g = Bs := e
    subst e
    rw [hv3] at hh
    exact sbox_ne v _ (by injection hh))]
   exact hh
 ·exact ((hx.below.alloc hx.size _).grown hg (by have := hx.size; simp; omega) (fun k e => (hrow1.lt k e).1)).setCell hB _
set_option maxRecDepth 100000 in
set_option maxHeartbeats 4000000 in
theorem appendSeq32 (gf : Nat) (lb : Array Value) (N : Nat) (hN : N ≤ 1000) (S : List Int → Prop) (w : World) (eg : ∀ args w, (callFunc gf args).run Tryz.prog w = .ok (.enter gf args) w)
  (hseq : SeqStopsK Fence.wide 2 Tryz.prog gf lb (fun x : Int => #[Value.int .u32 x]) KeepsWalks S (fun _ => True) N w) :
  Calls Tryz.prog 116 #[.slice none 0 0, .func (.func gf) #[] lb] w (APS S w) := by
 refine (callsIn_wide (n := 3)).1 ?_
 refine callsIn_of_wp_marks Tryz.func116 rfl trivial ?_ rfl
 simp only [Tryz.ntmps116, List.size_toArray, List.length_cons, List.length_nil, Nat.reduceAdd, Nat.reduceSub, Array.replicate_succ, Array.replicate_zero, List.push_toArray, List.append_toArray, List.nil_append, List.cons_append]
 gi_wp2
 obtain ⟨W0, hW0⟩ : ∃ W0, w.alloc (.cells #[.slice none 0 0] 43) = W0 := ⟨_, rfl⟩
 have hsz : W0.heap.size = w.heap.size + 1 := by rw [← hW0]; simp
 have k0 : W0.heap[w.heap.size]? = some (.cells #[.slice none 0 0] 43) := by rw [← hW0]; exact heap_alloc_new _ _
 have kx : Ext w W0 := by rw [← hW0]; exact (Ext.refl w).alloc _
 rw [hW0]
 clear hW0
 refine wpIn_rangeFunc_ownF (α := Int) (a₁ := ?a1) rfl (by omega) (gf := gf) (lb := lb) rfl trivial eg
  hseq (fun h k => h.trans k) walksK_b kx (fun _ => rfl)
  (AP w w.heap.size) (fun _ _ _ => False) (ap_own w _ _ (by omega)) (fun c s A B row h => h.elim) ⟨⟨_, k0, Row.nil _ _ _⟩, kx⟩ ?assign ?body ?done ?stop
 case assign =>
  intro l x W K hK
  gi_wp2
  exact hK
 case body =>
  rintro l pre x W ⟨⟨v, hv, hrow⟩, hx⟩ hlen
  obtain ⟨i0, hi, hz0, hz1, hz2⟩ := info_parts info_e32
  have c1 := cell_blk (i := 0) hv rfl
  have hl : (pre.map e32).length = pre.length := by simp
  have HR := Lib.hid hrow
  have HV := Lib.hid hv
  have HX := Lib.hid hx
  have HL := Lib.hid hl
  have hpl : pre.length ≤ 1000 := by omega
  have hws : w.heap.size ≤ W.heap.size := hx.size
  have hrow1 := Lib.hid (hrow.ext ((Ext.refl W).alloc (.cells #[e32 x] 46)))
  clear hrow hv hx hl
  gi_wp2_with (gi_at_builtin; refine wpListIn_append_own _ rfl _ _ 43 rfl w.heap.size 46 i0 (.int .u32 0) 1 4 und_sl32 hi hz0 hz1 hz2 rfl (by decide) v (pre.map e32).length (pre.map e32) rfl hrow1.out ⟨W.heap.size, 0, none⟩ 1 1 [e32 x] rfl rfl (cells_one_new _ _ _) (by simp [Value.oneCell']) (by rw [HL.out]; unfold maxLen; omega) (by rw [HL.out]; omega) (by simp; omega) ?_; intro v' w3 hown' hg3 hnil3; obtain ⟨ad', n', cap', hvv⟩ := own_slice hown'; subst hvv; obtain ⟨k1, k2, k3⟩ := ap_step (Nat.le_refl _) HV.out HR.out HX.out hown' hg3; have c3 := cell_blk (i := 0) k1 rfl; have f3 : w3.frozen? ⟨w.heap.size, 0, none⟩ = false := frozen_blk k1; have K2 := Lib.hid k2; have K3 := Lib.hid k3; clear k1 k2 k3 hown' hg3 hnil3)
  exact ⟨K2.out, K2.out.walks, K3.out⟩
 case done =>
  rintro D xs W hD hS ⟨⟨v, hv, hrow⟩, hx⟩ hK
  have c1 := cell_blk (i := 0) hv rfl
  have HK := Lib.hid hK
  have HR := Lib.hid hrow
  have HX := Lib.hid hx
  have HS := Lib.hid hS
  clear hK hrow hx hS hv
  gi_wp2
  refine ⟨by simp, .inl ⟨_, _, rfl, run_takeDeferred HK.out, ?_⟩⟩
  refine ⟨_, results_tmp rfl _ _ _, v, xs, rfl, HS.out, ?_, ?_⟩
  ·exact row_other HR.out (grownBy_putObj' _ _ _) (fun r o e ho cur hoc => by cases e; rw [HK.out] at ho; cases ho; cases hoc) (fun r e => by cases e; exact blk_lt HK.out)
  ·exact HX.out.below.grown (grownBy_putObj' _ _ _) HX.out.size (fun k e => by cases e; omega)
 case stop =>
  rintro D c pre W hD _ h
  exact h.elim
end Go.Proofs.YtclekllaikcglaaGreat
