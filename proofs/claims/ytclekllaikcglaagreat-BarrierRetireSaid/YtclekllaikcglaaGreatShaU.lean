/- Contracts: layer 2, the document's sum of a text. -/
import Derived.Test.YtclekllaikcglaaGreatShaT
import Derived.Test.YtclekllaikcglaaGreatShaD
namespace Go.Proofs.YtclekllaikcglaaGreat
open Go Go.RowKit

theorem soak_len (n : Nat) : ∀ (s : St) (t : List UInt8), t.length ≤ n → (soak s t).2.length = t.length % 64 := by
  induction n with
  | zero => intro s t h; rw [soak_less s t (by omega)]; simp; omega
  | succ n ih =>
    intro s t h
    by_cases h64 : 64 ≤ t.length
    · rw [soak_more s t h64, ih _ _ (by simp; omega)]; simp; omega
    · rw [soak_less s t (by omega)]; simp; omega
/-- The text, padded. -/
def padded02 (t : List UInt8) : List UInt8 := t ++ 128 :: (List.replicate ((119 - t.length % 64) % 64) 0 ++ putB 8 (t.length * 8))
theorem padded02_length (t : List UInt8) : (padded02 t).length = t.length + 1 + (119 - t.length % 64) % 64 + 8 := by
  simp [padded02, putB_length]; omega
def pz (t : List UInt8) (m : Nat) : List UInt8 := t ++ 128 :: List.replicate m 0
theorem pz_length (t : List UInt8) (m : Nat) : (pz t m).length = t.length + 1 + m := by simp [pz]; omega
theorem pz_zero (t : List UInt8) : bs t ++ ({ data := #[128] } : ByteArray) = bs (pz t 0) := by rw [show ({ data := #[128] } : ByteArray) = bs [128] from rfl, bs_append]; rfl
theorem pz_succ (t : List UInt8) (m : Nat) : bs (pz t m) ++ ({ data := #[0] } : ByteArray) = bs (pz t (m + 1)) := by
  rw [show ({ data := #[0] } : ByteArray) = bs [0] from rfl, bs_append, pz, pz, List.replicate_succ']; simp
theorem shaS_eq (t : List UInt8) : shaS t = digest (soak iv (padded02 t)).1.list := by
  have h := soak_len t.length iv t (Nat.le_refl _)
  unfold shaS sumS
  rw [soak_step]
  have : padS (soak iv t).2 t.length = 128 :: (List.replicate ((119 - t.length % 64) % 64) 0 ++ putB 8 (t.length * 8)) := by unfold padS; rw [h]; rfl
  rw [this]; rfl
set_option maxRecDepth 100000 in
set_option maxHeartbeats 4000000 in
theorem RefOf_any (t : List UInt8) (w : World) (hl : t.length ≤ 1099511627776) :
    Calls Tryz.prog 141 #[.string (bs t)] w fun e w' => e = .returned (.string (bs (shaS t))) ∧ Ext w w' := by
  rw [shaS_eq]
  obtain ⟨M, hM⟩ : ∃ M, M = (119 - t.length % 64) % 64 := ⟨_, rfl⟩
  have hpl := padded02_length t
  rw [← hM] at hpl
  have hpd : padded02 t = pz t M ++ putB 8 (t.length * 8) := by rw [padded02, hM, pz]; simp
  have hMt : (t.length + 1 + M) % 64 = 56 ∧ ∀ m, m < M → (t.length + 1 + m) % 64 ≠ 56 := by
    refine ⟨by omega, fun m hm => by omega⟩
  have hM64 : M < 64 := by omega
  obtain ⟨p, hp⟩ : ∃ p, p = padded02 t := ⟨_, rfl⟩
  rw [← hp] at hpl hpd ⊢
  have HPD := Lib.hid hpd; have HPL := Lib.hid hpl; have HMT := Lib.hid hMt
  have GP := Lib.hid (fun w => RefPut8_any (t.length * 8) w (by unfold U64; omega))
  have G4 := Lib.hid (fun (x : UInt32) w => RefPut4_any x.toNat w (by unfold U64; have := x.toNat_lt; omega))
  have GS := Lib.hid (fun s b gs w hb hg => RefStep_any s b gs w hb hg)
  obtain ⟨res, hres⟩ : ∃ r, soak iv p = r := ⟨_, rfl⟩
  rw [hres]
  have HR := Lib.hid hres
  have s5 : ¬ 9223372036854775807 < t.length + 1 := by omega
  have w8 : IntKind.u64.wrap (t.length : Int) = (t.length : Int) := by rw [IntKind.wrap_u64]; omega
  have w9 : IntKind.u64.wrap (8 * (t.length : Int)) = ((t.length * 8 : Nat) : Int) := by rw [IntKind.wrap_u64]; omega
  have h128 := pz_zero t
  clear hM hMt hpl hpd hp hres
  go_enter Tryz.func141, Tryz.ntmps141
  go_wp2
  go_loopw [3] (fun o wr => ∃ m : Nat, m ≤ M ∧ o = .string (bs (pz t m)) ∧ wr = w) (fun o _ => M + t.length + 1 - (match o with | .string b => b.size | _ => 0))
  case atStart => exact ⟨0, by omega, rfl, rfl⟩
  case round =>
    obtain ⟨m, hm, rfl, rfl⟩ := hrel
    have hlen := pz_length t m
    by_cases hlt : m < M
    · have hne := HMT.out.2 m hlt
      have hne' : (((t.length : Int) + 1 + m) % 64 != 56) = true := by
        simp; omega
      have hz := pz_succ t m
      have s6 : ¬ 9223372036854775807 < t.length + 1 + m + 1 := by omega
      go_wp2
      go_roundw
      case measure => simp [pz_length]; omega
      case rel => exact ⟨m + 1, by omega, by first | rfl | (rw [hz]), trivial⟩
    · obtain rfl : m = M := by omega
      have hne' : (((t.length : Int) + 1 + m) % 64 != 56) = false := by
        have := HMT.out.1
        simp; omega
      have hap : bs (pz t m) ++ bs (putB 8 (t.length * 8)) = bs p := by rw [bs_append, HPD.out]
      have s6 : ¬ 9223372036854775807 < t.length + 1 + m + 8 := by omega
      have hp8 := putB_length 8 (t.length * 8)
      go_wp2_with (go_at_call 108; refine (GP.out _).mono ?_; rintro e w2 ⟨rfl, hx2⟩)
      have hiv : (w2.alloc (.cells iv.v 46)).heap[w2.heap.size]? = some (.cells iv.v 46) := heap_alloc_new _ _
      have hxa : Ext wr (w2.alloc (.cells iv.v 46)) := hx2.alloc _
      have hplen : ∃ B, p.length = 64 * B := by have := HPL.out; have := HMT.out.1; exact ⟨p.length / 64, by omega⟩
      obtain ⟨B, hB⟩ := hplen
      have hBl : 64 * B ≤ 2199023255552 := by have := HPL.out; omega
      have HB := Lib.hid hB
      have HIV := Lib.hid hiv
      have HR2 := Lib.hid (show soak iv (p.drop (64 * 0)) = res from HR.out)
      clear hiv hB hap hne' s6 hp8 hlen h128 w8 w9 s5
      change Code.wp _ _ _ _ (w2.alloc (.cells iv.v 46))
      obtain ⟨w0, rfl⟩ : ∃ x, x = wr := ⟨_, rfl⟩
      go_loopw [4, 5] (fun o i wr => ∃ (j gs : Nat) (st : St), j ≤ B ∧ i = .int .i64 (64 * (j : Int)) ∧ o = .slice (some ⟨gs, 0, none⟩) 8 8 ∧ wr.heap[gs]? = some (.cells st.v 46) ∧ soak st (p.drop (64 * j)) = res ∧ Ext w0 wr) (fun _ i _ => 64 * B - (intOf i).toNat)
      case atStart => exact ⟨0, w2.heap.size, iv, by omega, rfl, rfl, HIV.out, HR2.out, hxa⟩
      case round =>
        obtain ⟨j, gs, st, hj, rfl, rfl, hh, hsk, hx⟩ := hrel
        have HH := Lib.hid hh; have HS := Lib.hid hsk
        clear hh hsk
        by_cases hlt : j < B
        · have hlt1 : 64 * (j : Int) < (p.length : Int) := by have := HB.out; omega
          have hle1 : 64 * (j : Int) + 64 ≤ (p.length : Int) := by have := HB.out; omega
          have hpl2 : p.length ≤ 2199023255552 := by have := HB.out; omega
          have he : (bs p).extract (64 * j) (64 * j + 64) = bs ((p.drop (64 * j)).take 64) := by rw [bs_extract]; congr 2; omega
          have h64 : ((p.drop (64 * j)).take 64).length = 64 := by rw [List.length_take, List.length_drop]; omega
          have HSM := Lib.hid (soak_more st (p.drop (64 * j)) (by rw [List.length_drop]; omega))
          have HD := Lib.hid (show (p.drop (64 * j)).drop 64 = p.drop (64 * (j + 1)) by rw [List.drop_drop]; congr 1)
          go_wp2_with (go_at_call 158; refine (GS.out st _ gs wr h64 HH.out).mono ?_; rintro e w3 ⟨g3, rfl, hh3, hx3⟩; have HH3 := Lib.hid hh3; clear hh3)
          go_roundw
          case measure => simp [intOf]; omega
          case rel => exact ⟨j + 1, g3, behindS st ((p.drop (64 * j)).take 64), by omega, by go_num, rfl, HH3.out, by rw [← HD.out, ← HSM.out]; exact HS.out, hx.trans hx3⟩
        · obtain rfl : j = B := by omega
          have hpl3 : (p.length : Int) = 64 * (j : Int) := by have := HB.out; omega
          have hres2 : (st, ([] : List UInt8)) = res := by
            have h1 := HS.out
            rw [List.drop_of_length_le (by have := HB.out; omega), soak_less st [] (by simp)] at h1
            exact h1
          have HX := Lib.hid HH.out
          have HRES := Lib.hid hres2
          clear hres2
          go_wp2
          obtain ⟨w1, rfl⟩ : ∃ x, x = wr := ⟨_, rfl⟩
          go_loopw [6, 7] (fun o i wr => ∃ k : Nat, k ≤ 8 ∧ i = .int .i64 k ∧ o = .string (bs (digest (st.list.take k))) ∧ Ext w1 wr) (fun _ i _ => 8 - (intOf i).toNat)
          case atStart => exact ⟨0, by omega, rfl, rfl, Ext.refl _⟩
          case round =>
            obtain ⟨k, hk, rfl, rfl, hh⟩ := hrel
            have hdl : (digest (st.list.take k)).length ≤ 32 := by rw [digest_length, List.length_take]; have : st.list.length = 8 := rfl; omega
            have hp4 : ∀ n, (putB 4 n).length = 4 := fun n => putB_length 4 n
            have hgl := blk_lt (hh.keep HX.out)
            rcases (by omega : k = 0 ∨ k = 1 ∨ k = 2 ∨ k = 3 ∨ k = 4 ∨ k = 5 ∨ k = 6 ∨ k = 7 ∨ k = 8) with rfl | rfl | rfl | rfl | rfl | rfl | rfl | rfl | rfl
            · have HST := Lib.hid (digest_take st.list 0 st.a rfl)
              have cell : wr.cell? ⟨gs, 0, none⟩ = some (.int .u32 st.a.toNat) := hh.cell_of (cell_blk HX.out rfl)
              go_wp2_with (go_at_call 108; refine (G4.out st.a _).mono ?_; rintro e w5 ⟨rfl, hx5⟩)
              go_roundw
              case measure => simp [intOf]
              case rel => exact ⟨1, by omega, rfl, by first | (rw [HST.out]; done) | (rw [HST.out]; rfl), hh.trans hx5⟩
            · have HST := Lib.hid (digest_take st.list 1 st.b rfl)
              have cell : wr.cell? ⟨gs, 1, none⟩ = some (.int .u32 st.b.toNat) := hh.cell_of (cell_blk HX.out rfl)
              go_wp2_with (go_at_call 108; refine (G4.out st.b _).mono ?_; rintro e w5 ⟨rfl, hx5⟩)
              go_roundw
              case measure => simp [intOf]
              case rel => exact ⟨2, by omega, rfl, by first | (rw [HST.out]; done) | (rw [HST.out]; rfl), hh.trans hx5⟩
            · have HST := Lib.hid (digest_take st.list 2 st.c rfl)
              have cell : wr.cell? ⟨gs, 2, none⟩ = some (.int .u32 st.c.toNat) := hh.cell_of (cell_blk HX.out rfl)
              go_wp2_with (go_at_call 108; refine (G4.out st.c _).mono ?_; rintro e w5 ⟨rfl, hx5⟩)
              go_roundw
              case measure => simp [intOf]
              case rel => exact ⟨3, by omega, rfl, by first | (rw [HST.out]; done) | (rw [HST.out]; rfl), hh.trans hx5⟩
            · have HST := Lib.hid (digest_take st.list 3 st.d rfl)
              have cell : wr.cell? ⟨gs, 3, none⟩ = some (.int .u32 st.d.toNat) := hh.cell_of (cell_blk HX.out rfl)
              go_wp2_with (go_at_call 108; refine (G4.out st.d _).mono ?_; rintro e w5 ⟨rfl, hx5⟩)
              go_roundw
              case measure => simp [intOf]
              case rel => exact ⟨4, by omega, rfl, by first | (rw [HST.out]; done) | (rw [HST.out]; rfl), hh.trans hx5⟩
            · have HST := Lib.hid (digest_take st.list 4 st.e rfl)
              have cell : wr.cell? ⟨gs, 4, none⟩ = some (.int .u32 st.e.toNat) := hh.cell_of (cell_blk HX.out rfl)
              go_wp2_with (go_at_call 108; refine (G4.out st.e _).mono ?_; rintro e w5 ⟨rfl, hx5⟩)
              go_roundw
              case measure => simp [intOf]
              case rel => exact ⟨5, by omega, rfl, by first | (rw [HST.out]; done) | (rw [HST.out]; rfl), hh.trans hx5⟩
            · have HST := Lib.hid (digest_take st.list 5 st.f rfl)
              have cell : wr.cell? ⟨gs, 5, none⟩ = some (.int .u32 st.f.toNat) := hh.cell_of (cell_blk HX.out rfl)
              go_wp2_with (go_at_call 108; refine (G4.out st.f _).mono ?_; rintro e w5 ⟨rfl, hx5⟩)
              go_roundw
              case measure => simp [intOf]
              case rel => exact ⟨6, by omega, rfl, by first | (rw [HST.out]; done) | (rw [HST.out]; rfl), hh.trans hx5⟩
            · have HST := Lib.hid (digest_take st.list 6 st.g rfl)
              have cell : wr.cell? ⟨gs, 6, none⟩ = some (.int .u32 st.g.toNat) := hh.cell_of (cell_blk HX.out rfl)
              go_wp2_with (go_at_call 108; refine (G4.out st.g _).mono ?_; rintro e w5 ⟨rfl, hx5⟩)
              go_roundw
              case measure => simp [intOf]
              case rel => exact ⟨7, by omega, rfl, by first | (rw [HST.out]; done) | (rw [HST.out]; rfl), hh.trans hx5⟩
            · have HST := Lib.hid (digest_take st.list 7 st.h rfl)
              have cell : wr.cell? ⟨gs, 7, none⟩ = some (.int .u32 st.h.toNat) := hh.cell_of (cell_blk HX.out rfl)
              go_wp2_with (go_at_call 108; refine (G4.out st.h _).mono ?_; rintro e w5 ⟨rfl, hx5⟩)
              go_roundw
              case measure => simp [intOf]
              case rel => exact ⟨8, by omega, rfl, by first | (rw [HST.out]; done) | (rw [HST.out]; rfl), hh.trans hx5⟩
            · go_wp2
              go_returns
              refine ⟨?_, hx.trans hh⟩
              rw [← HRES.out]; rfl
end Go.Proofs.YtclekllaikcglaaGreat
namespace Go.Proofs.YtclekllaikcglaaGreat
open Go Go.RowKit

def abcP : List UInt8 := [97, 98, 99, 128, 0, 0, 0, 0, 0, 0, 0, 0, 0, 0, 0, 0, 0, 0, 0, 0, 0, 0, 0, 0, 0, 0, 0, 0, 0, 0, 0, 0, 0, 0, 0, 0, 0, 0, 0, 0, 0, 0, 0, 0, 0, 0, 0, 0, 0, 0, 0, 0, 0, 0, 0, 0, 0, 0, 0, 0, 0, 0, 0, 24]
def abcW : List UInt32 := [1633837952, 0, 0, 0, 0, 0, 0, 0, 0, 0, 0, 0, 0, 0, 0, 24, 1633837952, 983040, 2108187653, 1610613702, 1050508152, 25426944, 316456923, 3806512014, 3357629466, 3073800610, 3854317833, 845560923, 2636160359, 3968280267, 1881225380, 3552024379, 2482346367, 996719219, 2952069057, 4043988066, 176896406, 1924104970, 2483675966, 610538786, 2672279444, 4037431130, 1042573945, 657669027, 206005234, 2215296807, 2049510749, 106709978, 4215179723, 3430291419, 3118885940, 2845390439, 2226839261, 3256115900, 344409900, 2987358873, 4015503821, 3957764664, 2682456414, 2025622859, 2755645205, 1720397816, 4004225740, 313650667]
def abcS : List (List UInt32) := [[1779033703, 3144134277, 1013904242, 2773480762, 1359893119, 2600822924, 528734635, 1541459225], [1567288269, 1779033703, 3144134277, 1013904242, 4197074466, 1359893119, 2600822924, 528734635], [1516951981, 1567288269, 1779033703, 3144134277, 2026797449, 4197074466, 1359893119, 2600822924], [3368241063, 1516951981, 1567288269, 1779033703, 4180228587, 2026797449, 4197074466, 1359893119], [3578852966, 3368241063, 1516951981, 1567288269, 618661968, 4180228587, 2026797449, 4197074466], [71342698, 3578852966, 3368241063, 1516951981, 1135452741, 618661968, 4180228587, 2026797449], [725748213, 71342698, 3578852966, 3368241063, 1900175533, 1135452741, 618661968, 4180228587], [3842179968, 725748213, 71342698, 3578852966, 2603066369, 1900175533, 1135452741, 618661968], [2241887071, 3842179968, 725748213, 71342698, 207977081, 2603066369, 1900175533, 1135452741], [2382687417, 2241887071, 3842179968, 725748213, 852110732, 207977081, 2603066369, 1900175533], [2357671019, 2382687417, 2241887071, 3842179968, 482944406, 852110732, 207977081, 2603066369], [1201185780, 2357671019, 2382687417, 2241887071, 1131095016, 482944406, 852110732, 207977081], [4146054569, 1201185780, 2357671019, 2382687417, 2171590377, 1131095016, 482944406, 852110732], [2274437520, 4146054569, 1201185780, 2357671019, 509051416, 2171590377, 1131095016, 482944406], [3643992854, 2274437520, 4146054569, 1201185780, 1952073950, 509051416, 2171590377, 1131095016], [3227803614, 3643992854, 2274437520, 4146054569, 194179596, 1952073950, 509051416, 2171590377], [2969183118, 3227803614, 3643992854, 2274437520, 123276749, 194179596, 1952073950, 509051416], [567974555, 2969183118, 3227803614, 3643992854, 2150900380, 123276749, 194179596, 1952073950], [3271285201, 567974555, 2969183118, 3227803614, 2221859924, 2150900380, 123276749, 194179596], [4269243327, 3271285201, 567974555, 2969183118, 3431569761, 2221859924, 2150900380, 123276749], [3790736435, 4269243327, 3271285201, 567974555, 2959311225, 3431569761, 2221859924, 2150900380], [2647034723, 3790736435, 4269243327, 3271285201, 2329577776, 2959311225, 3431569761, 2221859924], [3261099373, 2647034723, 3790736435, 4269243327, 3777329520, 2329577776, 2959311225, 3431569761], [2812502591, 3261099373, 2647034723, 3790736435, 1240797514, 3777329520, 2329577776, 2959311225], [3319086477, 2812502591, 3261099373, 2647034723, 2856829767, 1240797514, 3777329520, 2329577776], [472655928, 3319086477, 2812502591, 3261099373, 673443729, 2856829767, 1240797514, 3777329520], [3454534525, 472655928, 3319086477, 2812502591, 339230094, 673443729, 2856829767, 1240797514], [3056518332, 3454534525, 472655928, 3319086477, 3343672598, 339230094, 673443729, 2856829767], [2010346792, 3056518332, 3454534525, 472655928, 3992961016, 3343672598, 339230094, 673443729], [909411017, 2010346792, 3056518332, 3454534525, 1628611511, 3992961016, 3343672598, 339230094], [2684750640, 909411017, 2010346792, 3056518332, 2917635127, 1628611511, 3992961016, 3343672598], [3935906338, 2684750640, 909411017, 2010346792, 17410874, 2917635127, 1628611511, 3992961016], [1941126133, 3935906338, 2684750640, 909411017, 3126399250, 17410874, 2917635127, 1628611511], [2564891911, 1941126133, 3935906338, 2684750640, 2631529974, 3126399250, 17410874, 2917635127], [4267724277, 2564891911, 1941126133, 3935906338, 1495571923, 2631529974, 3126399250, 17410874], [2846323596, 4267724277, 2564891911, 1941126133, 140458035, 1495571923, 2631529974, 3126399250], [1705037796, 2846323596, 4267724277, 2564891911, 4105175766, 140458035, 1495571923, 2631529974], [1101421745, 1705037796, 2846323596, 4267724277, 124953195, 4105175766, 140458035, 1495571923], [887035396, 1101421745, 1705037796, 2846323596, 2768741693, 124953195, 4105175766, 140458035], [1841658506, 887035396, 1101421745, 1705037796, 4034403272, 2768741693, 124953195, 4105175766], [2045405306, 1841658506, 887035396, 1101421745, 519815328, 4034403272, 2768741693, 124953195], [3597076326, 2045405306, 1841658506, 887035396, 641019235, 519815328, 4034403272, 2768741693], [3745932591, 3597076326, 2045405306, 1841658506, 2206934801, 641019235, 519815328, 4034403272], [397020670, 3745932591, 3597076326, 2045405306, 3737995029, 2206934801, 641019235, 519815328], [2638983059, 397020670, 3745932591, 3597076326, 4255271982, 3737995029, 2206934801, 641019235], [643991573, 2638983059, 397020670, 3745932591, 2819559920, 4255271982, 3737995029, 2206934801], [1923828625, 643991573, 2638983059, 397020670, 3077922209, 2819559920, 4255271982, 3737995029], [2706117808, 1923828625, 643991573, 2638983059, 3581645993, 3077922209, 2819559920, 4255271982], [1098003085, 2706117808, 1923828625, 643991573, 4274981830, 3581645993, 3077922209, 2819559920], [91585771, 1098003085, 2706117808, 1923828625, 3178315832, 4274981830, 3581645993, 3077922209], [4045142696, 91585771, 1098003085, 2706117808, 1851537676, 3178315832, 4274981830, 3581645993], [2047150241, 4045142696, 91585771, 1098003085, 1391578359, 1851537676, 3178315832, 4274981830], [2288941602, 2047150241, 4045142696, 91585771, 1227037726, 1391578359, 1851537676, 3178315832], [270520975, 2288941602, 2047150241, 4045142696, 1386118400, 1227037726, 1391578359, 1851537676], [4117770203, 270520975, 2288941602, 2047150241, 2672265155, 1386118400, 1227037726, 1391578359], [1053056219, 4117770203, 270520975, 2288941602, 3842906959, 2672265155, 1386118400, 1227037726], [952932627, 1053056219, 4117770203, 270520975, 1422599787, 3842906959, 2672265155, 1386118400], [4241590395, 952932627, 1053056219, 4117770203, 2606665836, 1422599787, 3842906959, 2672265155], [3227702383, 4241590395, 952932627, 1053056219, 2118385806, 2606665836, 1422599787, 3842906959], [4290184306, 3227702383, 4241590395, 952932627, 1837350854, 2118385806, 2606665836, 1422599787], [3064893439, 4290184306, 3227702383, 4241590395, 2988158269, 1837350854, 2118385806, 2606665836], [3093179625, 3064893439, 4290184306, 3227702383, 2518632596, 2988158269, 1837350854, 2118385806], [80891244, 3093179625, 3064893439, 4290184306, 2492278198, 2518632596, 2988158269, 1837350854], [3550093669, 80891244, 3093179625, 3064893439, 4212265488, 2492278198, 2518632596, 2988158269], [1349398616, 3550093669, 80891244, 3093179625, 1593118500, 4212265488, 2492278198, 2518632596]]
def stOf (l : List UInt32) : St := ⟨l.getD 0 0, l.getD 1 0, l.getD 2 0, l.getD 3 0, l.getD 4 0, l.getD 5 0, l.getD 6 0, l.getD 7 0⟩
theorem St.ext_list {s t : St} (h : s.list = t.list) : s = t := by
  cases s; cases t
  simp only [St.list, List.cons.injEq] at h
  simp [h]
set_option maxRecDepth 100000 in
theorem abcW_step : ∀ k : Fin 64, (if k.val < 16 then UInt32.ofNat (Get32 abcP (4 * (k.val : Int))).1 else nextW (abcW.take k.val)) = abcW.getD k.val 0 := by decide +kernel
set_option maxRecDepth 100000 in
theorem abcS_step : ∀ k : Fin 64, (rnd (stOf (abcS.getD k.val [])) (kT.getD k.val 0) (abcW.getD k.val 0)).list = (stOf (abcS.getD (k.val + 1) [])).list := by decide +kernel
theorem abc_words : ∀ n, n ≤ 64 → wordsN abcP n = abcW.take n := by
  intro n
  induction n with
  | zero => intro _; rfl
  | succ n ih =>
    intro h
    have hs := abcW_step ⟨n, by omega⟩
    have hl : abcW.length = 64 := by decide
    rw [wordsN, ih (by omega)]
    simp only at hs
    rw [hs, List.take_succ_eq_append_getElem (by omega)]
    simp [List.getD, hl, show n < 64 by omega]
theorem abc_rounds : ∀ n, n ≤ 64 → roundsN iv (words abcP) n = stOf (abcS.getD n []) := by
  intro n
  induction n with
  | zero => intro _; rfl
  | succ n ih =>
    intro h
    have hs := abcS_step ⟨n, by omega⟩
    have hw : words abcP = abcW := by rw [words, abc_words 64 (by omega), List.take_of_length_le (by decide)]
    rw [roundsN, ih (by omega), hw]
    exact St.ext_list hs
theorem abc_padded : padded02 [97, 98, 99] = abcP := by decide +kernel
theorem abc_sum : shaS [97, 98, 99] = [186, 120, 22, 191, 143, 1, 207, 234, 65, 65, 64, 222, 93, 174, 34, 35, 176, 3, 97, 163, 150, 23, 122, 156, 180, 16, 255, 97, 242, 0, 21, 173] := by
  rw [shaS_eq, abc_padded, soak_more iv abcP (by decide), show abcP.take 64 = abcP by decide, show abcP.drop 64 = [] by decide, soak_less _ [] (by decide)]
  unfold behindS
  rw [abc_rounds 64 (by omega)]
  decide +kernel
end Go.Proofs.YtclekllaikcglaaGreat
