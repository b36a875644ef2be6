/- Contracts: layer 4, a cipher in memory; a word's boxes; either or a round's key. -/
import Derived.Test.YtclekllaikcglaaGreatAes
import Derived.Test.YtclekllaikcglaaGreatWord
import Derived.Laws.CopyRow
namespace Go.Proofs.YtclekllaikcglaaGreat
open Go Go.RowKit

/-- A cipher's cells: its round keys, boxes, what they are boxes of. -/
def cCells (K B U : List UInt8) : Array Value := ((K ++ (B ++ U)).map byteV ++ [Value.bool true]).toArray
theorem cCells_size (K B U : List UInt8) : (cCells K B U).size = K.length + (B.length + U.length) + 1 := by simp [cCells]; omega
theorem cC_byte (K B U : List UInt8) (j : Nat) (h : j < (K ++ (B ++ U)).length) : (cCells K B U)[j]? = some (byteV ((K ++ (B ++ U))[j])) := by
  unfold cCells
  rw [List.getElem?_toArray, List.getElem?_append_left (by simpa using h), List.getElem?_map, List.getElem?_eq_getElem h]
  rfl
theorem cC_key (K B U : List UInt8) (j : Nat) (h : j < K.length) : (cCells K B U)[j]? = some (.int .u8 (K[j].toNat : Int)) := by
  rw [cC_byte K B U j (by simp; omega), List.getElem_append_left h]; rfl
theorem cC_box (K B U : List UInt8) (hK : K.length = 176) (j : Nat) (x : UInt8) (h : B[j]? = some x) : (cCells K B U)[176 + j]? = some (.int .u8 (x.toNat : Int)) := by
  obtain ⟨hj, rfl⟩ := List.getElem?_eq_some_iff.1 h
  rw [cC_byte K B U (176 + j) (by simp; omega), List.getElem_append_right (by omega), List.getElem_append_left (by omega)]
  simp [hK, byteV]
theorem cC_unbox (K B U : List UInt8) (hK : K.length = 176) (hB : B.length = 256) (j : Nat) (x : UInt8) (h : U[j]? = some x) : (cCells K B U)[432 + j]? = some (.int .u8 (x.toNat : Int)) := by
  obtain ⟨hj, rfl⟩ := List.getElem?_eq_some_iff.1 h
  rw [cC_byte K B U (432 + j) (by simp; omega), List.getElem_append_right (by omega), List.getElem_append_right (by omega)]
  simp only [hK, hB, byteV, show 432 + j - 176 - 256 = j by omega]
theorem cC_made (K B U : List UInt8) (hK : K.length = 176) (hB : B.length = 256) (hU : U.length = 256) : (cCells K B U)[688]? = some (.bool true) := by
  unfold cCells
  rw [List.getElem?_toArray, List.getElem?_append_right (by simp; omega)]
  simp [hK, hB, hU]
/-- A cipher with the round keys K. -/
def CI (w : World) (c : Nat) (K : List UInt8) : Prop := K.length = 176 ∧ w.heap[c]? = some (.cells (cCells K boxT unT) 166 (0, 0))
theorem CI.ext {w w' : World} {c : Nat} {K : List UInt8} (h : CI w c K) (hx : Ext w w') : CI w' c K := ⟨h.1, hx.keep h.2⟩
theorem CI.box {w : World} {c : Nat} {K : List UInt8} (h : CI w c K) (b : UInt8) : w.cell? ⟨c, 176 + b.toNat, none⟩ = some (.int .u8 ((boxO b).toNat : Int)) := cell_blk h.2 (cC_box K _ _ h.1 _ _ (boxO_at b))
theorem CI.unbox {w : World} {c : Nat} {K : List UInt8} (h : CI w c K) (b : UInt8) : w.cell? ⟨c, 432 + b.toNat, none⟩ = some (.int .u8 ((unO b).toNat : Int)) := cell_blk h.2 (cC_unbox K _ _ h.1 boxT_length _ _ (unO_at b))
theorem CI.key {w : World} {c : Nat} {K : List UInt8} (h : CI w c K) (j : Nat) (hj : j < K.length) : w.cell? ⟨c, j, none⟩ = some (.int .u8 (K[j].toNat : Int)) := cell_blk h.2 (cC_key K _ _ j hj)
theorem CI.made {w : World} {c : Nat} {K : List UInt8} (h : CI w c K) : w.cell? ⟨c, 688, none⟩ = some (.bool true) := cell_blk h.2 (cC_made K _ _ h.1 boxT_length unT_length)

/-! ### A word's boxes -/
def byteK (n : UInt32) (k : Nat) : UInt8 := b8 (n.toNat / 2 ^ (24 - 8 * k))
def bwN (n : UInt32) : Nat → Nat
  | 0 => 0
  | k + 1 => bwN n k * 256 + (boxO (byteK n k)).toNat
theorem bwN_lt (n : UInt32) : ∀ k, bwN n k < 256 ^ k
  | 0 => Nat.zero_lt_succ _
  | k + 1 => by
    have h1 := bwN_lt n k
    have h2 := (boxO (byteK n k)).toNat_lt
    rw [bwN, Nat.pow_succ]
    have : bwN n k * 256 + 256 ≤ 256 ^ k * 256 := by omega
    omega
def boxW (n : UInt32) : UInt32 := UInt32.ofNat (bwN n 4)
theorem boxW_toNat (n : UInt32) : (boxW n).toNat = bwN n 4 := UInt32.toNat_ofNat_of_lt' (bwN_lt n 4)
set_option maxRecDepth 100000 in
set_option maxHeartbeats 2000000 in
theorem boxed_any (n : UInt32) (c : Nat) (K : List UInt8) (w : World) (hci : CI w c K) :
    Calls Tryz.prog 124 #[.pointer (some ⟨c, 0, none⟩), .int .u32 (n.toNat : Int)] w fun e w' => e = .returned (.int .u32 ((boxW n).toNat : Int)) ∧ Ext w w' := by
  have HC := Lib.hid hci
  have hnl := n.toNat_lt
  clear hci
  go_enter Tryz.func124, Tryz.ntmps124
  go_wp2
  go_loopw [4, 5] (fun o i wr => ∃ (k : Nat) (z : Int), k ≤ 4 ∧ o = .int .u32 (bwN n k : Int) ∧ i = .int .i64 z ∧ z = 24 - 8 * (k : Int) ∧ Ext w wr) (fun _ i _ => (intOf i + 8).toNat)
  case atStart => exact ⟨0, 24, by omega, rfl, rfl, rfl, Ext.refl _⟩
  case round =>
    obtain ⟨k, z, hk, rfl, rfl, hz, hx⟩ := hrel
    have hbl := bwN_lt n k
    have HN : Hid (bwN n (k + 1) = bwN n k * 256 + (boxO (byteK n k)).toNat) := Lib.hid rfl
    have hcase : k = 0 ∨ k = 1 ∨ k = 2 ∨ k = 3 ∨ k = 4 := by omega
    rcases hcase with rfl | rfl | rfl | rfl | rfl
    · obtain rfl : z = 24 := by omega
      have hby : (n.toNat : Int) / 16777216 % 256 = ((byteK n 0).toNat : Int) := by
        unfold byteK; rw [b8_mod]; omega
      have hby2 : IntKind.u8.wrap ((n.toNat : Int) / 16777216) = ((byteK n 0).toNat : Int) := by rw [IntKind.wrap_u8]; exact hby
      have hc := (HC.out.ext hx).box (byteK n 0)
      have hbb := (byteK n 0).toNat_lt
      have hyy := (boxO (byteK n 0)).toNat_lt
      have hor := or_byte32 (bwN n 0) (boxO (byteK n 0)) (by omega)
      have hw32 : IntKind.u32.wrap ((bwN n 0 : Int) * 256) = (bwN n 0 : Int) * 256 := by rw [IntKind.wrap_u32]; omega
      have hbi : ((byteK n 0).toNat : Int) < 256 := by omega
      generalize byteK n 0 = b at *
      generalize bwN n 0 = a at *
      generalize boxO b = y at *
      clear hz hk
      go_wp2
      refine Loud.wp_region_weave 13 wr (Loud.sps [.val (.int .u32 (a : Int)), .val (.int .u32 ((a : Int) * 256)), .val (.pointer (some ⟨c, 0, none⟩)), .val (.int .u32 (n.toNat : Int)), .val (.int .i64 24), .val (.int .u32 ((n.toNat : Int) / 16777216)), .val (.int .u8 (b.toNat : Int)), .val (.pointer (some ⟨c, 0, none⟩)), .val (.pointer (some ⟨c, 176, none⟩)), .val (.pointer (some ⟨c, 176 + b.toNat, none⟩)), .val (.int .u8 (y.toNat : Int)), .val (.int .u32 (y.toNat : Int)), .val (.int .u32 ((a * 256 + y.toNat : Nat) : Int))]) (by kernel_rfl) (by kernel_rfl) (by show Ext _ _; repeat (first | exact Ext.refl _ | assumption | (with_reducible refine Ext.drew ?_) | (with_reducible refine Ext.drewN ?_ _) | (with_reducible refine Ext.alloc ?_ _) | (refine Ext.trans ?_ (by assumption)))) (Loud.sps_st _) ?wAx1 ?whAx1 ?whSx1 ?whFx1
      case whAx1 => intro u K hK; simp only [List.take_succ_cons, List.take_zero, Loud.puts]; go_simp; exact hK
      case whSx1 =>
        simp only [List.take_succ_cons, List.take_zero, Loud.stepsW]
        refine ⟨?wsx1_0, ?wsx1_1, ?wsx1_2, ?wsx1_3, ?wsx1_4, ?wsx1_5, ?wsx1_6, ?wsx1_7, ?wsx1_8, ?wsx1_9, ?wsx1_10, ?wsx1_11, ?wsx1_12, trivial⟩
        case wsx1_0 =>
          intro u β wq hq h
          repeat (obtain ⟨h1, h⟩ := h; first | (replace h1 := h1 rfl; simp only [go_sem] at h1; try (obtain ⟨h1, h1b⟩ := h1)) | (have hno := (h1 : Region.binds _ _ = true → _); clear hno h1))
          refine Or.inl ⟨rfl, fun K hK => ?_⟩
          go_simp
          exact hK _ 0 _ (Ext.refl _) rfl
        case wsx1_1 =>
          intro u β wq hq h
          repeat (obtain ⟨h1, h⟩ := h; first | (replace h1 := h1 rfl; simp only [go_sem] at h1; try (obtain ⟨h1, h1b⟩ := h1)) | (have hno := (h1 : Region.binds _ _ = true → _); clear hno h1))
          refine Or.inl ⟨rfl, fun K hK => ?_⟩
          go_simp
          exact hK _ 0 _ (Ext.refl _) rfl
        case wsx1_2 =>
          intro u β wq hq h
          repeat (obtain ⟨h1, h⟩ := h; first | (replace h1 := h1 rfl; simp only [go_sem] at h1; try (obtain ⟨h1, h1b⟩ := h1)) | (have hno := (h1 : Region.binds _ _ = true → _); clear hno h1))
          refine Or.inl ⟨rfl, fun K hK => ?_⟩
          go_simp
          exact hK _ 0 _ (Ext.refl _) rfl
        case wsx1_3 =>
          intro u β wq hq h
          repeat (obtain ⟨h1, h⟩ := h; first | (replace h1 := h1 rfl; simp only [go_sem] at h1; try (obtain ⟨h1, h1b⟩ := h1)) | (have hno := (h1 : Region.binds _ _ = true → _); clear hno h1))
          refine Or.inl ⟨rfl, fun K hK => ?_⟩
          go_simp
          exact hK _ 0 _ (Ext.refl _) rfl
        case wsx1_4 =>
          intro u β wq hq h
          repeat (obtain ⟨h1, h⟩ := h; first | (replace h1 := h1 rfl; simp only [go_sem] at h1; try (obtain ⟨h1, h1b⟩ := h1)) | (have hno := (h1 : Region.binds _ _ = true → _); clear hno h1))
          refine Or.inl ⟨rfl, fun K hK => ?_⟩
          go_simp
          exact hK _ 0 _ (Ext.refl _) rfl
        case wsx1_5 =>
          intro u β wq hq h
          repeat (obtain ⟨h1, h⟩ := h; first | (replace h1 := h1 rfl; simp only [go_sem] at h1; try (obtain ⟨h1, h1b⟩ := h1)) | (have hno := (h1 : Region.binds _ _ = true → _); clear hno h1))
          refine Or.inl ⟨rfl, fun K hK => ?_⟩
          go_simp
          exact hK _ 0 _ (Ext.refl _) rfl
        case wsx1_6 =>
          intro u β wq hq h
          repeat (obtain ⟨h1, h⟩ := h; first | (replace h1 := h1 rfl; simp only [go_sem] at h1; try (obtain ⟨h1, h1b⟩ := h1)) | (have hno := (h1 : Region.binds _ _ = true → _); clear hno h1))
          refine Or.inl ⟨rfl, fun K hK => ?_⟩
          go_simp
          exact hK _ 0 _ (Ext.refl _) rfl
        case wsx1_7 =>
          intro u β wq hq h
          repeat (obtain ⟨h1, h⟩ := h; first | (replace h1 := h1 rfl; simp only [go_sem] at h1; try (obtain ⟨h1, h1b⟩ := h1)) | (have hno := (h1 : Region.binds _ _ = true → _); clear hno h1))
          refine Or.inl ⟨rfl, fun K hK => ?_⟩
          go_simp
          exact hK _ 0 _ (Ext.refl _) rfl
        case wsx1_8 =>
          intro u β wq hq h
          repeat (obtain ⟨h1, h⟩ := h; first | (replace h1 := h1 rfl; simp only [go_sem] at h1; try (obtain ⟨h1, h1b⟩ := h1)) | (have hno := (h1 : Region.binds _ _ = true → _); clear hno h1))
          refine Or.inl ⟨rfl, fun K hK => ?_⟩
          go_simp
          exact hK _ 0 _ (Ext.refl _) rfl
        case wsx1_9 =>
          intro u β wq hq h
          repeat (obtain ⟨h1, h⟩ := h; first | (replace h1 := h1 rfl; simp only [go_sem] at h1; try (obtain ⟨h1, h1b⟩ := h1)) | (have hno := (h1 : Region.binds _ _ = true → _); clear hno h1))
          refine Or.inl ⟨rfl, fun K hK => ?_⟩
          go_simp
          exact hK _ 0 _ (Ext.refl _) rfl
        case wsx1_10 =>
          intro u β wq hq h
          repeat (obtain ⟨h1, h⟩ := h; first | (replace h1 := h1 rfl; simp only [go_sem] at h1; try (obtain ⟨h1, h1b⟩ := h1)) | (have hno := (h1 : Region.binds _ _ = true → _); clear hno h1))
          refine Or.inl ⟨rfl, fun K hK => ?_⟩
          have hqc := hq.cell_of hc
          go_simp
          exact hK _ 0 _ (Ext.refl _) rfl
        case wsx1_11 =>
          intro u β wq hq h
          repeat (obtain ⟨h1, h⟩ := h; first | (replace h1 := h1 rfl; simp only [go_sem] at h1; try (obtain ⟨h1, h1b⟩ := h1)) | (have hno := (h1 : Region.binds _ _ = true → _); clear hno h1))
          refine Or.inl ⟨rfl, fun K hK => ?_⟩
          go_simp
          exact hK _ 0 _ (Ext.refl _) rfl
        case wsx1_12 =>
          intro u β wq hq h
          repeat (obtain ⟨h1, h⟩ := h; first | (replace h1 := h1 rfl; simp only [go_sem] at h1; try (obtain ⟨h1, h1b⟩ := h1)) | (have hno := (h1 : Region.binds _ _ = true → _); clear hno h1))
          refine Or.inl ⟨rfl, fun K hK => ?_⟩
          go_simp
          exact hK _ 0 _ (Ext.refl _) rfl
      intro u β w1 hq h
      have h0 := h 0 (by omega)
      have h1 := h 1 (by omega)
      have h2 := h 2 (by omega)
      have h3 := h 3 (by omega)
      have h4 := h 4 (by omega)
      have h5 := h 5 (by omega)
      have h6 := h 6 (by omega)
      have h7 := h 7 (by omega)
      have h8 := h 8 (by omega)
      have h9 := h 9 (by omega)
      have h10 := h 10 (by omega)
      have h11 := h 11 (by omega)
      have h12 := h 12 (by omega)
      clear h
      simp only [go_sem] at h0 h1 h2 h3 h4 h5 h6 h7 h8 h9 h10 h11 h12
      simp only [List.drop_succ_cons, List.drop_zero]
      rw [h12]
      go_wp2
      go_roundw
      case measure => simp [intOf]
      case rel => exact ⟨0 + 1, 24 - 8, by omega, by rw [HN.out], rfl, by omega, hx.trans hq⟩
    · obtain rfl : z = 16 := by omega
      have hby : (n.toNat : Int) / 65536 % 256 = ((byteK n 1).toNat : Int) := by
        unfold byteK; rw [b8_mod]; omega
      have hby2 : IntKind.u8.wrap ((n.toNat : Int) / 65536) = ((byteK n 1).toNat : Int) := by rw [IntKind.wrap_u8]; exact hby
      have hc := (HC.out.ext hx).box (byteK n 1)
      have hbb := (byteK n 1).toNat_lt
      have hyy := (boxO (byteK n 1)).toNat_lt
      have hor := or_byte32 (bwN n 1) (boxO (byteK n 1)) (by omega)
      have hw32 : IntKind.u32.wrap ((bwN n 1 : Int) * 256) = (bwN n 1 : Int) * 256 := by rw [IntKind.wrap_u32]; omega
      have hbi : ((byteK n 1).toNat : Int) < 256 := by omega
      generalize byteK n 1 = b at *
      generalize bwN n 1 = a at *
      generalize boxO b = y at *
      clear hz hk
      go_wp2
      refine Loud.wp_region_weave 13 wr (Loud.sps [.val (.int .u32 (a : Int)), .val (.int .u32 ((a : Int) * 256)), .val (.pointer (some ⟨c, 0, none⟩)), .val (.int .u32 (n.toNat : Int)), .val (.int .i64 16), .val (.int .u32 ((n.toNat : Int) / 65536)), .val (.int .u8 (b.toNat : Int)), .val (.pointer (some ⟨c, 0, none⟩)), .val (.pointer (some ⟨c, 176, none⟩)), .val (.pointer (some ⟨c, 176 + b.toNat, none⟩)), .val (.int .u8 (y.toNat : Int)), .val (.int .u32 (y.toNat : Int)), .val (.int .u32 ((a * 256 + y.toNat : Nat) : Int))]) (by kernel_rfl) (by kernel_rfl) (by show Ext _ _; repeat (first | exact Ext.refl _ | assumption | (with_reducible refine Ext.drew ?_) | (with_reducible refine Ext.drewN ?_ _) | (with_reducible refine Ext.alloc ?_ _) | (refine Ext.trans ?_ (by assumption)))) (Loud.sps_st _) ?wAx2 ?whAx2 ?whSx2 ?whFx2
      case whAx2 => intro u K hK; simp only [List.take_succ_cons, List.take_zero, Loud.puts]; go_simp; exact hK
      case whSx2 =>
        simp only [List.take_succ_cons, List.take_zero, Loud.stepsW]
        refine ⟨?wsx2_0, ?wsx2_1, ?wsx2_2, ?wsx2_3, ?wsx2_4, ?wsx2_5, ?wsx2_6, ?wsx2_7, ?wsx2_8, ?wsx2_9, ?wsx2_10, ?wsx2_11, ?wsx2_12, trivial⟩
        case wsx2_0 =>
          intro u β wq hq h
          repeat (obtain ⟨h1, h⟩ := h; first | (replace h1 := h1 rfl; simp only [go_sem] at h1; try (obtain ⟨h1, h1b⟩ := h1)) | (have hno := (h1 : Region.binds _ _ = true → _); clear hno h1))
          refine Or.inl ⟨rfl, fun K hK => ?_⟩
          go_simp
          exact hK _ 0 _ (Ext.refl _) rfl
        case wsx2_1 =>
          intro u β wq hq h
          repeat (obtain ⟨h1, h⟩ := h; first | (replace h1 := h1 rfl; simp only [go_sem] at h1; try (obtain ⟨h1, h1b⟩ := h1)) | (have hno := (h1 : Region.binds _ _ = true → _); clear hno h1))
          refine Or.inl ⟨rfl, fun K hK => ?_⟩
          go_simp
          exact hK _ 0 _ (Ext.refl _) rfl
        case wsx2_2 =>
          intro u β wq hq h
          repeat (obtain ⟨h1, h⟩ := h; first | (replace h1 := h1 rfl; simp only [go_sem] at h1; try (obtain ⟨h1, h1b⟩ := h1)) | (have hno := (h1 : Region.binds _ _ = true → _); clear hno h1))
          refine Or.inl ⟨rfl, fun K hK => ?_⟩
          go_simp
          exact hK _ 0 _ (Ext.refl _) rfl
        case wsx2_3 =>
          intro u β wq hq h
          repeat (obtain ⟨h1, h⟩ := h; first | (replace h1 := h1 rfl; simp only [go_sem] at h1; try (obtain ⟨h1, h1b⟩ := h1)) | (have hno := (h1 : Region.binds _ _ = true → _); clear hno h1))
          refine Or.inl ⟨rfl, fun K hK => ?_⟩
          go_simp
          exact hK _ 0 _ (Ext.refl _) rfl
        case wsx2_4 =>
          intro u β wq hq h
          repeat (obtain ⟨h1, h⟩ := h; first | (replace h1 := h1 rfl; simp only [go_sem] at h1; try (obtain ⟨h1, h1b⟩ := h1)) | (have hno := (h1 : Region.binds _ _ = true → _); clear hno h1))
          refine Or.inl ⟨rfl, fun K hK => ?_⟩
          go_simp
          exact hK _ 0 _ (Ext.refl _) rfl
        case wsx2_5 =>
          intro u β wq hq h
          repeat (obtain ⟨h1, h⟩ := h; first | (replace h1 := h1 rfl; simp only [go_sem] at h1; try (obtain ⟨h1, h1b⟩ := h1)) | (have hno := (h1 : Region.binds _ _ = true → _); clear hno h1))
          refine Or.inl ⟨rfl, fun K hK => ?_⟩
          go_simp
          exact hK _ 0 _ (Ext.refl _) rfl
        case wsx2_6 =>
          intro u β wq hq h
          repeat (obtain ⟨h1, h⟩ := h; first | (replace h1 := h1 rfl; simp only [go_sem] at h1; try (obtain ⟨h1, h1b⟩ := h1)) | (have hno := (h1 : Region.binds _ _ = true → _); clear hno h1))
          refine Or.inl ⟨rfl, fun K hK => ?_⟩
          go_simp
          exact hK _ 0 _ (Ext.refl _) rfl
        case wsx2_7 =>
          intro u β wq hq h
          repeat (obtain ⟨h1, h⟩ := h; first | (replace h1 := h1 rfl; simp only [go_sem] at h1; try (obtain ⟨h1, h1b⟩ := h1)) | (have hno := (h1 : Region.binds _ _ = true → _); clear hno h1))
          refine Or.inl ⟨rfl, fun K hK => ?_⟩
          go_simp
          exact hK _ 0 _ (Ext.refl _) rfl
        case wsx2_8 =>
          intro u β wq hq h
          repeat (obtain ⟨h1, h⟩ := h; first | (replace h1 := h1 rfl; simp only [go_sem] at h1; try (obtain ⟨h1, h1b⟩ := h1)) | (have hno := (h1 : Region.binds _ _ = true → _); clear hno h1))
          refine Or.inl ⟨rfl, fun K hK => ?_⟩
          go_simp
          exact hK _ 0 _ (Ext.refl _) rfl
        case wsx2_9 =>
          intro u β wq hq h
          repeat (obtain ⟨h1, h⟩ := h; first | (replace h1 := h1 rfl; simp only [go_sem] at h1; try (obtain ⟨h1, h1b⟩ := h1)) | (have hno := (h1 : Region.binds _ _ = true → _); clear hno h1))
          refine Or.inl ⟨rfl, fun K hK => ?_⟩
          go_simp
          exact hK _ 0 _ (Ext.refl _) rfl
        case wsx2_10 =>
          intro u β wq hq h
          repeat (obtain ⟨h1, h⟩ := h; first | (replace h1 := h1 rfl; simp only [go_sem] at h1; try (obtain ⟨h1, h1b⟩ := h1)) | (have hno := (h1 : Region.binds _ _ = true → _); clear hno h1))
          refine Or.inl ⟨rfl, fun K hK => ?_⟩
          have hqc := hq.cell_of hc
          go_simp
          exact hK _ 0 _ (Ext.refl _) rfl
        case wsx2_11 =>
          intro u β wq hq h
          repeat (obtain ⟨h1, h⟩ := h; first | (replace h1 := h1 rfl; simp only [go_sem] at h1; try (obtain ⟨h1, h1b⟩ := h1)) | (have hno := (h1 : Region.binds _ _ = true → _); clear hno h1))
          refine Or.inl ⟨rfl, fun K hK => ?_⟩
          go_simp
          exact hK _ 0 _ (Ext.refl _) rfl
        case wsx2_12 =>
          intro u β wq hq h
          repeat (obtain ⟨h1, h⟩ := h; first | (replace h1 := h1 rfl; simp only [go_sem] at h1; try (obtain ⟨h1, h1b⟩ := h1)) | (have hno := (h1 : Region.binds _ _ = true → _); clear hno h1))
          refine Or.inl ⟨rfl, fun K hK => ?_⟩
          go_simp
          exact hK _ 0 _ (Ext.refl _) rfl
      intro u β w1 hq h
      have h0 := h 0 (by omega)
      have h1 := h 1 (by omega)
      have h2 := h 2 (by omega)
      have h3 := h 3 (by omega)
      have h4 := h 4 (by omega)
      have h5 := h 5 (by omega)
      have h6 := h 6 (by omega)
      have h7 := h 7 (by omega)
      have h8 := h 8 (by omega)
      have h9 := h 9 (by omega)
      have h10 := h 10 (by omega)
      have h11 := h 11 (by omega)
      have h12 := h 12 (by omega)
      clear h
      simp only [go_sem] at h0 h1 h2 h3 h4 h5 h6 h7 h8 h9 h10 h11 h12
      simp only [List.drop_succ_cons, List.drop_zero]
      rw [h12]
      go_wp2
      go_roundw
      case measure => simp [intOf]
      case rel => exact ⟨1 + 1, 16 - 8, by omega, by rw [HN.out], rfl, by omega, hx.trans hq⟩
    · obtain rfl : z = 8 := by omega
      have hby : (n.toNat : Int) / 256 % 256 = ((byteK n 2).toNat : Int) := by
        unfold byteK; rw [b8_mod]; omega
      have hby2 : IntKind.u8.wrap ((n.toNat : Int) / 256) = ((byteK n 2).toNat : Int) := by rw [IntKind.wrap_u8]; exact hby
      have hc := (HC.out.ext hx).box (byteK n 2)
      have hbb := (byteK n 2).toNat_lt
      have hyy := (boxO (byteK n 2)).toNat_lt
      have hor := or_byte32 (bwN n 2) (boxO (byteK n 2)) (by omega)
      have hw32 : IntKind.u32.wrap ((bwN n 2 : Int) * 256) = (bwN n 2 : Int) * 256 := by rw [IntKind.wrap_u32]; omega
      have hbi : ((byteK n 2).toNat : Int) < 256 := by omega
      generalize byteK n 2 = b at *
      generalize bwN n 2 = a at *
      generalize boxO b = y at *
      clear hz hk
      go_wp2
      refine Loud.wp_region_weave 13 wr (Loud.sps [.val (.int .u32 (a : Int)), .val (.int .u32 ((a : Int) * 256)), .val (.pointer (some ⟨c, 0, none⟩)), .val (.int .u32 (n.toNat : Int)), .val (.int .i64 8), .val (.int .u32 ((n.toNat : Int) / 256)), .val (.int .u8 (b.toNat : Int)), .val (.pointer (some ⟨c, 0, none⟩)), .val (.pointer (some ⟨c, 176, none⟩)), .val (.pointer (some ⟨c, 176 + b.toNat, none⟩)), .val (.int .u8 (y.toNat : Int)), .val (.int .u32 (y.toNat : Int)), .val (.int .u32 ((a * 256 + y.toNat : Nat) : Int))]) (by kernel_rfl) (by kernel_rfl) (by show Ext _ _; repeat (first | exact Ext.refl _ | assumption | (with_reducible refine Ext.drew ?_) | (with_reducible refine Ext.drewN ?_ _) | (with_reducible refine Ext.alloc ?_ _) | (refine Ext.trans ?_ (by assumption)))) (Loud.sps_st _) ?wAx3 ?whAx3 ?whSx3 ?whFx3
      case whAx3 => intro u K hK; simp only [List.take_succ_cons, List.take_zero, Loud.puts]; go_simp; exact hK
      case whSx3 =>
        simp only [List.take_succ_cons, List.take_zero, Loud.stepsW]
        refine ⟨?wsx3_0, ?wsx3_1, ?wsx3_2, ?wsx3_3, ?wsx3_4, ?wsx3_5, ?wsx3_6, ?wsx3_7, ?wsx3_8, ?wsx3_9, ?wsx3_10, ?wsx3_11, ?wsx3_12, trivial⟩
        case wsx3_0 =>
          intro u β wq hq h
          repeat (obtain ⟨h1, h⟩ := h; first | (replace h1 := h1 rfl; simp only [go_sem] at h1; try (obtain ⟨h1, h1b⟩ := h1)) | (have hno := (h1 : Region.binds _ _ = true → _); clear hno h1))
          refine Or.inl ⟨rfl, fun K hK => ?_⟩
          go_simp
          exact hK _ 0 _ (Ext.refl _) rfl
        case wsx3_1 =>
          intro u β wq hq h
          repeat (obtain ⟨h1, h⟩ := h; first | (replace h1 := h1 rfl; simp only [go_sem] at h1; try (obtain ⟨h1, h1b⟩ := h1)) | (have hno := (h1 : Region.binds _ _ = true → _); clear hno h1))
          refine Or.inl ⟨rfl, fun K hK => ?_⟩
          go_simp
          exact hK _ 0 _ (Ext.refl _) rfl
        case wsx3_2 =>
          intro u β wq hq h
          repeat (obtain ⟨h1, h⟩ := h; first | (replace h1 := h1 rfl; simp only [go_sem] at h1; try (obtain ⟨h1, h1b⟩ := h1)) | (have hno := (h1 : Region.binds _ _ = true → _); clear hno h1))
          refine Or.inl ⟨rfl, fun K hK => ?_⟩
          go_simp
          exact hK _ 0 _ (Ext.refl _) rfl
        case wsx3_3 =>
          intro u β wq hq h
          repeat (obtain ⟨h1, h⟩ := h; first | (replace h1 := h1 rfl; simp only [go_sem] at h1; try (obtain ⟨h1, h1b⟩ := h1)) | (have hno := (h1 : Region.binds _ _ = true → _); clear hno h1))
          refine Or.inl ⟨rfl, fun K hK => ?_⟩
          go_simp
          exact hK _ 0 _ (Ext.refl _) rfl
        case wsx3_4 =>
          intro u β wq hq h
          repeat (obtain ⟨h1, h⟩ := h; first | (replace h1 := h1 rfl; simp only [go_sem] at h1; try (obtain ⟨h1, h1b⟩ := h1)) | (have hno := (h1 : Region.binds _ _ = true → _); clear hno h1))
          refine Or.inl ⟨rfl, fun K hK => ?_⟩
          go_simp
          exact hK _ 0 _ (Ext.refl _) rfl
        case wsx3_5 =>
          intro u β wq hq h
          repeat (obtain ⟨h1, h⟩ := h; first | (replace h1 := h1 rfl; simp only [go_sem] at h1; try (obtain ⟨h1, h1b⟩ := h1)) | (have hno := (h1 : Region.binds _ _ = true → _); clear hno h1))
          refine Or.inl ⟨rfl, fun K hK => ?_⟩
          go_simp
          exact hK _ 0 _ (Ext.refl _) rfl
        case wsx3_6 =>
          intro u β wq hq h
          repeat (obtain ⟨h1, h⟩ := h; first | (replace h1 := h1 rfl; simp only [go_sem] at h1; try (obtain ⟨h1, h1b⟩ := h1)) | (have hno := (h1 : Region.binds _ _ = true → _); clear hno h1))
          refine Or.inl ⟨rfl, fun K hK => ?_⟩
          go_simp
          exact hK _ 0 _ (Ext.refl _) rfl
        case wsx3_7 =>
          intro u β wq hq h
          repeat (obtain ⟨h1, h⟩ := h; first | (replace h1 := h1 rfl; simp only [go_sem] at h1; try (obtain ⟨h1, h1b⟩ := h1)) | (have hno := (h1 : Region.binds _ _ = true → _); clear hno h1))
          refine Or.inl ⟨rfl, fun K hK => ?_⟩
          go_simp
          exact hK _ 0 _ (Ext.refl _) rfl
        case wsx3_8 =>
          intro u β wq hq h
          repeat (obtain ⟨h1, h⟩ := h; first | (replace h1 := h1 rfl; simp only [go_sem] at h1; try (obtain ⟨h1, h1b⟩ := h1)) | (have hno := (h1 : Region.binds _ _ = true → _); clear hno h1))
          refine Or.inl ⟨rfl, fun K hK => ?_⟩
          go_simp
          exact hK _ 0 _ (Ext.refl _) rfl
        case wsx3_9 =>
          intro u β wq hq h
          repeat (obtain ⟨h1, h⟩ := h; first | (replace h1 := h1 rfl; simp only [go_sem] at h1; try (obtain ⟨h1, h1b⟩ := h1)) | (have hno := (h1 : Region.binds _ _ = true → _); clear hno h1))
          refine Or.inl ⟨rfl, fun K hK => ?_⟩
          go_simp
          exact hK _ 0 _ (Ext.refl _) rfl
        case wsx3_10 =>
          intro u β wq hq h
          repeat (obtain ⟨h1, h⟩ := h; first | (replace h1 := h1 rfl; simp only [go_sem] at h1; try (obtain ⟨h1, h1b⟩ := h1)) | (have hno := (h1 : Region.binds _ _ = true → _); clear hno h1))
          refine Or.inl ⟨rfl, fun K hK => ?_⟩
          have hqc := hq.cell_of hc
          go_simp
          exact hK _ 0 _ (Ext.refl _) rfl
        case wsx3_11 =>
          intro u β wq hq h
          repeat (obtain ⟨h1, h⟩ := h; first | (replace h1 := h1 rfl; simp only [go_sem] at h1; try (obtain ⟨h1, h1b⟩ := h1)) | (have hno := (h1 : Region.binds _ _ = true → _); clear hno h1))
          refine Or.inl ⟨rfl, fun K hK => ?_⟩
          go_simp
          exact hK _ 0 _ (Ext.refl _) rfl
        case wsx3_12 =>
          intro u β wq hq h
          repeat (obtain ⟨h1, h⟩ := h; first | (replace h1 := h1 rfl; simp only [go_sem] at h1; try (obtain ⟨h1, h1b⟩ := h1)) | (have hno := (h1 : Region.binds _ _ = true → _); clear hno h1))
          refine Or.inl ⟨rfl, fun K hK => ?_⟩
          go_simp
          exact hK _ 0 _ (Ext.refl _) rfl
      intro u β w1 hq h
      have h0 := h 0 (by omega)
      have h1 := h 1 (by omega)
      have h2 := h 2 (by omega)
      have h3 := h 3 (by omega)
      have h4 := h 4 (by omega)
      have h5 := h 5 (by omega)
      have h6 := h 6 (by omega)
      have h7 := h 7 (by omega)
      have h8 := h 8 (by omega)
      have h9 := h 9 (by omega)
      have h10 := h 10 (by omega)
      have h11 := h 11 (by omega)
      have h12 := h 12 (by omega)
      clear h
      simp only [go_sem] at h0 h1 h2 h3 h4 h5 h6 h7 h8 h9 h10 h11 h12
      simp only [List.drop_succ_cons, List.drop_zero]
      rw [h12]
      go_wp2
      go_roundw
      case measure => simp [intOf]
      case rel => exact ⟨2 + 1, 8 - 8, by omega, by rw [HN.out], rfl, by omega, hx.trans hq⟩
    · obtain rfl : z = 0 := by omega
      have hby : (n.toNat : Int) / 1 % 256 = ((byteK n 3).toNat : Int) := by
        unfold byteK; rw [b8_mod]; omega
      have hby2 : IntKind.u8.wrap ((n.toNat : Int) / 1) = ((byteK n 3).toNat : Int) := by rw [IntKind.wrap_u8]; exact hby
      have hc := (HC.out.ext hx).box (byteK n 3)
      have hbb := (byteK n 3).toNat_lt
      have hyy := (boxO (byteK n 3)).toNat_lt
      have hor := or_byte32 (bwN n 3) (boxO (byteK n 3)) (by omega)
      have hw32 : IntKind.u32.wrap ((bwN n 3 : Int) * 256) = (bwN n 3 : Int) * 256 := by rw [IntKind.wrap_u32]; omega
      have hbi : ((byteK n 3).toNat : Int) < 256 := by omega
      rw [Int.ediv_one] at hby2
      generalize byteK n 3 = b at *
      generalize bwN n 3 = a at *
      generalize boxO b = y at *
      clear hz hk
      go_wp2
      refine Loud.wp_region_weave 13 wr (Loud.sps [.val (.int .u32 (a : Int)), .val (.int .u32 ((a : Int) * 256)), .val (.pointer (some ⟨c, 0, none⟩)), .val (.int .u32 (n.toNat : Int)), .val (.int .i64 0), .val (.int .u32 (n.toNat : Int)), .val (.int .u8 (b.toNat : Int)), .val (.pointer (some ⟨c, 0, none⟩)), .val (.pointer (some ⟨c, 176, none⟩)), .val (.pointer (some ⟨c, 176 + b.toNat, none⟩)), .val (.int .u8 (y.toNat : Int)), .val (.int .u32 (y.toNat : Int)), .val (.int .u32 ((a * 256 + y.toNat : Nat) : Int))]) (by kernel_rfl) (by kernel_rfl) (by show Ext _ _; repeat (first | exact Ext.refl _ | assumption | (with_reducible refine Ext.drew ?_) | (with_reducible refine Ext.drewN ?_ _) | (with_reducible refine Ext.alloc ?_ _) | (refine Ext.trans ?_ (by assumption)))) (Loud.sps_st _) ?wAx4 ?whAx4 ?whSx4 ?whFx4
      case whAx4 => intro u K hK; simp only [List.take_succ_cons, List.take_zero, Loud.puts]; go_simp; exact hK
      case whSx4 =>
        simp only [List.take_succ_cons, List.take_zero, Loud.stepsW]
        refine ⟨?wsx4_0, ?wsx4_1, ?wsx4_2, ?wsx4_3, ?wsx4_4, ?wsx4_5, ?wsx4_6, ?wsx4_7, ?wsx4_8, ?wsx4_9, ?wsx4_10, ?wsx4_11, ?wsx4_12, trivial⟩
        case wsx4_0 =>
          intro u β wq hq h
          repeat (obtain ⟨h1, h⟩ := h; first | (replace h1 := h1 rfl; simp only [go_sem] at h1; try (obtain ⟨h1, h1b⟩ := h1)) | (have hno := (h1 : Region.binds _ _ = true → _); clear hno h1))
          refine Or.inl ⟨rfl, fun K hK => ?_⟩
          go_simp
          exact hK _ 0 _ (Ext.refl _) rfl
        case wsx4_1 =>
          intro u β wq hq h
          repeat (obtain ⟨h1, h⟩ := h; first | (replace h1 := h1 rfl; simp only [go_sem] at h1; try (obtain ⟨h1, h1b⟩ := h1)) | (have hno := (h1 : Region.binds _ _ = true → _); clear hno h1))
          refine Or.inl ⟨rfl, fun K hK => ?_⟩
          go_simp
          exact hK _ 0 _ (Ext.refl _) rfl
        case wsx4_2 =>
          intro u β wq hq h
          repeat (obtain ⟨h1, h⟩ := h; first | (replace h1 := h1 rfl; simp only [go_sem] at h1; try (obtain ⟨h1, h1b⟩ := h1)) | (have hno := (h1 : Region.binds _ _ = true → _); clear hno h1))
          refine Or.inl ⟨rfl, fun K hK => ?_⟩
          go_simp
          exact hK _ 0 _ (Ext.refl _) rfl
        case wsx4_3 =>
          intro u β wq hq h
          repeat (obtain ⟨h1, h⟩ := h; first | (replace h1 := h1 rfl; simp only [go_sem] at h1; try (obtain ⟨h1, h1b⟩ := h1)) | (have hno := (h1 : Region.binds _ _ = true → _); clear hno h1))
          refine Or.inl ⟨rfl, fun K hK => ?_⟩
          go_simp
          exact hK _ 0 _ (Ext.refl _) rfl
        case wsx4_4 =>
          intro u β wq hq h
          repeat (obtain ⟨h1, h⟩ := h; first | (replace h1 := h1 rfl; simp only [go_sem] at h1; try (obtain ⟨h1, h1b⟩ := h1)) | (have hno := (h1 : Region.binds _ _ = true → _); clear hno h1))
          refine Or.inl ⟨rfl, fun K hK => ?_⟩
          go_simp
          exact hK _ 0 _ (Ext.refl _) rfl
        case wsx4_5 =>
          intro u β wq hq h
          repeat (obtain ⟨h1, h⟩ := h; first | (replace h1 := h1 rfl; simp only [go_sem] at h1; try (obtain ⟨h1, h1b⟩ := h1)) | (have hno := (h1 : Region.binds _ _ = true → _); clear hno h1))
          refine Or.inl ⟨rfl, fun K hK => ?_⟩
          go_simp
          exact hK _ 0 _ (Ext.refl _) rfl
        case wsx4_6 =>
          intro u β wq hq h
          repeat (obtain ⟨h1, h⟩ := h; first | (replace h1 := h1 rfl; simp only [go_sem] at h1; try (obtain ⟨h1, h1b⟩ := h1)) | (have hno := (h1 : Region.binds _ _ = true → _); clear hno h1))
          refine Or.inl ⟨rfl, fun K hK => ?_⟩
          go_simp
          exact hK _ 0 _ (Ext.refl _) rfl
        case wsx4_7 =>
          intro u β wq hq h
          repeat (obtain ⟨h1, h⟩ := h; first | (replace h1 := h1 rfl; simp only [go_sem] at h1; try (obtain ⟨h1, h1b⟩ := h1)) | (have hno := (h1 : Region.binds _ _ = true → _); clear hno h1))
          refine Or.inl ⟨rfl, fun K hK => ?_⟩
          go_simp
          exact hK _ 0 _ (Ext.refl _) rfl
        case wsx4_8 =>
          intro u β wq hq h
          repeat (obtain ⟨h1, h⟩ := h; first | (replace h1 := h1 rfl; simp only [go_sem] at h1; try (obtain ⟨h1, h1b⟩ := h1)) | (have hno := (h1 : Region.binds _ _ = true → _); clear hno h1))
          refine Or.inl ⟨rfl, fun K hK => ?_⟩
          go_simp
          exact hK _ 0 _ (Ext.refl _) rfl
        case wsx4_9 =>
          intro u β wq hq h
          repeat (obtain ⟨h1, h⟩ := h; first | (replace h1 := h1 rfl; simp only [go_sem] at h1; try (obtain ⟨h1, h1b⟩ := h1)) | (have hno := (h1 : Region.binds _ _ = true → _); clear hno h1))
          refine Or.inl ⟨rfl, fun K hK => ?_⟩
          go_simp
          exact hK _ 0 _ (Ext.refl _) rfl
        case wsx4_10 =>
          intro u β wq hq h
          repeat (obtain ⟨h1, h⟩ := h; first | (replace h1 := h1 rfl; simp only [go_sem] at h1; try (obtain ⟨h1, h1b⟩ := h1)) | (have hno := (h1 : Region.binds _ _ = true → _); clear hno h1))
          refine Or.inl ⟨rfl, fun K hK => ?_⟩
          have hqc := hq.cell_of hc
          go_simp
          exact hK _ 0 _ (Ext.refl _) rfl
        case wsx4_11 =>
          intro u β wq hq h
          repeat (obtain ⟨h1, h⟩ := h; first | (replace h1 := h1 rfl; simp only [go_sem] at h1; try (obtain ⟨h1, h1b⟩ := h1)) | (have hno := (h1 : Region.binds _ _ = true → _); clear hno h1))
          refine Or.inl ⟨rfl, fun K hK => ?_⟩
          go_simp
          exact hK _ 0 _ (Ext.refl _) rfl
        case wsx4_12 =>
          intro u β wq hq h
          repeat (obtain ⟨h1, h⟩ := h; first | (replace h1 := h1 rfl; simp only [go_sem] at h1; try (obtain ⟨h1, h1b⟩ := h1)) | (have hno := (h1 : Region.binds _ _ = true → _); clear hno h1))
          refine Or.inl ⟨rfl, fun K hK => ?_⟩
          go_simp
          exact hK _ 0 _ (Ext.refl _) rfl
      intro u β w1 hq h
      have h0 := h 0 (by omega)
      have h1 := h 1 (by omega)
      have h2 := h 2 (by omega)
      have h3 := h 3 (by omega)
      have h4 := h 4 (by omega)
      have h5 := h 5 (by omega)
      have h6 := h 6 (by omega)
      have h7 := h 7 (by omega)
      have h8 := h 8 (by omega)
      have h9 := h 9 (by omega)
      have h10 := h 10 (by omega)
      have h11 := h 11 (by omega)
      have h12 := h 12 (by omega)
      clear h
      simp only [go_sem] at h0 h1 h2 h3 h4 h5 h6 h7 h8 h9 h10 h11 h12
      simp only [List.drop_succ_cons, List.drop_zero]
      rw [h12]
      go_wp2
      go_roundw
      case measure => simp [intOf]
      case rel => exact ⟨3 + 1, 0 - 8, by omega, by rw [HN.out], rfl, by omega, hx.trans hq⟩
    · obtain rfl : z = -8 := by omega
      have HW := Lib.hid (boxW_toNat n)
      generalize bwN n 4 = a at *
      go_wp2
      go_returns
      exact ⟨by rw [HW.out]; rfl, hx⟩
end Go.Proofs.YtclekllaikcglaaGreat
namespace Go.Proofs.YtclekllaikcglaaGreat
open Go Go.RowKit

def rkey (K : List UInt8) (r : Nat) : List UInt8 := (K.drop (16 * r)).take 16
theorem rkey_length (K : List UInt8) (hK : K.length = 176) (r : Nat) (hr : r ≤ 10) : (rkey K r).length = 16 := by
  unfold rkey; rw [List.length_take, List.length_drop]; omega
theorem rkey_at (K : List UInt8) (hK : K.length = 176) (r : Nat) (hr : r ≤ 10) (k : Nat) (hk : k < 16) : (rkey K r)[k]'(by rw [rkey_length K hK r hr]; exact hk) = K[16 * r + k]'(by omega) := by
  unfold rkey
  rw [List.getElem_take, List.getElem_drop]
set_option maxRecDepth 100000 in
set_option maxHeartbeats 2000000 in
theorem adds_any (c : Nat) (K : List UInt8) (g : Nat) (s : List UInt8) (r : Nat) (w : World) (hci : CI w c K) (hcg : c < g) (hs : s.length = 16) (hr : r ≤ 10) (hg : w.heap[g]? = some (.cells (bcells s) 162 (0, 0))) :
    Calls Tryz.prog 147 #[.pointer (some ⟨c, 0, none⟩), .pointer (some ⟨g, 0, none⟩), .int .i64 (r : Int)] w fun e w' => e = .returned (.tuple #[]) ∧ w'.heap[g]? = some (.cells (bcells (xorL s (rkey K r))) 162 (0, 0)) ∧ Below g w w' := by
  have HC := Lib.hid hci
  have hK := hci.1
  have hrl := rkey_length K hK r hr
  have hsr : s.length = (rkey K r).length := by rw [hs, hrl]
  have HG := Lib.hid hg
  have HSR := Lib.hid hsr
  clear hci hg hsr
  go_enter Tryz.func147, Tryz.ntmps147
  go_wp2
  go_loopw [7] (fun i wr => ∃ k : Nat, k ≤ 16 ∧ i = .int .i64 k ∧ wr.heap[g]? = some (.cells (bcells (xorK s (rkey K r) k)) 162 (0, 0)) ∧ Below g w wr) (fun i _ => 16 - (intOf i).toNat)
  case atStart => exact ⟨0, by omega, rfl, by rw [show xorK s (rkey K r) 0 = s by simp [xorK]]; exact HG.out, Below.refl _ _⟩
  case round =>
    obtain ⟨k, hk, rfl, hb, hx⟩ := hrel
    have HB := Lib.hid hb
    have hxl := xorK_length s (rkey K r) HSR.out k (by omega)
    by_cases hlt : k < 16
    · have hck : wr.cell? ⟨c, 16 * r + k, none⟩ = some (.int .u8 ((K[16 * r + k]'(by omega)).toNat : Int)) := (World.cell?_of_block (hx.block c hcg)).trans (HC.out.key (16 * r + k) (by omega))
      have hgk : wr.cell? ⟨g, k, none⟩ = some (.int .u8 ((s[k]'(by omega)).toNat : Int)) := by
        refine cell_blk hb ?_
        rw [bcells_at _ k (by rw [hxl]; omega), xorK_at s (rkey K r) HSR.out k (by omega)]
      have hfz : wr.frozen? ⟨g, k, none⟩ = false := frozen_blk hb
      have hst := xorK_step s (rkey K r) HSR.out k (by omega)
      rw [rkey_at K hK r hr k hlt] at hst
      have HST := Lib.hid hst
      clear hb hst hxl
      have hri : (r : Int) < 11 := by omega
      have hki : (k : Int) < 16 := by omega
      generalize s[k]'(by omega) = a at *
      generalize K[16 * r + k]'(by omega) = b at *
      rw [show 16 * r + k = r * 16 + k by omega] at hck
      go_wp2
      refine Loud.wp_region_weave 16 wr (Loud.sps [.val (.pointer (some ⟨g, 0, none⟩)), .val (.int .i64 (k : Int)), .val (.pointer (some ⟨g, 0, none⟩)), .val (.pointer (some ⟨g, k, none⟩)), .val (.int .u8 (a.toNat : Int)), .val (.pointer (some ⟨c, 0, none⟩)), .val (.int .i64 (r : Int)), .val (.int .i64 (k : Int)), .val (.pointer (some ⟨c, 0, none⟩)), .val (.pointer (some ⟨c, 0, none⟩)), .val (.pointer (some ⟨c, r * 16, none⟩)), .val (.pointer (some ⟨c, r * 16 + k, none⟩)), .val (.int .u8 (b.toNat : Int)), .val (.int .u8 ((x8 a b).toNat : Int)), .val (.pointer (some ⟨g, 0, none⟩)), .val (.pointer (some ⟨g, k, none⟩))]) (by kernel_rfl) (by kernel_rfl) (by show Ext _ _; repeat (first | exact Ext.refl _ | assumption | (with_reducible refine Ext.drew ?_) | (with_reducible refine Ext.drewN ?_ _) | (with_reducible refine Ext.alloc ?_ _) | (refine Ext.trans ?_ (by assumption)))) (Loud.sps_st _) ?wAx1 ?whAx1 ?whSx1 ?whFx1
      case whAx1 => intro u K hK; simp only [List.take_succ_cons, List.take_zero, Loud.puts]; go_simp; exact hK
      case whSx1 =>
        simp only [List.take_succ_cons, List.take_zero, Loud.stepsW]
        refine ⟨?wsx1_0, ?wsx1_1, ?wsx1_2, ?wsx1_3, ?wsx1_4, ?wsx1_5, ?wsx1_6, ?wsx1_7, ?wsx1_8, ?wsx1_9, ?wsx1_10, ?wsx1_11, ?wsx1_12, ?wsx1_13, ?wsx1_14, ?wsx1_15, trivial⟩
        case wsx1_0 =>
          intro u β wq hq h
          repeat (obtain ⟨h1, h⟩ := h; first | (replace h1 := h1 rfl; simp only [go_sem] at h1; try (obtain ⟨h1, h1b⟩ := h1)) | (have hno := (h1 : Region.binds _ _ = true → _); clear hno h1))
          refine Or.inl ⟨rfl, fun K hK => ?_⟩
          go_simp
          exact hK _ 0 _ (Ext.refl _) rfl
        case wsx1_1 =>
          intro u β wq hq h
          repeat (obtain ⟨h1, h⟩ := h; first | (replace h1 := h1 rfl; simp only [go_sem] at h1; try (obtain ⟨h1, h1b⟩ := h1)) | (have hno := (h1 : Region.binds _ _ = true → _); clear hno h1))
          refine Or.inl ⟨rfl, fun K hK => ?_⟩
          go_simp
          exact hK _ 0 _ (Ext.refl _) rfl
        case wsx1_2 =>
          intro u β wq hq h
          repeat (obtain ⟨h1, h⟩ := h; first | (replace h1 := h1 rfl; simp only [go_sem] at h1; try (obtain ⟨h1, h1b⟩ := h1)) | (have hno := (h1 : Region.binds _ _ = true → _); clear hno h1))
          refine Or.inl ⟨rfl, fun K hK => ?_⟩
          go_simp
          exact hK _ 0 _ (Ext.refl _) rfl
        case wsx1_3 =>
          intro u β wq hq h
          repeat (obtain ⟨h1, h⟩ := h; first | (replace h1 := h1 rfl; simp only [go_sem] at h1; try (obtain ⟨h1, h1b⟩ := h1)) | (have hno := (h1 : Region.binds _ _ = true → _); clear hno h1))
          refine Or.inl ⟨rfl, fun K hK => ?_⟩
          go_simp
          exact hK _ 0 _ (Ext.refl _) rfl
        case wsx1_4 =>
          intro u β wq hq h
          repeat (obtain ⟨h1, h⟩ := h; first | (replace h1 := h1 rfl; simp only [go_sem] at h1; try (obtain ⟨h1, h1b⟩ := h1)) | (have hno := (h1 : Region.binds _ _ = true → _); clear hno h1))
          refine Or.inl ⟨rfl, fun K hK => ?_⟩
          have hqc := hq.cell_of hgk
          go_simp
          exact hK _ 0 _ (Ext.refl _) rfl
        case wsx1_5 =>
          intro u β wq hq h
          repeat (obtain ⟨h1, h⟩ := h; first | (replace h1 := h1 rfl; simp only [go_sem] at h1; try (obtain ⟨h1, h1b⟩ := h1)) | (have hno := (h1 : Region.binds _ _ = true → _); clear hno h1))
          refine Or.inl ⟨rfl, fun K hK => ?_⟩
          go_simp
          exact hK _ 0 _ (Ext.refl _) rfl
        case wsx1_6 =>
          intro u β wq hq h
          repeat (obtain ⟨h1, h⟩ := h; first | (replace h1 := h1 rfl; simp only [go_sem] at h1; try (obtain ⟨h1, h1b⟩ := h1)) | (have hno := (h1 : Region.binds _ _ = true → _); clear hno h1))
          refine Or.inl ⟨rfl, fun K hK => ?_⟩
          go_simp
          exact hK _ 0 _ (Ext.refl _) rfl
        case wsx1_7 =>
          intro u β wq hq h
          repeat (obtain ⟨h1, h⟩ := h; first | (replace h1 := h1 rfl; simp only [go_sem] at h1; try (obtain ⟨h1, h1b⟩ := h1)) | (have hno := (h1 : Region.binds _ _ = true → _); clear hno h1))
          refine Or.inl ⟨rfl, fun K hK => ?_⟩
          go_simp
          exact hK _ 0 _ (Ext.refl _) rfl
        case wsx1_8 =>
          intro u β wq hq h
          repeat (obtain ⟨h1, h⟩ := h; first | (replace h1 := h1 rfl; simp only [go_sem] at h1; try (obtain ⟨h1, h1b⟩ := h1)) | (have hno := (h1 : Region.binds _ _ = true → _); clear hno h1))
          refine Or.inl ⟨rfl, fun K hK => ?_⟩
          go_simp
          exact hK _ 0 _ (Ext.refl _) rfl
        case wsx1_9 =>
          intro u β wq hq h
          repeat (obtain ⟨h1, h⟩ := h; first | (replace h1 := h1 rfl; simp only [go_sem] at h1; try (obtain ⟨h1, h1b⟩ := h1)) | (have hno := (h1 : Region.binds _ _ = true → _); clear hno h1))
          refine Or.inl ⟨rfl, fun K hK => ?_⟩
          go_simp
          exact hK _ 0 _ (Ext.refl _) rfl
        case wsx1_10 =>
          intro u β wq hq h
          repeat (obtain ⟨h1, h⟩ := h; first | (replace h1 := h1 rfl; simp only [go_sem] at h1; try (obtain ⟨h1, h1b⟩ := h1)) | (have hno := (h1 : Region.binds _ _ = true → _); clear hno h1))
          refine Or.inl ⟨rfl, fun K hK => ?_⟩
          go_simp
          exact hK _ 0 _ (Ext.refl _) rfl
        case wsx1_11 =>
          intro u β wq hq h
          repeat (obtain ⟨h1, h⟩ := h; first | (replace h1 := h1 rfl; simp only [go_sem] at h1; try (obtain ⟨h1, h1b⟩ := h1)) | (have hno := (h1 : Region.binds _ _ = true → _); clear hno h1))
          refine Or.inl ⟨rfl, fun K hK => ?_⟩
          go_simp
          exact hK _ 0 _ (Ext.refl _) rfl
        case wsx1_12 =>
          intro u β wq hq h
          repeat (obtain ⟨h1, h⟩ := h; first | (replace h1 := h1 rfl; simp only [go_sem] at h1; try (obtain ⟨h1, h1b⟩ := h1)) | (have hno := (h1 : Region.binds _ _ = true → _); clear hno h1))
          refine Or.inl ⟨rfl, fun K hK => ?_⟩
          have hqc := hq.cell_of hck
          go_simp
          exact hK _ 0 _ (Ext.refl _) rfl
        case wsx1_13 =>
          intro u β wq hq h
          repeat (obtain ⟨h1, h⟩ := h; first | (replace h1 := h1 rfl; simp only [go_sem] at h1; try (obtain ⟨h1, h1b⟩ := h1)) | (have hno := (h1 : Region.binds _ _ = true → _); clear hno h1))
          refine Or.inl ⟨rfl, fun K hK => ?_⟩
          go_simp
          exact hK _ 0 _ (Ext.refl _) rfl
        case wsx1_14 =>
          intro u β wq hq h
          repeat (obtain ⟨h1, h⟩ := h; first | (replace h1 := h1 rfl; simp only [go_sem] at h1; try (obtain ⟨h1, h1b⟩ := h1)) | (have hno := (h1 : Region.binds _ _ = true → _); clear hno h1))
          refine Or.inl ⟨rfl, fun K hK => ?_⟩
          go_simp
          exact hK _ 0 _ (Ext.refl _) rfl
        case wsx1_15 =>
          intro u β wq hq h
          repeat (obtain ⟨h1, h⟩ := h; first | (replace h1 := h1 rfl; simp only [go_sem] at h1; try (obtain ⟨h1, h1b⟩ := h1)) | (have hno := (h1 : Region.binds _ _ = true → _); clear hno h1))
          refine Or.inl ⟨rfl, fun K hK => ?_⟩
          go_simp
          exact hK _ 0 _ (Ext.refl _) rfl
      intro u β w1 hq h
      have h0 := h 0 (by omega)
      have h1 := h 1 (by omega)
      have h2 := h 2 (by omega)
      have h3 := h 3 (by omega)
      have h4 := h 4 (by omega)
      have h5 := h 5 (by omega)
      have h6 := h 6 (by omega)
      have h7 := h 7 (by omega)
      have h8 := h 8 (by omega)
      have h9 := h 9 (by omega)
      have h10 := h 10 (by omega)
      have h11 := h 11 (by omega)
      have h12 := h 12 (by omega)
      have h13 := h 13 (by omega)
      have h14 := h 14 (by omega)
      have h15 := h 15 (by omega)
      clear h
      simp only [go_sem] at h0 h1 h2 h3 h4 h5 h6 h7 h8 h9 h10 h11 h12 h13 h14 h15
      simp only [List.drop_succ_cons, List.drop_zero]
      rw [h15]
      have hbq := Lib.hid (hq.keep HB.out)
      have hgk1 := hq.cell_of hgk
      have hfz1 : w1.frozen? ⟨g, k, none⟩ = false := frozen_blk hbq.out
      have hxq := hx.trans (Below.mono hq (Nat.le_of_lt (blk_lt HB.out)))
      try rw [h13]
      go_wp2
      go_roundw
      case measure => simp [intOf]; omega
      case rel =>
        refine ⟨k + 1, by omega, by go_num, ?_, hxq.setCell (Nat.le_refl _) _⟩
        rw [heap_setCell_same _ hbq.out, bcells_set, HST.out]
    · obtain rfl : k = 16 := by omega
      have hd : xorK s (rkey K r) 16 = xorL s (rkey K r) := by
        have := xorL_length s (rkey K r) HSR.out
        simp [xorK, List.take_of_length_le (show (xorL s (rkey K r)).length ≤ 16 by omega), List.drop_of_length_le (show s.length ≤ 16 by omega)]
      rw [hd] at HB
      clear hb hd hxl
      go_wp2
      go_returns
      exact ⟨rfl, HB.out, hx⟩
end Go.Proofs.YtclekllaikcglaaGreat
