/- The statements of layer 3: the walk of MacCuts. -/
import Derived.Test.YtipdgiikifmjdaaLaw03b
import Derived.Test.YtipdgiikifmjdaaMacIt
namespace Go.Proofs.Ytipdgiikifmjdaa
open Go Go.RowKit

theorem mac_four (key a b : List UInt8) (B : Nat) (w : World) (hk : key.length ≤ 1099511627776) (hs : a.length + b.length ≤ 1099511627000) (h : w.heap[B]? = some (.cells #[.string { data := #[] }, .string (bs a), .string { data := #[] }, .string (bs b)] 9)) :
    Calls Try.prog 21 #[.string (bs key), .slice (some ⟨B, 0, none⟩) 4 4] w fun e w' => e = .returned (.string (bs (macL key (a ++ b)))) ∧ Ext w w' := by
  have hsl : Sl w (.slice (some ⟨B, 0, none⟩) [[], a, [], b].length 4) ([[], a, [], b].map strV) :=
    ⟨_, _, rfl, fun i hi => ⟨B, 0, rfl, blk_lt h, by
      match i, hi with
      | 0, _ => exact cell_blk h rfl
      | 1, _ => exact cell_blk h rfl
      | 2, _ => exact cell_blk h rfl
      | 3, _ => exact cell_blk h rfl⟩⟩
  have h := macOf_any key [[], a, [], b] _ _ w hk (by simp) (by simpa using hs) hsl
  rw [show ([[], a, [], b] : List (List UInt8)).flatten = a ++ b by simp] at h
  exact h
theorem check_one (key tag a : List UInt8) (B : Nat) (w : World) (hk : key.length ≤ 1099511627776) (ht : tag.length ≤ 1099511627776) (hs : a.length ≤ 1099511627000) (h : w.heap[B]? = some (.cells #[.string (bs a)] 9)) :
    Calls Try.prog 27 #[.string (bs key), .string (bs tag), .slice (some ⟨B, 0, none⟩) 1 1] w fun e w' => e = .returned (.bool (rightL (macL key a) tag)) ∧ Ext w w' := by
  have hsl : Sl w (.slice (some ⟨B, 0, none⟩) [a].length 1) ([a].map strV) :=
    ⟨_, _, rfl, fun i hi => ⟨B, 0, rfl, blk_lt h, by
      match i, hi with
      | 0, _ => exact cell_blk h rfl⟩⟩
  have h := macCheck_any key tag [a] _ _ w hk ht (by simp) (by simpa using hs) hsl
  rw [show [a].flatten = a by simp] at h
  exact h
theorem right_16 (z : List UInt8) (h : z.length = 32) : rightL z (z.take 16) = true := by
  have : (z.take 16).length = 16 := by rw [List.length_take]; omega
  unfold rightL
  rw [this]
  simp
theorem right_15 (z : List UInt8) (h : z.length = 32) : rightL z (z.take 15) = false := by
  have : (z.take 15).length = 15 := by rw [List.length_take]; omega
  unfold rightL
  rw [this]
  simp
theorem o8_one (x : UInt8) : o8 x 1 ≠ 0 := by
  intro h
  have := (o8_zero x 1).1 h
  exact absurd this.2 (by decide)
theorem right_flip (z : List UInt8) (h : z.length = 32) (i : Nat) (hi : i < 32) (x : UInt8) (hx : x ≠ 0) : rightL z (flipL z i x) = false := by
  have hl : (flipL z i x).length = 32 := by rw [flipL_length]; exact h
  have hne : z ≠ flipL z i x := by
    intro e
    have h1 : (flipL z i x)[i]? = some (x8 (z.getD i 0) x) := by unfold flipL; rw [List.getElem?_set_self (by omega)]
    rw [← e] at h1
    have h2 : z[i]? = some (z.getD i 0) := by simp [List.getD, show i < z.length by omega]
    rw [h2] at h1
    have h3 : x8 (z.getD i 0) x = z.getD i 0 := (Option.some.inj h1).symm
    generalize z.getD i 0 = y at h3
    unfold x8 at h3
    have h4 : y ^^^ (y ^^^ x) = y ^^^ y := by rw [h3]
    rw [← UInt8.xor_assoc, UInt8.xor_self, UInt8.zero_xor] at h4
    exact hx h4
  unfold rightL
  rw [hl, List.take_of_length_le (by omega)]
  simp [hne]
set_option maxRecDepth 100000 in
set_option maxHeartbeats 1000000 in
theorem cuts_big (w : World) (key s : List UInt8) (c : Int) (label : List UInt8) (n k p x : UInt8) (hk : key.length ≤ 140737488351232) (hs : s.length ≤ 140737488351232) (hl : label.length ≤ 140737488351232) (h : 300 < key.length ∨ 1024 < s.length ∨ 300 < label.length) :
    Calls Try.prog 10 #[.string (bs key), .string (bs s), .int .u16 c, .string (bs label), .int .u8 (n.toNat : Int), .int .u8 (k.toNat : Int), .int .u8 (p.toNat : Int), .int .u8 (x.toNat : Int)] w fun e w' => e = .returned (.bool true) ∧ Ext w w' := by
  have G0 := Lib.hid works03
  have three : (300 < key.length) ∨ (¬ 300 < key.length ∧ 1024 < s.length) ∨ (¬ 300 < key.length ∧ ¬ 1024 < s.length ∧ 300 < label.length) := by omega
  clear h
  rcases three with h1 | ⟨h1, h2⟩ | ⟨h1, h2, h3⟩
  · go_enter Try.func10, Try.ntmps10
    go_wp2_with (first
      | (go_at_call 20; with_reducible refine (G0.out _).mono ?_; rintro e w9 ⟨rfl, hw9⟩))
    go_returns
    exact ⟨rfl, hw9⟩
  · go_enter Try.func10, Try.ntmps10
    go_wp2_with (first
      | (go_at_call 20; with_reducible refine (G0.out _).mono ?_; rintro e w9 ⟨rfl, hw9⟩))
    go_returns
    exact ⟨rfl, hw9⟩
  · go_enter Try.func10, Try.ntmps10
    go_wp2_with (first
      | (go_at_call 20; with_reducible refine (G0.out _).mono ?_; rintro e w9 ⟨rfl, hw9⟩))
    go_returns
    exact ⟨rfl, hw9⟩
set_option maxRecDepth 100000 in
set_option maxHeartbeats 8000000 in
theorem cuts_main (w : World) (key s : List UInt8) (c : Int) (hc0 : 0 ≤ c) (hc1 : c ≤ 65535) (label : List UInt8) (n k p x : UInt8) (hk : key.length ≤ 300) (hs : s.length ≤ 1024) (hl : label.length ≤ 300) :
    Calls Try.prog 10 #[.string (bs key), .string (bs s), .int .u16 c, .string (bs label), .int .u8 (n.toNat : Int), .int .u8 (k.toNat : Int), .int .u8 (p.toNat : Int), .int .u8 (x.toNat : Int)] w fun e w' => e = .returned (.bool true) ∧ Ext w w' := by
  have G0 := Lib.hid works03
  have hemp : ({ data := #[] } : ByteArray) = bs [] := rfl
  have hnl := n.toNat_lt
  have hkl := k.toNat_lt
  have hcw : IntKind.i64.wrap c = c := by rw [IntKind.wrap_i64]; omega
  obtain ⟨i, hi⟩ : ∃ i : Nat, c % ((s.length : Int) + 1) = (i : Int) := ⟨(c % ((s.length : Int) + 1)).toNat, by have := Int.emod_nonneg c (b := (s.length : Int) + 1) (by omega); omega⟩
  have his : i ≤ s.length := by have := Int.emod_lt_of_pos c (b := (s.length : Int) + 1) (by omega); omega
  obtain ⟨sa, hsa⟩ : ∃ sa, s.take i = sa := ⟨_, rfl⟩
  obtain ⟨sb, hsb⟩ : ∃ sb, s.drop i = sb := ⟨_, rfl⟩
  have hsab : sa ++ sb = s := by rw [← hsa, ← hsb]; exact List.take_append_drop i s
  have hlab : sa.length + sb.length = s.length := by rw [← hsab, List.length_append]
  have hdr : (bs s).extract i s.length = bs sb := by rw [bs_extract, ← hsb]; congr 1; rw [List.take_of_length_le]; simp
  obtain ⟨m1, hm1⟩ : ∃ m1 : Nat, (1 : Int) + (n.toNat : Int) = (m1 : Int) := ⟨1 + n.toNat, by omega⟩
  obtain ⟨m2, hm2⟩ : ∃ m2 : Nat, (m1 : Int) + (k.toNat : Int) = (m2 : Int) := ⟨m1 + k.toNat, by omega⟩
  have GA := Lib.hid (fun (W : World) => derive_yes key label m1 W (by omega) (by omega) (by omega) (by omega))
  have GB := Lib.hid (fun (W : World) => derive_yes key label m2 W (by omega) (by omega) (by omega) (by omega))
  have hal := derL_length key label m1 (by omega)
  have hbl := derL_length key label m2 (by omega)
  have hab := derL_take key label m1 m2 (by omega)
  have hm12 : m1 ≤ m2 := by omega
  generalize derL key label m1 = da at *
  generalize derL key label m2 = db at *
  have G1 := Lib.hid (fun (B : Nat) (W : World) (h : W.heap[B]? = some (.cells #[.string (bs s)] 9)) => mac_one key s B W (by omega) (by omega) h)
  have G2 := Lib.hid (fun (B : Nat) (W : World) (h : W.heap[B]? = some (.cells #[.string (bs sa), .string (bs sb)] 9)) => mac_two key sa sb B W (by omega) (by omega) h)
  have G4 := Lib.hid (fun (B : Nat) (W : World) (h : W.heap[B]? = some (.cells #[.string { data := #[] }, .string (bs sa), .string { data := #[] }, .string (bs sb)] 9)) => mac_four key sa sb B W (by omega) (by omega) h)
  rw [hsab] at G2 G4
  have hzl : (macL key s).length = 32 := macL_length _ _
  have GK := Lib.hid (fun (tag : List UInt8) (ht : tag.length ≤ 32) (B : Nat) (W : World) (h : W.heap[B]? = some (.cells #[.string (bs s)] 9)) => check_one key tag s B W (by omega) (by omega) (by omega) h)
  generalize macL key s = z at *
  obtain ⟨q, hq⟩ : ∃ q : Nat, (p.toNat : Int) % 32 = (q : Int) := ⟨p.toNat % 32, by omega⟩
  have hq32 : q < 32 := by omega
  have ho1 : bits .or .u8 (x.toNat : Int) 1 = ((o8 x 1).toNat : Int) := bor8 x 1
  have C1 := GK.out (z.take 16) (by rw [List.length_take]; omega)
  rw [right_16 z hzl] at C1
  have C1 := Lib.hid C1
  have C2 := GK.out (z.take 15) (by rw [List.length_take]; omega)
  rw [right_15 z hzl] at C2
  have C2 := Lib.hid C2
  have C3 := GK.out (flipL z q (o8 x 1)) (by rw [flipL_length]; omega)
  rw [right_flip z hzl q hq32 _ (o8_one x)] at C3
  have C3 := Lib.hid C3
  generalize o8 x 1 = x1 at *
  have kt := to_bytes z
  have HZ := Lib.hid hzl
  have HSAB := Lib.hid hsab
  have HDR := hdr
  clear hsab
  go_enter Try.func10, Try.ntmps10
  go_upto_region 5 with (go_at_call 21; with_reducible refine (G1.out _ _ (heap_alloc_new w _)).mono ?_; rintro e w1 ⟨rfl, hx1⟩)
  have hx1' : Ext w w1 := ((Ext.refl w).alloc _).trans hx1
  refine Loud.wp_region_weave 29 w1 (Loud.sps [.val (.string (bs z)), .val (.int .i64 32), .val (.bool false), .val (.bool false), .val (.string (bs key)), .val (.string (bs s)), .val (.int .i64 (i : Int)), .val (.string (bs sa)), .val (.string (bs s)), .val (.int .i64 (i : Int)), .val (.string (bs sb)), .blk 2 2 (.cells #[.string (bs sa), .string (bs sb)] 9), .val (.string (bs z)), .val (.string (bs z)), .val (.bool false), .val (.bool false), .val (.bool false), .val (.string (bs key)), .val (.string (bs s)), .val (.int .i64 (i : Int)), .val (.string (bs sa)), .val (.string (bs s)), .val (.int .i64 (i : Int)), .val (.string (bs sb)), .blk 4 4 (.cells #[.string { data := #[] }, .string (bs sa), .string { data := #[] }, .string (bs sb)] 9), .val (.string (bs z)), .val (.string (bs z)), .val (.bool false), .val (.bool false)]) (by kernel_rfl) (by kernel_rfl) (by show Ext _ _; repeat (first | exact Ext.refl _ | assumption | (with_reducible refine Ext.drew ?_) | (with_reducible refine Ext.drewN ?_ _) | (with_reducible refine Ext.alloc ?_ _) | (refine Ext.trans ?_ (by assumption)))) (Loud.sps_st _) ?wA ?whA ?whS ?whF
  case whA => intro u K hK; simp only [List.take_succ_cons, List.take_zero, Loud.puts]; go_simp; exact hK
  case whS =>
    simp only [List.take_succ_cons, List.take_zero, Loud.stepsW]
    refine ⟨?ws0, ?ws1, ?ws2, ?ws3, ?ws4, ?ws5, ?ws6, ?ws7, ?ws8, ?ws9, ?ws10, ?ws11, ?ws12, ?ws13, ?ws14, ?ws15, ?ws16, ?ws17, ?ws18, ?ws19, ?ws20, ?ws21, ?ws22, ?ws23, ?ws24, ?ws25, ?ws26, ?ws27, ?ws28, trivial⟩
    case ws0 =>
      intro u β wq hq h
      simp only [Loud.preds, Region.binds, Loud.sps_zero, Loud.sps_succ, Loud.Spec.val, Loud.Spec.blk, Loud.Spec.any, forall_const, and_true, true_and, and_assoc] at h
      repeat (rcases h with ⟨h1, h⟩)
      refine Or.inl ⟨rfl, fun K hK => ?_⟩
      go_simp
      exact hK _ 0 _ (Ext.refl _) rfl
    case ws1 =>
      intro u β wq hq h
      simp only [Loud.preds, Region.binds, Loud.sps_zero, Loud.sps_succ, Loud.Spec.val, Loud.Spec.blk, Loud.Spec.any, forall_const, and_true, true_and, and_assoc] at h
      repeat (rcases h with ⟨h1, h⟩)
      refine Or.inl ⟨rfl, fun K hK => ?_⟩
      go_simp
      exact hK _ 0 _ (Ext.refl _) rfl
    case ws2 =>
      intro u β wq hq h
      simp only [Loud.preds, Region.binds, Loud.sps_zero, Loud.sps_succ, Loud.Spec.val, Loud.Spec.blk, Loud.Spec.any, forall_const, and_true, true_and, and_assoc] at h
      repeat (rcases h with ⟨h1, h⟩)
      refine Or.inl ⟨rfl, fun K hK => ?_⟩
      go_simp
      exact hK _ 0 _ (Ext.refl _) rfl
    case ws3 =>
      intro u β wq hq h
      simp only [Loud.preds, Region.binds, Loud.sps_zero, Loud.sps_succ, Loud.Spec.val, Loud.Spec.blk, Loud.Spec.any, forall_const, and_true, true_and, and_assoc] at h
      repeat (rcases h with ⟨h1, h⟩)
      refine Or.inl ⟨rfl, fun K hK => ?_⟩
      go_simp
      exact hK _ 0 _ (Ext.refl _) rfl
    case ws4 =>
      intro u β wq hq h
      simp only [Loud.preds, Region.binds, Loud.sps_zero, Loud.sps_succ, Loud.Spec.val, Loud.Spec.blk, Loud.Spec.any, forall_const, and_true, true_and, and_assoc] at h
      repeat (rcases h with ⟨h1, h⟩)
      refine Or.inl ⟨Loud.wanted_of rfl rfl (congrArg some (by assumption)), fun K hK => ?_⟩
      go_simp
      exact hK _ 0 _ (Ext.refl _) rfl
    case ws5 =>
      intro u β wq hq h
      simp only [Loud.preds, Region.binds, Loud.sps_zero, Loud.sps_succ, Loud.Spec.val, Loud.Spec.blk, Loud.Spec.any, forall_const, and_true, true_and, and_assoc] at h
      repeat (rcases h with ⟨h1, h⟩)
      refine Or.inl ⟨Loud.wanted_of rfl rfl (congrArg some (by assumption)), fun K hK => ?_⟩
      go_simp
      exact hK _ 0 _ (Ext.refl _) rfl
    case ws6 =>
      intro u β wq hq h
      simp only [Loud.preds, Region.binds, Loud.sps_zero, Loud.sps_succ, Loud.Spec.val, Loud.Spec.blk, Loud.Spec.any, forall_const, and_true, true_and, and_assoc] at h
      repeat (rcases h with ⟨h1, h⟩)
      refine Or.inl ⟨Loud.wanted_of rfl rfl (congrArg some (by assumption)), fun K hK => ?_⟩
      go_simp
      exact hK _ 0 _ (Ext.refl _) rfl
    case ws7 =>
      intro u β wq hq h
      simp only [Loud.preds, Region.binds, Loud.sps_zero, Loud.sps_succ, Loud.Spec.val, Loud.Spec.blk, Loud.Spec.any, forall_const, and_true, true_and, and_assoc] at h
      repeat (rcases h with ⟨h1, h⟩)
      refine Or.inl ⟨Loud.wanted_of rfl rfl (congrArg some (by assumption)), fun K hK => ?_⟩
      go_simp
      exact hK _ 0 _ (Ext.refl _) rfl
    case ws8 =>
      intro u β wq hq h
      simp only [Loud.preds, Region.binds, Loud.sps_zero, Loud.sps_succ, Loud.Spec.val, Loud.Spec.blk, Loud.Spec.any, forall_const, and_true, true_and, and_assoc] at h
      repeat (rcases h with ⟨h1, h⟩)
      refine Or.inl ⟨Loud.wanted_of rfl rfl (congrArg some (by assumption)), fun K hK => ?_⟩
      go_simp
      exact hK _ 0 _ (Ext.refl _) rfl
    case ws9 =>
      intro u β wq hq h
      simp only [Loud.preds, Region.binds, Loud.sps_zero, Loud.sps_succ, Loud.Spec.val, Loud.Spec.blk, Loud.Spec.any, forall_const, and_true, true_and, and_assoc] at h
      repeat (rcases h with ⟨h1, h⟩)
      refine Or.inl ⟨Loud.wanted_of rfl rfl (congrArg some (by assumption)), fun K hK => ?_⟩
      go_simp
      exact hK _ 0 _ (Ext.refl _) rfl
    case ws10 =>
      intro u β wq hq h
      simp only [Loud.preds, Region.binds, Loud.sps_zero, Loud.sps_succ, Loud.Spec.val, Loud.Spec.blk, Loud.Spec.any, forall_const, and_true, true_and, and_assoc] at h
      repeat (rcases h with ⟨h1, h⟩)
      refine Or.inl ⟨Loud.wanted_of rfl rfl (congrArg some (by assumption)), fun K hK => ?_⟩
      go_simp
      exact hK _ 0 _ (Ext.refl _) rfl
    case ws11 =>
      intro u β wq hq h
      simp only [Loud.preds, Region.binds, Loud.sps_zero, Loud.sps_succ, Loud.Spec.val, Loud.Spec.blk, Loud.Spec.any, forall_const, and_true, true_and, and_assoc] at h
      repeat (rcases h with ⟨h1, h⟩)
      refine Or.inl ⟨Loud.wanted_of rfl rfl (congrArg some (by assumption)), fun K hK => ?_⟩
      go_simp
      exact hK _ _ _ ((Ext.refl _).alloc _) ⟨rfl, heap_alloc_new _ _⟩
    case ws12 =>
      intro u β wq hq h
      simp only [Loud.preds, Region.binds, Loud.sps_zero, Loud.sps_succ, Loud.Spec.val, Loud.Spec.blk, Loud.Spec.any, forall_const, and_true, true_and, and_assoc] at h
      repeat (rcases h with ⟨h1, h⟩)
      refine Or.inl ⟨Loud.wanted_of rfl rfl (congrArg some (by assumption)), fun K hK => ?_⟩
      go_simp
      refine (G2.out _ _ (by assumption)).mono ?_; rintro e w1 ⟨rfl, hx1⟩; exact ⟨_, rfl, hK _ 0 _ hx1 rfl⟩
    case ws13 =>
      intro u β wq hq h
      simp only [Loud.preds, Region.binds, Loud.sps_zero, Loud.sps_succ, Loud.Spec.val, Loud.Spec.blk, Loud.Spec.any, forall_const, and_true, true_and, and_assoc] at h
      repeat (rcases h with ⟨h1, h⟩)
      refine Or.inl ⟨Loud.wanted_of rfl rfl (congrArg some (by assumption)), fun K hK => ?_⟩
      go_simp
      exact hK _ 0 _ (Ext.refl _) rfl
    case ws14 =>
      intro u β wq hq h
      simp only [Loud.preds, Region.binds, Loud.sps_zero, Loud.sps_succ, Loud.Spec.val, Loud.Spec.blk, Loud.Spec.any, forall_const, and_true, true_and, and_assoc] at h
      repeat (rcases h with ⟨h1, h⟩)
      refine Or.inl ⟨Loud.wanted_of rfl rfl (congrArg some (by assumption)), fun K hK => ?_⟩
      go_simp
      exact hK _ 0 _ (Ext.refl _) rfl
    case ws15 =>
      intro u β wq hq h
      simp only [Loud.preds, Region.binds, Loud.sps_zero, Loud.sps_succ, Loud.Spec.val, Loud.Spec.blk, Loud.Spec.any, forall_const, and_true, true_and, and_assoc] at h
      repeat (rcases h with ⟨h1, h⟩)
      refine Or.inl ⟨rfl, fun K hK => ?_⟩
      go_simp
      exact hK _ 0 _ (Ext.refl _) rfl
    case ws16 =>
      intro u β wq hq h
      simp only [Loud.preds, Region.binds, Loud.sps_zero, Loud.sps_succ, Loud.Spec.val, Loud.Spec.blk, Loud.Spec.any, forall_const, and_true, true_and, and_assoc] at h
      repeat (rcases h with ⟨h1, h⟩)
      refine Or.inl ⟨rfl, fun K hK => ?_⟩
      go_simp
      exact hK _ 0 _ (Ext.refl _) rfl
    case ws17 =>
      intro u β wq hq h
      simp only [Loud.preds, Region.binds, Loud.sps_zero, Loud.sps_succ, Loud.Spec.val, Loud.Spec.blk, Loud.Spec.any, forall_const, and_true, true_and, and_assoc] at h
      repeat (rcases h with ⟨h1, h⟩)
      refine Or.inl ⟨Loud.wanted_of rfl rfl (congrArg some (by assumption)), fun K hK => ?_⟩
      go_simp
      exact hK _ 0 _ (Ext.refl _) rfl
    case ws18 =>
      intro u β wq hq h
      simp only [Loud.preds, Region.binds, Loud.sps_zero, Loud.sps_succ, Loud.Spec.val, Loud.Spec.blk, Loud.Spec.any, forall_const, and_true, true_and, and_assoc] at h
      repeat (rcases h with ⟨h1, h⟩)
      refine Or.inl ⟨Loud.wanted_of rfl rfl (congrArg some (by assumption)), fun K hK => ?_⟩
      go_simp
      exact hK _ 0 _ (Ext.refl _) rfl
    case ws19 =>
      intro u β wq hq h
      simp only [Loud.preds, Region.binds, Loud.sps_zero, Loud.sps_succ, Loud.Spec.val, Loud.Spec.blk, Loud.Spec.any, forall_const, and_true, true_and, and_assoc] at h
      repeat (rcases h with ⟨h1, h⟩)
      refine Or.inl ⟨Loud.wanted_of rfl rfl (congrArg some (by assumption)), fun K hK => ?_⟩
      go_simp
      exact hK _ 0 _ (Ext.refl _) rfl
    case ws20 =>
      intro u β wq hq h
      simp only [Loud.preds, Region.binds, Loud.sps_zero, Loud.sps_succ, Loud.Spec.val, Loud.Spec.blk, Loud.Spec.any, forall_const, and_true, true_and, and_assoc] at h
      repeat (rcases h with ⟨h1, h⟩)
      refine Or.inl ⟨Loud.wanted_of rfl rfl (congrArg some (by assumption)), fun K hK => ?_⟩
      go_simp
      exact hK _ 0 _ (Ext.refl _) rfl
    case ws21 =>
      intro u β wq hq h
      simp only [Loud.preds, Region.binds, Loud.sps_zero, Loud.sps_succ, Loud.Spec.val, Loud.Spec.blk, Loud.Spec.any, forall_const, and_true, true_and, and_assoc] at h
      repeat (rcases h with ⟨h1, h⟩)
      refine Or.inl ⟨Loud.wanted_of rfl rfl (congrArg some (by assumption)), fun K hK => ?_⟩
      go_simp
      exact hK _ 0 _ (Ext.refl _) rfl
    case ws22 =>
      intro u β wq hq h
      simp only [Loud.preds, Region.binds, Loud.sps_zero, Loud.sps_succ, Loud.Spec.val, Loud.Spec.blk, Loud.Spec.any, forall_const, and_true, true_and, and_assoc] at h
      repeat (rcases h with ⟨h1, h⟩)
      refine Or.inl ⟨Loud.wanted_of rfl rfl (congrArg some (by assumption)), fun K hK => ?_⟩
      go_simp
      exact hK _ 0 _ (Ext.refl _) rfl
    case ws23 =>
      intro u β wq hq h
      simp only [Loud.preds, Region.binds, Loud.sps_zero, Loud.sps_succ, Loud.Spec.val, Loud.Spec.blk, Loud.Spec.any, forall_const, and_true, true_and, and_assoc] at h
      repeat (rcases h with ⟨h1, h⟩)
      refine Or.inl ⟨Loud.wanted_of rfl rfl (congrArg some (by assumption)), fun K hK => ?_⟩
      go_simp
      exact hK _ 0 _ (Ext.refl _) rfl
    case ws24 =>
      intro u β wq hq h
      simp only [Loud.preds, Region.binds, Loud.sps_zero, Loud.sps_succ, Loud.Spec.val, Loud.Spec.blk, Loud.Spec.any, forall_const, and_true, true_and, and_assoc] at h
      repeat (rcases h with ⟨h1, h⟩)
      refine Or.inl ⟨Loud.wanted_of rfl rfl (congrArg some (by assumption)), fun K hK => ?_⟩
      go_simp
      exact hK _ _ _ ((Ext.refl _).alloc _) ⟨rfl, heap_alloc_new _ _⟩
    case ws25 =>
      intro u β wq hq h
      simp only [Loud.preds, Region.binds, Loud.sps_zero, Loud.sps_succ, Loud.Spec.val, Loud.Spec.blk, Loud.Spec.any, forall_const, and_true, true_and, and_assoc] at h
      repeat (rcases h with ⟨h1, h⟩)
      refine Or.inl ⟨Loud.wanted_of rfl rfl (congrArg some (by assumption)), fun K hK => ?_⟩
      go_simp
      refine (G4.out _ _ (by assumption)).mono ?_; rintro e w1 ⟨rfl, hx1⟩; exact ⟨_, rfl, hK _ 0 _ hx1 rfl⟩
    case ws26 =>
      intro u β wq hq h
      simp only [Loud.preds, Region.binds, Loud.sps_zero, Loud.sps_succ, Loud.Spec.val, Loud.Spec.blk, Loud.Spec.any, forall_const, and_true, true_and, and_assoc] at h
      repeat (rcases h with ⟨h1, h⟩)
      refine Or.inl ⟨Loud.wanted_of rfl rfl (congrArg some (by assumption)), fun K hK => ?_⟩
      go_simp
      exact hK _ 0 _ (Ext.refl _) rfl
    case ws27 =>
      intro u β wq hq h
      simp only [Loud.preds, Region.binds, Loud.sps_zero, Loud.sps_succ, Loud.Spec.val, Loud.Spec.blk, Loud.Spec.any, forall_const, and_true, true_and, and_assoc] at h
      repeat (rcases h with ⟨h1, h⟩)
      refine Or.inl ⟨Loud.wanted_of rfl rfl (congrArg some (by assumption)), fun K hK => ?_⟩
      go_simp
      exact hK _ 0 _ (Ext.refl _) rfl
    case ws28 =>
      intro u β wq hq h
      simp only [Loud.preds, Region.binds, Loud.sps_zero, Loud.sps_succ, Loud.Spec.val, Loud.Spec.blk, Loud.Spec.any, forall_const, and_true, true_and, and_assoc] at h
      repeat (rcases h with ⟨h1, h⟩)
      refine Or.inl ⟨rfl, fun K hK => ?_⟩
      go_simp
      exact hK _ 0 _ (Ext.refl _) rfl
  intro u β w2 hq h
  have h0 := h 0 (by omega)
  have h1 := h 1 (by omega)
  have h2 := h 2 (by omega)
  have h3 := h 3 (by omega)
  have h4 := h 4 (by omega)
  have h5 := h 5 (by omega)
  have h6 := h 6 (by omega)
  have h7 := h 7 (by omega)
  have h8 := h 8 (by omega)
  have h9 := h 9 (by omega)
  have h10 := h 10 (by omega)
  have h11 := h 11 (by omega)
  have h12 := h 12 (by omega)
  have h13 := h 13 (by omega)
  have h14 := h 14 (by omega)
  have h15 := h 15 (by omega)
  have h16 := h 16 (by omega)
  have h17 := h 17 (by omega)
  have h18 := h 18 (by omega)
  have h19 := h 19 (by omega)
  have h20 := h 20 (by omega)
  have h21 := h 21 (by omega)
  have h22 := h 22 (by omega)
  have h23 := h 23 (by omega)
  have h24 := h 24 (by omega)
  have h25 := h 25 (by omega)
  have h26 := h 26 (by omega)
  have h27 := h 27 (by omega)
  have h28 := h 28 (by omega)
  clear h
  simp only [Loud.sps_zero, Loud.sps_succ, Loud.Spec.val, Loud.Spec.blk, Loud.Spec.any] at h0 h1 h2 h3 h4 h5 h6 h7 h8 h9 h10 h11 h12 h13 h14 h15 h16 h17 h18 h19 h20 h21 h22 h23 h24 h25 h26 h27 h28
  simp only [List.drop_succ_cons, List.drop_zero]
  try simp only [h0, h1, h2, h3, h4, h5, h6, h7, h8, h9, h10, h12, h13, h14, h15, h16, h17, h18, h19, h20, h21, h22, h23, h25, h26, h27, h28]
  have hx2 : Ext w w2 := hx1'.trans hq
  clear hq
  go_upto_region 12 with (first
    | (go_at_call 22; with_reducible refine (GA.out w2).mono ?_; rintro e w3 ⟨rfl, hx3⟩)
    | (go_at_call 22; with_reducible refine (GB.out w3).mono ?_; rintro e w4 ⟨rfl, hx4⟩; have hcap := capOf_ge 5 w4 z.length; have HX4 : Ext w w4 := hx2.trans (hx3.trans hx4)))
  clear kt
  rw [HZ.out] at hcap
  obtain ⟨cp, hcp⟩ : ∃ cp, capOf 5 w4 32 = cp := ⟨_, rfl⟩
  rw [hcp] at hcap ⊢
  obtain ⟨w5, hw5⟩ : ∃ w5, (w4.alloc (Obj.cells (bcells (z ++ List.replicate (cp - 32) 0)) 5 (cp, cp + 1))).drew = w5 := ⟨_, rfl⟩
  have hx5 : Ext w4 w5 := by rw [← hw5]; exact ((Ext.refl _).alloc _).drew
  have hb5 : w5.heap[w4.heap.size]? = some (.cells (bcells (z ++ List.replicate (cp - 32) 0)) 5 (cp, cp + 1)) := by rw [← hw5, heap_drew]; exact heap_alloc_new _ _
  rw [hw5]
  clear hw5 hcp
  have hqz : q < z.length := by rw [HZ.out]; exact hq32
  have hcell : w5.cell? ⟨w4.heap.size, q, none⟩ = some (.int .u8 (z[q].toNat : Int)) := cell_blk hb5 (bcells_left _ _ _ hqz)
  have hfz : w5.frozen? ⟨w4.heap.size, q, none⟩ = false := frozen_spare hb5 (by omega)
  have hx6 : Ext w4 (w5.setCell ⟨w4.heap.size, q, none⟩ (.int .u8 ((x8 z[q] x1).toNat : Int))) := hx5.setCell (Nat.le_refl _) _
  have hfl2 : z.set q (x8 z[q] x1) = flipL z q x1 := by unfold flipL; congr 2; simp [List.getD, hqz]
  have hb6 : (w5.setCell ⟨w4.heap.size, q, none⟩ (.int .u8 ((x8 z[q] x1).toNat : Int))).heap[w4.heap.size]? = some (.cells (bcells (flipL z q x1 ++ List.replicate (cp - 32) 0)) 5 (cp, cp + 1)) := by
    rw [heap_setCell_same _ hb5, bcells_set_left _ _ _ _ hqz, hfl2]
  have HB6 := Lib.hid hb6
  have HX6 := HX4.trans hx6
  have HN6 : Hid (∀ o, ((w5.setCell ⟨w4.heap.size, q, none⟩ (.int .u8 ((x8 z[q] x1).toNat : Int))).alloc o).heap[w5.heap.size]? = some o) := Lib.hid fun o => by
    have := heap_alloc_new (w5.setCell ⟨w4.heap.size, q, none⟩ (.int .u8 ((x8 z[q] x1).toNat : Int))) o
    rwa [show (w5.setCell ⟨w4.heap.size, q, none⟩ (.int .u8 ((x8 z[q] x1).toNat : Int))).heap.size = w5.heap.size by simp [World.setCell]] at this
  clear hb5 hb6 hfl2
  go_wp2_with (first
    | (go_at_call 27; with_reducible refine (C1.out _ _ (HN6.out _)).mono ?_; rintro e w7 ⟨rfl, hx7⟩; have hy7 := ((Ext.refl _).alloc _).trans hx7)
    | (go_at_call 27; with_reducible refine (C2.out _ _ (heap_alloc_new w7 _)).mono ?_; rintro e w8 ⟨rfl, hx8⟩; have hy8 := hy7.trans (((Ext.refl _).alloc _).trans hx8); have kc := fun c => to_str_blk (c := c) (n := 32) (hy8.keep HB6.out) (by rw [flipL_length, HZ.out]))
    | (go_at_call 27; with_reducible refine (C3.out _ _ (heap_alloc_new w8 _)).mono ?_; rintro e w9 ⟨rfl, hx9⟩; have hy9 := hy8.trans (((Ext.refl _).alloc _).trans hx9))
    | (go_at_call 20; with_reducible refine (G0.out _).mono ?_; rintro e w10 ⟨rfl, hx10⟩))
  go_returns
  exact ⟨rfl, HX6.trans (hy9.trans hx10)⟩
theorem law_MacCuts (w : World) (key s : List UInt8) (c : Int) (label : List UInt8) (n k p x : UInt8) (hk : key.length ≤ 140737488351232) (hs : s.length ≤ 140737488351232) (hc : ∃ m : Nat, c = m ∧ m < 65536) (hl : label.length ≤ 140737488351232) :
    Calls Try.prog 10 #[.string (bs key), .string (bs s), .int .u16 c, .string (bs label), .int .u8 (n.toNat : Int), .int .u8 (k.toNat : Int), .int .u8 (p.toNat : Int), .int .u8 (x.toNat : Int)] w fun e w' => e = .returned (.bool true) ∧ Ext w w' := by
  obtain ⟨m, rfl, hm⟩ := hc
  by_cases h : 300 < key.length ∨ 1024 < s.length ∨ 300 < label.length
  · exact cuts_big w key s m label n k p x hk hs hl h
  · exact cuts_main w key s m (by omega) (by omega) label n k p x (by omega) (by omega) (by omega)
end Go.Proofs.Ytipdgiikifmjdaa
