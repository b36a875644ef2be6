/- The statements of layer 3: works, the walk of MacKeys. -/
import Derived.Test.YtipdgiikifmjdaaMacD
import Derived.Test.YtipdgiikifmjdaaMacAbc
import Derived.Test.YtipdgiikifmjdaaWeave
namespace Go.Proofs.Ytipdgiikifmjdaa
open Go Go.RowKit

def jefeHex : ByteArray := { data := #[53, 98, 100, 99, 99, 49, 52, 54, 98, 102, 54, 48, 55, 53, 52, 101, 54, 97, 48, 52, 50, 52, 50, 54, 48, 56, 57, 53, 55, 53, 99, 55, 53, 97, 48, 48, 51, 102, 48, 56, 57, 100, 50, 55, 51, 57, 56, 51, 57, 100, 101, 99, 53, 56, 98, 57, 54, 52, 101, 99, 51, 56, 52, 51] }
theorem mac_two (key a b : List UInt8) (B : Nat) (w : World) (hk : key.length ≤ 1099511627776) (hs : a.length + b.length ≤ 1099511627000) (h : w.heap[B]? = some (.cells #[.string (bs a), .string (bs b)] 9)) :
    Calls Try.prog 21 #[.string (bs key), .slice (some ⟨B, 0, none⟩) 2 2] w fun e w' => e = .returned (.string (bs (macL key (a ++ b)))) ∧ Ext w w' := by
  have hsl : Sl w (.slice (some ⟨B, 0, none⟩) [a, b].length 2) ([a, b].map strV) :=
    ⟨_, _, rfl, fun i hi => ⟨B, 0, rfl, blk_lt h, by
      match i, hi with
      | 0, _ => exact cell_blk h rfl
      | 1, _ => exact cell_blk h rfl⟩⟩
  have h := macOf_any key [a, b] _ _ w hk (by simp) (by simpa using hs) hsl
  rw [show [a, b].flatten = a ++ b by simp] at h
  exact h
theorem mac_one (key a : List UInt8) (B : Nat) (w : World) (hk : key.length ≤ 1099511627776) (hs : a.length ≤ 1099511627000) (h : w.heap[B]? = some (.cells #[.string (bs a)] 9)) :
    Calls Try.prog 21 #[.string (bs key), .slice (some ⟨B, 0, none⟩) 1 1] w fun e w' => e = .returned (.string (bs (macL key a))) ∧ Ext w w' := by
  have hsl : Sl w (.slice (some ⟨B, 0, none⟩) [a].length 1) ([a].map strV) :=
    ⟨_, _, rfl, fun i hi => ⟨B, 0, rfl, blk_lt h, by
      match i, hi with
      | 0, _ => exact cell_blk h rfl⟩⟩
  have h := macOf_any key [a] _ _ w hk (by simp) (by simpa using hs) hsl
  rw [show [a].flatten = a by simp] at h
  exact h
set_option maxRecDepth 100000 in
set_option maxHeartbeats 1000000 in
theorem works03 (w : World) : Calls Try.prog 20 #[] w fun e w' => e = .returned (.bool true) ∧ Ext w w' := by
  have hlen : (macL [74, 101, 102, 101] [119, 104, 97, 116, 32, 100, 111, 32, 121, 97, 32, 119, 97, 110, 116, 32, 102, 111, 114, 32, 110, 111, 116, 104, 105, 110, 103, 63]).length = 32 := macL_length _ _
  have G1 : Hid (∀ w : World, Calls Try.prog 21 #[.string { data := #[74, 101, 102, 101] }, .slice (some ⟨w.heap.size, 0, none⟩) 2 2] (w.alloc (.cells #[.string { data := #[119, 104, 97, 116, 32, 100, 111, 32, 121, 97, 32, 119, 97, 110, 116, 32] }, .string { data := #[102, 111, 114, 32, 110, 111, 116, 104, 105, 110, 103, 63] }] 9)) fun e w' => e = .returned (.string (bs (macL [74, 101, 102, 101] [119, 104, 97, 116, 32, 100, 111, 32, 121, 97, 32, 119, 97, 110, 116, 32, 102, 111, 114, 32, 110, 111, 116, 104, 105, 110, 103, 63]))) ∧ Ext w w') := Lib.hid fun w => by
    refine (mac_two [74, 101, 102, 101] [119, 104, 97, 116, 32, 100, 111, 32, 121, 97, 32, 119, 97, 110, 116, 32] [102, 111, 114, 32, 110, 111, 116, 104, 105, 110, 103, 63] _ _ (by decide) (by decide) (heap_alloc_new w _)).mono ?_
    rintro e w' ⟨rfl, hx⟩
    exact ⟨rfl, ((Ext.refl w).alloc _).trans hx⟩
  have g2 : ∀ w : World, Calls Try.prog 29 #[.string (bs (macL [74, 101, 102, 101] [119, 104, 97, 116, 32, 100, 111, 32, 121, 97, 32, 119, 97, 110, 116, 32, 102, 111, 114, 32, 110, 111, 116, 104, 105, 110, 103, 63]))] w fun e w' => e = .returned (.string jefeHex) ∧ Ext w w' := fun w => by
    have h := RefHex_any (macL [74, 101, 102, 101] [119, 104, 97, 116, 32, 100, 111, 32, 121, 97, 32, 119, 97, 110, 116, 32, 102, 111, 114, 32, 110, 111, 116, 104, 105, 110, 103, 63]) w (by rw [hlen]; omega)
    rw [jefe_tag] at h ⊢
    exact h
  have G2 := Lib.hid g2
  clear g2 hlen
  generalize macL [74, 101, 102, 101] [119, 104, 97, 116, 32, 100, 111, 32, 121, 97, 32, 119, 97, 110, 116, 32, 102, 111, 114, 32, 110, 111, 116, 104, 105, 110, 103, 63] = z at G1 G2
  go_enter Try.func20, Try.ntmps20
  go_wp2_with (first
    | (go_at_call 21; with_reducible refine (G1.out _).mono ?_; rintro e w1 ⟨rfl, hx1⟩)
    | (go_at_call 29; with_reducible refine (G2.out _).mono ?_; rintro e w2 ⟨rfl, hx2⟩; unfold jefeHex))
  go_returns
  exact ⟨rfl, hx1.trans hx2⟩

/-! ### MacKeys -/
theorem macL_long (long t : List UInt8) (h : 64 < long.length) : macL (shaS long) t = macL long t := by
  have h1 : kb (shaS long) = shaS long := if_neg (by rw [shaS_length]; omega)
  have h2 : kb long = shaS long := if_pos h
  unfold macL padL
  rw [h1, h2]
theorem macL_zeros (short t : List UInt8) (n : Nat) (h : short.length + n ≤ 64) : macL (short ++ List.replicate n 0) t = macL short t := by
  have h1 : kb (short ++ List.replicate n 0) = short ++ List.replicate n 0 := if_neg (by rw [List.length_append, List.length_replicate]; omega)
  have h2 : kb short = short := if_neg (by omega)
  have h3 : padTo 64 (short ++ List.replicate n 0) = padTo 64 short := by
    unfold padTo
    rw [List.take_of_length_le (by rw [List.length_append, List.length_replicate]; omega), List.take_of_length_le (by omega), List.length_append, List.length_replicate, List.append_assoc, List.replicate_append_replicate]
    congr 2; omega
  unfold macL padL
  rw [h1, h2, h3]
def lenOf : Value → Nat
  | .string s => s.size
  | _ => 0
theorem lenOf_bs (l : List UInt8) : lenOf (.string (bs l)) = l.length := bs_size l
set_option maxRecDepth 100000 in
set_option maxHeartbeats 1000000 in
theorem keys_big (w : World) (key : List UInt8) (z : UInt8) (s : List UInt8) (hk : key.length ≤ 140737488351232) (hs : s.length ≤ 140737488351232) (h : 300 < key.length ∨ 1024 < s.length) :
    Calls Try.prog 7 #[.string (bs key), .int .u8 (z.toNat : Int), .string (bs s)] w fun e w' => e = .returned (.bool true) ∧ Ext w w' := by
  have G0 := Lib.hid works03
  by_cases h1 : 300 < key.length
  · clear h
    go_enter Try.func7, Try.ntmps7
    go_wp2_with (first
      | (go_at_call 20; with_reducible refine (G0.out _).mono ?_; rintro e w9 ⟨rfl, hw9⟩))
    go_returns
    exact ⟨rfl, hw9⟩
  · have h2 : 1024 < s.length := by omega
    clear h
    go_enter Try.func7, Try.ntmps7
    go_wp2_with (first
      | (go_at_call 20; with_reducible refine (G0.out _).mono ?_; rintro e w9 ⟨rfl, hw9⟩))
    go_returns
    exact ⟨rfl, hw9⟩
set_option maxRecDepth 100000 in
set_option maxHeartbeats 4000000 in
theorem keys_main (w : World) (key : List UInt8) (z : UInt8) (s : List UInt8) (hk : key.length ≤ 300) (hs : s.length ≤ 1024) :
    Calls Try.prog 7 #[.string (bs key), .int .u8 (z.toNat : Int), .string (bs s)] w fun e w' => e = .returned (.bool true) ∧ Ext w w' := by
  have G0 := Lib.hid works03
  have hx120 : ({ data := #[120] } : ByteArray) = bs [120] := rfl
  go_enter Try.func7, Try.ntmps7
  go_wp2
  go_loopw [7] (fun v wr => ∃ lg : List UInt8, v = .string (bs lg) ∧ lg.length ≤ 365 ∧ Ext w wr) (fun v _ => 65 - lenOf v)
  case atStart => exact ⟨key, rfl, by omega, Ext.refl _⟩
  case round =>
    obtain ⟨lg, rfl, hlg, hx⟩ := hrel
    by_cases hlt : lg.length ≤ 64
    · go_wp2
      go_roundw
      case measure => simp only [lenOf_bs, List.length_append, List.length_cons, List.length_nil]; omega
      case rel => exact ⟨_, rfl, by simp only [List.length_append, List.length_cons, List.length_nil]; omega, hx⟩
    · obtain ⟨m, hm⟩ : ∃ m : Nat, min (key.length : Int) 60 = (m : Int) := ⟨min key.length 60, by omega⟩
      have hml : m ≤ key.length := by omega
      have hm60 : m ≤ 60 := by omega
      obtain ⟨sh, hsh⟩ : ∃ sh, key.take m = sh := ⟨_, rfl⟩
      have hmn : min m key.length = m := by omega
      have hshl : sh.length = m := by rw [← hsh, List.length_take]; omega
      obtain ⟨n, hn⟩ : ∃ n : Nat, (z.toNat : Int) % (65 - (m : Int)) = (n : Int) := ⟨((z.toNat : Int) % (65 - (m : Int))).toNat, by have := Int.emod_nonneg (z.toNat : Int) (b := 65 - (m : Int)) (by omega); omega⟩
      have hn64 : n < 65 - m := by have := Int.emod_lt_of_pos (z.toNat : Int) (b := 65 - (m : Int)) (by omega); omega
      have GA := Lib.hid (fun (B : Nat) (W : World) (h : W.heap[B]? = some (.cells #[.string (bs s)] 9)) => mac_one lg s B W (by omega) (by omega) h)
      have GB := Lib.hid (fun (B : Nat) (W : World) (h : W.heap[B]? = some (.cells #[.string (bs s)] 9)) => macL_long lg s (by omega) ▸ mac_one (shaS lg) s B W (by rw [shaS_length]; omega) (by omega) h)
      have GR := Lib.hid (fun W => RefOf_any lg W (by omega))
      generalize hz2 : shaS lg = z2 at GB GR
      generalize hz3 : macL lg s = z3 at GA GB
      have GS := Lib.hid (fun (B : Nat) (W : World) (h : W.heap[B]? = some (.cells #[.string (bs s)] 9)) => mac_one sh s B W (by omega) (by omega) h)
      have GT := Lib.hid (fun (B : Nat) (W : World) (h : W.heap[B]? = some (.cells #[.string (bs s)] 9)) => macL_zeros sh s n (by omega) ▸ mac_one (sh ++ List.replicate n 0) s B W (by simp; omega) (by omega) h)
      have hmk := fun W => mk_bytes n (by omega) W
      generalize hz4 : macL sh s = z4 at GS GT
      obtain ⟨R, hR⟩ : ∃ R : List UInt8, List.replicate n 0 = R := ⟨_, rfl⟩
      have hRl : R.length = n := by rw [← hR]; simp
      rw [hR] at GT
      have hcv : ∀ (W : World) (b : Nat) (h : W.heap[b]? = some (.cells (bcells R) 5)) (c : Nat), (convert 31 9 (.slice (some ⟨b, 0, none⟩) n c)).run Try.prog W = .ok (.string (bs R)) W := fun W b h c => to_str_of h hRl
      rw [hR] at hmk
      have HRL := Lib.hid hRl
      have hadd : ¬ 9223372036854775807 < m + R.length := by omega
      clear hz2 hz3 hz4 hR hRl
      go_wp2_with (first
        | (go_at_call 21; with_reducible refine (GA.out _ _ (heap_alloc_new _ _)).mono ?_; rintro e w1 ⟨rfl, hx1⟩)
        | (go_at_call 13; with_reducible refine (GR.out w1).mono ?_; rintro e w2 ⟨rfl, hx2⟩)
        | (go_at_call 21; with_reducible refine (GB.out _ _ (heap_alloc_new w2 _)).mono ?_; rintro e w3 ⟨rfl, hx3⟩)
        | (refine wpl_min2 rfl rfl rfl rfl (m : Int) hm.symm ?_))
      have hx4 : Ext w w3 := hx.trans (by repeat (first | exact Ext.refl _ | assumption | (with_reducible refine Ext.drew ?_) | (with_reducible refine Ext.drewN ?_ _) | (with_reducible refine Ext.alloc ?_ _) | (refine Ext.trans ?_ (by assumption))))
      refine Loud.wp_region_weave 16 w3 (Loud.sps [.val (.string (bs sh)), .val (.string (bs s)), .blk 1 1 (.cells #[.string (bs s)] 9), .val (.string (bs z4)), .val (.string (bs sh)), .val (.int .i64 (n : Int)), .blk n n (.cells (bcells R) 5), .val (.string (bs R)), .val (.string (bs (sh ++ R))), .val (.string (bs s)), .blk 1 1 (.cells #[.string (bs s)] 9), .val (.string (bs z4)), .val (.bool true), .val (.bool true), .val (.bool true), .val (.bool true)]) (by kernel_rfl) (by kernel_rfl) (by show Ext _ _; repeat (first | exact Ext.refl _ | assumption | (with_reducible refine Ext.drew ?_) | (with_reducible refine Ext.drewN ?_ _) | (with_reducible refine Ext.alloc ?_ _) | (refine Ext.trans ?_ (by assumption)))) (Loud.sps_st _) ?wA ?whA ?whS ?whF
      case whA => intro u K hK; simp only [List.take_succ_cons, List.take_zero, Loud.puts]; go_simp; exact hK
      case whS =>
        simp only [List.take_succ_cons, List.take_zero, Loud.stepsW]
        refine ⟨?ws0, ?ws1, ?ws2, ?ws3, ?ws4, ?ws5, ?ws6, ?ws7, ?ws8, ?ws9, ?ws10, ?ws11, ?ws12, ?ws13, ?ws14, ?ws15, trivial⟩
        case ws0 =>
          intro u β wq hq h
          simp only [Loud.preds, Region.binds, Loud.sps_zero, Loud.sps_succ, Loud.Spec.val, Loud.Spec.blk, Loud.Spec.any, forall_const, and_true, true_and, and_assoc] at h
          repeat (rcases h with ⟨h1, h⟩)
          refine Or.inl ⟨rfl, fun K hK => ?_⟩
          go_simp
          exact hK _ 0 _ (Ext.refl _) rfl
        case ws1 =>
          intro u β wq hq h
          simp only [Loud.preds, Region.binds, Loud.sps_zero, Loud.sps_succ, Loud.Spec.val, Loud.Spec.blk, Loud.Spec.any, forall_const, and_true, true_and, and_assoc] at h
          repeat (rcases h with ⟨h1, h⟩)
          refine Or.inl ⟨rfl, fun K hK => ?_⟩
          go_simp
          exact hK _ 0 _ (Ext.refl _) rfl
        case ws2 =>
          intro u β wq hq h
          simp only [Loud.preds, Region.binds, Loud.sps_zero, Loud.sps_succ, Loud.Spec.val, Loud.Spec.blk, Loud.Spec.any, forall_const, and_true, true_and, and_assoc] at h
          repeat (rcases h with ⟨h1, h⟩)
          refine Or.inl ⟨rfl, fun K hK => ?_⟩
          go_simp
          exact hK _ _ _ ((Ext.refl _).alloc _) ⟨rfl, heap_alloc_new _ _⟩
        case ws3 =>
          intro u β wq hq h
          simp only [Loud.preds, Region.binds, Loud.sps_zero, Loud.sps_succ, Loud.Spec.val, Loud.Spec.blk, Loud.Spec.any, forall_const, and_true, true_and, and_assoc] at h
          repeat (rcases h with ⟨h1, h⟩)
          refine Or.inl ⟨rfl, fun K hK => ?_⟩
          go_simp
          refine (GS.out _ _ (by assumption)).mono ?_; rintro e w1 ⟨rfl, hx1⟩; exact ⟨_, rfl, hK _ 0 _ hx1 rfl⟩
        case ws4 =>
          intro u β wq hq h
          simp only [Loud.preds, Region.binds, Loud.sps_zero, Loud.sps_succ, Loud.Spec.val, Loud.Spec.blk, Loud.Spec.any, forall_const, and_true, true_and, and_assoc] at h
          repeat (rcases h with ⟨h1, h⟩)
          refine Or.inl ⟨rfl, fun K hK => ?_⟩
          go_simp
          exact hK _ 0 _ (Ext.refl _) rfl
        case ws5 =>
          intro u β wq hq h
          simp only [Loud.preds, Region.binds, Loud.sps_zero, Loud.sps_succ, Loud.Spec.val, Loud.Spec.blk, Loud.Spec.any, forall_const, and_true, true_and, and_assoc] at h
          repeat (rcases h with ⟨h1, h⟩)
          refine Or.inl ⟨rfl, fun K hK => ?_⟩
          go_simp
          exact hK _ 0 _ (Ext.refl _) rfl
        case ws6 =>
          intro u β wq hq h
          simp only [Loud.preds, Region.binds, Loud.sps_zero, Loud.sps_succ, Loud.Spec.val, Loud.Spec.blk, Loud.Spec.any, forall_const, and_true, true_and, and_assoc] at h
          repeat (rcases h with ⟨h1, h⟩)
          refine Or.inl ⟨rfl, fun K hK => ?_⟩
          go_simp
          exact hK _ _ _ ((Ext.refl _).alloc _) ⟨rfl, heap_alloc_new _ _⟩
        case ws7 =>
          intro u β wq hq h
          simp only [Loud.preds, Region.binds, Loud.sps_zero, Loud.sps_succ, Loud.Spec.val, Loud.Spec.blk, Loud.Spec.any, forall_const, and_true, true_and, and_assoc] at h
          repeat (rcases h with ⟨h1, h⟩)
          refine Or.inl ⟨rfl, fun K hK => ?_⟩
          go_simp
          exact hK _ 0 _ (Ext.refl _) rfl
        case ws8 =>
          intro u β wq hq h
          simp only [Loud.preds, Region.binds, Loud.sps_zero, Loud.sps_succ, Loud.Spec.val, Loud.Spec.blk, Loud.Spec.any, forall_const, and_true, true_and, and_assoc] at h
          repeat (rcases h with ⟨h1, h⟩)
          refine Or.inl ⟨rfl, fun K hK => ?_⟩
          go_simp
          exact hK _ 0 _ (Ext.refl _) rfl
        case ws9 =>
          intro u β wq hq h
          simp only [Loud.preds, Region.binds, Loud.sps_zero, Loud.sps_succ, Loud.Spec.val, Loud.Spec.blk, Loud.Spec.any, forall_const, and_true, true_and, and_assoc] at h
          repeat (rcases h with ⟨h1, h⟩)
          refine Or.inl ⟨rfl, fun K hK => ?_⟩
          go_simp
          exact hK _ 0 _ (Ext.refl _) rfl
        case ws10 =>
          intro u β wq hq h
          simp only [Loud.preds, Region.binds, Loud.sps_zero, Loud.sps_succ, Loud.Spec.val, Loud.Spec.blk, Loud.Spec.any, forall_const, and_true, true_and, and_assoc] at h
          repeat (rcases h with ⟨h1, h⟩)
          refine Or.inl ⟨rfl, fun K hK => ?_⟩
          go_simp
          exact hK _ _ _ ((Ext.refl _).alloc _) ⟨rfl, heap_alloc_new _ _⟩
        case ws11 =>
          intro u β wq hq h
          simp only [Loud.preds, Region.binds, Loud.sps_zero, Loud.sps_succ, Loud.Spec.val, Loud.Spec.blk, Loud.Spec.any, forall_const, and_true, true_and, and_assoc] at h
          repeat (rcases h with ⟨h1, h⟩)
          refine Or.inl ⟨rfl, fun K hK => ?_⟩
          go_simp
          refine (GT.out _ _ (by assumption)).mono ?_; rintro e w1 ⟨rfl, hx1⟩; exact ⟨_, rfl, hK _ 0 _ hx1 rfl⟩
        case ws12 =>
          intro u β wq hq h
          simp only [Loud.preds, Region.binds, Loud.sps_zero, Loud.sps_succ, Loud.Spec.val, Loud.Spec.blk, Loud.Spec.any, forall_const, and_true, true_and, and_assoc] at h
          repeat (rcases h with ⟨h1, h⟩)
          refine Or.inl ⟨rfl, fun K hK => ?_⟩
          go_simp
          exact hK _ 0 _ (Ext.refl _) rfl
        case ws13 =>
          intro u β wq hq h
          simp only [Loud.preds, Region.binds, Loud.sps_zero, Loud.sps_succ, Loud.Spec.val, Loud.Spec.blk, Loud.Spec.any, forall_const, and_true, true_and, and_assoc] at h
          repeat (rcases h with ⟨h1, h⟩)
          refine Or.inl ⟨rfl, fun K hK => ?_⟩
          go_simp
          exact hK _ 0 _ (Ext.refl _) rfl
        case ws14 =>
          intro u β wq hq h
          simp only [Loud.preds, Region.binds, Loud.sps_zero, Loud.sps_succ, Loud.Spec.val, Loud.Spec.blk, Loud.Spec.any, forall_const, and_true, true_and, and_assoc] at h
          repeat (rcases h with ⟨h1, h⟩)
          refine Or.inl ⟨Loud.wanted_of rfl rfl (congrArg some (by assumption)), fun K hK => ?_⟩
          go_simp
          refine (G0.out _).mono ?_; rintro e w1 ⟨rfl, hx1⟩; exact ⟨_, rfl, hK _ 0 _ hx1 rfl⟩
        case ws15 =>
          intro u β wq hq h
          simp only [Loud.preds, Region.binds, Loud.sps_zero, Loud.sps_succ, Loud.Spec.val, Loud.Spec.blk, Loud.Spec.any, forall_const, and_true, true_and, and_assoc] at h
          repeat (rcases h with ⟨h1, h⟩)
          refine Or.inl ⟨rfl, fun K hK => ?_⟩
          go_simp
          exact hK _ 0 _ (Ext.refl _) rfl
      intro u β w4 hq h
      have h0 := h 0 (by omega)
      have h1 := h 1 (by omega)
      have h2 := h 2 (by omega)
      have h3 := h 3 (by omega)
      have h4 := h 4 (by omega)
      have h5 := h 5 (by omega)
      have h6 := h 6 (by omega)
      have h7 := h 7 (by omega)
      have h8 := h 8 (by omega)
      have h9 := h 9 (by omega)
      have h10 := h 10 (by omega)
      have h11 := h 11 (by omega)
      have h12 := h 12 (by omega)
      have h13 := h 13 (by omega)
      have h14 := h 14 (by omega)
      have h15 := h 15 (by omega)
      clear h
      simp only [Loud.sps_zero, Loud.sps_succ, Loud.Spec.val, Loud.Spec.blk, Loud.Spec.any] at h0 h1 h2 h3 h4 h5 h6 h7 h8 h9 h10 h11 h12 h13 h14 h15
      simp only [List.drop_succ_cons, List.drop_zero]
      try simp only [h0, h1, h3, h4, h5, h7, h8, h9, h11, h12, h13, h14, h15]
      go_wp2
      go_returns
      exact ⟨rfl, hx4.trans hq⟩
theorem law_MacKeys (w : World) (key : List UInt8) (z : UInt8) (s : List UInt8) (hk : key.length ≤ 140737488351232) (hs : s.length ≤ 140737488351232) :
    Calls Try.prog 7 #[.string (bs key), .int .u8 (z.toNat : Int), .string (bs s)] w fun e w' => e = .returned (.bool true) ∧ Ext w w' := by
  by_cases h : 300 < key.length ∨ 1024 < s.length
  · exact keys_big w key z s hk hs h
  · exact keys_main w key z s (by omega) (by omega)
end Go.Proofs.Ytipdgiikifmjdaa
