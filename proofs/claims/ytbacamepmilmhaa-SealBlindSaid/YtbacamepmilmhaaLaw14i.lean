/- The statements of layer 14: SealBlind. -/
import Derived.Test.YtbacamepmilmhaaLaw14g
import Derived.Deep.CutRange
set_option linter.unusedVariables false
namespace Go.Proofs.Ytbacamepmilmhaa
open Go Go.RowKit

theorem wrap_small (n : Nat) (h : n ≤ 100000) : IntKind.i64.wrap (n : Int) = (n : Int) ∧ wrap64 (n : Int) = (n : Int) := by
  constructor
  · rw [IntKind.wrap_i64]; omega
  · unfold wrap64; omega
theorem ctrS_take (K nonce : List UInt8) (f n m : Nat) (hK : K.length = 176) (hn : nonce.length = 12) (h : n ≤ m) : ctrS K nonce f n = (ctrS K nonce f m).take n := by
  unfold ctrS
  obtain ⟨d, hd⟩ : ∃ d, (m + 15) / 16 = (n + 15) / 16 + d := ⟨(m + 15) / 16 - (n + 15) / 16, by omega⟩
  rw [hd, ctrN_add, List.take_take, Nat.min_eq_left h, List.take_append_of_le_length]
  rw [ctrN_length K nonce f hK hn]; omega
theorem getD_take (l : List UInt8) (n i : Nat) (h : i < n) : (l.take n).getD i 0 = l.getD i 0 := by
  simp [List.getD, List.getElem?_take_of_lt h]
theorem ctrS_at (K nonce : List UInt8) (f n m i : Nat) (hK : K.length = 176) (hn : nonce.length = 12) (h1 : i < n) (h2 : i < m) : (ctrS K nonce f n).getD i 0 = (ctrS K nonce f m).getD i 0 := by
  rcases Nat.le_total n m with h | h
  · rw [ctrS_take K nonce f n m hK hn h, getD_take _ _ _ h1]
  · rw [ctrS_take K nonce f m n hK hn h, getD_take _ _ _ h2]
theorem env_head (key : List UInt8) (ep : Nat) (nonce text t : List UInt8) (hn : nonce.length = 12) : (envL key ep nonce text ++ t).take 17 = [1] ++ putB 4 ep ++ nonce := by
  unfold envL
  rw [List.append_assoc _ (xorL _ _) t]
  exact List.take_left' (by simp [hn])
theorem env_at (key : List UInt8) (ep : Nat) (nonce text t : List UInt8) (i : Nat) (hn : nonce.length = 12) (hi : i < text.length) : (envL key ep nonce text ++ t).getD (17 + i) 0 = x8 (text.getD i 0) ((ctrS (rks (derL key lblC 16)) nonce 0 text.length).getD i 0) := by
  have hl := ctrS_length (rks (derL key lblC 16)) nonce 0 text.length (rks_length _) hn
  have hxl := xorL_length text _ hl.symm
  unfold envL
  generalize ctrS (rks (derL key lblC 16)) nonce 0 text.length = st at *
  have h17 : ([1] ++ putB 4 ep ++ nonce).length = 17 := by simp [hn]
  rw [List.append_assoc _ (xorL _ _) t]
  generalize [1] ++ putB 4 ep ++ nonce = hd at *
  simp only [List.getD]
  rw [List.getElem?_append_right (by omega), show 17 + i - hd.length = i by omega, List.getElem?_append_left (by omega)]
  unfold xorL
  rw [List.getElem?_zipWith]
  simp [hi, show i < st.length by omega]
theorem blind_at (key : List UInt8) (ep : Nat) (nonce a b t u : List UInt8) (i : Nat) (hn : nonce.length = 12) (ha : i < a.length) (hb : i < b.length) :
    x8 ((envL key ep nonce a ++ t).getD (17 + i) 0) ((envL key ep nonce b ++ u).getD (17 + i) 0) = x8 (a.getD i 0) (b.getD i 0) := by
  rw [env_at key ep nonce a t i hn ha, env_at key ep nonce b u i hn hb, ctrS_at _ _ _ a.length b.length i (rks_length _) hn ha hb]
  generalize (ctrS (rks (derL key lblC 16)) nonce 0 b.length).getD i 0 = s
  rw [x8_comm (b.getD i 0) s, x8_assoc, ← x8_assoc s s, x8_self, x8_z]
theorem blind_k {k q k0 la : Nat} (h1 : k0 ≤ la) (h2 : la ≤ 1500) (hk : k + (q + 1) = k0) : k < k0 ∧ k < 1500 := by omega
theorem blind_s {k q k0 : Nat} (hk : k + (q + 1) = k0) : k + 1 + q = k0 := by omega
theorem blind_v {k : Nat} (h : k < 1500) : Value.int IntKind.i64 (wrap64 ((k : Int) + 1)) = Value.int IntKind.i64 ((k + 1 : Nat) : Int) := by
  congr 1
  unfold wrap64
  omega
set_option maxRecDepth 100000 in
set_option maxHeartbeats 4000000 in
theorem law_SealBlind (w : World) (keys : List (List UInt8)) (ad : Option Addr) (cp : Nat) (path : List UInt8) (ver : Nat) (n a b : List UInt8)
    (hkl : keys.length ≤ 8796093022208) (hkb : ∀ x ∈ keys, x.length ≤ 140737488351232) (hk : Sl w (.slice ad keys.length cp) (keys.map strV)) (ha : path.length ≤ 140737488351232) (hv : U64 ver) (hb : n.length ≤ 140737488351232) (hc : a.length ≤ 140737488351232) (hd : b.length ≤ 140737488351232) :
    Calls Try.prog 5 #[.slice ad keys.length cp, .string (bs path), .int .u64 (ver : Int), .string (bs n), .string (bs a), .string (bs b)] w fun e w' => e = .returned (.bool true) ∧ Ext w w' := by
  have GW := Lib.hid works14
  have HK := Lib.hid hk
  have gh := heavy_call4 keys path n a b ad cp hkl hkb ha hb hc hd
  cases hh : heavyB keys [path, n, a, b]
  case true =>
    rw [hh] at gh
    have GH := Lib.hid gh
    clear gh hh hk hkl hkb ha hv hb hc hd
    go_enter Try.func5, Try.ntmps5
    go_wp2_with (first
      | (go_at_call 12; refine (GH.out _ _ (HK.out.ext ((Ext.refl w).alloc _)) (heap_alloc_new w _)).mono ?_; rintro e w' ⟨rfl, rfl⟩)
      | (go_at_call 13; with_reducible refine (GW.out _).mono ?_; rintro e w1 ⟨rfl, hx1⟩))
    go_returns
    exact ⟨rfl, ((Ext.refl w).alloc _).trans hx1⟩
  case false =>
  rw [hh] at gh
  have GH := Lib.hid gh
  obtain ⟨h8, hsum⟩ := heavy_no hh
  have hsz : path.length + n.length + a.length + b.length ≤ 1500 := by
    have : sumL [path, n, a, b] [path, n, a, b].length = path.length + (n.length + (a.length + b.length)) := by simp [sumL]
    omega
  have GR := Lib.hid (fun W hk => rings14 keys ad cp W hk h8 hkb)
  have GNO := Lib.hid (fun W => nonce14 n W hb)
  obtain ⟨E0, key, hE, hEl, hkey, hlk⟩ := epsN_last keys keys.length
  have hnn : (padTo 12 n).length = 12 := padTo_length 12 n
  have GCA := Lib.hid (fun r m W h => Close_yes r m (epsN keys keys.length) (keys.length + 1) key path (padTo 12 n) a ver W h (by omega) (by omega) hlk (by omega) hv hnn (by omega) (by omega))
  have GCB := Lib.hid (fun r m W h => Close_yes r m (epsN keys keys.length) (keys.length + 1) key path (padTo 12 n) b ver W h (by omega) (by omega) hlk (by omega) hv hnn (by omega) (by omega))
  have HB := Lib.hid (fun i (h1 : i < a.length) (h2 : i < b.length) => blind_at key (keys.length + 1) (padTo 12 n) a b (tagL key path ver (envL key (keys.length + 1) (padTo 12 n) a)) (tagL key path ver (envL key (keys.length + 1) (padTo 12 n) b)) i hnn h1 h2)
  have hSh := env_head key (keys.length + 1) (padTo 12 n) a (tagL key path ver (envL key (keys.length + 1) (padTo 12 n) a)) hnn
  have hTh := env_head key (keys.length + 1) (padTo 12 n) b (tagL key path ver (envL key (keys.length + 1) (padTo 12 n) b)) hnn
  have hS : (envL key (keys.length + 1) (padTo 12 n) a ++ tagL key path ver (envL key (keys.length + 1) (padTo 12 n) a)).length = 49 + a.length := by rw [List.length_append, envL_length _ _ _ _ hnn, tagL_length]; omega
  have hT : (envL key (keys.length + 1) (padTo 12 n) b ++ tagL key path ver (envL key (keys.length + 1) (padTo 12 n) b)).length = 49 + b.length := by rw [List.length_append, envL_length _ _ _ _ hnn, tagL_length]; omega
  generalize envL key (keys.length + 1) (padTo 12 n) a ++ tagL key path ver (envL key (keys.length + 1) (padTo 12 n) a) = S at *
  generalize envL key (keys.length + 1) (padTo 12 n) b ++ tagL key path ver (envL key (keys.length + 1) (padTo 12 n) b) = T at *
  generalize [1] ++ putB 4 (keys.length + 1) ++ padTo 12 n = hdr at *
  generalize padTo 12 n = nn at *
  generalize epsN keys keys.length = E at *
  have hxS : (bs S).extract 0 17 = bs hdr := by rw [bs_extract, List.drop_zero, hSh]
  have hxT : (bs T).extract 0 17 = bs hdr := by rw [bs_extract, List.drop_zero, hTh]
  have hal : a.length ≤ 1500 := by omega
  have hbl : b.length ≤ 1500 := by omega
  clear hsz hsum ha hb hc hd hkl h8 hkey hEl hnn hSh hTh hE hlk hv hkb hk gh hh
  obtain ⟨la, hla⟩ : ∃ x, a.length = x := ⟨_, rfl⟩
  obtain ⟨lb, hlb⟩ : ∃ x, b.length = x := ⟨_, rfl⟩
  obtain ⟨a17, ha17⟩ : ∃ x, 17 + la = x := ⟨_, rfl⟩
  obtain ⟨b17, hb17⟩ : ∃ x, 17 + lb = x := ⟨_, rfl⟩
  obtain ⟨sl, hsl⟩ : ∃ x, S.length = x := ⟨_, rfl⟩
  obtain ⟨tl, htl⟩ : ∃ x, T.length = x := ⟨_, rfl⟩
  have ea : (17 : Int) + (la : Int) = (a17 : Int) := by omega
  have eb : (17 : Int) + (lb : Int) = (b17 : Int) := by omega
  have es : (a17 : Int) + 32 = (sl : Int) := by omega
  have et : (b17 : Int) + 32 = (tl : Int) := by omega
  have h17s : (17 : Int) ≤ (sl : Int) := by omega
  have h17t : (17 : Int) ≤ (tl : Int) := by omega
  have m1 : a17 ≤ 100000 := by omega
  have m2 : b17 ≤ 100000 := by omega
  have m3 : sl ≤ 100000 := by omega
  have m4 : tl ≤ 100000 := by omega
  have m5 : sl = 49 + la := by omega
  have m6 : tl = 49 + lb := by omega
  have m7 : la ≤ 1500 := by omega
  have m8 : lb ≤ 1500 := by omega
  obtain ⟨wa, wa2⟩ := wrap_small a17 m1
  obtain ⟨wb, wb2⟩ := wrap_small b17 m2
  obtain ⟨ws, ws2⟩ := wrap_small sl m3
  obtain ⟨wt, wt2⟩ := wrap_small tl m4
  have HLS : Hid (S.length = sl ∧ T.length = tl ∧ sl = 49 + la ∧ tl = 49 + lb ∧ la ≤ 1500 ∧ lb ≤ 1500 ∧ a.length = la ∧ b.length = lb) := Lib.hid ⟨hsl, htl, m5, m6, m7, m8, hla, hlb⟩
  rw [hla, hlb] at HB
  clear hS hT ha17 hb17 hal hbl m1 m2 m3 m4 m5 m6 m7 m8
  go_enter Try.func5, Try.ntmps5
  go_upto_region 6 with (first
    | (go_at_call 12; refine (GH.out _ _ (HK.out.ext ((Ext.refl w).alloc _)) (heap_alloc_new w _)).mono ?_; rintro e w' ⟨rfl, rfl⟩)
    | (go_at_call 14; refine (GR.out _ (HK.out.ext ((Ext.refl w).alloc _))).mono ?_; rintro e w1 ⟨r, m, d, rfl, hri, _, _, _, hx1⟩; have HRI := Lib.hid hri; clear hri; have HX := Lib.hid (((Ext.refl w).alloc (.cells #[.string (bs path), .string (bs n), .string (bs a), .string (bs b)] 9)).trans hx1); obtain ⟨w2, hw2⟩ : ∃ x, x = w1 := ⟨_, rfl⟩; rw [← hw2] at HRI HX ⊢; clear hw2 hx1; have HY := Lib.hid (Ext.refl w2)))
  go_upto_region 8 with (first
    | (go_at_call 15; with_reducible refine (GNO.out _).mono ?_; rintro e w1 ⟨rfl, hx1⟩; have hq := HY.out.trans hx1; clear HY hx1; have HY := Lib.hid hq; clear hq)
    | (go_at_call 16; with_reducible refine (GCA.out r m _ (HRI.out.ext HY.out)).mono ?_; rintro e w1 ⟨rfl, hx1⟩; have hq := HY.out.trans hx1; clear HY hx1; have HY := Lib.hid hq; clear hq)
    | (go_at_call 16; with_reducible refine (GCB.out r m _ (HRI.out.ext HY.out)).mono ?_; rintro e w1 ⟨rfl, hx1⟩; have hq := HY.out.trans hx1; clear HY hx1; have HY := Lib.hid hq; clear hq))
  have HX2 := Lib.hid (HX.out.trans HY.out)
  obtain ⟨w3, hw3⟩ : ∃ x, x = w1 := ⟨_, rfl⟩
  rw [← hw3] at HX2 ⊢
  clear HX HY hw3 HRI GR GCA GCB GNO GH
  refine Loud.wp_region_weave 31 w3 (Loud.sps [.val (.int .i64 0), .val (.bool false), .val (.bool false), .val (.int .i64 0), .val (.bool false), .val (.bool false), .val (.bool false), .val (.string (bs S)), .val (.int .i64 (sl : Int)), .val (.string (bs a)), .val (.int .i64 (la : Int)), .val (.int .i64 (a17 : Int)), .val (.int .i64 (sl : Int)), .val (.bool false), .val (.bool false), .val (.bool false), .val (.string (bs T)), .val (.int .i64 (tl : Int)), .val (.string (bs b)), .val (.int .i64 (lb : Int)), .val (.int .i64 (b17 : Int)), .val (.int .i64 (tl : Int)), .val (.bool false), .val (.bool false), .val (.bool false), .val (.string (bs S)), .val (.string (bs hdr)), .val (.string (bs T)), .val (.string (bs hdr)), .val (.bool false), .val (.bool false)]) (by kernel_rfl) (by kernel_rfl) (by show Ext _ _; repeat (first | exact Ext.refl _ | assumption | (with_reducible refine Ext.drew ?_) | (with_reducible refine Ext.drewN ?_ _) | (with_reducible refine Ext.alloc ?_ _) | (refine Ext.trans ?_ (by assumption)))) (Loud.sps_st _) ?wAx1 ?whAx1 ?whSx1 ?whFx1
  case whAx1 => intro u K hK; simp only [List.take_succ_cons, List.take_zero, Loud.puts]; go_simp; exact hK
  case whSx1 =>
    simp only [List.take_succ_cons, List.take_zero, Loud.stepsW]
    refine ⟨?wsx1_0, ?wsx1_1, ?wsx1_2, ?wsx1_3, ?wsx1_4, ?wsx1_5, ?wsx1_6, ?wsx1_7, ?wsx1_8, ?wsx1_9, ?wsx1_10, ?wsx1_11, ?wsx1_12, ?wsx1_13, ?wsx1_14, ?wsx1_15, ?wsx1_16, ?wsx1_17, ?wsx1_18, ?wsx1_19, ?wsx1_20, ?wsx1_21, ?wsx1_22, ?wsx1_23, ?wsx1_24, ?wsx1_25, ?wsx1_26, ?wsx1_27, ?wsx1_28, ?wsx1_29, ?wsx1_30, trivial⟩
    case wsx1_0 =>
      intro u β wq hq h
      repeat (obtain ⟨h1, h⟩ := h; first | (replace h1 := h1 rfl; simp only [go_sem] at h1; try (obtain ⟨h1, h1b⟩ := h1)) | (have hno := (h1 : Region.binds _ _ = true → _); clear hno h1))
      refine Or.inl ⟨rfl, fun K hK => ?_⟩
      go_simp
      exact hK _ 0 _ (Ext.refl _) rfl
    case wsx1_1 =>
      intro u β wq hq h
      repeat (obtain ⟨h1, h⟩ := h; first | (replace h1 := h1 rfl; simp only [go_sem] at h1; try (obtain ⟨h1, h1b⟩ := h1)) | (have hno := (h1 : Region.binds _ _ = true → _); clear hno h1))
      refine Or.inl ⟨rfl, fun K hK => ?_⟩
      go_simp
      exact hK _ 0 _ (Ext.refl _) rfl
    case wsx1_2 =>
      intro u β wq hq h
      repeat (obtain ⟨h1, h⟩ := h; first | (replace h1 := h1 rfl; simp only [go_sem] at h1; try (obtain ⟨h1, h1b⟩ := h1)) | (have hno := (h1 : Region.binds _ _ = true → _); clear hno h1))
      refine Or.inl ⟨rfl, fun K hK => ?_⟩
      go_simp
      exact hK _ 0 _ (Ext.refl _) rfl
    case wsx1_3 =>
      intro u β wq hq h
      repeat (obtain ⟨h1, h⟩ := h; first | (replace h1 := h1 rfl; simp only [go_sem] at h1; try (obtain ⟨h1, h1b⟩ := h1)) | (have hno := (h1 : Region.binds _ _ = true → _); clear hno h1))
      refine Or.inl ⟨Loud.wanted_of rfl rfl (congrArg some (by assumption)), fun K hK => ?_⟩
      go_simp
      exact hK _ 0 _ (Ext.refl _) rfl
    case wsx1_4 =>
      intro u β wq hq h
      repeat (obtain ⟨h1, h⟩ := h; first | (replace h1 := h1 rfl; simp only [go_sem] at h1; try (obtain ⟨h1, h1b⟩ := h1)) | (have hno := (h1 : Region.binds _ _ = true → _); clear hno h1))
      refine Or.inl ⟨Loud.wanted_of rfl rfl (congrArg some (by assumption)), fun K hK => ?_⟩
      go_simp
      exact hK _ 0 _ (Ext.refl _) rfl
    case wsx1_5 =>
      intro u β wq hq h
      repeat (obtain ⟨h1, h⟩ := h; first | (replace h1 := h1 rfl; simp only [go_sem] at h1; try (obtain ⟨h1, h1b⟩ := h1)) | (have hno := (h1 : Region.binds _ _ = true → _); clear hno h1))
      refine Or.inl ⟨rfl, fun K hK => ?_⟩
      go_simp
      exact hK _ 0 _ (Ext.refl _) rfl
    case wsx1_6 =>
      intro u β wq hq h
      repeat (obtain ⟨h1, h⟩ := h; first | (replace h1 := h1 rfl; simp only [go_sem] at h1; try (obtain ⟨h1, h1b⟩ := h1)) | (have hno := (h1 : Region.binds _ _ = true → _); clear hno h1))
      refine Or.inl ⟨rfl, fun K hK => ?_⟩
      go_simp
      exact hK _ 0 _ (Ext.refl _) rfl
    case wsx1_7 =>
      intro u β wq hq h
      repeat (obtain ⟨h1, h⟩ := h; first | (replace h1 := h1 rfl; simp only [go_sem] at h1; try (obtain ⟨h1, h1b⟩ := h1)) | (have hno := (h1 : Region.binds _ _ = true → _); clear hno h1))
      refine Or.inl ⟨Loud.wanted_of rfl rfl (congrArg some (by assumption)), fun K hK => ?_⟩
      go_simp
      exact hK _ 0 _ (Ext.refl _) rfl
    case wsx1_8 =>
      intro u β wq hq h
      repeat (obtain ⟨h1, h⟩ := h; first | (replace h1 := h1 rfl; simp only [go_sem] at h1; try (obtain ⟨h1, h1b⟩ := h1)) | (have hno := (h1 : Region.binds _ _ = true → _); clear hno h1))
      refine Or.inl ⟨Loud.wanted_of rfl rfl (congrArg some (by assumption)), fun K hK => ?_⟩
      go_simp
      exact hK _ 0 _ (Ext.refl _) rfl
    case wsx1_9 =>
      intro u β wq hq h
      repeat (obtain ⟨h1, h⟩ := h; first | (replace h1 := h1 rfl; simp only [go_sem] at h1; try (obtain ⟨h1, h1b⟩ := h1)) | (have hno := (h1 : Region.binds _ _ = true → _); clear hno h1))
      refine Or.inl ⟨Loud.wanted_of rfl rfl (congrArg some (by assumption)), fun K hK => ?_⟩
      go_simp
      exact hK _ 0 _ (Ext.refl _) rfl
    case wsx1_10 =>
      intro u β wq hq h
      repeat (obtain ⟨h1, h⟩ := h; first | (replace h1 := h1 rfl; simp only [go_sem] at h1; try (obtain ⟨h1, h1b⟩ := h1)) | (have hno := (h1 : Region.binds _ _ = true → _); clear hno h1))
      refine Or.inl ⟨Loud.wanted_of rfl rfl (congrArg some (by assumption)), fun K hK => ?_⟩
      go_simp
      exact hK _ 0 _ (Ext.refl _) rfl
    case wsx1_11 =>
      intro u β wq hq h
      repeat (obtain ⟨h1, h⟩ := h; first | (replace h1 := h1 rfl; simp only [go_sem] at h1; try (obtain ⟨h1, h1b⟩ := h1)) | (have hno := (h1 : Region.binds _ _ = true → _); clear hno h1))
      refine Or.inl ⟨Loud.wanted_of rfl rfl (congrArg some (by assumption)), fun K hK => ?_⟩
      go_simp
      exact hK _ 0 _ (Ext.refl _) rfl
    case wsx1_12 =>
      intro u β wq hq h
      repeat (obtain ⟨h1, h⟩ := h; first | (replace h1 := h1 rfl; simp only [go_sem] at h1; try (obtain ⟨h1, h1b⟩ := h1)) | (have hno := (h1 : Region.binds _ _ = true → _); clear hno h1))
      refine Or.inl ⟨Loud.wanted_of rfl rfl (congrArg some (by assumption)), fun K hK => ?_⟩
      go_simp
      exact hK _ 0 _ (Ext.refl _) rfl
    case wsx1_13 =>
      intro u β wq hq h
      repeat (obtain ⟨h1, h⟩ := h; first | (replace h1 := h1 rfl; simp only [go_sem] at h1; try (obtain ⟨h1, h1b⟩ := h1)) | (have hno := (h1 : Region.binds _ _ = true → _); clear hno h1))
      refine Or.inl ⟨Loud.wanted_of rfl rfl (congrArg some (by assumption)), fun K hK => ?_⟩
      go_simp
      exact hK _ 0 _ (Ext.refl _) rfl
    case wsx1_14 =>
      intro u β wq hq h
      repeat (obtain ⟨h1, h⟩ := h; first | (replace h1 := h1 rfl; simp only [go_sem] at h1; try (obtain ⟨h1, h1b⟩ := h1)) | (have hno := (h1 : Region.binds _ _ = true → _); clear hno h1))
      refine Or.inl ⟨rfl, fun K hK => ?_⟩
      go_simp
      exact hK _ 0 _ (Ext.refl _) rfl
    case wsx1_15 =>
      intro u β wq hq h
      repeat (obtain ⟨h1, h⟩ := h; first | (replace h1 := h1 rfl; simp only [go_sem] at h1; try (obtain ⟨h1, h1b⟩ := h1)) | (have hno := (h1 : Region.binds _ _ = true → _); clear hno h1))
      refine Or.inl ⟨rfl, fun K hK => ?_⟩
      go_simp
      exact hK _ 0 _ (Ext.refl _) rfl
    case wsx1_16 =>
      intro u β wq hq h
      repeat (obtain ⟨h1, h⟩ := h; first | (replace h1 := h1 rfl; simp only [go_sem] at h1; try (obtain ⟨h1, h1b⟩ := h1)) | (have hno := (h1 : Region.binds _ _ = true → _); clear hno h1))
      refine Or.inl ⟨Loud.wanted_of rfl rfl (congrArg some (by assumption)), fun K hK => ?_⟩
      go_simp
      exact hK _ 0 _ (Ext.refl _) rfl
    case wsx1_17 =>
      intro u β wq hq h
      repeat (obtain ⟨h1, h⟩ := h; first | (replace h1 := h1 rfl; simp only [go_sem] at h1; try (obtain ⟨h1, h1b⟩ := h1)) | (have hno := (h1 : Region.binds _ _ = true → _); clear hno h1))
      refine Or.inl ⟨Loud.wanted_of rfl rfl (congrArg some (by assumption)), fun K hK => ?_⟩
      go_simp
      exact hK _ 0 _ (Ext.refl _) rfl
    case wsx1_18 =>
      intro u β wq hq h
      repeat (obtain ⟨h1, h⟩ := h; first | (replace h1 := h1 rfl; simp only [go_sem] at h1; try (obtain ⟨h1, h1b⟩ := h1)) | (have hno := (h1 : Region.binds _ _ = true → _); clear hno h1))
      refine Or.inl ⟨Loud.wanted_of rfl rfl (congrArg some (by assumption)), fun K hK => ?_⟩
      go_simp
      exact hK _ 0 _ (Ext.refl _) rfl
    case wsx1_19 =>
      intro u β wq hq h
      repeat (obtain ⟨h1, h⟩ := h; first | (replace h1 := h1 rfl; simp only [go_sem] at h1; try (obtain ⟨h1, h1b⟩ := h1)) | (have hno := (h1 : Region.binds _ _ = true → _); clear hno h1))
      refine Or.inl ⟨Loud.wanted_of rfl rfl (congrArg some (by assumption)), fun K hK => ?_⟩
      go_simp
      exact hK _ 0 _ (Ext.refl _) rfl
    case wsx1_20 =>
      intro u β wq hq h
      repeat (obtain ⟨h1, h⟩ := h; first | (replace h1 := h1 rfl; simp only [go_sem] at h1; try (obtain ⟨h1, h1b⟩ := h1)) | (have hno := (h1 : Region.binds _ _ = true → _); clear hno h1))
      refine Or.inl ⟨Loud.wanted_of rfl rfl (congrArg some (by assumption)), fun K hK => ?_⟩
      go_simp
      exact hK _ 0 _ (Ext.refl _) rfl
    case wsx1_21 =>
      intro u β wq hq h
      repeat (obtain ⟨h1, h⟩ := h; first | (replace h1 := h1 rfl; simp only [go_sem] at h1; try (obtain ⟨h1, h1b⟩ := h1)) | (have hno := (h1 : Region.binds _ _ = true → _); clear hno h1))
      refine Or.inl ⟨Loud.wanted_of rfl rfl (congrArg some (by assumption)), fun K hK => ?_⟩
      go_simp
      exact hK _ 0 _ (Ext.refl _) rfl
    case wsx1_22 =>
      intro u β wq hq h
      repeat (obtain ⟨h1, h⟩ := h; first | (replace h1 := h1 rfl; simp only [go_sem] at h1; try (obtain ⟨h1, h1b⟩ := h1)) | (have hno := (h1 : Region.binds _ _ = true → _); clear hno h1))
      refine Or.inl ⟨Loud.wanted_of rfl rfl (congrArg some (by assumption)), fun K hK => ?_⟩
      go_simp
      exact hK _ 0 _ (Ext.refl _) rfl
    case wsx1_23 =>
      intro u β wq hq h
      repeat (obtain ⟨h1, h⟩ := h; first | (replace h1 := h1 rfl; simp only [go_sem] at h1; try (obtain ⟨h1, h1b⟩ := h1)) | (have hno := (h1 : Region.binds _ _ = true → _); clear hno h1))
      refine Or.inl ⟨rfl, fun K hK => ?_⟩
      go_simp
      exact hK _ 0 _ (Ext.refl _) rfl
    case wsx1_24 =>
      intro u β wq hq h
      repeat (obtain ⟨h1, h⟩ := h; first | (replace h1 := h1 rfl; simp only [go_sem] at h1; try (obtain ⟨h1, h1b⟩ := h1)) | (have hno := (h1 : Region.binds _ _ = true → _); clear hno h1))
      refine Or.inl ⟨rfl, fun K hK => ?_⟩
      go_simp
      exact hK _ 0 _ (Ext.refl _) rfl
    case wsx1_25 =>
      intro u β wq hq h
      repeat (obtain ⟨h1, h⟩ := h; first | (replace h1 := h1 rfl; simp only [go_sem] at h1; try (obtain ⟨h1, h1b⟩ := h1)) | (have hno := (h1 : Region.binds _ _ = true → _); clear hno h1))
      refine Or.inl ⟨Loud.wanted_of rfl rfl (congrArg some (by assumption)), fun K hK => ?_⟩
      go_simp
      exact hK _ 0 _ (Ext.refl _) rfl
    case wsx1_26 =>
      intro u β wq hq h
      repeat (obtain ⟨h1, h⟩ := h; first | (replace h1 := h1 rfl; simp only [go_sem] at h1; try (obtain ⟨h1, h1b⟩ := h1)) | (have hno := (h1 : Region.binds _ _ = true → _); clear hno h1))
      refine Or.inl ⟨Loud.wanted_of rfl rfl (congrArg some (by assumption)), fun K hK => ?_⟩
      go_simp
      exact hK _ 0 _ (Ext.refl _) rfl
    case wsx1_27 =>
      intro u β wq hq h
      repeat (obtain ⟨h1, h⟩ := h; first | (replace h1 := h1 rfl; simp only [go_sem] at h1; try (obtain ⟨h1, h1b⟩ := h1)) | (have hno := (h1 : Region.binds _ _ = true → _); clear hno h1))
      refine Or.inl ⟨Loud.wanted_of rfl rfl (congrArg some (by assumption)), fun K hK => ?_⟩
      go_simp
      exact hK _ 0 _ (Ext.refl _) rfl
    case wsx1_28 =>
      intro u β wq hq h
      repeat (obtain ⟨h1, h⟩ := h; first | (replace h1 := h1 rfl; simp only [go_sem] at h1; try (obtain ⟨h1, h1b⟩ := h1)) | (have hno := (h1 : Region.binds _ _ = true → _); clear hno h1))
      refine Or.inl ⟨Loud.wanted_of rfl rfl (congrArg some (by assumption)), fun K hK => ?_⟩
      go_simp
      exact hK _ 0 _ (Ext.refl _) rfl
    case wsx1_29 =>
      intro u β wq hq h
      repeat (obtain ⟨h1, h⟩ := h; first | (replace h1 := h1 rfl; simp only [go_sem] at h1; try (obtain ⟨h1, h1b⟩ := h1)) | (have hno := (h1 : Region.binds _ _ = true → _); clear hno h1))
      refine Or.inl ⟨Loud.wanted_of rfl rfl (congrArg some (by assumption)), fun K hK => ?_⟩
      go_simp
      exact hK _ 0 _ (Ext.refl _) rfl
    case wsx1_30 =>
      intro u β wq hq h
      repeat (obtain ⟨h1, h⟩ := h; first | (replace h1 := h1 rfl; simp only [go_sem] at h1; try (obtain ⟨h1, h1b⟩ := h1)) | (have hno := (h1 : Region.binds _ _ = true → _); clear hno h1))
      refine Or.inl ⟨rfl, fun K hK => ?_⟩
      go_simp
      exact hK _ 0 _ (Ext.refl _) rfl
  intro u β w4 hq h
  have h0 := h 0 (by omega)
  have h1 := h 1 (by omega)
  have h2 := h 2 (by omega)
  have h3 := h 3 (by omega)
  have h4 := h 4 (by omega)
  have h5 := h 5 (by omega)
  have h6 := h 6 (by omega)
  have h7 := h 7 (by omega)
  have h8 := h 8 (by omega)
  have h9 := h 9 (by omega)
  have h10 := h 10 (by omega)
  have h11 := h 11 (by omega)
  have h12 := h 12 (by omega)
  have h13 := h 13 (by omega)
  have h14 := h 14 (by omega)
  have h15 := h 15 (by omega)
  have h16 := h 16 (by omega)
  have h17 := h 17 (by omega)
  have h18 := h 18 (by omega)
  have h19 := h 19 (by omega)
  have h20 := h 20 (by omega)
  have h21 := h 21 (by omega)
  have h22 := h 22 (by omega)
  have h23 := h 23 (by omega)
  have h24 := h 24 (by omega)
  have h25 := h 25 (by omega)
  have h26 := h 26 (by omega)
  have h27 := h 27 (by omega)
  have h28 := h 28 (by omega)
  have h29 := h 29 (by omega)
  have h30 := h 30 (by omega)
  clear h
  simp only [go_sem] at h0 h1 h2 h3 h4 h5 h6 h7 h8 h9 h10 h11 h12 h13 h14 h15 h16 h17 h18 h19 h20 h21 h22 h23 h24 h25 h26 h27 h28 h29 h30
  simp only [List.drop_succ_cons, List.drop_zero]
  rw [h30]
  have HX4 := Lib.hid (HX2.out.trans hq)
  clear HX2 hq h0 h1 h2 h3 h4 h5 h6 h7 h8 h9 h10 h11 h12 h13 h14 h15 h16 h17 h18 h19 h20 h21 h22 h23 h24 h25 h26 h27 h28 h29 h30
  clear wa wa2 wb wb2 ws ws2 wt wt2 ea eb es et h17s h17t hxS hxT
  obtain ⟨k0, hk0⟩ : ∃ k0, min la lb = k0 := ⟨_, rfl⟩
  have hmi : min (la : Int) (lb : Int) = (k0 : Int) := by omega
  have HLE : Hid (k0 ≤ la ∧ k0 ≤ lb) := Lib.hid (by omega)
  have HK0 := Lib.hid hk0
  clear hk0
  go_upto_region 10 with fail
  go_cut [19] from 24 to 118 (fun s19 wc => s19 = .int .i64 (k0 : Int) ∧ wc = w4)
  case first =>
    go_wp2_with fail
    all_goals go_meet
    all_goals exact ⟨by have := HK0.out; congr 1; omega, rfl⟩
  case rest =>
  obtain ⟨rfl, hwc⟩ := hcut
  subst hwc
  go_wp2
  go_loopg [20] k0 (fun q s20 wr => ∃ k : Nat, s20 = .int .i64 (k : Int) ∧ k + q = k0 ∧ Ext w wr)
  case atStart => exact ⟨0, rfl, by omega, HX4.out⟩
  case round =>
    obtain ⟨k, rfl, hk, hx⟩ := hrel
    clear HX4
    cases gk with
    | succ q =>
      obtain ⟨hle1, hle2⟩ := HLE.out
      obtain ⟨e1, e2, e3, e4, e5, e6, e7, e8⟩ := HLS.out
      have hk3 := blind_k hle1 e5 hk
      have hxy := HB.out k (by omega) (by omega)
      have iS := fun W => run_index_str S (17 + k) (by omega) W
      have iT := fun W => run_index_str T (17 + k) (by omega) W
      have ia := fun W => run_index_str a k (by omega) W
      have ib := fun W => run_index_str b k (by omega) W
      generalize S.getD (17 + k) 0 = x at *
      generalize T.getD (17 + k) 0 = y at *
      generalize a.getD k 0 = c at *
      generalize b.getD k 0 = d at *
      obtain ⟨q0, hq0⟩ : ∃ q0, 17 + k = q0 := ⟨_, rfl⟩
      rw [hq0] at iS iT
      have eq : (17 : Int) + (k : Int) = (q0 : Int) := by omega
      obtain ⟨wq, wq2⟩ := wrap_small q0 (by omega)
      have b1 := bxor8n (x := (x.toNat : Int)) (y := (y.toNat : Int)) x.toNat y.toNat rfl rfl x.toNat_lt y.toNat_lt
      have b2 := bxor8n (x := (c.toNat : Int)) (y := (d.toNat : Int)) c.toNat d.toNat rfl rfl c.toNat_lt d.toNat_lt
      rw [← x8_toNat] at b1 b2
      rw [hxy] at b1
      have hkm : (k : Int) < (k0 : Int) := Int.ofNat_lt.2 hk3.1
      have hk2 : (k : Int) < 1500 := Int.ofNat_lt.2 hk3.2
      have HK9 := Lib.hid hk
      clear hxy hq0 e1 e2 e3 e4 e5 e6 e7 e8 hle1 hle2
      go_wp2
      refine Loud.wp_region_weave 10 wr (Loud.sps [.val (.string (bs S)), .val (.int .i64 (k : Int)), .val (.int .i64 (q0 : Int)), .val (.int .u8 (x.toNat : Int)), .val (.string (bs T)), .val (.int .i64 (k : Int)), .val (.int .i64 (q0 : Int)), .val (.int .u8 (y.toNat : Int)), .val (.int .u8 (x.toNat : Int)), .val (.int .u8 (y.toNat : Int))]) (by kernel_rfl) (by kernel_rfl) (by show Ext _ _; repeat (first | exact Ext.refl _ | assumption | (with_reducible refine Ext.drew ?_) | (with_reducible refine Ext.drewN ?_ _) | (with_reducible refine Ext.alloc ?_ _) | (refine Ext.trans ?_ (by assumption)))) (Loud.sps_st _) ?wAx2 ?whAx2 ?whSx2 ?whFx2
      case whAx2 => intro u K hK; simp only [List.take_succ_cons, List.take_zero, Loud.puts]; go_simp; exact hK
      case whSx2 =>
        simp only [List.take_succ_cons, List.take_zero, Loud.stepsW]
        refine ⟨?wsx2_0, ?wsx2_1, ?wsx2_2, ?wsx2_3, ?wsx2_4, ?wsx2_5, ?wsx2_6, ?wsx2_7, ?wsx2_8, ?wsx2_9, trivial⟩
        case wsx2_0 =>
          intro u β wq hq h
          repeat (obtain ⟨h1, h⟩ := h; first | (replace h1 := h1 rfl; simp only [go_sem] at h1; try (obtain ⟨h1, h1b⟩ := h1)) | (have hno := (h1 : Region.binds _ _ = true → _); clear hno h1))
          refine Or.inl ⟨rfl, fun K hK => ?_⟩
          go_simp
          exact hK _ 0 _ (Ext.refl _) rfl
        case wsx2_1 =>
          intro u β wq hq h
          repeat (obtain ⟨h1, h⟩ := h; first | (replace h1 := h1 rfl; simp only [go_sem] at h1; try (obtain ⟨h1, h1b⟩ := h1)) | (have hno := (h1 : Region.binds _ _ = true → _); clear hno h1))
          refine Or.inl ⟨rfl, fun K hK => ?_⟩
          go_simp
          exact hK _ 0 _ (Ext.refl _) rfl
        case wsx2_2 =>
          intro u β wq hq h
          repeat (obtain ⟨h1, h⟩ := h; first | (replace h1 := h1 rfl; simp only [go_sem] at h1; try (obtain ⟨h1, h1b⟩ := h1)) | (have hno := (h1 : Region.binds _ _ = true → _); clear hno h1))
          refine Or.inl ⟨rfl, fun K hK => ?_⟩
          go_simp
          exact hK _ 0 _ (Ext.refl _) rfl
        case wsx2_3 =>
          intro u β wq hq h
          repeat (obtain ⟨h1, h⟩ := h; first | (replace h1 := h1 rfl; simp only [go_sem] at h1; try (obtain ⟨h1, h1b⟩ := h1)) | (have hno := (h1 : Region.binds _ _ = true → _); clear hno h1))
          refine Or.inl ⟨rfl, fun K hK => ?_⟩
          go_simp
          exact hK _ 0 _ (Ext.refl _) rfl
        case wsx2_4 =>
          intro u β wq hq h
          repeat (obtain ⟨h1, h⟩ := h; first | (replace h1 := h1 rfl; simp only [go_sem] at h1; try (obtain ⟨h1, h1b⟩ := h1)) | (have hno := (h1 : Region.binds _ _ = true → _); clear hno h1))
          refine Or.inl ⟨rfl, fun K hK => ?_⟩
          go_simp
          exact hK _ 0 _ (Ext.refl _) rfl
        case wsx2_5 =>
          intro u β wq hq h
          repeat (obtain ⟨h1, h⟩ := h; first | (replace h1 := h1 rfl; simp only [go_sem] at h1; try (obtain ⟨h1, h1b⟩ := h1)) | (have hno := (h1 : Region.binds _ _ = true → _); clear hno h1))
          refine Or.inl ⟨rfl, fun K hK => ?_⟩
          go_simp
          exact hK _ 0 _ (Ext.refl _) rfl
        case wsx2_6 =>
          intro u β wq hq h
          repeat (obtain ⟨h1, h⟩ := h; first | (replace h1 := h1 rfl; simp only [go_sem] at h1; try (obtain ⟨h1, h1b⟩ := h1)) | (have hno := (h1 : Region.binds _ _ = true → _); clear hno h1))
          refine Or.inl ⟨rfl, fun K hK => ?_⟩
          go_simp
          exact hK _ 0 _ (Ext.refl _) rfl
        case wsx2_7 =>
          intro u β wq hq h
          repeat (obtain ⟨h1, h⟩ := h; first | (replace h1 := h1 rfl; simp only [go_sem] at h1; try (obtain ⟨h1, h1b⟩ := h1)) | (have hno := (h1 : Region.binds _ _ = true → _); clear hno h1))
          refine Or.inl ⟨rfl, fun K hK => ?_⟩
          go_simp
          exact hK _ 0 _ (Ext.refl _) rfl
        case wsx2_8 =>
          intro u β wq hq h
          repeat (obtain ⟨h1, h⟩ := h; first | (replace h1 := h1 rfl; simp only [go_sem] at h1; try (obtain ⟨h1, h1b⟩ := h1)) | (have hno := (h1 : Region.binds _ _ = true → _); clear hno h1))
          refine Or.inl ⟨rfl, fun K hK => ?_⟩
          go_simp
          exact hK _ 0 _ (Ext.refl _) rfl
        case wsx2_9 =>
          intro u β wq hq h
          repeat (obtain ⟨h1, h⟩ := h; first | (replace h1 := h1 rfl; simp only [go_sem] at h1; try (obtain ⟨h1, h1b⟩ := h1)) | (have hno := (h1 : Region.binds _ _ = true → _); clear hno h1))
          refine Or.inl ⟨rfl, fun K hK => ?_⟩
          go_simp
          exact hK _ 0 _ (Ext.refl _) rfl
      intro u β w5 hq h
      have h0 := h 0 (by omega)
      have h1 := h 1 (by omega)
      have h2 := h 2 (by omega)
      have h3 := h 3 (by omega)
      have h4 := h 4 (by omega)
      have h5 := h 5 (by omega)
      have h6 := h 6 (by omega)
      have h7 := h 7 (by omega)
      have h8 := h 8 (by omega)
      have h9 := h 9 (by omega)
      clear h
      simp only [go_sem] at h0 h1 h2 h3 h4 h5 h6 h7 h8 h9
      simp only [List.drop_succ_cons, List.drop_zero]
      rw [h9]
      have hx5 := hx.trans hq
      clear h0 h1 h2 h3 h4 h5 h6 h7 hq
      go_wp2
      refine Loud.wp_region_weave 11 w5 (Loud.sps [.val (.int .u8 (x.toNat : Int)), .val (.int .u8 (y.toNat : Int)), .val (.int .u8 ((x8 c d).toNat : Int)), .val (.string (bs a)), .val (.int .i64 (k : Int)), .val (.int .u8 (c.toNat : Int)), .val (.string (bs b)), .val (.int .i64 (k : Int)), .val (.int .u8 (d.toNat : Int)), .val (.int .u8 ((x8 c d).toNat : Int)), .val (.bool false)]) (by kernel_rfl) (by kernel_rfl) (by show Ext _ _; repeat (first | exact Ext.refl _ | assumption | (with_reducible refine Ext.drew ?_) | (with_reducible refine Ext.drewN ?_ _) | (with_reducible refine Ext.alloc ?_ _) | (refine Ext.trans ?_ (by assumption)))) (Loud.sps_st _) ?wAx3 ?whAx3 ?whSx3 ?whFx3
      case whAx3 => intro u K hK; simp only [List.take_succ_cons, List.take_zero, Loud.puts]; go_simp; exact hK
      case whSx3 =>
        simp only [List.take_succ_cons, List.take_zero, Loud.stepsW]
        refine ⟨?wsx3_0, ?wsx3_1, ?wsx3_2, ?wsx3_3, ?wsx3_4, ?wsx3_5, ?wsx3_6, ?wsx3_7, ?wsx3_8, ?wsx3_9, ?wsx3_10, trivial⟩
        case wsx3_0 =>
          intro u β wq hq h
          repeat (obtain ⟨h1, h⟩ := h; first | (replace h1 := h1 rfl; simp only [go_sem] at h1; try (obtain ⟨h1, h1b⟩ := h1)) | (have hno := (h1 : Region.binds _ _ = true → _); clear hno h1))
          refine Or.inl ⟨rfl, fun K hK => ?_⟩
          go_simp
          exact hK _ 0 _ (Ext.refl _) rfl
        case wsx3_1 =>
          intro u β wq hq h
          repeat (obtain ⟨h1, h⟩ := h; first | (replace h1 := h1 rfl; simp only [go_sem] at h1; try (obtain ⟨h1, h1b⟩ := h1)) | (have hno := (h1 : Region.binds _ _ = true → _); clear hno h1))
          refine Or.inl ⟨rfl, fun K hK => ?_⟩
          go_simp
          exact hK _ 0 _ (Ext.refl _) rfl
        case wsx3_2 =>
          intro u β wq hq h
          repeat (obtain ⟨h1, h⟩ := h; first | (replace h1 := h1 rfl; simp only [go_sem] at h1; try (obtain ⟨h1, h1b⟩ := h1)) | (have hno := (h1 : Region.binds _ _ = true → _); clear hno h1))
          refine Or.inl ⟨rfl, fun K hK => ?_⟩
          go_simp
          exact hK _ 0 _ (Ext.refl _) rfl
        case wsx3_3 =>
          intro u β wq hq h
          repeat (obtain ⟨h1, h⟩ := h; first | (replace h1 := h1 rfl; simp only [go_sem] at h1; try (obtain ⟨h1, h1b⟩ := h1)) | (have hno := (h1 : Region.binds _ _ = true → _); clear hno h1))
          refine Or.inl ⟨rfl, fun K hK => ?_⟩
          go_simp
          exact hK _ 0 _ (Ext.refl _) rfl
        case wsx3_4 =>
          intro u β wq hq h
          repeat (obtain ⟨h1, h⟩ := h; first | (replace h1 := h1 rfl; simp only [go_sem] at h1; try (obtain ⟨h1, h1b⟩ := h1)) | (have hno := (h1 : Region.binds _ _ = true → _); clear hno h1))
          refine Or.inl ⟨rfl, fun K hK => ?_⟩
          go_simp
          exact hK _ 0 _ (Ext.refl _) rfl
        case wsx3_5 =>
          intro u β wq hq h
          repeat (obtain ⟨h1, h⟩ := h; first | (replace h1 := h1 rfl; simp only [go_sem] at h1; try (obtain ⟨h1, h1b⟩ := h1)) | (have hno := (h1 : Region.binds _ _ = true → _); clear hno h1))
          refine Or.inl ⟨rfl, fun K hK => ?_⟩
          go_simp
          exact hK _ 0 _ (Ext.refl _) rfl
        case wsx3_6 =>
          intro u β wq hq h
          repeat (obtain ⟨h1, h⟩ := h; first | (replace h1 := h1 rfl; simp only [go_sem] at h1; try (obtain ⟨h1, h1b⟩ := h1)) | (have hno := (h1 : Region.binds _ _ = true → _); clear hno h1))
          refine Or.inl ⟨rfl, fun K hK => ?_⟩
          go_simp
          exact hK _ 0 _ (Ext.refl _) rfl
        case wsx3_7 =>
          intro u β wq hq h
          repeat (obtain ⟨h1, h⟩ := h; first | (replace h1 := h1 rfl; simp only [go_sem] at h1; try (obtain ⟨h1, h1b⟩ := h1)) | (have hno := (h1 : Region.binds _ _ = true → _); clear hno h1))
          refine Or.inl ⟨rfl, fun K hK => ?_⟩
          go_simp
          exact hK _ 0 _ (Ext.refl _) rfl
        case wsx3_8 =>
          intro u β wq hq h
          repeat (obtain ⟨h1, h⟩ := h; first | (replace h1 := h1 rfl; simp only [go_sem] at h1; try (obtain ⟨h1, h1b⟩ := h1)) | (have hno := (h1 : Region.binds _ _ = true → _); clear hno h1))
          refine Or.inl ⟨rfl, fun K hK => ?_⟩
          go_simp
          exact hK _ 0 _ (Ext.refl _) rfl
        case wsx3_9 =>
          intro u β wq hq h
          repeat (obtain ⟨h1, h⟩ := h; first | (replace h1 := h1 rfl; simp only [go_sem] at h1; try (obtain ⟨h1, h1b⟩ := h1)) | (have hno := (h1 : Region.binds _ _ = true → _); clear hno h1))
          refine Or.inl ⟨rfl, fun K hK => ?_⟩
          go_simp
          exact hK _ 0 _ (Ext.refl _) rfl
        case wsx3_10 =>
          intro u β wq hq h
          repeat (obtain ⟨h1, h⟩ := h; first | (replace h1 := h1 rfl; simp only [go_sem] at h1; try (obtain ⟨h1, h1b⟩ := h1)) | (have hno := (h1 : Region.binds _ _ = true → _); clear hno h1))
          refine Or.inl ⟨rfl, fun K hK => ?_⟩
          go_simp
          exact hK _ 0 _ (Ext.refl _) rfl
      intro u β w6 hq h
      have h0 := h 0 (by omega)
      have h1 := h 1 (by omega)
      have h2 := h 2 (by omega)
      have h3 := h 3 (by omega)
      have h4 := h 4 (by omega)
      have h5 := h 5 (by omega)
      have h6 := h 6 (by omega)
      have h7 := h 7 (by omega)
      have h8 := h 8 (by omega)
      have h9 := h 9 (by omega)
      have h10 := h 10 (by omega)
      clear h
      simp only [go_sem] at h0 h1 h2 h3 h4 h5 h6 h7 h8 h9 h10
      simp only [List.drop_succ_cons, List.drop_zero]
      rw [h10]
      have hx6 := hx5.trans hq
      clear hq
      go_wp2
      go_roundg q
      case measure => omega
      case rel =>
        have hk4 := blind_k HLE.out.1 HLS.out.2.2.2.2.1 HK9.out
        exact ⟨k + 1, blind_v hk4.2, blind_s HK9.out, hx6⟩
    | zero =>
      have hkk : k = k0 := by omega
      subst hkk
      have hlt2 : decide ((k : Int) < (k : Int)) = false := by simp
      clear HB
      go_wp2_with (go_at_call 13; with_reducible refine (GW.out _).mono ?_; rintro e w1 ⟨rfl, hx1⟩)
      go_returns
      exact ⟨rfl, hx.trans hx1⟩
end Go.Proofs.Ytbacamepmilmhaa
