/- The statements of layer 15: BarrierRetire. -/
import Derived.Test.YtclekllaikcglaaGreatLaw15a
import Derived.Deep.CutRange
set_option linter.unusedVariables false
namespace Go.Proofs.YtclekllaikcglaaGreat
open Go Go.RowKit

set_option maxRecDepth 100000 in
set_option maxHeartbeats 16000000 in
theorem law_BarrierRetire (w : World) (a : List UInt8) (keys : List (List UInt8)) (ad : Option Addr) (cp : Nat) (gone : List UInt8) (adg : Option Addr) (cg : Nat) (text : List UInt8)
    (ha : a.length ≤ 140737488351232) (hkl : keys.length ≤ 8796093022208) (hkb : ∀ x ∈ keys, x.length ≤ 140737488351232) (hk : Sl w (.slice ad keys.length cp) (keys.map strV)) (hgl : gone.length ≤ 140737488351232) (hg : Sl w (.slice adg gone.length cg) (gone.map (fun x => .int .u8 (x.toNat : Int)))) (ht : text.length ≤ 140737488351232) :
    Calls Tryz.prog 5 #[.string (bs a), .slice ad keys.length cp, .slice adg gone.length cg, .string (bs text)] w fun e w' => e = .returned (.bool true) ∧ Ext w w' := by
  have GW := Lib.hid works15
  have HKS := Lib.hid hk
  have HGS := Lib.hid hg
  have wat : IntKind.i64.wrap ((a.length : Int) + (text.length : Int)) = (a.length : Int) + (text.length : Int) := by rw [IntKind.wrap_i64]; omega
  by_cases h1 : 500 < a.length + text.length
  · have h1i : (500 : Int) < (a.length : Int) + (text.length : Int) := by omega
    clear h1
    clear ha hkl hkb hk hgl hg ht
    go_enter Tryz.func5, Tryz.ntmps5
    go_wp2_with (go_at_call 7; (with_reducible refine (GW.out _).mono ?_); rintro e w1 ⟨rfl, hx1⟩)
    go_returns
    exact ⟨rfl, hx1⟩
  have h1d : decide ((500 : Int) < (a.length : Int) + (text.length : Int)) = false := by simp; omega
  by_cases h2 : 6 < keys.length
  · have h2i : (6 : Int) < (keys.length : Int) := by omega
    clear h1 h2
    clear ha hkl hkb hk hgl hg ht
    go_enter Tryz.func5, Tryz.ntmps5
    go_wp2_with (go_at_call 7; (with_reducible refine (GW.out _).mono ?_); rintro e w1 ⟨rfl, hx1⟩)
    go_returns
    exact ⟨rfl, hx1⟩
  have h2d : decide ((6 : Int) < (keys.length : Int)) = false := by simp; omega
  by_cases h3 : 10 < gone.length
  · have h3i : (10 : Int) < (gone.length : Int) := by omega
    clear h1 h2 h3
    clear ha hkl hkb hk hgl hg ht
    go_enter Tryz.func5, Tryz.ntmps5
    go_wp2_with (go_at_call 7; (with_reducible refine (GW.out _).mono ?_); rintro e w1 ⟨rfl, hx1⟩)
    go_returns
    exact ⟨rfl, hx1⟩
  have h3d : decide ((10 : Int) < (gone.length : Int)) = false := by simp; omega
  obtain ⟨K, hK⟩ : ∃ K, keys.length = K := ⟨_, rfl⟩
  have HK := Lib.hid hK
  have HB : Hid (a.length + text.length ≤ 500 ∧ keys.length ≤ 6 ∧ gone.length ≤ 10) := Lib.hid (by omega)
  have hK6 : K ≤ 6 := by omega
  have GFa := Lib.hid (fun W => full13 a W ha)
  have hr : (padTo 32 a).length = 32 := padTo_length 32 _
  obtain ⟨kb, hkb32, gfk⟩ : ∃ kb : List UInt8, kb.length = 32 ∧ ∀ W, Calls Tryz.prog 9 #[.string { data := #[107] }] W fun e w' => e = .returned (.string (bs kb)) ∧ Ext W w' := ⟨padTo 32 [107], padTo_length 32 _, fun W => full13 [107] W (by simp)⟩
  obtain ⟨n0, hn0, g0⟩ : ∃ nn : List UInt8, nn.length = 12 ∧ ∀ W, Calls Tryz.prog 11 #[.string { data := #[48] }, .bool true] W fun e w' => e = .returned (.string (bs nn)) ∧ Ext W w' := ⟨padTo 12 [48], padTo_length 12 _, fun W => nonce15 [48] W (by simp)⟩
  obtain ⟨n1, hn1, g1⟩ : ∃ nn : List UInt8, nn.length = 12 ∧ ∀ W, Calls Tryz.prog 11 #[.string { data := #[49] }, .bool true] W fun e w' => e = .returned (.string (bs nn)) ∧ Ext W w' := ⟨padTo 12 [49], padTo_length 12 _, fun W => nonce15 [49] W (by simp)⟩
  obtain ⟨n2, hn2, g2⟩ : ∃ nn : List UInt8, nn.length = 12 ∧ ∀ W, Calls Tryz.prog 11 #[.string { data := #[50] }, .bool true] W fun e w' => e = .returned (.string (bs nn)) ∧ Ext W w' := ⟨padTo 12 [50], padTo_length 12 _, fun W => nonce15 [50] W (by simp)⟩
  obtain ⟨n3, hn3, g3⟩ : ∃ nn : List UInt8, nn.length = 12 ∧ ∀ W, Calls Tryz.prog 11 #[.string { data := #[51] }, .bool true] W fun e w' => e = .returned (.string (bs nn)) ∧ Ext W w' := ⟨padTo 12 [51], padTo_length 12 _, fun W => nonce15 [51] W (by simp)⟩
  have GFk := Lib.hid gfk
  have G0 := Lib.hid g0
  have G1 := Lib.hid g1
  have G2 := Lib.hid g2
  have G3 := Lib.hid g3
  generalize padTo 32 a = ka at *
  have HLEN : Hid (ka.length = 32 ∧ kb.length = 32 ∧ n0.length = 12 ∧ n1.length = 12 ∧ n2.length = 12 ∧ n3.length = 12 ∧ text.length ≤ 1000) := Lib.hid ⟨hr, hkb32, hn0, hn1, hn2, hn3, by omega⟩
  have GNew := Lib.hid (bar_New_c w w [] (Ext.refl w) (by simp))
  have GBG : Hid (∀ (b bg bm : Nat) (W : World), BarC w [] b bg bm 0 0 [] [] W → Calls Tryz.prog 10 #[.pointer (some ⟨b, 0, none⟩), .string (bs ka), .string (bs kb), .string (bs n0), .slice none 0 0] W fun e w' =>
      ∃ (A : BA) (g cap : Nat) (o : Obj) (T : List UInt8), A.b = b ∧ e = .returned (.tuple #[.slice (some ⟨g, 0, none⟩) 1 cap, .int .i64 0]) ∧ OS w [(g, o)] A ka 1 [(1, kb)] T w' ∧ (∀ W : World, W.heap[g]? = some o → W.cell? ⟨g, 0, none⟩ = some (.string (bs (shO ka))))) :=
    Lib.hid (fun b bg bm W h => (bar_Begin w W [] b bg bm 0 ka kb n0 [] none 0 h hr hkb32 hn0 (Row.sl (Row.nil W W.heap.size 9)) (by simp) (by simp)).mono (by
      rintro e w' ⟨A, g, cap, o, h1, _, _, rfl, h4, h5⟩
      refine ⟨A, g, cap, o, _, h1, rfl, ⟨h4, hd_ok ka n0 1 _ 1 (ri_one kb hkb32) hn0, ri_one kb hkb32, pos_one kb⟩, fun W2 hW => ?_⟩
      have := h5 W2 hW 0 (by simp [shsL_length])
      rw [shO_at] at this
      exact this))
  have HI1 := Lib.hid (ri_one kb hkb32)
  rw [hK] at h2d ⊢
  clear h1 h2 h3 hkl hkb hk hgl hg ha ht hK hr hkb32 hn0 hn1 hn2 hn3 gfk g0 g1 g2 g3
  go_enter Tryz.func5, Tryz.ntmps5
  go_upto_region 5 with (first
    | (go_at_call 8; (with_reducible refine GNew.out.mono ?_); rintro e w1 ⟨xb, bg, bm, rfl, h1, _, _, _, _⟩; have HC := Lib.hid h1; clear h1)
    | (go_at_call 9; (with_reducible refine (GFa.out _).mono ?_); rintro e w2 ⟨rfl, hx2⟩; have h1 := HC.out.next hx2; clear HC hx2; have HC := Lib.hid h1; clear h1)
    | (go_at_call 9; (with_reducible refine (GFk.out _).mono ?_); rintro e w2 ⟨rfl, hx2⟩; have h1 := HC.out.next hx2; clear HC hx2; have HC := Lib.hid h1; clear h1)
    | (go_at_call 11; (with_reducible refine (G0.out _).mono ?_); rintro e w2 ⟨rfl, hx2⟩; have h1 := HC.out.next hx2; clear HC hx2; have HC := Lib.hid h1; clear h1)
    | (go_at_call 10; (with_reducible refine (GBG.out _ _ _ _ HC.out).mono ?_); rintro e w3 ⟨A, g, cap, o, T, ha1, rfl, h3, hcell⟩; subst ha1; clear HC; have HO := Lib.hid h3; have HCL := Lib.hid hcell; clear h3 hcell))
  obtain ⟨B, hBe⟩ : ∃ B, w3.heap.size = B := ⟨_, rfl⟩
  have HAB : Hid ((∀ x ∈ A.all, x < B) ∧ g < B ∧ w.heap.size ≤ B) := Lib.hid (by
    subst hBe
    exact ⟨HO.out.bar.lt, blk_lt (HO.out.bar.keep (g, o) (by simp)), HO.out.bar.ext.size⟩)
  have HB3 : Hid (B ≤ w3.heap.size) := Lib.hid (by omega)
  have HOS0 : Hid (∃ T, OS w ((g, o) :: []) A ka 1 [(1, kb)] T w3) := Lib.hid ⟨T, HO.out⟩
  have HF0 : Hid (∀ x ∈ ([] : List (Nat × Obj)), B ≤ x.1) := Lib.hid (by simp)
  have HR0 : Hid (∀ W : World, (∀ x ∈ ([] : List (Nat × Obj)), W.heap[x.1]? = some x.2) → Row W B 9 (.slice none 0 0) (([] : List (List UInt8)).map strV)) := Lib.hid (fun W _ => Row.nil _ _ _)
  have HP0 : Hid (PutsOk [(1, kb)] n1 text [] ∧ ([(1, kb)] : Eps).length = 1) := Lib.hid ⟨fun j hj => by simp at hj, rfl⟩
  clear hBe HO GBG GNew GFa GFk G0 HI1 wat h1d h2d h3d
  go_wp2_with fail
  go_loopg [12, 13] (K + 1) (fun q s12 s13 wr => ∃ (i n : Nat) (E : Eps) (F : List (Nat × Obj)) (PS : List (List UInt8)) (al : Option Addr) (cl : Nat), s12 = .slice al i cl ∧ s13 = .int .i64 (i : Int) ∧ i + q = K + 1 ∧ n = min (i + 1) (K + 1) ∧ PS.length = i ∧ Hid (∃ T, OS w ((g, o) :: F) A ka n E T wr) ∧ Hid (∀ x ∈ F, B ≤ x.1) ∧ Hid (∀ W : World, (∀ x ∈ F, W.heap[x.1]? = some x.2) → Row W B 9 (.slice al i cl) (PS.map strV)) ∧ Hid (PutsOk E n1 text PS ∧ E.length = n) ∧ Hid (B ≤ wr.heap.size))
  case atStart => exact ⟨0, 1, _, [], [], none, 0, rfl, rfl, by omega, by omega, rfl, HOS0, HF0, HR0, HP0, HB3⟩
  case round =>
    obtain ⟨i, n, E, F, PS, al, cl, rfl, rfl, hiq, hn, hPS, HOS, HF, HR, HP, HSZ⟩ := hrel
    clear HOS0 HF0 HR0 HP0 HB3
    cases gk with
    | succ q =>
      have hiK : i ≤ K := by omega
      obtain rfl : n = i + 1 := by omega
      have hle : (i : Int) ≤ (K : Int) := by omega
      obtain ⟨T, hos⟩ := HOS.out
      have HO := Lib.hid hos
      obtain ⟨kn, hkn, hkn32⟩ := hos.ri.look
      have GP : Hid (∀ W, OS w ((g, o) :: F) A ka (i + 1) E T W → Calls Tryz.prog 16 #[.pointer (some ⟨A.b, 0, none⟩), .string { data := #[112] }, .int .u64 (i : Int), .string (bs n1), .string (bs text)] W fun e w' => e = .returned (.tuple #[.string (bs (sealW kn i n1 text)), .int .i64 0]) ∧ Ext W w') :=
        Lib.hid (fun W h => bar_Put_x w W _ A _ [] E (i + 1) ka kn [112] n1 text i h.bar h.ri (by omega) hkn (by unfold U64; omega) HLEN.out.2.2.2.1 (by simp) (by have := HLEN.out.2.2.2.2.2.2; omega))
      have HPN : Hid (PutsOk E n1 text (PS ++ [sealW kn i n1 text])) := Lib.hid (by
        have := HP.out.1.put (key := kn) (by rw [hPS]; exact hkn)
        rw [hPS] at this
        exact this)
      generalize sealW kn i n1 text = S at *
      have HS : Hid ((PS ++ [S]).map strV = PS.map strV ++ [strV S]) := Lib.hid (by simp)
      have HLN : Hid ((PS.map strV).length = i) := Lib.hid (by rw [List.length_map, hPS])
      have HPL : Hid ((PS ++ [S]).length = i + 1) := Lib.hid (by rw [List.length_append, hPS]; rfl)
      have hwu : IntKind.u64.wrap (i : Int) = (i : Int) := by rw [IntKind.wrap_u64]; omega
      clear hos hkn hkn32 HOS hn
      go_upto_region 15 with (first
        | (go_at_call 11; (with_reducible refine (G1.out _).mono ?_); rintro e w4 ⟨rfl, hx2⟩; have h1 := HO.out.next hx2; have HZ4 := Lib.hid hx2; clear HO hx2; have HO := Lib.hid h1; clear h1)
        | (go_at_call 16; (with_reducible refine (GP.out _ HO.out).mono ?_); rintro e w5 ⟨rfl, hx2⟩; have h1 := (HO.out.next hx2).next ((Ext.refl _).alloc (.cells #[.string (bs S)] 9)); have HZ5 := Lib.hid (HZ4.out.trans hx2); have HRW5 := Lib.hid (HR.out _ (fun x hx => h1.bar.keep x (by simp [hx]))); clear HO hx2; have HO := Lib.hid h1; clear h1)
        | (at_builtin; refine wpl_append rfl _ _ 25 rfl und_strs info_str rfl (by omega) B (by have := HZ5.out.size; have := HSZ.out; simp; omega) _ (PS.map strV) rfl HRW5.out ⟨w5.heap.size, 0, none⟩ 1 1 [strV S] rfl rfl (cells_one_new _ _ _) (oneCells [S] (fun _ => rfl)) (by rw [HLN.out]; omega) ?_; intro v' w6 hrow6 hb6 _; have HR6 := Lib.hid hrow6; have HB6 := Lib.hid hb6; clear hrow6 hb6))
      obtain ⟨al6, cl6, hv6⟩ := slice_look (q := i + 1) HR6.out (by rw [← HS.out, List.length_map, HPL.out])
      subst hv6
      have hr6 := HR6.out
      rw [← HS.out] at hr6
      obtain ⟨F6, hos6, hf6, hro6⟩ := HO.out.app HAB.out.1 HAB.out.2.1 HAB.out.2.2 HB6.out hr6
      have HO6 := Lib.hid hos6
      have HF6 := Lib.hid hf6
      have HR6' := Lib.hid hro6
      have HSZ6 : Hid (B ≤ w6.heap.size) := Lib.hid (Nat.le_trans (by have := HZ5.out.size; have := HSZ.out; simp; omega) HB6.out.size)
      clear hr6 hos6 hf6 hro6 HO HR HF HR6 HRW5 HZ4 HZ5 HB6 GP HS HLN
      by_cases hlt : i < K
      · have hki : (i : Int) < (K : Int) := by omega
        have hjK : i < keys.length := by have := HK.out; omega
        obtain ⟨bk, ok, hado, hbk, hck⟩ := HKS.out.str i hjK
        subst hado
        obtain ⟨y, hy⟩ : ∃ y, keys[i] = y := ⟨_, rfl⟩
        rw [hy] at hck
        have hck2 := HO6.out.bar.ext.cell_of hck
        clear hy hbk hck hlt
        by_cases h100 : 100 < y.length
        · have h100i : (100 : Int) < (y.length : Int) := by omega
          clear h100
          go_wp2_with (go_at_call 7; (with_reducible refine (GW.out _).mono ?_); rintro e w1 ⟨rfl, hx1⟩)
          go_returns
          exact ⟨rfl, HO6.out.bar.ext.trans hx1⟩
        · have h100d : decide ((100 : Int) < (y.length : Int)) = false := by simp; omega
          have GF := Lib.hid (fun W => full13 y W (by omega))
          have h32 : (padTo 32 y).length = 32 := padTo_length 32 y
          have GRT := Lib.hid (fun W (h : OS w ((g, o) :: F6) A ka (i + 1) E T W) => h.rot (key := padTo 32 y) (nonce := n2) (by have := HP.out.2; omega) (by omega) HLEN.out.1 h32 HLEN.out.2.2.2.2.1)
          generalize padTo 32 y = k32 at *
          have HPN2 : Hid (PutsOk (E ++ [(i + 1 + 1, k32)]) n1 text (PS ++ [S]) ∧ (E ++ [(i + 1 + 1, k32)]).length = i + 1 + 1) := Lib.hid ⟨HPN.out.rot _, by rw [List.length_append, HP.out.2]; rfl⟩
          clear h100 h32 HPN HP
          go_wp2_with (first
            | (go_at_call 9; (with_reducible refine (GF.out _).mono ?_); rintro e w7 ⟨rfl, hx2⟩; have hs := hx2.size; have h1 := HO6.out.next hx2; have HSZ7 : Hid (B ≤ w7.heap.size) := Lib.hid (Nat.le_trans HSZ6.out hs); clear HO6 hx2 hs; have HO6 := Lib.hid h1; clear h1)
            | (go_at_call 11; (with_reducible refine (G2.out _).mono ?_); rintro e w8 ⟨rfl, hx2⟩; have hs := hx2.size; have h1 := HO6.out.next hx2; have HSZ8 : Hid (B ≤ w8.heap.size) := Lib.hid (Nat.le_trans HSZ7.out hs); clear HO6 hx2 hs; have HO6 := Lib.hid h1; clear h1)
            | (go_at_call 20; (with_reducible refine (GRT.out _ HO6.out).mono ?_); rintro e w9 ⟨rfl, T9, h9⟩; have HO9 : Hid (∃ T, OS w ((g, o) :: F6) A ka (i + 1 + 1) (E ++ [(i + 1 + 1, k32)]) T w9) := Lib.hid ⟨T9, h9⟩; have HSZ9 : Hid (B ≤ w9.heap.size) := Lib.hid (row_size (HR6'.out w9 (fun x hx => h9.bar.keep x (by simp [hx]))) (by simp)); clear h9))
          go_roundg q
          case measure => omega
          case rel => exact ⟨i + 1, i + 1 + 1, _, F6, PS ++ [S], al6, cl6, rfl, by go_num, by omega, by omega, HPL.out, HO9, HF6, HR6', HPN2, HSZ9⟩
      · have hgei : decide ((i : Int) < (K : Int)) = false := by simp; omega
        have hgei2 : decide (i < K) = false := by simp; omega
        have hnn := Lib.hid (show i + 1 = min (i + 1 + 1) (K + 1) by omega)
        have HO9 : Hid (∃ T, OS w ((g, o) :: F6) A ka (i + 1) E T w6) := Lib.hid ⟨T, HO6.out⟩
        have HPN2 : Hid (PutsOk E n1 text (PS ++ [S]) ∧ E.length = i + 1) := Lib.hid ⟨HPN.out, HP.out.2⟩
        clear hlt HO6
        go_wp2_with fail
        go_roundg q
        case measure => omega
        case rel => exact ⟨i + 1, i + 1, _, F6, PS ++ [S], al6, cl6, rfl, by go_num, by omega, hnn.out, HPL.out, HO9, HF6, HR6', HPN2, HSZ6⟩
    | zero =>
    obtain ⟨K1, hK1⟩ : ∃ K1, K + 1 = K1 := ⟨_, rfl⟩
    obtain rfl : i = K1 := by omega
    obtain rfl : n = i := by omega
    have hlt : decide ((n : Int) ≤ (K : Int)) = false := by simp; omega
    have hlt2 : decide (n ≤ K) = false := by simp; omega
    have HN := Lib.hid (And.intro hK1 hPS)
    have hn7 : n ≤ 7 := by omega
    have hmk : ∀ w : World, (Instr.makeSlice 51 (.int .i64 (n : Int)) (.int .i64 (n : Int))).run Tryz.prog w = .ok (.slice (some ⟨w.heap.size, 0, none⟩) n n) (w.alloc (.cells (blC (List.replicate n false)) 4)) := fun w => mk_bools n (by omega) w
    clear hn hPS hiq hK1 G1 G2
    go_upto_region 21 with fail
    obtain ⟨T, hos⟩ := HOS.out
    have HO1 : Hid (∃ T, OS w ((g, o) :: (wr.heap.size, .cells (blC (List.replicate 0 true ++ List.replicate (n - 0) false)) 4) :: F) A ka n E T (wr.alloc (.cells (blC (List.replicate n false)) 4))) := Lib.hid ⟨T, hos.more _ HAB.out.1 HSZ.out⟩
    have HFG : Hid ((∀ x ∈ F, B ≤ x.1 ∧ x.1 ≠ wr.heap.size) ∧ B ≤ wr.heap.size) := Lib.hid ⟨fun x hx => ⟨HF.out x hx, by have := blk_lt (hos.bar.keep x (by simp [hx])); omega⟩, HSZ.out⟩
    obtain ⟨gt, hgt⟩ : ∃ gt, wr.heap.size = gt := ⟨_, rfl⟩
    have HRow := HR
    clear hos HOS HF HSZ HR hlt hlt2
    go_upto_region 22 with fail
    rw [hgt] at HO1 HFG
    try rw [hgt]
    obtain ⟨w2, hw2⟩ : ∃ w2, wr.alloc (.cells (blC (List.replicate n false)) 4) = w2 := ⟨_, rfl⟩
    rw [hw2] at HO1 ⊢
    clear hw2 hgt hmk
    go_wp2_with fail
    go_loopg [19] n (fun q s19 wr => ∃ (i : Nat), s19 = .int .i64 (i : Int) ∧ i + q = n ∧ Hid (∃ T, OS w ((g, o) :: (gt, .cells (blC (List.replicate i true ++ List.replicate (n - i) false)) 4) :: F) A ka n E T wr))
    case atStart => exact ⟨0, rfl, by omega, HO1⟩
    case round =>
      obtain ⟨i, rfl, hiq, HOS⟩ := hrel
      clear HO1
      cases gk with
      | succ q =>
        have hin : i < n := by omega
        have hini : (i : Int) < (n : Int) := by omega
        obtain ⟨T, hos⟩ := HOS.out
        have HO := Lib.hid hos
        have hgb := hos.bar.keep (gt, .cells (blC (List.replicate i true ++ List.replicate (n - i) false)) 4) (by simp)
        have hcl := cell_blk hgb (blC_at _ i (by simp; omega))
        have hfz : wr.frozen? ⟨gt, i, none⟩ = false := frozen_blk hgb
        have HN2 : Hid (OS w ((g, o) :: (gt, .cells (blC (List.replicate (i + 1) true ++ List.replicate (n - (i + 1)) false)) 4) :: F) A ka n E T (wr.setCell ⟨gt, i, none⟩ (.bool true))) := Lib.hid (by
          have := hos.store (i := i) (v := .bool true) HAB.out.1 HAB.out.2.2 HFG.out.2 HAB.out.2.1 (fun x hx => (HFG.out.1 x hx).2)
          rw [blC_set, rep_set i n hin] at this
          exact this)
        clear hos hgb HOS
        go_wp2_with fail
        go_roundg q
        case measure => omega
        case rel => exact ⟨i + 1, by go_num, by omega, Lib.hid ⟨T, HN2.out⟩⟩
      | zero =>
      obtain rfl : i = n := by omega
      have hlt : decide ((i : Int) < (i : Int)) = false := by simp
      have HO3 : Hid (∃ T, OS w ((g, o) :: (gt, .cells (blC (List.replicate i true)) 4) :: F) A ka i E T wr) := Lib.hid (by
        have := HOS.out
        rw [Nat.sub_self, List.replicate_zero, List.append_nil] at this
        exact this)
      have HT3 : Hid (Ths E E (List.replicate i true) ∧ (List.replicate i true).length = i) := Lib.hid ⟨ths_all E i, by simp⟩
      obtain ⟨G, hG⟩ : ∃ G, gone.length = G := ⟨_, rfl⟩
      have HG := Lib.hid hG
      have hG10 : G ≤ 10 := by have := HB.out; omega
      rw [hG]
      clear HOS hG hiq
      go_wp2_with fail
      go_loopg [20] G (fun q s20 wr => ∃ (i3 : Nat) (E3 : Eps) (tb : List Bool), s20 = .int .i64 (i3 : Int) ∧ i3 + q = G ∧ Hid (∃ T, OS w ((g, o) :: (gt, .cells (blC tb) 4) :: F) A ka i E3 T wr) ∧ Hid (Ths E E3 tb ∧ tb.length = i))
      case atStart => exact ⟨0, E, _, rfl, by omega, HO3, HT3⟩
      case round =>
        obtain ⟨i3, E3, tb, rfl, hiq, HOS, HTH⟩ := hrel
        clear HO3 HT3
        cases gk with
        | succ q =>
          have hi3 : i3 < gone.length := by have := HG.out; omega
          have hi3i : (i3 : Int) < (G : Int) := by omega
          obtain ⟨T, hos⟩ := HOS.out
          have HO := Lib.hid hos
          obtain ⟨bo, oo, hao, hbo, hco⟩ := HGS.out.at_ i3 (by simpa using hi3)
          subst hao
          rw [List.getElem_map] at hco
          have hco2 := hos.bar.ext.cell_of hco
          obtain ⟨z, hz⟩ : ∃ z, gone[i3] = z := ⟨_, rfl⟩
          rw [hz] at hco2
          have hzl := z.toNat_lt
          obtain ⟨k, hk⟩ : ∃ k, z.toNat % i = k := ⟨_, rfl⟩
          have hki : k < i := by rw [← hk]; exact Nat.mod_lt _ (by have := HN.out.1; omega)
          have hrm : (z.toNat : Int).tmod (i : Int) = (k : Int) := by rw [Int.tmod_eq_emod_of_nonneg (by omega)]; omega
          have hwz : IntKind.i64.wrap (z.toNat : Int) = (z.toNat : Int) := by rw [IntKind.wrap_i64]; omega
          have hwk : IntKind.i64.wrap (k : Int) = (k : Int) := by rw [IntKind.wrap_i64]; omega
          have hi0 : ¬ i = 0 := by have := HN.out.1; omega
          obtain ⟨k1, hk1⟩ : ∃ k1, k + 1 = k1 := ⟨_, rfl⟩
          have hk1i : (k : Int) + 1 = (k1 : Int) := by omega
          have hwk1 : IntKind.u32.wrap (k1 : Int) = (k1 : Int) := by rw [IntKind.wrap_u32]; omega
          have hkii : (k : Int) < (i : Int) := by omega
          have htbl := HTH.out.2
          have hgb := hos.bar.keep (gt, .cells (blC tb) 4) (by simp)
          have hcl := cell_blk hgb (blC_at tb k (by omega))
          have hfz : wr.frozen? ⟨gt, k, none⟩ = false := frozen_blk hgb
          have hth := HTH.out.1 k (by omega)
          have hKi : (i : Int) - 1 = (K : Int) := by have := HN.out.1; omega
          clear hz hk hco hbo
          by_cases hkK : k = K
          · have hkk : ((k : Int) == (K : Int)) = true := by simp; omega
            have GRN : Hid (∀ W, OS w ((g, o) :: (gt, .cells (blC tb) 4) :: F) A ka i E3 T W → Calls Tryz.prog 22 #[.pointer (some ⟨A.b, 0, none⟩), .int .u32 (k1 : Int), .string (bs n3)] W fun e w' => e = .returned (.int .i64 2) ∧ W = w') := Lib.hid (fun W h => by
              have := bar_Retire_no w W _ A _ [] E3 i k1 ka n3 h.bar h.ri HLEN.out.2.2.2.2.2.1 (.inl (by have := HN.out.1; omega))
              rw [if_pos (by have := HN.out.1; omega)] at this
              exact this)
            clear hos hth htbl hgb hcl hfz HOS hkK
            go_wp2_with (first
              | (go_at_call 11; (with_reducible refine (G3.out _).mono ?_); rintro e w4 ⟨rfl, hx2⟩; have h1 := HO.out.next hx2; clear HO hx2; have HO := Lib.hid h1; clear h1)
              | (go_at_call 22; (with_reducible refine (GRN.out _ HO.out).mono ?_); rintro e w' ⟨rfl, rfl⟩))
            go_roundg q
            case measure => omega
            case rel => exact ⟨i3 + 1, E3, tb, by go_num, by omega, Lib.hid ⟨T, HO.out⟩, HTH⟩
          · have hkk : ((k : Int) == (K : Int)) = false := by simp; omega
            cases htb : tb[k]'(by omega) with
            | false =>
              rw [htb] at hcl
              have GRN : Hid (∀ W, OS w ((g, o) :: (gt, .cells (blC tb) 4) :: F) A ka i E3 T W → Calls Tryz.prog 22 #[.pointer (some ⟨A.b, 0, none⟩), .int .u32 (k1 : Int), .string (bs n3)] W fun e w' => e = .returned (.int .i64 3) ∧ W = w') := Lib.hid (fun W h => by
                have := bar_Retire_no w W _ A _ [] E3 i k1 ka n3 h.bar h.ri HLEN.out.2.2.2.2.2.1 (.inr (by rw [← hk1, hth, htb]; rfl))
                rw [if_neg (by have := HN.out.1; omega)] at this
                exact this)
              clear hos hth htbl hgb hfz HOS hkK htb
              go_wp2_with (first
                | (go_at_call 11; (with_reducible refine (G3.out _).mono ?_); rintro e w4 ⟨rfl, hx2⟩; have h1 := HO.out.next hx2; have hcl4 := hx2.cell_of hcl; clear HO hx2; have HO := Lib.hid h1; clear h1)
                | (go_at_call 22; (with_reducible refine (GRN.out _ HO.out).mono ?_); rintro e w' ⟨rfl, rfl⟩))
              go_roundg q
              case measure => omega
              case rel => exact ⟨i3 + 1, E3, tb, by go_num, by omega, Lib.hid ⟨T, HO.out⟩, HTH⟩
            | true =>
              obtain ⟨key, hkey, hkS⟩ := HP.out.1 k (by have := HN.out.2; omega)
              have hlk : lookE E3 k1 = some key := by rw [← hk1, hth, htb, if_pos rfl]; exact hkey
              have GRN := Lib.hid (fun W (h : OS w ((g, o) :: (gt, .cells (blC tb) 4) :: F) A ka i E3 T W) => h.ret (nonce := n3) (by omega) HLEN.out.1 HLEN.out.2.2.2.2.2.1 (ep := k1) (by have := HN.out.1; omega) hlk)
              have HTH2 : Hid (Ths E (goneE E3 k1) (tb.set k false) ∧ (tb.set k false).length = i) := Lib.hid ⟨by rw [← hk1]; exact HTH.out.1.gone hos.ri.asc k, by rw [List.length_set]; exact htbl⟩
              have HTB : Hid (∃ h : k < tb.length, tb[k] = true) := Lib.hid ⟨_, htb⟩
              clear hkS
              clear hos hth htbl hgb hcl hfz HOS hkK htb hlk hkey
              go_upto_region 31 with (first
                | (go_at_call 11; (with_reducible refine (G3.out _).mono ?_); rintro e w4 ⟨rfl, hx2⟩; have h1 := HO.out.next hx2; clear HO hx2; have HO := Lib.hid h1; clear h1)
                | (go_at_call 22; (with_reducible refine (GRN.out _ HO.out).mono ?_); rintro e w5 ⟨rfl, T5, h5⟩; have HO5 := Lib.hid h5; clear h5))
              have hgb := HO5.out.bar.keep (gt, .cells (blC tb) 4) (by simp)
              obtain ⟨hx6, hy6⟩ := HTB.out
              have hcl := cell_blk hgb (blC_at tb k hx6)
              rw [hy6] at hcl
              clear hy6 hx6
              have hfz : w5.frozen? ⟨gt, k, none⟩ = false := frozen_blk hgb
              have HN5 : Hid (OS w ((g, o) :: (gt, .cells (blC (tb.set k false)) 4) :: F) A ka i (goneE E3 k1) T5 (w5.setCell ⟨gt, k, none⟩ (.bool false))) := Lib.hid (by
                have := HO5.out.store (i := k) (v := .bool false) HAB.out.1 HAB.out.2.2 HFG.out.2 HAB.out.2.1 (fun x hx => (HFG.out.1 x hx).2)
                rw [blC_set] at this
                exact this)
              clear hgb
              go_wp2_with fail
              go_roundg q
              case measure => omega
              case rel => exact ⟨i3 + 1, _, _, by go_num, by omega, Lib.hid ⟨T5, HN5.out⟩, HTH2⟩
        | zero =>
        obtain rfl : i3 = G := by omega
        have hlt : decide ((i3 : Int) < (i3 : Int)) = false := by simp
        obtain ⟨T, hos⟩ := HOS.out
        have HO := Lib.hid hos
        have GHD := Lib.hid (fun W (h : OS w ((g, o) :: (gt, .cells (blC tb) 4) :: F) A ka i E3 T W) => bar_Header h.bar.cell)
        have GLD := Lib.hid (fun (W0 : World) (b bg bm c : Nat) W (h : BarC W0 [] b bg bm c 0 [] [] W) => bar_Load W0 W [] b bg bm c (b8 1) T [] 1 h (by decide) (by decide) hos.ok.ep hos.ok.len)
        have GUN := Lib.hid (fun (W0 : World) (b bg bm c : Nat) W (h : BarC W0 [] b bg bm c 1 (b8 1 :: T) [] W) => unseal_one W0 W b bg bm c ka T E3 i HLEN.out.1 h hos.ok hos.ri hos.pos (by omega))
        have GNW := Lib.hid (bar_New_c wr wr [] (Ext.refl wr) (by simp))
        obtain ⟨hd, hhd⟩ : ∃ hd, b8 1 :: T = hd := ⟨_, rfl⟩
        have GEX : Hid (∀ W, OS w ((g, o) :: (gt, .cells (blC tb) 4) :: F) A ka i E3 T W → Calls Tryz.prog 19 #[.pointer (some ⟨A.b, 0, none⟩)] W fun e w' => ∃ ge ce, e = .returned (.slice (some ⟨ge, 0, none⟩) E3.length ce) ∧ Ext W w') := Lib.hid (fun W h => (bar_Epochs_x w W _ A _ [] E3 i ka h.bar h.ri).mono (by
          rintro e w' ⟨ge, ce, rfl, _, h2⟩
          exact ⟨ge, ce, rfl, h2⟩))
        have GEY : Hid (∀ (W0 : World) (Y : BA) W, BarO W0 [] Y hd [] E3 i ka W → Calls Tryz.prog 19 #[.pointer (some ⟨Y.b, 0, none⟩)] W fun e w' => ∃ ge ce, e = .returned (.slice (some ⟨ge, 0, none⟩) E3.length ce) ∧ Ext W w') := Lib.hid (fun W0 Y W h => (bar_Epochs_x W0 W _ Y _ [] E3 i ka h hos.ri).mono (by
          rintro e w' ⟨ge, ce, rfl, _, h2⟩
          exact ⟨ge, ce, rfl, h2⟩))
        obtain ⟨ne, hne⟩ : ∃ ne, E3.length = ne := ⟨_, rfl⟩
        rw [hhd] at GHD GLD GUN
        rw [hne] at GEX GEY
        have HRI := Lib.hid hos.ri
        clear hos HOS hhd hne hiq hlt
        go_upto_region 44 with (first
          | (go_at_call 8; (with_reducible refine GNW.out.mono ?_); rintro e w4 ⟨yb, ybg, ybm, rfl, h1, _, _, _, hx4⟩; have HC := Lib.hid h1; have h2 := HO.out.next hx4; have HO4 := Lib.hid h2; clear h1 h2 hx4)
          | (go_at_call 18; (with_reducible refine (GHD.out _ HO4.out).mono ?_); rintro e w' ⟨rfl, rfl⟩)
          | (go_at_call 17; (with_reducible refine (GLD.out _ _ _ _ _ _ HC.out).mono ?_); rintro e w5 ⟨rfl, h1⟩; have hcl5 := HCL.out _ ((HO.out.next h1.ext).bar.keep (g, o) (by simp)); have HC5 := Lib.hid h1; clear h1)
          | (go_at_call 13; (with_reducible refine (GUN.out _ _ _ _ _ _ HC5.out).mono ?_); rintro e w6 ⟨rfl, Y, hY, h1⟩; subst hY; have h2 := HO.out.next h1.ext; have HY6 := Lib.hid h1; have HX6 := Lib.hid h2; clear h1 h2))
        clear GNW GHD GLD GUN HO HO4 HC HC5 hcl5 HCL
        go_wp2_with (first
          | (go_at_call 19; (with_reducible refine (GEY.out _ _ _ HY6.out).mono ?_); rintro e w7 ⟨ge, ce, rfl, hx7⟩; have h1 := HY6.out.next hx7; have h2 := HX6.out.next hx7; have HY7 := Lib.hid h1; have HX7 := Lib.hid h2; clear h1 h2 hx7)
          | (go_at_call 19; (with_reducible refine (GEX.out _ HX7.out).mono ?_); rintro e w8 ⟨ge2, ce2, rfl, hx7⟩; have h1 := HY7.out.next hx7; have h2 := HX7.out.next hx7; have HY8 := Lib.hid h1; have HX8 := Lib.hid h2; clear h1 h2 hx7))
        have HRW8 := Lib.hid (HRow.out w8 (fun x hx => HX8.out.bar.keep x (by simp [hx])))
        have HTB8 := Lib.hid (HX8.out.bar.keep (gt, .cells (blC tb) 4) (by simp))
        have HE8 : Hid (Ext w8 w8) := Lib.hid (Ext.refl w8)
        clear HX7 HY7 HX6 HY6 GEX GEY HRow HFG G3
        go_loopg [27] i (fun q s27 wr => ∃ (j : Nat), s27 = .int .i64 (j : Int) ∧ j + q = i ∧ Hid (Ext w8 wr))
        case atStart => exact ⟨0, rfl, by omega, HE8⟩
        case round =>
          obtain ⟨j, rfl, hjq, HE⟩ := hrel
          clear HE8
          cases gk with
          | succ q =>
            have hji : j < i := by omega
            have hjii : (j : Int) < (i : Int) := by omega
            have hwu : IntKind.u64.wrap (j : Int) = (j : Int) := by rw [IntKind.wrap_u64]; omega
            obtain ⟨hK1, hPS⟩ := HN.out
            have hjp : j < PS.length := by omega
            obtain ⟨gp, hgp⟩ : ∃ gp, al = some ⟨gp, 0, none⟩ := by
              rcases HRW8.out.look with ⟨h0, h1⟩ | ⟨g', cap', cur, hv, _⟩
              · have h2 := congrArg List.length h1; rw [List.length_map, List.length_nil] at h2; exact absurd h2 (by omega)
              · injection hv with hv; exact ⟨g', hv⟩
            subst hgp
            have hcp := HRW8.out.cellAt j (by rw [List.length_map]; exact hjp)
            rw [List.getElem_map] at hcp
            change _ = some (Value.string (bs PS[j])) at hcp
            have htbl := HTH.out.2
            have hct := cell_blk HTB8.out (blC_at tb j (by omega))
            have hgp := get_put HP.out.1 HTH.out.1 (by omega) j hjp HLEN.out.2.2.2.1 HLEN.out.2.2.2.2.2.2 (by omega)
            have hsl : (PS[j]).length ≤ 10000 := by
              obtain ⟨key, _, hs⟩ := HP.out.1 j hjp
              rw [hs]
              exact sealW_len key j n1 text HLEN.out.2.2.2.1 HLEN.out.2.2.2.2.2.2
            obtain ⟨S, hS⟩ : ∃ S, PS[j] = S := ⟨_, rfl⟩
            rw [hS] at hcp hgp hsl
            have GX : Hid (∀ W, Ext w8 W → Calls Tryz.prog 21 #[.pointer (some ⟨A.b, 0, none⟩), .string { data := #[112] }, .int .u64 (j : Int), .string (bs S)] W fun e w' => e = .returned (.tuple #[.string (bs (openAny E3 [112] j S).1), .int .i64 (openAny E3 [112] j S).2]) ∧ Ext W w') := Lib.hid (fun W h =>
              bar_Get_x w W _ A _ [] E3 i ka [112] S j (HX8.out.next h).bar HRI.out (by unfold U64; omega) (by simp) (by omega))
            have GY : Hid (∀ W, Ext w8 W → Calls Tryz.prog 21 #[.pointer (some ⟨Y.b, 0, none⟩), .string { data := #[112] }, .int .u64 (j : Int), .string (bs S)] W fun e w' => e = .returned (.tuple #[.string (bs (openAny E3 [112] j S).1), .int .i64 (openAny E3 [112] j S).2]) ∧ Ext W w') := Lib.hid (fun W h =>
              bar_Get_x _ W _ Y _ [] E3 i ka [112] S j (HY8.out.next h) HRI.out (by unfold U64; omega) (by simp) (by omega))
            have hcpr := HE.out.cell_of hcp
            cases htb : tb[j]'(by omega) with
            | true =>
              rw [htb] at hct
              rw [htb, if_pos rfl] at hgp
              rw [hgp] at GX GY
              clear hgp hsl hS htb hcp htbl hK1 hPS
              go_wp2_with (first
                | (go_at_call 21; (with_reducible refine (GX.out _ HE.out).mono ?_); rintro e w9 ⟨rfl, hx9⟩; have HE9 := Lib.hid (HE.out.trans hx9); have hcp9 := hx9.cell_of hcpr; clear hx9)
                | (go_at_call 21; (with_reducible refine (GY.out _ HE9.out).mono ?_); rintro e w10 ⟨rfl, hx9⟩; have HE10 := Lib.hid (HE9.out.trans hx9); have hct10 := HE10.out.cell_of hct; clear hx9))
              go_roundg q
              case measure => omega
              case rel => exact ⟨j + 1, by go_num, by omega, HE10⟩
            | false =>
              rw [htb] at hct
              rw [htb, if_neg (by simp)] at hgp
              rw [hgp] at GX GY
              clear hgp hsl hS htb hcp htbl hK1 hPS
              go_wp2_with (first
                | (go_at_call 21; (with_reducible refine (GX.out _ HE.out).mono ?_); rintro e w9 ⟨rfl, hx9⟩; have HE9 := Lib.hid (HE.out.trans hx9); have hcp9 := hx9.cell_of hcpr; clear hx9)
                | (go_at_call 21; (with_reducible refine (GY.out _ HE9.out).mono ?_); rintro e w10 ⟨rfl, hx9⟩; have HE10 := Lib.hid (HE9.out.trans hx9); have hct10 := HE10.out.cell_of hct; clear hx9))
              go_roundg q
              case measure => omega
              case rel => exact ⟨j + 1, by go_num, by omega, HE10⟩
          | zero =>
          obtain rfl : j = i := by omega
          have hlt : decide ((j : Int) < (j : Int)) = false := by simp
          go_wp2_with (go_at_call 7; (with_reducible refine (GW.out _).mono ?_); rintro e w1 ⟨rfl, hx1⟩)
          go_returns
          exact ⟨rfl, (HX8.out.bar.ext.trans HE.out).trans hx1⟩
end Go.Proofs.YtclekllaikcglaaGreat
