import Derived.Test.YtclekllaikcglaaGreatBarB

/- Layer 15: nonce, works. -/
namespace Go.Proofs.YtclekllaikcglaaGreat
open Go Go.RowKit
set_option maxRecDepth 100000 in
theorem nonce15 (s : List UInt8) (w : World) (_hl : s.length ≤ 140737488351232) :
  Calls Tryz.prog 11 #[.string (bs s), .bool true] w fun e w' => e = .returned (.string (bs (padTo 12 s))) ∧ Ext w w' := by
 have hmk : ∀ w : World, (Instr.makeSlice 27 (.int .i64 12) (.int .i64 12)).run Tryz.prog w = .ok (.slice (some ⟨w.heap.size, 0, none⟩) 12 12) (w.alloc (.cells (bcells z12) 5)) := fun w => mk_bytes 12 (by omega) w
 have HSZ := Lib.hid (show splice z12 0 (s.take 12) = padTo 12 s from splice_zeros 12 s)
 go_enter Tryz.func11, Tryz.ntmps11
 go_wp2_with (refine wpl_copy_str rfl rfl und_bytes info_u8 rfl rfl (L := z12) (heap_alloc_new w _) (by rw [z12_length]; decide) ?_; intro w2 hb2 _ hbel; rw [HSZ.out] at hb2; have kc := fun c => to_str_of (c := c) hb2 (padTo_length 12 _); have hx2 : Ext w w2 := ((Ext.refl w).alloc _).trans_below hbel; clear hb2)
 go_returns
 exact ⟨rfl, hx2⟩
theorem look_one (key : List UInt8) : lookE [(1, key)] 1 = some key := by simp [lookE]
theorem one_cell {W : World} {g : Nat} {k : List UInt8} {c : Nat} (h : W.heap[g]? = some (.cells #[.string (bs k)] 9)) : Sl W (.slice (some ⟨g, 0, none⟩) 1 c) ([k].map strV) := by
 refine ⟨some ⟨g, 0, none⟩, c, by simp, fun i hi => ?_⟩
 obtain rfl : i = 0 := by simp at hi; omega
 exact ⟨g, 0, rfl, blk_lt h, cell_blk h rfl⟩
theorem hd_cons (root : List UInt8) (nb : Nat) (nonce : List UInt8) (E : Eps) : hdL root nb nonce E = b8 nb :: (envL root 1 nonce (bytesE E) ++ tagL root lblB nb (envL root 1 nonce (bytesE E))) := rfl
set_option maxRecDepth 100000 in
set_option maxHeartbeats 8000000 in
theorem works15 (w : World) : Calls Tryz.prog 7 #[] w fun e w' => e = .returned (.bool true) ∧ Ext w w' := by
 have GFr : Hid (∀ W, Calls Tryz.prog 9 #[.string { data := #[114] }] W fun e w' => e = .returned (.string (bs (padTo 32 [114]))) ∧ Ext W w') := Lib.hid fun W => full13 [114] W (by simp)
 have GFk : Hid (∀ W, Calls Tryz.prog 9 #[.string { data := #[107] }] W fun e w' => e = .returned (.string (bs (padTo 32 [107]))) ∧ Ext W w') := Lib.hid fun W => full13 [107] W (by simp)
 have GFx : Hid (∀ W, Calls Tryz.prog 9 #[.string { data := #[120] }] W fun e w' => e = .returned (.string (bs (padTo 32 [120]))) ∧ Ext W w') := Lib.hid fun W => full13 [120] W (by simp)
 have GNn : Hid (∀ W, Calls Tryz.prog 11 #[.string { data := #[110] }, .bool true] W fun e w' => e = .returned (.string (bs (padTo 12 [110]))) ∧ Ext W w') := Lib.hid fun W => nonce15 [110] W (by simp)
 have GNm : Hid (∀ W, Calls Tryz.prog 11 #[.string { data := #[109] }, .bool true] W fun e w' => e = .returned (.string (bs (padTo 12 [109]))) ∧ Ext W w') := Lib.hid fun W => nonce15 [109] W (by simp)
 have hr : (padTo 32 [114]).length = 32 := padTo_length 32 _
 have hk : (padTo 32 [107]).length = 32 := padTo_length 32 _
 have hx : (padTo 32 [120]).length = 32 := padTo_length 32 _
 have hn : (padTo 12 [110]).length = 12 := padTo_length 12 _
 have hm : (padTo 12 [109]).length = 12 := padTo_length 12 _
 generalize padTo 32 [114] = root at *
 generalize padTo 32 [107] = key at *
 generalize padTo 32 [120] = kx at *
 generalize padTo 12 [110] = nn at *
 generalize padTo 12 [109] = nm at *
 have hl1 : ∀ s ∈ [kx], s.length = 32 := by simp [hx]
 have hI := ri_one key hk
 have GNew := Lib.hid (bar_New_c w w [] (Ext.refl w) (by simp))
 have GBG : Hid (∀ (b bg bm : Nat) (W : World), BarC w [] b bg bm 0 0 [] [] W → ∀ (g c : Nat), W.heap[g]? = some (.cells #[.string (bs kx)] 9) → Calls Tryz.prog 10 #[.pointer (some ⟨b, 0, none⟩), .string (bs root), .string (bs key), .string (bs nn), .slice (some ⟨g, 0, none⟩) 1 c] W fun e w' =>
   ∃ (a : BA) (g cap : Nat) (o : Obj), a.b = b ∧ a.bg = bg ∧ a.bm = bm ∧ e = .returned (.tuple #[.slice (some ⟨g, 0, none⟩) 2 cap, .int .i64 0]) ∧ BarO w [(g, o)] a (b8 2 :: (envL root 1 nn (bytesE [(1, key)]) ++ tagL root lblB 2 (envL root 1 nn (bytesE [(1, key)])))) [] [(1, key)] 1 root w' ∧
    (∀ W : World, W.heap[g]? = some o → ∀ i (hi : i < (shsL root [kx]).length), W.cell? ⟨g, i, none⟩ = some (strV (shsL root [kx])[i]))) :=
  Lib.hid (fun b bg bm W h g c hv => bar_Begin w W [] b bg bm 0 root key nn [kx] (some ⟨g, 0, none⟩) c h hr hk hn (one_cell hv) (by simp) hl1)
 have hsl := shsL_length root [kx]
 have hU := shU_len root [kx] hr hl1
 have hUl : (shU root [kx]).length = 2 := shU_length root [kx]
 have hs0 : (shsL root [kx])[0]'(by rw [hsl]; simp) = shareB 1 2 ((shU root [kx]).getD 0 []) := shsL_at root [kx] 0 (by simp)
 have hs1 : (shsL root [kx])[1]'(by rw [hsl]; simp) = shareB 2 2 ((shU root [kx]).getD 1 []) := shsL_at root [kx] 1 (by simp)
 have f1 : Fit (b8 2) [] (gotJ 2 (shU root [kx]) [1]) (shareB 2 2 ((shU root [kx]).getD 1 [])) 2 ((shU root [kx]).getD 1 []) := fit_J (m := 2) (by omega) hUl hU [] (by simp) (by simp) 1 (by omega) (by simp)
 have f0 := fit_J (m := 2) (by omega) hUl hU [1] (by simp; omega) (by simp) 0 (by omega) (by simp)
 have q1 : secretS (gotJ 2 (shU root [kx]) [1]) = none := secret_less hU [1] (by simp; omega) (by simp)
 have q0 : secretS (gotJ 2 (shU root [kx]) ([1] ++ [0])) = some root := by
  rw [secret_full hUl (by omega) hU ([1] ++ [0]) (by decide), shU_secret root [kx] hr hl1]
 have ln0 : (shareB 1 2 ((shU root [kx]).getD 0 [])).length ≤ 1000 := by simp only [shareB, List.length_cons, getD_len hU 0 (by omega)]; omega
 have ln1 : (shareB 2 2 ((shU root [kx]).getD 1 [])).length ≤ 1000 := by simp only [shareB, List.length_cons, getD_len hU 1 (by omega)]; omega
 have ho := hd_open root nn 2 [(1, key)] 1 hI hn
 have hre := readE_bytes [(1, key)] 1 hI (pos_one key) (by omega)
 have hbl : (bytesE [(1, key)]).length ≤ 1000 := by rw [bytesE_length _ hI.key]; simp
 have htl : (envL root 1 nn (bytesE [(1, key)]) ++ tagL root lblB 2 (envL root 1 nn (bytesE [(1, key)]))).length ≤ 1000000 := by
  rw [List.length_append, envL_length _ _ _ _ hn, tagL_length]; omega
 have hb2 : (b8 2).toNat = 2 := rfl
 have ho2 : openAny [(1, root)] lblB (b8 2).toNat (envL root 1 nn (bytesE [(1, key)]) ++ tagL root lblB 2 (envL root 1 nn (bytesE [(1, key)]))) = (bytesE [(1, key)], 0) := by rw [hb2]; exact ho
 have GU1 := Lib.hid (fun F b bg bm c W (h : BarC w F b bg bm c 1 (b8 2 :: (envL root 1 nn (bytesE [(1, key)]) ++ tagL root lblB 2 (envL root 1 nn (bytesE [(1, key)])))) [] W) => bar_Unseal_more w W F b bg bm c (b8 2) _ _ _ _ _ _ h ln1 f1 q1)
 have GU0 := Lib.hid (fun F b bg bm c W (h : BarC w F b bg bm c 1 (b8 2 :: (envL root 1 nn (bytesE [(1, key)]) ++ tagL root lblB 2 (envL root 1 nn (bytesE [(1, key)])))) (gotJ 2 (shU root [kx]) [1]) W) => bar_Unseal_open w W F b bg bm c (b8 2) _ _ _ _ _ _ root _ _ h ln0 f0 q0 hr ho2 hre htl (by omega))
 have hen := ep_env key [97] nm [116, 101, 120, 116] 1 1 hm (by omega) (by simp)
 have hog := open_close key [97] nm [116, 101, 120, 116] 1 1 hm
 have hoa : openAny [(1, key)] [97] 1 (envL key 1 nm [116, 101, 120, 116] ++ tagL key [97] 1 (envL key 1 nm [116, 101, 120, 116])) = ([116, 101, 120, 116], 0) := by
  unfold openAny
  rw [hen]
  simp only [look_one]
  rw [hog]
  rfl
 have hSl : (envL key 1 nm [116, 101, 120, 116] ++ tagL key [97] 1 (envL key 1 nm [116, 101, 120, 116])).length ≤ 1000 := by rw [List.length_append, envL_length _ _ _ _ hm, tagL_length]; simp
 have GP : Hid (∀ F a hd gs W, BarO w F a hd gs [(1, key)] 1 root W → Calls Tryz.prog 16 #[.pointer (some ⟨a.b, 0, none⟩), .string { data := #[97] }, .int .u64 1, .string (bs nm), .string { data := #[116, 101, 120, 116] }] W fun e w' => e = .returned (.tuple #[.string (bs (envL key 1 nm [116, 101, 120, 116] ++ tagL key [97] 1 (envL key 1 nm [116, 101, 120, 116]))), .int .i64 0]) ∧ BarO w F a hd gs [(1, key)] 1 root w') :=
  Lib.hid (fun F a hd gs W h => bar_Put w W F a hd gs [(1, key)] 1 root key [97] nm [116, 101, 120, 116] 1 h hI (by omega) (look_one key) (by unfold U64; omega) hm (by simp) (by simp))
 have GG : Hid (∀ F a hd gs W, BarO w F a hd gs [(1, key)] 1 root W → Calls Tryz.prog 21 #[.pointer (some ⟨a.b, 0, none⟩), .string { data := #[97] }, .int .u64 1, .string (bs (envL key 1 nm [116, 101, 120, 116] ++ tagL key [97] 1 (envL key 1 nm [116, 101, 120, 116])))] W fun e w' => e = .returned (.tuple #[.string { data := #[116, 101, 120, 116] }, .int .i64 0]) ∧ BarO w F a hd gs [(1, key)] 1 root w') :=
  Lib.hid (fun F a hd gs W h => by
   have := bar_Get w W F a hd gs [(1, key)] 1 root [97] _ 1 h hI (by unfold U64; omega) (by simp) (Nat.le_trans hSl (by omega))
   rw [hoa] at this
   exact this)
 have GGN : Hid (∀ F b bg bm c hd gs s W, BarC w F b bg bm c 1 hd gs W → Calls Tryz.prog 21 #[.pointer (some ⟨b, 0, none⟩), .string { data := #[97] }, .int .u64 1, .string (bs s)] W fun e w' => e = .returned (.tuple #[.string { data := #[] }, .int .i64 150]) ∧ W = w') :=
  Lib.hid (fun F b bg bm c hd gs s W h => bar_Get_no w W F b bg bm c 1 hd gs [97] s 1 h (by omega))
 have GSL := Lib.hid (fun F a hd W (h : BarO w F a hd [] [(1, key)] 1 root W) => bar_Seal w W F a hd [] [(1, key)] 1 root h)
 generalize envL root 1 nn (bytesE [(1, key)]) ++ tagL root lblB 2 (envL root 1 nn (bytesE [(1, key)])) = T at *
 generalize envL key 1 nm [116, 101, 120, 116] ++ tagL key [97] 1 (envL key 1 nm [116, 101, 120, 116]) = S at *
 generalize shareB 1 2 ((shU root [kx]).getD 0 []) = sh0 at *
 generalize shareB 2 2 ((shU root [kx]).getD 1 []) = sh1 at *
 generalize gotJ 2 (shU root [kx]) [1] = gs1 at *
 generalize shsL root [kx] = SH at *
 have HSH := Lib.hid (show ∃ h0 : 0 < SH.length, ∃ h1 : 1 < SH.length, SH[0] = sh0 ∧ SH[1] = sh1 from ⟨by rw [hsl]; simp, by rw [hsl]; simp, hs0, hs1⟩)
 clear hr hk hx hn hm hl1 hI hsl hU hUl hs0 hs1 f1 f0 q1 q0 ln0 ln1 ho hre hbl htl hb2 ho2 hen hog hoa hSl
 go_enter Tryz.func7, Tryz.ntmps7
 go_upto_region 3 with (first
  | (go_at_call 8; (with_reducible refine (GNew.out).mono ?_); rintro e w1 ⟨b, bg, bm, rfl, h1, _, _, _, _⟩; have HC := Lib.hid h1; clear h1)
  | (go_at_call 9; (with_reducible refine (GFr.out _).mono ?_); rintro e w2 ⟨rfl, hx1⟩; have h1 := HC.out.next hx1; clear HC hx1; have HC := Lib.hid h1; clear h1)
  | (go_at_call 9; (with_reducible refine (GFk.out _).mono ?_); rintro e w2 ⟨rfl, hx1⟩; have h1 := HC.out.next hx1; clear HC hx1; have HC := Lib.hid h1; clear h1)
  | (go_at_call 9; (with_reducible refine (GFx.out _).mono ?_); rintro e w2 ⟨rfl, hx1⟩; have h1 := HC.out.next hx1; clear HC hx1; have HC := Lib.hid h1; clear h1)
  | (go_at_call 11; (with_reducible refine (GNn.out _).mono ?_); rintro e w2 ⟨rfl, hx1⟩; have h1 := HC.out.next hx1; clear HC hx1; have HC := Lib.hid h1; clear h1)
  | (go_at_call 10; (with_reducible refine (GBG.out b bg bm _ (HC.out.next ((Ext.refl _).alloc _)) _ _ (heap_alloc_new _ _)).mono ?_); rintro e w3 ⟨a, g, cap, o, ha1, ha2, ha3, rfl, h3, hcell⟩; subst ha1; subst ha2; subst ha3; clear HC; have HO := Lib.hid h3; have HCL := Lib.hid hcell; clear h3 hcell))
 go_upto_region 7 with (first
  | (go_at_call 11; (with_reducible refine (GNm.out _).mono ?_); rintro e w2 ⟨rfl, hx1⟩; have h1 := HO.out.next hx1; clear HO hx1; have HO := Lib.hid h1; clear h1)
  | (go_at_call 16; (with_reducible refine (GP.out _ a _ _ _ HO.out).mono ?_); rintro e w4 ⟨rfl, h1⟩; clear HO; have HO := Lib.hid h1; clear h1)
  | (go_at_call 12; (with_reducible refine (GSL.out _ a _ _ HO.out).mono ?_); rintro e w5 ⟨rfl, h1⟩; clear HO; have HC := Lib.hid h1; clear h1)
  | (go_at_call 21; (with_reducible refine (GGN.out _ _ _ _ _ _ _ _ _ HC.out).mono ?_); rintro e w' ⟨rfl, rfl⟩))
 obtain ⟨q0, q1, e0, e1⟩ := HSH.out
 have c1 := HCL.out _ (HC.out.keep (g, o) (by simp)) 1 q1
 rw [e1] at c1
 change _ = some (Value.string (bs sh1)) at c1
 clear GNew GBG GFr GFk GFx GNn GNm GP GSL GGN
 go_upto_region 8 with (go_at_call 13; (with_reducible refine (GU1.out _ _ _ _ _ _ HC.out).mono ?_); rintro e w6 ⟨rfl, h1⟩; clear HC; have HC := Lib.hid h1; clear h1)
 clear c1
 have c0 := HCL.out _ (HC.out.keep (g, o) (by simp)) 0 q0
 rw [e0] at c0
 change _ = some (Value.string (bs sh0)) at c0
 have GST : Hid (∀ (F : List (Nat × Obj)) (a : BA) W, BarO w F a (b8 2 :: T) [] [(1, key)] 1 root W → Calls Tryz.prog 15 #[.pointer (some ⟨a.b, 0, none⟩)] W fun e w' => e = .returned (.int .u8 2) ∧ W = w') := Lib.hid fun F a W h => bar_State h.cell
 go_upto_region 9 with (go_at_call 13; (with_reducible refine (GU0.out _ _ _ _ _ _ HC.out).mono ?_); rintro e w7 ⟨rfl, a2, x1, _, _, h9⟩; have HO : Hid (BarO w [(g, o)] a2 (b8 2 :: T) [] [(1, key)] 1 root w7) := Lib.hid h9; clear h9)
 have GG9 := Lib.hid (fun W (h : BarO w [(g, o)] a2 (b8 2 :: T) [] [(1, key)] 1 root W) => GG.out _ a2 _ _ W h)
 have GST9 := Lib.hid (fun W (h : BarO w [(g, o)] a2 (b8 2 :: T) [] [(1, key)] 1 root W) => GST.out _ a2 W h)
 rw [x1] at GG9 GST9
 clear c0 GG GST
 go_wp2_with (first
  | (go_at_call 21; (with_reducible refine (GG9.out _ HO.out).mono ?_); rintro e w8 ⟨rfl, h1⟩; clear HO; have HO := Lib.hid h1; clear h1)
  | (go_at_call 15; (with_reducible refine (GST9.out _ HO.out).mono ?_); rintro e w' ⟨rfl, rfl⟩))
 go_returns
 exact ⟨by simp, HO.out.ext⟩
end Go.Proofs.YtclekllaikcglaaGreat

/- Layer 15: the round of shares that come, plain. -/
namespace Go.Proofs.YtclekllaikcglaaGreat
open Go Go.RowKit
theorem slice_look {w : World} {B q : Nat} {e : TypeId} {v : Value} {xs : List Value} (h : Row w B e v xs) (hq : xs.length = q) : ∃ al cl, v = .slice al q cl := by
 obtain ⟨al, cl, hv⟩ := (Row.sl h).look
 exact ⟨al, cl, by rw [hv, hq]⟩
end Go.Proofs.YtclekllaikcglaaGreat

/- Layer 15: what a law of its own writes beside an open barrier; calls that leave all memory. -/
namespace Go.Proofs.YtclekllaikcglaaGreat
open Go Go.RowKit
set_option maxRecDepth 100000 in
theorem bar_Put_x (w0 w : World) (F : List (Nat × Obj)) (a : BA) (hd : List UInt8) (gs : GS) (E : Eps) (n : Nat) (root key path nonce text : List UInt8) (ver : Nat) (h : BarO w0 F a hd gs E n root w) (hI : RI E n) (hn : n < 4294967296) (hs : lookE E n = some key)
  (hv : U64 ver) (hno : nonce.length = 12) (hp : path.length ≤ 1048576) (ht : text.length ≤ 1048576) :
  Calls Tryz.prog 16 #[.pointer (some ⟨a.b, 0, none⟩), .string (bs path), .int .u64 (ver : Int), .string (bs nonce), .string (bs text)] w fun e w' => e = .returned (.tuple #[.string (bs (envL key n nonce text ++ tagL key path ver (envL key n nonce text))), .int .i64 0]) ∧ Ext w w' := by
 have G := Lib.hid (bar_open h.cell)
 have hkl : key.length ≤ 1099511627776 := by have := look_key hI.key hs; omega
 have GC := Lib.hid (Close_yes a.r a.m E n key path nonce text ver w h.ring hI.pos hn hs hkl hv hno hp ht)
 generalize envL key n nonce text ++ tagL key path ver (envL key n nonce text) = S at *
 have c0 := h.cell.c0
 clear h hI hn hs hv hno hp ht hkl
 go_enter Tryz.func16, Tryz.ntmps16
 go_wp2_with (first
  | (go_at_call 40; with_reducible refine G.out.mono ?_; rintro e w' ⟨rfl, rfl⟩)
  | (go_at_call 41; with_reducible refine GC.out.mono ?_; rintro e w1 ⟨rfl, hx1⟩))
 go_returns
 exact ⟨rfl, hx1⟩
set_option maxRecDepth 100000 in
theorem bar_Get_x (w0 w : World) (F : List (Nat × Obj)) (a : BA) (hd : List UInt8) (gs : GS) (E : Eps) (n : Nat) (root path s : List UInt8) (ver : Nat) (h : BarO w0 F a hd gs E n root w) (hI : RI E n)
  (hv : U64 ver) (hp : path.length ≤ 1048576) (ht : s.length ≤ 1099511627776) :
  Calls Tryz.prog 21 #[.pointer (some ⟨a.b, 0, none⟩), .string (bs path), .int .u64 (ver : Int), .string (bs s)] w fun e w' => e = .returned (.tuple #[.string (bs (openAny E path ver s).1), .int .i64 (openAny E path ver s).2]) ∧ Ext w w' := by
 have G := Lib.hid (bar_open h.cell)
 have GC := Lib.hid (Open_any a.r a.m E n path s ver w h.ring hI.pos ht hI.key hv hp)
 generalize openAny E path ver s = R at *
 have c0 := h.cell.c0
 clear h hI hv hp ht
 go_enter Tryz.func21, Tryz.ntmps21
 go_wp2_with (first
  | (go_at_call 40; with_reducible refine G.out.mono ?_; rintro e w' ⟨rfl, rfl⟩)
  | (go_at_call 37; with_reducible refine GC.out.mono ?_; rintro e w1 ⟨rfl, hx1⟩))
 go_returns
 exact ⟨rfl, hx1⟩
set_option maxRecDepth 100000 in
theorem bar_Epochs_x (w0 w : World) (F : List (Nat × Obj)) (a : BA) (hd : List UInt8) (gs : GS) (E : Eps) (n : Nat) (root : List UInt8) (h : BarO w0 F a hd gs E n root w) (hI : RI E n) :
  Calls Tryz.prog 19 #[.pointer (some ⟨a.b, 0, none⟩)] w (EpB (fun W => Ext w W) E) := by
 have G := Lib.hid (bar_open h.cell)
 have GE := Lib.hid (epochs_a w a.r a.m E n h.ring hI)
 have c0 := h.cell.c0
 clear h hI
 go_enter Tryz.func19, Tryz.ntmps19
 go_wp2_with (first
  | (go_at_call 40; with_reducible refine G.out.mono ?_; rintro e w' ⟨rfl, rfl⟩)
  | (go_at_call 43; (with_reducible refine GE.out.mono ?_); rintro e w1 ⟨g, cap, rfl, hc, _, hx⟩; have HC := Lib.hid hc; have HX := Lib.hid hx; clear hc hx))
 go_returns
 exact ⟨g, cap, rfl, HC.out, HX.out⟩
section
variable {w W W' : World} {F F' : List (Nat × Obj)} {A : BA} {ka key nonce : List UInt8} {n : Nat} {E : Eps} {T : List UInt8} {B : Nat}
end
section
variable {w W W' : World} {F : List (Nat × Obj)} {A : BA} {ka : List UInt8} {n g : Nat} {o : Obj} {E : Eps} {T : List UInt8} {B : Nat}
end
end Go.Proofs.YtclekllaikcglaaGreat
