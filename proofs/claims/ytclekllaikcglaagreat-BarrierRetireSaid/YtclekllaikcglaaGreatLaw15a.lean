/- Layer 15: nonce, works. -/
import Derived.Test.YtclekllaikcglaaGreatBarG
namespace Go.Proofs.YtclekllaikcglaaGreat
open Go Go.RowKit

set_option maxRecDepth 100000 in
theorem nonce15 (s : List UInt8) (w : World) (_hl : s.length ≤ 140737488351232) :
    Calls Tryz.prog 11 #[.string (bs s), .bool true] w fun e w' => e = .returned (.string (bs (padTo 12 s))) ∧ Ext w w' := by
  have hmk : ∀ w : World, (Instr.makeSlice 27 (.int .i64 12) (.int .i64 12)).run Tryz.prog w = .ok (.slice (some ⟨w.heap.size, 0, none⟩) 12 12) (w.alloc (.cells (bcells z12) 5)) := fun w => mk_bytes 12 (by omega) w
  have HSZ := Lib.hid (show splice z12 0 (s.take 12) = padTo 12 s from splice_zeros 12 s)
  go_enter Tryz.func11, Tryz.ntmps11
  go_wp2_with (refine wpl_copy_str rfl rfl und_bytes info_u8 rfl rfl (L := z12) (heap_alloc_new w _) (by rw [z12_length]; decide) ?_; intro w2 hb2 _ hbel; rw [HSZ.out] at hb2; have kc := fun c => to_str_of (c := c) hb2 (padTo_length 12 _); have hx2 : Ext w w2 := ((Ext.refl w).alloc _).trans_below hbel; clear hb2)
  go_returns
  exact ⟨rfl, hx2⟩
theorem look_one (key : List UInt8) : lookE [(1, key)] 1 = some key := by simp [lookE]
theorem one_cell {W : World} {g : Nat} {k : List UInt8} {c : Nat} (h : W.heap[g]? = some (.cells #[.string (bs k)] 9)) : Sl W (.slice (some ⟨g, 0, none⟩) 1 c) ([k].map strV) := by
  refine ⟨some ⟨g, 0, none⟩, c, by simp, fun i hi => ?_⟩
  obtain rfl : i = 0 := by simp at hi; omega
  exact ⟨g, 0, rfl, blk_lt h, cell_blk h rfl⟩
theorem hd_cons (root : List UInt8) (nb : Nat) (nonce : List UInt8) (E : Eps) : hdL root nb nonce E = b8 nb :: (envL root 1 nonce (bytesE E) ++ tagL root lblB nb (envL root 1 nonce (bytesE E))) := rfl
set_option maxRecDepth 100000 in
set_option maxHeartbeats 8000000 in
theorem works15 (w : World) : Calls Tryz.prog 7 #[] w fun e w' => e = .returned (.bool true) ∧ Ext w w' := by
  have GFr : Hid (∀ W, Calls Tryz.prog 9 #[.string { data := #[114] }] W fun e w' => e = .returned (.string (bs (padTo 32 [114]))) ∧ Ext W w') := Lib.hid fun W => full13 [114] W (by simp)
  have GFk : Hid (∀ W, Calls Tryz.prog 9 #[.string { data := #[107] }] W fun e w' => e = .returned (.string (bs (padTo 32 [107]))) ∧ Ext W w') := Lib.hid fun W => full13 [107] W (by simp)
  have GFx : Hid (∀ W, Calls Tryz.prog 9 #[.string { data := #[120] }] W fun e w' => e = .returned (.string (bs (padTo 32 [120]))) ∧ Ext W w') := Lib.hid fun W => full13 [120] W (by simp)
  have GNn : Hid (∀ W, Calls Tryz.prog 11 #[.string { data := #[110] }, .bool true] W fun e w' => e = .returned (.string (bs (padTo 12 [110]))) ∧ Ext W w') := Lib.hid fun W => nonce15 [110] W (by simp)
  have GNm : Hid (∀ W, Calls Tryz.prog 11 #[.string { data := #[109] }, .bool true] W fun e w' => e = .returned (.string (bs (padTo 12 [109]))) ∧ Ext W w') := Lib.hid fun W => nonce15 [109] W (by simp)
  have hr : (padTo 32 [114]).length = 32 := padTo_length 32 _
  have hk : (padTo 32 [107]).length = 32 := padTo_length 32 _
  have hx : (padTo 32 [120]).length = 32 := padTo_length 32 _
  have hn : (padTo 12 [110]).length = 12 := padTo_length 12 _
  have hm : (padTo 12 [109]).length = 12 := padTo_length 12 _
  generalize padTo 32 [114] = root at *
  generalize padTo 32 [107] = key at *
  generalize padTo 32 [120] = kx at *
  generalize padTo 12 [110] = nn at *
  generalize padTo 12 [109] = nm at *
  have hl1 : ∀ s ∈ [kx], s.length = 32 := by simp [hx]
  have hI := ri_one key hk
  have GNew := Lib.hid (bar_New_c w w [] (Ext.refl w) (by simp))
  have GBG : Hid (∀ (b bg bm : Nat) (W : World), BarC w [] b bg bm 0 0 [] [] W → ∀ (g c : Nat), W.heap[g]? = some (.cells #[.string (bs kx)] 9) → Calls Tryz.prog 10 #[.pointer (some ⟨b, 0, none⟩), .string (bs root), .string (bs key), .string (bs nn), .slice (some ⟨g, 0, none⟩) 1 c] W fun e w' =>
      ∃ (a : BA) (g cap : Nat) (o : Obj), a.b = b ∧ a.bg = bg ∧ a.bm = bm ∧ e = .returned (.tuple #[.slice (some ⟨g, 0, none⟩) 2 cap, .int .i64 0]) ∧ BarO w [(g, o)] a (b8 2 :: (envL root 1 nn (bytesE [(1, key)]) ++ tagL root lblB 2 (envL root 1 nn (bytesE [(1, key)])))) [] [(1, key)] 1 root w' ∧
        (∀ W : World, W.heap[g]? = some o → ∀ i (hi : i < (shsL root [kx]).length), W.cell? ⟨g, i, none⟩ = some (strV (shsL root [kx])[i]))) :=
    Lib.hid (fun b bg bm W h g c hv => bar_Begin w W [] b bg bm 0 root key nn [kx] (some ⟨g, 0, none⟩) c h hr hk hn (one_cell hv) (by simp) hl1)
  have hsl := shsL_length root [kx]
  have hU := shU_len root [kx] hr hl1
  have hUl : (shU root [kx]).length = 2 := shU_length root [kx]
  have hs0 : (shsL root [kx])[0]'(by rw [hsl]; simp) = shareB 1 2 ((shU root [kx]).getD 0 []) := shsL_at root [kx] 0 (by simp)
  have hs1 : (shsL root [kx])[1]'(by rw [hsl]; simp) = shareB 2 2 ((shU root [kx]).getD 1 []) := shsL_at root [kx] 1 (by simp)
  have f1 : Fit (b8 2) [] (gotJ 2 (shU root [kx]) [1]) (shareB 2 2 ((shU root [kx]).getD 1 [])) 2 ((shU root [kx]).getD 1 []) := fit_J (m := 2) (by omega) hUl hU [] (by simp) (by simp) 1 (by omega) (by simp)
  have f0 := fit_J (m := 2) (by omega) hUl hU [1] (by simp; omega) (by simp) 0 (by omega) (by simp)
  have q1 : secretS (gotJ 2 (shU root [kx]) [1]) = none := secret_less hU [1] (by simp; omega) (by simp)
  have q0 : secretS (gotJ 2 (shU root [kx]) ([1] ++ [0])) = some root := by
    rw [secret_full hUl (by omega) hU ([1] ++ [0]) (by decide), shU_secret root [kx] hr hl1]
  have ln0 : (shareB 1 2 ((shU root [kx]).getD 0 [])).length ≤ 1000 := by simp only [shareB, List.length_cons, getD_len hU 0 (by omega)]; omega
  have ln1 : (shareB 2 2 ((shU root [kx]).getD 1 [])).length ≤ 1000 := by simp only [shareB, List.length_cons, getD_len hU 1 (by omega)]; omega
  have ho := hd_open root nn 2 [(1, key)] 1 hI hn
  have hre := readE_bytes [(1, key)] 1 hI (pos_one key) (by omega)
  have hbl : (bytesE [(1, key)]).length ≤ 1000 := by rw [bytesE_length _ hI.key]; simp
  have htl : (envL root 1 nn (bytesE [(1, key)]) ++ tagL root lblB 2 (envL root 1 nn (bytesE [(1, key)]))).length ≤ 1000000 := by
    rw [List.length_append, envL_length _ _ _ _ hn, tagL_length]; omega
  have hb2 : (b8 2).toNat = 2 := rfl
  have ho2 : openAny [(1, root)] lblB (b8 2).toNat (envL root 1 nn (bytesE [(1, key)]) ++ tagL root lblB 2 (envL root 1 nn (bytesE [(1, key)]))) = (bytesE [(1, key)], 0) := by rw [hb2]; exact ho
  have GU1 := Lib.hid (fun F b bg bm c W (h : BarC w F b bg bm c 1 (b8 2 :: (envL root 1 nn (bytesE [(1, key)]) ++ tagL root lblB 2 (envL root 1 nn (bytesE [(1, key)])))) [] W) => bar_Unseal_more w W F b bg bm c (b8 2) _ _ _ _ _ _ h ln1 f1 q1)
  have GU0 := Lib.hid (fun F b bg bm c W (h : BarC w F b bg bm c 1 (b8 2 :: (envL root 1 nn (bytesE [(1, key)]) ++ tagL root lblB 2 (envL root 1 nn (bytesE [(1, key)])))) (gotJ 2 (shU root [kx]) [1]) W) => bar_Unseal_open w W F b bg bm c (b8 2) _ _ _ _ _ _ root _ _ h ln0 f0 q0 hr ho2 hre htl (by omega))
  have hen := ep_env key [97] nm [116, 101, 120, 116] 1 1 hm (by omega) (by simp)
  have hog := open_close key [97] nm [116, 101, 120, 116] 1 1 hm
  have hoa : openAny [(1, key)] [97] 1 (envL key 1 nm [116, 101, 120, 116] ++ tagL key [97] 1 (envL key 1 nm [116, 101, 120, 116])) = ([116, 101, 120, 116], 0) := by
    unfold openAny
    rw [hen]
    simp only [look_one]
    rw [hog]
    rfl
  have hSl : (envL key 1 nm [116, 101, 120, 116] ++ tagL key [97] 1 (envL key 1 nm [116, 101, 120, 116])).length ≤ 1000 := by rw [List.length_append, envL_length _ _ _ _ hm, tagL_length]; simp
  have GP : Hid (∀ F a hd gs W, BarO w F a hd gs [(1, key)] 1 root W → Calls Tryz.prog 16 #[.pointer (some ⟨a.b, 0, none⟩), .string { data := #[97] }, .int .u64 1, .string (bs nm), .string { data := #[116, 101, 120, 116] }] W fun e w' => e = .returned (.tuple #[.string (bs (envL key 1 nm [116, 101, 120, 116] ++ tagL key [97] 1 (envL key 1 nm [116, 101, 120, 116]))), .int .i64 0]) ∧ BarO w F a hd gs [(1, key)] 1 root w') :=
    Lib.hid (fun F a hd gs W h => bar_Put w W F a hd gs [(1, key)] 1 root key [97] nm [116, 101, 120, 116] 1 h hI (by omega) (look_one key) (by unfold U64; omega) hm (by simp) (by simp))
  have GG : Hid (∀ F a hd gs W, BarO w F a hd gs [(1, key)] 1 root W → Calls Tryz.prog 21 #[.pointer (some ⟨a.b, 0, none⟩), .string { data := #[97] }, .int .u64 1, .string (bs (envL key 1 nm [116, 101, 120, 116] ++ tagL key [97] 1 (envL key 1 nm [116, 101, 120, 116])))] W fun e w' => e = .returned (.tuple #[.string { data := #[116, 101, 120, 116] }, .int .i64 0]) ∧ BarO w F a hd gs [(1, key)] 1 root w') :=
    Lib.hid (fun F a hd gs W h => by
      have := bar_Get w W F a hd gs [(1, key)] 1 root [97] _ 1 h hI (by unfold U64; omega) (by simp) (Nat.le_trans hSl (by omega))
      rw [hoa] at this
      exact this)
  have GGN : Hid (∀ F b bg bm c hd gs s W, BarC w F b bg bm c 1 hd gs W → Calls Tryz.prog 21 #[.pointer (some ⟨b, 0, none⟩), .string { data := #[97] }, .int .u64 1, .string (bs s)] W fun e w' => e = .returned (.tuple #[.string { data := #[] }, .int .i64 150]) ∧ W = w') :=
    Lib.hid (fun F b bg bm c hd gs s W h => bar_Get_no w W F b bg bm c 1 hd gs [97] s 1 h (by omega))
  have GSL := Lib.hid (fun F a hd W (h : BarO w F a hd [] [(1, key)] 1 root W) => bar_Seal w W F a hd [] [(1, key)] 1 root h)
  generalize envL root 1 nn (bytesE [(1, key)]) ++ tagL root lblB 2 (envL root 1 nn (bytesE [(1, key)])) = T at *
  generalize envL key 1 nm [116, 101, 120, 116] ++ tagL key [97] 1 (envL key 1 nm [116, 101, 120, 116]) = S at *
  generalize shareB 1 2 ((shU root [kx]).getD 0 []) = sh0 at *
  generalize shareB 2 2 ((shU root [kx]).getD 1 []) = sh1 at *
  generalize gotJ 2 (shU root [kx]) [1] = gs1 at *
  generalize shsL root [kx] = SH at *
  have HSH := Lib.hid (show ∃ h0 : 0 < SH.length, ∃ h1 : 1 < SH.length, SH[0] = sh0 ∧ SH[1] = sh1 from ⟨by rw [hsl]; simp, by rw [hsl]; simp, hs0, hs1⟩)
  clear hr hk hx hn hm hl1 hI hsl hU hUl hs0 hs1 f1 f0 q1 q0 ln0 ln1 ho hre hbl htl hb2 ho2 hen hog hoa hSl
  go_enter Tryz.func7, Tryz.ntmps7
  go_upto_region 3 with (first
    | (go_at_call 8; (with_reducible refine (GNew.out).mono ?_); rintro e w1 ⟨b, bg, bm, rfl, h1, _, _, _, _⟩; have HC := Lib.hid h1; clear h1)
    | (go_at_call 9; (with_reducible refine (GFr.out _).mono ?_); rintro e w2 ⟨rfl, hx1⟩; have h1 := HC.out.next hx1; clear HC hx1; have HC := Lib.hid h1; clear h1)
    | (go_at_call 9; (with_reducible refine (GFk.out _).mono ?_); rintro e w2 ⟨rfl, hx1⟩; have h1 := HC.out.next hx1; clear HC hx1; have HC := Lib.hid h1; clear h1)
    | (go_at_call 9; (with_reducible refine (GFx.out _).mono ?_); rintro e w2 ⟨rfl, hx1⟩; have h1 := HC.out.next hx1; clear HC hx1; have HC := Lib.hid h1; clear h1)
    | (go_at_call 11; (with_reducible refine (GNn.out _).mono ?_); rintro e w2 ⟨rfl, hx1⟩; have h1 := HC.out.next hx1; clear HC hx1; have HC := Lib.hid h1; clear h1)
    | (go_at_call 10; (with_reducible refine (GBG.out b bg bm _ (HC.out.next ((Ext.refl _).alloc _)) _ _ (heap_alloc_new _ _)).mono ?_); rintro e w3 ⟨a, g, cap, o, ha1, ha2, ha3, rfl, h3, hcell⟩; subst ha1; subst ha2; subst ha3; clear HC; have HO := Lib.hid h3; have HCL := Lib.hid hcell; clear h3 hcell))
  go_upto_region 7 with (first
    | (go_at_call 11; (with_reducible refine (GNm.out _).mono ?_); rintro e w2 ⟨rfl, hx1⟩; have h1 := HO.out.next hx1; clear HO hx1; have HO := Lib.hid h1; clear h1)
    | (go_at_call 16; (with_reducible refine (GP.out _ a _ _ _ HO.out).mono ?_); rintro e w4 ⟨rfl, h1⟩; clear HO; have HO := Lib.hid h1; clear h1)
    | (go_at_call 12; (with_reducible refine (GSL.out _ a _ _ HO.out).mono ?_); rintro e w5 ⟨rfl, h1⟩; clear HO; have HC := Lib.hid h1; clear h1)
    | (go_at_call 21; (with_reducible refine (GGN.out _ _ _ _ _ _ _ _ _ HC.out).mono ?_); rintro e w' ⟨rfl, rfl⟩))
  obtain ⟨q0, q1, e0, e1⟩ := HSH.out
  have c1 := HCL.out _ (HC.out.keep (g, o) (by simp)) 1 q1
  rw [e1] at c1
  change _ = some (Value.string (bs sh1)) at c1
  clear GNew GBG GFr GFk GFx GNn GNm GP GSL GGN
  go_upto_region 8 with (go_at_call 13; (with_reducible refine (GU1.out _ _ _ _ _ _ HC.out).mono ?_); rintro e w6 ⟨rfl, h1⟩; clear HC; have HC := Lib.hid h1; clear h1)
  clear c1
  have c0 := HCL.out _ (HC.out.keep (g, o) (by simp)) 0 q0
  rw [e0] at c0
  change _ = some (Value.string (bs sh0)) at c0
  have GST : Hid (∀ (F : List (Nat × Obj)) (a : BA) W, BarO w F a (b8 2 :: T) [] [(1, key)] 1 root W → Calls Tryz.prog 15 #[.pointer (some ⟨a.b, 0, none⟩)] W fun e w' => e = .returned (.int .u8 2) ∧ W = w') := Lib.hid fun F a W h => bar_State h.cell
  go_upto_region 9 with (go_at_call 13; (with_reducible refine (GU0.out _ _ _ _ _ _ HC.out).mono ?_); rintro e w7 ⟨rfl, a2, x1, _, _, h9⟩; have HO : Hid (BarO w [(g, o)] a2 (b8 2 :: T) [] [(1, key)] 1 root w7) := Lib.hid h9; clear h9)
  have GG9 := Lib.hid (fun W (h : BarO w [(g, o)] a2 (b8 2 :: T) [] [(1, key)] 1 root W) => GG.out _ a2 _ _ W h)
  have GST9 := Lib.hid (fun W (h : BarO w [(g, o)] a2 (b8 2 :: T) [] [(1, key)] 1 root W) => GST.out _ a2 W h)
  rw [x1] at GG9 GST9
  clear c0 GG GST
  go_wp2_with (first
    | (go_at_call 21; (with_reducible refine (GG9.out _ HO.out).mono ?_); rintro e w8 ⟨rfl, h1⟩; clear HO; have HO := Lib.hid h1; clear h1)
    | (go_at_call 15; (with_reducible refine (GST9.out _ HO.out).mono ?_); rintro e w' ⟨rfl, rfl⟩))
  go_returns
  exact ⟨by simp, HO.out.ext⟩
end Go.Proofs.YtclekllaikcglaaGreat
namespace Go.Proofs.YtclekllaikcglaaGreat
open Go Go.RowKit

/-- The barrier while shares come. -/
def ComeS (w : World) (xb bg bm : Nat) (hd : List UInt8) (N : Nat) (U : List (List UInt8)) (E : Eps) (ka : List UInt8) (J left : List Nat) (W : World) : Prop :=
  (left = [] → ∃ A : BA, A.b = xb ∧ BarO w [] A hd [] E (lastE E) ka W) ∧ (left ≠ [] → ∃ c, BarC w [] xb bg bm c 1 hd (gotJ N U J) W)
theorem grown_but {w w' : World} {g : Nat} (h : w.grownBy w' (some g)) : But [g] w w' :=
  ⟨h.os, h.tape, h.output, h.size, fun k hk hn => h.block k hk (by intro e; injection e with e; exact hn (by simp [e]))⟩
theorem erase_len {α : Type} (l : List α) (k : Nat) (hk : k < l.length) : (l.eraseIdx k).length = l.length - 1 := List.length_eraseIdx_of_lt hk
theorem come_next (w W W' : World) (xb bg bm B g : Nat) (hd : List UInt8) (N : Nat) (U : List (List UInt8)) (E : Eps) (ka : List UInt8) (J left : List Nat) (j k : Nat) (hk : k < left.length) (hB : w.heap.size ≤ B) (hg : B ≤ g) (hlo : xb < B ∧ bg < B ∧ bm < B)
    (h1 : left.length = 1 → ∃ A : BA, A.b = xb ∧ g ∉ A.all ∧ BarO w [] A hd [] E (lastE E) ka W) (h2 : left.length ≠ 1 → ∃ c, BarC w [] xb bg bm c 1 hd (gotJ N U (J ++ [j])) W) (hgr : W.grownBy W' (some g)) :
    ComeS w xb bg bm hd N U E ka (J ++ [j]) (left.eraseIdx k) W' := by
  have hl := erase_len left k hk
  refine ⟨fun h => ?_, fun h => ?_⟩
  · rw [h] at hl
    obtain ⟨A, hA, hn, hO⟩ := h1 (by simp at hl; omega)
    exact ⟨A, hA, hO.turn [g] (grown_but hgr) (by simp; omega) (by simpa using hn) (by simp) (by simp)⟩
  · obtain ⟨c, hC⟩ := h2 (by intro e; rw [e] at hl; exact h (List.length_eq_zero_iff.1 hl))
    exact ⟨c, hC.turn [g] (grown_but hgr) (by simp; omega) (by simp; omega) (by simp) (by simp)⟩
theorem perm_next (J left : List Nat) (k : Nat) (hk : k < left.length) : ((J ++ [left[k]]) ++ left.eraseIdx k).Perm (J ++ left) := by
  rw [List.append_assoc]
  refine List.Perm.append_left J ?_
  rw [List.eraseIdx_eq_take_drop_succ]
  refine (List.perm_middle (l₁ := List.take k left) (l₂ := List.drop (k + 1) left)).symm.trans ?_
  rw [← List.drop_eq_getElem_cons hk, List.take_append_drop]
theorem nonce_two : ∃ nn : List UInt8, nn.length = 12 ∧ ∀ W, Calls Tryz.prog 11 #[.string { data := #[50] }, .bool true] W fun e w' => e = .returned (.string (bs nn)) ∧ Ext W w' :=
  ⟨padTo 12 [50], padTo_length 12 _, fun W => nonce15 [50] W (by simp)⟩
/-- What was closed by a key that is there is opened. -/
theorem any_there {E : Eps} {n ver : Nat} {key path nonce text : List UInt8} (hl : lookE E n = some key) (hno : nonce.length = 12) (hn : n < 4294967296) (ht : text.length ≤ 1048576) :
    openAny E path ver (envL key n nonce text ++ tagL key path ver (envL key n nonce text)) = (text, 0) := by
  unfold openAny
  rw [ep_env key path nonce text n ver hno hn ht]
  simp only [hl]
  rw [open_close key path nonce text n ver hno]
  rfl
theorem map_erase {α β : Type} (f : α → β) (l : List α) (k : Nat) : (l.map f).take k ++ (l.map f).drop (k + 1) = (l.eraseIdx k).map f := by
  rw [List.eraseIdx_eq_take_drop_succ]; simp [List.map_take, List.map_drop]
/-- Behind Unseal of a share that stands in the slice. -/
structure UnS (w : World) (B xb bg bm : Nat) (hd : List UInt8) (N : Nat) (U : List (List UInt8)) (E : Eps) (ka : List UInt8) (J left : List Nat) (j gl cl : Nat) (w' : World) : Prop where
  lo : B ≤ gl
  row : Row w' B 9 (.slice (some ⟨gl, 0, none⟩) left.length cl) (left.map fun j => strV (shJ N U j))
  one : left.length = 1 → ∃ A : BA, A.b = xb ∧ gl ∉ A.all ∧ BarO w [] A hd [] E (lastE E) ka w'
  more : left.length ≠ 1 → ∃ c, BarC w [] xb bg bm c 1 hd (gotJ N U (J ++ [j])) w'
theorem unq_s {w : World} {B xb bg bm : Nat} {hd : List UInt8} {N : Nat} {U : List (List UInt8)} {E : Eps} {ka : List UInt8} {J left : List Nat} {j gl q cl : Nat} {e : Ending} {w' : World} (h : UnQ w B xb bg bm hd N U E ka J left j (.slice (some ⟨gl, 0, none⟩) q cl) e w') :
    e = .returned (.tuple #[.bool (decide (left.length = 1)), .int .i64 0]) ∧ UnS w B xb bg bm hd N U E ka J left j gl cl w' := by
  obtain ⟨he, g, cap, hv, h1, h2, h3, h4⟩ := h
  injection hv with hv1 hv2 hv3
  injection hv1 with hv1
  injection hv1 with hv1
  subst hv1 hv2 hv3
  exact ⟨he, h1, h2, h3, h4⟩
theorem UnS.size {w : World} {B xb bg bm : Nat} {hd : List UInt8} {N : Nat} {U : List (List UInt8)} {E : Eps} {ka : List UInt8} {J left : List Nat} {j gl cl : Nat} {w' : World} (h : UnS w B xb bg bm hd N U E ka J left j gl cl w') (hl : left ≠ []) : B ≤ w'.heap.size ∧ left.length ≤ cl := by
  rcases h.row.look with ⟨_, h1⟩ | ⟨g, cap, cur, hv, hg, hh, hcap, _⟩
  · exact absurd (List.map_eq_nil_iff.1 h1) hl
  · have := blk_lt hh
    rw [List.length_map] at hcap
    injection hv with hv1 hv2 hv3
    omega
theorem slice_look {w : World} {B q : Nat} {e : TypeId} {v : Value} {xs : List Value} (h : Row w B e v xs) (hq : xs.length = q) : ∃ al cl, v = .slice al q cl := by
  obtain ⟨al, cl, hv⟩ := (Row.sl h).look
  exact ⟨al, cl, by rw [hv, hq]⟩
end Go.Proofs.YtclekllaikcglaaGreat
namespace Go.Proofs.YtclekllaikcglaaGreat
open Go Go.RowKit

theorem PG.below15 {B : Nat} {w w' : World} {bg bm c : Nat} {l : GS} (h : PG w bg bm c l) (hb : Below B w w') (h1 : bg < B) (h2 : bm < B) : PG w' bg bm c l := by
  obtain ⟨hn, n, size, k1, k2, k3, k4, k5⟩ := h
  exact ⟨hn, n, size, k1, k2, by rw [hb.block bg h1]; exact k3, by rw [hb.block bm h2]; exact k4, k5⟩
theorem BarO.below {w0 w w' : World} {B : Nat} {F F' : List (Nat × Obj)} {a : BA} {hd : List UInt8} {gs : GS} {E : Eps} {n : Nat} {root : List UInt8} (h : BarO w0 F a hd gs E n root w) (hb : Below B w w') (hB : ∀ x ∈ a.all, x < B) (h0 : w0.heap.size ≤ B)
    (hk : ∀ x ∈ F', w'.heap[x.1]? = some x.2) (ho : ∀ x ∈ F', x.1 ∉ a.all) : BarO w0 F' a hd gs E n root w' := by
  have lt : ∀ x ∈ a.all, w'.heap[x]? = w.heap[x]? := fun x hx => hb.block x (hB x hx)
  exact ⟨h.ext.trans_below hb h0, (lt a.b (by simp [BA.all])).trans h.cell, h.ring.keep (lt _ (by simp [BA.all])) (lt _ (by simp [BA.all])), h.top.keep (lt _ (by simp [BA.all])) (lt _ (by simp [BA.all])),
    h.got.below15 hb (hB _ (by simp [BA.all])) (hB _ (by simp [BA.all])), h.lo, h.nd, hk, ho⟩
/-- The blocks in which a row lies. -/
theorem row_hold {W : World} {B : Nat} {e : TypeId} {v : Value} {xs : List Value} (h : Row W B e v xs) :
    ∃ F : List (Nat × Obj), (∀ x ∈ F, W.heap[x.1]? = some x.2) ∧ (∀ x ∈ F, B ≤ x.1) ∧ ∀ W' : World, (∀ x ∈ F, W'.heap[x.1]? = some x.2) → Row W' B e v xs := by
  obtain ⟨r1, r2⟩ := h
  rcases r2 with r2 | ⟨g, cap, cur, hv, hg, hh, r⟩
  · exact ⟨[], by simp, by simp, fun W' _ => ⟨r1, .inl r2⟩⟩
  · exact ⟨[(g, _)], by simpa using hh, by simpa using hg, fun W' h' => ⟨r1, .inr ⟨g, cap, cur, hv, hg, h' (g, _) (by simp), r⟩⟩⟩
theorem info_bool : (Tryz.prog.info? 4).map (fun i => (i.zero, i.size, i.bytes)) = some (some (.bool false), 1, 1) := by kernel_rfl
theorem und_bools : Tryz.prog.underlying 51 = some (.slice 4) := by kernel_rfl
def blC (l : List Bool) : Array Value := (l.map Value.bool).toArray
theorem blC_at (l : List Bool) (i : Nat) (h : i < l.length) : (blC l)[i]? = some (.bool l[i]) := by simp [blC, h]
theorem blC_set (l : List Bool) (i : Nat) (x : Bool) : (blC l).setIfInBounds i (.bool x) = blC (l.set i x) := by simp [blC, List.map_set]
theorem mk_bools (c : Nat) (hc : c ≤ 1000) (w : World) :
    (Instr.makeSlice 51 (.int .i64 c) (.int .i64 c)).run Tryz.prog w = .ok (.slice (some ⟨w.heap.size, 0, none⟩) c c) (w.alloc (.cells (blC (List.replicate c false)) 4)) := by
  obtain ⟨i0, hi, hz0, hz1, hz2⟩ := info_parts info_bool
  have := run_make (P := Tryz.prog) w _ _ i0 (.bool false) und_bools hi hz0 .i64 .i64 c c (by omega) (by omega) (by rw [hz2]; omega) (by omega)
  rw [this]
  refine congrArg (fun x => Result.ok (Value.slice (some ⟨w.heap.size, 0, none⟩) c c) (w.alloc (.cells x 4))) ?_
  simp [blC, madeCells, hz1, Value.cells]
  apply Array.ext <;> simp
  intro i _; rw [Nat.mod_one]; rfl
set_option maxRecDepth 100000 in
theorem bar_Put_x (w0 w : World) (F : List (Nat × Obj)) (a : BA) (hd : List UInt8) (gs : GS) (E : Eps) (n : Nat) (root key path nonce text : List UInt8) (ver : Nat) (h : BarO w0 F a hd gs E n root w) (hI : RI E n) (hn : n < 4294967296) (hs : lookE E n = some key)
    (hv : U64 ver) (hno : nonce.length = 12) (hp : path.length ≤ 1048576) (ht : text.length ≤ 1048576) :
    Calls Tryz.prog 16 #[.pointer (some ⟨a.b, 0, none⟩), .string (bs path), .int .u64 (ver : Int), .string (bs nonce), .string (bs text)] w fun e w' => e = .returned (.tuple #[.string (bs (envL key n nonce text ++ tagL key path ver (envL key n nonce text))), .int .i64 0]) ∧ Ext w w' := by
  have G := Lib.hid (bar_open h.cell)
  have hkl : key.length ≤ 1099511627776 := by have := look_key hI.key hs; omega
  have GC := Lib.hid (Close_yes a.r a.m E n key path nonce text ver w h.ring hI.pos hn hs hkl hv hno hp ht)
  generalize envL key n nonce text ++ tagL key path ver (envL key n nonce text) = S at *
  have c0 := h.cell.c0
  clear h hI hn hs hv hno hp ht hkl
  go_enter Tryz.func16, Tryz.ntmps16
  go_wp2_with (first
    | (go_at_call 40; with_reducible refine G.out.mono ?_; rintro e w' ⟨rfl, rfl⟩)
    | (go_at_call 41; with_reducible refine GC.out.mono ?_; rintro e w1 ⟨rfl, hx1⟩))
  go_returns
  exact ⟨rfl, hx1⟩
set_option maxRecDepth 100000 in
theorem bar_Get_x (w0 w : World) (F : List (Nat × Obj)) (a : BA) (hd : List UInt8) (gs : GS) (E : Eps) (n : Nat) (root path s : List UInt8) (ver : Nat) (h : BarO w0 F a hd gs E n root w) (hI : RI E n)
    (hv : U64 ver) (hp : path.length ≤ 1048576) (ht : s.length ≤ 1099511627776) :
    Calls Tryz.prog 21 #[.pointer (some ⟨a.b, 0, none⟩), .string (bs path), .int .u64 (ver : Int), .string (bs s)] w fun e w' => e = .returned (.tuple #[.string (bs (openAny E path ver s).1), .int .i64 (openAny E path ver s).2]) ∧ Ext w w' := by
  have G := Lib.hid (bar_open h.cell)
  have GC := Lib.hid (Open_any a.r a.m E n path s ver w h.ring hI.pos ht hI.key hv hp)
  generalize openAny E path ver s = R at *
  have c0 := h.cell.c0
  clear h hI hv hp ht
  go_enter Tryz.func21, Tryz.ntmps21
  go_wp2_with (first
    | (go_at_call 40; with_reducible refine G.out.mono ?_; rintro e w' ⟨rfl, rfl⟩)
    | (go_at_call 37; with_reducible refine GC.out.mono ?_; rintro e w1 ⟨rfl, hx1⟩))
  go_returns
  exact ⟨rfl, hx1⟩
set_option maxRecDepth 100000 in
theorem bar_Epochs_x (w0 w : World) (F : List (Nat × Obj)) (a : BA) (hd : List UInt8) (gs : GS) (E : Eps) (n : Nat) (root : List UInt8) (h : BarO w0 F a hd gs E n root w) (hI : RI E n) :
    Calls Tryz.prog 19 #[.pointer (some ⟨a.b, 0, none⟩)] w (EpB (fun W => Ext w W) E) := by
  have G := Lib.hid (bar_open h.cell)
  have GE := Lib.hid (epochs_a w a.r a.m E n h.ring hI)
  have c0 := h.cell.c0
  clear h hI
  go_enter Tryz.func19, Tryz.ntmps19
  go_wp2_with (first
    | (go_at_call 40; with_reducible refine G.out.mono ?_; rintro e w' ⟨rfl, rfl⟩)
    | (go_at_call 43; (with_reducible refine GE.out.mono ?_); rintro e w1 ⟨g, cap, rfl, hc, _, hx⟩; have HC := Lib.hid hc; have HX := Lib.hid hx; clear hc hx))
  go_returns
  exact ⟨g, cap, rfl, HC.out, HX.out⟩
/-- A header (without its first byte) of that ring. -/
structure HdOk (root : List UInt8) (nb : Nat) (E : Eps) (T : List UInt8) : Prop where
  op : openAny [(1, root)] lblB nb T = (bytesE E, 0)
  len : T.length ≤ 1000000
  ep : epR T = (1, 0)
theorem hd_ok (root nonce : List UInt8) (nb : Nat) (E : Eps) (n : Nat) (hI : RI E n) (hno : nonce.length = 12) : HdOk root nb E (envL root 1 nonce (bytesE E) ++ tagL root lblB nb (envL root 1 nonce (bytesE E))) := by
  have hbl : (bytesE E).length ≤ 10000 := by rw [bytesE_length E hI.key]; have := hI.len; omega
  exact ⟨hd_open root nonce nb E n hI hno, by rw [List.length_append, envL_length _ _ _ _ hno, tagL_length]; omega, ep_env root lblB nonce (bytesE E) 1 nb hno (by omega) (by omega)⟩
/-- A barrier that is open, its header in order; F is the law's own. -/
structure OS (w : World) (F : List (Nat × Obj)) (A : BA) (ka : List UInt8) (n : Nat) (E : Eps) (T : List UInt8) (W : World) : Prop where
  bar : BarO w F A (b8 1 :: T) [] E n ka W
  ok : HdOk ka 1 E T
  ri : RI E n
  pos : PosE E
section
variable {w W W' : World} {F F' : List (Nat × Obj)} {A : BA} {ka key nonce : List UInt8} {n : Nat} {E : Eps} {T : List UInt8} {B : Nat}
theorem OS.next (h : OS w F A ka n E T W) (hx : Ext W W') : OS w F A ka n E T W' := ⟨h.bar.next hx, h.ok, h.ri, h.pos⟩
theorem OS.below (h : OS w F A ka n E T W) (hb : Below B W W') (hB : ∀ x ∈ A.all, x < B) (h0 : w.heap.size ≤ B) (hk : ∀ x ∈ F', W'.heap[x.1]? = some x.2) (ho : ∀ x ∈ F', x.1 ∉ A.all) : OS w F' A ka n E T W' :=
  ⟨h.bar.below hb hB h0 hk ho, h.ok, h.ri, h.pos⟩
theorem OS.rot (h : OS w F A ka n E T W) (hl : E.length < 64) (hn : n < 100000) (hr : ka.length = 32) (hk : key.length = 32) (hno : nonce.length = 12) :
    Calls Tryz.prog 20 #[.pointer (some ⟨A.b, 0, none⟩), .string (bs key), .string (bs nonce)] W fun e w' => e = .returned (.tuple #[.int .u32 ((n + 1 : Nat) : Int), .int .i64 0]) ∧ ∃ T', OS w F A ka (n + 1) (E ++ [(n + 1, key)]) T' w' := by
  have hI2 := h.ri.rot (key := key) (by omega) hk
  refine (bar_Rotate w W F A (b8 1) T [] E n ka key nonce h.bar h.ri hl (by omega) hr hk hno).mono ?_
  rintro e w' ⟨rfl, h2⟩
  exact ⟨rfl, _, h2, hd_ok ka nonce 1 _ (n + 1) hI2 hno, hI2, h.pos.rot n key⟩
theorem OS.ret (h : OS w F A ka n E T W) (hn : n < 100000) (hr : ka.length = 32) (hno : nonce.length = 12) {ep : Nat} (he : ep ≠ n) {s : List UInt8} (hs : lookE E ep = some s) :
    Calls Tryz.prog 22 #[.pointer (some ⟨A.b, 0, none⟩), .int .u32 (ep : Int), .string (bs nonce)] W fun e w' => e = .returned (.int .i64 0) ∧ ∃ T', OS w F A ka n (goneE E ep) T' w' := by
  refine (bar_Retire w W F A (b8 1) T [] E n ep ka nonce h.bar h.ri (by omega) hr hno he hs).mono ?_
  rintro e w' ⟨rfl, h2⟩
  exact ⟨rfl, _, h2, hd_ok ka nonce 1 _ n (h.ri.gone he) hno, h.ri.gone he, h.pos.gone ep⟩
end
/-- What was put at version j by the key of epoch j + 1. -/
def sealW (key : List UInt8) (j : Nat) (nn text : List UInt8) : List UInt8 := envL key (j + 1) nn text ++ tagL key [112] j (envL key (j + 1) nn text)
theorem sealW_len (key : List UInt8) (j : Nat) (nn text : List UInt8) (hn : nn.length = 12) (ht : text.length ≤ 1000) : (sealW key j nn text).length ≤ 10000 := by
  unfold sealW; rw [List.length_append, envL_length _ _ _ _ hn, tagL_length]; omega
/-- The puts of a ring's epochs, in order. -/
def PutsOk (E : Eps) (nn text : List UInt8) (PS : List (List UInt8)) : Prop := ∀ j (hj : j < PS.length), ∃ key, lookE E (j + 1) = some key ∧ PS[j] = sealW key j nn text
theorem PutsOk.rot {E : Eps} {nn text : List UInt8} {PS : List (List UInt8)} (h : PutsOk E nn text PS) (F : Eps) : PutsOk (E ++ F) nn text PS := fun j hj => by
  obtain ⟨key, h1, h2⟩ := h j hj
  exact ⟨key, lookE_left h1, h2⟩
theorem PutsOk.put {E : Eps} {nn text : List UInt8} {PS : List (List UInt8)} (h : PutsOk E nn text PS) {key : List UInt8} (hk : lookE E (PS.length + 1) = some key) : PutsOk E nn text (PS ++ [sealW key PS.length nn text]) := fun j hj => by
  by_cases hlt : j < PS.length
  · obtain ⟨k, h1, h2⟩ := h j hlt
    exact ⟨k, h1, by rw [List.getElem_append_left hlt]; exact h2⟩
  · obtain rfl : j = PS.length := by rw [List.length_append] at hj; simp at hj; omega
    exact ⟨key, hk, by simp⟩
/-- Which of a ring's epochs there are yet. -/
def Ths (E0 E : Eps) (tb : List Bool) : Prop := ∀ j (hj : j < tb.length), lookE E (j + 1) = if tb[j] then lookE E0 (j + 1) else none
theorem ths_all (E : Eps) (m : Nat) : Ths E E (List.replicate m true) := fun j hj => by simp
theorem Ths.gone {E0 E : Eps} {tb : List Bool} (h : Ths E0 E tb) (ha : AscE E) (k : Nat) : Ths E0 (goneE E (k + 1)) (tb.set k false) := fun j hj => by
  rw [List.length_set] at hj
  by_cases hjk : j = k
  · subst hjk
    rw [lookE_gone_self ha]; simp
  · rw [lookE_gone_ne _ _ _ (by omega), h j hj, List.getElem_set_ne (by omega)]
/-- What the law reads, of a put. -/
theorem get_put {E0 E : Eps} {tb : List Bool} {nn text : List UInt8} {PS : List (List UInt8)} (h : PutsOk E0 nn text PS) (ht : Ths E0 E tb) (hl : tb.length = PS.length) (j : Nat) (hj : j < PS.length) (hn : nn.length = 12) (hx : text.length ≤ 1000) (hm : PS.length ≤ 1000) :
    openAny E [112] j PS[j] = if tb[j]'(by omega) then (text, 0) else ([], 140) := by
  obtain ⟨key, h1, h2⟩ := h j hj
  have h3 := ht j (by omega)
  rw [h2]
  unfold sealW
  cases htb : tb[j]'(by omega)
  · rw [htb] at h3
    unfold openAny
    rw [ep_env key [112] nn text (j + 1) j hn (by omega) (by omega)]
    simp only [h3]
    rfl
  · rw [htb] at h3
    rw [any_there (h3.trans h1) hn (by omega) (by omega)]
    rfl
theorem BarO.lt {w0 w : World} {F : List (Nat × Obj)} {a : BA} {hd : List UInt8} {gs : GS} {E : Eps} {n : Nat} {root : List UInt8} (h : BarO w0 F a hd gs E n root w) : ∀ x ∈ a.all, x < w.heap.size := by
  intro x hx
  have h1 := blk_lt h.cell
  obtain ⟨h2, h3⟩ := h.ring.lt
  obtain ⟨h4, h5⟩ := h.top.lt
  obtain ⟨_, n1, s1, _, _, k3, k4, _⟩ := h.got
  have h6 := blk_lt k3
  have h7 := blk_lt k4
  simp only [BA.all, List.mem_cons, List.not_mem_nil, or_false] at hx
  omega
section
variable {w W W' : World} {F : List (Nat × Obj)} {A : BA} {ka : List UInt8} {n g : Nat} {o : Obj} {E : Eps} {T : List UInt8} {B : Nat}
theorem OS.app (h : OS w ((g, o) :: F) A ka n E T W) (hB : ∀ x ∈ A.all, x < B) (hg : g < B) (h0 : w.heap.size ≤ B) (hb : Below B W W') {v : Value} {e : TypeId} {xs : List Value} (hr : Row W' B e v xs) :
    ∃ F', OS w ((g, o) :: F') A ka n E T W' ∧ (∀ x ∈ F', B ≤ x.1) ∧ ∀ W'' : World, (∀ x ∈ F', W''.heap[x.1]? = some x.2) → Row W'' B e v xs := by
  obtain ⟨F', h1, h2, h3⟩ := row_hold hr
  refine ⟨F', h.below hb hB h0 (fun x hx => ?_) (fun x hx hm => ?_), h2, h3⟩
  · rcases List.mem_cons.1 hx with rfl | hx
    · exact (hb.block g hg).trans (h.bar.keep (g, o) (by simp))
    · exact h1 x hx
  · rcases List.mem_cons.1 hx with rfl | hx
    · exact h.bar.off (g, o) (by simp) hm
    · have := h2 x hx; have := hB x.1 hm; omega
theorem OS.more (h : OS w ((g, o) :: F) A ka n E T W) (o' : Obj) (hB : ∀ x ∈ A.all, x < B) (hs : B ≤ W.heap.size) : OS w ((g, o) :: (W.heap.size, o') :: F) A ka n E T (W.alloc o') := by
  have hx := (Ext.refl W).alloc o'
  refine ⟨⟨h.bar.ext.trans hx, hx.keep h.bar.cell, h.bar.ring.ext hx, h.bar.top.ext hx, h.bar.got.ext hx, h.bar.lo, h.bar.nd, fun x hm => ?_, fun x hm hm2 => ?_⟩, h.ok, h.ri, h.pos⟩
  · rcases List.mem_cons.1 hm with rfl | hm
    · exact hx.keep (h.bar.keep (g, o) (by simp))
    · rcases List.mem_cons.1 hm with rfl | hm
      · exact heap_alloc_new _ _
      · exact hx.keep (h.bar.keep x (by simp [hm]))
  · rcases List.mem_cons.1 hm with rfl | hm
    · exact h.bar.off (g, o) (by simp) hm2
    · rcases List.mem_cons.1 hm with rfl | hm
      · have := hB _ hm2; dsimp only at this; omega
      · exact h.bar.off x (by simp [hm]) hm2
theorem OS.store {gt i : Nat} {cs : Array Value} {t : TypeId} {v : Value} (h : OS w ((g, o) :: (gt, .cells cs t) :: F) A ka n E T W) (hB : ∀ x ∈ A.all, x < B) (h0 : w.heap.size ≤ B) (hgt : B ≤ gt) (hg : g < B) (hF : ∀ x ∈ F, x.1 ≠ gt) :
    OS w ((g, o) :: (gt, .cells (cs.setIfInBounds i v) t) :: F) A ka n E T (W.setCell ⟨gt, i, none⟩ v) := by
  have hb : Below B W (W.setCell ⟨gt, i, none⟩ v) := (Below.refl B W).setCell hgt v
  refine h.below hb hB h0 (fun x hx => ?_) (fun x hx hm => ?_)
  · rcases List.mem_cons.1 hx with rfl | hx
    · exact (hb.block g hg).trans (h.bar.keep (g, o) (by simp))
    · rcases List.mem_cons.1 hx with rfl | hx
      · exact heap_setCell_same v (h.bar.keep (gt, .cells cs t) (by simp))
      · rw [heap_setCell_other _ _ _ (hF x hx)]
        exact h.bar.keep x (by simp [hx])
  · rcases List.mem_cons.1 hx with rfl | hx
    · exact h.bar.off (g, o) (by simp) hm
    · rcases List.mem_cons.1 hx with rfl | hx
      · have := hB _ hm; dsimp only at this; omega
      · exact h.bar.off x (by simp [hx]) hm
end
/-- The one share of a root that is not split. -/
def shO (ka : List UInt8) : List UInt8 := shareB 1 1 ((shU ka []).getD 0 [])
theorem shO_at (ka : List UInt8) (h : 0 < (shsL ka []).length) : (shsL ka [])[0] = shO ka := shsL_at ka [] 0 (by simp)
theorem unseal_one (wy W : World) (b bg bm c : Nat) (ka T : List UInt8) (E : Eps) (n : Nat) (hka : ka.length = 32) (h : BarC wy [] b bg bm c 1 (b8 1 :: T) [] W) (hok : HdOk ka 1 E T) (hI : RI E n) (hp : PosE E) (hn : n < 100000) :
    Calls Tryz.prog 13 #[.pointer (some ⟨b, 0, none⟩), .string (bs (shO ka))] W fun e w' => e = .returned (.tuple #[.bool true, .int .i64 0]) ∧ ∃ A : BA, A.b = b ∧ BarO wy [] A (b8 1 :: T) [] E n ka w' := by
  have hU := shU_len ka [] hka (by simp)
  have hUl : (shU ka []).length = 1 := shU_length ka []
  have f0 := fit_J (m := 1) (by omega) hUl hU [] (by simp) (by simp) 0 (by omega) (by simp)
  have q0 : secretS (gotJ 1 (shU ka []) ([] ++ [0])) = some ka := by
    rw [secret_full hUl (by omega) hU ([] ++ [0]) (by decide), shU_secret ka [] hka (by simp)]
  have ln : (shO ka).length ≤ 1000 := by simp only [shO, shareB, List.length_cons, getD_len hU 0 (by omega)]; omega
  have hbl : (bytesE E).length ≤ 10000 := by rw [bytesE_length E hI.key]; have := hI.len; omega
  refine (bar_Unseal_open wy W [] b bg bm c (b8 1) T _ _ _ _ _ ka (bytesE E) E h ln f0 q0 hka hok.op (readE_bytes E n hI hp (by omega)) hok.len (by omega)).mono ?_
  rintro e w' ⟨rfl, A, h1, _, _, h2⟩
  rw [hI.lastE] at h2
  exact ⟨rfl, A, h1, h2⟩
theorem ths_len {tb : List Bool} {k : Nat} {v : Bool} : (tb.set k v).length = tb.length := List.length_set
theorem rep_set (i K : Nat) (h : i < K) : (List.replicate i true ++ List.replicate (K - i) false).set i true = List.replicate (i + 1) true ++ List.replicate (K - (i + 1)) false := by
  rw [List.set_append_right _ _ (by simp)]
  obtain ⟨m, hm⟩ : ∃ m, K - i = m + 1 := ⟨K - i - 1, by omega⟩
  rw [hm, show K - (i + 1) = m by omega, List.replicate_succ' (n := i), List.replicate_succ (n := m)]
  simp
theorem row_size {W : World} {B : Nat} {e : TypeId} {v : Value} {xs : List Value} (h : Row W B e v xs) (hne : xs ≠ []) : B ≤ W.heap.size := by
  rcases h.look with ⟨_, h1⟩ | ⟨g, cap, cur, hv, hg, hh, _⟩
  · exact absurd h1 hne
  · have := blk_lt hh; omega
end Go.Proofs.YtclekllaikcglaaGreat
