import Derived.Test.YtclekllaikcglaaGreatPlW

/- Layer 15: does, act by act. -/
set_option linter.unusedVariables false
namespace Go.Proofs.YtclekllaikcglaaGreat
open Go Go.RowKit
set_option maxRecDepth 100000 in
set_option maxHeartbeats 16000000 in
theorem does_0 (w0 W : World) (p b r : Nat) (sv : Value) (P : PSt) (s : BS) (x : Act5) (h : PW w0 [] p b r sv P s s W) (ok : s.Ok) (hP : P.Ok) (ht : x.text.length ≤ 2000) (ho : x.other.length ≤ 2000) (hk : x.op.toNat % 9 = 0) :
  Calls Tryz.prog 24 #[.pointer (some ⟨p, 0, none⟩), actv x] W (PlX w0 p) := by
 unfold PlX actv
 have H1 := Lib.hid (h.more (acto x) (acto_ty x).1 (acto_ty x).2)
 obtain ⟨ab, hab⟩ : ∃ ab, W.heap.size = ab := ⟨_, rfl⟩
 have hrm : (x.op.toNat : Int).tmod 9 = 0 := by rw [Int.tmod_eq_emod_of_nonneg (by omega)]; omega
 have hwr : IntKind.u8.wrap 0 = 0 := by decide
 have HOK := Lib.hid (And.intro ok hP)
 have GB := Lib.hid (fun W2 (h2 : PW w0 [] p b r sv P s s W2) => begins15 w0 W2 p b r sv P s x h2 ok hP ht ho)
 clear h ok hP ht ho hk
 go_enter Tryz.func24, Tryz.ntmps24
 go_upto_region 1 with fail
 obtain ⟨W1, hW1⟩ : ∃ W1, W.alloc (acto x) = W1 := ⟨_, rfl⟩
 rw [hab, hW1] at H1
 unfold acto at hW1
 try rw [hab]
 try rw [hW1]
 clear hW1 hab
 obtain ⟨a0, a1, a2, a3, a4, a5⟩ := acto_c (H1.out.keep (ab, acto x) (by simp)).1
 unfold PlX actv at GB
 go_wp2_with (go_at_call 46; (with_reducible refine (GB.out _ H1.out.less).mono ?_); rintro e w2 ⟨rfl, h2⟩; have H2 := Lib.hid h2; clear h2)
 go_returns
 exact ⟨rfl, H2.out⟩
set_option maxRecDepth 100000 in
set_option maxHeartbeats 16000000 in
theorem does_1t (w0 W : World) (p b r : Nat) (sv : Value) (P : PSt) (s : BS) (x : Act5) (h : PW w0 [] p b r sv P s s W) (ok : s.Ok) (hP : P.Ok) (ht : x.text.length ≤ 2000) (ho : x.other.length ≤ 2000) (hk : x.op.toNat % 9 = 1) (hf : x.fit = true) :
  Calls Tryz.prog 24 #[.pointer (some ⟨p, 0, none⟩), actv x] W (PlX w0 p) := by
 unfold PlX actv
 have H1 := Lib.hid (h.more (acto x) (acto_ty x).1 (acto_ty x).2)
 obtain ⟨ab, hab⟩ : ∃ ab, W.heap.size = ab := ⟨_, rfl⟩
 have hrm : (x.op.toNat : Int).tmod 9 = 1 := by rw [Int.tmod_eq_emod_of_nonneg (by omega)]; omega
 have hwr : IntKind.u8.wrap 1 = 1 := by decide
 have HOK := Lib.hid (And.intro ok hP)
 obtain ⟨er, s', hL, hok'⟩ := LoadR.total s ok (P.hd) (by exact hP.hdl)
 have GP := Lib.hid (fun W2 (hB : ProgB w0 b s W2) => hL.prog ok hB)
 have GR := Lib.hid (fun W2 (hB : RefS w0.heap.size r s W2) => hL.ref ok hB)
 have HK2 := Lib.hid hok'
 unfold StP at GP
 unfold StR at GR
 have HF := Lib.hid hf
 clear h ok hP ht ho hk hL hok' hf
 go_enter Tryz.func24, Tryz.ntmps24
 go_upto_region 1 with fail
 obtain ⟨W1, hW1⟩ : ∃ W1, W.alloc (acto x) = W1 := ⟨_, rfl⟩
 rw [hab, hW1] at H1
 unfold acto at hW1
 try rw [hab]
 try rw [hW1]
 clear hW1 hab
 obtain ⟨a0, a1, a2, a3, a4, a5⟩ := acto_c (H1.out.keep (ab, acto x) (by simp)).1
 obtain ⟨_, _, _, p3, _, _, _⟩ := H1.out.cells
 have a5f : W1.cell? ⟨ab, 5, none⟩ = some (.bool true) := by rw [a5, HF.out]
 clear a5
 go_upto_region 8 with fail
 clear a0 a1 a2 a3 a4 a5f p3
 refine Loud.wp_region_loud (fun i => decide (i = 5 ∨ i = 11)) 14 (fun w' => w'.heap[p]? = some (plo b r sv P) ∧ w'.heap[ab]? = some (acto x)) (by kernel_rfl) (by kernel_rfl) ⟨H1.out.blk, (H1.out.keep (ab, acto x) (by simp)).1⟩ ?_
 simp only [List.take_succ_cons, List.take_zero]
 iterate 3 (refine Loud.lex_qe rfl rfl ?_; apply Exists.intro; refine ⟨fun wq hq => ?_, Loud.norm fun K hK => ?_⟩; (go_simp; try rfl); go_simp; refine hK _ ?_; clear hK K)
 refine Loud.lex_qe rfl rfl ?_; apply Exists.intro; refine ⟨fun wq hq => ?_, Loud.norm fun K hK => ?_⟩; (have hqc : wq.cell? ⟨p, 0, none⟩ = some (.pointer (some ⟨b, 0, none⟩)) := cell_blk hq.1 rfl; go_simp; try rfl); go_simp; refine hK _ ?_; clear hK K
 iterate 1 (refine Loud.lex_qe rfl rfl ?_; apply Exists.intro; refine ⟨fun wq hq => ?_, Loud.norm fun K hK => ?_⟩; (go_simp; try rfl); go_simp; refine hK _ ?_; clear hK K)
 refine Loud.lex_l rfl rfl (fun K hK => ?_); go_simp; have HD1 := Lib.hid (H1.out.next (Ext.refl _).drew); refine (GP.out _ HD1.out.prog).mono ?_; rintro e v1 ⟨rfl, hp1, hk1⟩; have H2 := Lib.hid (HD1.out.stepP hp1 hk1); clear hp1 hk1; refine ⟨_, rfl, ?_⟩; go_simp; refine hK _ _ ⟨H2.out.blk, (H2.out.keep (ab, acto x) (by simp)).1⟩ ?_; clear hK K
 iterate 3 (refine Loud.lex_qe rfl rfl ?_; apply Exists.intro; refine ⟨fun wq hq => ?_, Loud.norm fun K hK => ?_⟩; (go_simp; try rfl); go_simp; refine hK _ ?_; clear hK K)
 refine Loud.lex_qe rfl rfl ?_; apply Exists.intro; refine ⟨fun wq hq => ?_, Loud.norm fun K hK => ?_⟩; (have hqc : wq.cell? ⟨p, 1, none⟩ = some (.pointer (some ⟨r, 0, none⟩)) := cell_blk hq.1 rfl; go_simp; try rfl); go_simp; refine hK _ ?_; clear hK K
 iterate 1 (refine Loud.lex_qe rfl rfl ?_; apply Exists.intro; refine ⟨fun wq hq => ?_, Loud.norm fun K hK => ?_⟩; (go_simp; try rfl); go_simp; refine hK _ ?_; clear hK K)
 refine Loud.lex_l rfl rfl (fun K hK => ?_); go_simp; refine (GR.out _ H2.out.ref).mono ?_; rintro e v2 ⟨rfl, hp2, hk2⟩; have H3 := Lib.hid (H2.out.stepR hp2 hk2); clear hp2 hk2; refine ⟨_, rfl, ?_⟩; go_simp; refine hK _ _ ⟨H3.out.blk, (H3.out.keep (ab, acto x) (by simp)).1⟩ ?_; clear hK K
 iterate 2 (refine Loud.lex_qe rfl rfl ?_; apply Exists.intro; refine ⟨fun wq hq => ?_, Loud.norm fun K hK => ?_⟩; (go_simp; try rfl); go_simp; refine hK _ ?_; clear hK K)
 refine Loud.lex_nil ?_
 simp only [List.drop_succ_cons, List.drop_zero]
 go_wp2_with fail
 go_returns
 exact ⟨by simp, b, r, sv, P, s', H3.out.less, HK2.out, HOK.out.2⟩
set_option maxRecDepth 100000 in
set_option maxHeartbeats 16000000 in
theorem does_1f (w0 W : World) (p b r : Nat) (sv : Value) (P : PSt) (s : BS) (x : Act5) (h : PW w0 [] p b r sv P s s W) (ok : s.Ok) (hP : P.Ok) (ht : x.text.length ≤ 2000) (ho : x.other.length ≤ 2000) (hk : x.op.toNat % 9 = 1) (hf : x.fit = false) :
  Calls Tryz.prog 24 #[.pointer (some ⟨p, 0, none⟩), actv x] W (PlX w0 p) := by
 unfold PlX actv
 have H1 := Lib.hid (h.more (acto x) (acto_ty x).1 (acto_ty x).2)
 obtain ⟨ab, hab⟩ : ∃ ab, W.heap.size = ab := ⟨_, rfl⟩
 have hrm : (x.op.toNat : Int).tmod 9 = 1 := by rw [Int.tmod_eq_emod_of_nonneg (by omega)]; omega
 have hwr : IntKind.u8.wrap 1 = 1 := by decide
 have HOK := Lib.hid (And.intro ok hP)
 obtain ⟨er, s', hL, hok'⟩ := LoadR.total s ok (x.text) (by omega)
 have GP := Lib.hid (fun W2 (hB : ProgB w0 b s W2) => hL.prog ok hB)
 have GR := Lib.hid (fun W2 (hB : RefS w0.heap.size r s W2) => hL.ref ok hB)
 have HK2 := Lib.hid hok'
 unfold StP at GP
 unfold StR at GR
 have HF := Lib.hid hf
 clear h ok hP ht ho hk hL hok' hf
 go_enter Tryz.func24, Tryz.ntmps24
 go_upto_region 1 with fail
 obtain ⟨W1, hW1⟩ : ∃ W1, W.alloc (acto x) = W1 := ⟨_, rfl⟩
 rw [hab, hW1] at H1
 unfold acto at hW1
 try rw [hab]
 try rw [hW1]
 clear hW1 hab
 obtain ⟨a0, a1, a2, a3, a4, a5⟩ := acto_c (H1.out.keep (ab, acto x) (by simp)).1
 obtain ⟨_, _, _, p3, _, _, _⟩ := H1.out.cells
 have a5f : W1.cell? ⟨ab, 5, none⟩ = some (.bool false) := by rw [a5, HF.out]
 clear a5
 go_upto_region 8 with fail
 clear a0 a1 a2 a3 a4 a5f p3
 refine Loud.wp_region_loud (fun i => decide (i = 5 ∨ i = 11)) 14 (fun w' => w'.heap[p]? = some (plo b r sv P) ∧ w'.heap[ab]? = some (acto x)) (by kernel_rfl) (by kernel_rfl) ⟨H1.out.blk, (H1.out.keep (ab, acto x) (by simp)).1⟩ ?_
 simp only [List.take_succ_cons, List.take_zero]
 iterate 3 (refine Loud.lex_qe rfl rfl ?_; apply Exists.intro; refine ⟨fun wq hq => ?_, Loud.norm fun K hK => ?_⟩; (go_simp; try rfl); go_simp; refine hK _ ?_; clear hK K)
 refine Loud.lex_qe rfl rfl ?_; apply Exists.intro; refine ⟨fun wq hq => ?_, Loud.norm fun K hK => ?_⟩; (have hqc : wq.cell? ⟨p, 0, none⟩ = some (.pointer (some ⟨b, 0, none⟩)) := cell_blk hq.1 rfl; go_simp; try rfl); go_simp; refine hK _ ?_; clear hK K
 iterate 1 (refine Loud.lex_qe rfl rfl ?_; apply Exists.intro; refine ⟨fun wq hq => ?_, Loud.norm fun K hK => ?_⟩; (go_simp; try rfl); go_simp; refine hK _ ?_; clear hK K)
 refine Loud.lex_l rfl rfl (fun K hK => ?_); go_simp; have HD1 := Lib.hid (H1.out.next (Ext.refl _).drew); refine (GP.out _ HD1.out.prog).mono ?_; rintro e v1 ⟨rfl, hp1, hk1⟩; have H2 := Lib.hid (HD1.out.stepP hp1 hk1); clear hp1 hk1; refine ⟨_, rfl, ?_⟩; go_simp; refine hK _ _ ⟨H2.out.blk, (H2.out.keep (ab, acto x) (by simp)).1⟩ ?_; clear hK K
 iterate 3 (refine Loud.lex_qe rfl rfl ?_; apply Exists.intro; refine ⟨fun wq hq => ?_, Loud.norm fun K hK => ?_⟩; (go_simp; try rfl); go_simp; refine hK _ ?_; clear hK K)
 refine Loud.lex_qe rfl rfl ?_; apply Exists.intro; refine ⟨fun wq hq => ?_, Loud.norm fun K hK => ?_⟩; (have hqc : wq.cell? ⟨p, 1, none⟩ = some (.pointer (some ⟨r, 0, none⟩)) := cell_blk hq.1 rfl; go_simp; try rfl); go_simp; refine hK _ ?_; clear hK K
 iterate 1 (refine Loud.lex_qe rfl rfl ?_; apply Exists.intro; refine ⟨fun wq hq => ?_, Loud.norm fun K hK => ?_⟩; (go_simp; try rfl); go_simp; refine hK _ ?_; clear hK K)
 refine Loud.lex_l rfl rfl (fun K hK => ?_); go_simp; refine (GR.out _ H2.out.ref).mono ?_; rintro e v2 ⟨rfl, hp2, hk2⟩; have H3 := Lib.hid (H2.out.stepR hp2 hk2); clear hp2 hk2; refine ⟨_, rfl, ?_⟩; go_simp; refine hK _ _ ⟨H3.out.blk, (H3.out.keep (ab, acto x) (by simp)).1⟩ ?_; clear hK K
 iterate 2 (refine Loud.lex_qe rfl rfl ?_; apply Exists.intro; refine ⟨fun wq hq => ?_, Loud.norm fun K hK => ?_⟩; (go_simp; try rfl); go_simp; refine hK _ ?_; clear hK K)
 refine Loud.lex_nil ?_
 simp only [List.drop_succ_cons, List.drop_zero]
 go_wp2_with fail
 go_returns
 exact ⟨by simp, b, r, sv, P, s', H3.out.less, HK2.out, HOK.out.2⟩
set_option maxRecDepth 100000 in
set_option maxHeartbeats 16000000 in
theorem does_2 (w0 W : World) (p b r : Nat) (sv : Value) (P : PSt) (s : BS) (x : Act5) (h : PW w0 [] p b r sv P s s W) (ok : s.Ok) (hP : P.Ok) (ht : x.text.length ≤ 2000) (ho : x.other.length ≤ 2000) (hk : x.op.toNat % 9 = 2) :
  Calls Tryz.prog 24 #[.pointer (some ⟨p, 0, none⟩), actv x] W (PlX w0 p) := by
 unfold PlX actv
 have H1 := Lib.hid (h.more (acto x) (acto_ty x).1 (acto_ty x).2)
 obtain ⟨ab, hab⟩ : ∃ ab, W.heap.size = ab := ⟨_, rfl⟩
 have hrm : (x.op.toNat : Int).tmod 9 = 2 := by rw [Int.tmod_eq_emod_of_nonneg (by omega)]; omega
 have hwr : IntKind.u8.wrap 2 = 2 := by decide
 have HOK := Lib.hid (And.intro ok hP)
 have hsl : (shareF P x).length ≤ 1000000 := by
  unfold shareF
  split
  ·omega
  ·rw [List.getD]
   cases hq : P.sh[(x.share.toNat - 1) % P.sh.length]? with
   | none => simp
   | some z => have := hP.len z (List.mem_of_getElem? hq); simp; omega
 obtain ⟨bo, er, s', hU, hok'⟩ := UnR.total s ok (shareF P x)
 have GP := Lib.hid (fun W2 (hB : ProgB w0 b s W2) => hU.prog ok hB hsl)
 have GR := Lib.hid (fun W2 (hB : RefS w0.heap.size r s W2) => hU.ref ok hB hsl)
 have HK2 := Lib.hid hok'
 unfold StP at GP
 unfold StR at GR
 have GS := Lib.hid (fun W2 {W3} (h2 : PW w0 [(W.heap.size, acto x)] p b r sv P s s W2) (hx : Ext W2 W3) => share15 w0 W3 _ p b r sv P s s x (h2.next hx) hP.few)
 have GS2 := Lib.hid (fun W2 {W3} (h2 : PW w0 [(W.heap.size, acto x)] p b r sv P s' s W2) (hx : Ext W2 W3) => share15 w0 W3 _ p b r sv P s' s x (h2.next hx) hP.few)
 unfold actv at GS GS2
 rw [hab] at GS GS2
 generalize shareF P x = U at *
 clear h ok hP ht ho hk hU hok' hsl
 go_enter Tryz.func24, Tryz.ntmps24
 go_upto_region 1 with fail
 obtain ⟨W1, hW1⟩ : ∃ W1, W.alloc (acto x) = W1 := ⟨_, rfl⟩
 rw [hab, hW1] at H1
 unfold acto at hW1
 try rw [hab]
 try rw [hW1]
 clear hW1 hab
 obtain ⟨a0, a1, a2, a3, a4, a5⟩ := acto_c (H1.out.keep (ab, acto x) (by simp)).1
 go_upto_region 10 with fail
 clear a0 a1 a2 a3 a4 a5
 refine Loud.wp_region_loud (fun i => decide (i = 6 ∨ i = 7)) 13 (fun w' => w'.heap[p]? = some (plo b r sv P) ∧ w'.heap[ab]? = some (acto x)) (by kernel_rfl) (by kernel_rfl) ⟨H1.out.blk, (H1.out.keep (ab, acto x) (by simp)).1⟩ ?_
 simp only [List.take_succ_cons, List.take_zero]
 iterate 3 (refine Loud.lex_qe rfl rfl ?_; apply Exists.intro; refine ⟨fun wq hq => ?_, Loud.norm fun K hK => ?_⟩; (go_simp; try rfl); go_simp; refine hK _ ?_; clear hK K)
 refine Loud.lex_qe rfl rfl ?_; apply Exists.intro; refine ⟨fun wq hq => ?_, Loud.norm fun K hK => ?_⟩; (have hqc : wq.cell? ⟨p, 0, none⟩ = some (.pointer (some ⟨b, 0, none⟩)) := cell_blk hq.1 rfl; go_simp; try rfl); go_simp; refine hK _ ?_; clear hK K
 iterate 1 (refine Loud.lex_qe rfl rfl ?_; apply Exists.intro; refine ⟨fun wq hq => ?_, Loud.norm fun K hK => ?_⟩; (go_simp; try rfl); go_simp; refine hK _ ?_; clear hK K)
 refine Loud.lex_qe rfl rfl ?_; apply Exists.intro; refine ⟨fun wq hq => ?_, Loud.norm fun K hK => ?_⟩; (have hc0 := acto_c hq.2; obtain ⟨q0, q1, q2, q3, q4, q5⟩ := hc0; go_simp; try rfl); go_simp; refine hK _ ?_; clear hK K
 refine Loud.lex_l rfl rfl (fun K hK => ?_); go_simp; refine (GS.out _ H1.out (Ext.refl _).drew).mono ?_; rintro e v1 ⟨rfl, hx1⟩; have H2 := Lib.hid (H1.out.next ((Ext.refl _).drew.trans hx1)); clear hx1; refine ⟨_, rfl, ?_⟩; go_simp; refine hK _ _ ⟨H2.out.blk, (H2.out.keep (ab, acto x) (by simp)).1⟩ ?_; clear hK K
 refine Loud.lex_l rfl rfl (fun K hK => ?_); go_simp; refine (GP.out _ H2.out.prog).mono ?_; rintro e v2 ⟨rfl, hp2, hk2⟩; have H3 := Lib.hid (H2.out.stepP hp2 hk2); clear hp2 hk2; refine ⟨_, rfl, ?_⟩; go_simp; refine hK _ _ ⟨H3.out.blk, (H3.out.keep (ab, acto x) (by simp)).1⟩ ?_; clear hK K
 iterate 5 (refine Loud.lex_qe rfl rfl ?_; apply Exists.intro; refine ⟨fun wq hq => ?_, Loud.norm fun K hK => ?_⟩; (go_simp; try rfl); go_simp; refine hK _ ?_; clear hK K)
 refine Loud.lex_nil ?_
 simp only [List.drop_succ_cons, List.drop_zero]
 go_upto_region 11 with fail
 refine Loud.wp_region_loud (fun i => decide (i = 6 ∨ i = 7)) 13 (fun w' => w'.heap[p]? = some (plo b r sv P) ∧ w'.heap[ab]? = some (acto x)) (by kernel_rfl) (by kernel_rfl) ⟨H3.out.blk, (H3.out.keep (ab, acto x) (by simp)).1⟩ ?_
 simp only [List.take_succ_cons, List.take_zero]
 iterate 3 (refine Loud.lex_qe rfl rfl ?_; apply Exists.intro; refine ⟨fun wq hq => ?_, Loud.norm fun K hK => ?_⟩; (go_simp; try rfl); go_simp; refine hK _ ?_; clear hK K)
 refine Loud.lex_qe rfl rfl ?_; apply Exists.intro; refine ⟨fun wq hq => ?_, Loud.norm fun K hK => ?_⟩; (have hqc : wq.cell? ⟨p, 1, none⟩ = some (.pointer (some ⟨r, 0, none⟩)) := cell_blk hq.1 rfl; go_simp; try rfl); go_simp; refine hK _ ?_; clear hK K
 iterate 1 (refine Loud.lex_qe rfl rfl ?_; apply Exists.intro; refine ⟨fun wq hq => ?_, Loud.norm fun K hK => ?_⟩; (go_simp; try rfl); go_simp; refine hK _ ?_; clear hK K)
 refine Loud.lex_qe rfl rfl ?_; apply Exists.intro; refine ⟨fun wq hq => ?_, Loud.norm fun K hK => ?_⟩; (have hc0 := acto_c hq.2; obtain ⟨q0, q1, q2, q3, q4, q5⟩ := hc0; go_simp; try rfl); go_simp; refine hK _ ?_; clear hK K
 refine Loud.lex_l rfl rfl (fun K hK => ?_); go_simp; refine (GS2.out _ H3.out (Ext.refl _).drew).mono ?_; rintro e v3 ⟨rfl, hx3⟩; have H4 := Lib.hid (H3.out.next ((Ext.refl _).drew.trans hx3)); clear hx3; refine ⟨_, rfl, ?_⟩; go_simp; refine hK _ _ ⟨H4.out.blk, (H4.out.keep (ab, acto x) (by simp)).1⟩ ?_; clear hK K
 refine Loud.lex_l rfl rfl (fun K hK => ?_); go_simp; refine (GR.out _ H4.out.ref).mono ?_; rintro e v4 ⟨rfl, hp4, hk4⟩; have H5 := Lib.hid (H4.out.stepR hp4 hk4); clear hp4 hk4; refine ⟨_, rfl, ?_⟩; go_simp; refine hK _ _ ⟨H5.out.blk, (H5.out.keep (ab, acto x) (by simp)).1⟩ ?_; clear hK K
 iterate 5 (refine Loud.lex_qe rfl rfl ?_; apply Exists.intro; refine ⟨fun wq hq => ?_, Loud.norm fun K hK => ?_⟩; (go_simp; try rfl); go_simp; refine hK _ ?_; clear hK K)
 refine Loud.lex_nil ?_
 simp only [List.drop_succ_cons, List.drop_zero]
 go_wp2_with fail
 go_returns
 exact ⟨by simp, b, r, sv, P, s', H5.out.less, HK2.out, HOK.out.2⟩
set_option maxRecDepth 100000 in
set_option maxHeartbeats 16000000 in
theorem does_3 (w0 W : World) (p b r : Nat) (sv : Value) (P : PSt) (s : BS) (x : Act5) (h : PW w0 [] p b r sv P s s W) (ok : s.Ok) (hP : P.Ok) (ht : x.text.length ≤ 2000) (ho : x.other.length ≤ 2000) (hk : x.op.toNat % 9 = 3) :
  Calls Tryz.prog 24 #[.pointer (some ⟨p, 0, none⟩), actv x] W (PlX w0 p) := by
 unfold PlX actv
 have H1 := Lib.hid (h.more (acto x) (acto_ty x).1 (acto_ty x).2)
 obtain ⟨ab, hab⟩ : ∃ ab, W.heap.size = ab := ⟨_, rfl⟩
 have hrm : (x.op.toNat : Int).tmod 9 = 3 := by rw [Int.tmod_eq_emod_of_nonneg (by omega)]; omega
 have hwr : IntKind.u8.wrap 3 = 3 := by decide
 have HOK := Lib.hid (And.intro ok hP)
 obtain ⟨er, s', hU, hok'⟩ := SealR.total s ok
 have GP := Lib.hid (fun W2 (hB : ProgB w0 b s W2) => hU.prog hB)
 have GR := Lib.hid (fun W2 (hB : RefS w0.heap.size r s W2) => hU.ref ok hB)
 have HK2 := Lib.hid hok'
 unfold StP at GP
 unfold StR at GR
 clear h ok hP ht ho hk hU hok'
 go_enter Tryz.func24, Tryz.ntmps24
 go_upto_region 1 with fail
 obtain ⟨W1, hW1⟩ : ∃ W1, W.alloc (acto x) = W1 := ⟨_, rfl⟩
 rw [hab, hW1] at H1
 unfold acto at hW1
 try rw [hab]
 try rw [hW1]
 clear hW1 hab
 obtain ⟨a0, a1, a2, a3, a4, a5⟩ := acto_c (H1.out.keep (ab, acto x) (by simp)).1
 go_upto_region 14 with fail
 clear a0 a1 a2 a3 a4 a5
 refine Loud.wp_region_loud (fun i => decide (i = 4 ∨ i = 9)) 12 (fun w' => w'.heap[p]? = some (plo b r sv P) ∧ w'.heap[ab]? = some (acto x)) (by kernel_rfl) (by kernel_rfl) ⟨H1.out.blk, (H1.out.keep (ab, acto x) (by simp)).1⟩ ?_
 simp only [List.take_succ_cons, List.take_zero]
 iterate 3 (refine Loud.lex_qe rfl rfl ?_; apply Exists.intro; refine ⟨fun wq hq => ?_, Loud.norm fun K hK => ?_⟩; (go_simp; try rfl); go_simp; refine hK _ ?_; clear hK K)
 refine Loud.lex_qe rfl rfl ?_; apply Exists.intro; refine ⟨fun wq hq => ?_, Loud.norm fun K hK => ?_⟩; (have hqc : wq.cell? ⟨p, 0, none⟩ = some (.pointer (some ⟨b, 0, none⟩)) := cell_blk hq.1 rfl; go_simp; try rfl); go_simp; refine hK _ ?_; clear hK K
 refine Loud.lex_l rfl rfl (fun K hK => ?_); go_simp; have HD1 := Lib.hid (H1.out.next (Ext.refl _).drew); refine (GP.out _ HD1.out.prog).mono ?_; rintro e v1 ⟨rfl, hp1, hk1⟩; have H2 := Lib.hid (HD1.out.stepP hp1 hk1); clear hp1 hk1; refine ⟨_, rfl, ?_⟩; go_simp; refine hK _ _ ⟨H2.out.blk, (H2.out.keep (ab, acto x) (by simp)).1⟩ ?_; clear hK K
 iterate 3 (refine Loud.lex_qe rfl rfl ?_; apply Exists.intro; refine ⟨fun wq hq => ?_, Loud.norm fun K hK => ?_⟩; (go_simp; try rfl); go_simp; refine hK _ ?_; clear hK K)
 refine Loud.lex_qe rfl rfl ?_; apply Exists.intro; refine ⟨fun wq hq => ?_, Loud.norm fun K hK => ?_⟩; (have hqc : wq.cell? ⟨p, 1, none⟩ = some (.pointer (some ⟨r, 0, none⟩)) := cell_blk hq.1 rfl; go_simp; try rfl); go_simp; refine hK _ ?_; clear hK K
 refine Loud.lex_l rfl rfl (fun K hK => ?_); go_simp; refine (GR.out _ H2.out.ref).mono ?_; rintro e v2 ⟨rfl, hp2, hk2⟩; have H3 := Lib.hid (H2.out.stepR hp2 hk2); clear hp2 hk2; refine ⟨_, rfl, ?_⟩; go_simp; refine hK _ _ ⟨H3.out.blk, (H3.out.keep (ab, acto x) (by simp)).1⟩ ?_; clear hK K
 iterate 2 (refine Loud.lex_qe rfl rfl ?_; apply Exists.intro; refine ⟨fun wq hq => ?_, Loud.norm fun K hK => ?_⟩; (go_simp; try rfl); go_simp; refine hK _ ?_; clear hK K)
 refine Loud.lex_nil ?_
 simp only [List.drop_succ_cons, List.drop_zero]
 go_wp2_with fail
 go_returns
 exact ⟨by simp, b, r, sv, P, s', H3.out.less, HK2.out, HOK.out.2⟩
set_option maxRecDepth 100000 in
set_option maxHeartbeats 16000000 in
theorem does_4 (w0 W : World) (p b r : Nat) (sv : Value) (P : PSt) (s : BS) (x : Act5) (h : PW w0 [] p b r sv P s s W) (ok : s.Ok) (hP : P.Ok) (ht : x.text.length ≤ 2000) (ho : x.other.length ≤ 2000) (hk : x.op.toNat % 9 = 4) :
  Calls Tryz.prog 24 #[.pointer (some ⟨p, 0, none⟩), actv x] W (PlX w0 p) := by
 unfold PlX actv
 have H1 := Lib.hid (h.more (acto x) (acto_ty x).1 (acto_ty x).2)
 obtain ⟨ab, hab⟩ : ∃ ab, W.heap.size = ab := ⟨_, rfl⟩
 have hrm : (x.op.toNat : Int).tmod 9 = 4 := by rw [Int.tmod_eq_emod_of_nonneg (by omega)]; omega
 have hwr : IntKind.u8.wrap 4 = 4 := by decide
 have HOK := Lib.hid (And.intro ok hP)
 have hrt := rootF_len x.text x.fit (by omega)
 have GT := Lib.hid (fun W => root15F x.text x.fit W (by omega))
 have GN := Lib.hid (fun W => nonce15F x.text x.fit W (by omega))
 obtain ⟨n, er, s', hU, hok', hn⟩ := RotR.total s ok (rootF x.text x.fit) (nonceF x.text x.fit)
 have GP := Lib.hid (fun W2 (hB : ProgB w0 b s W2) => hU.prog ok hB (by omega))
 have GR := Lib.hid (fun W2 (hB : RefS w0.heap.size r s W2) => hU.ref ok hB (by omega))
 have HK2 := Lib.hid hok'
 unfold StP at GP
 unfold StR at GR
 generalize rootF x.text x.fit = rt at *
 generalize nonceF x.text x.fit = nn at *
 clear h ok hP ht ho hk hU hok' hn hrt
 go_enter Tryz.func24, Tryz.ntmps24
 go_upto_region 1 with fail
 obtain ⟨W1, hW1⟩ : ∃ W1, W.alloc (acto x) = W1 := ⟨_, rfl⟩
 rw [hab, hW1] at H1
 unfold acto at hW1
 try rw [hab]
 try rw [hW1]
 clear hW1 hab
 obtain ⟨a0, a1, a2, a3, a4, a5⟩ := acto_c (H1.out.keep (ab, acto x) (by simp)).1
 go_upto_region 16 with fail
 clear a0 a1 a2 a3 a4 a5
 refine Loud.wp_region_loud (fun i => decide (i = 8 ∨ i = 13 ∨ i = 14)) 20 (fun w' => w'.heap[p]? = some (plo b r sv P) ∧ w'.heap[ab]? = some (acto x)) (by kernel_rfl) (by kernel_rfl) ⟨H1.out.blk, (H1.out.keep (ab, acto x) (by simp)).1⟩ ?_
 simp only [List.take_succ_cons, List.take_zero]
 iterate 3 (refine Loud.lex_qe rfl rfl ?_; apply Exists.intro; refine ⟨fun wq hq => ?_, Loud.norm fun K hK => ?_⟩; (go_simp; try rfl); go_simp; refine hK _ ?_; clear hK K)
 refine Loud.lex_qe rfl rfl ?_; apply Exists.intro; refine ⟨fun wq hq => ?_, Loud.norm fun K hK => ?_⟩; (have hqc : wq.cell? ⟨p, 0, none⟩ = some (.pointer (some ⟨b, 0, none⟩)) := cell_blk hq.1 rfl; go_simp; try rfl); go_simp; refine hK _ ?_; clear hK K
 iterate 1 (refine Loud.lex_qe rfl rfl ?_; apply Exists.intro; refine ⟨fun wq hq => ?_, Loud.norm fun K hK => ?_⟩; (go_simp; try rfl); go_simp; refine hK _ ?_; clear hK K)
 refine Loud.lex_qe rfl rfl ?_; apply Exists.intro; refine ⟨fun wq hq => ?_, Loud.norm fun K hK => ?_⟩; (have hqc : wq.cell? ⟨ab, 1, none⟩ = some (.string (bs x.text)) := cell_blk hq.2 rfl; go_simp; try rfl); go_simp; refine hK _ ?_; clear hK K
 iterate 1 (refine Loud.lex_qe rfl rfl ?_; apply Exists.intro; refine ⟨fun wq hq => ?_, Loud.norm fun K hK => ?_⟩; (go_simp; try rfl); go_simp; refine hK _ ?_; clear hK K)
 refine Loud.lex_qe rfl rfl ?_; apply Exists.intro; refine ⟨fun wq hq => ?_, Loud.norm fun K hK => ?_⟩; (have hqc : wq.cell? ⟨ab, 5, none⟩ = some (.bool x.fit) := cell_blk hq.2 rfl; go_simp; try rfl); go_simp; refine hK _ ?_; clear hK K
 refine Loud.lex_l rfl rfl (fun K hK => ?_); go_simp; refine (GT.out _).mono ?_; rintro e v1 ⟨rfl, hx1⟩; have H2 := Lib.hid (H1.out.next ((Ext.refl _).drew.trans hx1)); clear hx1; refine ⟨_, rfl, ?_⟩; go_simp; refine hK _ _ ⟨H2.out.blk, (H2.out.keep (ab, acto x) (by simp)).1⟩ ?_; clear hK K
 iterate 1 (refine Loud.lex_qe rfl rfl ?_; apply Exists.intro; refine ⟨fun wq hq => ?_, Loud.norm fun K hK => ?_⟩; (go_simp; try rfl); go_simp; refine hK _ ?_; clear hK K)
 refine Loud.lex_qe rfl rfl ?_; apply Exists.intro; refine ⟨fun wq hq => ?_, Loud.norm fun K hK => ?_⟩; (have hqc : wq.cell? ⟨ab, 1, none⟩ = some (.string (bs x.text)) := cell_blk hq.2 rfl; go_simp; try rfl); go_simp; refine hK _ ?_; clear hK K
 iterate 1 (refine Loud.lex_qe rfl rfl ?_; apply Exists.intro; refine ⟨fun wq hq => ?_, Loud.norm fun K hK => ?_⟩; (go_simp; try rfl); go_simp; refine hK _ ?_; clear hK K)
 refine Loud.lex_qe rfl rfl ?_; apply Exists.intro; refine ⟨fun wq hq => ?_, Loud.norm fun K hK => ?_⟩; (have hqc : wq.cell? ⟨ab, 5, none⟩ = some (.bool x.fit) := cell_blk hq.2 rfl; go_simp; try rfl); go_simp; refine hK _ ?_; clear hK K
 refine Loud.lex_l rfl rfl (fun K hK => ?_); go_simp; refine (GN.out _).mono ?_; rintro e v2 ⟨rfl, hx2⟩; have H3 := Lib.hid (H2.out.next hx2); clear hx2; refine ⟨_, rfl, ?_⟩; go_simp; refine hK _ _ ⟨H3.out.blk, (H3.out.keep (ab, acto x) (by simp)).1⟩ ?_; clear hK K
 refine Loud.lex_l rfl rfl (fun K hK => ?_); go_simp; refine (GP.out _ H3.out.prog).mono ?_; rintro e v3 ⟨rfl, hp3, hk3⟩; have H4 := Lib.hid (H3.out.stepP hp3 hk3); clear hp3 hk3; refine ⟨_, rfl, ?_⟩; go_simp; refine hK _ _ ⟨H4.out.blk, (H4.out.keep (ab, acto x) (by simp)).1⟩ ?_; clear hK K
 iterate 5 (refine Loud.lex_qe rfl rfl ?_; apply Exists.intro; refine ⟨fun wq hq => ?_, Loud.norm fun K hK => ?_⟩; (go_simp; try rfl); go_simp; refine hK _ ?_; clear hK K)
 refine Loud.lex_nil ?_
 simp only [List.drop_succ_cons, List.drop_zero]
 go_upto_region 17 with fail
 refine Loud.wp_region_loud (fun i => decide (i = 8 ∨ i = 13 ∨ i = 14)) 20 (fun w' => w'.heap[p]? = some (plo b r sv P) ∧ w'.heap[ab]? = some (acto x)) (by kernel_rfl) (by kernel_rfl) ⟨H4.out.blk, (H4.out.keep (ab, acto x) (by simp)).1⟩ ?_
 simp only [List.take_succ_cons, List.take_zero]
 iterate 3 (refine Loud.lex_qe rfl rfl ?_; apply Exists.intro; refine ⟨fun wq hq => ?_, Loud.norm fun K hK => ?_⟩; (go_simp; try rfl); go_simp; refine hK _ ?_; clear hK K)
 refine Loud.lex_qe rfl rfl ?_; apply Exists.intro; refine ⟨fun wq hq => ?_, Loud.norm fun K hK => ?_⟩; (have hqc : wq.cell? ⟨p, 1, none⟩ = some (.pointer (some ⟨r, 0, none⟩)) := cell_blk hq.1 rfl; go_simp; try rfl); go_simp; refine hK _ ?_; clear hK K
 iterate 1 (refine Loud.lex_qe rfl rfl ?_; apply Exists.intro; refine ⟨fun wq hq => ?_, Loud.norm fun K hK => ?_⟩; (go_simp; try rfl); go_simp; refine hK _ ?_; clear hK K)
 refine Loud.lex_qe rfl rfl ?_; apply Exists.intro; refine ⟨fun wq hq => ?_, Loud.norm fun K hK => ?_⟩; (have hqc : wq.cell? ⟨ab, 1, none⟩ = some (.string (bs x.text)) := cell_blk hq.2 rfl; go_simp; try rfl); go_simp; refine hK _ ?_; clear hK K
 iterate 1 (refine Loud.lex_qe rfl rfl ?_; apply Exists.intro; refine ⟨fun wq hq => ?_, Loud.norm fun K hK => ?_⟩; (go_simp; try rfl); go_simp; refine hK _ ?_; clear hK K)
 refine Loud.lex_qe rfl rfl ?_; apply Exists.intro; refine ⟨fun wq hq => ?_, Loud.norm fun K hK => ?_⟩; (have hqc : wq.cell? ⟨ab, 5, none⟩ = some (.bool x.fit) := cell_blk hq.2 rfl; go_simp; try rfl); go_simp; refine hK _ ?_; clear hK K
 refine Loud.lex_l rfl rfl (fun K hK => ?_); go_simp; refine (GT.out _).mono ?_; rintro e v4 ⟨rfl, hx4⟩; have H5 := Lib.hid (H4.out.next ((Ext.refl _).drew.trans hx4)); clear hx4; refine ⟨_, rfl, ?_⟩; go_simp; refine hK _ _ ⟨H5.out.blk, (H5.out.keep (ab, acto x) (by simp)).1⟩ ?_; clear hK K
 iterate 1 (refine Loud.lex_qe rfl rfl ?_; apply Exists.intro; refine ⟨fun wq hq => ?_, Loud.norm fun K hK => ?_⟩; (go_simp; try rfl); go_simp; refine hK _ ?_; clear hK K)
 refine Loud.lex_qe rfl rfl ?_; apply Exists.intro; refine ⟨fun wq hq => ?_, Loud.norm fun K hK => ?_⟩; (have hqc : wq.cell? ⟨ab, 1, none⟩ = some (.string (bs x.text)) := cell_blk hq.2 rfl; go_simp; try rfl); go_simp; refine hK _ ?_; clear hK K
 iterate 1 (refine Loud.lex_qe rfl rfl ?_; apply Exists.intro; refine ⟨fun wq hq => ?_, Loud.norm fun K hK => ?_⟩; (go_simp; try rfl); go_simp; refine hK _ ?_; clear hK K)
 refine Loud.lex_qe rfl rfl ?_; apply Exists.intro; refine ⟨fun wq hq => ?_, Loud.norm fun K hK => ?_⟩; (have hqc : wq.cell? ⟨ab, 5, none⟩ = some (.bool x.fit) := cell_blk hq.2 rfl; go_simp; try rfl); go_simp; refine hK _ ?_; clear hK K
 refine Loud.lex_l rfl rfl (fun K hK => ?_); go_simp; refine (GN.out _).mono ?_; rintro e v5 ⟨rfl, hx5⟩; have H6 := Lib.hid (H5.out.next hx5); clear hx5; refine ⟨_, rfl, ?_⟩; go_simp; refine hK _ _ ⟨H6.out.blk, (H6.out.keep (ab, acto x) (by simp)).1⟩ ?_; clear hK K
 refine Loud.lex_l rfl rfl (fun K hK => ?_); go_simp; refine (GR.out _ H6.out.ref).mono ?_; rintro e v6 ⟨rfl, hp6, hk6⟩; have H7 := Lib.hid (H6.out.stepR hp6 hk6); clear hp6 hk6; refine ⟨_, rfl, ?_⟩; go_simp; refine hK _ _ ⟨H7.out.blk, (H7.out.keep (ab, acto x) (by simp)).1⟩ ?_; clear hK K
 iterate 5 (refine Loud.lex_qe rfl rfl ?_; apply Exists.intro; refine ⟨fun wq hq => ?_, Loud.norm fun K hK => ?_⟩; (go_simp; try rfl); go_simp; refine hK _ ?_; clear hK K)
 refine Loud.lex_nil ?_
 simp only [List.drop_succ_cons, List.drop_zero]
 go_wp2_with fail
 go_returns
 exact ⟨by simp, b, r, sv, P, s', H7.out.less, HK2.out, HOK.out.2⟩
set_option maxRecDepth 100000 in
set_option maxHeartbeats 16000000 in
theorem does_5 (w0 W : World) (p b r : Nat) (sv : Value) (P : PSt) (s : BS) (x : Act5) (h : PW w0 [] p b r sv P s s W) (ok : s.Ok) (hP : P.Ok) (ht : x.text.length ≤ 2000) (ho : x.other.length ≤ 2000) (hk : x.op.toNat % 9 = 5) :
  Calls Tryz.prog 24 #[.pointer (some ⟨p, 0, none⟩), actv x] W (PlX w0 p) := by
 unfold PlX actv
 have H1 := Lib.hid (h.more (acto x) (acto_ty x).1 (acto_ty x).2)
 obtain ⟨ab, hab⟩ : ∃ ab, W.heap.size = ab := ⟨_, rfl⟩
 have hrm : (x.op.toNat : Int).tmod 9 = 5 := by rw [Int.tmod_eq_emod_of_nonneg (by omega)]; omega
 have hwr : IntKind.u8.wrap 5 = 5 := by decide
 have HOK := Lib.hid (And.intro ok hP)
 have GN := Lib.hid (fun W => nonce15F x.text x.fit W (by omega))
 obtain ⟨er, s', hU, hok'⟩ := RetR.total s ok x.n.toNat (nonceF x.text x.fit)
 have GP := Lib.hid (fun W2 (hB : ProgB w0 b s W2) => hU.prog ok hB)
 have GR := Lib.hid (fun W2 (hB : RefS w0.heap.size r s W2) => hU.ref ok hB)
 have HK2 := Lib.hid hok'
 unfold StP at GP
 unfold StR at GR
 generalize nonceF x.text x.fit = nn at *
 clear h ok hP ht ho hk hU hok'
 go_enter Tryz.func24, Tryz.ntmps24
 go_upto_region 1 with fail
 obtain ⟨W1, hW1⟩ : ∃ W1, W.alloc (acto x) = W1 := ⟨_, rfl⟩
 rw [hab, hW1] at H1
 unfold acto at hW1
 try rw [hab]
 try rw [hW1]
 clear hW1 hab
 obtain ⟨a0, a1, a2, a3, a4, a5⟩ := acto_c (H1.out.keep (ab, acto x) (by simp)).1
 go_upto_region 20 with fail
 clear a0 a1 a2 a3 a4 a5
 refine Loud.wp_region_loud (fun i => decide (i = 10 ∨ i = 11 ∨ i = 22 ∨ i = 23)) 26 (fun w' => w'.heap[p]? = some (plo b r sv P) ∧ w'.heap[ab]? = some (acto x)) (by kernel_rfl) (by kernel_rfl) ⟨H1.out.blk, (H1.out.keep (ab, acto x) (by simp)).1⟩ ?_
 simp only [List.take_succ_cons, List.take_zero]
 iterate 3 (refine Loud.lex_qe rfl rfl ?_; apply Exists.intro; refine ⟨fun wq hq => ?_, Loud.norm fun K hK => ?_⟩; (go_simp; try rfl); go_simp; refine hK _ ?_; clear hK K)
 refine Loud.lex_qe rfl rfl ?_; apply Exists.intro; refine ⟨fun wq hq => ?_, Loud.norm fun K hK => ?_⟩; (have hqc : wq.cell? ⟨p, 0, none⟩ = some (.pointer (some ⟨b, 0, none⟩)) := cell_blk hq.1 rfl; go_simp; try rfl); go_simp; refine hK _ ?_; clear hK K
 iterate 1 (refine Loud.lex_qe rfl rfl ?_; apply Exists.intro; refine ⟨fun wq hq => ?_, Loud.norm fun K hK => ?_⟩; (go_simp; try rfl); go_simp; refine hK _ ?_; clear hK K)
 refine Loud.lex_qe rfl rfl ?_; apply Exists.intro; refine ⟨fun wq hq => ?_, Loud.norm fun K hK => ?_⟩; (have hqc : wq.cell? ⟨ab, 3, none⟩ = some (.int .u32 (x.n.toNat : Int)) := cell_blk hq.2 rfl; go_simp; try rfl); go_simp; refine hK _ ?_; clear hK K
 iterate 1 (refine Loud.lex_qe rfl rfl ?_; apply Exists.intro; refine ⟨fun wq hq => ?_, Loud.norm fun K hK => ?_⟩; (go_simp; try rfl); go_simp; refine hK _ ?_; clear hK K)
 refine Loud.lex_qe rfl rfl ?_; apply Exists.intro; refine ⟨fun wq hq => ?_, Loud.norm fun K hK => ?_⟩; (have hqc : wq.cell? ⟨ab, 1, none⟩ = some (.string (bs x.text)) := cell_blk hq.2 rfl; go_simp; try rfl); go_simp; refine hK _ ?_; clear hK K
 iterate 1 (refine Loud.lex_qe rfl rfl ?_; apply Exists.intro; refine ⟨fun wq hq => ?_, Loud.norm fun K hK => ?_⟩; (go_simp; try rfl); go_simp; refine hK _ ?_; clear hK K)
 refine Loud.lex_qe rfl rfl ?_; apply Exists.intro; refine ⟨fun wq hq => ?_, Loud.norm fun K hK => ?_⟩; (have hqc : wq.cell? ⟨ab, 5, none⟩ = some (.bool x.fit) := cell_blk hq.2 rfl; go_simp; try rfl); go_simp; refine hK _ ?_; clear hK K
 refine Loud.lex_l rfl rfl (fun K hK => ?_); go_simp; refine (GN.out _).mono ?_; rintro e v1 ⟨rfl, hx1⟩; have H2 := Lib.hid (H1.out.next ((Ext.refl _).drew.trans hx1)); clear hx1; refine ⟨_, rfl, ?_⟩; go_simp; refine hK _ _ ⟨H2.out.blk, (H2.out.keep (ab, acto x) (by simp)).1⟩ ?_; clear hK K
 refine Loud.lex_l rfl rfl (fun K hK => ?_); go_simp; refine (GP.out _ H2.out.prog).mono ?_; rintro e v2 ⟨rfl, hp2, hk2⟩; have H3 := Lib.hid (H2.out.stepP hp2 hk2); clear hp2 hk2; refine ⟨_, rfl, ?_⟩; go_simp; refine hK _ _ ⟨H3.out.blk, (H3.out.keep (ab, acto x) (by simp)).1⟩ ?_; clear hK K
 iterate 3 (refine Loud.lex_qe rfl rfl ?_; apply Exists.intro; refine ⟨fun wq hq => ?_, Loud.norm fun K hK => ?_⟩; (go_simp; try rfl); go_simp; refine hK _ ?_; clear hK K)
 refine Loud.lex_qe rfl rfl ?_; apply Exists.intro; refine ⟨fun wq hq => ?_, Loud.norm fun K hK => ?_⟩; (have hqc : wq.cell? ⟨p, 1, none⟩ = some (.pointer (some ⟨r, 0, none⟩)) := cell_blk hq.1 rfl; go_simp; try rfl); go_simp; refine hK _ ?_; clear hK K
 iterate 1 (refine Loud.lex_qe rfl rfl ?_; apply Exists.intro; refine ⟨fun wq hq => ?_, Loud.norm fun K hK => ?_⟩; (go_simp; try rfl); go_simp; refine hK _ ?_; clear hK K)
 refine Loud.lex_qe rfl rfl ?_; apply Exists.intro; refine ⟨fun wq hq => ?_, Loud.norm fun K hK => ?_⟩; (have hqc : wq.cell? ⟨ab, 3, none⟩ = some (.int .u32 (x.n.toNat : Int)) := cell_blk hq.2 rfl; go_simp; try rfl); go_simp; refine hK _ ?_; clear hK K
 iterate 1 (refine Loud.lex_qe rfl rfl ?_; apply Exists.intro; refine ⟨fun wq hq => ?_, Loud.norm fun K hK => ?_⟩; (go_simp; try rfl); go_simp; refine hK _ ?_; clear hK K)
 refine Loud.lex_qe rfl rfl ?_; apply Exists.intro; refine ⟨fun wq hq => ?_, Loud.norm fun K hK => ?_⟩; (have hqc : wq.cell? ⟨ab, 1, none⟩ = some (.string (bs x.text)) := cell_blk hq.2 rfl; go_simp; try rfl); go_simp; refine hK _ ?_; clear hK K
 iterate 1 (refine Loud.lex_qe rfl rfl ?_; apply Exists.intro; refine ⟨fun wq hq => ?_, Loud.norm fun K hK => ?_⟩; (go_simp; try rfl); go_simp; refine hK _ ?_; clear hK K)
 refine Loud.lex_qe rfl rfl ?_; apply Exists.intro; refine ⟨fun wq hq => ?_, Loud.norm fun K hK => ?_⟩; (have hqc : wq.cell? ⟨ab, 5, none⟩ = some (.bool x.fit) := cell_blk hq.2 rfl; go_simp; try rfl); go_simp; refine hK _ ?_; clear hK K
 refine Loud.lex_l rfl rfl (fun K hK => ?_); go_simp; refine (GN.out _).mono ?_; rintro e v3 ⟨rfl, hx3⟩; have H4 := Lib.hid (H3.out.next hx3); clear hx3; refine ⟨_, rfl, ?_⟩; go_simp; refine hK _ _ ⟨H4.out.blk, (H4.out.keep (ab, acto x) (by simp)).1⟩ ?_; clear hK K
 refine Loud.lex_l rfl rfl (fun K hK => ?_); go_simp; refine (GR.out _ H4.out.ref).mono ?_; rintro e v4 ⟨rfl, hp4, hk4⟩; have H5 := Lib.hid (H4.out.stepR hp4 hk4); clear hp4 hk4; refine ⟨_, rfl, ?_⟩; go_simp; refine hK _ _ ⟨H5.out.blk, (H5.out.keep (ab, acto x) (by simp)).1⟩ ?_; clear hK K
 iterate 2 (refine Loud.lex_qe rfl rfl ?_; apply Exists.intro; refine ⟨fun wq hq => ?_, Loud.norm fun K hK => ?_⟩; (go_simp; try rfl); go_simp; refine hK _ ?_; clear hK K)
 refine Loud.lex_nil ?_
 simp only [List.drop_succ_cons, List.drop_zero]
 go_wp2_with fail
 go_returns
 exact ⟨by simp, b, r, sv, P, s', H5.out.less, HK2.out, HOK.out.2⟩
set_option maxRecDepth 100000 in
set_option maxHeartbeats 16000000 in
theorem does_6 (w0 W : World) (p b r : Nat) (sv : Value) (P : PSt) (s : BS) (x : Act5) (h : PW w0 [] p b r sv P s s W) (ok : s.Ok) (hP : P.Ok) (ht : x.text.length ≤ 2000) (ho : x.other.length ≤ 2000) (hk : x.op.toNat % 9 = 6) :
  Calls Tryz.prog 24 #[.pointer (some ⟨p, 0, none⟩), actv x] W (PlX w0 p) := by
 unfold PlX actv
 have H1 := Lib.hid (h.more (acto x) (acto_ty x).1 (acto_ty x).2)
 obtain ⟨ab, hab⟩ : ∃ ab, W.heap.size = ab := ⟨_, rfl⟩
 have hrm : (x.op.toNat : Int).tmod 9 = 6 := by rw [Int.tmod_eq_emod_of_nonneg (by omega)]; omega
 have hwr : IntKind.u8.wrap 6 = 6 := by decide
 have HOK := Lib.hid (And.intro ok hP)
 have GN := Lib.hid (fun W => nonce15F x.text x.fit W (by omega))
 have hun : U64 x.n.toNat := by have := x.n.toNat_lt; unfold U64; omega
 have hwu : IntKind.u64.wrap (x.n.toNat : Int) = (x.n.toNat : Int) := by have := x.n.toNat_lt; rw [IntKind.wrap_u64]; omega
 obtain ⟨v, er, hU, hvl⟩ := PutR.total s ok [112] (nonceF x.text x.fit) x.other x.n.toNat ho
 have GP : Hid (∀ W2, ProgB w0 b s W2 → Calls Tryz.prog 16 #[.pointer (some ⟨b, 0, none⟩), .string { data := #[112] }, .int .u64 (x.n.toNat : Int), .string (bs (nonceF x.text x.fit)), .string (bs x.other)] W2 (StP w0 b s (.tuple #[.string (bs v), .int .i64 er]) W2)) := Lib.hid (fun W2 hB => hU.prog ok hB hun (by simp) (by omega))
 have GR : Hid (∀ W2, RefS w0.heap.size r s W2 → Calls Tryz.prog 54 #[.pointer (some ⟨r, 0, none⟩), .string { data := #[112] }, .int .u64 (x.n.toNat : Int), .string (bs (nonceF x.text x.fit)), .string (bs x.other)] W2 (StR w0.heap.size r s (.tuple #[.string (bs v), .int .i64 er]) W2)) := Lib.hid (fun W2 hB => hU.ref ok hB hun (by simp) (by omega))
 have HVL := Lib.hid hvl
 unfold StP at GP
 unfold StR at GR
 generalize nonceF x.text x.fit = nn at *
 clear h ok hP ht ho hk hU hvl hun
 go_enter Tryz.func24, Tryz.ntmps24
 go_upto_region 1 with fail
 obtain ⟨W1, hW1⟩ : ∃ W1, W.alloc (acto x) = W1 := ⟨_, rfl⟩
 rw [hab, hW1] at H1
 unfold acto at hW1
 try rw [hab]
 try rw [hW1]
 clear hW1 hab
 obtain ⟨a0, a1, a2, a3, a4, a5⟩ := acto_c (H1.out.keep (ab, acto x) (by simp)).1
 go_upto_region 22 with fail
 clear a0 a1 a2 a3 a4 a5
 refine Loud.wp_region_loud (fun i => decide (i = 11 ∨ i = 14)) 20 (fun w' => w'.heap[p]? = some (plo b r sv P) ∧ w'.heap[ab]? = some (acto x)) (by kernel_rfl) (by kernel_rfl) ⟨H1.out.blk, (H1.out.keep (ab, acto x) (by simp)).1⟩ ?_
 simp only [List.take_succ_cons, List.take_zero]
 iterate 3 (refine Loud.lex_qe rfl rfl ?_; apply Exists.intro; refine ⟨fun wq hq => ?_, Loud.norm fun K hK => ?_⟩; (go_simp; try rfl); go_simp; refine hK _ ?_; clear hK K)
 refine Loud.lex_qe rfl rfl ?_; apply Exists.intro; refine ⟨fun wq hq => ?_, Loud.norm fun K hK => ?_⟩; (have hqc : wq.cell? ⟨p, 0, none⟩ = some (.pointer (some ⟨b, 0, none⟩)) := cell_blk hq.1 rfl; go_simp; try rfl); go_simp; refine hK _ ?_; clear hK K
 iterate 1 (refine Loud.lex_qe rfl rfl ?_; apply Exists.intro; refine ⟨fun wq hq => ?_, Loud.norm fun K hK => ?_⟩; (go_simp; try rfl); go_simp; refine hK _ ?_; clear hK K)
 refine Loud.lex_qe rfl rfl ?_; apply Exists.intro; refine ⟨fun wq hq => ?_, Loud.norm fun K hK => ?_⟩; (have hqc : wq.cell? ⟨ab, 3, none⟩ = some (.int .u32 (x.n.toNat : Int)) := cell_blk hq.2 rfl; go_simp; try rfl); go_simp; refine hK _ ?_; clear hK K
 iterate 2 (refine Loud.lex_qe rfl rfl ?_; apply Exists.intro; refine ⟨fun wq hq => ?_, Loud.norm fun K hK => ?_⟩; (go_simp; try rfl); go_simp; refine hK _ ?_; clear hK K)
 refine Loud.lex_qe rfl rfl ?_; apply Exists.intro; refine ⟨fun wq hq => ?_, Loud.norm fun K hK => ?_⟩; (have hqc : wq.cell? ⟨ab, 1, none⟩ = some (.string (bs x.text)) := cell_blk hq.2 rfl; go_simp; try rfl); go_simp; refine hK _ ?_; clear hK K
 iterate 1 (refine Loud.lex_qe rfl rfl ?_; apply Exists.intro; refine ⟨fun wq hq => ?_, Loud.norm fun K hK => ?_⟩; (go_simp; try rfl); go_simp; refine hK _ ?_; clear hK K)
 refine Loud.lex_qe rfl rfl ?_; apply Exists.intro; refine ⟨fun wq hq => ?_, Loud.norm fun K hK => ?_⟩; (have hqc : wq.cell? ⟨ab, 5, none⟩ = some (.bool x.fit) := cell_blk hq.2 rfl; go_simp; try rfl); go_simp; refine hK _ ?_; clear hK K
 refine Loud.lex_l rfl rfl (fun K hK => ?_); go_simp; refine (GN.out _).mono ?_; rintro e v1 ⟨rfl, hx1⟩; have H2 := Lib.hid (H1.out.next ((Ext.refl _).drew.trans hx1)); clear hx1; refine ⟨_, rfl, ?_⟩; go_simp; refine hK _ _ ⟨H2.out.blk, (H2.out.keep (ab, acto x) (by simp)).1⟩ ?_; clear hK K
 iterate 1 (refine Loud.lex_qe rfl rfl ?_; apply Exists.intro; refine ⟨fun wq hq => ?_, Loud.norm fun K hK => ?_⟩; (go_simp; try rfl); go_simp; refine hK _ ?_; clear hK K)
 refine Loud.lex_qe rfl rfl ?_; apply Exists.intro; refine ⟨fun wq hq => ?_, Loud.norm fun K hK => ?_⟩; (have hqc : wq.cell? ⟨ab, 2, none⟩ = some (.string (bs x.other)) := cell_blk hq.2 rfl; go_simp; try rfl); go_simp; refine hK _ ?_; clear hK K
 refine Loud.lex_l rfl rfl (fun K hK => ?_); go_simp; refine (GP.out _ H2.out.prog).mono ?_; rintro e v2 ⟨rfl, hp2, hk2⟩; have H3 := Lib.hid (H2.out.stepP hp2 hk2); clear hp2 hk2; refine ⟨_, rfl, ?_⟩; go_simp; refine hK _ _ ⟨H3.out.blk, (H3.out.keep (ab, acto x) (by simp)).1⟩ ?_; clear hK K
 iterate 5 (refine Loud.lex_qe rfl rfl ?_; apply Exists.intro; refine ⟨fun wq hq => ?_, Loud.norm fun K hK => ?_⟩; (go_simp; try rfl); go_simp; refine hK _ ?_; clear hK K)
 refine Loud.lex_nil ?_
 simp only [List.drop_succ_cons, List.drop_zero]
 go_upto_region 23 with fail
 refine Loud.wp_region_loud (fun i => decide (i = 11 ∨ i = 14)) 20 (fun w' => w'.heap[p]? = some (plo b r sv P) ∧ w'.heap[ab]? = some (acto x)) (by kernel_rfl) (by kernel_rfl) ⟨H3.out.blk, (H3.out.keep (ab, acto x) (by simp)).1⟩ ?_
 simp only [List.take_succ_cons, List.take_zero]
 iterate 3 (refine Loud.lex_qe rfl rfl ?_; apply Exists.intro; refine ⟨fun wq hq => ?_, Loud.norm fun K hK => ?_⟩; (go_simp; try rfl); go_simp; refine hK _ ?_; clear hK K)
 refine Loud.lex_qe rfl rfl ?_; apply Exists.intro; refine ⟨fun wq hq => ?_, Loud.norm fun K hK => ?_⟩; (have hqc : wq.cell? ⟨p, 1, none⟩ = some (.pointer (some ⟨r, 0, none⟩)) := cell_blk hq.1 rfl; go_simp; try rfl); go_simp; refine hK _ ?_; clear hK K
 iterate 1 (refine Loud.lex_qe rfl rfl ?_; apply Exists.intro; refine ⟨fun wq hq => ?_, Loud.norm fun K hK => ?_⟩; (go_simp; try rfl); go_simp; refine hK _ ?_; clear hK K)
 refine Loud.lex_qe rfl rfl ?_; apply Exists.intro; refine ⟨fun wq hq => ?_, Loud.norm fun K hK => ?_⟩; (have hqc : wq.cell? ⟨ab, 3, none⟩ = some (.int .u32 (x.n.toNat : Int)) := cell_blk hq.2 rfl; go_simp; try rfl); go_simp; refine hK _ ?_; clear hK K
 iterate 2 (refine Loud.lex_qe rfl rfl ?_; apply Exists.intro; refine ⟨fun wq hq => ?_, Loud.norm fun K hK => ?_⟩; (go_simp; try rfl); go_simp; refine hK _ ?_; clear hK K)
 refine Loud.lex_qe rfl rfl ?_; apply Exists.intro; refine ⟨fun wq hq => ?_, Loud.norm fun K hK => ?_⟩; (have hqc : wq.cell? ⟨ab, 1, none⟩ = some (.string (bs x.text)) := cell_blk hq.2 rfl; go_simp; try rfl); go_simp; refine hK _ ?_; clear hK K
 iterate 1 (refine Loud.lex_qe rfl rfl ?_; apply Exists.intro; refine ⟨fun wq hq => ?_, Loud.norm fun K hK => ?_⟩; (go_simp; try rfl); go_simp; refine hK _ ?_; clear hK K)
 refine Loud.lex_qe rfl rfl ?_; apply Exists.intro; refine ⟨fun wq hq => ?_, Loud.norm fun K hK => ?_⟩; (have hqc : wq.cell? ⟨ab, 5, none⟩ = some (.bool x.fit) := cell_blk hq.2 rfl; go_simp; try rfl); go_simp; refine hK _ ?_; clear hK K
 refine Loud.lex_l rfl rfl (fun K hK => ?_); go_simp; refine (GN.out _).mono ?_; rintro e v3 ⟨rfl, hx3⟩; have H4 := Lib.hid (H3.out.next ((Ext.refl _).drew.trans hx3)); clear hx3; refine ⟨_, rfl, ?_⟩; go_simp; refine hK _ _ ⟨H4.out.blk, (H4.out.keep (ab, acto x) (by simp)).1⟩ ?_; clear hK K
 iterate 1 (refine Loud.lex_qe rfl rfl ?_; apply Exists.intro; refine ⟨fun wq hq => ?_, Loud.norm fun K hK => ?_⟩; (go_simp; try rfl); go_simp; refine hK _ ?_; clear hK K)
 refine Loud.lex_qe rfl rfl ?_; apply Exists.intro; refine ⟨fun wq hq => ?_, Loud.norm fun K hK => ?_⟩; (have hqc : wq.cell? ⟨ab, 2, none⟩ = some (.string (bs x.other)) := cell_blk hq.2 rfl; go_simp; try rfl); go_simp; refine hK _ ?_; clear hK K
 refine Loud.lex_l rfl rfl (fun K hK => ?_); go_simp; refine (GR.out _ H4.out.ref).mono ?_; rintro e v4 ⟨rfl, hp4, hk4⟩; have H5 := Lib.hid (H4.out.stepR hp4 hk4); clear hp4 hk4; refine ⟨_, rfl, ?_⟩; go_simp; refine hK _ _ ⟨H5.out.blk, (H5.out.keep (ab, acto x) (by simp)).1⟩ ?_; clear hK K
 iterate 5 (refine Loud.lex_qe rfl rfl ?_; apply Exists.intro; refine ⟨fun wq hq => ?_, Loud.norm fun K hK => ?_⟩; (go_simp; try rfl); go_simp; refine hK _ ?_; clear hK K)
 refine Loud.lex_nil ?_
 simp only [List.drop_succ_cons, List.drop_zero]
 by_cases her : er = 0
 ·subst her
  obtain ⟨d0, d1, d2, d3, d4, d5, hf⟩ := H5.out.cells
  obtain ⟨_, _, _, a3, _, _⟩ := acto_c (H5.out.keep (ab, acto x) (by simp)).1
  have hf4 := hf 4
  clear hf d0 d1 d2 d3 d5
  go_upto_region 26 with fail
  have HS1 := Lib.hid (H5.out.set (i := 4) (v := .string (bs v)) (P' := ⟨P.sh, P.hd, v, P.n⟩) (heap_setCell_same (i := 4) _ H5.out.blk) (H5.out.set_prog H5.out.prog _ _) (H5.out.set_ref H5.out.ref _ _) (H5.out.set_row H5.out.row _ _))
  obtain ⟨wA, hwA⟩ : ∃ wA, v4.setCell ⟨p, 4, none⟩ (.string (bs v)) = wA := ⟨_, rfl⟩
  rw [hwA] at HS1
  try rw [hwA]
  clear hwA hf4 d4 a3
  obtain ⟨d0, d1, d2, d3, d4, d5, hf⟩ := HS1.out.cells
  obtain ⟨_, _, _, a3, _, _⟩ := acto_c (HS1.out.keep (ab, acto x) (by simp)).1
  have hf5 := hf 5
  clear hf d0 d1 d2 d3 d4
  go_wp2_with fail
  go_returns
  have HS2 := HS1.out.set (i := 5) (v := .int .u64 (x.n.toNat : Int)) (P' := ⟨P.sh, P.hd, v, x.n.toNat⟩) (heap_setCell_same (i := 5) _ HS1.out.blk) (HS1.out.set_prog HS1.out.prog _ _) (HS1.out.set_ref HS1.out.ref _ _) (HS1.out.set_row HS1.out.row _ _)
  exact ⟨by simp, b, r, sv, _, s, HS2.less, HOK.out.1, ⟨HOK.out.2.few, HOK.out.2.len, HOK.out.2.hdl, HVL.out, by have := x.n.toNat_lt; show x.n.toNat < 18446744073709551616; omega⟩⟩
 ·have her1 : (er == 0) = false := by simpa using her
  clear her
  go_wp2_with fail
  go_returns
  exact ⟨by simp, b, r, sv, P, s, H5.out.less, HOK.out.1, HOK.out.2⟩
set_option maxRecDepth 100000 in
set_option maxHeartbeats 16000000 in
theorem does_7 (w0 W : World) (p b r : Nat) (sv : Value) (P : PSt) (s : BS) (x : Act5) (h : PW w0 [] p b r sv P s s W) (ok : s.Ok) (hP : P.Ok) (ht : x.text.length ≤ 2000) (ho : x.other.length ≤ 2000) (hk : x.op.toNat % 9 = 7) :
  Calls Tryz.prog 24 #[.pointer (some ⟨p, 0, none⟩), actv x] W (PlX w0 p) := by
 unfold PlX actv
 have H1 := Lib.hid (h.more (acto x) (acto_ty x).1 (acto_ty x).2)
 obtain ⟨ab, hab⟩ : ∃ ab, W.heap.size = ab := ⟨_, rfl⟩
 have hrm : (x.op.toNat : Int).tmod 9 = 7 := by rw [Int.tmod_eq_emod_of_nonneg (by omega)]; omega
 have hwr : IntKind.u8.wrap 7 = 7 := by decide
 have HOK := Lib.hid (And.intro ok hP)
 obtain ⟨v, er, hU⟩ := GetR.total s ok [112] P.n P.put
 have hpl := hP.putl
 have hpn := hP.num
 have GP : Hid (∀ W2, ProgB w0 b s W2 → Calls Tryz.prog 21 #[.pointer (some ⟨b, 0, none⟩), .string { data := #[112] }, .int .u64 (P.n : Int), .string (bs P.put)] W2 (StP w0 b s (.tuple #[.string (bs v), .int .i64 er]) W2)) := Lib.hid (fun W2 hB => hU.prog ok hB hpn (by simp) (by omega))
 have GR : Hid (∀ W2, RefS w0.heap.size r s W2 → Calls Tryz.prog 55 #[.pointer (some ⟨r, 0, none⟩), .string { data := #[112] }, .int .u64 (P.n : Int), .string (bs P.put)] W2 (StR w0.heap.size r s (.tuple #[.string (bs v), .int .i64 er]) W2)) := Lib.hid (fun W2 hB => hU.ref ok hB hpn (by simp) (by omega))
 unfold StP at GP
 unfold StR at GR
 clear h ok hP ht ho hk hU hpl hpn
 go_enter Tryz.func24, Tryz.ntmps24
 go_upto_region 1 with fail
 obtain ⟨W1, hW1⟩ : ∃ W1, W.alloc (acto x) = W1 := ⟨_, rfl⟩
 rw [hab, hW1] at H1
 unfold acto at hW1
 try rw [hab]
 try rw [hW1]
 clear hW1 hab
 obtain ⟨a0, a1, a2, a3, a4, a5⟩ := acto_c (H1.out.keep (ab, acto x) (by simp)).1
 go_upto_region 29 with fail
 clear a0 a1 a2 a3 a4 a5
 refine Loud.wp_region_loud (fun i => decide (i = 12)) 18 (fun w' => w'.heap[p]? = some (plo b r sv P) ∧ w'.heap[ab]? = some (acto x)) (by kernel_rfl) (by kernel_rfl) ⟨H1.out.blk, (H1.out.keep (ab, acto x) (by simp)).1⟩ ?_
 simp only [List.take_succ_cons, List.take_zero]
 iterate 3 (refine Loud.lex_qe rfl rfl ?_; apply Exists.intro; refine ⟨fun wq hq => ?_, Loud.norm fun K hK => ?_⟩; (go_simp; try rfl); go_simp; refine hK _ ?_; clear hK K)
 refine Loud.lex_qe rfl rfl ?_; apply Exists.intro; refine ⟨fun wq hq => ?_, Loud.norm fun K hK => ?_⟩; (have hqc : wq.cell? ⟨p, 0, none⟩ = some (.pointer (some ⟨b, 0, none⟩)) := cell_blk hq.1 rfl; go_simp; try rfl); go_simp; refine hK _ ?_; clear hK K
 iterate 3 (refine Loud.lex_qe rfl rfl ?_; apply Exists.intro; refine ⟨fun wq hq => ?_, Loud.norm fun K hK => ?_⟩; (go_simp; try rfl); go_simp; refine hK _ ?_; clear hK K)
 refine Loud.lex_qe rfl rfl ?_; apply Exists.intro; refine ⟨fun wq hq => ?_, Loud.norm fun K hK => ?_⟩; (have hqc : wq.cell? ⟨p, 5, none⟩ = some (.int .u64 (P.n : Int)) := cell_blk hq.1 rfl; go_simp; try rfl); go_simp; refine hK _ ?_; clear hK K
 iterate 3 (refine Loud.lex_qe rfl rfl ?_; apply Exists.intro; refine ⟨fun wq hq => ?_, Loud.norm fun K hK => ?_⟩; (go_simp; try rfl); go_simp; refine hK _ ?_; clear hK K)
 refine Loud.lex_qe rfl rfl ?_; apply Exists.intro; refine ⟨fun wq hq => ?_, Loud.norm fun K hK => ?_⟩; (have hqc : wq.cell? ⟨p, 4, none⟩ = some (.string (bs P.put)) := cell_blk hq.1 rfl; go_simp; try rfl); go_simp; refine hK _ ?_; clear hK K
 refine Loud.lex_l rfl rfl (fun K hK => ?_); go_simp; have HD1 := Lib.hid (H1.out.next (Ext.refl _).drew); refine (GP.out _ HD1.out.prog).mono ?_; rintro e v1 ⟨rfl, hp1, hk1⟩; have H2 := Lib.hid (HD1.out.stepP hp1 hk1); clear hp1 hk1; refine ⟨_, rfl, ?_⟩; go_simp; refine hK _ _ ⟨H2.out.blk, (H2.out.keep (ab, acto x) (by simp)).1⟩ ?_; clear hK K
 iterate 5 (refine Loud.lex_qe rfl rfl ?_; apply Exists.intro; refine ⟨fun wq hq => ?_, Loud.norm fun K hK => ?_⟩; (go_simp; try rfl); go_simp; refine hK _ ?_; clear hK K)
 refine Loud.lex_nil ?_
 simp only [List.drop_succ_cons, List.drop_zero]
 go_upto_region 30 with fail
 refine Loud.wp_region_loud (fun i => decide (i = 12)) 18 (fun w' => w'.heap[p]? = some (plo b r sv P) ∧ w'.heap[ab]? = some (acto x)) (by kernel_rfl) (by kernel_rfl) ⟨H2.out.blk, (H2.out.keep (ab, acto x) (by simp)).1⟩ ?_
 simp only [List.take_succ_cons, List.take_zero]
 iterate 3 (refine Loud.lex_qe rfl rfl ?_; apply Exists.intro; refine ⟨fun wq hq => ?_, Loud.norm fun K hK => ?_⟩; (go_simp; try rfl); go_simp; refine hK _ ?_; clear hK K)
 refine Loud.lex_qe rfl rfl ?_; apply Exists.intro; refine ⟨fun wq hq => ?_, Loud.norm fun K hK => ?_⟩; (have hqc : wq.cell? ⟨p, 1, none⟩ = some (.pointer (some ⟨r, 0, none⟩)) := cell_blk hq.1 rfl; go_simp; try rfl); go_simp; refine hK _ ?_; clear hK K
 iterate 3 (refine Loud.lex_qe rfl rfl ?_; apply Exists.intro; refine ⟨fun wq hq => ?_, Loud.norm fun K hK => ?_⟩; (go_simp; try rfl); go_simp; refine hK _ ?_; clear hK K)
 refine Loud.lex_qe rfl rfl ?_; apply Exists.intro; refine ⟨fun wq hq => ?_, Loud.norm fun K hK => ?_⟩; (have hqc : wq.cell? ⟨p, 5, none⟩ = some (.int .u64 (P.n : Int)) := cell_blk hq.1 rfl; go_simp; try rfl); go_simp; refine hK _ ?_; clear hK K
 iterate 3 (refine Loud.lex_qe rfl rfl ?_; apply Exists.intro; refine ⟨fun wq hq => ?_, Loud.norm fun K hK => ?_⟩; (go_simp; try rfl); go_simp; refine hK _ ?_; clear hK K)
 refine Loud.lex_qe rfl rfl ?_; apply Exists.intro; refine ⟨fun wq hq => ?_, Loud.norm fun K hK => ?_⟩; (have hqc : wq.cell? ⟨p, 4, none⟩ = some (.string (bs P.put)) := cell_blk hq.1 rfl; go_simp; try rfl); go_simp; refine hK _ ?_; clear hK K
 refine Loud.lex_l rfl rfl (fun K hK => ?_); go_simp; have HD2 := Lib.hid (H2.out.next (Ext.refl _).drew); refine (GR.out _ HD2.out.ref).mono ?_; rintro e v2 ⟨rfl, hp2, hk2⟩; have H3 := Lib.hid (HD2.out.stepR hp2 hk2); clear hp2 hk2; refine ⟨_, rfl, ?_⟩; go_simp; refine hK _ _ ⟨H3.out.blk, (H3.out.keep (ab, acto x) (by simp)).1⟩ ?_; clear hK K
 iterate 5 (refine Loud.lex_qe rfl rfl ?_; apply Exists.intro; refine ⟨fun wq hq => ?_, Loud.norm fun K hK => ?_⟩; (go_simp; try rfl); go_simp; refine hK _ ?_; clear hK K)
 refine Loud.lex_nil ?_
 simp only [List.drop_succ_cons, List.drop_zero]
 go_wp2_with fail
 go_returns
 exact ⟨by simp, b, r, sv, P, s, H3.out.less, HOK.out.1, HOK.out.2⟩
set_option maxRecDepth 100000 in
set_option maxHeartbeats 16000000 in
theorem does_8 (w0 W : World) (p b r : Nat) (sv : Value) (P : PSt) (s : BS) (x : Act5) (h : PW w0 [] p b r sv P s s W) (ok : s.Ok) (hP : P.Ok) (ht : x.text.length ≤ 2000) (ho : x.other.length ≤ 2000) (hk : x.op.toNat % 9 = 8) :
  Calls Tryz.prog 24 #[.pointer (some ⟨p, 0, none⟩), actv x] W (PlX w0 p) := by
 unfold PlX actv
 have H1 := Lib.hid (h.more (acto x) (acto_ty x).1 (acto_ty x).2)
 obtain ⟨ab, hab⟩ : ∃ ab, W.heap.size = ab := ⟨_, rfl⟩
 have hrm : (x.op.toNat : Int).tmod 9 = 8 := by rw [Int.tmod_eq_emod_of_nonneg (by omega)]; omega
 have hwr : IntKind.u8.wrap 8 = 8 := by decide
 have HOK := Lib.hid (And.intro ok hP)
 clear h ok hP ht ho hk
 go_enter Tryz.func24, Tryz.ntmps24
 go_upto_region 1 with fail
 obtain ⟨W1, hW1⟩ : ∃ W1, W.alloc (acto x) = W1 := ⟨_, rfl⟩
 rw [hab, hW1] at H1
 unfold acto at hW1
 try rw [hab]
 try rw [hW1]
 clear hW1 hab
 obtain ⟨a0, a1, a2, a3, a4, a5⟩ := acto_c (H1.out.keep (ab, acto x) (by simp)).1
 have GNW := Lib.hid (bar_New_c w0 W1 [] H1.out.ext (by simp))
 obtain ⟨d0, d1, _, _, _, _, hf⟩ := H1.out.cells
 clear a1 a2 a3 a4 a5
 go_upto_region 33 with (go_at_call 8; (with_reducible refine GNW.out.mono ?_); rintro e w2 ⟨b2, bg, bm, rfl, h2, _, _, _, hx2⟩; have HC2 := Lib.hid h2; have H2 := Lib.hid (H1.out.next hx2); have f0 : w2.frozen? ⟨p, 0, none⟩ = false := H2.out.cells.2.2.2.2.2.2 0; have e0 := hx2.cell_of d0; clear h2 hx2)
 have HS1 := Lib.hid (H2.out.set (i := 0) (v := .pointer (some ⟨b2, 0, none⟩)) (b' := b2) (s1' := BS.zero) (heap_setCell_same (i := 0) _ H2.out.blk) (H2.out.set_prog (.inr ⟨by simp [BS.zero], bg, bm, 0, HC2.out⟩) _ _) (H2.out.set_ref H2.out.ref _ _) (H2.out.set_row H2.out.row _ _))
 obtain ⟨wA, hwA⟩ : ∃ wA, w2.setCell ⟨p, 0, none⟩ (.pointer (some ⟨b2, 0, none⟩)) = wA := ⟨_, rfl⟩
 rw [hwA] at HS1
 try rw [hwA]
 clear hwA d0 d1 hf f0 e0 GNW
 have HS2 := Lib.hid (HS1.out.next ((Ext.refl wA).alloc (rbo 0 [] [] none (.slice none 0 0))))
 have HB2 := Lib.hid (heap_alloc_new wA (rbo 0 [] [] none (.slice none 0 0)))
 obtain ⟨d0, d1, _, _, _, _, hf⟩ := HS2.out.cells
 have hf1 := hf 1
 obtain ⟨wB, hwB⟩ : ∃ wB, wA.alloc (rbo 0 [] [] none (.slice none 0 0)) = wB := ⟨_, rfl⟩
 obtain ⟨rN, hrN⟩ : ∃ rN, wA.heap.size = rN := ⟨_, rfl⟩
 rw [hwB] at HS2 d0 d1 hf1 HB2
 rw [hrN] at HB2
 have HWB : Hid (wA.alloc (.cells #[.int .u8 0, .string { data := #[] }, .string { data := #[] }, .pointer none, .slice none 0 0] 63) = wB) := Lib.hid hwB
 have hzz : wA.alloc (.cells #[.int .u8 0, .string { data := #[] }, .string { data := #[] }, .pointer none, .slice none 0 0] 63) = wB := HWB.out
 have HRN : Hid (w0.heap.size ≤ rN) := Lib.hid (by rw [← hrN]; exact HS1.out.ext.size)
 clear hf hwB
 go_wp2_with fail
 go_returns
 have hR : RefS w0.heap.size rN BS.zero wB := .inr ⟨by simp [BS.zero], .slice none 0 0, HB2.out, HRN.out, World.ownsRow_nil _ _ _ _⟩
 have HS3 := HS2.out.set (i := 1) (v := .pointer (some ⟨rN, 0, none⟩)) (r' := rN) (s2' := BS.zero) (heap_setCell_same (i := 1) _ HS2.out.blk) (HS2.out.set_prog HS2.out.prog _ _) (HS2.out.set_ref hR _ _) (HS2.out.set_row HS2.out.row _ _)
 exact ⟨rfl, b2, rN, sv, P, BS.zero, HS3.less, BS.zero_ok, HOK.out.2⟩
theorem does15 (w0 W : World) (p b r : Nat) (sv : Value) (P : PSt) (s : BS) (x : Act5) (h : PW w0 [] p b r sv P s s W) (ok : s.Ok) (hP : P.Ok) (ht : x.text.length ≤ 2000) (ho : x.other.length ≤ 2000) :
  Calls Tryz.prog 24 #[.pointer (some ⟨p, 0, none⟩), actv x] W (PlX w0 p) := by
 have hk : x.op.toNat % 9 < 9 := Nat.mod_lt _ (by omega)
 by_cases h0 : x.op.toNat % 9 = 0
 ·exact does_0 w0 W p b r sv P s x h ok hP ht ho h0
 by_cases h1 : x.op.toNat % 9 = 1
 ·cases hf : x.fit with
  | true => exact does_1t w0 W p b r sv P s x h ok hP ht ho h1 hf
  | false => exact does_1f w0 W p b r sv P s x h ok hP ht ho h1 hf
 by_cases h2 : x.op.toNat % 9 = 2
 ·exact does_2 w0 W p b r sv P s x h ok hP ht ho h2
 by_cases h3 : x.op.toNat % 9 = 3
 ·exact does_3 w0 W p b r sv P s x h ok hP ht ho h3
 by_cases h4 : x.op.toNat % 9 = 4
 ·exact does_4 w0 W p b r sv P s x h ok hP ht ho h4
 by_cases h5 : x.op.toNat % 9 = 5
 ·exact does_5 w0 W p b r sv P s x h ok hP ht ho h5
 by_cases h6 : x.op.toNat % 9 = 6
 ·exact does_6 w0 W p b r sv P s x h ok hP ht ho h6
 by_cases h7 : x.op.toNat % 9 = 7
 ·exact does_7 w0 W p b r sv P s x h ok hP ht ho h7
 exact does_8 w0 W p b r sv P s x h ok hP ht ho (by omega)
end Go.Proofs.YtclekllaikcglaaGreat
