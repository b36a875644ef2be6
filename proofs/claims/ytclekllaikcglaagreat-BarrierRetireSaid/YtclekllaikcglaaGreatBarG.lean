/- Layer 15: Unseal, the last share. -/
import Derived.Test.YtclekllaikcglaaGreatBarB
import Derived.Test.YtclekllaikcglaaGreatGatherE
import Derived.Maps.AppendAt
namespace Go.Proofs.YtclekllaikcglaaGreat
open Go Go.RowKit

def UnX (w0 : World) (F : List (Nat × Obj)) (b bg bm : Nat) (hd : List UInt8) (E : Eps) (root : List UInt8) (e : Ending) (w' : World) : Prop :=
  e = .returned (.tuple #[.bool true, .int .i64 0]) ∧ ∃ a : BA, a.b = b ∧ a.bg = bg ∧ a.bm = bm ∧ BarO w0 F a hd [] E (lastE E) root w'
def RdN (E : Eps) (w : World) (e : Ending) (w' : World) : Prop := ∃ r m, e = .returned (.tuple #[.pointer (some ⟨r, 0, none⟩), .int .i64 0]) ∧ RingAt w' r m E (lastE E) ∧ w.heap.size ≤ r ∧ w.heap.size ≤ m ∧ Ext w w'
theorem read_new (s : List UInt8) (E : Eps) (W : World) (hs : s.length ≤ 1000000) (h : readE s = some E) : Calls Tryz.prog 38 #[.string (bs s)] W (RdN E W) := by
  refine (ring_Read s W hs).mono ?_
  rintro e w' (⟨h1, _⟩ | ⟨E1, r, m, h1, rfl, _, _, h2, h3, h4, h5⟩)
  · rw [h] at h1; cases h1
  · rw [h] at h1; injection h1 with h1; subst h1; exact ⟨r, m, rfl, h2, h3, h4, h5⟩
theorem BarC.open {w0 w w' : World} {F : List (Nat × Obj)} {b bg bm c st r m rr mr n : Nat} {hd root : List UInt8} {gs : GS} {E : Eps} (h : BarC w0 F b bg bm c st hd gs w) (hb : But [b] w w') (hc : BCell w' b (some ⟨r, 0, none⟩) 2 hd (some ⟨rr, 0, none⟩) bg)
    (hr : RingAt w r m E n) (ht : RingAt w rr mr [(1, root)] 1) (B C : Nat) (h1 : b < B ∧ bg < B ∧ bm < B) (h2 : B ≤ rr ∧ B ≤ mr ∧ rr < C ∧ mr < C) (h3 : C ≤ r ∧ C ≤ m) (hF : ∀ x ∈ F, x.1 < B) (hsz : w0.heap.size ≤ B) : BarO w0 F ⟨b, bg, bm, r, m, rr, mr, c⟩ hd gs E n root w' := by
  obtain ⟨l1, l2, l3⟩ := h.lo
  obtain ⟨n1, n2⟩ := h.nd
  obtain ⟨hgm, _⟩ := h.got
  have hrm := map_ne hr
  have htm := map_ne ht
  refine ⟨But.ext h.ext hb (by simp; omega), hc, hr.keep (hb.block _ hr.lt.1 (by simp; omega)) (hb.block _ hr.lt.2 (by simp; omega)), ht.keep (hb.block _ ht.lt.1 (by simp; omega)) (hb.block _ ht.lt.2 (by simp; omega)), h.got.but hb (by simp; omega) (by simp; omega), ?_, ?_, ?_, ?_⟩
  · intro x hx
    simp only [BA.all, List.mem_cons, List.not_mem_nil, or_false] at hx
    omega
  · simp only [BA.all, List.nodup_cons, List.mem_cons, List.not_mem_nil, or_false, not_or, not_false_eq_true, List.nodup_nil, and_true]
    omega
  · intro x hx
    exact hb.keep (h.keep x hx) (fun hm => h.off x hx (by simp at hm ⊢; omega))
  · intro x hx hm
    have h5 := h.off x hx
    have h6 := hF x hx
    simp only [BA.all, List.mem_cons, List.not_mem_nil, or_false] at hm
    simp only [List.mem_cons, List.not_mem_nil, or_false, not_or] at h5
    omega
set_option maxRecDepth 100000 in
set_option maxHeartbeats 8000000 in
theorem bar_Unseal_open (w0 w : World) (F : List (Nat × Obj)) (b bg bm c : Nat) (x : UInt8) (t : List UInt8) (gs gs' : GS) (s : List UInt8) (i : Nat) (y root text : List UInt8) (E : Eps) (h : BarC w0 F b bg bm c 1 (x :: t) gs w) (hs : s.length ≤ 1000) (hf : Fit x gs gs' s i y) (hn : secretS gs' = some root)
    (hrl : root.length = 32) (ho : openAny [(1, root)] lblB x.toNat t = (text, 0)) (hre : readE text = some E) (htl : t.length ≤ 1000000) (hxl : text.length ≤ 1000000) :
    Calls Tryz.prog 13 #[.pointer (some ⟨b, 0, none⟩), .string (bs s)] w (UnX w0 F b bg bm (x :: t) E root) := by
  have G := Lib.hid (bar_is1 h.cell)
  have hrv : readV s = .tuple #[.int .i64 (i : Int), .int .i64 (x.toNat : Int), .string (bs y), .int .i64 0] := by unfold readV; rw [hf.read]
  have GR := Lib.hid (fun W => hrv ▸ Read_any s W (by omega))
  have GHV := Lib.hid (fun W (h : BarC w0 F b bg bm c 1 (x :: t) gs W) => Have_any W bg bm c gs (by have := hf.small.1; omega) h.got)
  have GF := Lib.hid (fun W (h : BarC w0 F b bg bm c 1 (x :: t) gs W) => bar_fits h.cell y hf.len)
  have GA : Hid (∀ W, BarC w0 F b bg bm c 1 (x :: t) gs W → Calls Tryz.prog 34 #[.pointer (some ⟨bg, 0, none⟩), .string (bs s)] W fun e w' => e = .returned (.int .i64 0) ∧ BarC w0 F b bg bm c 1 (x :: t) gs' w') := Lib.hid (fun W h => (Add_any W bg bm c gs s (by omega) (by have := hf.small.1; omega) h.got).mono (by
    rintro e w' ⟨he, hp, hb⟩
    rw [hf.add] at he hp
    exact ⟨he, h.gput hp hb⟩))
  have GS := Lib.hid (fun W (h : BarC w0 F b bg bm c 1 (x :: t) gs' W) => secretV_some root ▸ hn ▸ Secret_any W bg bm c gs' (by have := hf.small.2; omega) h.got)
  have GD : Hid (∀ W, BarC w0 F b bg bm c 1 (x :: t) gs' W → Calls Tryz.prog 36 #[.pointer (some ⟨bg, 0, none⟩)] W fun e w' => e = .returned (.tuple #[]) ∧ BarC w0 F b bg bm (c + gs'.length) 1 (x :: t) [] w') := Lib.hid (fun W h => (Drop_any W bg bm c gs' h.got).mono (by
    rintro e w' ⟨he, hp, hb⟩
    exact ⟨he, h.gput hp hb⟩))
  have GN := Lib.hid (fun W => ring_New root W hrl)
  have GO : Hid (∀ rr mr W, RingAt W rr mr [(1, root)] 1 → Calls Tryz.prog 37 #[.pointer (some ⟨rr, 0, none⟩), .string { data := #[98, 97, 114, 114, 105, 101, 114] }, .int .u64 (x.toNat : Int), .string (bs t)] W fun e w' => e = .returned (.tuple #[.string (bs text), .int .i64 0]) ∧ Ext W w') :=
    Lib.hid (fun rr mr W hr => by
      have := Open_any rr mr [(1, root)] 1 lblB t x.toNat W hr (by omega) (by omega) (by simp [hrl]) (by have := x.toNat_lt; unfold U64; omega) (by decide)
      rw [ho] at this
      exact this)
  have GRD := Lib.hid (fun W => read_new text E W hxl hre)
  have iS : ∀ W, (Instr.index 9 (.string (bs (x :: t))) (.int .i64 0)).run Tryz.prog W = .ok (.int .u8 (x.toNat : Int)) W := fun W => run_index_str (x :: t) 0 (by simp) W
  have hw64 : IntKind.u64.wrap (x.toNat : Int) = (x.toNat : Int) := by have := x.toNat_lt; rw [IntKind.wrap_u64]; omega
  have hex : (bs (x :: t)).extract 1 (t.length + 1) = bs t := by rw [bs_extract]; simp
  generalize (haveS gs).1 = hv1 at *
  generalize (haveS gs).2 = hv2 at *
  have H := Lib.hid h
  have c4 := h.cell.c4
  have ha : (x :: t).length = t.length + 1 := rfl
  have ht1 : (1 : Int) ≤ (t.length : Int) + 1 := by omega
  obtain ⟨hd, hhd⟩ : ∃ hd, x :: t = hd := ⟨_, rfl⟩
  rw [hhd] at GHV GA GS GD H iS hex ha ⊢
  have GF2 : Hid (∀ W, BarC w0 F b bg bm c 1 hd gs W → Calls Tryz.prog 33 #[.pointer (some ⟨b, 0, none⟩), .int .i64 (x.toNat : Int), .string (bs y)] W fun e w' => e = .returned (.bool true) ∧ W = w') := hhd ▸ GF
  obtain ⟨c2n, hc2n⟩ : ∃ k, c + gs'.length = k := ⟨_, rfl⟩
  rw [hc2n] at GD
  clear h hs hf hn hrv hrl ho hre hxl hhd GF hc2n
  by_cases hz : hv1 = 0
  · subst hz
    go_enter Tryz.func13, Tryz.ntmps13
    go_upto_region 8 with (first
      | (go_at_call 27; (with_reducible refine G.out.mono ?_); rintro e w' ⟨rfl, rfl⟩)
      | (go_at_call 31; (with_reducible refine (GR.out _).mono ?_); rintro e w1 ⟨rfl, hx1⟩; have H1 := Lib.hid (H.out.next hx1); have c4a := H1.out.cell.c4; clear hx1)
      | (go_at_call 32; (with_reducible refine (GHV.out _ H1.out).mono ?_); rintro e w2 ⟨rfl, hx2⟩; have H2 := Lib.hid (H1.out.next hx2); have c4b := H2.out.cell.c4; clear hx2)
      | (go_at_call 33; (with_reducible refine (GF2.out _ H2.out).mono ?_); rintro e w' ⟨rfl, rfl⟩))
    go_upto_region 16 with (first
      | (go_at_call 34; (with_reducible refine (GA.out _ H2.out).mono ?_); rintro e w3 ⟨rfl, h3⟩; have H3 := Lib.hid h3; have c4c := H3.out.cell.c4; clear h3)
      | (go_at_call 35; (with_reducible refine (GS.out _ H3.out).mono ?_); rintro e w4 ⟨rfl, hx4⟩; have H4 := Lib.hid (H3.out.next hx4); have c4d := H4.out.cell.c4; clear hx4)
      | (go_at_call 36; (with_reducible refine (GD.out _ H4.out).mono ?_); rintro e w5 ⟨rfl, h5⟩; have H5 := Lib.hid h5; clear h5)
      | (go_at_call 28; (with_reducible refine (GN.out _).mono ?_); rintro e w6 ⟨rr, mr, rfl, q1, q2, q3, q4, q5⟩; have HT := Lib.hid (And.intro q1 (And.intro q2 q4)); have H6 := Lib.hid (H5.out.next q5); have HX6 := Lib.hid q5; clear q1 q2 q3 q4 q5))
    have c2 := H6.out.cell.c2
    clear c4 c4a c4b c4c c4d G GR GHV GF2 GA GS GD GN H H1 H2 H3 H4
    refine Loud.wp_region_weave 18 w6 (Loud.sps [.val (.pointer (some ⟨rr, 0, none⟩)), .val (.pointer (some ⟨b, 0, none⟩)), .val (.pointer (some ⟨b, 0, none⟩)), .val (.pointer (some ⟨b, 2, none⟩)), .val (.string (bs hd)), .val (.int .u8 (x.toNat : Int)), .val (.int .u64 (x.toNat : Int)), .val (.pointer (some ⟨b, 0, none⟩)), .val (.pointer (some ⟨b, 0, none⟩)), .val (.pointer (some ⟨b, 2, none⟩)), .val (.string (bs hd)), .val (.string (bs t)), .val (.tuple #[.string (bs text), .int .i64 0]), .val (.tuple #[.string (bs text), .int .i64 0]), .val (.string (bs text)), .val (.int .i64 0), .val (.string (bs text)), .val (.int .i64 0)]) (by kernel_rfl) (by kernel_rfl) (by show Ext _ _; repeat (first | exact Ext.refl _ | assumption | (with_reducible refine Ext.drew ?_) | (with_reducible refine Ext.drewN ?_ _) | (with_reducible refine Ext.alloc ?_ _) | (refine Ext.trans ?_ (by assumption)))) (Loud.sps_st _) ?wAx1 ?whAx1 ?whSx1 ?whFx1
    case whAx1 => intro u K hK; simp only [List.take_succ_cons, List.take_zero, Loud.puts]; go_simp; exact hK
    case whSx1 =>
      simp only [List.take_succ_cons, List.take_zero, Loud.stepsW]
      refine ⟨?wsx1_0, ?wsx1_1, ?wsx1_2, ?wsx1_3, ?wsx1_4, ?wsx1_5, ?wsx1_6, ?wsx1_7, ?wsx1_8, ?wsx1_9, ?wsx1_10, ?wsx1_11, ?wsx1_12, ?wsx1_13, ?wsx1_14, ?wsx1_15, ?wsx1_16, ?wsx1_17, trivial⟩
      case wsx1_0 =>
        intro u β wq hq h
        repeat (obtain ⟨h1, h⟩ := h; first | (replace h1 := h1 rfl; simp only [go_sem] at h1; try (obtain ⟨h1, h1b⟩ := h1)) | (have hno := (h1 : Region.binds _ _ = true → _); clear hno h1))
        refine Or.inl ⟨rfl, fun K hK => ?_⟩
        go_simp
        exact hK _ 0 _ (Ext.refl _) rfl
      case wsx1_1 =>
        intro u β wq hq h
        repeat (obtain ⟨h1, h⟩ := h; first | (replace h1 := h1 rfl; simp only [go_sem] at h1; try (obtain ⟨h1, h1b⟩ := h1)) | (have hno := (h1 : Region.binds _ _ = true → _); clear hno h1))
        refine Or.inl ⟨rfl, fun K hK => ?_⟩
        go_simp
        exact hK _ 0 _ (Ext.refl _) rfl
      case wsx1_2 =>
        intro u β wq hq h
        repeat (obtain ⟨h1, h⟩ := h; first | (replace h1 := h1 rfl; simp only [go_sem] at h1; try (obtain ⟨h1, h1b⟩ := h1)) | (have hno := (h1 : Region.binds _ _ = true → _); clear hno h1))
        refine Or.inl ⟨rfl, fun K hK => ?_⟩
        go_simp
        exact hK _ 0 _ (Ext.refl _) rfl
      case wsx1_3 =>
        intro u β wq hq h
        repeat (obtain ⟨h1, h⟩ := h; first | (replace h1 := h1 rfl; simp only [go_sem] at h1; try (obtain ⟨h1, h1b⟩ := h1)) | (have hno := (h1 : Region.binds _ _ = true → _); clear hno h1))
        refine Or.inl ⟨rfl, fun K hK => ?_⟩
        go_simp
        exact hK _ 0 _ (Ext.refl _) rfl
      case wsx1_4 =>
        intro u β wq hq h
        repeat (obtain ⟨h1, h⟩ := h; first | (replace h1 := h1 rfl; simp only [go_sem] at h1; try (obtain ⟨h1, h1b⟩ := h1)) | (have hno := (h1 : Region.binds _ _ = true → _); clear hno h1))
        refine Or.inl ⟨rfl, fun K hK => ?_⟩
        have hqc := hq.cell_of c2
        go_simp
        exact hK _ 0 _ (Ext.refl _) rfl
      case wsx1_5 =>
        intro u β wq hq h
        repeat (obtain ⟨h1, h⟩ := h; first | (replace h1 := h1 rfl; simp only [go_sem] at h1; try (obtain ⟨h1, h1b⟩ := h1)) | (have hno := (h1 : Region.binds _ _ = true → _); clear hno h1))
        refine Or.inl ⟨rfl, fun K hK => ?_⟩
        go_simp
        exact hK _ 0 _ (Ext.refl _) rfl
      case wsx1_6 =>
        intro u β wq hq h
        repeat (obtain ⟨h1, h⟩ := h; first | (replace h1 := h1 rfl; simp only [go_sem] at h1; try (obtain ⟨h1, h1b⟩ := h1)) | (have hno := (h1 : Region.binds _ _ = true → _); clear hno h1))
        refine Or.inl ⟨rfl, fun K hK => ?_⟩
        go_simp
        exact hK _ 0 _ (Ext.refl _) rfl
      case wsx1_7 =>
        intro u β wq hq h
        repeat (obtain ⟨h1, h⟩ := h; first | (replace h1 := h1 rfl; simp only [go_sem] at h1; try (obtain ⟨h1, h1b⟩ := h1)) | (have hno := (h1 : Region.binds _ _ = true → _); clear hno h1))
        refine Or.inl ⟨rfl, fun K hK => ?_⟩
        go_simp
        exact hK _ 0 _ (Ext.refl _) rfl
      case wsx1_8 =>
        intro u β wq hq h
        repeat (obtain ⟨h1, h⟩ := h; first | (replace h1 := h1 rfl; simp only [go_sem] at h1; try (obtain ⟨h1, h1b⟩ := h1)) | (have hno := (h1 : Region.binds _ _ = true → _); clear hno h1))
        refine Or.inl ⟨rfl, fun K hK => ?_⟩
        go_simp
        exact hK _ 0 _ (Ext.refl _) rfl
      case wsx1_9 =>
        intro u β wq hq h
        repeat (obtain ⟨h1, h⟩ := h; first | (replace h1 := h1 rfl; simp only [go_sem] at h1; try (obtain ⟨h1, h1b⟩ := h1)) | (have hno := (h1 : Region.binds _ _ = true → _); clear hno h1))
        refine Or.inl ⟨rfl, fun K hK => ?_⟩
        go_simp
        exact hK _ 0 _ (Ext.refl _) rfl
      case wsx1_10 =>
        intro u β wq hq h
        repeat (obtain ⟨h1, h⟩ := h; first | (replace h1 := h1 rfl; simp only [go_sem] at h1; try (obtain ⟨h1, h1b⟩ := h1)) | (have hno := (h1 : Region.binds _ _ = true → _); clear hno h1))
        refine Or.inl ⟨rfl, fun K hK => ?_⟩
        have hqc := hq.cell_of c2
        go_simp
        exact hK _ 0 _ (Ext.refl _) rfl
      case wsx1_11 =>
        intro u β wq hq h
        repeat (obtain ⟨h1, h⟩ := h; first | (replace h1 := h1 rfl; simp only [go_sem] at h1; try (obtain ⟨h1, h1b⟩ := h1)) | (have hno := (h1 : Region.binds _ _ = true → _); clear hno h1))
        refine Or.inl ⟨rfl, fun K hK => ?_⟩
        go_simp
        exact hK _ 0 _ (Ext.refl _) rfl
      case wsx1_12 =>
        intro u β wq hq h
        repeat (obtain ⟨h1, h⟩ := h; first | (replace h1 := h1 rfl; simp only [go_sem] at h1; try (obtain ⟨h1, h1b⟩ := h1)) | (have hno := (h1 : Region.binds _ _ = true → _); clear hno h1))
        refine Or.inl ⟨rfl, fun K hK => ?_⟩
        go_simp
        refine (GO.out rr mr _ (HT.out.2.2.ext (by assumption))).mono ?_; rintro e w1 ⟨rfl, hx1⟩; exact ⟨_, rfl, hK _ 0 _ hx1 rfl⟩
      case wsx1_13 =>
        intro u β wq hq h
        repeat (obtain ⟨h1, h⟩ := h; first | (replace h1 := h1 rfl; simp only [go_sem] at h1; try (obtain ⟨h1, h1b⟩ := h1)) | (have hno := (h1 : Region.binds _ _ = true → _); clear hno h1))
        refine Or.inl ⟨rfl, fun K hK => ?_⟩
        go_simp
        exact hK _ 0 _ (Ext.refl _) rfl
      case wsx1_14 =>
        intro u β wq hq h
        repeat (obtain ⟨h1, h⟩ := h; first | (replace h1 := h1 rfl; simp only [go_sem] at h1; try (obtain ⟨h1, h1b⟩ := h1)) | (have hno := (h1 : Region.binds _ _ = true → _); clear hno h1))
        refine Or.inl ⟨rfl, fun K hK => ?_⟩
        go_simp
        exact hK _ 0 _ (Ext.refl _) rfl
      case wsx1_15 =>
        intro u β wq hq h
        repeat (obtain ⟨h1, h⟩ := h; first | (replace h1 := h1 rfl; simp only [go_sem] at h1; try (obtain ⟨h1, h1b⟩ := h1)) | (have hno := (h1 : Region.binds _ _ = true → _); clear hno h1))
        refine Or.inl ⟨rfl, fun K hK => ?_⟩
        go_simp
        exact hK _ 0 _ (Ext.refl _) rfl
      case wsx1_16 =>
        intro u β wq hq h
        repeat (obtain ⟨h1, h⟩ := h; first | (replace h1 := h1 rfl; simp only [go_sem] at h1; try (obtain ⟨h1, h1b⟩ := h1)) | (have hno := (h1 : Region.binds _ _ = true → _); clear hno h1))
        refine Or.inl ⟨rfl, fun K hK => ?_⟩
        go_simp
        exact hK _ 0 _ (Ext.refl _) rfl
      case wsx1_17 =>
        intro u β wq hq h
        repeat (obtain ⟨h1, h⟩ := h; first | (replace h1 := h1 rfl; simp only [go_sem] at h1; try (obtain ⟨h1, h1b⟩ := h1)) | (have hno := (h1 : Region.binds _ _ = true → _); clear hno h1))
        refine Or.inl ⟨rfl, fun K hK => ?_⟩
        go_simp
        exact hK _ 0 _ (Ext.refl _) rfl
    intro u β w7 hq h
    have h0 := h 0 (by omega)
    have h1 := h 1 (by omega)
    have h2 := h 2 (by omega)
    have h3 := h 3 (by omega)
    have h4 := h 4 (by omega)
    have h5 := h 5 (by omega)
    have h6 := h 6 (by omega)
    have h7 := h 7 (by omega)
    have h8 := h 8 (by omega)
    have h9 := h 9 (by omega)
    have h10 := h 10 (by omega)
    have h11 := h 11 (by omega)
    have h12 := h 12 (by omega)
    have h13 := h 13 (by omega)
    have h14 := h 14 (by omega)
    have h15 := h 15 (by omega)
    have h16 := h 16 (by omega)
    have h17 := h 17 (by omega)
    clear h
    simp only [go_sem] at h0 h1 h2 h3 h4 h5 h6 h7 h8 h9 h10 h11 h12 h13 h14 h15 h16 h17
    simp only [List.drop_succ_cons, List.drop_zero]
    rw [h17]
    have e16 := h16
    have H7 := Lib.hid (H6.out.next hq)
    have HX7 := Lib.hid hq
    clear h0 h1 h2 h3 h4 h5 h6 h7 h8 h9 h10 h11 h12 h13 h14 h15 h16 h17 c2 hq
    rw [e16]
    clear e16
    go_upto_region 20 with (go_at_call 38; (with_reducible refine (GRD.out _).mono ?_); rintro e w8 ⟨r, m, rfl, hr, hr1, hr2, hx8⟩; have HR8 := Lib.hid (And.intro hr (And.intro hr1 hr2)); have HX8 := Lib.hid hx8; have H8 := Lib.hid (H7.out.next hx8); clear hr hr1 hr2 hx8)
    have c0 := H8.out.cell.c0
    have c1 := H8.out.cell.c1
    have c3 := H8.out.cell.c3
    have f0 := H8.out.cell.fz 0
    have f1 := H8.out.cell.fz 1
    have f3 := H8.out.cell.fz 3
    go_wp2_with fail
    go_returns
    obtain ⟨t1, t2, t3⟩ := HT.out
    obtain ⟨r1, r2, r3⟩ := HR8.out
    have s6 := HX6.out.size
    have s7 := HX7.out.size
    have tl := t3.lt
    have hbl := blk_lt H5.out.cell
    obtain ⟨_, n1, s1, _, _, k3, k4, _⟩ := H5.out.got
    have hg1 := blk_lt k3
    have hg2 := blk_lt k4
    refine ⟨rfl, ⟨b, bg, bm, r, m, rr, mr, c2n⟩, rfl, rfl, rfl, H8.out.open (((but_set _ _ _ _).trans (but_set _ _ _ _)).trans (but_set _ _ _ _)) (((H8.out.cell.set0 _).set3 _).set1 2) r1 ((t3.ext HX7.out).ext HX8.out) w5.heap.size w7.heap.size ⟨hbl, hg1, hg2⟩ ⟨t1, t2, by omega, by omega⟩ ⟨r2, r3⟩ (fun z hz => blk_lt (H5.out.keep z hz)) H5.out.ext.size⟩
  · have hz1 : ((hv1 : Int) == 0) = false := by simp; omega
    clear hz
    go_enter Tryz.func13, Tryz.ntmps13
    go_upto_region 8 with (first
      | (go_at_call 27; (with_reducible refine G.out.mono ?_); rintro e w' ⟨rfl, rfl⟩)
      | (go_at_call 31; (with_reducible refine (GR.out _).mono ?_); rintro e w1 ⟨rfl, hx1⟩; have H1 := Lib.hid (H.out.next hx1); have c4a := H1.out.cell.c4; clear hx1)
      | (go_at_call 32; (with_reducible refine (GHV.out _ H1.out).mono ?_); rintro e w2 ⟨rfl, hx2⟩; have H2 := Lib.hid (H1.out.next hx2); have c4b := H2.out.cell.c4; clear hx2))
    go_upto_region 16 with (first
      | (go_at_call 34; (with_reducible refine (GA.out _ H2.out).mono ?_); rintro e w3 ⟨rfl, h3⟩; have H3 := Lib.hid h3; have c4c := H3.out.cell.c4; clear h3)
      | (go_at_call 35; (with_reducible refine (GS.out _ H3.out).mono ?_); rintro e w4 ⟨rfl, hx4⟩; have H4 := Lib.hid (H3.out.next hx4); have c4d := H4.out.cell.c4; clear hx4)
      | (go_at_call 36; (with_reducible refine (GD.out _ H4.out).mono ?_); rintro e w5 ⟨rfl, h5⟩; have H5 := Lib.hid h5; clear h5)
      | (go_at_call 28; (with_reducible refine (GN.out _).mono ?_); rintro e w6 ⟨rr, mr, rfl, q1, q2, q3, q4, q5⟩; have HT := Lib.hid (And.intro q1 (And.intro q2 q4)); have H6 := Lib.hid (H5.out.next q5); have HX6 := Lib.hid q5; clear q1 q2 q3 q4 q5))
    have c2 := H6.out.cell.c2
    clear c4 c4a c4b c4c c4d G GR GHV GF2 GA GS GD GN H H1 H2 H3 H4
    refine Loud.wp_region_weave 18 w6 (Loud.sps [.val (.pointer (some ⟨rr, 0, none⟩)), .val (.pointer (some ⟨b, 0, none⟩)), .val (.pointer (some ⟨b, 0, none⟩)), .val (.pointer (some ⟨b, 2, none⟩)), .val (.string (bs hd)), .val (.int .u8 (x.toNat : Int)), .val (.int .u64 (x.toNat : Int)), .val (.pointer (some ⟨b, 0, none⟩)), .val (.pointer (some ⟨b, 0, none⟩)), .val (.pointer (some ⟨b, 2, none⟩)), .val (.string (bs hd)), .val (.string (bs t)), .val (.tuple #[.string (bs text), .int .i64 0]), .val (.tuple #[.string (bs text), .int .i64 0]), .val (.string (bs text)), .val (.int .i64 0), .val (.string (bs text)), .val (.int .i64 0)]) (by kernel_rfl) (by kernel_rfl) (by show Ext _ _; repeat (first | exact Ext.refl _ | assumption | (with_reducible refine Ext.drew ?_) | (with_reducible refine Ext.drewN ?_ _) | (with_reducible refine Ext.alloc ?_ _) | (refine Ext.trans ?_ (by assumption)))) (Loud.sps_st _) ?wAx2 ?whAx2 ?whSx2 ?whFx2
    case whAx2 => intro u K hK; simp only [List.take_succ_cons, List.take_zero, Loud.puts]; go_simp; exact hK
    case whSx2 =>
      simp only [List.take_succ_cons, List.take_zero, Loud.stepsW]
      refine ⟨?wsx2_0, ?wsx2_1, ?wsx2_2, ?wsx2_3, ?wsx2_4, ?wsx2_5, ?wsx2_6, ?wsx2_7, ?wsx2_8, ?wsx2_9, ?wsx2_10, ?wsx2_11, ?wsx2_12, ?wsx2_13, ?wsx2_14, ?wsx2_15, ?wsx2_16, ?wsx2_17, trivial⟩
      case wsx2_0 =>
        intro u β wq hq h
        repeat (obtain ⟨h1, h⟩ := h; first | (replace h1 := h1 rfl; simp only [go_sem] at h1; try (obtain ⟨h1, h1b⟩ := h1)) | (have hno := (h1 : Region.binds _ _ = true → _); clear hno h1))
        refine Or.inl ⟨rfl, fun K hK => ?_⟩
        go_simp
        exact hK _ 0 _ (Ext.refl _) rfl
      case wsx2_1 =>
        intro u β wq hq h
        repeat (obtain ⟨h1, h⟩ := h; first | (replace h1 := h1 rfl; simp only [go_sem] at h1; try (obtain ⟨h1, h1b⟩ := h1)) | (have hno := (h1 : Region.binds _ _ = true → _); clear hno h1))
        refine Or.inl ⟨rfl, fun K hK => ?_⟩
        go_simp
        exact hK _ 0 _ (Ext.refl _) rfl
      case wsx2_2 =>
        intro u β wq hq h
        repeat (obtain ⟨h1, h⟩ := h; first | (replace h1 := h1 rfl; simp only [go_sem] at h1; try (obtain ⟨h1, h1b⟩ := h1)) | (have hno := (h1 : Region.binds _ _ = true → _); clear hno h1))
        refine Or.inl ⟨rfl, fun K hK => ?_⟩
        go_simp
        exact hK _ 0 _ (Ext.refl _) rfl
      case wsx2_3 =>
        intro u β wq hq h
        repeat (obtain ⟨h1, h⟩ := h; first | (replace h1 := h1 rfl; simp only [go_sem] at h1; try (obtain ⟨h1, h1b⟩ := h1)) | (have hno := (h1 : Region.binds _ _ = true → _); clear hno h1))
        refine Or.inl ⟨rfl, fun K hK => ?_⟩
        go_simp
        exact hK _ 0 _ (Ext.refl _) rfl
      case wsx2_4 =>
        intro u β wq hq h
        repeat (obtain ⟨h1, h⟩ := h; first | (replace h1 := h1 rfl; simp only [go_sem] at h1; try (obtain ⟨h1, h1b⟩ := h1)) | (have hno := (h1 : Region.binds _ _ = true → _); clear hno h1))
        refine Or.inl ⟨rfl, fun K hK => ?_⟩
        have hqc := hq.cell_of c2
        go_simp
        exact hK _ 0 _ (Ext.refl _) rfl
      case wsx2_5 =>
        intro u β wq hq h
        repeat (obtain ⟨h1, h⟩ := h; first | (replace h1 := h1 rfl; simp only [go_sem] at h1; try (obtain ⟨h1, h1b⟩ := h1)) | (have hno := (h1 : Region.binds _ _ = true → _); clear hno h1))
        refine Or.inl ⟨rfl, fun K hK => ?_⟩
        go_simp
        exact hK _ 0 _ (Ext.refl _) rfl
      case wsx2_6 =>
        intro u β wq hq h
        repeat (obtain ⟨h1, h⟩ := h; first | (replace h1 := h1 rfl; simp only [go_sem] at h1; try (obtain ⟨h1, h1b⟩ := h1)) | (have hno := (h1 : Region.binds _ _ = true → _); clear hno h1))
        refine Or.inl ⟨rfl, fun K hK => ?_⟩
        go_simp
        exact hK _ 0 _ (Ext.refl _) rfl
      case wsx2_7 =>
        intro u β wq hq h
        repeat (obtain ⟨h1, h⟩ := h; first | (replace h1 := h1 rfl; simp only [go_sem] at h1; try (obtain ⟨h1, h1b⟩ := h1)) | (have hno := (h1 : Region.binds _ _ = true → _); clear hno h1))
        refine Or.inl ⟨rfl, fun K hK => ?_⟩
        go_simp
        exact hK _ 0 _ (Ext.refl _) rfl
      case wsx2_8 =>
        intro u β wq hq h
        repeat (obtain ⟨h1, h⟩ := h; first | (replace h1 := h1 rfl; simp only [go_sem] at h1; try (obtain ⟨h1, h1b⟩ := h1)) | (have hno := (h1 : Region.binds _ _ = true → _); clear hno h1))
        refine Or.inl ⟨rfl, fun K hK => ?_⟩
        go_simp
        exact hK _ 0 _ (Ext.refl _) rfl
      case wsx2_9 =>
        intro u β wq hq h
        repeat (obtain ⟨h1, h⟩ := h; first | (replace h1 := h1 rfl; simp only [go_sem] at h1; try (obtain ⟨h1, h1b⟩ := h1)) | (have hno := (h1 : Region.binds _ _ = true → _); clear hno h1))
        refine Or.inl ⟨rfl, fun K hK => ?_⟩
        go_simp
        exact hK _ 0 _ (Ext.refl _) rfl
      case wsx2_10 =>
        intro u β wq hq h
        repeat (obtain ⟨h1, h⟩ := h; first | (replace h1 := h1 rfl; simp only [go_sem] at h1; try (obtain ⟨h1, h1b⟩ := h1)) | (have hno := (h1 : Region.binds _ _ = true → _); clear hno h1))
        refine Or.inl ⟨rfl, fun K hK => ?_⟩
        have hqc := hq.cell_of c2
        go_simp
        exact hK _ 0 _ (Ext.refl _) rfl
      case wsx2_11 =>
        intro u β wq hq h
        repeat (obtain ⟨h1, h⟩ := h; first | (replace h1 := h1 rfl; simp only [go_sem] at h1; try (obtain ⟨h1, h1b⟩ := h1)) | (have hno := (h1 : Region.binds _ _ = true → _); clear hno h1))
        refine Or.inl ⟨rfl, fun K hK => ?_⟩
        go_simp
        exact hK _ 0 _ (Ext.refl _) rfl
      case wsx2_12 =>
        intro u β wq hq h
        repeat (obtain ⟨h1, h⟩ := h; first | (replace h1 := h1 rfl; simp only [go_sem] at h1; try (obtain ⟨h1, h1b⟩ := h1)) | (have hno := (h1 : Region.binds _ _ = true → _); clear hno h1))
        refine Or.inl ⟨rfl, fun K hK => ?_⟩
        go_simp
        refine (GO.out rr mr _ (HT.out.2.2.ext (by assumption))).mono ?_; rintro e w1 ⟨rfl, hx1⟩; exact ⟨_, rfl, hK _ 0 _ hx1 rfl⟩
      case wsx2_13 =>
        intro u β wq hq h
        repeat (obtain ⟨h1, h⟩ := h; first | (replace h1 := h1 rfl; simp only [go_sem] at h1; try (obtain ⟨h1, h1b⟩ := h1)) | (have hno := (h1 : Region.binds _ _ = true → _); clear hno h1))
        refine Or.inl ⟨rfl, fun K hK => ?_⟩
        go_simp
        exact hK _ 0 _ (Ext.refl _) rfl
      case wsx2_14 =>
        intro u β wq hq h
        repeat (obtain ⟨h1, h⟩ := h; first | (replace h1 := h1 rfl; simp only [go_sem] at h1; try (obtain ⟨h1, h1b⟩ := h1)) | (have hno := (h1 : Region.binds _ _ = true → _); clear hno h1))
        refine Or.inl ⟨rfl, fun K hK => ?_⟩
        go_simp
        exact hK _ 0 _ (Ext.refl _) rfl
      case wsx2_15 =>
        intro u β wq hq h
        repeat (obtain ⟨h1, h⟩ := h; first | (replace h1 := h1 rfl; simp only [go_sem] at h1; try (obtain ⟨h1, h1b⟩ := h1)) | (have hno := (h1 : Region.binds _ _ = true → _); clear hno h1))
        refine Or.inl ⟨rfl, fun K hK => ?_⟩
        go_simp
        exact hK _ 0 _ (Ext.refl _) rfl
      case wsx2_16 =>
        intro u β wq hq h
        repeat (obtain ⟨h1, h⟩ := h; first | (replace h1 := h1 rfl; simp only [go_sem] at h1; try (obtain ⟨h1, h1b⟩ := h1)) | (have hno := (h1 : Region.binds _ _ = true → _); clear hno h1))
        refine Or.inl ⟨rfl, fun K hK => ?_⟩
        go_simp
        exact hK _ 0 _ (Ext.refl _) rfl
      case wsx2_17 =>
        intro u β wq hq h
        repeat (obtain ⟨h1, h⟩ := h; first | (replace h1 := h1 rfl; simp only [go_sem] at h1; try (obtain ⟨h1, h1b⟩ := h1)) | (have hno := (h1 : Region.binds _ _ = true → _); clear hno h1))
        refine Or.inl ⟨rfl, fun K hK => ?_⟩
        go_simp
        exact hK _ 0 _ (Ext.refl _) rfl
    intro u β w7 hq h
    have h0 := h 0 (by omega)
    have h1 := h 1 (by omega)
    have h2 := h 2 (by omega)
    have h3 := h 3 (by omega)
    have h4 := h 4 (by omega)
    have h5 := h 5 (by omega)
    have h6 := h 6 (by omega)
    have h7 := h 7 (by omega)
    have h8 := h 8 (by omega)
    have h9 := h 9 (by omega)
    have h10 := h 10 (by omega)
    have h11 := h 11 (by omega)
    have h12 := h 12 (by omega)
    have h13 := h 13 (by omega)
    have h14 := h 14 (by omega)
    have h15 := h 15 (by omega)
    have h16 := h 16 (by omega)
    have h17 := h 17 (by omega)
    clear h
    simp only [go_sem] at h0 h1 h2 h3 h4 h5 h6 h7 h8 h9 h10 h11 h12 h13 h14 h15 h16 h17
    simp only [List.drop_succ_cons, List.drop_zero]
    rw [h17]
    have e16 := h16
    have H7 := Lib.hid (H6.out.next hq)
    have HX7 := Lib.hid hq
    clear h0 h1 h2 h3 h4 h5 h6 h7 h8 h9 h10 h11 h12 h13 h14 h15 h16 h17 c2 hq
    rw [e16]
    clear e16
    go_upto_region 20 with (go_at_call 38; (with_reducible refine (GRD.out _).mono ?_); rintro e w8 ⟨r, m, rfl, hr, hr1, hr2, hx8⟩; have HR8 := Lib.hid (And.intro hr (And.intro hr1 hr2)); have HX8 := Lib.hid hx8; have H8 := Lib.hid (H7.out.next hx8); clear hr hr1 hr2 hx8)
    have c0 := H8.out.cell.c0
    have c1 := H8.out.cell.c1
    have c3 := H8.out.cell.c3
    have f0 := H8.out.cell.fz 0
    have f1 := H8.out.cell.fz 1
    have f3 := H8.out.cell.fz 3
    go_wp2_with fail
    go_returns
    obtain ⟨t1, t2, t3⟩ := HT.out
    obtain ⟨r1, r2, r3⟩ := HR8.out
    have s6 := HX6.out.size
    have s7 := HX7.out.size
    have tl := t3.lt
    have hbl := blk_lt H5.out.cell
    obtain ⟨_, n1, s1, _, _, k3, k4, _⟩ := H5.out.got
    have hg1 := blk_lt k3
    have hg2 := blk_lt k4
    refine ⟨rfl, ⟨b, bg, bm, r, m, rr, mr, c2n⟩, rfl, rfl, rfl, H8.out.open (((but_set _ _ _ _).trans (but_set _ _ _ _)).trans (but_set _ _ _ _)) (((H8.out.cell.set0 _).set3 _).set1 2) r1 ((t3.ext HX7.out).ext HX8.out) w5.heap.size w7.heap.size ⟨hbl, hg1, hg2⟩ ⟨t1, t2, by omega, by omega⟩ ⟨r2, r3⟩ (fun z hz => blk_lt (H5.out.keep z hz)) H5.out.ext.size⟩
end Go.Proofs.YtclekllaikcglaaGreat
namespace Go.Proofs.YtclekllaikcglaaGreat
open Go Go.RowKit

def shU (root : List UInt8) (l : List (List UInt8)) : List (List UInt8) := l ++ [lastS root l]
theorem shU_length (root : List UInt8) (l : List (List UInt8)) : (shU root l).length = l.length + 1 := by simp [shU]
theorem shU_len (root : List UInt8) (l : List (List UInt8)) (hr : root.length = 32) (hl : ∀ s ∈ l, s.length = 32) : ∀ s ∈ shU root l, s.length = 32 := by
  intro s hs
  rcases List.mem_append.1 hs with hs | hs
  · exact hl s hs
  · simp at hs; subst hs; rw [lastS_length root l (fun x hx => by rw [hl x hx, hr])]; exact hr
theorem shU_secret (root : List UInt8) (l : List (List UInt8)) (hr : root.length = 32) (hl : ∀ s ∈ l, s.length = 32) : lastS (List.replicate 32 0) (shU root l) = root := all_secret 32 root l hr hl
theorem shsL_at (root : List UInt8) (l : List (List UInt8)) (i : Nat) (hi : i < l.length + 1) : (shsL root l)[i]'(by rw [shsL_length]; exact hi) = shareB (i + 1) (l.length + 1) ((shU root l).getD i []) := by
  by_cases h : i < l.length
  · simp only [shsL]
    rw [List.getElem_append_left (by rw [shares_length]; exact h)]
    have e : (l ++ [lastS root l])[i]?.getD [] = l[i] := by rw [List.getElem?_append_left h, List.getElem?_eq_getElem h]; rfl
    simp only [shares, shU, List.getD, e]
    simp
  · obtain rfl : i = l.length := by omega
    simp only [shsL]
    rw [List.getElem_append_right (by rw [shares_length]; exact Nat.le_refl _)]
    simp [shU, List.getD]
theorem readS_share (i m : Nat) (s : List UInt8) (hi : i < m) (hm : m ≤ 16) (hs : s.length = 32) : readS (shareB (i + 1) m s) = some (i + 1, m, s) := by
  unfold readS shareB
  simp only [b8_toNat (i + 1) (by omega), b8_toNat m (by omega)]
  rw [if_pos (by omega)]
def gotJ (m : Nat) (U : List (List UInt8)) (J : List Nat) : GS := J.map fun j => (j + 1, m, U.getD j [])
theorem gotJ_snoc (m : Nat) (U : List (List UInt8)) (J : List Nat) (j : Nat) : gotJ m U (J ++ [j]) = gotJ m U J ++ [(j + 1, m, U.getD j [])] := by simp [gotJ]
theorem getD_len {U : List (List UInt8)} (hU : ∀ s ∈ U, s.length = 32) (j : Nat) (hj : j < U.length) : (U.getD j []).length = 32 := by
  rw [List.getD, List.getElem?_eq_getElem hj]; exact hU _ (List.getElem_mem hj)
theorem gotJ_ok {m : Nat} {U : List (List UInt8)} (hU : ∀ s ∈ U, s.length = 32) (J : List Nat) (hJ : ∀ j ∈ J, j < U.length) : ∀ x ∈ gotJ m U J, x.2.1 = m ∧ x.2.2.length = 32 := by
  intro x hx
  obtain ⟨j, hj, rfl⟩ := List.mem_map.1 hx
  exact ⟨rfl, getD_len hU j (hJ j hj)⟩
theorem fit_J {m : Nat} {U : List (List UInt8)} (hm : m ≤ 16) (hUm : U.length = m) (hU : ∀ s ∈ U, s.length = 32) (J : List Nat) (hJ : ∀ j ∈ J, j < U.length) (hl : J.length ≤ 20) (j : Nat) (hj : j < U.length) (hn : j ∉ J) :
    Fit (b8 m) (gotJ m U J) (gotJ m U (J ++ [j])) (shareB (j + 1) m (U.getD j [])) (j + 1) (U.getD j []) := by
  have hs := getD_len hU j hj
  have hr := readS_share j m (U.getD j []) (by omega) hm hs
  refine ⟨by rw [b8_toNat m (by omega)]; exact hr, hs, ?_, ?_⟩
  · rw [gotJ_snoc]
    refine add_new hr hs fun x hx => ?_
    have := gotJ_ok (m := m) hU J hJ x hx
    refine ⟨this.1, this.2, ?_⟩
    obtain ⟨k, hk, rfl⟩ := List.mem_map.1 hx
    intro e
    dsimp only at e
    exact hn (by rwa [← Nat.succ.inj e])
  · simp [gotJ]; omega
theorem secret_less {m : Nat} {U : List (List UInt8)} (hU : ∀ s ∈ U, s.length = 32) (J : List Nat) (hJ : ∀ j ∈ J, j < U.length) (hl : J.length < m) : secretS (gotJ m U J) = none :=
  secretS_less (n := m) _ (fun x hx => (gotJ_ok hU J hJ x hx).1) (by simpa [gotJ] using hl)
theorem secret_full {m : Nat} {U : List (List UInt8)} (hUm : U.length = m) (h1 : 1 ≤ m) (hU : ∀ s ∈ U, s.length = 32) (J : List Nat) (hp : J.Perm (List.range m)) : secretS (gotJ m U J) = some (lastS (List.replicate 32 0) U) := by
  have hJ : ∀ j ∈ J, j < U.length := fun j hj => by rw [hUm]; exact List.mem_range.1 (hp.mem_iff.1 hj)
  have hl := hp.length_eq
  rw [List.length_range] at hl
  rw [secretS_full (n := m) (q := 32) _ (gotJ_ok hU J hJ) (by intro e; have := congrArg List.length e; simp [gotJ] at this; subst this; simp at hl; omega) (by simp [gotJ]; omega)]
  congr 1
  refine lastS_perm ?_ _
  have e : (gotJ m U J).map (·.2.2) = J.map (fun j => U.getD j []) := by simp [gotJ]
  rw [e]
  refine (hp.map _).trans ?_
  have : (List.range m).map (fun j => U.getD j []) = U := by
    apply List.ext_getElem
    · simp [hUm]
    · intro i h1 h2
      simp [List.getD, h2]
  rw [this]
theorem hd_open (root nonce : List UInt8) (nb : Nat) (E : Eps) (n : Nat) (hI : RI E n) (hno : nonce.length = 12) : openAny [(1, root)] lblB nb (envL root 1 nonce (bytesE E) ++ tagL root lblB nb (envL root 1 nonce (bytesE E))) = (bytesE E, 0) := by
  have hbl : (bytesE E).length ≤ 1048576 := by rw [bytesE_length E hI.key]; have := hI.len; omega
  have he := ep_env root lblB nonce (bytesE E) 1 nb hno (by omega) hbl
  unfold openAny
  rw [he]
  have : lookE [(1, root)] 1 = some root := by simp [lookE]
  simp only [this]
  rw [open_close root lblB nonce (bytesE E) 1 nb hno]
  rfl
end Go.Proofs.YtclekllaikcglaaGreat
namespace Go.Proofs.YtclekllaikcglaaGreat
open Go Go.RowKit

set_option maxRecDepth 100000 in
theorem bar_Load (w0 w : World) (F : List (Nat × Obj)) (b bg bm c : Nat) (x : UInt8) (t : List UInt8) (gs : GS) (ep : Nat) (h : BarC w0 F b bg bm c 0 [] gs w) (h1 : 1 ≤ x.toNat) (h16 : x.toNat ≤ 16) (he : epR t = (ep, 0)) (ht : t.length ≤ 1000000) :
    Calls Tryz.prog 17 #[.pointer (some ⟨b, 0, none⟩), .string (bs (x :: t))] w fun e w' => e = .returned (.int .i64 0) ∧ BarC w0 F b bg bm c 1 (x :: t) gs w' := by
  have G := Lib.hid (bar_is0 h.cell)
  have ge := fun W => Epoch_any t W (by omega)
  rw [he] at ge
  have GE := Lib.hid ge
  have iS : ∀ W, (Instr.index 9 (.string (bs (x :: t))) (.int .i64 0)).run Tryz.prog W = .ok (.int .u8 (x.toNat : Int)) W := fun W => run_index_str (x :: t) 0 (by simp) W
  have hex : (bs (x :: t)).extract 1 (t.length + 1) = bs t := by rw [bs_extract]; simp
  have ha : (x :: t).length = t.length + 1 := rfl
  have ht1 : (1 : Int) ≤ (t.length : Int) + 1 := by omega
  have ht2 : decide ((t.length : Int) + 1 < 1) = false := by simp; omega
  have hx1 : decide ((x.toNat : Int) < 1) = false := by simp; omega
  have hx2 : decide ((16 : Int) < (x.toNat : Int)) = false := by simp; omega
  have H := Lib.hid h
  obtain ⟨hd, hhd⟩ : ∃ hd, x :: t = hd := ⟨_, rfl⟩
  rw [hhd] at iS hex ha ⊢
  clear ge h h1 h16 he hhd
  go_enter Tryz.func17, Tryz.ntmps17
  go_upto_region 9 with (first
    | (go_at_call 27; (with_reducible refine G.out.mono ?_); rintro e w' ⟨rfl, rfl⟩)
    | (go_at_call 42; (with_reducible refine (GE.out _).mono ?_); rintro e w1 ⟨rfl, hx1⟩; have H1 := Lib.hid (H.out.next hx1); clear hx1))
  have c1 := H1.out.cell.c1
  have c2 := H1.out.cell.c2
  have f1 := H1.out.cell.fz 1
  have f2 := H1.out.cell.fz 2
  go_wp2_with fail
  go_returns
  obtain ⟨l1, l2, l3⟩ := H1.out.lo
  obtain ⟨n1, n2⟩ := H1.out.nd
  have hb := (but_set b 2 w1 (.string (bs hd))).trans (but_set b 1 _ (.int .u8 1))
  exact ⟨rfl, But.ext H1.out.ext hb (by simp; omega), (H1.out.cell.set2 hd).set1 1, H1.out.got.but hb (by simp; omega) (by simp; omega), H1.out.lo, H1.out.nd, fun z hz => hb.keep (H1.out.keep z hz) (fun hm => H1.out.off z hz (by simp at hm ⊢; omega)), H1.out.off⟩
/-- The law's own slice is another one: block g was written, or is new. -/
theorem BarO.turn {w0 w w' : World} {F F' : List (Nat × Obj)} {a : BA} {hd : List UInt8} {gs : GS} {E : Eps} {n : Nat} {root : List UInt8} (h : BarO w0 F a hd gs E n root w) (S : List Nat) (hb : But S w w') (h0 : ∀ x ∈ S, w0.heap.size ≤ x) (hS : ∀ x ∈ S, x ∉ a.all)
    (hk : ∀ x ∈ F', w'.heap[x.1]? = some x.2) (ho : ∀ x ∈ F', x.1 ∉ a.all) : BarO w0 F' a hd gs E n root w' := by
  have nm : ∀ x ∈ a.all, x ∉ S := fun x hx hs => hS x hs hx
  refine ⟨But.ext h.ext hb h0, hb.keep h.cell (nm _ (by simp [BA.all])), h.ring.keep (hb.block _ h.ring.lt.1 (nm _ (by simp [BA.all]))) (hb.block _ h.ring.lt.2 (nm _ (by simp [BA.all]))), h.top.keep (hb.block _ h.top.lt.1 (nm _ (by simp [BA.all]))) (hb.block _ h.top.lt.2 (nm _ (by simp [BA.all]))), h.got.but hb (nm _ (by simp [BA.all])) (nm _ (by simp [BA.all])), h.lo, h.nd, hk, ho⟩
theorem BarC.turn {w0 w w' : World} {F F' : List (Nat × Obj)} {b bg bm c st : Nat} {hd : List UInt8} {gs : GS} (h : BarC w0 F b bg bm c st hd gs w) (S : List Nat) (hb : But S w w') (h0 : ∀ x ∈ S, w0.heap.size ≤ x) (hS : ∀ x ∈ S, x ∉ [b, bg, bm])
    (hk : ∀ x ∈ F', w'.heap[x.1]? = some x.2) (ho : ∀ x ∈ F', x.1 ∉ [b, bg, bm]) : BarC w0 F' b bg bm c st hd gs w' := by
  have nm : ∀ x ∈ [b, bg, bm], x ∉ S := fun x hx hs => hS x hs hx
  exact ⟨But.ext h.ext hb h0, hb.keep h.cell (nm _ (by simp)), h.got.but hb (nm _ (by simp)) (nm _ (by simp)), h.lo, h.nd, hk, ho⟩
end Go.Proofs.YtclekllaikcglaaGreat
namespace Go.Proofs.YtclekllaikcglaaGreat
open Go Go.RowKit

def shJ (N : Nat) (U : List (List UInt8)) (j : Nat) : List UInt8 := shareB (j + 1) N (U.getD j [])
theorem shJ_len {N : Nat} {U : List (List UInt8)} (hU : ∀ s ∈ U, s.length = 32) (j : Nat) (hj : j < U.length) : (shJ N U j).length = 34 := by
  simp only [shJ, shareB, List.length_cons, getD_len hU j hj]
/-- Behind the call: the slice as it was, the barrier further. -/
def UnQ (w : World) (B xb bg bm : Nat) (hd : List UInt8) (N : Nat) (U : List (List UInt8)) (E : Eps) (ka : List UInt8) (J left : List Nat) (j : Nat) (v : Value) (e : Ending) (w' : World) : Prop :=
  e = .returned (.tuple #[.bool (decide (left.length = 1)), .int .i64 0]) ∧ ∃ g cap, v = .slice (some ⟨g, 0, none⟩) left.length cap ∧ B ≤ g ∧ Row w' B 9 v (left.map fun j => strV (shJ N U j)) ∧
    (left.length = 1 → ∃ A : BA, A.b = xb ∧ g ∉ A.all ∧ BarO w [] A hd [] E (lastE E) ka w') ∧ (left.length ≠ 1 → ∃ c, BarC w [] xb bg bm c 1 hd (gotJ N U (J ++ [j])) w')
theorem left_unseal (w W : World) (B xb bg bm c N : Nat) (U : List (List UInt8)) (E : Eps) (ka T text : List UInt8) (J left : List Nat) (v : Value) (k : Nat) (hk : k < left.length) (hrow : Row W B 9 v (left.map fun j => strV (shJ N U j)))
    (hB : xb < B ∧ bg < B ∧ bm < B) (hc : BarC w [] xb bg bm c 1 (b8 N :: T) (gotJ N U J) W) (hp : (J ++ left).Perm (List.range N)) (hN : N ≤ 16) (hUl : U.length = N) (hU : ∀ s ∈ U, s.length = 32) (hs : lastS (List.replicate 32 0) U = ka) (hka : ka.length = 32)
    (ho : openAny [(1, ka)] lblB N T = (text, 0)) (hre : readE text = some E) (htl : T.length ≤ 1000000) (hxl : text.length ≤ 1000000) :
    Calls Tryz.prog 13 #[.pointer (some ⟨xb, 0, none⟩), .string (bs (shJ N U left[k]))] W (UnQ w B xb bg bm (b8 N :: T) N U E ka J left left[k] v) := by
  have hlen := hp.length_eq
  rw [List.length_append, List.length_range] at hlen
  have hnd : (J ++ left).Nodup := hp.nodup_iff.2 List.nodup_range
  have hlt : ∀ j ∈ J ++ left, j < U.length := fun j hj => by rw [hUl]; exact List.mem_range.1 (hp.mem_iff.1 hj)
  have hm : left[k] ∈ left := List.getElem_mem hk
  have hnot : left[k] ∉ J := fun h => (List.nodup_append.1 hnd).2.2 _ h _ hm rfl
  have hnb : (b8 N).toNat = N := b8_toNat N (by omega)
  have hfit := fit_J hN hUl hU J (fun j hj => hlt j (by simp [hj])) (by omega) left[k] (hlt _ (by simp [hm])) hnot
  have hsl : (shJ N U left[k]).length ≤ 1000 := by rw [shJ_len hU _ (hlt _ (by simp [hm]))]; omega
  obtain ⟨g, cap, cur, rfl, hBg, hh, hcap, _, htk⟩ : ∃ g cap cur, v = .slice (some ⟨g, 0, none⟩) left.length cap ∧ B ≤ g ∧ W.heap[g]? = some (.cells cur 9 (0, 0)) ∧ left.length ≤ cap ∧ cur.size = cap ∧ cur.toList.take left.length = left.map (fun j => strV (shJ N U j)) := by
    rcases hrow.look with ⟨_, h0⟩ | ⟨g, cap, cur, hv, h1, h2, h3, h4, h5⟩
    · have := congrArg List.length h0; simp at this; subst this; simp at hk
    · rw [List.length_map] at hv h3 h5; exact ⟨g, cap, cur, hv, h1, h2, h3, h4, h5⟩
  have hgl := blk_lt hh
  have hF : BarC w [(g, .cells cur 9 (0, 0))] xb bg bm c 1 (b8 N :: T) (gotJ N U J) W :=
    hc.turn [] (But.refl _ _) (by simp) (by simp) (by simp [hh]) (by simp; omega)
  have keepRow : ∀ w' : World, w'.heap[g]? = some (.cells cur 9 (0, 0)) → Row w' B 9 (.slice (some ⟨g, 0, none⟩) left.length cap) (left.map fun j => strV (shJ N U j)) := by
    intro w' h'
    obtain ⟨r1, r2⟩ := hrow
    refine ⟨r1, ?_⟩
    rcases r2 with r2 | ⟨g', cap', cur', hv, hg, hh', r⟩
    · exact .inl r2
    · injection hv with hv1 _ hv2
      injection hv1 with hv1
      injection hv1 with hv1
      subst hv1
      rw [hh] at hh'
      injection hh' with hh'
      injection hh' with hh1 _ _
      subst hh1
      exact .inr ⟨g, cap', cur, by rw [hv2, List.length_map], hg, h', r⟩
  unfold UnQ
  by_cases h1 : left.length = 1
  · have hleft : left = [left[k]] := by
      apply List.ext_getElem
      · simp [h1]
      · intro i hi1 hi2
        obtain rfl : i = k := by simp at hi2; omega
        simp
    have hperm : (J ++ [left[k]]).Perm (List.range N) := hleft ▸ hp
    have hsec := secret_full hUl (by omega) hU (J ++ [left[k]]) hperm
    rw [hs] at hsec
    refine (bar_Unseal_open w W _ xb bg bm c (b8 N) T _ _ _ _ _ ka text E hF hsl hfit hsec hka (by rw [hnb]; exact ho) hre htl hxl).mono ?_
    rintro e w' ⟨rfl, A, h2, _, _, h3⟩
    refine ⟨by simp [h1], g, cap, rfl, hBg, keepRow w' (h3.keep (g, .cells cur 9 (0, 0)) (by simp)), fun _ => ⟨A, h2, h3.off (g, .cells cur 9 (0, 0)) (by simp), h3.turn (F' := []) [] (But.refl _ _) (by simp) (by simp) (by simp) (by simp)⟩, fun h => absurd h1 h⟩
  · have hsec := secret_less (m := N) hU (J ++ [left[k]]) (fun j hj => by
      rcases List.mem_append.1 hj with hj | hj
      · exact hlt j (by simp [hj])
      · simp at hj; subst hj; exact hlt _ (by simp [hm])) (by simp; omega)
    refine (bar_Unseal_more w W _ xb bg bm c (b8 N) T _ _ _ _ _ hF hsl hfit hsec).mono ?_
    rintro e w' ⟨rfl, h3⟩
    exact ⟨by simp [h1], g, cap, rfl, hBg, keepRow w' (h3.keep (g, .cells cur 9 (0, 0)) (by simp)), fun h => absurd h h1, fun _ => ⟨c, h3.turn (F' := []) [] (But.refl _ _) (by simp) (by simp) (by simp) (by simp)⟩⟩
end Go.Proofs.YtclekllaikcglaaGreat
namespace Go.Proofs.YtclekllaikcglaaGreat
open Go Go.RowKit

theorem addr_add1 (g off j : Nat) : (⟨g, off, none⟩ : Addr).add j = ⟨g, off + j, none⟩ := by
  by_cases h : j = 0 <;> simp [Addr.add, h]
theorem does_appS {o : Oper} {a : Act} {w : World} {R : Value → World → Prop} (B : Nat) (hB : B ≤ w.heap.size) (v : Value) (xs : List Value) (s x : Operand)
    (ho : o.op = .call { callee := .builtin .append, args := #[s, x], argTypes := #[25, 25] }) (hs : a.eval s = v) (hown : Row w B 9 v xs)
    (g off m c : Nat) (news : List Value) (hx : a.eval x = .slice (some ⟨g, off, none⟩) m c) (hm : news.length = m) (hc : ∀ j u, news[j]? = some u → w.cell? ⟨g, off + j, none⟩ = some u) (h1 : ∀ u ∈ news, u.oneCell' = true) (hlen : xs.length + m ≤ 1000)
    (h : ∀ v' w', Row w' B 9 v' (xs ++ news) → w.grownBy w' v.ownBlock → (v'.ownBlock = v.ownBlock ∨ v'.ownBlock = some w.heap.size) → R v' w') : Loud.does Tryz.prog o a w R := by
  obtain ⟨i0, hi, hz0, hz1, hz2⟩ := info_parts2 info_str
  obtain ⟨v', w', hr, h2, h3, _, h5⟩ := run_append_own_at (P := Tryz.prog) w B 25 o.type 9 i0 _ 1 16 und_strs hi hz0 hz1 hz2 rfl (by omega) v xs.length xs hown ⟨g, off, none⟩ m c news (by omega) (by
    intro j u hj
    rw [addr_add1]
    exact hc j u hj) h1 (by unfold maxLen; omega) (by omega) hB
  unfold Loud.does execOp
  simp only [ho, resolve, invoke, builtin, Sem.run_bind, Sem.run_pure, Result.andThen_ok, List.map_toArray, List.map_cons, List.map_nil, hs, hx, hr]
  exact h v' w' (by unfold Row; rw [List.length_append, hm]; exact h2) h3 h5
theorem row_take {w : World} {B g n cap : Nat} {e : TypeId} {xs : List Value} (h : Row w B e (.slice (some ⟨g, 0, none⟩) n cap) xs) (k : Nat) (hk : k ≤ n) : Row w B e (.slice (some ⟨g, 0, none⟩) k cap) (xs.take k) := by
  have hn := h.len_eq
  have hl : (xs.take k).length = k := by rw [List.length_take]; omega
  refine ⟨by simp, ?_⟩
  rw [hl]
  rcases h.2 with ⟨h0, _⟩ | ⟨g', cap', cur, hv, hg, hh, h3, h4, h5, h6⟩
  · cases h0
  · injection hv with hv1 _ hv2
    refine .inr ⟨g', cap', cur, by rw [hv1, hv2], hg, hh, by omega, h4, h5, ?_⟩
    rw [← h6, List.take_take, Nat.mul_one, Nat.mul_one]
    congr 1; omega
theorem row_drop {w : World} {B g n cap : Nat} {e : TypeId} {xs : List Value} (h : Row w B e (.slice (some ⟨g, 0, none⟩) n cap) xs) (k : Nat) : ∀ j u, (xs.drop k)[j]? = some u → w.cell? ⟨g, k + j, none⟩ = some u := by
  intro j u hj
  rw [List.getElem?_drop] at hj
  obtain ⟨hi, hv⟩ := List.getElem?_eq_some_iff.1 hj
  rw [h.cellAt (k + j) hi, hv]
end Go.Proofs.YtclekllaikcglaaGreat
