/- The statements of layer 6: the walk of ShareGathers. -/
import Derived.Test.YtgjaefolmnelcaaLaw06c
namespace Go.Proofs.Ytgjaefolmnelcaa
open Go Go.RowKit

theorem addS_ok (gs : GS) (s : List UInt8) (h : ∀ x ∈ gs, 1 ≤ x.2.2.length) : ∀ x ∈ (addS gs s).2, 1 ≤ x.2.2.length := by
  unfold addS
  cases hr : readS s with
  | none => exact h
  | some r =>
    obtain ⟨i, n, t⟩ := r
    have ht := (readS_some hr).1
    simp only
    split
    · exact h
    · split
      · exact h
      · intro x hx
        simp only [List.mem_append, List.mem_singleton] at hx
        rcases hx with hx | rfl
        · exact h x hx
        · exact ht
theorem addS_len (gs : GS) (s : List UInt8) : (addS gs s).2.length ≤ gs.length + 1 := by
  unfold addS
  cases readS s with
  | none => simp
  | some r =>
    obtain ⟨i, n, t⟩ := r
    simp only
    split
    · simp
    · split <;> simp
theorem secretS_ne {w : World} {bg bm c : Nat} {l : GS} (h : PG w bg bm c l) (hok : ∀ x ∈ l, 1 ≤ x.2.2.length) {s : List UInt8} (hs : secretS l = some s) : s.isEmpty = false := by
  obtain ⟨_, n, size, _, _, _, _, k5⟩ := h
  match l, hs, hok, k5 with
  | x :: m, hs, hok, k5 =>
    simp only [secretS] at hs
    split at hs
    · cases hs
    · simp only [Option.some.injEq] at hs
      have hx := (k5 x (by simp)).2
      have hl := lastS_length x.2.2 (m.map (·.2.2)) (fun y hy => by
        obtain ⟨z, hz, rfl⟩ := List.mem_map.1 hy
        rw [(k5 z (by simp [hz])).2, hx])
      rw [hs] at hl
      have h1 := hok x (by simp)
      have : s ≠ [] := fun e => by rw [e] at hl; simp at hl; omega
      simpa using this
theorem RG.cell {w : World} {B br : Nat} {l : GS} (h : RG w B br l) : ∃ ad cap, w.cell? ⟨br, 0, none⟩ = some (.slice ad l.length cap) ∧ Sh w (.slice ad l.length cap) l := by
  obtain ⟨_, v, k1, k2, _⟩ := h
  have hs := Sh.of_row k2
  obtain ⟨ad, cap, rfl, hc⟩ := hs
  exact ⟨ad, cap, cell_blk k1 rfl, ad, cap, rfl, hc⟩
theorem RG.lt {w : World} {B br : Nat} {l : GS} (h : RG w B br l) : br < w.heap.size := by
  obtain ⟨_, v, k1, _, _⟩ := h
  exact blk_lt k1
set_option maxRecDepth 100000 in
set_option maxHeartbeats 1000000 in
theorem gathers_heavy (w : World) (l : List (List UInt8)) (ad : Option Addr) (cap : Nat) (drops : List Bool) (ad2 : Option Addr) (cap2 : Nat) (hl : l.length ≤ 140737488351232) (hs : ∀ x ∈ l, x.length ≤ 140737488351232) (hv : Sl w (.slice ad l.length cap) (l.map strV)) (hd : drops.length ≤ 140737488351232)
    (h : heavyB l = true ∨ 100 < drops.length) :
    Calls Try.prog 9 #[.slice ad l.length cap, .slice ad2 drops.length cap2] w fun e w' => e = .returned (.bool true) ∧ Ext w w' := by
  have g1 := heavy06_any l ad cap w hl hs hv
  have G0 := Lib.hid works06
  cases hh : heavyB l with
  | true =>
    rw [hh] at g1
    have G1 := Lib.hid g1
    clear g1 h hv hs hh
    go_enter Try.func9, Try.ntmps9
    go_wp2_with (first
      | (go_at_call 28; with_reducible refine G1.out.mono ?_; rintro e w' ⟨rfl, rfl⟩)
      | (go_at_call 29; with_reducible refine (G0.out _).mono ?_; rintro e w9 ⟨rfl, hx9⟩))
    go_returns
    exact ⟨rfl, hx9⟩
  | false =>
    rw [hh] at g1
    have G1 := Lib.hid g1
    have hlt : 100 < drops.length := by rcases h with h | h; · rw [hh] at h; cases h
                                        · exact h
    clear g1 h hv hs hh
    go_enter Try.func9, Try.ntmps9
    go_wp2_with (first
      | (go_at_call 28; with_reducible refine G1.out.mono ?_; rintro e w' ⟨rfl, rfl⟩)
      | (go_at_call 29; with_reducible refine (G0.out _).mono ?_; rintro e w9 ⟨rfl, hx9⟩))
    go_returns
    exact ⟨rfl, hx9⟩
def GRel (l : List (List UInt8)) (w : World) (bg bm B : Nat) (r i : Value) (wr : World) : Prop :=
  ∃ (k c : Nat) (gs : GS) (br : Nat), k ≤ l.length ∧ i = .int .i64 k ∧ r = .pointer (some ⟨br, 0, none⟩) ∧ PG wr bg bm c gs ∧ RG wr B br gs ∧ (∀ x ∈ gs, 1 ≤ x.2.2.length) ∧ gs.length ≤ k ∧ B ≤ wr.heap.size ∧ Ext w wr
set_option maxRecDepth 100000 in
set_option maxHeartbeats 4000000 in
theorem gathers_good (w : World) (l : List (List UInt8)) (ad : Option Addr) (cap : Nat) (drops : List Bool) (ad2 : Option Addr) (cap2 : Nat) (hl : l.length ≤ 140737488351232) (hs : ∀ x ∈ l, x.length ≤ 140737488351232) (hv : Sl w (.slice ad l.length cap) (l.map strV)) (hd : drops.length ≤ 100) (hv2 : Sl w (.slice ad2 drops.length cap2) (drops.map Value.bool))
    (hh : heavyB l = false) :
    Calls Try.prog 9 #[.slice ad l.length cap, .slice ad2 drops.length cap2] w fun e w' => e = .returned (.bool true) ∧ Ext w w' := by
  have g1 := heavy06_any l ad cap w hl hs hv
  rw [hh] at g1
  obtain ⟨hl50, hsm⟩ := heavyB_no hh
  have G0 := Lib.hid works06
  have G1 := Lib.hid g1
  have GN := Lib.hid New_any
  have V1 := Lib.hid hv
  have V2 := Lib.hid hv2
  have HSM := Lib.hid hsm
  clear g1 hv hv2 hs hh hsm hl
  go_enter Try.func9, Try.ntmps9
  go_wp2_with (first
    | (go_at_call 28; with_reducible refine G1.out.mono ?_; rintro e w' ⟨rfl, rfl⟩)
    | (go_at_call 35; with_reducible refine (GN.out _).mono ?_; rintro e w2 ⟨bg, bm, rfl, hb1, hb2, hb3, hbm2, hpg, hx2⟩; have P0 := Lib.hid hpg; clear hpg))
  go_loopw [6, 7] (GRel l w bg bm w2.heap.size) (fun _ i _ => l.length - (intOf i).toNat)
  case atStart => exact ⟨0, 0, [], w2.heap.size, by omega, rfl, rfl, P0.out.ext ((Ext.refl w2).alloc _), RG.new w2 w2.heap.size (Nat.le_refl _), by simp, by simp, by simp, hx2.alloc _⟩
  case round =>
    obtain ⟨k, c, gs, br, hk, rfl, rfl, hpg, hrg, hok, hgl, hB, hx⟩ := hrel
    have PP := Lib.hid hpg; have RR := Lib.hid hrg; have OK := Lib.hid hok
    clear hpg hrg hok
    by_cases hlt : k < l.length
    · obtain ⟨b1, o1, ha1, hb1l, hc1⟩ := V1.out.str k hlt
      have ha1' := ha1
      subst ha1
      have hbr := RR.out.lt
      have hsl : l[k].length ≤ 4096 := HSM.out _ (List.getElem_mem hlt)
      obtain ⟨code, gs', hadd⟩ : ∃ code gs', addS gs l[k] = (code, gs') := ⟨_, _, rfl⟩
      have hok' : ∀ x ∈ gs', 1 ≤ x.2.2.length := by have := addS_ok gs l[k] OK.out; rw [hadd] at this; exact this
      have hgl' : gs'.length ≤ k + 1 := by have := addS_len gs l[k]; rw [hadd] at this; simp only at this; omega
      have hcq : ∀ wq, Ext w wq → wq.cell? ⟨b1, o1 + k, none⟩ = some (.string (bs l[k])) := fun wq hq => hq.cell_of hc1
      have GA := Lib.hid (fun (W : World) (h : PG W bg bm c gs) => Add_any W bg bm c gs l[k] (by omega) (by omega) h)
      have GB := Lib.hid (fun (W : World) (h : RG W w2.heap.size br gs) (hB : w2.heap.size ≤ W.heap.size) (h64 : ∀ x ∈ gs, x.2.2.length ≤ 64) => RAdd_any W w2.heap.size br gs l[k] (by omega) (by omega) hB h64 h)
      unfold AddPost at GA
      unfold RAddPost at GB
      rw [hadd] at GA GB
      have OK' := Lib.hid hok'
      clear hok' hadd
      go_wp2
      refine Loud.wp_region_loud (fun i => decide (i = 5 ∨ i = 11)) 13 (fun w' => Ext w w') (by kernel_rfl) (by kernel_rfl) hx.drew ?_
      simp only [List.take_succ_cons, List.take_zero]
      iterate 5 (refine Loud.lex_qe rfl rfl ?_; apply Exists.intro; refine ⟨fun wq hq => ?_, Loud.norm fun K hK => ?_⟩; (go_simp; try rfl); go_simp; refine hK _ ?_; clear hK K)
      refine Loud.lex_l rfl rfl (fun K hK => ?_); go_simp
      refine (GA.out _ (PP.out.ext (Ext.refl wr).drew)).mono ?_
      rintro e w4 ⟨rfl, hp4, hb4⟩
      have hx4 : Ext w w4 := But.ext (Ext.drew hx) hb4 (by simp; omega)
      refine ⟨_, rfl, ?_⟩; go_simp; refine hK _ _ hx4 ?_; clear hK K
      iterate 5 (refine Loud.lex_qe rfl rfl ?_; apply Exists.intro; refine ⟨fun wq hq => ?_, Loud.norm fun K hK => ?_⟩; (go_simp; try rfl); go_simp; refine hK _ ?_; clear hK K)
      have hr4 : RG w4 w2.heap.size br gs := RR.out.but ((But.of_ext (Ext.refl wr).drew).trans hb4) (by simp; omega)
      have hB4 : w2.heap.size ≤ w4.heap.size := by have := hb4.size; simp at this; omega
      have h64 : ∀ x ∈ gs, x.2.2.length ≤ 64 := by
        obtain ⟨_, n, size, _, hsz, _, _, k5⟩ := PP.out
        intro x hx; rw [(k5 x hx).2]; exact hsz
      refine Loud.lex_l rfl rfl (fun K hK => ?_); go_simp
      refine (GB.out _ hr4 hB4 h64).mono ?_
      rintro e w5 ⟨rfl, hr5, hb5⟩
      have hx5 : Ext w w5 := hx4.trans_below hb5 hx2.size
      refine ⟨_, rfl, ?_⟩; go_simp; refine hK _ _ hx5 ?_; clear hK K
      iterate 1 (refine Loud.lex_qe rfl rfl ?_; apply Exists.intro; refine ⟨fun wq hq => ?_, Loud.norm fun K hK => ?_⟩; (go_simp; try rfl); go_simp; refine hK _ ?_; clear hK K)
      have hp5 : PG w5 bg bm c gs' := hp4.below hb5 hb3 hbm2
      have hB5 : w2.heap.size ≤ w5.heap.size := by have := Below.size hb5; omega
      have P5 := Lib.hid hp5; have R5 := Lib.hid hr5
      clear hp4 hp5 hr4 hr5 h64
      refine Loud.lex_nil ?_
      simp only [List.drop_succ_cons, List.drop_zero]
      obtain ⟨ad5, cap5, hcell5, hsh5⟩ := R5.out.cell
      have HSH := Lib.hid hsh5
      clear hsh5
      have hbr5 := R5.out.lt
      have GH := Lib.hid (fun (W : World) (h : PG W bg bm c gs') => Have_any W bg bm c gs' (by omega) h)
      have G00 := Lib.hid (fun (W : World) (c : Nat) (h : PG W bg bm c []) => Have_any W bg bm c [] (by simp) h)
      have GS1 := Lib.hid (fun (W : World) (h : PG W bg bm c gs') => Secret_any W bg bm c gs' (by omega) h)
      obtain ⟨_, n1, size1, _, hsz1, _, _, k5⟩ := P5.out
      have GS2 := Lib.hid (fun (W : World) (h : RG W w2.heap.size br gs') => RSecret_any W w2.heap.size br gs' (by omega) h n1 size1 hsz1 k5)
      have hsne := fun sv => secretS_ne P5.out OK'.out (s := sv)
      clear k5
      match gs', GH, GS1, GS2, hsne, hcell5, HSH, P5, R5, OK', hgl' with
      | [], GH, GS1, GS2, _, hcell5, _, P5, R5, OK', hgl' =>
        have GH : Hid (∀ (W : World), PG W bg bm c [] → Calls Try.prog 38 #[.pointer (some ⟨bg, 0, none⟩)] W fun e w' => e = .returned (.tuple #[.int .i64 0, .int .i64 0]) ∧ Ext W w') := GH
        have G00 : Hid (∀ (W : World) (c : Nat), PG W bg bm c [] → Calls Try.prog 38 #[.pointer (some ⟨bg, 0, none⟩)] W fun e w' => e = .returned (.tuple #[.int .i64 0, .int .i64 0]) ∧ Ext W w') := G00
        have GS1 : Hid (∀ (W : World), PG W bg bm c [] → Calls Try.prog 39 #[.pointer (some ⟨bg, 0, none⟩)] W fun e w' => e = .returned (.tuple #[.string { data := #[] }, .bool false]) ∧ Ext W w') := GS1
        have GS2 : Hid (∀ (W : World), RG W w2.heap.size br [] → Calls Try.prog 40 #[.pointer (some ⟨br, 0, none⟩)] W fun e w' => e = .returned (.string { data := #[] }) ∧ Ext W w') := GS2
        have hcell5 : w5.cell? ⟨br, 0, none⟩ = some (.slice ad5 0 cap5) := hcell5
        obtain ⟨gs', hgs⟩ : ∃ g : GS, g = [] := ⟨_, rfl⟩
        rw [← hgs] at P5 R5 GS1 GS2 GH OK'
        have hgl' : gs'.length ≤ k + 1 := by rw [hgs]; simp
        clear hgs
        by_cases hdl : k < drops.length
        · obtain ⟨b3, o3, ha3, hb3l, hcd⟩ := V2.out.at_ k (by simpa using hdl)
          rw [List.getElem_map] at hcd
          have ha3' := ha3
          subst ha3
          cases hdk : drops[k] with
          | true =>
            rw [hdk] at hcd
            clear hdk
            go_wp2_with (first
              | (go_at_call 38; refine (GH.out _ P5.out).mono ?_; rintro e w6 ⟨rfl, hx6⟩; have c6 := hx6.cell_of hcell5)
              | (go_at_call 39; refine (GS1.out _ (P5.out.ext hx6)).mono ?_; rintro e w7 ⟨rfl, hx7⟩)
              | (go_at_call 40; refine (GS2.out _ (R5.out.ext (hx6.trans hx7))).mono ?_; rintro e w8 ⟨rfl, hx8⟩; have hx58 := hx6.trans (hx7.trans hx8); have c8 := hx58.cell_of hcell5; have hx8' := hx5.trans hx58; have cd8 := hx8'.cell_of hcd)
              | (go_at_call 41; refine (Drop_any _ bg bm c gs' (P5.out.ext hx58)).mono ?_; rintro e w9 ⟨rfl, hp9, hb9⟩; have P9 := Lib.hid hp9; have hx9 : Ext w w9 := But.ext hx8' hb9 (by simp; omega); have hB9 := hb9.size; clear hp9 hb9)
              | (go_at_call 38; refine (G00.out _ _ (P9.out.ext ((Ext.refl w9).alloc _))).mono ?_; rintro e w10 ⟨rfl, hx10⟩))
            go_roundw
            case measure => simp [intOf]; omega
            case rel =>
              have e58 := hx58.size
              exact ⟨k + 1, _, [], w9.heap.size, by omega, by go_num, rfl, (P9.out.ext ((Ext.refl w9).alloc _)).ext hx10, (RG.new w9 w2.heap.size (by omega)).ext hx10, by simp, by simp, by have := hx10.size; simp at this; omega, (hx9.alloc _).trans hx10⟩
          | false =>
            rw [hdk] at hcd
            clear hdk
            go_wp2_with (first
              | (go_at_call 38; refine (GH.out _ P5.out).mono ?_; rintro e w6 ⟨rfl, hx6⟩; have c6 := hx6.cell_of hcell5)
              | (go_at_call 39; refine (GS1.out _ (P5.out.ext hx6)).mono ?_; rintro e w7 ⟨rfl, hx7⟩)
              | (go_at_call 40; refine (GS2.out _ (R5.out.ext (hx6.trans hx7))).mono ?_; rintro e w8 ⟨rfl, hx8⟩; have hx58 := hx6.trans (hx7.trans hx8); have c8 := hx58.cell_of hcell5; have hx8' := hx5.trans hx58; have cd8 := hx8'.cell_of hcd))
            go_roundw
            case measure => simp [intOf]; omega
            case rel =>
              have e58 := hx58.size
              exact ⟨k + 1, c, gs', br, by omega, by go_num, rfl, P5.out.ext hx58, R5.out.ext hx58, OK'.out, hgl', by omega, hx8'⟩
        · go_wp2_with (first
            | (go_at_call 38; refine (GH.out _ P5.out).mono ?_; rintro e w6 ⟨rfl, hx6⟩; have c6 := hx6.cell_of hcell5)
            | (go_at_call 39; refine (GS1.out _ (P5.out.ext hx6)).mono ?_; rintro e w7 ⟨rfl, hx7⟩)
            | (go_at_call 40; refine (GS2.out _ (R5.out.ext (hx6.trans hx7))).mono ?_; rintro e w8 ⟨rfl, hx8⟩; have hx58 := hx6.trans (hx7.trans hx8); have c8 := hx58.cell_of hcell5; have hx8' := hx5.trans hx58))
          go_roundw
          case measure => simp [intOf]; omega
          case rel =>
            have e58 := hx58.size
            exact ⟨k + 1, c, gs', br, by omega, by go_num, rfl, P5.out.ext hx58, R5.out.ext hx58, OK'.out, hgl', by omega, hx8'⟩
      | x :: m, GH, GS1, GS2, hsne, hcell5, HSH, P5, R5, OK', hgl' =>
        have GH : Hid (∀ (W : World), PG W bg bm c (x :: m) → Calls Try.prog 38 #[.pointer (some ⟨bg, 0, none⟩)] W fun e w' => e = .returned (.tuple #[.int .i64 ((m.length : Int) + 1), .int .i64 x.2.1]) ∧ Ext W w') := GH
        have G00 : Hid (∀ (W : World) (c : Nat), PG W bg bm c [] → Calls Try.prog 38 #[.pointer (some ⟨bg, 0, none⟩)] W fun e w' => e = .returned (.tuple #[.int .i64 0, .int .i64 0]) ∧ Ext W w') := G00
        have hcell5 : w5.cell? ⟨br, 0, none⟩ = some (.slice ad5 (m.length + 1) cap5) := hcell5
        obtain ⟨_, _, e', hc⟩ := HSH.out
        obtain ⟨b4, ha4, hb4l, y0, y1, y2⟩ := hc 0 (by simp)
        cases e'
        subst ha4
        have y5 : w5.cell? ⟨b4, 1, none⟩ = some (.int .i64 x.2.1) := y1
        have hml : m.length ≤ 50 := by simp only [List.length_cons] at hgl'; omega
        obtain ⟨gs', hgs⟩ : ∃ g : GS, g = x :: m := ⟨_, rfl⟩
        rw [← hgs] at P5 R5 GH OK' hgl' GS1 GS2
        clear hc y0 y1 y2 HSH
        cases hse : secretS (x :: m) with
        | none =>
          have GS1 : Hid (∀ (W : World), PG W bg bm c gs' → Calls Try.prog 39 #[.pointer (some ⟨bg, 0, none⟩)] W fun e w' => e = .returned (.tuple #[.string { data := #[] }, .bool false]) ∧ Ext W w') := by
            rw [← hgs] at hse; rw [hse] at GS1; exact GS1
          have GS2 : Hid (∀ (W : World), RG W w2.heap.size br gs' → Calls Try.prog 40 #[.pointer (some ⟨br, 0, none⟩)] W fun e w' => e = .returned (.string { data := #[] }) ∧ Ext W w') := by
            rw [← hgs] at hse; rw [hse] at GS2; exact GS2
          clear hgs hse hsne
          by_cases hdl : k < drops.length
          · obtain ⟨b3, o3, ha3, hb3l, hcd⟩ := V2.out.at_ k (by simpa using hdl)
            rw [List.getElem_map] at hcd
            have ha3' := ha3
            subst ha3
            cases hdk : drops[k] with
            | true =>
              rw [hdk] at hcd
              clear hdk
              go_wp2_with (first
                | (go_at_call 38; refine (GH.out _ P5.out).mono ?_; rintro e w6 ⟨rfl, hx6⟩; have c6 := hx6.cell_of hcell5; have y6 := hx6.cell_of y5)
                | (go_at_call 39; refine (GS1.out _ (P5.out.ext hx6)).mono ?_; rintro e w7 ⟨rfl, hx7⟩)
                | (go_at_call 40; refine (GS2.out _ (R5.out.ext (hx6.trans hx7))).mono ?_; rintro e w8 ⟨rfl, hx8⟩; have hx58 := hx6.trans (hx7.trans hx8); have c8 := hx58.cell_of hcell5; have hx8' := hx5.trans hx58; have cd8 := hx8'.cell_of hcd)
                | (go_at_call 41; refine (Drop_any _ bg bm c gs' (P5.out.ext hx58)).mono ?_; rintro e w9 ⟨rfl, hp9, hb9⟩; have P9 := Lib.hid hp9; have hx9 : Ext w w9 := But.ext hx8' hb9 (by simp; omega); have hB9 := hb9.size; clear hp9 hb9)
                | (go_at_call 38; refine (G00.out _ _ (P9.out.ext ((Ext.refl w9).alloc _))).mono ?_; rintro e w10 ⟨rfl, hx10⟩))
              go_roundw
              case measure => simp [intOf]; omega
              case rel =>
                have e58 := hx58.size
                exact ⟨k + 1, _, [], w9.heap.size, by omega, by go_num, rfl, (P9.out.ext ((Ext.refl w9).alloc _)).ext hx10, (RG.new w9 w2.heap.size (by omega)).ext hx10, by simp, by simp, by have := hx10.size; simp at this; omega, (hx9.alloc _).trans hx10⟩
            | false =>
              rw [hdk] at hcd
              clear hdk
              go_wp2_with (first
                | (go_at_call 38; refine (GH.out _ P5.out).mono ?_; rintro e w6 ⟨rfl, hx6⟩; have c6 := hx6.cell_of hcell5; have y6 := hx6.cell_of y5)
                | (go_at_call 39; refine (GS1.out _ (P5.out.ext hx6)).mono ?_; rintro e w7 ⟨rfl, hx7⟩)
                | (go_at_call 40; refine (GS2.out _ (R5.out.ext (hx6.trans hx7))).mono ?_; rintro e w8 ⟨rfl, hx8⟩; have hx58 := hx6.trans (hx7.trans hx8); have c8 := hx58.cell_of hcell5; have hx8' := hx5.trans hx58; have cd8 := hx8'.cell_of hcd))
              go_roundw
              case measure => simp [intOf]; omega
              case rel =>
                have e58 := hx58.size
                exact ⟨k + 1, c, gs', br, by omega, by go_num, rfl, P5.out.ext hx58, R5.out.ext hx58, OK'.out, hgl', by omega, hx8'⟩
          · go_wp2_with (first
              | (go_at_call 38; refine (GH.out _ P5.out).mono ?_; rintro e w6 ⟨rfl, hx6⟩; have c6 := hx6.cell_of hcell5; have y6 := hx6.cell_of y5)
              | (go_at_call 39; refine (GS1.out _ (P5.out.ext hx6)).mono ?_; rintro e w7 ⟨rfl, hx7⟩)
              | (go_at_call 40; refine (GS2.out _ (R5.out.ext (hx6.trans hx7))).mono ?_; rintro e w8 ⟨rfl, hx8⟩; have hx58 := hx6.trans (hx7.trans hx8); have c8 := hx58.cell_of hcell5; have hx8' := hx5.trans hx58))
            go_roundw
            case measure => simp [intOf]; omega
            case rel =>
              have e58 := hx58.size
              exact ⟨k + 1, c, gs', br, by omega, by go_num, rfl, P5.out.ext hx58, R5.out.ext hx58, OK'.out, hgl', by omega, hx8'⟩
        | some sv =>
          have hsv := hsne sv hse
          have GS1 : Hid (∀ (W : World), PG W bg bm c gs' → Calls Try.prog 39 #[.pointer (some ⟨bg, 0, none⟩)] W fun e w' => e = .returned (.tuple #[.string (bs sv), .bool true]) ∧ Ext W w') := by
            rw [← hgs] at hse; rw [hse] at GS1; exact GS1
          have GS2 : Hid (∀ (W : World), RG W w2.heap.size br gs' → Calls Try.prog 40 #[.pointer (some ⟨br, 0, none⟩)] W fun e w' => e = .returned (.string (bs sv)) ∧ Ext W w') := by
            rw [← hgs] at hse; rw [hse] at GS2; exact GS2
          clear hgs hse hsne
          by_cases hdl : k < drops.length
          · obtain ⟨b3, o3, ha3, hb3l, hcd⟩ := V2.out.at_ k (by simpa using hdl)
            rw [List.getElem_map] at hcd
            have ha3' := ha3
            subst ha3
            cases hdk : drops[k] with
            | true =>
              rw [hdk] at hcd
              clear hdk
              go_wp2_with (first
                | (go_at_call 38; refine (GH.out _ P5.out).mono ?_; rintro e w6 ⟨rfl, hx6⟩; have c6 := hx6.cell_of hcell5; have y6 := hx6.cell_of y5)
                | (go_at_call 39; refine (GS1.out _ (P5.out.ext hx6)).mono ?_; rintro e w7 ⟨rfl, hx7⟩)
                | (go_at_call 40; refine (GS2.out _ (R5.out.ext (hx6.trans hx7))).mono ?_; rintro e w8 ⟨rfl, hx8⟩; have hx58 := hx6.trans (hx7.trans hx8); have c8 := hx58.cell_of hcell5; have hx8' := hx5.trans hx58; have cd8 := hx8'.cell_of hcd)
                | (go_at_call 41; refine (Drop_any _ bg bm c gs' (P5.out.ext hx58)).mono ?_; rintro e w9 ⟨rfl, hp9, hb9⟩; have P9 := Lib.hid hp9; have hx9 : Ext w w9 := But.ext hx8' hb9 (by simp; omega); have hB9 := hb9.size; clear hp9 hb9)
                | (go_at_call 38; refine (G00.out _ _ (P9.out.ext ((Ext.refl w9).alloc _))).mono ?_; rintro e w10 ⟨rfl, hx10⟩))
              go_roundw
              case measure => simp [intOf]; omega
              case rel =>
                have e58 := hx58.size
                exact ⟨k + 1, _, [], w9.heap.size, by omega, by go_num, rfl, (P9.out.ext ((Ext.refl w9).alloc _)).ext hx10, (RG.new w9 w2.heap.size (by omega)).ext hx10, by simp, by simp, by have := hx10.size; simp at this; omega, (hx9.alloc _).trans hx10⟩
            | false =>
              rw [hdk] at hcd
              clear hdk
              go_wp2_with (first
                | (go_at_call 38; refine (GH.out _ P5.out).mono ?_; rintro e w6 ⟨rfl, hx6⟩; have c6 := hx6.cell_of hcell5; have y6 := hx6.cell_of y5)
                | (go_at_call 39; refine (GS1.out _ (P5.out.ext hx6)).mono ?_; rintro e w7 ⟨rfl, hx7⟩)
                | (go_at_call 40; refine (GS2.out _ (R5.out.ext (hx6.trans hx7))).mono ?_; rintro e w8 ⟨rfl, hx8⟩; have hx58 := hx6.trans (hx7.trans hx8); have c8 := hx58.cell_of hcell5; have hx8' := hx5.trans hx58; have cd8 := hx8'.cell_of hcd))
              go_roundw
              case measure => simp [intOf]; omega
              case rel =>
                have e58 := hx58.size
                exact ⟨k + 1, c, gs', br, by omega, by go_num, rfl, P5.out.ext hx58, R5.out.ext hx58, OK'.out, hgl', by omega, hx8'⟩
          · go_wp2_with (first
              | (go_at_call 38; refine (GH.out _ P5.out).mono ?_; rintro e w6 ⟨rfl, hx6⟩; have c6 := hx6.cell_of hcell5; have y6 := hx6.cell_of y5)
              | (go_at_call 39; refine (GS1.out _ (P5.out.ext hx6)).mono ?_; rintro e w7 ⟨rfl, hx7⟩)
              | (go_at_call 40; refine (GS2.out _ (R5.out.ext (hx6.trans hx7))).mono ?_; rintro e w8 ⟨rfl, hx8⟩; have hx58 := hx6.trans (hx7.trans hx8); have c8 := hx58.cell_of hcell5; have hx8' := hx5.trans hx58))
            go_roundw
            case measure => simp [intOf]; omega
            case rel =>
              have e58 := hx58.size
              exact ⟨k + 1, c, gs', br, by omega, by go_num, rfl, P5.out.ext hx58, R5.out.ext hx58, OK'.out, hgl', by omega, hx8'⟩
    · obtain rfl : k = l.length := by omega
      go_wp2_with (go_at_call 29; with_reducible refine (G0.out _).mono ?_; rintro e w9 ⟨rfl, hx9⟩)
      go_returns
      exact ⟨rfl, hx.trans hx9⟩
theorem law_ShareGathers (w : World) (l : List (List UInt8)) (ad : Option Addr) (cap : Nat) (drops : List Bool) (ad2 : Option Addr) (cap2 : Nat) (hl : l.length ≤ 140737488351232) (hs : ∀ x ∈ l, x.length ≤ 140737488351232) (hv : Sl w (.slice ad l.length cap) (l.map strV)) (hd : drops.length ≤ 140737488351232) (hv2 : Sl w (.slice ad2 drops.length cap2) (drops.map Value.bool)) :
    Calls Try.prog 9 #[.slice ad l.length cap, .slice ad2 drops.length cap2] w fun e w' => e = .returned (.bool true) ∧ Ext w w' := by
  by_cases h : heavyB l = true ∨ 100 < drops.length
  · exact gathers_heavy w l ad cap drops ad2 cap2 hl hs hv hd h
  · have hh : heavyB l = false := by cases hb : heavyB l with
      | true => exact absurd (Or.inl hb) h
      | false => rfl
    exact gathers_good w l ad cap drops ad2 cap2 hl hs hv (by omega) hv2 hh
end Go.Proofs.Ytgjaefolmnelcaa
