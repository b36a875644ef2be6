/- Contracts: layer 14: what Open refuses. -/
import Derived.Test.YtclekllaikcglaaGreatSeal
namespace Go.Proofs.YtclekllaikcglaaGreat
open Go Go.RowKit

theorem epR_cases (s : List UInt8) : epR s = (0, 7) ∨ ∃ ep, epR s = (ep, 0) := by
  unfold epR
  split
  · exact .inl rfl
  · exact .inr ⟨_, rfl⟩
set_option maxRecDepth 100000 in
theorem Open_nil (path s : List UInt8) (ver : Nat) (w : World) :
    Calls Tryz.prog 37 #[.pointer none, .string (bs path), .int .u64 (ver : Int), .string (bs s)] w fun e w' => e = .returned (.tuple #[.string (bs []), .int .i64 1]) ∧ Ext w w' := by
  go_enter Tryz.func37, Tryz.ntmps37
  go_wp2
  go_returns
  exact ⟨rfl, (Ext.refl w).alloc _⟩
set_option maxRecDepth 100000 in
theorem Open_form (r : Nat) (path s : List UInt8) (ver : Nat) (w : World) (hl : s.length ≤ 1099511627776) (hep : epR s = (0, 7)) :
    Calls Tryz.prog 37 #[.pointer (some ⟨r, 0, none⟩), .string (bs path), .int .u64 (ver : Int), .string (bs s)] w fun e w' => e = .returned (.tuple #[.string (bs []), .int .i64 7]) ∧ Ext w w' := by
  have ge := fun W => Epoch_any s W hl
  rw [hep] at ge
  have GE := Lib.hid ge
  clear ge hep
  go_enter Tryz.func37, Tryz.ntmps37
  go_wp2_with (go_at_call 42; refine (GE.out _).mono ?_; rintro e w1 ⟨rfl, hx1⟩)
  go_returns
  exact ⟨rfl, ((Ext.refl w).alloc _).trans hx1⟩
set_option maxRecDepth 100000 in
theorem refOpen_form (d : Nat) (path s : List UInt8) (ver : Nat) (w : World) (hl : s.length ≤ 1099511627776) (hep : epR s = (0, 7)) :
    Calls Tryz.prog 77 #[.pointer (some ⟨d, 0, none⟩), .string (bs path), .int .u64 (ver : Int), .string (bs s)] w fun e w' => e = .returned (.tuple #[.string (bs []), .int .i64 7]) ∧ Ext w w' := by
  have ge := fun W => refEpoch_any s W hl
  rw [hep] at ge
  have GE := Lib.hid ge
  clear ge hep
  go_enter Tryz.func77, Tryz.ntmps77
  go_wp2_with (go_at_call 74; refine (GE.out _).mono ?_; rintro e w1 ⟨rfl, hx1⟩)
  go_returns
  exact ⟨rfl, hx1⟩
set_option maxRecDepth 100000 in
theorem Open_none (r m : Nat) (E : Eps) (n ep : Nat) (path s : List UInt8) (ver : Nat) (w : World) (h : RingAt w r m E n) (hn : 0 < n) (hl : s.length ≤ 1099511627776) (hep : epR s = (ep, 0)) (hs : lookE E ep = none) (hp : path.length ≤ 1048576) :
    Calls Tryz.prog 37 #[.pointer (some ⟨r, 0, none⟩), .string (bs path), .int .u64 (ver : Int), .string (bs s)] w fun e w' => e = .returned (.tuple #[.string (bs []), .int .i64 140]) ∧ Ext w w' := by
  have ge := fun W => Epoch_any s W hl
  rw [hep] at ge
  have GE := Lib.hid ge
  have GK := Lib.hid (fun W (hx : Ext w W) => ring_Keys_none r m E n ep W (h.ext hx) hn hs)
  have hpl : decide ((1048576 : Int) < (path.length : Int)) = false := by simp; omega
  clear ge hep h hs hp
  go_enter Tryz.func37, Tryz.ntmps37
  go_wp2_with (first
    | (go_at_call 42; refine (GE.out _).mono ?_; rintro e w1 ⟨rfl, hx1⟩; have hq := ((Ext.refl w).alloc _).trans hx1)
    | (go_at_call 59; refine (GK.out _ hq).mono ?_; rintro e w' ⟨rfl, rfl⟩))
  go_returns
  exact ⟨rfl, hq⟩
set_option maxRecDepth 100000 in
theorem refOpen_none (B d : Nat) (E : Eps) (ep : Nat) (path s : List UInt8) (ver : Nat) (w : World) (h : DocAt w B d E) (hE : E ≠ []) (hl1 : E.length ≤ 1000) (hl : s.length ≤ 1099511627776) (hep : epR s = (ep, 0)) (hs : lookE E ep = none) (hp : path.length ≤ 1048576) :
    Calls Tryz.prog 77 #[.pointer (some ⟨d, 0, none⟩), .string (bs path), .int .u64 (ver : Int), .string (bs s)] w fun e w' => e = .returned (.tuple #[.string (bs []), .int .i64 140]) ∧ Ext w w' := by
  have ge := fun W => refEpoch_any s W hl
  rw [hep] at ge
  have GE := Lib.hid ge
  have GK := Lib.hid (fun W (hx : Ext w W) => ref_ring_Keys_none B d E ep W (h.ext hx) hE hl1 hs)
  have hpl : decide ((1048576 : Int) < (path.length : Int)) = false := by simp; omega
  clear ge hep h hs hp hE hl1
  go_enter Tryz.func77, Tryz.ntmps77
  go_wp2_with (first
    | (go_at_call 74; refine (GE.out _).mono ?_; rintro e w1 ⟨rfl, hx1⟩)
    | (go_at_call 102; refine (GK.out _ hx1).mono ?_; rintro e w' ⟨rfl, rfl⟩))
  go_returns
  exact ⟨rfl, hx1⟩
end Go.Proofs.YtclekllaikcglaaGreat
namespace Go.Proofs.YtclekllaikcglaaGreat
open Go Go.RowKit

/-- What bytes open as, by the keys of a ring. -/
def openAny (E : Eps) (path : List UInt8) (ver : Nat) (s : List UInt8) : List UInt8 × Int :=
  if (epR s).2 = 7 then ([], 7) else match lookE E (epR s).1 with
    | none => ([], 140)
    | some key => openR key path ver s
theorem look_key {E : Eps} {ep : Nat} {key : List UInt8} (h : ∀ p ∈ E, p.2.length = 32) (hk : lookE E ep = some key) : key.length = 32 := by
  unfold lookE at hk
  obtain ⟨p, hp, rfl⟩ := Option.map_eq_some_iff.1 hk
  exact h p (List.mem_of_find?_eq_some hp)
theorem Open_any (r m : Nat) (E : Eps) (n : Nat) (path s : List UInt8) (ver : Nat) (w : World) (h : RingAt w r m E n) (hn : 0 < n) (hl : s.length ≤ 1099511627776) (hkl : ∀ p ∈ E, p.2.length = 32) (hv : U64 ver) (hp : path.length ≤ 1048576) :
    Calls Tryz.prog 37 #[.pointer (some ⟨r, 0, none⟩), .string (bs path), .int .u64 (ver : Int), .string (bs s)] w fun e w' => e = .returned (.tuple #[.string (bs (openAny E path ver s).1), .int .i64 (openAny E path ver s).2]) ∧ Ext w w' := by
  rcases epR_cases s with he | ⟨ep, he⟩
  · rw [show openAny E path ver s = ([], 7) by unfold openAny; rw [he]; rfl]
    exact Open_form r path s ver w hl he
  · cases hk : lookE E ep with
    | none =>
      rw [show openAny E path ver s = ([], 140) by unfold openAny; rw [he]; simp only [hk]; rfl]
      exact Open_none r m E n ep path s ver w h hn hl he hk hp
    | some key =>
      rw [show openAny E path ver s = openR key path ver s by unfold openAny; rw [he]; simp only [hk]; rfl]
      exact Open_core r m E n ep key path s ver w h hn he hk (by have := look_key hkl hk; omega) hv hp
theorem refOpen_any (B d : Nat) (E : Eps) (path s : List UInt8) (ver : Nat) (w : World) (h : DocAt w B d E) (hE : E ≠ []) (hel : E.length ≤ 1000) (hl : s.length ≤ 1099511627776) (hkl : ∀ p ∈ E, p.2.length = 32) (hv : U64 ver) (hp : path.length ≤ 1048576) :
    Calls Tryz.prog 77 #[.pointer (some ⟨d, 0, none⟩), .string (bs path), .int .u64 (ver : Int), .string (bs s)] w fun e w' => e = .returned (.tuple #[.string (bs (openAny E path ver s).1), .int .i64 (openAny E path ver s).2]) ∧ Ext w w' := by
  rcases epR_cases s with he | ⟨ep, he⟩
  · rw [show openAny E path ver s = ([], 7) by unfold openAny; rw [he]; rfl]
    exact refOpen_form d path s ver w hl he
  · cases hk : lookE E ep with
    | none =>
      rw [show openAny E path ver s = ([], 140) by unfold openAny; rw [he]; simp only [hk]; rfl]
      exact refOpen_none B d E ep path s ver w h hE hel hl he hk hp
    | some key =>
      rw [show openAny E path ver s = openR key path ver s by unfold openAny; rw [he]; simp only [hk]; rfl]
      exact refOpen_core B d E ep key path s ver w h hel he hk (by have := look_key hkl hk; omega) hv hp
end Go.Proofs.YtclekllaikcglaaGreat
namespace Go.Proofs.YtclekllaikcglaaGreat
open Go Go.RowKit

theorem tagL_length (key path : List UInt8) (ver : Nat) (s : List UInt8) : (tagL key path ver s).length = 32 := macL_length _ _
theorem env_parts (e t : List UInt8) (ht : t.length = 32) : (e ++ t).take ((e ++ t).length - 32) = e ∧ (e ++ t).drop ((e ++ t).length - 32) = t := by
  rw [List.length_append, ht, Nat.add_sub_cancel]
  exact ⟨List.take_left' rfl, List.drop_left' rfl⟩
theorem env_open (key path nonce text : List UInt8) (ep ver : Nat) (hn : nonce.length = 12) :
    let e := envL key ep nonce text
    let s := e ++ tagL key path ver e
    nonceL s = nonce ∧ bodyL s = xorL text (ctrS (rks (derL key lblC 16)) nonce 0 text.length) ∧ okL key path ver s = true := by
  intro e s
  have hel := envL_length key ep nonce text hn
  have htl := tagL_length key path ver e
  have hp := env_parts e (tagL key path ver e) htl
  have h4 := putB_length 4 ep
  have hsl : s.length = 49 + text.length := by show (e ++ _).length = _; rw [List.length_append, htl]; show (envL key ep nonce text).length + 32 = _; rw [hel]; omega
  have he : e = ([1] ++ putB 4 ep) ++ (nonce ++ xorL text (ctrS (rks (derL key lblC 16)) nonce 0 text.length)) := by show envL key ep nonce text = _; unfold envL; simp only [List.append_assoc]
  have hxl : (xorL text (ctrS (rks (derL key lblC 16)) nonce 0 text.length)).length = text.length := xorL_length _ _ (ctrS_length _ _ _ _ (rks_length _) hn).symm
  have hs : s = ([1] ++ putB 4 ep) ++ (nonce ++ (xorL text (ctrS (rks (derL key lblC 16)) nonce 0 text.length) ++ tagL key path ver e)) := by
    show e ++ tagL key path ver e = _
    generalize tagL key path ver e = T
    rw [he]; simp only [List.append_assoc]
  have h5 : ([1] ++ putB 4 ep).length = 5 := by rw [List.length_append, h4]; rfl
  refine ⟨?_, ?_, ?_⟩
  · unfold nonceL
    rw [hs, List.drop_left' h5, List.take_left' hn]
  · unfold bodyL
    rw [hsl, hs, show (17 : Nat) = 5 + 12 from rfl, ← List.drop_drop, List.drop_left' h5, List.drop_left' hn, show 49 + text.length - 32 - (5 + 12) = text.length by omega, List.take_left' hxl]
  · unfold okL
    rw [hp.1, hp.2, rightL_full _ _ htl htl]
    simp
theorem open_close (key path nonce text : List UInt8) (ep ver : Nat) (hn : nonce.length = 12) : openR key path ver (envL key ep nonce text ++ tagL key path ver (envL key ep nonce text)) = (text, 0) := by
  obtain ⟨h1, h2, h3⟩ := env_open key path nonce text ep ver hn
  have hcl := ctrS_length (rks (derL key lblC 16)) nonce 0 text.length (rks_length _) hn
  have hxl := xorL_length text (ctrS (rks (derL key lblC 16)) nonce 0 text.length) hcl.symm
  unfold openR
  rw [h3, if_pos rfl, h1, h2, hxl, xorL_back _ _ hcl.symm]
theorem ep_env (key path nonce text : List UInt8) (ep ver : Nat) (hn : nonce.length = 12) (he : ep < 4294967296) (ht : text.length ≤ 1048576) : epR (envL key ep nonce text ++ tagL key path ver (envL key ep nonce text)) = (ep, 0) := by
  have hel := envL_length key ep nonce text hn
  have htl := tagL_length key path ver (envL key ep nonce text)
  have hsl : (envL key ep nonce text ++ tagL key path ver (envL key ep nonce text)).length = 49 + text.length := by rw [List.length_append, hel, htl]; omega
  have hs : ∀ T : List UInt8, ∃ r, envL key ep nonce text ++ T = 1 :: (putB 4 ep ++ r) := fun T => ⟨nonce ++ (xorL text (ctrS (rks (derL key lblC 16)) nonce 0 text.length) ++ T), by
    unfold envL
    simp only [List.append_assoc, List.cons_append, List.nil_append]⟩
  obtain ⟨r, hr⟩ := hs (tagL key path ver (envL key ep nonce text))
  unfold epR
  rw [if_neg (fun h => by
    rcases h with h | h | h
    · omega
    · omega
    · exact h (by rw [hr]; rfl))]
  have h4 := putB_length 4 ep
  unfold Get32
  rw [if_pos ⟨by omega, by omega⟩]
  have hseg : seg (envL key ep nonce text ++ tagL key path ver (envL key ep nonce text)) (1 : Int).toNat 4 = putB 4 ep := by
    rw [hr]
    show ((1 :: (putB 4 ep ++ r)).drop 1).take 4 = _
    rw [List.drop_one, List.tail_cons, List.take_left' h4]
  rw [hseg]
  have hg : getB (putB 4 ep) = ep := by
    simp only [putB, List.range, List.range.loop, List.map_cons, List.map_nil]
    simp only [getB, List.foldl_cons, List.foldl_nil]
    rw [UInt8.toNat_ofNat', UInt8.toNat_ofNat', UInt8.toNat_ofNat', UInt8.toNat_ofNat']
    simp only [Nat.reduceSub, Nat.reduceMul, Nat.reducePow]
    omega
  rw [hg]
end Go.Proofs.YtclekllaikcglaaGreat
