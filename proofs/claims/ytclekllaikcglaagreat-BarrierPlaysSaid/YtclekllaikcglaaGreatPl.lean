import Derived.Test.YtclekllaikcglaaGreatBarM
import Derived.Test.YtclekllaikcglaaGreatLaw15a

/- Layer 15: what a barrier is, as plain data; what each call makes of it. -/
namespace Go.Proofs.YtclekllaikcglaaGreat
open Go Go.RowKit
structure BS where
 st : Nat
 hd : List UInt8
 root : List UInt8
 E : Eps
 n : Nat
 gs : GS
def BS.zero : BS := ⟨0, [], [], [], 0, []⟩
def BS.shut (hd : List UInt8) (gs : GS) : BS := ⟨1, hd, [], [], 0, gs⟩
structure BS.Ok (s : BS) : Prop where
 le : s.st ≤ 2
 hdl : s.hd.length ≤ 100000
 non : s.st = 0 → s = BS.zero
 hd : s.st ≠ 0 → ∃ x t, s.hd = x :: t ∧ 1 ≤ x.toNat ∧ x.toNat ≤ 16 ∧ (∀ z ∈ s.gs, z.2.1 = x.toNat ∧ z.2.2.length = 32)
 shu : s.st = 1 → s = BS.shut s.hd s.gs
 opn : s.st = 2 → RI s.E s.n ∧ PosE s.E ∧ s.n < 4294967296 ∧ s.root.length = 32 ∧ s.gs = []
 few : s.gs.length ≤ 16
theorem BS.zero_ok : BS.zero.Ok := ⟨by simp [BS.zero], by simp [BS.zero], fun _ => rfl, fun h => absurd rfl h, fun h => by simp [BS.zero] at h, fun h => by simp [BS.zero] at h, by simp [BS.zero]⟩
theorem openAny_len (E : Eps) (path : List UInt8) (ver : Nat) (s : List UInt8) : (openAny E path ver s).1.length ≤ s.length := by
 unfold openAny
 split
 ·simp
 ·split
  ·simp
  ·unfold openR
   split
   ·show (xorL _ _).length ≤ _
    unfold xorL bodyL
    simp only [List.length_zipWith, List.length_take, List.length_drop]
    omega
   ·simp
theorem openAny_err {E : Eps} {path : List UInt8} {ver : Nat} {s : List UInt8} (h : (openAny E path ver s).2 ≠ 0) : (openAny E path ver s).1 = [] := by
 unfold openAny at h ⊢
 split
 ·rfl
 ·rename_i h7
  rw [if_neg h7] at h
  split
  ·rfl
  ·rename_i key hk
   rw [hk] at h
   simp only at h
   unfold openR at h ⊢
   split
   ·rename_i ho; rw [if_pos ho] at h; exact absurd rfl h
   ·rfl
theorem readE_nil : readE [] = none := by unfold readE; simp
theorem readE_good {s : List UInt8} {E : Eps} (h : readE s = some E) : RI E (lastE E) ∧ PosE E ∧ lastE E < 4294967296 := by
 unfold readE at h
 split at h
 ·rename_i hc
  have hg := readN_good s _ E (by omega) h
  exact ⟨hg.ri hc.1 hc.2.1, fun p hp => (hg.le p hp).2, hg.small⟩
 ·cases h
inductive UnR (s : BS) (u : List UInt8) : Bool → Int → BS → Prop
 | st (h : s.st ≠ 1) : UnR s u false 151 s
 | form (h : s.st = 1) (hr : readS u = none) : UnR s u false 7 s
 | other (h : s.st = 1) (x : UInt8) (t : List UInt8) (hd : s.hd = x :: t) (hg : s.gs = []) (i n : Nat) (y : List UInt8) (hr : readS u = some (i, n, y)) (hno : ¬ (n = x.toNat ∧ y.length = 32)) : UnR s u false 60 s
 | add (h : s.st = 1) (hg : s.gs ≠ []) (i n : Nat) (y : List UInt8) (hr : readS u = some (i, n, y)) (er : Int) (ha : addS s.gs u = (er, s.gs)) (her : er ≠ 0) : UnR s u false er s
 | more (h : s.st = 1) (x : UInt8) (t : List UInt8) (hd : s.hd = x :: t) (i : Nat) (y : List UInt8) (gs' : GS) (hf : Fit x s.gs gs' u i y) (hsec : secretS gs' = none) : UnR s u false 0 (BS.shut s.hd gs')
 | tag (h : s.st = 1) (x : UInt8) (t : List UInt8) (hd : s.hd = x :: t) (i : Nat) (y : List UInt8) (gs' : GS) (hf : Fit x s.gs gs' u i y) (root text : List UInt8) (er : Int) (hsec : secretS gs' = some root) (hrl : root.length = 32)
   (ho : openAny [(1, root)] lblB x.toNat t = (text, er)) (hre : readE text = none) (htl : t.length ≤ 1000000) (hxl : text.length ≤ 1000000) : UnR s u false 141 (BS.shut s.hd [])
 | opn (h : s.st = 1) (x : UInt8) (t : List UInt8) (hd : s.hd = x :: t) (i : Nat) (y : List UInt8) (gs' : GS) (hf : Fit x s.gs gs' u i y) (root text : List UInt8) (E : Eps) (hsec : secretS gs' = some root) (hrl : root.length = 32)
   (ho : openAny [(1, root)] lblB x.toNat t = (text, 0)) (hre : readE text = some E) (htl : t.length ≤ 1000000) (hxl : text.length ≤ 1000000) : UnR s u true 0 ⟨2, s.hd, root, E, lastE E, []⟩
theorem secret_few {gs : GS} {n : Nat} (hall : ∀ z ∈ gs, z.2.1 = n) (hn : 0 < n) (h : secretS gs = none) : gs.length < n := by
 unfold secretS at h
 cases gs with
 | nil => exact hn
 | cons z m =>
  simp only at h
  split at h
  ·rename_i hlt; rw [hall z (by simp)] at hlt; exact hlt
  ·cases h
theorem secret_len {gs : GS} {root : List UInt8} (hall : ∀ z ∈ gs, z.2.2.length = 32) (h : secretS gs = some root) : root.length = 32 := by
 unfold secretS at h
 cases gs with
 | nil => cases h
 | cons z m =>
  simp only at h
  split at h
  ·cases h
  ·injection h with h; subst h
   rw [lastS_length]
   ·exact hall z (by simp)
   ·intro s hs
    obtain ⟨y, hy, rfl⟩ := List.mem_map.1 hs
    rw [hall y (by simp [hy]), hall z (by simp)]
theorem addS_err {gs : GS} {u : List UInt8} (h : (addS gs u).1 ≠ 0) : (addS gs u).2 = gs := by
 unfold addS at h ⊢
 split
 ·rfl
 ·rename_i i n t hr
  rw [hr] at h
  simp only at h
  split
  ·rfl
  ·rename_i h1
   rw [if_neg h1] at h
   split
   ·rfl
   ·rename_i h2; rw [if_neg h2] at h; exact absurd rfl h
theorem addS_some {gs : GS} {u : List UInt8} {i n : Nat} {y : List UInt8} (hr : readS u = some (i, n, y)) (h : (addS gs u).1 = 0) : addS gs u = (0, gs ++ [(i, n, y)]) ∧ ∀ z ∈ gs, z.2.1 = n ∧ z.2.2.length = y.length := by
 unfold addS at h ⊢
 rw [hr] at h ⊢
 simp only at h ⊢
 split at h
 ·cases h
 ·rename_i h1
  rw [if_neg h1]
  split at h
  ·cases h
  ·rename_i h2
   rw [if_neg h2]
   refine ⟨rfl, fun z hz => ?_⟩
   simp only [Bool.not_eq_true, List.any_eq_false, Bool.or_eq_true, bne_iff_ne, ne_eq, not_or, Decidable.not_not] at h1
   exact h1 z hz
theorem fit_addp {x : UInt8} {gs gs' : GS} {s : List UInt8} {i : Nat} {y : List UInt8} (hf : Fit x gs gs' s i y) : gs' = gs ++ [(i, x.toNat, y)] := by
 have h := addS_some hf.read (by rw [hf.add])
 rw [hf.add] at h
 exact (Prod.mk.injEq _ _ _ _ ▸ h.1).2
theorem fit_allp {x : UInt8} {gs gs' : GS} {s : List UInt8} {i : Nat} {y : List UInt8} (hf : Fit x gs gs' s i y) (hall : ∀ z ∈ gs, z.2.1 = x.toNat ∧ z.2.2.length = 32) : ∀ z ∈ gs', z.2.1 = x.toNat ∧ z.2.2.length = 32 := by
 intro z hz
 rw [fit_addp hf] at hz
 rcases List.mem_append.1 hz with hz | hz
 ·exact hall z hz
 ·simp at hz; subst hz; exact ⟨rfl, hf.len⟩
theorem UnR.total (s : BS) (ok : s.Ok) (u : List UInt8) : ∃ bo er s', UnR s u bo er s' ∧ s'.Ok := by
 by_cases h : s.st = 1
 ·obtain ⟨x, t, hd, hx1, hx16, hall⟩ := ok.hd (by omega)
  have hlen := ok.hdl
  rw [hd, List.length_cons] at hlen
  have shut_ok : ∀ gs' : GS, (∀ z ∈ gs', z.2.1 = x.toNat ∧ z.2.2.length = 32) → gs'.length ≤ 16 → (BS.shut s.hd gs').Ok := fun gs' h1 h2 =>
   ⟨by simp [BS.shut], ok.hdl, fun h => by simp [BS.shut] at h, fun _ => ⟨x, t, hd, hx1, hx16, h1⟩, fun _ => rfl, fun h => by simp [BS.shut] at h, h2⟩
  cases hr : readS u with
  | none => exact ⟨_, _, _, .form h hr, ok⟩
  | some r =>
   obtain ⟨i, n, y⟩ := r
   by_cases her : (addS s.gs u).1 = 0
   ·obtain ⟨ha, hz⟩ := addS_some hr her
    by_cases hg : s.gs = []
    ·by_cases hfit : n = x.toNat ∧ y.length = 32
     ·have hf : Fit x s.gs (s.gs ++ [(i, n, y)]) u i y := ⟨by rw [hr, hfit.1], hfit.2, ha, by have := ok.few; simp; omega⟩
      have hall' := fit_allp hf hall
      cases hsec : secretS (s.gs ++ [(i, n, y)]) with
      | none => exact ⟨_, _, _, .more h x t hd i y _ hf hsec, shut_ok _ hall' (by have := secret_few (fun z hz => (hall' z hz).1) (by omega) hsec; omega)⟩
      | some root =>
       have hrl := secret_len (fun z hz => (hall' z hz).2) hsec
       have htx := openAny_len [(1, root)] lblB x.toNat t
       cases hre : readE (openAny [(1, root)] lblB x.toNat t).1 with
       | none => exact ⟨_, _, _, .tag h x t hd i y _ hf root (openAny [(1, root)] lblB x.toNat t).1 (openAny [(1, root)] lblB x.toNat t).2 hsec hrl rfl hre (by omega) (by omega), shut_ok _ (by simp) (by simp)⟩
       | some E =>
        have h0 : (openAny [(1, root)] lblB x.toNat t).2 = 0 := by
         refine Decidable.byContradiction fun hne => ?_
         rw [openAny_err hne, readE_nil] at hre
         cases hre
        obtain ⟨g1, g2, g3⟩ := readE_good hre
        exact ⟨_, _, _, .opn h x t hd i y _ hf root (openAny [(1, root)] lblB x.toNat t).1 E hsec hrl (Prod.ext rfl h0) hre (by omega) (by omega), ⟨by simp, ok.hdl, fun h => by simp at h, fun _ => ⟨x, t, hd, hx1, hx16, by simp⟩, fun h => by simp at h, fun _ => ⟨g1, g2, g3, hrl, rfl⟩, by simp⟩⟩
     ·exact ⟨_, _, _, .other h x t hd hg i n y hr hfit, ok⟩
    ·have hfit : n = x.toNat ∧ y.length = 32 := by
      obtain ⟨z, m, hzm⟩ := List.exists_cons_of_ne_nil hg
      have h1 := hz z (by rw [hzm]; simp)
      have h2 := hall z (by rw [hzm]; simp)
      omega
     have hf : Fit x s.gs (s.gs ++ [(i, n, y)]) u i y := ⟨by rw [hr, hfit.1], hfit.2, ha, by have := ok.few; simp; omega⟩
     have hall' := fit_allp hf hall
     cases hsec : secretS (s.gs ++ [(i, n, y)]) with
     | none => exact ⟨_, _, _, .more h x t hd i y _ hf hsec, shut_ok _ hall' (by have := secret_few (fun z hz => (hall' z hz).1) (by omega) hsec; omega)⟩
     | some root =>
      have hrl := secret_len (fun z hz => (hall' z hz).2) hsec
      have htx := openAny_len [(1, root)] lblB x.toNat t
      cases hre : readE (openAny [(1, root)] lblB x.toNat t).1 with
      | none => exact ⟨_, _, _, .tag h x t hd i y _ hf root (openAny [(1, root)] lblB x.toNat t).1 (openAny [(1, root)] lblB x.toNat t).2 hsec hrl rfl hre (by omega) (by omega), shut_ok _ (by simp) (by simp)⟩
      | some E =>
       have h0 : (openAny [(1, root)] lblB x.toNat t).2 = 0 := by
        refine Decidable.byContradiction fun hne => ?_
        rw [openAny_err hne, readE_nil] at hre
        cases hre
       obtain ⟨g1, g2, g3⟩ := readE_good hre
       exact ⟨_, _, _, .opn h x t hd i y _ hf root (openAny [(1, root)] lblB x.toNat t).1 E hsec hrl (Prod.ext rfl h0) hre (by omega) (by omega), ⟨by simp, ok.hdl, fun h => by simp at h, fun _ => ⟨x, t, hd, hx1, hx16, by simp⟩, fun h => by simp at h, fun _ => ⟨g1, g2, g3, hrl, rfl⟩, by simp⟩⟩
   ·have hge : s.gs ≠ [] := by
     intro e
     apply her
     unfold addS
     rw [hr, e]
     rfl
    exact ⟨_, _, _, .add h hge i n y hr _ (Prod.ext rfl (addS_err her)) her, ok⟩
 ·exact ⟨_, _, _, .st h, ok⟩
inductive PutR (s : BS) (path nonce text : List UInt8) (ver : Nat) : List UInt8 → Int → Prop
 | zero (h : s.st = 0) : PutR s path nonce text ver [] 151
 | shut (h : s.st = 1) : PutR s path nonce text ver [] 150
 | nonce (h : s.st = 2) (hno : nonce.length ≠ 12) : PutR s path nonce text ver [] 2
 | ok (h : s.st = 2) (hno : nonce.length = 12) (key : List UInt8) (hk : lookE s.E s.n = some key) : PutR s path nonce text ver (envL key s.n nonce text ++ tagL key path ver (envL key s.n nonce text)) 0
theorem PutR.total (s : BS) (ok : s.Ok) (path nonce text : List UInt8) (ver : Nat) (ht : text.length ≤ 2000) : ∃ v er, PutR s path nonce text ver v er ∧ v.length ≤ 100000 := by
 have := ok.le
 by_cases h0 : s.st = 0
 ·exact ⟨_, _, .zero h0, by simp⟩
 ·by_cases h1 : s.st = 1
  ·exact ⟨_, _, .shut h1, by simp⟩
  ·by_cases hno : nonce.length = 12
   ·obtain ⟨key, hk, _⟩ := (ok.opn (by omega)).1.look
    exact ⟨_, _, .ok (by omega) hno key hk, by rw [List.length_append, envL_length _ _ _ _ hno, tagL_length]; omega⟩
   ·exact ⟨_, _, .nonce (by omega) hno, by simp⟩
inductive GetR (s : BS) (path : List UInt8) (ver : Nat) (t : List UInt8) : List UInt8 → Int → Prop
 | zero (h : s.st = 0) : GetR s path ver t [] 151
 | shut (h : s.st = 1) : GetR s path ver t [] 150
 | ok (h : s.st = 2) : GetR s path ver t (openAny s.E path ver t).1 (openAny s.E path ver t).2
theorem GetR.total (s : BS) (ok : s.Ok) (path : List UInt8) (ver : Nat) (t : List UInt8) : ∃ v er, GetR s path ver t v er := by
 have := ok.le
 by_cases h0 : s.st = 0
 ·exact ⟨_, _, .zero h0⟩
 ·by_cases h1 : s.st = 1
  ·exact ⟨_, _, .shut h1⟩
  ·exact ⟨_, _, .ok (by omega)⟩
inductive SealR (s : BS) : Int → BS → Prop
 | ok (h : s.st = 2) : SealR s 0 (BS.shut s.hd s.gs)
 | no (h : s.st ≠ 2) : SealR s 151 s
theorem SealR.total (s : BS) (ok : s.Ok) : ∃ er s', SealR s er s' ∧ s'.Ok := by
 by_cases h : s.st = 2
 ·refine ⟨_, _, .ok h, by simp [BS.shut], ok.hdl, fun h => by simp [BS.shut] at h, fun _ => ?_, fun _ => rfl, fun h => by simp [BS.shut] at h, ok.few⟩
  obtain ⟨x, t, h1, h2, h3, h4⟩ := ok.hd (by omega)
  exact ⟨x, t, h1, h2, h3, h4⟩
 ·exact ⟨_, _, .no h, ok⟩
theorem hdL_len (root : List UInt8) (nb : Nat) (nonce : List UInt8) (E : Eps) (n : Nat) (hI : RI E n) (hno : nonce.length = 12) : (hdL root nb nonce E).length ≤ 10000 := by
 have := hI.len
 rw [hd_cons, List.length_cons, List.length_append, envL_length _ _ _ _ hno, tagL_length, bytesE_length E hI.key]
 omega
inductive RotR (s : BS) (key nonce : List UInt8) : Nat → Int → BS → Prop
 | zero (h : s.st = 0) : RotR s key nonce 0 151 s
 | shut (h : s.st = 1) : RotR s key nonce 0 150 s
 | nonce (h : s.st = 2) (hno : nonce.length ≠ 12) : RotR s key nonce 0 2 s
 | no (h : s.st = 2) (hno : nonce.length = 12) (hk : key.length ≠ 32 ∨ (64 ≤ s.E.length ∨ s.n = 4294967295)) : RotR s key nonce 0 (if key.length ≠ 32 then 2 else 4) s
 | ok (h : s.st = 2) (hno : nonce.length = 12) (x : UInt8) (t : List UInt8) (hd : s.hd = x :: t) (hk : key.length = 32) (hl : s.E.length < 64) (hn : s.n < 4294967295) : RotR s key nonce (s.n + 1) 0 ⟨2, hdL s.root x.toNat nonce (s.E ++ [(s.n + 1, key)]), s.root, s.E ++ [(s.n + 1, key)], s.n + 1, s.gs⟩
theorem turned_ok (s : BS) (ok : s.Ok) (h : s.st = 2) (x : UInt8) (t nonce : List UInt8) (hd : s.hd = x :: t) (hno : nonce.length = 12) (E : Eps) (n : Nat) (hI : RI E n) (hp : PosE E) (hn : n < 4294967296) : (⟨2, hdL s.root x.toNat nonce E, s.root, E, n, s.gs⟩ : BS).Ok := by
 obtain ⟨x', t', h1, h2, h3, _⟩ := ok.hd (by omega)
 obtain ⟨_, _, _, hr, hg⟩ := ok.opn h
 rw [hd] at h1
 injection h1 with h1 _
 subst h1
 have hb : (b8 x.toNat).toNat = x.toNat := b8_toNat _ x.toNat_lt
 refine ⟨by simp, ?_, fun h => by simp at h, fun _ => ⟨b8 x.toNat, _, hd_cons _ _ _ _, by omega, by omega, by rw [hg]; simp⟩, fun h => by simp at h, fun _ => ⟨hI, hp, hn, hr, hg⟩, by rw [hg]; simp⟩
 have := hdL_len s.root x.toNat nonce E n hI hno
 show (hdL s.root x.toNat nonce E).length ≤ _
 omega
theorem RotR.total (s : BS) (ok : s.Ok) (key nonce : List UInt8) : ∃ n er s', RotR s key nonce n er s' ∧ s'.Ok ∧ n < 4294967296 := by
 have := ok.le
 by_cases h0 : s.st = 0
 ·exact ⟨_, _, _, .zero h0, ok, by omega⟩
 ·by_cases h1 : s.st = 1
  ·exact ⟨_, _, _, .shut h1, ok, by omega⟩
  ·by_cases hno : nonce.length = 12
   ·obtain ⟨hI, hp, hn, _, _⟩ := ok.opn (by omega)
    obtain ⟨x, t, hd, _⟩ := ok.hd h0
    by_cases hk : key.length ≠ 32 ∨ (64 ≤ s.E.length ∨ s.n = 4294967295)
    ·exact ⟨_, _, _, .no (by omega) hno hk, ok, by omega⟩
    ·have hk32 : key.length = 32 := by omega
     refine ⟨_, _, _, .ok (by omega) hno x t hd hk32 (by omega) (by omega), turned_ok s ok (by omega) x t nonce hd hno _ _ (hI.rot (by omega) hk32) (hp.rot s.n key) (by omega), by omega⟩
   ·exact ⟨_, _, _, .nonce (by omega) hno, ok, by omega⟩
inductive RetR (s : BS) (ep : Nat) (nonce : List UInt8) : Int → BS → Prop
 | zero (h : s.st = 0) : RetR s ep nonce 151 s
 | shut (h : s.st = 1) : RetR s ep nonce 150 s
 | nonce (h : s.st = 2) (hno : nonce.length ≠ 12) : RetR s ep nonce 2 s
 | no (h : s.st = 2) (hno : nonce.length = 12) (he : ep = s.n ∨ lookE s.E ep = none) : RetR s ep nonce (if ep = s.n then 2 else 3) s
 | ok (h : s.st = 2) (hno : nonce.length = 12) (x : UInt8) (t : List UInt8) (hd : s.hd = x :: t) (he : ep ≠ s.n) (u : List UInt8) (hs : lookE s.E ep = some u) : RetR s ep nonce 0 ⟨2, hdL s.root x.toNat nonce (goneE s.E ep), s.root, goneE s.E ep, s.n, s.gs⟩
theorem RetR.total (s : BS) (ok : s.Ok) (ep : Nat) (nonce : List UInt8) : ∃ er s', RetR s ep nonce er s' ∧ s'.Ok := by
 have := ok.le
 by_cases h0 : s.st = 0
 ·exact ⟨_, _, .zero h0, ok⟩
 ·by_cases h1 : s.st = 1
  ·exact ⟨_, _, .shut h1, ok⟩
  ·by_cases hno : nonce.length = 12
   ·obtain ⟨hI, hp, hn, _, _⟩ := ok.opn (by omega)
    obtain ⟨x, t, hd, _⟩ := ok.hd h0
    by_cases he : ep = s.n
    ·exact ⟨_, _, .no (by omega) hno (.inl he), ok⟩
    ·cases hs : lookE s.E ep with
     | none => exact ⟨_, _, .no (by omega) hno (.inr hs), ok⟩
     | some u => exact ⟨_, _, .ok (by omega) hno x t hd he u hs, turned_ok s ok (by omega) x t nonce hd hno _ _ (hI.gone he) (hp.gone ep) hn⟩
   ·exact ⟨_, _, .nonce (by omega) hno, ok⟩
inductive LoadR (s : BS) (h : List UInt8) : Int → BS → Prop
 | st (hs : s.st ≠ 0) : LoadR s h 151 s
 | nil (hs : s.st = 0) (he : h = []) : LoadR s h 7 s
 | form (hs : s.st = 0) (x : UInt8) (t : List UInt8) (he : h = x :: t) (hx : x.toNat < 1 ∨ 16 < x.toNat) (ht : t.length ≤ 1000000) : LoadR s h 7 s
 | ep (hs : s.st = 0) (x : UInt8) (t : List UInt8) (he : h = x :: t) (h1 : 1 ≤ x.toNat) (h16 : x.toNat ≤ 16) (hep : epR t = (0, 7)) (ht : t.length ≤ 1000000) : LoadR s h 7 s
 | ok (hs : s.st = 0) (x : UInt8) (t : List UInt8) (he : h = x :: t) (h1 : 1 ≤ x.toNat) (h16 : x.toNat ≤ 16) (ep : Nat) (hep : epR t = (ep, 0)) (ht : t.length ≤ 1000000) : LoadR s h 0 (BS.shut h [])
theorem LoadR.total (s : BS) (ok : s.Ok) (h : List UInt8) (hl : h.length ≤ 100000) : ∃ er s', LoadR s h er s' ∧ s'.Ok := by
 by_cases hs : s.st = 0
 ·cases h with
  | nil => exact ⟨_, _, .nil hs rfl, ok⟩
  | cons x t =>
   rw [List.length_cons] at hl
   by_cases hx : x.toNat < 1 ∨ 16 < x.toNat
   ·exact ⟨_, _, .form hs x t rfl hx (by omega), ok⟩
   ·rcases epR_cases t with he | ⟨ep, he⟩
    ·exact ⟨_, _, .ep hs x t rfl (by omega) (by omega) he (by omega), ok⟩
    ·exact ⟨_, _, .ok hs x t rfl (by omega) (by omega) ep he (by omega), ⟨by simp [BS.shut], by simp [BS.shut]; omega, fun h => by simp [BS.shut] at h, fun _ => ⟨x, t, rfl, by omega, by omega, by simp [BS.shut]⟩, fun _ => rfl, fun h => by simp [BS.shut] at h, by simp [BS.shut]⟩⟩
 ·exact ⟨_, _, .st hs, ok⟩
inductive BegR (s : BS) (root key nonce : List UInt8) (l : List (List UInt8)) : Option (List (List UInt8)) → Int → BS → Prop
 | st (h : s.st ≠ 0) : BegR s root key nonce l none 151 s
 | arg (h : s.st = 0) (hno : ¬ (root.length = 32 ∧ key.length = 32 ∧ nonce.length = 12)) : BegR s root key nonce l none 2 s
 | ok (h : s.st = 0) (hr : root.length = 32) (hk : key.length = 32) (hno : nonce.length = 12) (h3 : l.length < 16) (hl : ∀ z ∈ l, z.length = 32) :
   BegR s root key nonce l (some (shsL root l)) 0 ⟨2, hdL root (l.length + 1) nonce [(1, key)], root, [(1, key)], 1, []⟩
theorem shsL_mem (root : List UInt8) (l : List (List UInt8)) (hr : root.length = 32) (hl : ∀ s ∈ l, s.length = 32) : ∀ z ∈ shsL root l, z.length = 34 := by
 intro z hz
 obtain ⟨i, hi, rfl⟩ := List.getElem_of_mem hz
 have hi2 : i < l.length + 1 := by rw [shsL_length] at hi; exact hi
 rw [shsL_at root l i hi2]
 simp only [shareB, List.length_cons]
 rw [getD_len (shU_len root l hr hl) i (by rw [shU_length]; exact hi2)]
theorem BegR.total (s : BS) (ok : s.Ok) (root key nonce : List UInt8) (l : List (List UInt8)) (h3 : l.length ≤ 4) (hl : (root.length = 32 ∧ key.length = 32 ∧ nonce.length = 12) → ∀ z ∈ l, z.length = 32) :
  ∃ r er s', BegR s root key nonce l r er s' ∧ s'.Ok ∧ ∀ sh, r = some sh → sh.length ≤ 5 ∧ ∀ z ∈ sh, z.length ≤ 100 := by
 by_cases hs : s.st = 0
 ·by_cases hf : root.length = 32 ∧ key.length = 32 ∧ nonce.length = 12
  ·obtain ⟨hr, hk, hno⟩ := hf
   have hl' := hl ⟨hr, hk, hno⟩
   have hI := ri_one key hk
   have hb : (b8 (l.length + 1)).toNat = l.length + 1 := b8_toNat _ (by omega)
   refine ⟨_, _, _, .ok hs hr hk hno (by omega) hl', ⟨by simp, ?_, fun h => by simp at h, fun _ => ⟨b8 (l.length + 1), _, hd_cons _ _ _ _, by omega, by omega, by simp⟩, fun h => by simp at h, fun _ => ⟨hI, pos_one key, by show 1 < 4294967296; omega, hr, rfl⟩, by simp⟩, ?_⟩
   ·have := hdL_len root (l.length + 1) nonce _ 1 hI hno
    show (hdL root (l.length + 1) nonce [(1, key)]).length ≤ _
    omega
   ·intro sh h
    injection h with h
    subst h
    exact ⟨by rw [shsL_length]; omega, fun z hz => by rw [shsL_mem root l hr hl' z hz]; omega⟩
  ·exact ⟨_, _, _, .arg hs hf, ok, fun sh h => by cases h⟩
 ·exact ⟨_, _, _, .st hs, ok, fun sh h => by cases h⟩
end Go.Proofs.YtclekllaikcglaaGreat
