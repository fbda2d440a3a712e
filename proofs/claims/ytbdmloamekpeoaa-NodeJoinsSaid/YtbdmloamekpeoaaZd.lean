/- NodeDecodes, NodeBack, NodeFinds, walked. -/
import Derived.Test.YtbdmloamekpeoaaZc
namespace Go.Ai
set_option linter.unusedVariables false
set_option linter.unusedSimpArgs false

theorem sumW_ge (n : Nd) : ∀ k, k ≤ sumW n k
  | 0 => Nat.zero_le _
  | k + 1 => by
    have := sumW_ge n k
    have : 1 ≤ weightS n k := by unfold weightS; split <;> (try split) <;> omega
    simp only [sumW]; omega
theorem right_len {n : Nd} (hr : rightS n = true) (m : Nat) (h : (contentS n).length ≤ m) : n.keys.length ≤ m ∧ n.items.length ≤ m ∧ n.kids.length ≤ m + 1 := by
  have hf := RightF.of hr
  have h1 := sumW_ge n n.keys.length
  rw [contentS_length] at h
  have h2 : n.keys.length ≤ m := by omega
  cases hl : n.leaf
  · obtain ⟨g1, g2, g3, g4⟩ := hf.inner hl
    exact ⟨h2, by simp [g3], by omega⟩
  · obtain ⟨g1, g2, g3⟩ := hf.leaf hl
    exact ⟨h2, by omega, by simp [g2]⟩

theorem NdA.shape {n : Nd} {x : AV} (h : NdA n x) : ∃ b k1 k2 k3 k4 i1 i2 i3 i4 d1 d2 d3 d4, x = .agg [.v (.bool b), .rs k1 k2 k3 k4, .rs i1 i2 i3 i4, .rs d1 d2 d3 d4] := by
  obtain ⟨kA, iA, dA, rfl, hk, hi, hd⟩ := h
  obtain ⟨_, _, _, rfl⟩ := hk.shape
  obtain ⟨_, _, _, rfl⟩ := hi.shape
  obtain ⟨_, _, _, rfl⟩ := hd.shape
  exact ⟨_, _, _, _, _, _, _, _, _, _, _, _, _, rfl⟩

theorem f7 (kind : Int) (s : List UInt8) (hp nx) : Ret E 7 [.v (.int .i64 kind), .str s] hp nx (.v (.bool true)) hp nx .p := by
  refine Ret_pureQ e7 rfl rfl ?_ hp nx
  by_cases hl : s.length ≤ 20000
  · have hl' : ¬ (20000 : Int) < s.length := by omega
    obtain ⟨v1, q1, r1⟩ := f24 kind s
    obtain ⟨v2, q2, r2⟩ := f25 kind s (by omega)
    have key : ∃ n y1 y2 e, NdA n y1 ∧ NdA n y2 ∧ v1 = .tup [y1, .v (.int .i64 e)] ∧ v2 = .tup [y2, .v (.int .i64 e)] ∧ n.keys.length ≤ 20000 ∧ n.items.length ≤ 20000 ∧ n.kids.length ≤ 20001 := by
      cases hd : decS kind s with
      | some n =>
        obtain ⟨y1, a1, rfl⟩ := q1.1 n hd
        obtain ⟨y2, a2, rfl⟩ := q2.1 n hd
        obtain ⟨_, h2, _, h4, _⟩ := decS_content hd
        exact ⟨n, y1, y2, 0, a1, a2, rfl, rfl, right_len h4 20000 (by rw [h2]; exact hl)⟩
      | none => exact ⟨nd0, zeroN, zeroN, 11, NdA.zero, NdA.zero, q1.2 hd, q2.2 hd, by simp [nd0]⟩
    obtain ⟨n, y1, y2, e, a1, a2, rfl, rfl, b1, b2, b3⟩ := key
    have hsm := f22 n n y1 y2 a1 a2 (by omega) (by omega) (by omega)
    rw [sameS_refl] at hsm
    obtain ⟨_, _, _, _, _, _, _, _, _, _, _, _, _, rfl⟩ := a1.shape
    obtain ⟨_, _, _, _, _, _, _, _, _, _, _, _, _, rfl⟩ := a2.shape
    simp [c7, hl']
    refine WCall_p (r1 _ _) ?_
    simp [spliceL]
    refine WCall_p (r2 _ _) ?_
    simp [spliceL]
    refine WCall_p (hsm _ _) ?_
    simp
    refine WCall_p (f18 _ _ _) ?_
    simp
    refine WCall_p (f11 _ _) ?_
    simp
  · have hl' : (20000 : Int) < s.length := by omega
    simp [c7, hl']
    refine WCall_p (f11 _ _) ?_
    simp

theorem f8_tail (kind : Int) (s : List UInt8) (hs : s.length ≤ 20000) (tm : Nat → AV) (hp : Heap) (nx : Nat) (t1 : tm 1 = .v (.int .i64 kind)) (t2 : tm 2 = .str s) :
    W (Ret E) c8_rrr (pureQ c8.res (.v (.bool true))) ⟨tm, hp, nx⟩ := by
  obtain ⟨v1, q1, r1⟩ := f24 kind s
  cases hd : decS kind s with
  | none =>
    rw [q1.2 hd] at r1
    simp [c8, c8_rrr, t1, t2]
    refine WCall_p (r1 _ _) ?_
    simp [zeroN, spliceL]
    refine WCall_p (f18 _ _ _) ?_
    simp
    refine WCall_p (f11 _ _) ?_
    simp
  | some n =>
    obtain ⟨y1, a1, rfl⟩ := q1.1 n hd
    obtain ⟨hk, h2, h3, h4, _⟩ := decS_content hd
    obtain ⟨b1, b2, b3⟩ := right_len h4 20000 (by rw [h2]; exact hs)
    have h16 := f16 n y1 a1 (by omega) (by omega) (by omega)
    have h12 := f12 n y1 a1 (by omega) (by omega) (by omega)
    obtain ⟨_, _, _, _, _, _, _, _, _, _, _, _, _, rfl⟩ := a1.shape
    simp [c8, c8_rrr, t1, t2]
    refine WCall_p (r1 _ _) ?_
    simp [spliceL]
    refine WCall_p (f18 _ _ _) ?_
    simp
    refine WCall_p (h16 _ _) ?_
    by_cases hlen : (contentS n).length > 492
    · have hlen' : (492 : Int) < s.length := by rw [← h2]; omega
      simp [encA, encS, h4, hlen]
      refine WCall_p (f18 _ _ _) ?_
      simp [t1, t2, hlen']
      refine WCall_p (f11 _ _) ?_
      simp
    · have hkk : (if n.leaf = true then (1 : Int) else 2) = kind := by
        rcases hk with rfl | rfl <;> simp [h3]
      simp [encA, encS, h4, hlen]
      refine WCall_p (f18 _ _ _) ?_
      simp [t1, t2]
      refine WCall_p (f18 _ _ _) ?_
      simp [t1, t2, hkk, h2]
      refine WCall_p (h12 _ _) ?_
      simp [h4]
      refine WCall_p (f11 _ _) ?_
      simp

theorem f8 (n : Nd) (x : AV) (hx : NdA n x) (kind : Int) (s : List UInt8) (hp nx) : Ret E 8 [x, .v (.int .i64 kind), .str s] hp nx (.v (.bool true)) hp nx .p := by
  obtain ⟨b, hb, e10'⟩ := f10 n x hx
  have h16 := fun (h : smallN n) => f16 n x hx (by have := h.1; omega) (by have := h.2.1; omega) (by have := h.2.2; omega)
  have h14 := fun (h : smallN n) => f14 n x hx (by have := h.1; omega) (by have := h.2.1; omega) (by have := h.2.2; omega)
  have h22 := fun (h : smallN n) y hy => f22 n n x y hx hy (by have := h.1; omega) (by have := h.2.1; omega) (by have := h.2.2; omega)
  have tail := fun hs tm hp nx t1 t2 => f8_tail kind s hs tm hp nx t1 t2
  simp only [c8] at tail
  obtain ⟨_, _, _, _, _, _, _, _, _, _, _, _, _, rfl⟩ := hx.shape
  refine Ret_pureQ e8 rfl (by
    obtain ⟨kA, iA, dA, e, hk, hi, hd⟩ := hx
    obtain ⟨_, _, _, rfl, _⟩ := hk
    obtain ⟨_, _, _, rfl, _⟩ := hi
    obtain ⟨_, _, _, rfl, _⟩ := hd
    rw [e]; simp) ?_ hp nx
  simp [c8]
  refine WCall_p (e10' _ _) ?_
  cases b
  · simp
    refine WCall_p (f11 _ _) ?_
    simp
  have hsm := hb rfl
  by_cases hl : s.length ≤ 20000
  · have hl' : ¬ (20000 : Int) < s.length := by omega
    simp [hl']
    refine WCall_p (h16 hsm _ _) ?_
    simp [encA]
    refine WCall_p (f18 _ _ _) ?_
    cases hr : rightS n
    · simp [encS, hr]
      exact tail hl _ _ _ (by simp) (by simp)
    · by_cases hlen : (contentS n).length > 492
      · simp [encS, hr, hlen]
        exact tail hl _ _ _ (by simp) (by simp)
      · obtain ⟨v1, q1, r1⟩ := f24 (kindS n) (contentS n)
        have hdw := decS_written hr (by have := hsm.1; omega)
        obtain ⟨y1, a1, rfl⟩ := q1.1 n hdw
        have hsame := h22 hsm y1 a1
        rw [sameS_refl] at hsame
        obtain ⟨_, _, _, _, _, _, _, _, _, _, _, _, _, rfl⟩ := a1.shape
        have hk : (if n.leaf = true then (1 : Int) else 2) = kindS n := rfl
        have hsz : sizeS n = (contentS n).length := by simp [sizeS, hr]
        have hlen' : ¬ (492 : Int) < (contentS n).length := by omega
        simp [encS, hr, hlen, hk]
        refine WCall_p (r1 _ _) ?_
        simp [spliceL]
        refine WCall_p (f18 _ _ _) ?_
        simp
        refine WCall_p (hsame _ _) ?_
        simp
        refine WCall_p (h14 hsm _ _) ?_
        simp [hsz, hlen']
        exact tail hl _ _ _ (by simp) (by simp)
  · have hl' : (20000 : Int) < s.length := by omega
    simp [hl']
    refine WCall_p (f11 _ _) ?_
    simp

theorem f5 (n : Nd) (x : AV) (hx : NdA n x) (key : List UInt8) (hp nx) : Ret E 5 [x, .str key] hp nx (.v (.bool true)) hp nx .p := by
  obtain ⟨b, hb, e10'⟩ := f10 n x hx
  have h12 := fun (h : smallN n) => f12 n x hx (by have := h.1; omega) (by have := h.2.1; omega) (by have := h.2.2; omega)
  have h19 := fun (h : smallN n) k => f19 n x hx k (by have := h.1; omega) (by have := h.2.1; omega) (by have := h.2.2; omega)
  have h20 := fun (h : smallN n) k => f20 n x hx k (by have := h.1; omega) (by have := h.2.1; omega) (by have := h.2.2; omega)
  obtain ⟨leaf, keys, items, kids⟩ := n
  obtain ⟨kA, iA, dA, rfl, hk, hi, hd⟩ := hx
  obtain ⟨kn, ksz, kc, rfl, hkz⟩ := hk
  obtain ⟨in', isz, ic, rfl, hiz⟩ := hi
  obtain ⟨dn, dsz, dc, rfl, hdz⟩ := hd
  simp only at hkz
  refine Ret_pureQ e5 rfl (by simp) ?_ hp nx
  simp [c5]
  refine WCall_p (e10' _ _) ?_
  cases b
  · simp
    refine WCall_p (f11 _ _) ?_
    simp
  have hsm := hb rfl
  by_cases hl : key.length ≤ 5000
  · have hl' : ¬ (5000 : Int) < key.length := by omega
    have hkl : keys.length ≤ 200 := hsm.1
    simp [hl']
    refine WCall_p (h19 hsm key _ _) ?_
    simp [findA]
    refine WCall_p (h20 hsm key _ _) ?_
    simp [findA]
    refine W_loopI (I := fun (j : Nat) s => j ≤ keys.length ∧ s.tm 44 = .int .i64 j ∧ s.tm 43 = .int .i64 keys.length ∧ s.tm 2 = .ptr 0 0 0 ∧ s.hp = hupd hnil 0 (some [[AV.v (Value.bool leaf), AV.rs kn ksz (keys.map keyC) kc, AV.rs in' isz (items.map Itm.cells) ic, AV.rs dn dsz (kids.map kidC) dc]]))
      (fun j => keys.length - j) 0 (by simp) ?_
    rintro j tm hp nx ⟨hj, t44, t43, t2, hH⟩
    simp only at t44 t43 t2 hH
    by_cases hlt : j < keys.length
    · have hlt' : (j : Int) < keys.length := by omega
      have i1 : iaddrA 1 (.rs kn ksz (keys.map keyC) kc) (.v (.int .i64 j)) = some (.rp (keyC keys[j])) := iaddr_in hkz (by simp [hlt]) rfl
      have hw : IntKind.wrap .i64 ((j : Int) + 1) = (j + 1 : Nat) := by rw [wrap_id] <;> omega
      simp [t44, t43, t2, hH, hlt', i1, -iaddrA_rs, keyC, -Int.ofNat_lt, -Int.natCast_add]
      refine WCall_p (h19 hsm _ _ _) ?_
      simp [findA, t44, t43, t2, hH, -Int.natCast_add]
      refine WCall_p (h12 hsm _ _) ?_
      cases hr : rightS ⟨leaf, keys, items, kids⟩
      · simp [t44, t43, t2, hH, hw, -Int.natCast_add]
        exact ⟨j + 1, by omega, by omega, rfl⟩
      · have hrise : Rise keys := Rise.of (by simp only [rightS, Bool.and_eq_true] at hr; exact hr.1)
        have hba := below_at hrise hlt
        have hmem : keys[j] ∈ keys := List.getElem_mem hlt
        cases leaf
        · simp [t44, t43, t2, hH, hw, findS, hr, hba, -Int.natCast_add]
          exact ⟨j + 1, by omega, by omega, rfl⟩
        · simp [t44, t43, t2, hH, hw, findS, hr, hba, -Int.natCast_add]
          exact ⟨j + 1, by omega, by omega, rfl⟩
    · have hlt' : ¬ (j : Int) < keys.length := by omega
      simp [t44, t43, t2, hlt', -Int.ofNat_lt]
      refine WCall_p (f11 _ _) ?_
      simp
  · have hl' : (5000 : Int) < key.length := by omega
    simp [hl']
    refine WCall_p (f11 _ _) ?_
    simp
end Go.Ai
