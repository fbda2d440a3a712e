/- Split. -/
import Derived.Test.YtbdmloamekpeoaaK
namespace Go.Ai
set_option linter.unusedVariables false
set_option linter.unusedSimpArgs false

def upS (n : Nd) : Nat := if n.leaf then 1 else 2
def nd0 : Nd := ⟨false, [], [], []⟩
theorem NdA.zero : NdA nd0 (.agg [.v (.bool false), .rs true 0 [] (some 0), .rs true 0 [] (some 0), .rs true 0 [] (some 0)]) := ⟨_, _, _, rfl, .nil0, .nil0, .nil0⟩

theorem f21_bad (n : Nd) (x : AV) (hx : NdA n x) (h1 : n.keys.length ≤ 60000) (h2 : n.items.length ≤ 60000) (h3 : n.kids.length ≤ 60001) (h : rightS n = false ∨ n.keys.length ≤ upS n) :
    ∃ ya yb, NdA nd0 ya ∧ NdA nd0 yb ∧ ∀ hp nx, Ret E 21 [x] hp nx (.tup [ya, .str [], yb, .int .i64 2]) hp nx .p := by
  have c12' := f12 n _ hx (by omega) (by omega) (by omega)
  obtain ⟨leaf, keys, items, kids⟩ := n
  obtain ⟨kA, iA, dA, rfl, hk, hi, hd⟩ := hx
  obtain ⟨kn, ksz, kc, rfl⟩ := hk.shape
  obtain ⟨in', isz, ic, rfl⟩ := hi.shape
  obtain ⟨dn, dsz, dc, rfl⟩ := hd.shape
  refine ⟨_, _, NdA.zero, NdA.zero, fun hp nx => Ret_pureQ e21 rfl (by simp) ?_ hp nx⟩
  cases leaf
  · simp [c21, c21_rrr]
    refine WCall_p (c12' _ _) ?_
    rcases h with h | h
    · simp [h, spliceL, frz_closed]
    · cases hr : rightS ⟨false, keys, items, kids⟩
      · simp [spliceL, frz_closed]
      · have hl : (keys.length : Int) ≤ 2 := by simp [upS] at h; omega
        simp [spliceL, frz_closed, hl]
  · simp [c21, c21_rrr]
    refine WCall_p (c12' _ _) ?_
    rcases h with h | h
    · simp [h, spliceL, frz_closed]
    · cases hr : rightS ⟨true, keys, items, kids⟩
      · simp [spliceL, frz_closed]
      · have hl : (keys.length : Int) ≤ 1 := by simp [upS] at h; omega
        simp [spliceL, frz_closed, hl]

/-- Where a node is cut. -/
structure CutAt (n : Nd) (i : Nat) : Prop where
  pos : 1 ≤ i
  le : i + upS n ≤ n.keys.length
  low : ∀ j, 1 ≤ j → j < i → 2 * ((headB n).length + sumW n j) < sizeS n
  top : i + upS n = n.keys.length ∨ sizeS n ≤ 2 * ((headB n).length + sumW n i)

set_option maxHeartbeats 400000 in
theorem f21 (n : Nd) (x : AV) (hx : NdA n x) (h1 : n.keys.length ≤ 60000) (h2 : n.items.length ≤ 60000) (h3 : n.kids.length ≤ 60001) (hr : rightS n = true) (hup : upS n < n.keys.length) :
    ∃ (i : Nat) (ya yb : AV) (hi : i < n.keys.length), CutAt n i ∧ NdA (partS n 0 i) ya ∧ NdA (partS n (i + upS n - 1) n.keys.length) yb ∧ ∀ hp nx, Ret E 21 [x] hp nx (.tup [ya, .str n.keys[i], yb, .int .i64 0]) hp nx .p := by
  have c12' := f12 n _ hx (by omega) (by omega) (by omega)
  have c14' := f14 n _ hx (by omega) (by omega) (by omega)
  have c35' := f35 n _ hx
  have hf := RightF.of hr
  have c36' := fun i hi => f36 n _ hx hf i hi
  have c42' := f42 n _ hx
  have hup1 : 1 ≤ upS n ∧ upS n ≤ 2 := by simp only [upS]; split <;> omega
  have hhl : (headB n).length ≤ 6 := by rw [headB_length]; split <;> omega
  have hszle : sizeS n ≤ 6 + 122 * 60000 := by simp only [sizeS, hr, if_true, contentS_length]; have := sumW_le hf n.keys.length (Nat.le_refl _); omega
  -- the place
  obtain ⟨i, hi⟩ : ∃ i, CutAt n i := by
    have : ∀ d i, n.keys.length - upS n - i = d → 1 ≤ i → i + upS n ≤ n.keys.length → (∀ j, 1 ≤ j → j < i → 2 * ((headB n).length + sumW n j) < sizeS n) → ∃ i, CutAt n i := by
      intro d
      induction d with
      | zero => intro i h1 h2 h3 h4; exact ⟨i, h2, h3, h4, .inl (by omega)⟩
      | succ d ih =>
        intro i h1 h2 h3 h4
        by_cases h : sizeS n ≤ 2 * ((headB n).length + sumW n i)
        · exact ⟨i, h2, h3, h4, .inr h⟩
        · refine ih (i + 1) (by omega) (by omega) (by omega) (fun j g1 g2 => ?_)
          rcases Nat.lt_or_ge j i with g | g
          · exact h4 j g1 g
          · have : j = i := by omega
            subst this; omega
    exact this _ 1 rfl (by omega) (by omega) (fun j h1 h2 => by omega)
  have hlt : i < n.keys.length := by have := hi.le; omega
  have hik : n.leaf = true → n.items.length = n.keys.length := fun h => (hf.leaf h).1
  have hkk : n.leaf = false → n.kids.length = n.keys.length + 1 := fun h => (hf.inner h).2.1
  obtain ⟨ya, ha1, ha2⟩ := c42' 0 i (by omega) (by omega) (fun h => by rw [hik h]; omega) (fun h => by rw [hkk h]; omega) (by omega)
  obtain ⟨yb, hb1, hb2⟩ := c42' (i + upS n - 1) n.keys.length (by have := hi.le; omega) (by omega) (fun h => by rw [hik h]; omega) (fun h => by rw [hkk h]; omega) (by omega)
  refine ⟨i, ya, yb, hlt, hi, ha1, hb1, fun hp nx => ?_⟩
  obtain ⟨kA, iA, dA, rfl, hk, hia, hd⟩ := hx
  obtain ⟨kn, ksz, kc, rfl, hkz⟩ := hk
  obtain ⟨in', isz, ic, rfl, hiz⟩ := hia
  obtain ⟨dn, dsz, dc, rfl, hdz⟩ := hd
  obtain ⟨ak, ai, ad, hya, ak', ai', ad'⟩ := ha1
  obtain ⟨bk, bi, bd, hyb, bk', bi', bd'⟩ := hb1
  obtain ⟨_, _, _, rfl⟩ := ak'.shape
  obtain ⟨_, _, _, rfl⟩ := ai'.shape
  obtain ⟨_, _, _, rfl⟩ := ad'.shape
  obtain ⟨_, _, _, rfl⟩ := bk'.shape
  obtain ⟨_, _, _, rfl⟩ := bi'.shape
  obtain ⟨_, _, _, rfl⟩ := bd'.shape
  refine Ret_pureQ e21 rfl (by simp) ?_ hp nx
  have tail : ∀ tm, tm 6 = .int .i64 (upS n) → tm 1 = .ptr 0 0 0 → tm 2 = .ptr 1 0 0 → tm 4 = .ptr 2 0 0 → W (Ret E) c21_rrr (pureQ [.cell 2 (some 4), .t 3, .cell 4 (some 4), .t 5] (.tup [ya, .str n.keys[i], yb, .int .i64 0]))
     ⟨tm, hupd (hupd (hupd hnil 0 (some [[.v (.bool n.leaf), .rs kn ksz (n.keys.map keyC) kc, .rs in' isz (n.items.map Itm.cells) ic, .rs dn dsz (n.kids.map kidC) dc]])) 1 (some [[.v (.bool false), .rs true 0 [] (some 0), .rs true 0 [] (some 0), .rs true 0 [] (some 0)]])) 2 (some [[.v (.bool false), .rs true 0 [] (some 0), .rs true 0 [] (some 0), .rs true 0 [] (some 0)]]), 3⟩ := by
    intro tm t6 t1 t2 t4
    have hnle : ¬ (n.keys.length : Int) ≤ upS n := by omega
    simp [c21_rrr, t6, t1, t2, t4]
    refine WCall_p (c12' _ _) ?_
    simp [hr, t6, t1, t2, t4, hnle]
    refine WCall_p (c14' _ _) ?_
    simp [t6, t1, t2, t4]
    refine WCall_p (c35' _ _) ?_
    simp [t6, t1, t2, t4]
    refine WCall_p (c36' 0 (by omega) _ _) ?_
    have hw0 : IntKind.wrap .i64 (((headB n).length : Int) + (weightS n 0 : Int)) = ((headB n).length + sumW n 1 : Nat) := by
      have := weightS_le hf (i := 0) (by omega)
      have e : sumW n 1 = weightS n 0 := by simp [sumW]
      rw [wrap_id] <;> omega
    simp [t6, t1, t2, t4, hw0, -Int.natCast_add]
    refine W_loopI (I := fun (j : Nat) s => 1 ≤ j ∧ j ≤ i ∧ s.tm 8 = .int .i64 j ∧ s.tm 9 = .int .i64 ((headB n).length + sumW n j : Nat) ∧ s.tm 7 = .int .i64 (sizeS n) ∧ s.tm 6 = .int .i64 (upS n) ∧ s.tm 1 = .ptr 0 0 0 ∧ s.tm 2 = .ptr 1 0 0 ∧ s.tm 4 = .ptr 2 0 0 ∧
      s.hp = hupd (hupd (hupd hnil 0 (some [[.v (.bool n.leaf), .rs kn ksz (n.keys.map keyC) kc, .rs in' isz (n.items.map Itm.cells) ic, .rs dn dsz (n.kids.map kidC) dc]])) 1 (some [[.v (.bool false), .rs true 0 [] (some 0), .rs true 0 [] (some 0), .rs true 0 [] (some 0)]])) 2 (some [[.v (.bool false), .rs true 0 [] (some 0), .rs true 0 [] (some 0), .rs true 0 [] (some 0)]]) ∧ s.nx = 3)
      (fun j => i - j) 1 (by simp [t6, t1, t2, t4]; exact hi.pos) ?_
    rintro j tm hp nx ⟨hj1, hj2, t8, t9, t7, t6, t1, t2, t4, rfl, rfl⟩
    simp only at t8 t9 t7 t6 t1 t2 t4
    have hs := sumW_le hf j (by omega)
    have hw2 : IntKind.wrap .i64 (2 * (((headB n).length + sumW n j : Nat) : Int)) = (2 * ((headB n).length + sumW n j) : Nat) := by rw [wrap_id] <;> omega
    have hw3 : IntKind.wrap .i64 ((n.keys.length : Int) - (upS n : Int)) = (n.keys.length - upS n : Nat) := by rw [wrap_id] <;> omega
    by_cases hlt2 : j < i
    · have g1 : (((2 * ((headB n).length + sumW n j) : Nat) : Int)) < (sizeS n : Int) := by have := hi.low j hj1 hlt2; omega
      have g2 : (j : Int) < ((n.keys.length - upS n : Nat) : Int) := by have := hi.le; omega
      have hjl : j < n.keys.length := by omega
      have hw4 : IntKind.wrap .i64 ((((headB n).length + sumW n j : Nat) : Int) + (weightS n j : Int)) = ((headB n).length + sumW n (j + 1) : Nat) := by
        have := weightS_le hf hjl
        have e : sumW n (j + 1) = sumW n j + weightS n j := rfl
        rw [wrap_id] <;> omega
      have hw5 : IntKind.wrap .i64 ((j : Int) + 1) = (j + 1 : Nat) := by rw [wrap_id] <;> omega
      simp [t8, t9, t7, t6, t1, t2, t4, hw2, g1, hw3, g2, -Int.natCast_add, -Int.natCast_mul, -Int.ofNat_lt]
      refine WCall_p (c36' j hjl _ _) ?_
      simp [t8, t9, t7, t6, t1, t2, t4, hw4, hw5, -Int.natCast_add, -Int.natCast_mul]
      exact ⟨j + 1, by omega, by omega, by omega, rfl, rfl⟩
    · have hji : j = i := by omega
      subst hji
      have hge : j + upS n = n.keys.length ∨ sizeS n ≤ 2 * ((headB n).length + sumW n j) := hi.top
      have hget : n.keys[j]? = some n.keys[j] := List.getElem?_eq_getElem hlt
      have hia : iaddrA 1 (.rs kn ksz (n.keys.map keyC) kc) (.v (.int .i64 j)) = some (.rp (keyC n.keys[j])) := iaddr_in hkz (by simp [hget]) rfl
      have hw6 : IntKind.wrap .i64 ((j : Int) + (upS n : Int)) = (j + upS n : Nat) := by rw [wrap_id] <;> omega
      have hw7 : IntKind.wrap .i64 (((j + upS n : Nat) : Int) - 1) = (j + upS n - 1 : Nat) := by rw [wrap_id] <;> omega
      have fin : ∀ tm, tm 8 = .int .i64 j → tm 6 = .int .i64 (upS n) → tm 1 = .ptr 0 0 0 → tm 2 = .ptr 1 0 0 → tm 4 = .ptr 2 0 0 → W (Ret E) c21_rrrrrrr (pureQ [.cell 2 (some 4), .t 3, .cell 4 (some 4), .t 5] (.tup [ya, .str n.keys[j], yb, .int .i64 0]))
          ⟨tm, hupd (hupd (hupd hnil 0 (some [[.v (.bool n.leaf), .rs kn ksz (n.keys.map keyC) kc, .rs in' isz (n.items.map Itm.cells) ic, .rs dn dsz (n.kids.map kidC) dc]])) 1 (some [[.v (.bool false), .rs true 0 [] (some 0), .rs true 0 [] (some 0), .rs true 0 [] (some 0)]])) 2 (some [[.v (.bool false), .rs true 0 [] (some 0), .rs true 0 [] (some 0), .rs true 0 [] (some 0)]]), 3⟩ := by
        intro tm t8 t6 t1 t2 t4
        simp [c21_rrrrrrr, t8, t6, t1, t2, t4]
        refine WCall_p (ha2 _ _) ?_
        simp [t8, t6, t1, t2, t4, hia, -iaddrA_rs, keyC, hw6, hw7, -Int.natCast_add]
        refine WCall_p (hb2 _ _) ?_
        simp [t8, t6, t1, t2, t4, hya, hyb, spliceL, frz_closed]
      by_cases q1 : 2 * ((headB n).length + sumW n j) < sizeS n
      · have g1 : (((2 * ((headB n).length + sumW n j) : Nat) : Int)) < (sizeS n : Int) := by omega
        have g2 : ¬ (j : Int) < ((n.keys.length - upS n : Nat) : Int) := by omega
        simp [t8, t9, t7, t6, t1, t2, t4, hw2, g1, hw3, g2, -Int.natCast_add, -Int.natCast_mul, -Int.ofNat_lt]
        exact fin _ (by simp [t8]) (by simp [t6]) (by simp [t1]) (by simp [t2]) (by simp [t4])
      · have g1 : ¬ (((2 * ((headB n).length + sumW n j) : Nat) : Int)) < (sizeS n : Int) := by omega
        simp [t8, t9, t7, t6, t1, t2, t4, hw2, g1, hw3, -Int.natCast_add, -Int.natCast_mul, -Int.ofNat_lt]
        exact fin _ (by simp [t8]) (by simp [t6]) (by simp [t1]) (by simp [t2]) (by simp [t4])
  cases hlf : n.leaf
  · have hu : upS n = 2 := by simp [upS, hlf]
    rw [hlf] at tail
    simp [c21]
    exact tail _ (by simp [hu]) (by simp) (by simp) (by simp)
  · have hu : upS n = 1 := by simp [upS, hlf]
    rw [hlf] at tail
    simp [c21]
    exact tail _ (by simp [hu]) (by simp) (by simp) (by simp)
end Go.Ai
