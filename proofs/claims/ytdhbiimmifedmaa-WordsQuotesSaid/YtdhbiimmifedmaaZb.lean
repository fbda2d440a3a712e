/- WordsPlain's walk. -/
import Derived.Test.YtdhbiimmifedmaaZa
namespace Go.Ai
set_option linter.unusedVariables false
set_option linter.unusedSimpArgs false

def oneP (a : List UInt8) : List UInt8 := [61, 63, 85, 84, 70, 45, 56, 63, 98, 63] ++ b64S a
def twoP (a : List UInt8) : List UInt8 := [61, 63, 117, 115, 45, 97, 115, 99, 105, 105, 63, 66, 63] ++ b64S a
def oneX (a : List UInt8) : List UInt8 := oneS a ++ [120]
def midS (a b : List UInt8) : List UInt8 := oneX a ++ twoS b
def aX (a : List UInt8) : List UInt8 := a ++ [120]
def midR (a b : List UInt8) : List UInt8 := aX a ++ b
def gapT (g : Nat) (b : List UInt8) : List UInt8 := List.replicate g 32 ++ twoS b
theorem says_mid' (a b : List UInt8) : wordsP (midS a b) = midR a b := by
  have : midS a b = oneS a ++ 120 :: twoS b := by simp [midS, oneX]
  rw [this, says_mid]; simp [midR, aX]
theorem joinS_one (x : List UInt8) : joinS [32] [x] = x := by simp [joinS]
theorem says_gap' (a b : List UInt8) (g : Nat) : wordsP (joinS [32] [oneS a, gapT g b]) = a ++ b := by
  have : joinS [32] [oneS a, gapT g b] = oneS a ++ ((32 :: List.replicate g 32) ++ twoS b) := by simp [joinS, gapT]
  rw [this, says_gap]
  intro c hc
  rcases List.mem_cons.1 hc with rfl | h
  · decide
  · rw [(List.mem_replicate.1 h).2]; decide
theorem oneS_length (a : List UInt8) : (oneS a).length = 12 + (a.length + 2) / 3 * 4 := by simp [oneS, b64S_length]; omega
theorem twoS_length (a : List UInt8) : (twoS a).length = 15 + (a.length + 2) / 3 * 4 := by simp [twoS, b64S_length]; omega

theorem tmod50 (n : Int) (h1 : -9223372036854775808 ≤ n) (h2 : n ≤ 9223372036854775807) : ∃ g : Nat, g < 50 ∧ IntKind.wrap .i64 (n.tmod 50) = n.tmod 50 ∧ IntKind.wrap .i64 (n.tmod 50 + 50) = n.tmod 50 + 50 ∧ (n.tmod 50 + 50).tmod 50 = g ∧ IntKind.wrap .i64 ((n.tmod 50 + 50).tmod 50) = g := by
  have a1 : n.tmod 50 < 50 := Int.tmod_lt_of_pos n (by omega)
  have a2 : -50 < n.tmod 50 := by
    have := Int.lt_tmod_of_pos n (b := 50) (by omega)
    omega
  obtain ⟨m, hm⟩ : ∃ m, m = n.tmod 50 + 50 := ⟨_, rfl⟩
  have e : m.tmod 50 = m % 50 := Int.tmod_eq_emod_of_nonneg (by omega)
  refine ⟨(m % 50).toNat, by omega, ?_, ?_, ?_, ?_⟩
  · rw [wrap_id] <;> omega
  · rw [wrap_id] <;> omega
  · rw [← hm, e]; omega
  · rw [← hm, e, wrap_id] <;> omega

theorem mem_take_succ {a : List UInt8} {j : Nat} (h : j < a.length) (c : UInt8) : decide (c ∉ a.take (j + 1)) = (decide (c ∉ a.take j) && decide (a[j] ≠ c)) := by
  have e : a.take (j + 1) = a.take j ++ [a[j]] := by rw [List.take_add_one, List.getElem?_eq_getElem h]; rfl
  rw [e]
  generalize a[j] = y
  generalize a.take j = t
  by_cases h2 : y = c
  · by_cases h1 : c ∈ t <;> simp [h1, h2]
  · have h3 : ¬ c = y := fun e => h2 e.symm
    by_cases h1 : c ∈ t <;> simp [h1, h2, h3]

set_option maxHeartbeats 1000000 in
theorem f7t (a b : List UInt8) (n : Int) (h1 : -9223372036854775808 ≤ n) (h2 : n ≤ 9223372036854775807) (k1 : a.length ≤ 1000) (k2 : b.length ≤ 1000) (tm : Nat → AV) (hp nx) (t0 : tm 0 = .str a) (t1 : tm 1 = .str b) (t2 : tm 2 = .v (.int .i64 n)) :
    W (Ret E) c7_rrrrr (pureQ [.t 6] (.v (.bool true))) ⟨tm, hp, nx⟩ := by
  have lo := oneS_length a
  have lt := twoS_length b
  have lb := b64S_length a
  have lb2 := b64S_length b
  obtain ⟨g, g1, g2, g3, g4, g5⟩ := tmod50 n h1 h2
  simp [c7_rrrrr, t2, g2, g3, g4, g5, -Int.tmod_self]
  refine W_loopI (I := fun (j : Nat) s' => j ≤ g ∧ s'.tm 46 = .int .i64 j ∧ s'.tm 45 = .int .i64 g ∧ s'.tm 0 = .str a ∧ s'.tm 1 = .str b ∧ s'.tm 9 = .str (List.replicate j 32)) (fun j => g - j) 0 (by simp [t0, t1, g4, g5]) ?_
  rintro j tm hp nx ⟨hj, t46, t45, t0, t1, t9⟩
  simp only at hj t46 t45 t0 t1 t9
  by_cases hlt : j < g
  · have hlt' : (j : Int) < g := by omega
    have hw : IntKind.wrap .i64 ((j : Int) + 1) = (j + 1 : Nat) := by rw [wrap_id] <;> omega
    have hcat : strA .add (List.replicate j 32) [32] = some (.str (List.replicate (j + 1) 32)) := by
      rw [strA_cat (by simp; omega), List.replicate_succ']
    simp [t46, t45, t0, t1, t9, hlt', hw, hcat, -strA_add, -Int.ofNat_lt, -Int.natCast_add]
    exact ⟨j + 1, by omega, by omega, rfl, rfl⟩
  · have hje : j = g := by omega
    subst hje
    have hA1 : strA .add [61, 63, 85, 84, 70, 45, 56, 63, 98, 63] (b64S a) = some (.str (oneP a)) := strA_cat (by simp; omega)
    have hA2 : strA .add (oneP a) [63, 61] = some (.str (oneS a)) := strA_cat (by simp [oneP]; omega)
    have hB1 : strA .add [61, 63, 117, 115, 45, 97, 115, 99, 105, 105, 63, 66, 63] (b64S b) = some (.str (twoP b)) := strA_cat (by simp; omega)
    have hB2 : strA .add (twoP b) [63, 61] = some (.str (twoS b)) := strA_cat (by simp [twoP]; omega)
    have hC : strA .add (List.replicate j 32) (twoS b) = some (.str (gapT j b)) := strA_cat (by simp; omega)
    have hD1 : strA .add (oneS a) [120] = some (.str (oneX a)) := strA_cat (by simp; omega)
    have hD2 : strA .add (oneX a) (twoS b) = some (.str (midS a b)) := strA_cat (by simp [oneX]; omega)
    have hE1 : strA .add a [120] = some (.str (aX a)) := strA_cat (by simp; omega)
    have hE2 : strA .add (aX a) b = some (.str (midR a b)) := strA_cat (by simp [aX]; omega)
    have hF : strA .add a b = some (.str (a ++ b)) := strA_cat (by omega)
    have u1 := f21 [oneS a] false 1 (some 1) ⟨.inr rfl, by simp⟩ (by simp) (by simp [sumS]; omega)
    rw [joinS_one, says_one] at u1
    have u2 := f21 [oneS a, gapT j b] false 1 (some 2) ⟨.inr rfl, by simp⟩ (by simp) (by simp [sumS, gapT]; omega)
    rw [says_gap'] at u2
    have u3 := f21 [midS a b] false 1 (some 1) ⟨.inr rfl, by simp⟩ (by simp) (by simp [sumS, midS, oneX]; omega)
    rw [joinS_one, says_mid'] at u3
    have u4 := f21 [] true 0 (some 0) ⟨.inl rfl, by simp⟩ (by simp) (by simp [sumS])
    have e4 : wordsP (joinS [32] []) = [] := rfl
    rw [e4] at u4
    simp [t46, t45, t0, t1, t9]
    refine WCall_p (f12 a (by omega) _ _) ?_
    simp [t1, hA1, hA2, -strA_add]
    refine WCall_p (f12 b (by omega) _ _) ?_
    simp [hB1, hB2, -strA_add]
    refine WCall_p (u1 _ _) ?_
    simp [t0, t1, t9, hC, -strA_add]
    refine WCall_p (u2 _ _) ?_
    simp [t0, t1, t9, hF, hD1, hD2, -strA_add]
    refine WCall_p (u3 _ _) ?_
    simp [t0, t1, t9, hE1, hE2, -strA_add]
    refine WCall_p (u4 _ _) ?_
    simp
    exact WCall_p (f9 _ _) (by simp)

set_option maxHeartbeats 1000000 in
theorem f7 (a b : List UInt8) (n : Int) (h1 : -9223372036854775808 ≤ n) (h2 : n ≤ 9223372036854775807) (hp nx) : Ret E 7 [.str a, .str b, .v (.int .i64 n)] hp nx (.v (.bool true)) hp nx .p := by
  refine Ret_pureQ e7 rfl (by simp) ?_ hp nx
  by_cases k1 : 1000 < a.length
  · have k1' : (1000 : Int) < a.length := by omega
    simp [c7, k1', -Int.ofNat_lt]
    exact WCall_p (f9 _ _) (by simp)
  have k1' : ¬ (1000 : Int) < a.length := by omega
  by_cases k2 : 1000 < b.length
  · have k2' : (1000 : Int) < b.length := by omega
    simp [c7, k1', k2', -Int.ofNat_lt]
    exact WCall_p (f9 _ _) (by simp)
  have k2' : ¬ (1000 : Int) < b.length := by omega
  simp [c7, k1', k2', -Int.ofNat_lt]
  refine W_loopI (I := fun (j : Nat) s' => j ≤ a.length ∧ s'.tm 23 = .int .i64 j ∧ s'.tm 22 = .int .i64 a.length ∧ s'.tm 0 = .str a ∧ s'.tm 1 = .str b ∧ s'.tm 2 = .v (.int .i64 n) ∧ s'.tm 7 = .bool (decide ((61 : UInt8) ∉ a.take j))) (fun j => a.length - j) 0 (by simp) ?_
  rintro j tm hp nx ⟨hj, t23, t22, t0, t1, t2, t7⟩
  simp only at hj t23 t22 t0 t1 t2 t7
  by_cases hlt : j < a.length
  · have hlt' : (j : Int) < a.length := by omega
    have hg0 : a[j]? = some a[j] := List.getElem?_eq_getElem hlt
    have hw : IntKind.wrap .i64 ((j : Int) + 1) = (j + 1 : Nat) := by rw [wrap_id] <;> omega
    have hms := mem_take_succ hlt 61
    have heq : ((a[j].toNat : Int) = 61) = (a[j] = 61) := eq_u8 (n := 61) (by omega)
    cases hb : decide ((61 : UInt8) ∉ a.take j) with
    | true =>
      rw [hb] at hms t7
      simp [t23, t22, t0, t1, t2, t7, hlt', hg0, hw, heq, -Int.ofNat_lt, -Int.natCast_add]
      refine ⟨j + 1, by omega, by omega, rfl, ?_⟩
      simpa using hms.symm
    | false =>
      rw [hb] at hms t7
      simp [t23, t22, t0, t1, t2, t7, hlt', hg0, hw, heq, -Int.ofNat_lt, -Int.natCast_add]
      refine ⟨j + 1, by omega, by omega, rfl, ?_⟩
      simpa using hms
  · have hje : j = a.length := by omega
    subst hje
    rw [List.take_length] at t7
    have c21 := f21 [a] false 1 (some 1) ⟨.inr rfl, by simp⟩ (by simp) (by simp [sumS]; omega)
    rw [joinS_one] at c21
    cases hb : decide ((61 : UInt8) ∉ a) with
    | true =>
      rw [hb] at t7
      rw [says_plain (of_decide_eq_true hb)] at c21
      simp [t23, t22, t0, t1, t2, t7]
      refine WCall_p (c21 _ _) ?_
      simp [t0]
      exact f7t a b n h1 h2 (by omega) (by omega) _ _ _ (by simp [t0]) (by simp [t1]) (by simp [t2])
    | false =>
      rw [hb] at t7
      simp [t23, t22, t0, t1, t2, t7]
      exact f7t a b n h1 h2 (by omega) (by omega) _ _ _ (by simp [t0]) (by simp [t1]) (by simp [t2])
end Go.Ai
