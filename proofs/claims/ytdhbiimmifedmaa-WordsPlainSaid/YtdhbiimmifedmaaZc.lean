/- WordsQuotes' walk. -/
import Derived.Test.YtdhbiimmifedmaaZb
namespace Go.Ai
set_option linter.unusedVariables false
set_option linter.unusedSimpArgs false

theorem wrapu8 {n : Nat} (h : n ≤ 255) : IntKind.wrap .u8 (n : Int) = n := by
  rw [wrap_u8]; simp; omega
theorem shr4 (c : UInt8) : shA .shr .u8 (c.toNat : Int) 4 = some (.v (.int .u8 ((c.toNat / 16 : Nat) : Int))) := by
  have h1 : Nat.min 4 IntKind.u8.bits = 4 := rfl
  have h2 : ¬ (4 : Int) < 0 := by omega
  have h3 : (4 : Int).toNat = 4 := rfl
  simp only [shA, if_neg h2, h3, h1]
  rw [show ((2 : Int) ^ 4) = ((16 : Nat) : Int) by rfl, Int.fdiv_eq_ediv_of_nonneg _ (Int.natCast_nonneg _)]
  simp
theorem and15 (c : UInt8) : binA .and (.v (.int .u8 (c.toNat : Int))) (.v (.int .u8 15)) = some (.v (.int .u8 ((c.toNat % 16 : Nat) : Int))) := by
  rw [binA_and]
  have hc := c.toNat_lt
  have : (BitVec.ofInt IntKind.u8.bits (c.toNat : Int) &&& BitVec.ofInt IntKind.u8.bits (15 : Int)).toNat = c.toNat % 16 := by
    show (BitVec.ofInt 8 (c.toNat : Int) &&& BitVec.ofInt 8 ((2 ^ 4 - 1 : Nat) : Int)).toNat = _
    rw [BitVec.toNat_and, BitVec.ofInt_natCast, BitVec.ofInt_natCast, BitVec.toNat_ofNat, BitVec.toNat_ofNat, Nat.mod_eq_of_lt (by omega), Nat.mod_eq_of_lt (a := 2 ^ 4 - 1) (by omega), Nat.and_two_pow_sub_one_eq_mod]
  rw [this, wrapu8 (by omega)]
theorem digL_cut (small : Bool) {k : Nat} (h : k < 16) : sliceStr (.str (digL small)) (some (.v (.int .u8 (k : Int)))) (some (.v (.int .u8 ((k + 1 : Nat) : Int)))) = some (.str [(digL small).getD k 0]) := by
  have hl : (digL small).length = 16 := by cases small <;> rfl
  rw [sliceStr_lh, if_pos (by omega), Int.toNat_natCast, Int.toNat_natCast, List.take_add_one, List.getElem?_eq_getElem (by omega), List.drop_append_of_le_length (by simp; omega)]
  simp [List.getD, List.getElem?_eq_getElem (show k < (digL small).length by omega)]

theorem escL_take {small : Bool} {s : List UInt8} {j : Nat} (h : j < s.length) : escL small (s.take (j + 1)) = escL small (s.take j) ++ triL small s[j] := by
  have e : s.take (j + 1) = s.take j ++ [s[j]] := by rw [List.take_add_one, List.getElem?_eq_getElem h]; rfl
  rw [e]
  simp only [escL, List.flatMap_append, List.flatMap_cons, List.flatMap_nil, List.append_nil]

set_option maxHeartbeats 1000000 in
theorem f8t (s : List UInt8) (small : Bool) (k1 : s.length ≤ 500) (tm : Nat → AV) (hp nx) (t0 : tm 0 = .str s) (t5 : tm 5 = .str (digL small)) :
    W (Ret E) c8_rrrr (pureQ [.t 4] (.v (.bool true))) ⟨tm, hp, nx⟩ := by
  simp [c8_rrrr, t0]
  refine W_loopI (I := fun (j : Nat) s' => j ≤ s.length ∧ s'.tm 15 = .int .i64 j ∧ s'.tm 14 = .int .i64 s.length ∧ s'.tm 0 = .str s ∧ s'.tm 5 = .str (digL small) ∧ s'.tm 6 = .str (escL small (s.take j))) (fun j => s.length - j) 0 (by simp [t0, t5, escL]) ?_
  rintro j tm hp nx ⟨hj, t15, t14, t0, t5, t6⟩
  simp only at hj t15 t14 t0 t5 t6
  by_cases hlt : j < s.length
  · have hlt' : (j : Int) < s.length := by omega
    have hg0 : s[j]? = some s[j] := List.getElem?_eq_getElem hlt
    have hw : IntKind.wrap .i64 ((j : Int) + 1) = (j + 1 : Nat) := by rw [wrap_id] <;> omega
    have hc := s[j].toNat_lt
    have h16 := shr4 s[j]
    have h15 := and15 s[j]
    have hcut1 := digL_cut small (k := s[j].toNat / 16) (by omega)
    have hcut2 := digL_cut small (k := s[j].toNat % 16) (by omega)
    have hwa : IntKind.wrap .u8 (((s[j].toNat / 16 : Nat) : Int) + 1) = (s[j].toNat / 16 + 1 : Nat) := wrapu8 (n := s[j].toNat / 16 + 1) (by omega)
    have hwb : IntKind.wrap .u8 (((s[j].toNat % 16 : Nat) : Int) + 1) = (s[j].toNat % 16 + 1 : Nat) := wrapu8 (n := s[j].toNat % 16 + 1) (by omega)
    have hst := escL_take (small := small) hlt
    have hle : (escL small (s.take j)).length ≤ 1500 := by rw [esc_length, List.length_take]; omega
    have hA : strA .add (escL small (s.take j)) [61] = some (.str (escL small (s.take j) ++ [61])) := strA_cat (by simp only [List.length_cons, List.length_nil]; omega)
    have hB : strA .add (escL small (s.take j) ++ [61]) [(digL small).getD (s[j].toNat / 16) 0] = some (.str (escL small (s.take j) ++ [61] ++ [(digL small).getD (s[j].toNat / 16) 0])) := strA_cat (by simp only [List.length_append, List.length_cons, List.length_nil]; omega)
    have hC : strA .add (escL small (s.take j) ++ [61] ++ [(digL small).getD (s[j].toNat / 16) 0]) [(digL small).getD (s[j].toNat % 16) 0] = some (.str (escL small (s.take (j + 1)))) := by
      rw [strA_cat (by simp only [List.length_append, List.length_cons, List.length_nil]; omega), hst]; simp [triL]
    generalize (digL small).getD (s[j].toNat / 16) 0 = d1 at *
    generalize (digL small).getD (s[j].toNat % 16) 0 = d2 at *
    generalize escL small (s.take j) ++ [61] ++ [d1] = z2 at *
    generalize escL small (s.take j) ++ [61] = z1 at *
    simp [t15, t14, t0, t5, t6, hlt', hg0, hw, h16, h15, hwa, hwb, hcut1, hcut2, hA, hB, hC, -binA_and, -strA_add, -sliceStr_lh, -Int.ofNat_lt, -Int.natCast_add, -Int.natCast_ediv, -Int.natCast_emod]
    exact ⟨j + 1, by omega, by omega, rfl, rfl⟩
  · have hje : j = s.length := by omega
    subst hje
    rw [List.take_length] at t6
    have hl := esc_length small s
    have hut := unq_t small s
    have hutt := unq_tt small s
    have hq8 := says_q8 small s
    have hqi := says_qi small s
    generalize escL small s = t at *
    have hA1 : strA .add t [61, 13, 10] = some (.str (t ++ [61, 13, 10])) := strA_cat (by simp only [List.length_cons, List.length_nil]; omega)
    have hA2 : strA .add (t ++ [61, 13, 10]) t = some (.str (t ++ [61, 13, 10] ++ t)) := strA_cat (by simp only [List.length_append, List.length_cons, List.length_nil]; omega)
    have hA3 : strA .add (t ++ [61, 13, 10] ++ t) [61, 10] = some (.str (t ++ [61, 13, 10] ++ t ++ [61, 10])) := strA_cat (by simp only [List.length_append, List.length_cons, List.length_nil]; omega)
    have hAl : (t ++ [61, 13, 10] ++ t ++ [61, 10]).length ≤ 5000 := by simp only [List.length_append, List.length_cons, List.length_nil]; omega
    generalize t ++ [61, 13, 10] ++ t ++ [61, 10] = z3 at *
    generalize t ++ [61, 13, 10] ++ t = z2 at *
    generalize t ++ [61, 13, 10] = z1 at *
    have hss : strA .add s s = some (.str (s ++ s)) := strA_cat (by omega)
    have hB1 : strA .add [61, 63, 117, 116, 102, 45, 56, 63, 81, 63] t = some (.str ([61, 63, 117, 116, 102, 45, 56, 63, 81, 63] ++ t)) := strA_cat (by simp only [List.length_cons, List.length_nil]; omega)
    have hB2 : strA .add ([61, 63, 117, 116, 102, 45, 56, 63, 81, 63] ++ t) [63, 61] = some (.str (qWord [117, 116, 102, 45, 56] t)) := strA_cat (by simp only [List.length_append, List.length_cons, List.length_nil]; omega)
    have hBl : (qWord [117, 116, 102, 45, 56] t).length ≤ 5000 := by simp only [qWord, List.length_append, List.length_cons, List.length_nil]; omega
    have hC1 : strA .add [61, 63, 105, 115, 111, 45, 56, 56, 53, 57, 45, 49, 63, 81, 63] t = some (.str ([61, 63, 105, 115, 111, 45, 56, 56, 53, 57, 45, 49, 63, 81, 63] ++ t)) := strA_cat (by simp only [List.length_cons, List.length_nil]; omega)
    have hC2 : strA .add ([61, 63, 105, 115, 111, 45, 56, 56, 53, 57, 45, 49, 63, 81, 63] ++ t) [63, 61] = some (.str (qWord [105, 115, 111, 45, 56, 56, 53, 57, 45, 49] t)) := strA_cat (by simp only [List.length_append, List.length_cons, List.length_nil]; omega)
    have hCl : (qWord [105, 115, 111, 45, 56, 56, 53, 57, 45, 49] t).length ≤ 5000 := by simp only [qWord, List.length_append, List.length_cons, List.length_nil]; omega
    generalize [61, 63, 117, 116, 102, 45, 56, 63, 81, 63] ++ t = y1 at *
    generalize [61, 63, 105, 115, 111, 45, 56, 56, 53, 57, 45, 49, 63, 81, 63] ++ t = y2 at *
    have u1 := f15 t (by omega)
    rw [hut] at u1
    have u2 := f15 z3 (by omega)
    rw [hutt] at u2
    have u3 := f21 [qWord [117, 116, 102, 45, 56] t] false 1 (some 1) ⟨.inr rfl, by simp⟩ (by simp) (by simp [sumS]; omega)
    rw [joinS_one, hq8] at u3
    have u4 := f21 [qWord [105, 115, 111, 45, 56, 56, 53, 57, 45, 49] t] false 1 (some 1) ⟨.inr rfl, by simp⟩ (by simp) (by simp [sumS]; omega)
    rw [joinS_one, hqi] at u4
    simp [t15, t14, t0, t6]
    refine WCall_p (u1 _ _) ?_
    simp [t0, t6, hA1, hA2, hA3, -strA_add]
    refine WCall_p (u2 _ _) ?_
    simp [t0, t6, hss, hB1, hB2, -strA_add]
    refine WCall_p (u3 _ _) ?_
    simp [t0, t6, hC1, hC2, -strA_add]
    refine WCall_p (u4 _ _) ?_
    simp [t0]
    refine WCall_p (f19 s (by omega) _ _) ?_
    simp
    exact WCall_p (f9 _ _) (by simp)

theorem f8 (s : List UInt8) (small : Bool) (hp nx) : Ret E 8 [.str s, .v (.bool small)] hp nx (.v (.bool true)) hp nx .p := by
  refine Ret_pureQ e8 rfl (by simp) ?_ hp nx
  by_cases k1 : 500 < s.length
  · have k1' : (500 : Int) < s.length := by omega
    simp [c8, k1', -Int.ofNat_lt]
    exact WCall_p (f9 _ _) (by simp)
  have k1' : ¬ (500 : Int) < s.length := by omega
  cases small with
  | true =>
    simp [c8, k1', -Int.ofNat_lt]
    exact f8t s true (by omega) _ _ _ (by simp) (by simp; rfl)
  | false =>
    simp [c8, k1', -Int.ofNat_lt]
    exact f8t s false (by omega) _ _ _ (by simp) (by simp; rfl)
end Go.Ai
