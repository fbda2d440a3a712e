/- A number's text, both ways. -/
import Derived.Test.YtcnaelknemednaaDoorWa
import Derived.Test.YtcnaelknemednaaDoorAiStr
namespace Go.Ai
set_option linter.unusedVariables false
set_option linter.unusedSimpArgs false

/-- A number's text: * of 0. -/
def numT (n : Int) : List UInt8 := if n = 0 then [42] else Lib.itoa n
theorem f17 (n : Int) (h0 : -9223372036854775808 ≤ n) (h1 : n ≤ 9223372036854775807) (hp nx) : Ret E 17 [.v (.int .i64 n)] hp nx (.str (numT n)) hp nx .p := by
  refine Ret_pureQ e17 rfl (by simp) ?_ hp nx
  have ci : ∀ hp nx, Ret E 28 [.v (.int .i64 n)] hp nx (.str (Lib.itoa n)) hp nx .p := fun hp nx => Ret_prim (.inr (.inl ⟨rfl, rfl, rfl, rfl, n, h0, h1, rfl, rfl⟩))
  by_cases h : n = 0
  · simp [c17, h, numT]
  · simp [c17, h, numT]
    exact WCall_p (ci _ _) (by simp)
end Go.Ai

namespace Go.Ai
set_option linter.unusedVariables false
set_option linter.unusedSimpArgs false

/-- The digits of what is left, ahead of those that stand. -/
def digT (n : Nat) (t : List UInt8) : List UInt8 := if n = 0 then t else Lib.decDigits n ++ t
theorem digT_step (n : Nat) (t : List UInt8) (h : n ≠ 0) : digT (n / 10) (UInt8.ofNat (48 + n % 10) :: t) = digT n t := by
  unfold digT
  rw [if_neg h]
  by_cases h1 : n < 10
  · rw [if_pos (by omega), Lib.decDigits_one h1, Nat.mod_eq_of_lt h1]; rfl
  · rw [if_neg (by omega)]
    conv => rhs; rw [Lib.decDigits, dif_neg h1]
    simp

theorem f19 (n : Nat) (h1 : n ≤ 4294967295) (hp nx) : Ret E 19 [.v (.int .i64 n)] hp nx (.str (numT n)) hp nx .p := by
  refine Ret_pureQ e19 rfl (by simp) ?_ hp nx
  by_cases h : n = 0
  · subst h; simp [c19, numT]
  · have hn : ¬ (n : Int) = 0 := by omega
    have hg : numT n = digT n [] := by simp [numT, hn, digT, h, Lib.itoa]
    rw [hg]
    simp [c19, hn, h]
    refine W_loopI (I := fun (q : Nat × List UInt8) s => q.1 ≤ n ∧ s.tm 0 = .v (.int .i64 q.1) ∧ s.tm 3 = .str q.2 ∧ s.hp = hnil ∧ s.nx = 0 ∧ q.2.length + q.1 ≤ n ∧ digT q.1 q.2 = digT n []) (fun q => q.1) (n, []) ⟨Nat.le_refl _, by simp, by simp, by simp, by simp, by simp, rfl⟩ ?_
    rintro ⟨m, t⟩ tm hp nx ⟨hm, t0, t3, rfl, rfl, hl, hd⟩
    simp only at hm t0 t3 hl hd
    by_cases hz : m = 0
    · subst hz
      have : digT n [] = t := by rw [← hd]; simp [digT]
      simp [t0, t3, this]
    · have hz2 : (0 : Int) < m := by omega
      simp [t0, t3, hz2, show 0 < m by omega, -Prod.exists]
      have e1 : Int.tmod (m : Int) 10 = ((m % 10 : Nat) : Int) := by rw [Int.tmod_eq_emod_of_nonneg (by omega)]; omega
      have w1 : IntKind.wrap .i64 (48 + ((m % 10 : Nat) : Int)) = ((48 + m % 10 : Nat) : Int) := by rw [wrap_id] <;> omega
      have w2 : IntKind.wrap .u8 ((48 + m % 10 : Nat) : Int) = ((48 + m % 10 : Nat) : Int) := wrap8 (by omega) (by omega)
      have w3 : IntKind.wrap .i64 ((m : Int) / 10) = ((m / 10 : Nat) : Int) := by rw [wrap_id] <;> omega
      refine ⟨by omega, ⟨(m / 10, UInt8.ofNat (48 + m % 10) :: t), by simp only; omega, by simp only; omega, by rw [w3], by rw [e1, w1, w2]; rfl, by simp only [List.length_cons]; omega, by simp only; rw [digT_step m t hz, hd]⟩⟩
end Go.Ai
