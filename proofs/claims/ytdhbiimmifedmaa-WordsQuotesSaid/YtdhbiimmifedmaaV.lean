/- The chapter's examples; WordsBase, WordsBack. -/
import Derived.Test.YtdhbiimmifedmaaU
namespace Go.Ai
set_option linter.unusedVariables false
set_option linter.unusedSimpArgs false

theorem f14 (n : Int) (hp nx) : Ret E 14 [.v (.int .i64 n)] hp nx (.v (.int .i64 n)) hp nx .p := by
  refine Ret_pureQ e14 rfl (by simp) ?_ hp nx
  simp [c14]

def exLine : List UInt8 := [61, 63, 117, 116, 102, 45, 56, 63, 66, 63, 119, 54, 107, 61, 63, 61, 32, 61, 63, 73, 83, 79, 45, 56, 56, 53, 57, 45, 49, 63, 113, 63, 61, 69, 57, 95, 120, 63, 61]
theorem ex1 : unS [89, 87, 73, 61] = ([97, 98], 0) := by kernel_rfl
theorem ex2 : b64S [97, 98] = [89, 87, 73, 61] := by kernel_rfl
theorem ex3 : unqS [97, 61, 51, 68, 98, 61, 48, 65] 0 = [97, 61, 98, 10] := by kernel_rfl
theorem ex4 : wordsP (joinS [32] [exLine]) = [195, 169, 195, 169, 32, 120] := by kernel_rfl
theorem ex5 : lowS [97, 66] = [97, 98] := by kernel_rfl

theorem f9 (hp nx) : Ret E 9 [] hp nx (.v (.bool true)) hp nx .p := by
  refine Ret_pureQ e9 rfl (by simp) ?_ hp nx
  have a1 := f10 [89, 87, 73, 61] (by decide)
  rw [ex1] at a1
  have a2 := f12 [97, 98] (by decide)
  rw [ex2] at a2
  have a3 := f15 [97, 61, 51, 68, 98, 61, 48, 65] (by decide)
  rw [ex3] at a3
  have a4 := f21 [exLine] false 1 (some 1) ⟨.inr rfl, by simp⟩ (by decide) (by decide)
  rw [ex4] at a4
  have a5 := f17 [97, 66] (by decide)
  rw [ex5] at a5
  simp [c9]
  refine WCall_p (a1 _ _) ?_
  simp
  refine WCall_p (a2 _ _) ?_
  simp
  refine WCall_p (f14 _ _ _) ?_
  simp
  refine WCall_p (a3 _ _) ?_
  simp
  refine WCall_p (a4 _ _) ?_
  simp
  refine WCall_p (a5 _ _) ?_
  simp

theorem f3 (b s : List UInt8) (hp nx) : Ret E 3 [.str b, .str s] hp nx (.v (.bool true)) hp nx .p := by
  refine Ret_pureQ e3 rfl (by simp) ?_ hp nx
  by_cases h1 : 2000 < b.length
  · have h1' : (2000 : Int) < b.length := by omega
    simp [c3, h1']
    exact WCall_p (f9 _ _) (by simp)
  · have h1' : ¬ (2000 : Int) < b.length := by omega
    by_cases h2 : 2000 < s.length
    · have h2' : (2000 : Int) < s.length := by omega
      simp [c3, h1', h2']
      exact WCall_p (f9 _ _) (by simp)
    · have h2' : ¬ (2000 : Int) < s.length := by omega
      have u := f11 s (by omega)
      rw [refU_eq] at u
      simp [c3, h1', h2']
      refine WCall_p (f10 s (by omega) _ _) ?_
      simp
      refine WCall_p (u _ _) ?_
      simp
      refine WCall_p (f12 b (by omega) _ _) ?_
      simp
      refine WCall_p (f13 b (by omega) _ _) ?_
      simp
      refine WCall_p (f14 _ _ _) ?_
      simp
      exact WCall_p (f9 _ _) (by simp)

theorem f4 (b s : List UInt8) (hp nx) : Ret E 4 [.str b, .str s] hp nx (.v (.bool true)) hp nx .p := by
  refine Ret_pureQ e4 rfl (by simp) ?_ hp nx
  by_cases h1 : 5000 < b.length
  · have h1' : (5000 : Int) < b.length := by omega
    simp [c4, h1']
    exact WCall_p (f9 _ _) (by simp)
  have h1' : ¬ (5000 : Int) < b.length := by omega
  by_cases h2 : 5000 < s.length
  · have h2' : (5000 : Int) < s.length := by omega
    simp [c4, h1', h2']
    exact WCall_p (f9 _ _) (by simp)
  have h2' : ¬ (5000 : Int) < s.length := by omega
  have hbl := b64S_length b
  have hu : unS (b64S b) = (b, 0) := by simp [unS, decS_b64S]
  have c10' := f10 (b64S b) (by omega)
  rw [hu] at c10'
  have hw1 : IntKind.wrap .i64 ((b.length : Int) + 2) = (b.length + 2 : Nat) := by rw [wrap_id] <;> omega
  have hq : ((b.length + 2 : Nat) : Int).tdiv 3 = ((b.length + 2) / 3 : Nat) := by rw [Int.tdiv_eq_ediv_of_nonneg (by omega)]; omega
  have hw2 : IntKind.wrap .i64 (((b.length + 2) / 3 : Nat) : Int) = ((b.length + 2) / 3 : Nat) := by rw [wrap_id] <;> omega
  have hw3 : IntKind.wrap .i64 ((((b.length + 2) / 3 : Nat) : Int) * 4) = ((b64S b).length : Nat) := by rw [hbl, wrap_id] <;> omega
  simp [c4, h1', h2']
  refine WCall_p (f12 b (by omega) _ _) ?_
  simp
  refine WCall_p (c10' _ _) ?_
  simp
  refine WCall_p (f14 _ _ _) ?_
  simp [hw1, hq, hw2, hw3, -Int.natCast_add, -Int.natCast_ediv]
  refine WCall_p (f10 s (by omega) _ _) ?_
  simp
  refine WCall_p (f14 _ _ _) ?_
  by_cases he : b64S (decS s 0 0) = s
  · have e1 : unS s = (decS s 0 0, 0) := by simp [unS, he]
    have := decS_length s 0 0
    simp [e1]
    refine WCall_p (f12 _ (by omega) _ _) ?_
    simp [he]
    exact WCall_p (f9 _ _) (by simp)
  · have e1 : unS s = ([], 11) := by simp [unS, he]
    simp [e1]
    refine WCall_p (f14 _ _ _) ?_
    simp
    exact WCall_p (f9 _ _) (by simp)
end Go.Ai
