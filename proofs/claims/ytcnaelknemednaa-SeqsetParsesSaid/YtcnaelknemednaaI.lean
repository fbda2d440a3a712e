/- The document's one way of a set: the walk. -/
import Derived.Test.YtcnaelknemednaaH
namespace Go.Ai
set_option linter.unusedVariables false
set_option linter.unusedSimpArgs false

theorem f32 (x : Sp) (most : Int) (h1 : 0 ≤ x.1) (h2 : 0 ≤ x.2) (hp nx) : Ret E 32 [.agg (cellsP x), .v (.int .i64 most)] hp nx (.v (.int .i64 (endI most x))) hp nx .p := by
  obtain ⟨a, b⟩ := x
  simp only at h1 h2
  refine Ret_pureQ e32 rfl (by simp [cellsP]) ?_ hp nx
  simp only [c32, cellsP]
  have q7' : mxN = 4294967295 := rfl
  by_cases q2 : a = 0
  · subst q2
    by_cases q3 : b = 0
    · subst q3
      by_cases q4 : most < 1
      · simp [q4, endI, endsS]
      · have q5 : 0 < most := by omega
        by_cases q9 : 4294967295 < most
        · simp [q4, q5, q9]; simp [endI, endsS, q4]; omega
        · simp [q4, q5, q9]; simp [endI, endsS, q4]; omega
    · have q1 : 0 < b := by omega
      by_cases q4 : most < 1
      · simp [q1, q3, q4, endI, endsS]
      · by_cases q5 : b < most
        · by_cases q9 : 4294967295 < most
          · simp [q1, q3, q4, q5, q9]; simp [endI, endsS, q3, q4]; omega
          · simp [q1, q3, q4, q5, q9]; simp [endI, endsS, q3, q4]; omega
        · by_cases q9 : 4294967295 < b
          · simp [q1, q3, q4, q5, q9]; simp [endI, endsS, q3, q4]; omega
          · simp [q1, q3, q4, q5, q9]; simp [endI, endsS, q3, q4]; omega
  · by_cases q3 : b = 0
    · subst q3
      have q1 : ¬ a < 0 := by omega
      by_cases q4 : most < 1
      · simp [q1, q2, q4, endI, endsS]
      · by_cases q5 : a < most
        · by_cases q9 : 4294967295 < most
          · simp [q1, q2, q4, q5, q9]; simp [endI, endsS, q2, q4]; omega
          · simp [q1, q2, q4, q5, q9]; simp [endI, endsS, q2, q4]; omega
        · by_cases q9 : 4294967295 < a
          · simp [q1, q2, q4, q5, q9]; simp [endI, endsS, q2, q4]; omega
          · simp [q1, q2, q4, q5, q9]; simp [endI, endsS, q2, q4]; omega
    · by_cases q1 : a < b
      · by_cases q9 : 4294967295 < b
        · simp [q1, q2, q3, q9]; simp [endI, endsS, q2, q3]; omega
        · simp [q1, q2, q3, q9]; simp [endI, endsS, q2, q3]; omega
      · by_cases q9 : 4294967295 < a
        · simp [q1, q2, q3, q9]; simp [endI, endsS, q2, q3]; omega
        · simp [q1, q2, q3, q9]; simp [endI, endsS, q2, q3]; omega

theorem f31 (x : Sp) (most at' : Int) (h1 : 0 ≤ x.1) (h2 : 0 ≤ x.2) (h0 : 0 ≤ at') (h3 : at' ≤ mxN) (hp nx) : Ret E 31 [.agg (cellsP x), .v (.int .i64 most), .v (.int .i64 at')] hp nx (.v (.int .i64 (leastI most at' x))) hp nx .p := by
  rw [least_def h1 h2 h0]
  have hf := f32 x most h1 h2
  obtain ⟨a, b⟩ := x
  simp only at h1 h2
  refine Ret_pureQ e31 rfl (by simp [cellsP]) ?_ hp nx
  have hw : IntKind.wrap .i64 (at' + 1) = at' + 1 := by simp only [mxN] at h3; rw [wrap_id] <;> omega
  simp [c31, cellsP]
  refine WCall_p (hf _ _) ?_
  by_cases q0 : endI most (a, b) ≤ at'
  · simp [q0]
  · simp only [if_neg q0]
    have hs : (endsS (a, b) most).2.2 = true := by
      cases hs : (endsS (a, b) most).2.2 with
      | true => rfl
      | false => simp [endI, hs] at q0; omega
    simp only [mxN]
    by_cases q2 : a = 0
    · subst q2
      by_cases q3 : b = 0
      · subst q3
        have q4 : ¬ most < 1 := by intro q4; simp [endsS, q4] at hs
        have e : endsS (0, 0) most = (most, most, true) := by simp [endsS, q4]
        rw [e]
        by_cases q5 : 4294967295 < most
        · simp [q0, q5]
        · by_cases q6 : most ≤ at' <;> simp [q0, q5, q6, hw]
      · have q4 : ¬ most < 1 := by intro q4; simp [endsS, q4] at hs
        have e : endsS (0, b) most = (min most b, max most b, true) := by simp [endsS, q3, q4]
        rw [e]
        by_cases q7 : b < most
        · rw [show min most b = b by omega]
          by_cases q5 : 4294967295 < b
          · simp [q0, q3, q5, q7]
          · by_cases q6 : b ≤ at' <;> simp [q0, q3, q5, q6, q7, hw]
        · rw [show min most b = most by omega]
          by_cases q5 : 4294967295 < most
          · simp [q0, q3, q5, q7]
          · by_cases q6 : most ≤ at' <;> simp [q0, q3, q5, q6, q7, hw]
    · by_cases q3 : b = 0
      · subst q3
        have q4 : ¬ most < 1 := by intro q4; simp [endsS, q4, q2] at hs
        have e : endsS (a, 0) most = (min a most, max a most, true) := by simp [endsS, q2, q4]
        rw [e]
        by_cases q7 : most < a
        · rw [show min a most = most by omega]
          by_cases q5 : 4294967295 < most
          · simp [q0, q2, q5, q7]
          · by_cases q6 : most ≤ at' <;> simp [q0, q2, q5, q6, q7, hw]
        · rw [show min a most = a by omega]
          by_cases q5 : 4294967295 < a
          · simp [q0, q2, q5, q7]
          · by_cases q6 : a ≤ at' <;> simp [q0, q2, q5, q6, q7, hw]
      · have e : endsS (a, b) most = (min a b, max a b, true) := by simp [endsS, q2, q3]
        rw [e]
        by_cases q7 : b < a
        · rw [show min a b = b by omega]
          by_cases q5 : 4294967295 < b
          · simp [q0, q2, q3, q5, q7]
          · by_cases q6 : b ≤ at' <;> simp [q0, q2, q3, q5, q6, q7, hw]
        · rw [show min a b = a by omega]
          by_cases q5 : 4294967295 < a
          · simp [q0, q2, q3, q5, q7]
          · by_cases q6 : a ≤ at' <;> simp [q0, q2, q3, q5, q6, q7, hw]
end Go.Ai
