/- The chapter's examples. -/
import Derived.Test.YtcnaelknemednaaDoorR
import Derived.KernelRfl
namespace Go.Ai
set_option linter.unusedVariables false
set_option linter.unusedSimpArgs false

theorem ex_par : parP [49, 58, 51, 44, 42] = ([(1, 3), (0, 0)], 0) := by decide
theorem ex_mem : ([1, 2, 3, 4, 5, 6, 7, 8] : List Int).filter (fun n => hasS [(1, 3), (0, 0)] n 7) = [1, 2, 3, 7] := by decide
theorem ex_cl : clL [(5, 7), (1, 2), (3, 3)] 9 = [(5, 7), (1, 2), (3, 3)] := by decide
theorem ex_norm : normS [(5, 7), (1, 2), (3, 3)] 9 = [(1, 3), (5, 7)] := by
  obtain ⟨n1, n2⟩ := norm_ok [(5, 7), (1, 2), (3, 3)] 9
  refine gaps_unique n1 ⟨by decide, by decide, (by decide : (5 : Int) ≤ 7)⟩ fun n => ?_
  rw [n2 n, ex_cl]
  simp only [inS_cons]
  constructor
  · rintro (h | h | h | h)
    · exact .inr (.inl h)
    · exact .inl (by omega)
    · exact .inl (by omega)
    · exact absurd h inS_nil
  · rintro (h | h | h)
    · skip
      by_cases h2 : n ≤ 2
      · exact .inr (.inl (by omega))
      · exact .inr (.inr (.inl (by omega)))
    · exact .inl h
    · exact absurd h inS_nil
theorem ex_of : ofS [3, 1, 2, 9] = [(1, 3), (9, 9)] := by
  obtain ⟨n1, n2⟩ := norm_ok (([3, 1, 2, 9] : List Int).filterMap oneS) 0
  refine gaps_unique n1 ⟨by decide, by decide, (by decide : (9 : Int) ≤ 9)⟩ fun n => ?_
  rw [show ofS [3, 1, 2, 9] = normS (([3, 1, 2, 9] : List Int).filterMap oneS) 0 from rfl, n2 n, in_of]
  simp only [inS_cons, List.mem_cons, List.not_mem_nil, or_false, mxN]
  constructor
  · rintro ⟨h, _⟩
    by_cases h9 : n = 9
    · exact .inr (.inl (by omega))
    · exact .inl (by omega)
  · rintro (h | h | h)
    · omega
    · omega
    · exact absurd h inS_nil

theorem f5 (hp nx) : Ret E 5 [] hp nx (.v (.bool true)) hp nx .p := by
  refine Ret_pureQ e5 rfl (by simp) ?_ hp nx
  obtain ⟨v, ⟨y, hv, hy⟩, c11'⟩ := f11 [49, 58, 51, 44, 42] (by simp)
  rw [ex_par] at hv hy
  simp only at hv hy
  subst hv
  obtain ⟨v2, hv2, c14'⟩ := f14 [(1, 3), (0, 0)] y hy (by simp) [1, 2, 3, 4, 5, 6, 7, 8] (.rs false 1 (([1, 2, 3, 4, 5, 6, 7, 8] : List Int).map kidC) (some 8)) ⟨false, 1, some 8, rfl, .inr rfl, fun h => nomatch h⟩ (by simp) 7
  rw [ex_mem] at hv2
  obtain ⟨v3, hv3, c15'⟩ := f15 [(5, 7), (1, 2), (3, 3)] (.rs false 2 (([(5, 7), (1, 2), (3, 3)] : List Sp).map cellsP) (some 3)) ⟨false, 2, some 3, rfl, .inr rfl, fun h => nomatch h⟩ (by simp) 9
  rw [ex_norm] at hv3
  obtain ⟨v4, hv4, c16'⟩ := f16 [3, 1, 2, 9] (.rs false 1 (([3, 1, 2, 9] : List Int).map kidC) (some 4)) ⟨false, 1, some 4, rfl, .inr rfl, fun h => nomatch h⟩ (by simp)
  rw [ex_of] at hv4
  have a1 := f10 [(1, 3), (0, 0)] [(1, 3), (0, 0)] y (.rs false 2 (([(1, 3), (0, 0)] : List Sp).map cellsP) (some 2)) hy ⟨false, 2, some 2, rfl, .inr rfl, fun h => nomatch h⟩ (by simp) (by simp)
  have a2 := f13 [1, 2, 3, 7] [1, 2, 3, 7] v2 (.rs false 1 (([1, 2, 3, 7] : List Int).map kidC) (some 4)) hv2 ⟨false, 1, some 4, rfl, .inr rfl, fun h => nomatch h⟩ (by simp) (by simp)
  have a3 := f10 [(1, 3), (5, 7)] [(1, 3), (5, 7)] v3 (.rs false 2 (([(1, 3), (5, 7)] : List Sp).map cellsP) (some 2)) hv3 ⟨false, 2, some 2, rfl, .inr rfl, fun h => nomatch h⟩ (by simp) (by simp)
  have a4 := f10 [(1, 3), (9, 9)] [(1, 3), (9, 9)] v4 (.rs false 2 (([(1, 3), (9, 9)] : List Sp).map cellsP) (some 2)) hv4 ⟨false, 2, some 2, rfl, .inr rfl, fun h => nomatch h⟩ (by simp) (by simp)
  simp only [decide_true] at a1 a2 a3 a4
  simp only [List.map_cons, List.map_nil, cellsP, kidC] at c11' c14' c15' c16' a1 a2 a3 a4
  simp [c5]
  refine WCall_p (c11' _ _) ?_
  simp
  refine WCall_p (f12 _ _ _) ?_
  simp [spliceL]
  refine WCall_p (a1 _ _) ?_
  simp [spliceL]
  refine WCall_p (c14' _ _) ?_
  simp [spliceL]
  refine WCall_p (a2 _ _) ?_
  simp [spliceL]
  refine WCall_p (c15' _ _) ?_
  simp [spliceL]
  refine WCall_p (a3 _ _) ?_
  simp [spliceL]
  refine WCall_p (c16' _ _) ?_
  simp [spliceL]
  refine WCall_p (a4 _ _) ?_
  simp [spliceL]
end Go.Ai
