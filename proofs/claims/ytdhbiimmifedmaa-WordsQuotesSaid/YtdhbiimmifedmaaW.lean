/- WordsQuoted. -/
import Derived.Test.YtdhbiimmifedmaaV
namespace Go.Ai
set_option linter.unusedVariables false
set_option linter.unusedSimpArgs false

theorem f5 (s : List UInt8) (hp nx) : Ret E 5 [.str s] hp nx (.v (.bool true)) hp nx .p := by
  refine Ret_pureQ e5 rfl (by simp) ?_ hp nx
  by_cases h1 : 2000 < s.length
  · have h1' : (2000 : Int) < s.length := by omega
    simp [c5, h1']
    exact WCall_p (f9 _ _) (by simp)
  · have h1' : ¬ (2000 : Int) < s.length := by omega
    simp [c5, h1']
    refine WCall_p (f15 s (by omega) _ _) ?_
    simp
    refine WCall_p (f16 s (by omega) _ _) ?_
    simp
    refine WCall_p (f17 s (by omega) _ _) ?_
    simp
    refine WCall_p (f18 s (by omega) _ _) ?_
    simp
    refine WCall_p (f19 s (by omega) _ _) ?_
    simp
    refine WCall_p (f20 s (by omega) _ _) ?_
    simp
    exact WCall_p (f9 _ _) (by simp)
end Go.Ai
