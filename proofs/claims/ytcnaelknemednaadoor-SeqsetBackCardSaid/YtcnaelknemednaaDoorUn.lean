/- Two relations as one; what strconv.Itoa comes to. -/
import Derived.Test.YtcnaelknemednaaDoorSo
import Derived.Test.YtcnaelknemednaaDoorAiExt
import Derived.Lib.ItoaNum
import Derived.Lib.Join
namespace Go.Ai
set_option linter.unusedVariables false

def OrRel (R S : CallRel) : CallRel := fun f args hp nx v hp' nx' k => R f args hp nx v hp' nx' k ∨ S f args hp nx v hp' nx' k
theorem OrRel.sound {P : Program} {R S : CallRel} (h : RelSound P R) (g : RelSound P S) : RelSound P (OrRel R S) := by
  refine ⟨fun f args hp nx v hp' nx' k hr => hr.elim (h.kind _ _ _ _ _ _ _ _) (g.kind _ _ _ _ _ _ _ _), fun f args hp nx v hp' nx' hr => ?_, fun f args hp nx v hp' nx' k hr c cargs h1 h2 h3 => ?_⟩
  · rcases hr with hr | hr
    · obtain ⟨h1, h2, h3⟩ := h.pure _ _ _ _ _ _ _ hr
      exact ⟨h1, h2, fun a b => .inl (h3 a b)⟩
    · obtain ⟨h1, h2, h3⟩ := g.pure _ _ _ _ _ _ _ hr
      exact ⟨h1, h2, fun a b => .inr (h3 a b)⟩
  · rcases hr with hr | hr
    · exact h.calls _ _ _ _ _ _ _ _ hr c cargs h1 h2 h3
    · exact g.calls _ _ _ _ _ _ _ _ hr c cargs h1 h2 h3

/-- strconv.Itoa (f): the numeral. -/
def ItoaRel (f : Nat) : CallRel := fun f' args hp nx v hp' nx' k => f' = f ∧ k = .p ∧ hp' = hp ∧ nx' = nx ∧ ∃ n : Int, -9223372036854775808 ≤ n ∧ n ≤ 9223372036854775807 ∧ args = [.v (.int .i64 n)] ∧ v = .str (Lib.itoa n)

def strC (s : List UInt8) : List AV := [.str s]
/-- strings.Join (f) of a slice that nobody writes. -/
def JoinRel (f : Nat) : CallRel := fun f' args hp nx v hp' nx' k => f' = f ∧ k = .p ∧ hp' = hp ∧ nx' = nx ∧
  ∃ (nil : Bool) (sz : Nat) (es : List (List UInt8)) (cap : Option Nat) (sep : List UInt8), args = [.rs nil sz (es.map strC) cap, .str sep] ∧ ((nil = true ∨ sz = 1) ∧ (nil = true → es = [])) ∧ es.length ≤ 140737488355328 ∧ (Lib.join es sep).length ≤ 140737488355328 ∧ v = .str (Lib.join es sep)
end Go.Ai
