/- A law's run, where nothing need be known of package-level variables. -/
import Derived.Test.YtooomkpingiojaaGreatAiArg
namespace Go.Ai
theorem law_run {P : Program} {E : Env} (hE : EnvOk P E) (hm : P.follows .mixedOrders = true) {f : Nat} {args : List AV} (hb : hasBody P f = true) (h : Ret E f args hnil 0 (.v (.bool true)) hnil 0 .p) {W : World} {cargs : Array Value} (ha : LRel (topCx W) args cargs.toList) :
    Calls P f cargs W fun e W' => e = .returned (.bool true) ∧ Kept W W' :=
  law_runG hE hm hb h (fun g vs hg => absurd hg (globTab_none g vs)) ha
end Go.Ai
