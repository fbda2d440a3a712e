/- Nodes as abstract values; which ones are right. -/
import Derived.Test.YtbdmloamekpeoaaC
import Derived.Test.YtbdmloamekpeoaaAiSimp
namespace Go.Ai
set_option linter.unusedVariables false
set_option linter.unusedSimpArgs false

structure Itm where
  v : List UInt8
  p : Int
  s : Int

def Itm.cells (x : Itm) : List AV := [.str x.v, .int .i64 x.p, .int .i64 x.s]

structure Nd where
  leaf : Bool
  keys : List (List UInt8)
  items : List Itm
  kids : List Int

def keyC (k : List UInt8) : List AV := [.str k]
def kidC (k : Int) : List AV := [.int .i64 k]

/-- A slice that nobody writes. -/
def SlA (n : Nat) (es : List (List AV)) (x : AV) : Prop := ∃ nil sz cap, x = .rs nil sz es cap ∧ (nil = true ∨ sz = n) ∧ (nil = true → es = [])

def NdA (n : Nd) (x : AV) : Prop := ∃ k i d, x = .agg [.v (.bool n.leaf), k, i, d] ∧ SlA 1 (n.keys.map keyC) k ∧ SlA 3 (n.items.map Itm.cells) i ∧ SlA 1 (n.kids.map kidC) d

theorem closedLL_map {α : Type} {f : α → List AV} (h : ∀ x, closedL (f x) = true) : ∀ l : List α, closedLL (l.map f) = true
  | [] => by simp
  | x :: r => by simp [h x, closedLL_map h r]
@[simp] theorem closed_keys {l : List (List UInt8)} : closedLL (l.map keyC) = true := closedLL_map (fun x => by simp [keyC]) l
@[simp] theorem closed_items {l : List Itm} : closedLL (l.map Itm.cells) = true := closedLL_map (fun x => by simp [Itm.cells]) l
@[simp] theorem closed_kids {l : List Int} : closedLL (l.map kidC) = true := closedLL_map (fun x => by simp [kidC]) l

def kidS (x : Int) : Bool := decide (2 ≤ x) && decide (x < 4096)
def itemS (x : Itm) : Bool := if x.p = 0 then decide (x.s = 0) && decide (x.v.length ≤ 60) else kidS x.p && decide (x.v = []) && decide (60 < x.s) && decide (x.s ≤ 60000)

theorem f32 (x : Int) (hp nx) : Ret E 32 [.v (.int .i64 x)] hp nx (.v (.bool (kidS x))) hp nx .p := by
  refine Ret_pureQ e32 rfl rfl ?_ hp nx
  by_cases h1 : 2 ≤ x <;> simp [c32, kidS, h1]
theorem f34 (x : Int) (hp nx) : Ret E 34 [.v (.int .i64 x)] hp nx (.v (.bool (kidS x))) hp nx .p := by
  refine Ret_pureQ e34 rfl rfl ?_ hp nx
  by_cases h1 : 2 ≤ x <;> simp [c34, kidS, h1]

theorem f29 (x : Itm) (hp nx) : Ret E 29 [.agg x.cells] hp nx (.v (.bool (itemS x))) hp nx .p := by
  refine Ret_pureQ e29 rfl (by simp [Itm.cells]) ?_ hp nx
  obtain ⟨v, p, s⟩ := x
  by_cases h1 : p = 0
  · by_cases h2 : s = 0
    · simp [c29, h1, Itm.cells, h2, itemS]; omega
    · simp [c29, h1, Itm.cells, h2, itemS]
  · simp [c29, h1, Itm.cells, itemS]
    refine WCall_p (f32 p _ _) ?_
    cases h2 : kidS p
    · simp
    · by_cases h4 : v = []
      · by_cases h5 : 60 < s
        · simp [h4, h5]
        · simp [h4, h5]
      · simp [h4]
theorem f33 (x : Itm) (hp nx) : Ret E 33 [.agg x.cells] hp nx (.v (.bool (itemS x))) hp nx .p := by
  refine Ret_pureQ e33 rfl (by simp [Itm.cells]) ?_ hp nx
  obtain ⟨v, p, s⟩ := x
  by_cases h1 : p = 0
  · by_cases h2 : s = 0
    · simp [c33, h1, Itm.cells, h2, itemS]; omega
    · simp [c33, h1, Itm.cells, h2, itemS]
  · simp [c33, h1, Itm.cells, itemS]
    refine WCall_p (f34 p _ _) ?_
    cases h2 : kidS p
    · simp
    · by_cases h4 : v = []
      · by_cases h5 : 60 < s
        · simp [h4, h5]
        · simp [h4, h5]
      · simp [h4]

theorem f28 (x : Itm) (hp nx) : Ret E 28 [.agg x.cells] hp nx (.v (.bool (!itemS x))) hp nx .p := by
  refine Ret_pureQ e28 rfl (by simp [Itm.cells]) ?_ hp nx
  have := f29 x
  obtain ⟨v, p, s⟩ := x
  simp [c28, Itm.cells]
  exact WCall_p (this _ _) (by simp)
theorem f31 (x : Int) (hp nx) : Ret E 31 [.v (.int .i64 x)] hp nx (.v (.bool (!kidS x))) hp nx .p := by
  refine Ret_pureQ e31 rfl rfl ?_ hp nx
  simp [c31]
  exact WCall_p (f32 x _ _) (by simp)

/-- Where the first stands that is so; -1: none is. -/
def firstS {α : Type} (p : α → Bool) : List α → Int → Int
  | [], _ => -1
  | x :: r, i => if p x then i else firstS p r (i + 1)

theorem firstS_any {α : Type} (p : α → Bool) : ∀ (l : List α) (i : Int), 0 ≤ i → decide (0 ≤ firstS p l i) = l.any p
  | [], i, _ => by simp [firstS]
  | x :: r, i, h => by
    simp only [firstS, List.any_cons]
    split
    · rename_i hx; simp [hx, h]
    · rename_i hx; simp [hx, firstS_any p r (i + 1) (by omega)]
end Go.Ai
