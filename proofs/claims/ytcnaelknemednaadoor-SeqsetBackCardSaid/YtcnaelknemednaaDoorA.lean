/- Sets of numbers: plain laws. -/
import Derived.Test.YtcnaelknemednaaDoorAiStr
namespace Go.Ai
set_option linter.unusedVariables false
set_option linter.unusedSimpArgs false

abbrev Sp := Int × Int
def mxN : Int := 4294967295

/-- A span's ends, the smaller one first. -/
def endsS (x : Sp) (most : Int) : Int × Int × Bool :=
  if x.1 = 0 ∨ x.2 = 0 then
    if most < 1 then (0, 0, false)
    else (min (if x.1 = 0 then most else x.1) (if x.2 = 0 then most else x.2), max (if x.1 = 0 then most else x.1) (if x.2 = 0 then most else x.2), true)
  else (min x.1 x.2, max x.1 x.2, true)
def covS (most n : Int) (x : Sp) : Bool := (endsS x most).2.2 && decide ((endsS x most).1 ≤ n) && decide (n ≤ (endsS x most).2.1)
def hasS (l : List Sp) (n most : Int) : Bool := decide (1 ≤ n) && l.any (covS most n)

/-- A span within bounds. -/
def clipS (most : Int) (x : Sp) : Option Sp :=
  if (endsS x most).2.2 = true ∧ max (endsS x most).1 1 ≤ min (endsS x most).2.1 mxN then some (max (endsS x most).1 1, min (endsS x most).2.1 mxN) else none
def inS (l : List Sp) (n : Int) : Prop := ∃ x ∈ l, x.1 ≤ n ∧ n ≤ x.2

/-- They rise, with a gap between each two. -/
def Gaps : List Sp → Prop
  | [] => True
  | [x] => x.1 ≤ x.2
  | x :: y :: r => x.1 ≤ x.2 ∧ x.2 + 1 < y.1 ∧ Gaps (y :: r)
theorem Gaps.head {x : Sp} {r : List Sp} (h : Gaps (x :: r)) : x.1 ≤ x.2 := by
  cases r with
  | nil => exact h
  | cons y r => exact h.1
theorem Gaps.tail {x : Sp} {r : List Sp} (h : Gaps (x :: r)) : Gaps r := by
  cases r with
  | nil => trivial
  | cons y r => exact h.2.2
theorem Gaps.above {x : Sp} : ∀ {r : List Sp}, Gaps (x :: r) → ∀ y ∈ r, x.2 + 1 < y.1
  | [], _, y, h => by simp at h
  | z :: r, h, y, hy => by
    rcases List.mem_cons.1 hy with rfl | hy
    · exact h.2.1
    · have h1 := h.2.2.above y hy
      have h2 := h.2.2.head
      have h3 := h.2.1
      omega
theorem inS_cons {x : Sp} {r : List Sp} {n : Int} : inS (x :: r) n ↔ (x.1 ≤ n ∧ n ≤ x.2) ∨ inS r n := by simp [inS]
theorem inS_nil {n : Int} : ¬ inS [] n := by simp [inS]

/-- Of a set of numbers there is one such list. -/
theorem gaps_unique : ∀ {a b : List Sp}, Gaps a → Gaps b → (∀ n, inS a n ↔ inS b n) → a = b
  | [], [], _, _, _ => rfl
  | [], y :: b, _, hb, h => by
    exfalso
    have := (h y.1).2 (inS_cons.2 (.inl ⟨Int.le_refl _, hb.head⟩))
    exact inS_nil this
  | x :: a, [], ha, _, h => by
    exfalso
    have := (h x.1).1 (inS_cons.2 (.inl ⟨Int.le_refl _, ha.head⟩))
    exact inS_nil this
  | x :: a, y :: b, ha, hb, h => by
    have hx := ha.head
    have hy := hb.head
    have ga := ha.above
    have gb := hb.above
    -- a number of a list lies at its head, or above the head's end
    have low : ∀ {z : Sp} {r : List Sp}, (∀ w ∈ r, z.2 + 1 < w.1) → ∀ n, inS (z :: r) n → (z.1 ≤ n ∧ n ≤ z.2) ∨ z.2 + 1 < n := by
      intro z r hg n hn
      rcases inS_cons.1 hn with h1 | ⟨w, h1, h2, h3⟩
      · exact .inl h1
      · exact .inr (by have := hg w h1; omega)
    have e1 : x.1 = y.1 := by
      have h1 := low gb x.1 ((h x.1).1 (inS_cons.2 (.inl ⟨Int.le_refl _, hx⟩)))
      have h2 := low ga y.1 ((h y.1).2 (inS_cons.2 (.inl ⟨Int.le_refl _, hy⟩)))
      omega
    have e2 : x.2 = y.2 := by
      by_cases h1 : x.2 < y.2
      · have h2 := low ga (x.2 + 1) ((h (x.2 + 1)).2 (inS_cons.2 (.inl ⟨by omega, by omega⟩)))
        omega
      · by_cases h2 : y.2 < x.2
        · have h3 := low gb (y.2 + 1) ((h (y.2 + 1)).1 (inS_cons.2 (.inl ⟨by omega, by omega⟩)))
          omega
        · omega
    have e : x = y := Prod.ext e1 e2
    subst e
    congr 1
    refine gaps_unique ha.tail hb.tail fun n => ⟨fun hn => ?_, fun hn => ?_⟩
    · obtain ⟨w, h1, h2, h3⟩ := hn
      have h4 := ga w h1
      rcases inS_cons.1 ((h n).1 (inS_cons.2 (.inr ⟨w, h1, h2, h3⟩))) with h5 | h5
      · omega
      · exact h5
    · obtain ⟨w, h1, h2, h3⟩ := hn
      have h4 := gb w h1
      rcases inS_cons.1 ((h n).2 (inS_cons.2 (.inr ⟨w, h1, h2, h3⟩))) with h5 | h5
      · omega
      · exact h5

/-! ### Those that meet are made one -/
def joinA (cur : Sp) : List Sp → List Sp
  | [] => [cur]
  | x :: r => if x.1 - 1 ≤ cur.2 then joinA (cur.1, max cur.2 x.2) r else cur :: joinA x r
def joinL : List Sp → List Sp
  | [] => []
  | x :: r => joinA x r
theorem joinA_head (cur : Sp) : ∀ r : List Sp, ∃ b t, joinA cur r = (cur.1, b) :: t ∧ cur.2 ≤ b
  | [] => ⟨cur.2, [], rfl, Int.le_refl _⟩
  | x :: r => by
    simp only [joinA]
    split
    · obtain ⟨b, t, h1, h2⟩ := joinA_head (cur.1, max cur.2 x.2) r
      exact ⟨b, t, h1, by simp only at h2; omega⟩
    · exact ⟨cur.2, joinA x r, rfl, Int.le_refl _⟩
theorem joinA_ok : ∀ (r : List Sp) (cur : Sp), cur.1 ≤ cur.2 → (∀ x ∈ r, x.1 ≤ x.2) → (∀ x ∈ r, cur.1 ≤ x.1) → r.Pairwise (fun a b => a.1 ≤ b.1) → Gaps (joinA cur r) ∧ ∀ n, inS (joinA cur r) n ↔ inS (cur :: r) n
  | [], cur, h1, _, _, _ => ⟨h1, fun _ => Iff.rfl⟩
  | x :: r, cur, h1, h2, h3, h4 => by
    have hx := h2 x (by simp)
    have hcx := h3 x (by simp)
    have h4' := (List.pairwise_cons.1 h4)
    simp only [joinA]
    split
    · rename_i hle
      obtain ⟨g1, g2⟩ := joinA_ok r (cur.1, max cur.2 x.2) (by simp only; omega) (fun y hy => h2 y (by simp [hy])) (fun y hy => h3 y (by simp [hy])) h4'.2
      refine ⟨g1, fun n => ?_⟩
      rw [g2 n, inS_cons, inS_cons, inS_cons]
      simp only
      constructor
      · rintro (h | h)
        · by_cases h5 : n ≤ cur.2
          · exact .inl (by omega)
          · exact .inr (.inl (by omega))
        · exact .inr (.inr h)
      · rintro (h | h | h)
        · exact .inl (by omega)
        · exact .inl (by omega)
        · exact .inr h
    · rename_i hgt
      obtain ⟨g1, g2⟩ := joinA_ok r x hx (fun y hy => h2 y (by simp [hy])) (fun y hy => h4'.1 y hy) h4'.2
      obtain ⟨b, t, e1, e2⟩ := joinA_head x r
      refine ⟨?_, fun n => ?_⟩
      · rw [e1] at g1 ⊢
        exact ⟨h1, by simp only; omega, g1⟩
      · rw [inS_cons, g2 n]; exact inS_cons.symm
theorem joinL_ok {l : List Sp} (h1 : ∀ x ∈ l, x.1 ≤ x.2) (h2 : l.Pairwise (fun a b => a.1 ≤ b.1)) : Gaps (joinL l) ∧ ∀ n, inS (joinL l) n ↔ inS l n := by
  cases l with
  | nil => exact ⟨trivial, fun _ => Iff.rfl⟩
  | cons x r =>
    have := List.pairwise_cons.1 h2
    exact joinA_ok r x (h1 x (by simp)) (fun y hy => h1 y (by simp [hy])) this.1 this.2

theorem clip_ok {most : Int} {x y : Sp} (h : clipS most x = some y) : 1 ≤ y.1 ∧ y.1 ≤ y.2 ∧ y.2 ≤ mxN := by
  simp only [clipS] at h
  split at h
  · rename_i hc
    simp only [Option.some.injEq] at h; subst h
    simp only
    omega
  · cases h
theorem clip_has (l : List Sp) (most n : Int) : inS (l.filterMap (clipS most)) n ↔ hasS l n most = true ∧ n ≤ mxN := by
  simp only [inS, List.mem_filterMap, hasS, Bool.and_eq_true, decide_eq_true_eq, List.any_eq_true, covS]
  constructor
  · rintro ⟨y, ⟨x, hx, hy⟩, h1, h2⟩
    simp only [clipS] at hy
    split at hy
    · rename_i hc
      simp only [Option.some.injEq] at hy; subst hy
      simp only at h1 h2
      exact ⟨⟨by omega, x, hx, ⟨hc.1, by omega⟩, by omega⟩, by omega⟩
    · cases hy
  · rintro ⟨⟨h1, x, hx, ⟨h2, h3⟩, h4⟩, h5⟩
    refine ⟨(max (endsS x most).1 1, min (endsS x most).2.1 mxN), ⟨x, hx, ?_⟩, by simp only; omega, by simp only; omega⟩
    simp only [clipS]
    rw [if_pos ⟨h2, by omega⟩]
end Go.Ai
