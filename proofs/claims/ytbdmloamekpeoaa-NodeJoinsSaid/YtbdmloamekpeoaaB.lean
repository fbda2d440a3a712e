/- Looking through slices. -/
import Derived.Test.YtbdmloamekpeoaaA
namespace Go.Ai
set_option linter.unusedVariables false
set_option linter.unusedSimpArgs false

theorem firstS_skip {α : Type} (p : α → Bool) : ∀ (l : List α) (j : Nat) (i : Int), j ≤ l.length → (∀ x ∈ l.take j, p x = false) → firstS p l i = firstS p (l.drop j) (i + j)
  | _, 0, i, _, _ => by simp
  | [], j + 1, i, h, _ => by simp at h
  | x :: r, j + 1, i, h, h2 => by
    have hx := h2 x (by simp)
    simp only [firstS, hx]
    rw [if_neg (by simp), firstS_skip p r j (i + 1) (by simpa using h) (fun y hy => h2 y (by simp [hy]))]
    simp; congr 1; omega

theorem take_succ_all {α : Type} {p : α → Bool} {l : List α} {j : Nat} {x : α} (hj : l[j]? = some x) (h : ∀ y ∈ l.take j, p y = false) (hx : p x = false) : ∀ y ∈ l.take (j + 1), p y = false := by
  intro y hy
  rw [List.take_add_one, hj] at hy
  simp at hy
  rcases hy with hy | rfl
  · exact h y hy
  · exact hx

/-- An address within a slice that nobody writes. -/
theorem iaddr_in {n : Nat} {nil sz k es cap} {i : Int} {j : Nat} {c : List AV} (hz : (nil = true ∨ sz = n) ∧ (nil = true → es = [])) (hj : es[j]? = some c) (hi : i = (j : Int)) : iaddrA n (.rs nil sz es cap) (.v (.int k i)) = some (.rp c) := by
  have hne : es ≠ [] := by intro e; subst e; simp at hj
  have := hz.1.resolve_left fun h => hne (hz.2 h)
  subst this; subst hi
  simp [hj]

theorem f56 (p : Itm → Bool) (g : Nat) (hg : ∀ x hp nx, Ret E g [.agg x.cells] hp nx (.v (.bool (p x))) hp nx .p) (es : List Itm) (x : AV) (hx : SlA 3 (es.map Itm.cells) x) (hlen : es.length ≤ 1000000) (hp nx) :
    Ret E 56 [x, .fn (.func g) [] []] hp nx (.v (.int .i64 (firstS p es 0))) hp nx .p := by
  obtain ⟨nil, sz, cap, rfl, hz⟩ := hx
  refine Ret_pureQ e56 rfl (by simp) ?_ hp nx
  simp [c56]
  refine W_loopI (I := fun (j : Nat) s => j ≤ es.length ∧ s.tm 8 = .int .i64 j ∧ s.tm 7 = .int .i64 es.length ∧ s.tm 0 = .rs nil sz (es.map Itm.cells) cap ∧ s.tm 1 = .fn (.func g) [] [] ∧ s.hp = hnil ∧ s.nx = 0 ∧ ∀ y ∈ es.take j, p y = false)
    (fun j => es.length - j) 0 (by simp) ?_
  rintro j tm hp nx ⟨hj, h8, h7, h0, h1, rfl, rfl, hno⟩
  simp only at h8 h7 h0 h1
  by_cases hlt : j < es.length
  · have hget : es[j]? = some es[j] := List.getElem?_eq_getElem hlt
    have hia : iaddrA 3 (.rs nil sz (es.map Itm.cells) cap) (.v (.int .i64 j)) = some (.rp es[j].cells) := iaddr_in hz (by simp [hget]) rfl
    have hw : IntKind.wrap .i64 ((j : Int) + 1) = (j + 1 : Nat) := by rw [wrap_id] <;> omega
    simp [h8, h7, h0, h1, hlt, -iaddrA_rs, hia]
    refine ⟨by simp [Itm.cells], ?_⟩
    simp [Itm.cells]
    refine WCall_p (hg _ _ _) ?_
    cases hp : p es[j]
    · simp [h8, h7, h0, h1, hw]
      exact ⟨j + 1, by omega, by omega, by simp, take_succ_all hget hno hp⟩
    · simp
      rw [firstS_skip p es j 0 (by omega) hno, List.drop_eq_getElem_cons hlt]
      simp [firstS, hp]
  · have : j = es.length := by omega
    subst this
    simp [h8, h7]
    rw [firstS_skip p es _ 0 hj hno]; simp [firstS]
end Go.Ai
