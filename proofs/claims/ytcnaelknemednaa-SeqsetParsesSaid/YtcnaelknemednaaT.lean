/- Which set a text is: the reader's way is the document's. -/
import Derived.Test.YtcnaelknemednaaS
namespace Go.Ai
set_option linter.unusedVariables false
set_option linter.unusedSimpArgs false

def BadS (o : Option (Sp × List UInt8)) : Prop := o = none ∨ ∃ x c r, o = some (x, c :: r) ∧ c ≠ 44
theorem span_bad {s : List UInt8} (h : BadR (numP s)) : BadS (spanP s) := by
  rcases h with h | ⟨v, c, r, h, h1, h2⟩
  · exact .inl (by simp [spanP, h])
  · exact .inr ⟨(v, v), c, r, by simp [spanP, h, h2], h1⟩
theorem span_bad2 {s r : List UInt8} {n : Int} (h : numP s = some (n, 58 :: r)) (h2 : BadR (numP r)) : BadS (spanP s) := by
  rcases h2 with h2 | ⟨v, c, r', h2, h3, h4⟩
  · exact .inl (by simp [spanP, h, h2])
  · exact .inr ⟨(n, v), c, r', by simp [spanP, h, h2], h3⟩
def SpanOk (t s : List UInt8) : Prop := match pieR t with
  | some x => spanP (t ++ s) = some (cvP x, s)
  | none => BadS (spanP (t ++ s))
theorem span_both {t s : List UInt8} (h44 : 44 ∉ t) (hm : s = [] ∨ ∃ r, s = 44 :: r) : SpanOk t s := by
  have hmark : Mark s := hm.elim .inl fun ⟨r, h⟩ => .inr ⟨44, r, h, .inl rfl⟩
  have hj := split_join 58 t []
  have hf := split_free 58 t [] (by simp)
  have hs : ∀ p ∈ splitA 58 t [], 44 ∉ p := fun p hp h => h44 (by simpa using split_sub 58 t [] p hp 44 h)
  unfold SpanOk
  generalize hp : splitA 58 t [] = p at *
  simp only [List.nil_append] at hj
  match p, hp with
  | [], hp => exact absurd hp (split_ne _ _ _)
  | [a], hp =>
    have e : t = a := hj.symm
    subst e
    simp only [pieR, hp]
    rcases num_both (hs t (by simp)) (hf t (by simp)) hmark with ⟨h1, h2⟩ | ⟨h1, h2⟩
    · rw [if_pos h1]; exact span_bad h2
    · rw [if_neg h1]
      rcases hm with rfl | ⟨r, rfl⟩
      · rw [List.append_nil] at h2 ⊢
        simp [spanP, h2, cvP]
      · simp [spanP, h2, cvP]
  | [a, b], hp =>
    have e : t = a ++ 58 :: b := hj.symm
    subst e
    simp only [pieR, hp]
    rw [List.append_assoc, List.cons_append]
    rcases num_both (s := 58 :: (b ++ s)) (hs a (by simp)) (hf a (by simp)) (.inr ⟨58, _, rfl, .inr rfl⟩) with ⟨h1, h2⟩ | ⟨h1, h2⟩
    · rw [if_pos (.inl h1)]; exact span_bad h2
    · rcases num_both (hs b (by simp)) (hf b (by simp)) hmark with ⟨h3, h4⟩ | ⟨h3, h4⟩
      · rw [if_pos (.inr h3)]; exact span_bad2 h2 h4
      · rw [if_neg (fun h => h.elim h1 h3)]
        simp [spanP, h2, h4, cvP]
  | a :: b :: d :: rest, hp =>
    have e : t = a ++ 58 :: (b ++ 58 :: joinC 58 (d :: rest)) := by rw [← hj, joinC_cons _ _ (by simp), joinC_cons _ _ (by simp)]
    subst e
    simp only [pieR, hp]
    rw [List.append_assoc, List.cons_append, List.append_assoc, List.cons_append]
    rcases num_both (s := 58 :: (b ++ 58 :: (joinC 58 (d :: rest) ++ s))) (hs a (by simp)) (hf a (by simp)) (.inr ⟨58, _, rfl, .inr rfl⟩) with ⟨h1, h2⟩ | ⟨h1, h2⟩
    · exact span_bad h2
    · rcases num_both (s := 58 :: (joinC 58 (d :: rest) ++ s)) (hs b (by simp)) (hf b (by simp)) (.inr ⟨58, _, rfl, .inr rfl⟩) with ⟨h3, h4⟩ | ⟨h3, h4⟩
      · exact span_bad2 h2 h4
      · exact .inr ⟨_, 58, _, by simp only [spanP, h2, h4]; rfl, by decide⟩

theorem run_both : ∀ (ts : List (List UInt8)) (out : List Sp) (k : Nat), ts ≠ [] → (∀ t ∈ ts, 44 ∉ t) → (joinC 44 ts).length < k → runP k (joinC 44 ts) (out.map cvP) = (runR ts out).map fun l => l.map cvP
  | [], _, _, h, _, _ => absurd rfl h
  | [t], out, k, _, hf, hk => by
    obtain ⟨k, rfl⟩ : ∃ k', k = k' + 1 := ⟨k - 1, by omega⟩
    have h := span_both (s := []) (hf t (by simp)) (.inl rfl)
    simp only [SpanOk, List.append_nil] at h
    simp only [joinC, runP, runR]
    split at h
    · rename_i x hx
      simp [h, hx]
    · rename_i hx
      rcases h with h | ⟨x, c, r, h, hc⟩
      · simp [h, hx]
      · simp [h, hx, hc]
  | t :: t2 :: ts, out, k, _, hf, hk => by
    obtain ⟨k, rfl⟩ : ∃ k', k = k' + 1 := ⟨k - 1, by omega⟩
    have h := span_both (s := 44 :: joinC 44 (t2 :: ts)) (hf t (by simp)) (.inr ⟨_, rfl⟩)
    have hj := joinC_cons 44 t (ts := t2 :: ts) (by simp)
    have ih := fun out => run_both (t2 :: ts) out k (by simp) (fun u hu => hf u (by simp [hu])) (by rw [hj] at hk; simp at hk; omega)
    rw [hj]
    simp only [SpanOk] at h
    rw [runP, runR]
    split at h
    · rename_i x hx
      have := ih (out ++ [x])
      simp only [List.map_append, List.map_cons, List.map_nil] at this
      simp only [h, hx]
      simpa using this
    · rename_i hx
      rcases h with h | ⟨x, c, r, h, hc⟩
      · simp [h, hx]
      · simp [h, hx, hc]

def okN (n : Int) : Prop := n = -2 ∨ (0 ≤ n ∧ n ≤ 4294967295)
theorem numR_ok {s : List UInt8} (h : numR s ≠ -1) : okN (numR s) := by
  rcases numR_le s with h1 | h1 | h1
  · exact .inl h1
  · exact absurd h1 h
  · exact .inr h1
theorem pieR_ok {t : List UInt8} {x : Sp} (h : pieR t = some x) : okN x.1 ∧ okN x.2 := by
  unfold pieR at h
  split at h
  · split at h
    · cases h
    · rename_i h1; cases h; exact ⟨numR_ok h1, numR_ok h1⟩
  · split at h
    · cases h
    · rename_i h1; cases h; exact ⟨numR_ok fun e => h1 (.inl e), numR_ok fun e => h1 (.inr e)⟩
  · cases h
theorem runR_ok : ∀ (ts : List (List UInt8)) (out l : List Sp), (∀ x ∈ out, okN x.1 ∧ okN x.2) → runR ts out = some l → ∀ x ∈ l, okN x.1 ∧ okN x.2
  | [], out, l, h, e => by cases e; exact h
  | t :: ts, out, l, h, e => by
    simp only [runR] at e
    split at e
    · cases e
    · rename_i x hx
      refine runR_ok ts (out ++ [x]) l (fun y hy => ?_) e
      rcases List.mem_append.1 hy with hy | hy
      · exact h y hy
      · rw [List.mem_singleton.1 hy]; exact pieR_ok hx
theorem gr_cv {x : Sp} (h : okN x.1 ∧ okN x.2) : grS (cvP x) = grR x := by
  obtain ⟨a, b⟩ := x
  obtain ⟨h1, h2⟩ := h
  unfold okN at h1 h2
  simp only at h1 h2
  by_cases q1 : a = -2
  · simp [grS, grR, cvP, cv, q1]
  · by_cases q2 : b = -2
    · simp [grS, grR, cvP, cv, q1, q2]
    · simp [grS, grR, cvP, cv, q1, q2]; omega
theorem par_ref (s : List UInt8) : parP s = refP s := by
  have hj := split_join 44 s []
  simp only [List.nil_append] at hj
  have h := run_both (splitA 44 s []) [] (s.length + 1) (split_ne _ _ _) (split_free 44 s [] (by simp)) (by rw [hj]; omega)
  rw [hj] at h
  simp only [parP, refP]
  rw [show ([] : List Sp) = ([] : List Sp).map cvP from rfl, h]
  have hok := runR_ok (splitA 44 s []) []
  cases hr : runR (splitA 44 s []) [] with
  | none => simp [hr, parF, refF]
  | some l =>
    have hl := hok l (by simp) hr
    simp only [List.map_nil, hr, Option.map_some, parF, refF]
    have e : (l.map cvP).any grS = l.any grR := by
      rw [List.any_map, Bool.eq_iff_iff, List.any_eq_true, List.any_eq_true]
      constructor
      · rintro ⟨x, hx, h2⟩; exact ⟨x, hx, by rw [← gr_cv (hl x hx)]; exact h2⟩
      · rintro ⟨x, hx, h2⟩; exact ⟨x, hx, by show grS (cvP x) = true; rw [gr_cv (hl x hx)]; exact h2⟩
    rw [e]
    cases hg : l.any grR with
    | true => rfl
    | false =>
      have e2 : l.map cvP = l := by
        have : ∀ x ∈ l, cvP x = x := by
          intro x hx
          have h3 : grR x = false := by
            rw [Bool.eq_false_iff]; intro h4
            rw [Bool.eq_false_iff] at hg
            exact hg (List.any_eq_true.2 ⟨x, hx, h4⟩)
          simp only [grR, Bool.or_eq_false_iff, decide_eq_false_iff_not] at h3
          exact Prod.ext (by simp only [cvP, cv]; rw [if_neg h3.1]) (by simp only [cvP, cv]; rw [if_neg h3.2])
        exact (List.map_congr_left this).trans (List.map_id' l)
      rw [e2]
end Go.Ai
