/- Where a key is, or belongs: lists. -/
import Derived.Test.YtbdmloamekpeoaaM
namespace Go.Ai
set_option linter.unusedVariables false
set_option linter.unusedSimpArgs false

theorem strLt_trans : ∀ {a b c : List UInt8}, strLt a b = true → strLt b c = true → strLt a c = true
  | _, [], _, h, _ => by simp [strLt] at h
  | _, _ :: _, [], _, h => by simp [strLt] at h
  | [], _ :: _, _ :: _, _, _ => by simp [strLt]
  | x :: a, y :: b, z :: c, h1, h2 => by
    simp only [strLt, Bool.or_eq_true, decide_eq_true_eq, Bool.and_eq_true, beq_iff_eq] at h1 h2 ⊢
    rcases h1 with h1 | ⟨rfl, h1⟩
    · rcases h2 with h2 | ⟨rfl, h2⟩
      · exact .inl (UInt8.lt_trans h1 h2)
      · exact .inl h1
    · rcases h2 with h2 | ⟨rfl, h2⟩
      · exact .inl h2
      · exact .inr ⟨rfl, strLt_trans h1 h2⟩
theorem strLt_asymm {a b : List UInt8} (h : strLt a b = true) : strLt b a = false := by
  cases hb : strLt b a with
  | false => rfl
  | true => have := strLt_trans h hb; rw [strLt_irrefl] at this; cases this
theorem strLt_ne {a b : List UInt8} (h : strLt a b = true) : a ≠ b := by
  rintro rfl; rw [strLt_irrefl] at h; cases h
/-- Neither the one nor the other: the same. -/
theorem strLt_anti {a b : List UInt8} (h1 : strLt a b = false) (h2 : strLt b a = false) : a = b := by
  have := strLt_conn a b
  rw [h1, h2] at this
  simpa using this

/-- Keys that rise. -/
def Rise (ks : List (List UInt8)) : Prop := ∀ i j (hj : j < ks.length) (hij : i < j), strLt (ks[i]'(by omega)) ks[j] = true
theorem Rise.of {ks : List (List UInt8)} (h : keysS ks = true) : Rise ks := by
  have step : ∀ i (hi : i + 1 < ks.length), strLt (ks[i]'(by omega)) ks[i + 1] = true := by
    intro i hi
    simp only [keysS, List.all_eq_true, List.mem_range] at h
    have := h (i + 1) hi
    have e1 : ks.getD (i + 1) [] = ks[i + 1] := by simp [hi]
    have e2 : ks.getD (i + 1 - 1) [] = ks[i]'(by omega) := by simp [show i < ks.length by omega]
    simp only [badS, e1, e2] at this
    simpa using (by simpa using this : _ ∧ _).2
  intro i j hj hij
  induction j with
  | zero => omega
  | succ j ih =>
    rcases Nat.lt_or_ge i j with h | h
    · exact strLt_trans (ih (by omega) h) (step j hj)
    · have : i = j := by omega
      subst this; exact step i hj
theorem rise_iff {ks : List (List UInt8)} : keysS ks = true ↔ Rise ks ∧ ∀ i (h : i < ks.length), ks[i].length ≤ 60 := by
  constructor
  · intro h
    refine ⟨Rise.of h, fun i hi => ?_⟩
    simp only [keysS, List.all_eq_true, List.mem_range] at h
    have := h i hi
    simp [badS, hi] at this
    omega
  · rintro ⟨h1, h2⟩
    refine keysS_true fun i hi => ?_
    have e1 : ks.getD i [] = ks[i] := by simp [hi]
    have := h2 i hi
    by_cases h0 : 0 < i
    · have e2 : ks.getD (i - 1) [] = ks[i - 1]'(by omega) := by simp [show i - 1 < ks.length by omega]
      have := h1 (i - 1) i hi (by omega)
      simp only [badS, e1, e2, this]
      simp; omega
    · simp only [badS, e1]
      simp [h0]; omega

/-- How many lie below a key. -/
def below (ks : List (List UInt8)) (k : List UInt8) : Nat := (ks.filter fun x => strLt x k).length

theorem below_eq {ks : List (List UInt8)} {k : List UInt8} {i : Nat} (hi : i ≤ ks.length) (h1 : ∀ j (hj : j < ks.length), j < i → strLt ks[j] k = true) (h2 : ∀ j (hj : j < ks.length), i ≤ j → strLt ks[j] k = false) : below ks k = i := by
  unfold below
  have : ks = ks.take i ++ ks.drop i := (List.take_append_drop i ks).symm
  rw [this, List.filter_append, List.length_append]
  have e1 : (ks.take i).filter (fun x => strLt x k) = ks.take i := by
    rw [List.filter_eq_self]
    intro x hx
    obtain ⟨j, hj, rfl⟩ := List.getElem_of_mem hx
    rw [List.getElem_take]
    exact h1 j (by simp at hj; omega) (by simp at hj; omega)
  have e2 : (ks.drop i).filter (fun x => strLt x k) = [] := by
    rw [List.filter_eq_nil_iff]
    intro x hx
    obtain ⟨j, hj, rfl⟩ := List.getElem_of_mem hx
    rw [List.getElem_drop]
    simp [h2 (i + j) (by simp at hj; omega) (by omega)]
  rw [e1, e2]
  simp; omega
theorem below_spec {ks : List (List UInt8)} (hr : Rise ks) (k : List UInt8) : below ks k ≤ ks.length ∧ (∀ j (hj : j < ks.length), j < below ks k → strLt ks[j] k = true) ∧ (∀ j (hj : j < ks.length), below ks k ≤ j → strLt ks[j] k = false) := by
  -- the first that isn't below
  obtain ⟨i, hi, h1, h2⟩ : ∃ i, i ≤ ks.length ∧ (∀ j (hj : j < ks.length), j < i → strLt ks[j] k = true) ∧ (∀ j (hj : j < ks.length), i ≤ j → strLt ks[j] k = false) := by
    have : ∀ d i, ks.length - i = d → i ≤ ks.length → (∀ j (hj : j < ks.length), j < i → strLt ks[j] k = true) → ∃ i, i ≤ ks.length ∧ (∀ j (hj : j < ks.length), j < i → strLt ks[j] k = true) ∧ (∀ j (hj : j < ks.length), i ≤ j → strLt ks[j] k = false) := by
      intro d
      induction d with
      | zero => intro i h1 h2 h3; exact ⟨i, h2, h3, fun j hj hij => by omega⟩
      | succ d ih =>
        intro i h1 h2 h3
        have hlt : i < ks.length := by omega
        cases h : strLt ks[i] k with
        | true =>
          refine ih (i + 1) (by omega) (by omega) fun j hj hji => ?_
          rcases Nat.lt_or_ge j i with g | g
          · exact h3 j hj g
          · have : j = i := by omega
            subst this; exact h
        | false =>
          refine ⟨i, h2, h3, fun j hj hij => ?_⟩
          rcases Nat.lt_or_ge i j with g | g
          · cases h4 : strLt ks[j] k with
            | false => rfl
            | true => have := strLt_trans (hr i j hj g) h4; rw [h] at this; cases this
          · have : j = i := by omega
            subst this; exact h
    exact this _ 0 rfl (by omega) (fun j _ h => by omega)
  have e := below_eq hi h1 h2
  rw [e]; exact ⟨hi, h1, h2⟩

theorem mem_below {ks : List (List UInt8)} (hr : Rise ks) (k : List UInt8) : k ∈ ks ↔ ks[below ks k]? = some k := by
  obtain ⟨h1, h2, h3⟩ := below_spec hr k
  constructor
  · intro hm
    obtain ⟨j, hj, rfl⟩ := List.getElem_of_mem hm
    have hle : below ks ks[j] ≤ j := by
      rcases Nat.lt_or_ge j (below ks ks[j]) with h | h
      · have := h2 j hj h; rw [strLt_irrefl] at this; cases this
      · exact h
    rcases Nat.lt_or_ge (below ks ks[j]) j with h | h
    · have := h3 (below ks ks[j]) (by omega) (Nat.le_refl _)
      rw [hr _ _ hj h] at this; cases this
    · have : below ks ks[j] = j := by omega
      rw [this]; exact List.getElem?_eq_getElem hj
  · intro h; exact List.mem_of_getElem? h
theorem below_at {ks : List (List UInt8)} (hr : Rise ks) {j : Nat} (hj : j < ks.length) : below ks ks[j] = j := by
  refine below_eq (by omega) (fun i hi h => hr i j hj h) (fun i hi h => ?_)
  rcases Nat.lt_or_ge j i with g | g
  · exact strLt_asymm (hr j i hi g)
  · have : i = j := by omega
    subst this; exact strLt_irrefl _

def findS (n : Nd) (k : List UInt8) : Int × Bool :=
  if rightS n then (((below n.keys k + if k ∈ n.keys ∧ n.leaf = false then 1 else 0 : Nat) : Int), decide (k ∈ n.keys)) else (0, false)
end Go.Ai
