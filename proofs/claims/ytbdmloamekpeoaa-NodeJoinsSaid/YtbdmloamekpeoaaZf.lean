/- Plain laws of parts and joins. -/
import Derived.Test.YtbdmloamekpeoaaZe
namespace Go.Ai
set_option linter.unusedVariables false
set_option linter.unusedSimpArgs false

theorem getD_cut {α : Type} (l : List α) (d : α) {a b i : Nat} (h : a + i < b) : ((l.take b).drop a).getD i d = l.getD (a + i) d := by
  simp only [List.getD, List.getElem?_drop, List.getElem?_take, if_pos h]
theorem badS_cut {ks : List (List UInt8)} {a b i : Nat} (h : a + i < b) (hb : badS ks (a + i) = false) : badS ((ks.take b).drop a) i = false := by
  simp only [badS, Bool.or_eq_false_iff] at hb ⊢
  rw [getD_cut ks [] h]
  refine ⟨hb.1, ?_⟩
  by_cases h0 : 0 < i
  · rw [getD_cut ks [] (show a + (i - 1) < b by omega)]
    have h1 : 0 < a + i := by omega
    have h2 := hb.2
    have e : a + i - 1 = a + (i - 1) := by omega
    simp only [h1, decide_true, Bool.true_and, e] at h2
    simp only [h2, Bool.and_false]
  · simp [h0]
theorem right_part {n : Nd} (hr : rightS n = true) {a b : Nat} (h1 : a ≤ b) (h2 : b ≤ n.keys.length) (h3 : n.leaf = false → a < b) : rightS (partS n a b) = true := by
  have hf := RightF.of hr
  simp only [rightS, Bool.and_eq_true] at hr ⊢
  constructor
  · refine keysS_true fun i hi => ?_
    simp only [partS, List.length_drop, List.length_take] at hi
    have := hr.1
    simp only [keysS, List.all_eq_true, List.mem_range] at this
    have := this (a + i) (by omega)
    exact badS_cut (by omega) (by simpa using this)
  · cases hl : n.leaf
    · obtain ⟨g1, g2, g3, g4⟩ := hf.inner hl
      have := h3 hl
      have e1 : ((n.keys.take b).drop a).length = b - a := by simp; omega
      have e2 : ((n.kids.take (b + 1)).drop a).length = b - a + 1 := by simp; omega
      simp only [bodyS, partS, hl, Bool.false_eq_true, if_false, e1, e2, Bool.and_eq_true, decide_eq_true_eq, List.all_eq_true, List.length_nil]
      exact ⟨⟨⟨by omega, trivial⟩, trivial⟩, fun x hx => g4 x (List.mem_of_mem_take (List.mem_of_mem_drop hx))⟩
    · obtain ⟨g1, g2, g3⟩ := hf.leaf hl
      have e1 : ((n.keys.take b).drop a).length = b - a := by simp; omega
      have e2 : ((n.items.take b).drop a).length = b - a := by simp; omega
      simp only [bodyS, partS, hl, if_true, e1, e2, Bool.and_eq_true, decide_eq_true_eq, List.all_eq_true, List.length_nil]
      exact ⟨⟨trivial, trivial⟩, fun x hx => g3 x (List.mem_of_mem_take (List.mem_of_mem_drop hx))⟩

theorem weight_part (n : Nd) {a b i : Nat} (h : a + i < b) : weightS (partS n a b) i = weightS n (a + i) := by
  obtain ⟨leaf, keys, items, kids⟩ := n
  simp only [weightS, partS]
  rw [getD_cut keys [] h]
  cases leaf
  · rfl
  · simp only [if_true]
    rw [getD_cut items _ h]
theorem sum_part (n : Nd) {a b : Nat} : ∀ k, a + k ≤ b → sumW n a + sumW (partS n a b) k = sumW n (a + k)
  | 0, _ => by simp [sumW]
  | k + 1, h => by
    have ih := sum_part n (a := a) (b := b) k (by omega)
    have e : a + (k + 1) = (a + k) + 1 := by omega
    rw [e]
    simp only [sumW]
    rw [weight_part n (by omega)]
    omega
theorem size_part {n : Nd} (hr : rightS n = true) {a b : Nat} (h1 : a ≤ b) (h2 : b ≤ n.keys.length) (h3 : n.leaf = false → a < b) : sizeS (partS n a b) + sumW n a = (headB n).length + sumW n b := by
  have hp := right_part hr h1 h2 h3
  have e := sum_part n (a := a) (b := b) (b - a) (by omega)
  have hl : (partS n a b).keys.length = b - a := by simp [partS]; omega
  have hh : (headB (partS n a b)).length = (headB n).length := by rw [headB_length, headB_length]; rfl
  simp only [sizeS, hp, if_true, contentS_length, hl, hh]
  rw [show a + (b - a) = b by omega] at e
  omega
theorem weight_le2 {n : Nd} (hr : RightF n) {i : Nat} (hi : i < n.keys.length) (hl : n.leaf = false) : weightS n i ≤ 65 := by
  have h1 := hr.klen i hi
  have hk : n.keys.getD i [] = n.keys[i] := by simp [hi]
  simp only [weightS, hk, hl]
  simp; omega

/-- One of two. -/
def joinN (a : Nd) (key : List UInt8) (b : Nd) : Nd := ⟨a.leaf, a.keys ++ (if a.leaf then [] else [key]) ++ b.keys, a.items ++ b.items, a.kids ++ b.kids⟩

theorem join_parts {n : Nd} (hr : rightS n = true) {i : Nat} (hi : i < n.keys.length) (h2 : i + upS n ≤ n.keys.length) : joinN (partS n 0 i) n.keys[i] (partS n (i + upS n - 1) n.keys.length) = n := by
  have hf := RightF.of hr
  obtain ⟨leaf, keys, items, kids⟩ := n
  simp only at hi h2 hf ⊢
  cases leaf
  · obtain ⟨g1, g2, g3, g4⟩ := hf.inner rfl
    simp only at g2 g3
    subst g3
    have e : i + upS ⟨false, keys, [], kids⟩ - 1 = i + 1 := by simp [upS]
    simp only [joinN, partS, e, Bool.false_eq_true, if_false, List.drop_zero, List.take_length]
    congr 1
    · have : keys.take i ++ [keys[i]] = keys.take (i + 1) := by rw [List.take_add_one, List.getElem?_eq_getElem hi]; rfl
      rw [this, List.take_append_drop]
    · rw [← g2, List.take_length, List.take_append_drop]
  · obtain ⟨g1, g2, g3⟩ := hf.leaf rfl
    simp only at g1 g2
    subst g2
    have e : i + upS ⟨true, keys, items, []⟩ - 1 = i := by simp [upS]
    simp only [joinN, partS, e, if_true, List.drop_zero, List.take_length, List.append_nil]
    congr 1
    · rw [List.take_append_drop]
    · rw [← g1, List.take_length, List.take_append_drop]

/-- Of a node that was too long each part takes a quarter of a page at least. -/
theorem quarters {n : Nd} (hr : rightS n = true) {i : Nat} (hc : CutAt n i) (hbig : 492 < sizeS n) : 123 ≤ sizeS (partS n 0 i) ∧ 123 ≤ sizeS (partS n (i + upS n - 1) n.keys.length) := by
  have hf := RightF.of hr
  have hall : sizeS n = (headB n).length + sumW n n.keys.length := by simp only [sizeS, hr, if_true, contentS_length]
  have hpos := hc.pos
  have hle := hc.le
  have hup1 : 1 ≤ upS n := by simp only [upS]; split <;> omega
  have s1 := size_part hr (a := 0) (b := i) (by omega) (by omega) (fun _ => by omega)
  have s2 := size_part hr (a := i + upS n - 1) (b := n.keys.length) (by omega) (by omega) (fun h => by simp only [upS, h] at hle ⊢; simp at hle ⊢; omega)
  have z0 : sumW n 0 = 0 := rfl
  -- the step ahead of the place
  have hprev : i = 1 ∨ (2 * ((headB n).length + sumW n (i - 1)) < sizeS n ∧ sumW n i = sumW n (i - 1) + weightS n (i - 1)) := by
    by_cases h1 : i = 1
    · exact .inl h1
    · refine .inr ⟨hc.low (i - 1) (by omega) (by omega), ?_⟩
      obtain ⟨j, rfl⟩ : ∃ j, i = j + 1 := ⟨i - 1, by omega⟩
      rfl
  have hw := fun j hj => weightS_le hf (i := j) hj
  have s11 : sumW n 1 = weightS n 0 := by simp [sumW]
  cases hl : n.leaf
  · have hu : upS n = 2 := by simp [upS, hl]
    have hh : (headB n).length = 6 := by rw [headB_length, hl]; rfl
    have hw2 := fun j hj => weight_le2 hf (i := j) hj hl
    rw [hu] at s2 hle
    have e2 : i + 2 - 1 = i + 1 := by omega
    rw [hu, e2]
    rw [e2] at s2
    have si : sumW n (i + 1) = sumW n i + weightS n i := rfl
    have wi := hw2 i (by omega)
    have w0 := hw2 0 (by omega)
    have wp := hw2 (i - 1) (by omega)
    rcases hc.top with ht | ht
    · rw [hu] at ht
      have hk : n.keys.length = i + 1 + 1 := by omega
      have sl : sumW n n.keys.length = sumW n (i + 1) + weightS n (i + 1) := by rw [hk]; rfl
      have wl := hw2 (i + 1) (by omega)
      rcases hprev with h1 | ⟨h1, h3⟩
      · subst h1; omega
      · omega
    · rcases hprev with h1 | ⟨h1, h3⟩
      · subst h1; omega
      · omega
  · have hu : upS n = 1 := by simp [upS, hl]
    have hh : (headB n).length = 2 := by rw [headB_length, hl]; rfl
    rw [hu] at s2 hle
    have e2 : i + 1 - 1 = i := by omega
    rw [hu, e2]
    rw [e2] at s2
    have w0 := hw 0 (by omega)
    have wp := hw (i - 1) (by omega)
    rcases hc.top with ht | ht
    · rw [hu] at ht
      have hk : n.keys.length = i + 1 := by omega
      have sl : sumW n n.keys.length = sumW n i + weightS n i := by rw [hk]; rfl
      have wl := hw i (by omega)
      rcases hprev with h1 | ⟨h1, h3⟩
      · subst h1; omega
      · omega
    · rcases hprev with h1 | ⟨h1, h3⟩
      · subst h1; omega
      · omega
end Go.Ai
