/- The document's one way of a set: plain laws. -/
import Derived.Test.YtcnaelknemednaaDoorG
namespace Go.Ai
set_option linter.unusedVariables false
set_option linter.unusedSimpArgs false

def endI (most : Int) (x : Sp) : Int := if (endsS x most).2.2 then min (endsS x most).2.1 mxN else 0
def leastI (most at' : Int) (x : Sp) : Int := match clipS most x with
  | some (a, b) => if at' < b then max a (at' + 1) else 0
  | none => 0
def gcond (most hi : Int) (x : Sp) : Bool := match clipS most x with
  | some (a, b) => decide (hi < b) && decide (a ≤ hi + 1)
  | none => false
def gstep (most : Int) (s : Int × Bool) (x : Sp) : Int × Bool := if gcond most s.1 x then (endI most x, true) else s

theorem ends_pos {x : Sp} {most : Int} (h1 : 0 ≤ x.1) (h2 : 0 ≤ x.2) (h : (endsS x most).2.2 = true) : 1 ≤ (endsS x most).1 ∧ (endsS x most).1 ≤ (endsS x most).2.1 := by
  obtain ⟨a, b⟩ := x
  simp only [endsS] at *
  split at h
  · split at h
    · cases h
    · simp only at *
      rename_i h3 h4
      rw [if_pos h3, if_neg h4]
      simp only
      by_cases h5 : a = 0 <;> by_cases h6 : b = 0 <;> simp [h5, h6] <;> omega
  · rename_i h3
    rw [if_neg h3]
    simp only at *
    omega
theorem clip_some {most : Int} {x : Sp} {a b : Int} (h : clipS most x = some (a, b)) : (endsS x most).2.2 = true ∧ a = max (endsS x most).1 1 ∧ b = min (endsS x most).2.1 mxN ∧ a ≤ b := by
  simp only [clipS] at h
  split at h
  · rename_i hc
    simp only [Option.some.injEq, Prod.mk.injEq] at h
    exact ⟨hc.1, by omega, by omega, by omega⟩
  · cases h
theorem clip_none {most : Int} {x : Sp} (h : clipS most x = none) : (endsS x most).2.2 = false ∨ min (endsS x most).2.1 mxN < max (endsS x most).1 1 := by
  simp only [clipS] at h
  split at h
  · cases h
  · rename_i hc
    by_cases h1 : (endsS x most).2.2 = true
    · have h2 : ¬ max (endsS x most).1 1 ≤ min (endsS x most).2.1 mxN := fun h => hc ⟨h1, h⟩
      exact .inr (by omega)
    · exact .inl (by simpa using h1)
theorem endI_clip {most : Int} {x : Sp} {a b : Int} (h : clipS most x = some (a, b)) : endI most x = b := by
  obtain ⟨h1, h2, h3, h4⟩ := clip_some h
  simp [endI, h1, h3]

theorem grow_cond {most hi : Int} {x : Sp} (h1 : 0 ≤ x.1) (h2 : 0 ≤ x.2) (h3 : 1 ≤ hi) (h4 : hi ≤ mxN) :
    (decide (hi < endI most x) && (covS most hi x || covS most (hi + 1) x)) = gcond most hi x := by
  unfold gcond
  split
  · rename_i a b hc
    rw [endI_clip hc]
    obtain ⟨g1, g2, g3, g4⟩ := clip_some hc
    have := ends_pos h1 h2 g1
    rw [Bool.eq_iff_iff]
    simp [covS, g1]
    omega
  · rename_i hc
    rcases clip_none hc with g | g
    · simp [endI, g]; omega
    · cases hs : (endsS x most).2.2 with
      | false => simp [endI, hs]; omega
      | true =>
        have := ends_pos h1 h2 hs
        rw [Bool.eq_false_iff]
        simp [endI, hs, covS, mxN] at g h4 ⊢
        omega

theorem least_def {most at' : Int} {x : Sp} (h1 : 0 ≤ x.1) (h2 : 0 ≤ x.2) (h0 : 0 ≤ at') :
    leastI most at' x = if endI most x ≤ at' then 0 else if mxN < (endsS x most).1 then 0 else if (endsS x most).1 ≤ at' then at' + 1 else (endsS x most).1 := by
  unfold leastI
  split
  · rename_i a b hc
    rw [endI_clip hc]
    obtain ⟨g1, g2, g3, g4⟩ := clip_some hc
    have := ends_pos h1 h2 g1
    repeat' split
    all_goals omega
  · rename_i hc
    rcases clip_none hc with g | g
    · simp [endI, g, h0]
    · cases hs : (endsS x most).2.2 with
      | false => simp [endI, hs, h0]
      | true =>
        have := ends_pos h1 h2 hs
        simp only [endI, hs, if_true]
        repeat' split
        all_goals omega

abbrev clL (l : List Sp) (most : Int) : List Sp := l.filterMap (clipS most)

/-- The least number behind 'at' that is in it, so far as was looked. -/
def LowI (most at' : Int) (l : List Sp) (lo : Int) : Prop :=
  (lo = -1 ∧ ∀ x ∈ l, leastI most at' x = 0) ∨ (0 < lo ∧ (∃ x ∈ l, leastI most at' x = lo) ∧ ∀ x ∈ l, 0 < leastI most at' x → lo ≤ leastI most at' x)
theorem leastI_nonneg {most at' : Int} {x : Sp} (h0 : 0 ≤ at') : 0 ≤ leastI most at' x := by
  unfold leastI
  split
  · split <;> omega
  · omega
theorem LowI.step {most at' : Int} {l : List Sp} {lo : Int} (h0 : 0 ≤ at') (h : LowI most at' l lo) (x : Sp) : LowI most at' (l ++ [x]) (if 0 < leastI most at' x ∧ (lo < 0 ∨ leastI most at' x < lo) then leastI most at' x else lo) := by
  have hx := leastI_nonneg (most := most) (x := x) h0
  rcases h with ⟨rfl, h1⟩ | ⟨h1, ⟨y, hy, h2⟩, h3⟩
  · by_cases hp : 0 < leastI most at' x
    · rw [if_pos ⟨hp, .inl (by omega)⟩]
      refine .inr ⟨hp, ⟨x, by simp, rfl⟩, fun z hz hz2 => ?_⟩
      rcases List.mem_append.1 hz with hz | hz
      · rw [h1 z hz] at hz2; omega
      · rw [List.mem_singleton.1 hz]; omega
    · rw [if_neg (fun h => hp h.1)]
      refine .inl ⟨rfl, fun z hz => ?_⟩
      rcases List.mem_append.1 hz with hz | hz
      · exact h1 z hz
      · rw [List.mem_singleton.1 hz]; omega
  · by_cases hp : 0 < leastI most at' x ∧ (lo < 0 ∨ leastI most at' x < lo)
    · rw [if_pos hp]
      refine .inr ⟨hp.1, ⟨x, by simp, rfl⟩, fun z hz hz2 => ?_⟩
      rcases List.mem_append.1 hz with hz | hz
      · have := h3 z hz hz2; omega
      · rw [List.mem_singleton.1 hz]; omega
    · rw [if_neg hp]
      refine .inr ⟨h1, ⟨y, by simp [hy], h2⟩, fun z hz hz2 => ?_⟩
      rcases List.mem_append.1 hz with hz | hz
      · exact h3 z hz hz2
      · have e := List.mem_singleton.1 hz
        subst e; omega
theorem LowI.nil (most at' : Int) : LowI most at' [] (-1) := .inl ⟨rfl, by simp⟩
theorem in_cl {l : List Sp} {most n : Int} : inS (clL l most) n ↔ ∃ x ∈ l, ∃ a b, clipS most x = some (a, b) ∧ a ≤ n ∧ n ≤ b := by
  simp only [inS, clL, List.mem_filterMap]
  constructor
  · rintro ⟨⟨a, b⟩, ⟨x, h1, h2⟩, h3⟩; exact ⟨x, h1, a, b, h2, h3⟩
  · rintro ⟨x, h1, a, b, h2, h3⟩; exact ⟨(a, b), ⟨x, h1, h2⟩, h3⟩
theorem LowI.none {most at' : Int} {l : List Sp} (h0 : 0 ≤ at') (h : LowI most at' l (-1)) : ∀ n, inS (clL l most) n → n ≤ at' := by
  intro n hn
  rcases h with ⟨_, h⟩ | ⟨h, _⟩
  · obtain ⟨x, h1, a, b, h2, h3⟩ := in_cl.1 hn
    have := h x h1
    simp only [leastI, h2] at this
    split at this <;> omega
  · omega
theorem LowI.some {most at' lo : Int} {l : List Sp} (h0 : 0 ≤ at') (h : LowI most at' l lo) (hl : ¬ lo < 0) : at' < lo ∧ lo ≤ mxN ∧ inS (clL l most) lo ∧ ∀ n, inS (clL l most) n → at' < n → lo ≤ n := by
  rcases h with ⟨rfl, _⟩ | ⟨h1, ⟨y, hy, h2⟩, h3⟩
  · omega
  · have key : at' < lo ∧ lo ≤ mxN ∧ inS (clL l most) lo := by
      unfold leastI at h2
      split at h2
      · rename_i a b hc
        have hk := clip_ok hc
        simp only at hk
        split at h2
        · exact ⟨by omega, by omega, in_cl.2 ⟨y, hy, a, b, hc, by omega, by omega⟩⟩
        · omega
      · omega
    refine ⟨key.1, key.2.1, key.2.2, fun n hn h4 => ?_⟩
    obtain ⟨x, g1, a, b, g2, g3⟩ := in_cl.1 hn
    have g4 := h3 x g1
    simp only [leastI, g2] at g4
    rw [if_pos (by omega)] at g4
    omega

/-- From 'lo' up to 'hi' all are in it. -/
def AllIn (cl : List Sp) (lo hi : Int) : Prop := lo ≤ hi ∧ hi ≤ mxN ∧ ∀ n, lo ≤ n → n ≤ hi → inS cl n
theorem AllIn.step {l : List Sp} {most lo hi : Int} {x : Sp} (h : AllIn (clL l most) lo hi) (hx : x ∈ l) (g : Bool) : AllIn (clL l most) lo (gstep most (hi, g) x).1 ∧ hi ≤ (gstep most (hi, g) x).1 ∧ ((gstep most (hi, g) x).2 = true → g = true ∨ hi < (gstep most (hi, g) x).1) ∧ (g = true → (gstep most (hi, g) x).2 = true) ∧
    ((gstep most (hi, g) x).2 = false → g = false ∧ (gstep most (hi, g) x).1 = hi ∧ gcond most hi x = false) := by
  unfold gstep
  simp only
  cases hg : gcond most hi x with
  | false => simp [h]
  | true =>
    simp only [gcond] at hg
    split at hg
    · rename_i a b hc
      simp only [Bool.and_eq_true, decide_eq_true_eq] at hg
      rw [if_pos rfl, endI_clip hc]
      have hk := clip_ok hc
      simp only at hk
      obtain ⟨h1, h2, h3⟩ := h
      refine ⟨⟨by omega, by omega, fun n g1 g2 => ?_⟩, by omega, fun _ => .inr (by simp only; omega), fun _ => rfl, fun h => by cases h⟩
      by_cases hn : n ≤ hi
      · exact h3 n g1 hn
      · exact in_cl.2 ⟨x, hx, a, b, hc, by omega, by simpa using g2⟩
    · cases hg

/-- What was done so far. -/
def DoneI (cl : List Sp) (out : List Sp) (at' : Int) : Prop :=
  Gaps out ∧ 0 ≤ at' ∧ at' ≤ mxN ∧ (∀ n, inS out n ↔ inS cl n ∧ n ≤ at') ∧ ((out = [] ∧ at' = 0) ∨ (∃ pre c, out = pre ++ [c] ∧ c.2 = at' ∧ ¬ inS cl (at' + 1)))
theorem Gaps.snoc : ∀ {pre : List Sp} {c y : Sp}, Gaps (pre ++ [c]) → c.2 + 1 < y.1 → y.1 ≤ y.2 → Gaps (pre ++ [c] ++ [y])
  | [], c, y, h, h1, h2 => ⟨h, h1, h2⟩
  | [x], c, y, h, h1, h2 => ⟨h.1, h.2.1, Gaps.snoc (pre := []) h.2.2 h1 h2⟩
  | x :: z :: r, c, y, h, h1, h2 => ⟨h.1, h.2.1, Gaps.snoc (pre := z :: r) h.2.2 h1 h2⟩
theorem inS_app {a b : List Sp} {n : Int} : inS (a ++ b) n ↔ inS a n ∨ inS b n := by
  simp only [inS, List.mem_append]
  constructor
  · rintro ⟨x, h | h, h2⟩
    · exact .inl ⟨x, h, h2⟩
    · exact .inr ⟨x, h, h2⟩
  · rintro (⟨x, h, h2⟩ | ⟨x, h, h2⟩)
    · exact ⟨x, .inl h, h2⟩
    · exact ⟨x, .inr h, h2⟩
theorem DoneI.step {l out : List Sp} {most at' lo hi : Int} (h : DoneI (clL l most) out at') (h1 : at' < lo) (h2 : ∀ n, inS (clL l most) n → at' < n → lo ≤ n) (hA : AllIn (clL l most) lo hi) (hs : ∀ x ∈ l, gcond most hi x = false) :
    DoneI (clL l most) (out ++ [(lo, hi)]) hi := by
  obtain ⟨d1, d2, d3, d4, d5⟩ := h
  obtain ⟨a1, a2, a3⟩ := hA
  have hn : ¬ inS (clL l most) (hi + 1) := by
    intro hn
    obtain ⟨x, g1, a, b, g2, g3, g4⟩ := in_cl.1 hn
    have := hs x g1
    simp only [gcond, g2, Bool.and_eq_false_iff, decide_eq_false_iff_not] at this
    omega
  refine ⟨?_, by omega, a2, fun n => ?_, .inr ⟨out, _, rfl, rfl, hn⟩⟩
  · rcases d5 with ⟨rfl, _⟩ | ⟨pre, c, rfl, hc, hn2⟩
    · exact a1
    · refine d1.snoc ?_ a1
      simp only
      have h4 : lo ≠ at' + 1 := fun e => hn2 (e ▸ a3 lo (by omega) a1)
      omega
  · rw [inS_app, d4 n]
    have e : inS [(lo, hi)] n ↔ lo ≤ n ∧ n ≤ hi := by simp [inS]
    rw [e]
    constructor
    · rintro (h | h)
      · exact ⟨h.1, by omega⟩
      · exact ⟨a3 n h.1 h.2, h.2⟩
    · rintro ⟨h3, h4⟩
      by_cases h5 : n ≤ at'
      · exact .inl ⟨h3, h5⟩
      · exact .inr ⟨h2 n h3 (by omega), h4⟩

theorem srt_sorted (l : List Sp) : (srtS l).Pairwise (fun a b => a.1 ≤ b.1) := by
  have h := List.pairwise_mergeSort (le := fun x y => !ltS y x) (fun a b c h1 h2 => by
    simp [ltS] at *; omega) (fun a b => by
    simp [ltS]; omega) l
  refine h.imp fun {a b} h => ?_
  simp [ltS] at h; omega
theorem norm_ok (l : List Sp) (most : Int) : Gaps (normS l most) ∧ ∀ n, inS (normS l most) n ↔ inS (clL l most) n := by
  obtain ⟨h1, h2⟩ := joinL_ok (l := srtS (clL l most)) (fun x hx => by
    obtain ⟨y, _, h⟩ := List.mem_filterMap.1 (srt_mem.1 hx)
    exact (clip_ok h).2.1) (srt_sorted _)
  refine ⟨h1, fun n => ?_⟩
  unfold normS
  rw [h2 n]
  simp only [inS, srt_mem]
/-- Done: it is the one way. -/
theorem DoneI.norm {l out : List Sp} {most at' : Int} (h : DoneI (clL l most) out at') (h1 : ∀ n, inS (clL l most) n → n ≤ at') : out = normS l most := by
  obtain ⟨n1, n2⟩ := norm_ok l most
  refine gaps_unique h.1 n1 fun n => ?_
  rw [n2 n, h.2.2.2.1 n]
  exact ⟨fun h => h.1, fun h => ⟨h, h1 n h⟩⟩
end Go.Ai
