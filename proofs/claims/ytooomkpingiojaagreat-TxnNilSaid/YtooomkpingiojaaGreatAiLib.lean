/- Slices that a run owns and that grow; memory that stays. -/
import Derived.Test.YtooomkpingiojaaGreatAiSimp
namespace Go.Ai
set_option linter.unusedVariables false
set_option linter.unusedSimpArgs false

/-- Blocks that a slice stands in. -/
def slB : AV → List Nat
  | .sl r .. => [r]
  | _ => []
@[simp] theorem slB_sl {r sz i l c} : slB (.sl r sz i l c) = [r] := (rfl)
@[simp] theorem slB_rs {n z e c} : slB (.rs n z e c) = [] := (rfl)

/-- A slice that grows: one that nobody writes, with no room behind; or all of a block. -/
def OwnS (hp : Heap) (nx sz : Nat) (es : Blk) (x : AV) : Prop :=
  (∃ b z c, x = .rs b z es (some c) ∧ (b = true ∨ z = sz) ∧ (b = true → es = []) ∧ c ≤ es.length) ∨ ∃ r, r < nx ∧ x = .sl r sz 0 es.length none ∧ hp r = some es

theorem OwnS.nil {hp : Heap} {nx sz : Nat} : OwnS hp nx sz [] (.rs true 0 [] (some 0)) := .inl ⟨true, 0, 0, rfl, .inl rfl, fun _ => rfl, by simp⟩
theorem OwnS.lit {hp : Heap} {nx sz : Nat} {es : Blk} : OwnS hp nx sz es (.rs false sz es (some es.length)) := .inl ⟨false, sz, _, rfl, .inr rfl, fun h => (by cases h), Nat.le_refl _⟩
theorem OwnS.lt {hp : Heap} {nx sz : Nat} {es : Blk} {x : AV} (h : OwnS hp nx sz es x) : ∀ r ∈ slB x, r < nx := by
  rcases h with ⟨b, z, c, rfl, _⟩ | ⟨r, h1, rfl, _⟩
  · simp
  · simpa using h1
theorem OwnS.keep {hp hp' : Heap} {nx nx' sz : Nat} {es : Blk} {x : AV} (h : OwnS hp nx sz es x) (hn : nx ≤ nx') (hk : ∀ r ∈ slB x, hp' r = hp r) : OwnS hp' nx' sz es x := by
  rcases h with ⟨b, z, c, rfl, h1⟩ | ⟨r, h1, rfl, h2⟩
  · exact .inl ⟨b, z, c, rfl, h1⟩
  · exact .inr ⟨r, by omega, rfl, by rw [hk r (by simp), h2]⟩
theorem OwnS.one {hp : Heap} {nx sz : Nat} {es : Blk} {x : AV} (h : OwnS hp nx sz es x) : x.cells = [x] ∧ x.one = true := by
  rcases h with ⟨b, z, c, rfl, _⟩ | ⟨r, _, rfl, _⟩ <;> exact ⟨rfl, rfl⟩
theorem OwnS.len {hp : Heap} {nx sz : Nat} {es : Blk} {x : AV} (h : OwnS hp nx sz es x) : lenA x = some (.int .i64 es.length) := by
  rcases h with ⟨b, z, c, rfl, _⟩ | ⟨r, _, rfl, _⟩ <;> simp

/-- Some elements more. -/
theorem OwnS.app {hp : Heap} {nx sz bytes : Nat} {es : Blk} {x : AV} (h : OwnS hp nx sz es x) {new : Blk} (hne : new ≠ []) (hl : (es.length + new.length) * bytes ≤ 140737488355328) :
    ∃ hp', appA sz bytes x new hp nx = some (.sl nx sz 0 (es.length + new.length) none, hp', nx + 1) ∧ hp' nx = some (es ++ new) ∧ OwnS hp' (nx + 1) sz (es ++ new) (.sl nx sz 0 (es.length + new.length) none) ∧ ∀ q, q ≠ nx → q ∉ slB x → hp' q = hp q := by
  have hpos : 0 < new.length := List.length_pos_iff.2 hne
  rcases h with ⟨b, z, c, rfl, g1, g2, g3⟩ | ⟨r, h1, rfl, h2⟩
  · refine ⟨hupd hp nx (some (es ++ new)), ?_, by simp, .inr ⟨nx, by omega, by simp, by simp⟩, fun q h1 h2 => by simp [h1]⟩
    simp only [appA]
    rw [if_pos g1, if_neg (by omega), if_pos ⟨by omega, hl⟩]
  · refine ⟨hupd (hupd hp r none) nx (some (es ++ new)), ?_, by simp, .inr ⟨nx, by omega, by simp, by simp⟩, fun q h3 h4 => by simp at h4; simp [h3, h4]⟩
    simp only [appA, if_true, h2, Nat.zero_add]
    rw [if_neg (by omega), if_neg (by omega), if_pos hl]
    simp

theorem mvE_app {K : AV → Heap → Nat → Kd → Prop} {hp : Heap} {nx sz bytes : Nat} {es : Blk} {x : AV} {new : Blk} (h : OwnS hp nx sz es x) (hne : new ≠ []) (hl : (es.length + new.length) * bytes ≤ 140737488355328)
    (k : ∀ hp', hp' nx = some (es ++ new) → (∀ q, q ≠ nx → q ∉ slB x → hp' q = hp q) → K (.sl nx sz 0 (es.length + new.length) none) hp' (nx + 1) .e) : mvE (appA sz bytes x new hp nx) K := by
  obtain ⟨hp', h1, h2, _, h4⟩ := h.app (bytes := bytes) hne hl
  rw [h1]
  exact k hp' h2 h4

/-- It is handed out. -/
theorem frz_own {k : Nat} {hp : Heap} {nx sz : Nat} {es : Blk} {x : AV} (h : OwnS hp nx sz es x) (hc : closedLL es = true) : ∃ nil z cap, frz (k + 2) hp x = some (.rs nil z es cap) ∧ (nil = true ∨ z = sz) ∧ (nil = true → es = []) := by
  rcases h with ⟨b, z, c, rfl, g1, g2, _⟩ | ⟨r, h1, rfl, h2⟩
  · exact ⟨b, z, some c, frz_closed (by simpa using hc), g1, g2⟩
  · refine ⟨false, sz, none, ?_, .inr rfl, fun h => by cases h⟩
    have hm : ∀ {l : List AV}, closedL l = true → mapO (frz (k + 1) hp) l = some l := by
      intro l
      induction l with
      | nil => intro _; rfl
      | cons y r ih => intro h; simp at h; simp [ih h.2, frz_closed h.1]
    have hm2 : ∀ {l : List (List AV)}, closedLL l = true → mapO (mapO (frz (k + 1) hp)) l = some l := by
      intro l
      induction l with
      | nil => intro _; rfl
      | cons y r ih => intro h; simp at h; rw [mapO_cons, ih h.2, hm h.1]; rfl
    rw [frz]
    simp only [closed_sl, h2, Nat.zero_add, Nat.le_refl, if_true, List.drop_zero, List.take_length, hm2 hc]
    rfl

theorem mapO_frz_closed {k : Nat} {hp : Heap} : ∀ {cs : List AV}, closedL cs = true → mapO (frz (k + 1) hp) cs = some cs
  | [], _ => rfl
  | x :: r, h => by simp at h; rw [mapO_cons, mapO_frz_closed h.2, frz_closed h.1]; rfl
theorem frz_tup {k : Nat} {hp : Heap} {cs cs' : List AV} (h : mapO (frz (k + 1) hp) cs = some cs') : frz (k + 2) hp (.tup cs) = some (.tup cs') := by
  rw [frz]
  split
  · rename_i hc
    rw [mapO_frz_closed (by simpa using hc)] at h
    simp only [Option.some.injEq] at h; rw [h]
  · simp only [h]; rfl
theorem frz_agg {k : Nat} {hp : Heap} {cs cs' : List AV} (h : mapO (frz (k + 1) hp) cs = some cs') : frz (k + 2) hp (.agg cs) = some (.agg cs') := by
  rw [frz]
  split
  · rename_i hc
    rw [mapO_frz_closed (by simpa using hc)] at h
    simp only [Option.some.injEq] at h; rw [h]
  · simp only [h]; rfl

/-- What a step leaves alone: all old blocks but some. -/
structure Stay (ex : Nat → Prop) (hp : Heap) (nx : Nat) (hp' : Heap) (nx' : Nat) : Prop where
  le : nx ≤ nx'
  keep : ∀ r, r < nx → ¬ ex r → hp' r = hp r
theorem Stay.refl {ex hp nx} : Stay ex hp nx hp nx := ⟨Nat.le_refl _, fun _ _ _ => rfl⟩
theorem Stay.trans {ex hp nx hp1 nx1 hp2 nx2} (h : Stay ex hp nx hp1 nx1) (k : Stay ex hp1 nx1 hp2 nx2) : Stay ex hp nx hp2 nx2 :=
  ⟨Nat.le_trans h.le k.le, fun r h1 h2 => (k.keep r (Nat.lt_of_lt_of_le h1 h.le) h2).trans (h.keep r h1 h2)⟩
theorem Stay.mono {ex ex' : Nat → Prop} {hp nx hp1 nx1} (h : Stay ex hp nx hp1 nx1) (hx : ∀ r, r < nx → ex r → ex' r) : Stay ex' hp nx hp1 nx1 :=
  ⟨h.le, fun r h1 h2 => h.keep r h1 fun h3 => h2 (hx r h1 h3)⟩
end Go.Ai
