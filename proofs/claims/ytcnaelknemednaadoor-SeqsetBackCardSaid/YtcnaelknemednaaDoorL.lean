/- Sets of numbers. -/
import Derived.Test.YtcnaelknemednaaDoorH
namespace Go.Ai
set_option linter.unusedVariables false
set_option linter.unusedSimpArgs false

theorem frzP_closed {k : Nat} {hp : Heap} {x : AV} (h : x.closed = true) : frzP (k + 1) hp x = some x := by unfold frzP; rw [if_pos h]
theorem mapO_frzP_closed {k : Nat} {hp : Heap} : ∀ {cs : List AV}, closedL cs = true → mapO (frzP (k + 1) hp) cs = some cs
  | [], _ => rfl
  | x :: r, h => by simp at h; rw [mapO_cons, mapO_frzP_closed h.2, frzP_closed h.1]; rfl
theorem mapO2_frz_closed {k : Nat} {hp : Heap} : ∀ {l : List (List AV)}, closedLL l = true → mapO (mapO (frz (k + 1) hp)) l = some l
  | [], _ => rfl
  | x :: r, h => by simp at h; rw [mapO_cons, mapO2_frz_closed h.2, mapO_frz_closed h.1]; rfl
/-- A slice of one's own is given to a call that knows slices that nobody writes. -/
theorem give_own {hp : Heap} {nx sz : Nat} {es : Blk} {x : AV} (h : OwnS hp nx sz es x) (hc : closedLL es = true) {rest : List AV} (hr : closedL rest = true) :
    ∃ y, SlA sz es y ∧ mapO (frzP 6 (restrH hp (slB x))) (x :: rest) = some (y :: rest) := by
  rcases h with ⟨b, z, c, rfl, g1, g2, _⟩ | ⟨r, h1, rfl, h2⟩
  · refine ⟨_, ⟨b, z, some c, rfl, g1, g2⟩, ?_⟩
    exact mapO_frzP_closed (by simp [hc, hr])
  · refine ⟨.rs false sz es none, ⟨false, sz, none, rfl, .inr rfl, fun h => by cases h⟩, ?_⟩
    rw [mapO_cons, mapO_frzP_closed hr]
    have e : restrH hp (slB (.sl r sz 0 es.length none)) r = some es := by simp [restrH, h2]
    have : frzP 6 (restrH hp (slB (.sl r sz 0 es.length none))) (.sl r sz 0 es.length none) = some (.rs false sz es none) := by
      rw [frzP, if_neg (by simp)]
      simp only [e]
      rw [if_pos (by omega), List.drop_zero, List.take_length, mapO2_frz_closed hc]
      rfl
    rw [this]; rfl
/-- Such a call. -/
theorem Ret_giveP {f : Nat} {hp : Heap} {nx sz : Nat} {es : Blk} {x : AV} (h : OwnS hp nx sz es x) (hc : closedLL es = true) {rest : List AV} (hr : closedL rest = true) {G : AV → Prop}
    (hf : ∀ y, SlA sz es y → ∃ v, G v ∧ ∀ hp nx, Ret E f (y :: rest) hp nx v hp nx .p) : ∃ v, G v ∧ Ret E f (x :: rest) hp nx v (dropH hp (slB x)) nx .e := by
  obtain ⟨y, hy, hz⟩ := give_own h hc hr
  obtain ⟨v, hG, hR⟩ := hf y hy
  exact ⟨v, hG, Ret_give (slB x) hz (hR _ _)⟩
theorem SlA.own {n : Nat} {es : List (List AV)} {x : AV} (h : SlA n es x) : x.closed = closedLL es := by
  obtain ⟨nil, sz, cap, rfl, _⟩ := h; simp

/-- One number, if it may be. -/
def oneS (n : Int) : Option Sp := if 1 ≤ n ∧ n ≤ mxN then some (n, n) else none

end Go.Ai
