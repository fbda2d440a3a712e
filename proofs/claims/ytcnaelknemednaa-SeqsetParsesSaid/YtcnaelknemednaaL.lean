/- Sets of numbers. -/
import Derived.Test.YtcnaelknemednaaK
namespace Go.Ai
set_option linter.unusedVariables false
set_option linter.unusedSimpArgs false

theorem frzP_closed {k : Nat} {hp : Heap} {x : AV} (h : x.closed = true) : frzP (k + 1) hp x = some x := by unfold frzP; rw [if_pos h]
theorem mapO_frzP_closed {k : Nat} {hp : Heap} : ∀ {cs : List AV}, closedL cs = true → mapO (frzP (k + 1) hp) cs = some cs
  | [], _ => rfl
  | x :: r, h => by simp at h; rw [mapO_cons, mapO_frzP_closed h.2, frzP_closed h.1]; rfl
theorem mapO2_frz_closed {k : Nat} {hp : Heap} : ∀ {l : List (List AV)}, closedLL l = true → mapO (mapO (frz (k + 1) hp)) l = some l
  | [], _ => rfl
  | x :: r, h => by simp at h; rw [mapO_cons, mapO2_frz_closed h.2, mapO_frz_closed h.1]; rfl
/-- A slice of one's own is given to a call that knows slices that nobody writes. -/
theorem give_own {hp : Heap} {nx sz : Nat} {es : Blk} {x : AV} (h : OwnS hp nx sz es x) (hc : closedLL es = true) {rest : List AV} (hr : closedL rest = true) :
    ∃ y, SlA sz es y ∧ mapO (frzP 6 (restrH hp (slB x))) (x :: rest) = some (y :: rest) := by
  rcases h with ⟨b, z, c, rfl, g1, g2, _⟩ | ⟨r, h1, rfl, h2⟩
  · refine ⟨_, ⟨b, z, some c, rfl, g1, g2⟩, ?_⟩
    exact mapO_frzP_closed (by simp [hc, hr])
  · refine ⟨.rs false sz es none, ⟨false, sz, none, rfl, .inr rfl, fun h => by cases h⟩, ?_⟩
    rw [mapO_cons, mapO_frzP_closed hr]
    have e : restrH hp (slB (.sl r sz 0 es.length none)) r = some es := by simp [restrH, h2]
    have : frzP 6 (restrH hp (slB (.sl r sz 0 es.length none))) (.sl r sz 0 es.length none) = some (.rs false sz es none) := by
      rw [frzP, if_neg (by simp)]
      simp only [e]
      rw [if_pos (by omega), List.drop_zero, List.take_length, mapO2_frz_closed hc]
      rfl
    rw [this]; rfl
/-- Such a call. -/
theorem Ret_giveP {f : Nat} {hp : Heap} {nx sz : Nat} {es : Blk} {x : AV} (h : OwnS hp nx sz es x) (hc : closedLL es = true) {rest : List AV} (hr : closedL rest = true) {G : AV → Prop}
    (hf : ∀ y, SlA sz es y → ∃ v, G v ∧ ∀ hp nx, Ret E f (y :: rest) hp nx v hp nx .p) : ∃ v, G v ∧ Ret E f (x :: rest) hp nx v (dropH hp (slB x)) nx .e := by
  obtain ⟨y, hy, hz⟩ := give_own h hc hr
  obtain ⟨v, hG, hR⟩ := hf y hy
  exact ⟨v, hG, Ret_give (slB x) hz (hR _ _)⟩
theorem SlA.own {n : Nat} {es : List (List AV)} {x : AV} (h : SlA n es x) : x.closed = closedLL es := by
  obtain ⟨nil, sz, cap, rfl, _⟩ := h; simp

/-- One number, if it may be. -/
def oneS (n : Int) : Option Sp := if 1 ≤ n ∧ n ≤ mxN then some (n, n) else none

theorem f20 (ns : List Int) (x : AV) (hx : SlA 1 (ns.map kidC) x) (hl : ns.length ≤ 1000000) : ∃ v, SlA 2 ((normS (ns.filterMap oneS) 0).map cellsP) v ∧ ∀ hp nx, Ret E 20 [x] hp nx v hp nx .p := by
  obtain ⟨nil, sz, cap, rfl, hz⟩ := hx
  refine Ret_pureE e20 rfl (by simp) ?_
  simp [c20]
  refine W_loopI (I := fun (j : Nat) s => j ≤ ns.length ∧ s.tm 4 = .v (.int .i64 j) ∧ s.tm 0 = .rs nil sz (ns.map kidC) cap ∧ OwnS s.hp s.nx 2 (((ns.take j).filterMap oneS).map cellsP) (s.tm 3))
    (fun j => ns.length - j) 0 (by simp; exact OwnS.nil) ?_
  rintro j tm hp nx ⟨hj, h4, h0, hO⟩
  simp only at h4 h0 hO
  by_cases hlt : j < ns.length
  · have hia : iaddrA 1 (.rs nil sz (ns.map kidC) cap) (.v (.int .i64 j)) = some (.rp (kidC ns[j])) := iaddr_in hz (by simp [hlt]) rfl
    have hw : IntKind.wrap .i64 ((j : Int) + 1) = (j + 1 : Nat) := by rw [wrap_id] <;> omega
    have hfl := filterMap_len oneS (ns.take j)
    simp only [List.length_take] at hfl
    have hst := filterMap_take_succ oneS hlt
    by_cases q1 : 1 ≤ ns[j]
    · by_cases q2 : ns[j] ≤ 4294967295
      · have ho : oneS ns[j] = some (ns[j], ns[j]) := by simp [oneS, mxN, q1, q2]
        rw [ho] at hst
        simp only at hst
        generalize ns[j] = n at *
        simp [h4, h0, hlt, -iaddrA_rs, hia, kidC, q1, q2, spliceL]
        refine mvE_app hO (by simp) (by simp; omega) ?_
        intro hp2 hn hk
        simp [hw, h4, h0]
        refine ⟨j + 1, by omega, by omega, by simp, ?_⟩
        rw [hst]
        exact .inr ⟨nx, by omega, by simp, by rw [hn]; simp [cellsP]⟩
      · have ho : oneS ns[j] = none := by simp [oneS, mxN, q2]
        rw [ho] at hst
        simp only [List.append_nil] at hst
        generalize ns[j] = n at *
        simp [h4, h0, hlt, -iaddrA_rs, hia, kidC, q1, q2, hw]
        exact ⟨j + 1, by omega, by omega, by simp, by rw [hst]; exact hO⟩
    · have ho : oneS ns[j] = none := by simp [oneS, mxN, q1]
      rw [ho] at hst
      simp only [List.append_nil] at hst
      generalize ns[j] = n at *
      simp [h4, h0, hlt, -iaddrA_rs, hia, kidC, q1, hw]
      exact ⟨j + 1, by omega, by omega, by simp, by rw [hst]; exact hO⟩
  · have : j = ns.length := by omega
    subst this
    simp only [List.take_length] at hO
    simp [h4, h0]
    have hfl := filterMap_len oneS ns
    obtain ⟨v, c2, c1⟩ := Ret_giveP (f := 18) (rest := [.v (.int .i64 0)]) hO (by simp) (by simp) (fun y hy => f18 _ (fun z hz => by
      obtain ⟨n, _, h⟩ := List.mem_filterMap.1 hz
      simp only [oneS] at h
      split at h
      · cases h; simp only; omega
      · cases h) y hy (by omega) 0)
    refine WCall_k c1 ?_
    simp
    have hcv : v.closed = true := by rw [c2.own]; simp
    exact ⟨v, frz_closed hcv, c2⟩
end Go.Ai
