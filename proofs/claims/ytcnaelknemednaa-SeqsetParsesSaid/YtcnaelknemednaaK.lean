/- The document's one way of a set is the program's; the document's set of numbers. -/
import Derived.Test.YtcnaelknemednaaJ
namespace Go.Ai
set_option linter.unusedVariables false
set_option linter.unusedSimpArgs false

abbrev refI (l : List Sp) (most : Int) (x : AV) (q : Int × List Sp) (s : St) : Prop :=
  s.tm 0 = x ∧ s.tm 1 = .v (.int .i64 most) ∧ s.tm 6 = .v (.int .i64 q.1) ∧ OwnS s.hp s.nx 2 (q.2.map cellsP) (s.tm 5) ∧ DoneI (clL l most) q.2 q.1 ∧ (q.2.length : Int) ≤ q.1
abbrev lowW (l : List Sp) (most at' : Int) (x : AV) (t5 : AV) (hp0 : Heap) (nx0 : Nat) (q : Nat × Int) (s : St) : Prop :=
  q.1 ≤ l.length ∧ s.tm 0 = x ∧ s.tm 1 = .v (.int .i64 most) ∧ s.tm 5 = t5 ∧ s.tm 6 = .v (.int .i64 at') ∧ s.tm 7 = .v (.int .i64 q.2) ∧ s.tm 8 = .v (.int .i64 q.1) ∧ s.hp = hp0 ∧ s.nx = nx0 ∧ LowI most at' (l.take q.1) q.2

theorem f18 (l : List Sp) (hpos : ∀ x ∈ l, 0 ≤ x.1 ∧ 0 ≤ x.2) (x : AV) (hx : SlA 2 (l.map cellsP) x) (hl : l.length ≤ 1000000) (most : Int) : ∃ v, SlA 2 ((normS l most).map cellsP) v ∧ ∀ hp nx, Ret E 18 [x, .v (.int .i64 most)] hp nx v hp nx .p := by
  obtain ⟨nil, sz, cap, rfl, hz⟩ := hx
  refine Ret_pureE e18 rfl (by simp) ?_
  simp [c18]
  refine W_loopI (I := refI l most (.rs nil sz (l.map cellsP) cap)) (fun q => (mxN - q.1).toNat) (0, []) ⟨by simp, by simp, by simp, by simpa using OwnS.nil, ⟨trivial, by simp, by simp [mxN], fun n => ?_, .inl ⟨rfl, rfl⟩⟩, by simp⟩ ?_
  · constructor
    · intro h; exact absurd h inS_nil
    · rintro ⟨h, h2⟩
      obtain ⟨y, hy, a, b, h3, h4, h5⟩ := in_cl.1 h
      have := clip_ok h3
      simp only at this h2; omega
  rintro ⟨at', out⟩ tm hp nx ⟨h0, h1, h6, hO, hD, hol⟩
  simp only at h0 h1 h6 hO hD hol
  have hat := hD.2.1
  have hat2 := hD.2.2.1
  simp [-Prod.exists, h0, h1, h6]
  refine W_loopI (I := lowW l most at' (.rs nil sz (l.map cellsP) cap) (tm 5) hp nx) (fun q => l.length - q.1) (0, -1) ⟨by simp, by simp [h0], by simp [h1], by simp, by simp [h6], by simp, by simp, rfl, rfl, by simpa using LowI.nil most at'⟩ ?_
  rintro ⟨j, lo⟩ tm2 hp2 nx2 ⟨k, k0, k1, k5, k6, k7, k8, rfl, rfl, kL⟩
  simp only at k k0 k1 k5 k6 k7 k8 kL
  by_cases hlt : j < l.length
  · have hm : l[j] ∈ l := List.getElem_mem hlt
    obtain ⟨p1, p2⟩ := hpos _ hm
    have hia : iaddrA 2 (.rs nil sz (l.map cellsP) cap) (.v (.int .i64 j)) = some (.rp (cellsP l[j])) := iaddr_in hz (by simp [hlt]) rfl
    have hw : IntKind.wrap .i64 ((j : Int) + 1) = (j + 1 : Nat) := by rw [wrap_id] <;> omega
    have hcd : (cellsP l[j]).length = 2 := by simp [cellsP]
    have hc2 : (cellsP l[j]).take 2 = cellsP l[j] := by simp [cellsP]
    have hstep := kL.step hat l[j]
    have etk : l.take (j + 1) = l.take j ++ [l[j]] := by rw [List.take_add_one, List.getElem?_eq_getElem hlt]; rfl
    rw [← etk] at hstep
    simp [k0, k8, k1, k6, hlt, -iaddrA_rs, hia, hcd, hc2, -Prod.exists]
    refine WCall_p (f31 l[j] most at' p1 p2 hat hat2 _ _) ?_
    have fin : ∀ lo2, LowI most at' (l.take (j + 1)) lo2 → ∀ tm', tm' 0 = tm2 0 → tm' 1 = tm2 1 → tm' 5 = tm2 5 → tm' 6 = tm2 6 → tm' 7 = .v (.int .i64 lo2) → tm' 8 = .v (.int .i64 (j + 1 : Nat)) →
        ∃ q : Nat × Int, l.length - q.1 < l.length - j ∧ lowW l most at' (.rs nil sz (l.map cellsP) cap) (tm 5) hp2 nx2 q ⟨tm', hp2, nx2⟩ :=
      fun lo2 hL tm' a0 a1 a5 a6 a7 a8 => ⟨(j + 1, lo2), by simp only; omega, by simp only; omega, a0.trans k0, a1.trans k1, a5.trans k5, a6.trans k6, a7, a8, rfl, rfl, hL⟩
    by_cases q1 : 0 < leastI most at' l[j]
    · by_cases q2 : lo < 0
      · rw [if_pos ⟨q1, .inl q2⟩] at hstep
        simp [q1, q2, k7, k8, hw, -Prod.exists]
        exact fin _ hstep _ (by simp) (by simp) (by simp) (by simp) (by simp) (by simp)
      · by_cases q3 : leastI most at' l[j] < lo
        · rw [if_pos ⟨q1, .inr q3⟩] at hstep
          simp [q1, q2, q3, k7, k8, hw, -Prod.exists]
          exact fin _ hstep _ (by simp) (by simp) (by simp) (by simp) (by simp) (by simp)
        · rw [if_neg (fun h => h.2.elim q2 q3)] at hstep
          simp [q1, q2, q3, k7, k8, hw, -Prod.exists]
          exact fin _ hstep _ (by simp) (by simp) (by simp) (by simp) (by simp [k7]) (by simp)
    · rw [if_neg (fun h => q1 h.1)] at hstep
      simp [q1, k7, k8, hw, -Prod.exists]
      exact fin _ hstep _ (by simp) (by simp) (by simp) (by simp) (by simp [k7]) (by simp)
  · have : j = l.length := by omega
    subst this
    simp only [List.take_length] at kL
    simp [k0, k8, -Prod.exists]
    simp [c18_rrriiirr, k7, -Prod.exists]
    by_cases q2 : lo < 0
    · have e : lo = -1 := by rcases kL with ⟨e, _⟩ | ⟨e, _⟩ <;> omega
      subst e
      have hn := hD.norm (kL.none hat)
      simp [-Prod.exists]
      rw [← k5, hn] at hO
      obtain ⟨nil3, z3, cap3, h3, h4⟩ := frz_own (k := 4) hO (by simp)
      exact ⟨_, h3, nil3, z3, cap3, rfl, h4⟩
    · obtain ⟨s1, s2, s3, s4⟩ := kL.some hat q2
      simp [q2, -Prod.exists]
      simp only [mxN] at hat2
      refine f18b l hpos hl most lo nil sz cap hz out ⟨Int.le_refl _, s2, fun n g1 g2 => by rw [show n = lo by omega]; exact s3⟩ (by omega) (by omega) _ _ _ (by simp [k0]) (by simp [k1]) (by simp; rw [k5]; exact hO) (by simp [k7]) (by simp [k7]) (by simp) _ ?_
      intro hi tm' hp' nx' a1 a2 a3 a4 a5 a6
      have hh := a1.1
      simp [-Prod.exists]
      exact ⟨(hi, out ++ [(lo, hi)]), by have := a1.2.1; simp only at *; omega, a3.trans (by simp [k0]), a4.trans (by simp [k1]), a5, a6, hD.step s1 s4 a1 a2, by simp; omega⟩
end Go.Ai
