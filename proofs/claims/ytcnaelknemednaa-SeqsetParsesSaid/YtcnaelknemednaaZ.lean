/- The statement SeqsetOne: the walk. -/
import Derived.Test.YtcnaelknemednaaY
namespace Go.Ai
set_option linter.unusedVariables false
set_option linter.unusedSimpArgs false

theorem f6b (l : List Sp) (hl : l.length ≤ 300) (ns : List Int) (hn : ns.length ≤ 300) (most : Int) (x v1 v2 y : AV) (hx : SlA 2 (l.map cellsP) x) (hv1 : SlA 2 ((normS l most).map cellsP) v1) (hv : SlA 2 ((ofS ns).map cellsP) v2) (hy : SlA 1 (ns.map kidC) y)
    (tm : Nat → AV) (t0 : tm 0 = x) (t1 : tm 1 = .v (.int .i64 most)) (t2 : tm 2 = y) (t8 : tm 8 = v1) (t9 : tm 9 = v2) :
    W (Ret E) c6_rrrrr (pureQ [.t 6] (.v (.bool true))) ⟨tm, hnil, 0⟩ := by
  have n1 := norm_len l most
  have hol : (ofS ns).length ≤ 300 := by
    have n2 := norm_len (ns.filterMap oneS) 0
    have n3 := filterMap_len oneS ns
    simp only [ofS]; omega
  have hyl : lenA y = some (.v (.int .i64 ns.length)) := by obtain ⟨nil2, sz2, cap2, rfl, hz2⟩ := hy; simp
  have hiy : ∀ j (h : j < ns.length), iaddrA 1 y (.v (.int .i64 j)) = some (.rp (kidC ns[j])) := by
    obtain ⟨nil2, sz2, cap2, rfl, hz2⟩ := hy
    exact fun j h => iaddr_in hz2 (by simp [h]) rfl
  simp [c6_rrrrr, t2, hyl]
  refine W_loopI (I := fun (j : Nat) s => j ≤ ns.length ∧ s.tm 70 = .v (.int .i64 j) ∧ s.tm 69 = .v (.int .i64 ns.length) ∧ s.tm 68 = y ∧ s.tm 0 = x ∧ s.tm 1 = .v (.int .i64 most) ∧ s.tm 2 = y ∧ s.tm 8 = v1 ∧ s.tm 9 = v2 ∧ s.hp = hnil ∧ s.nx = 0) (fun j => ns.length - j) 0 (by simp [t0, t1, t2, t8, t9]) ?_
  rintro j tm hp nx ⟨hj, h70, h69, h68, h0, h1, h2, h8, h9, rfl, rfl⟩
  simp only at h70 h69 h68 h0 h1 h2 h8 h9
  by_cases hlt : j < ns.length
  · have hia := hiy j hlt
    have hm : ns[j] ∈ ns := List.getElem_mem hlt
    have hw : IntKind.wrap .i64 ((j : Int) + 1) = (j + 1 : Nat) := by rw [wrap_id] <;> omega
    have ho := has_of hm
    generalize ns[j] = n at *
    have c1 := f15 (normS l most) v1 hv1 (by omega) n 0
    have c2 := f15 l x hx (by omega) n most
    have c3 := f15 (ofS ns) v2 hv (by omega) n 0
    rw [ho] at c3
    by_cases q2 : n ≤ 4294967295
    · rw [has_norm l most n q2] at c1
      simp [h70, h69, h68, h0, h1, h2, h8, h9, hlt, -iaddrA_rs, hia, kidC, q2]
      refine WCall_p (c1 _ _) ?_
      simp [h0, h1]
      refine WCall_p (c2 _ _) ?_
      simp [h9]
      refine WCall_p (c3 _ _) ?_
      by_cases q1 : 1 ≤ n
      · simp [q1, q2, h70, h69, h68, h0, h1, h2, h8, h9, hw]
        exact ⟨j + 1, by omega, by omega, by simp⟩
      · simp [q1, q2, h70, h69, h68, h0, h1, h2, h8, h9, hw]
        exact ⟨j + 1, by omega, by omega, by simp⟩
    · simp [h70, h69, h68, h0, h1, h2, h8, h9, hlt, -iaddrA_rs, hia, kidC, q2]
      refine WCall_p (c3 _ _) ?_
      by_cases q1 : 1 ≤ n
      · simp [q1, q2, h70, h69, h68, h0, h1, h2, h8, h9, hw]
        exact ⟨j + 1, by omega, by omega, by simp⟩
      · simp [q1, q2, h70, h69, h68, h0, h1, h2, h8, h9, hw]
        exact ⟨j + 1, by omega, by omega, by simp⟩
  · have : j = ns.length := by omega
    subst this
    simp [h70, h69]
    exact f6c ns hn v2 y hv hy _ (by simp [h9]) (by simp [h2])

theorem f6 (l : List Sp) (x : AV) (hx : SlA 2 (l.map cellsP) x) (am : List Int) (y : AV) (hy : SlA 1 (am.map kidC) y) (most : Int) (hp nx) : Ret E 6 [x, .v (.int .i64 most), y] hp nx (.v (.bool true)) hp nx .p := by
  obtain ⟨nil, sz, cap, rfl, hz⟩ := id hx
  obtain ⟨nil2, sz2, cap2, rfl, hz2⟩ := id hy
  refine Ret_pureQ e6 rfl (by simp) ?_ hp nx
  by_cases k1 : 300 < l.length
  · have k1' : (300 : Int) < l.length := by omega
    simp [c6, k1']
    exact WCall_p (f7 _ _) (by simp)
  · have k1' : ¬ (300 : Int) < l.length := by omega
    by_cases k2 : 300 < am.length
    · have k2' : (300 : Int) < am.length := by omega
      simp [c6, k1', k2']
      exact WCall_p (f7 _ _) (by simp)
    · have k2' : ¬ (300 : Int) < am.length := by omega
      simp [c6, k1', k2']
      refine W_loopI (I := fun (j : Nat) s => j ≤ l.length ∧ s.tm 29 = .v (.int .i64 j) ∧ s.tm 28 = .v (.int .i64 l.length) ∧ s.tm 2 = .rs nil2 sz2 (am.map kidC) cap2 ∧ s.tm 0 = .rs nil sz (l.map cellsP) cap ∧ s.tm 1 = .v (.int .i64 most) ∧ s.hp = hnil ∧ s.nx = 0 ∧ ∀ z ∈ l.take j, 0 ≤ z.1 ∧ 0 ≤ z.2) (fun j => l.length - j) 0 (by simp) ?_
      rintro j tm hp nx ⟨hj, h19, h18, h2, h0, h1, rfl, rfl, hpos⟩
      simp only at h19 h18 h2 h0 h1
      by_cases hlt : j < l.length
      · have hia : iaddrA 2 (.rs nil sz (l.map cellsP) cap) (.v (.int .i64 j)) = some (.rp (cellsP l[j])) := iaddr_in hz (by simp [hlt]) rfl
        have hw : IntKind.wrap .i64 ((j : Int) + 1) = (j + 1 : Nat) := by rw [wrap_id] <;> omega
        have htk : ∀ z ∈ l.take (j + 1), z ∈ l.take j ∨ z = l[j] := by
          intro z hz
          rw [List.take_add_one, List.getElem?_eq_getElem hlt] at hz
          rcases List.mem_append.1 hz with hz | hz
          · exact .inl hz
          · exact .inr (by simpa using hz)
        obtain ⟨a, b, hab⟩ : ∃ a b, l[j] = (a, b) := ⟨_, _, rfl⟩
        rw [hab] at hia htk
        by_cases q1 : a < 0
        · simp [h19, h18, h0, hlt, -iaddrA_rs, hia, cellsP, q1]
          exact WCall_p (f7 _ _) (by simp)
        · by_cases q2 : b < 0
          · simp [h19, h18, h0, hlt, -iaddrA_rs, hia, cellsP, q1, q2]
            exact WCall_p (f7 _ _) (by simp)
          · simp [h19, h18, h0, hlt, -iaddrA_rs, hia, cellsP, q1, q2, hw]
            refine ⟨j + 1, by omega, by omega, by simp, h2, h1, fun u w hz => ?_⟩
            rcases htk (u, w) hz with h | h
            · exact hpos (u, w) h
            · cases h; exact ⟨by omega, by omega⟩
      · have : j = l.length := by omega
        subst this
        obtain ⟨v1, a1, b1⟩ := f17 l _ hx (by omega) most
        obtain ⟨v2, a2, b2⟩ := f19 am _ hy (by omega)
        have n1 := norm_len l most
        have hol : (ofS am).length ≤ 300 := by
          have n2 := norm_len (am.filterMap oneS) 0
          have n3 := filterMap_len oneS am
          simp only [ofS]; omega
        obtain ⟨v3, a3, b3⟩ := f17 (normS l most) v1 a1 (by omega) 0
        rw [norm_again] at a3
        have b4 := f10 _ _ v3 v1 a3 a1 (by omega) (by omega)
        simp only [decide_true] at b4
        have r1 := f21 (normS l most) v1 a1 (by omega) (norm_ok l most).1 norm_b
        have r2 := f21 (ofS am) v2 a2 (by omega) (norm_ok (am.filterMap oneS) 0).1 (norm_b (l := am.filterMap oneS) (most := 0))
        simp [h19, h18]
        simp [c6_rrr, h0, h1, h2]
        refine WCall_p (b1 _ _) ?_
        simp [h0, h1, h2]
        refine WCall_p (b2 _ _) ?_
        simp
        refine WCall_p (r1 _ _) ?_
        simp
        refine WCall_p (r2 _ _) ?_
        simp
        refine WCall_p (b3 _ _) ?_
        simp
        refine WCall_p (b4 _ _) ?_
        simp
        exact f6b l (by omega) am (by omega) most _ v1 v2 _ hx a1 a2 hy _ (by simp [h0]) (by simp [h1]) (by simp [h2]) (by simp) (by simp)
end Go.Ai
