/- The statement SeqsetOne. -/
import Derived.Test.YtcnaelknemednaaX
namespace Go.Ai
set_option linter.unusedVariables false
set_option linter.unusedSimpArgs false

abbrev cntI (ns : List Int) (v2 y : AV) (q : Nat × List Int) (s : St) : Prop :=
  q.1 ≤ (ofS ns).length ∧ s.tm 99 = .v (.int .i64 q.1) ∧ s.tm 98 = .v (.int .i64 (ofS ns).length) ∧ s.tm 9 = v2 ∧ s.tm 2 = y ∧ s.tm 12 = .v (.int .i64 q.2.length) ∧ s.hp = hnil ∧ s.nx = 0 ∧
  (∀ m ∈ q.2, m ∈ ns) ∧ q.2.Nodup ∧ ∀ m ∈ q.2, ∀ z ∈ (ofS ns).drop q.1, m < z.1
abbrev stepI (ns : List Int) (v2 y : AV) (j : Nat) (a b : Int) (q : Int × List Int) (s : St) : Prop :=
  a ≤ q.1 ∧ q.1 ≤ b + 1 ∧ s.tm 99 = .v (.int .i64 j) ∧ s.tm 13 = .v (.int .i64 j) ∧ s.tm 98 = .v (.int .i64 (ofS ns).length) ∧ s.tm 9 = v2 ∧ s.tm 2 = y ∧ s.tm 12 = .v (.int .i64 q.2.length) ∧ s.tm 14 = .v (.int .i64 q.1) ∧ s.hp = hnil ∧ s.nx = 0 ∧
  (∀ m ∈ q.2, m ∈ ns) ∧ q.2.Nodup ∧ ∀ m ∈ q.2, m < q.1
abbrev metI (ns : List Int) (v2 y : AV) (j : Nat) (k : Int) (c : Nat) (i : Nat) (s : St) : Prop :=
  i ≤ ns.length ∧ s.tm 99 = .v (.int .i64 j) ∧ s.tm 13 = .v (.int .i64 j) ∧ s.tm 98 = .v (.int .i64 (ofS ns).length) ∧ s.tm 9 = v2 ∧ s.tm 2 = y ∧ s.tm 12 = .v (.int .i64 c) ∧ s.tm 14 = .v (.int .i64 k) ∧ s.hp = hnil ∧ s.nx = 0 ∧
  s.tm 122 = y ∧ s.tm 123 = .v (.int .i64 ns.length) ∧ s.tm 124 = .v (.int .i64 i) ∧ s.tm 15 = .v (.bool ((ns.take i).any fun n => decide (n = k)))

theorem f6c (ns : List Int) (hn : ns.length ≤ 300) (v2 y : AV) (hv : SlA 2 ((ofS ns).map cellsP) v2) (hy : SlA 1 (ns.map kidC) y) (tm : Nat → AV) (t9 : tm 9 = v2) (t2 : tm 2 = y) :
    W (Ret E) c6_rrrrrr (pureQ [.t 6] (.v (.bool true))) ⟨tm, hnil, 0⟩ := by
  obtain ⟨nil, sz, cap, rfl, hz⟩ := hv
  obtain ⟨nil2, sz2, cap2, rfl, hz2⟩ := hy
  have hb : ∀ z ∈ ofS ns, 1 ≤ z.1 ∧ z.1 ≤ z.2 ∧ z.2 ≤ mxN := norm_b (l := ns.filterMap oneS) (most := 0)
  have hg : Gaps (ofS ns) := (norm_ok (ns.filterMap oneS) 0).1
  have hin : ∀ k, inS (ofS ns) k → k ∈ ns := fun k h => in_of_ns h
  have hol : (ofS ns).length ≤ 300 := by
    have n2 := norm_len (ns.filterMap oneS) 0
    have n3 := filterMap_len oneS ns
    simp only [ofS]; omega
  simp [c6_rrrrrr, t9]
  refine W_loopI (I := cntI ns (.rs nil sz ((ofS ns).map cellsP) cap) (.rs nil2 sz2 (ns.map kidC) cap2)) (fun q => (ofS ns).length - q.1) (0, []) ⟨by simp, by simp, by simp, by simp [t9], by simp [t2], by simp, rfl, rfl, by simp, by simp, by simp⟩ ?_
  rintro ⟨j, K⟩ tm hp nx ⟨hj, h99, h98, h9, h2, h12, rfl, rfl, hK, hN, hlt⟩
  simp only at hj h99 h98 h9 h2 h12 hK hN hlt
  by_cases hjl : j < (ofS ns).length
  · have hia : iaddrA 2 (.rs nil sz ((ofS ns).map cellsP) cap) (.v (.int .i64 j)) = some (.rp (cellsP (ofS ns)[j])) := iaddr_in hz (by simp [hjl]) rfl
    have hm : (ofS ns)[j] ∈ ofS ns := List.getElem_mem hjl
    obtain ⟨b1, b2, b3⟩ := hb _ hm
    have hdr : (ofS ns).drop j = (ofS ns)[j] :: (ofS ns).drop (j + 1) := List.drop_eq_getElem_cons hjl
    have hgd : Gaps ((ofS ns).drop j) := by
      have : ∀ (n : Nat) (l : List Sp), Gaps l → Gaps (l.drop n) := by
        intro n
        induction n with
        | zero => intro l h; exact h
        | succ n ih => intro l h; cases l with
          | nil => exact h
          | cons x r => exact ih r h.tail
      exact this j _ hg
    rw [hdr] at hgd hlt
    have hab := hgd.above
    have hlt2 : ∀ m ∈ K, m < (ofS ns)[j].1 := fun m hm => hlt m hm _ List.mem_cons_self
    have hin2 : ∀ k, (ofS ns)[j].1 ≤ k → k ≤ (ofS ns)[j].2 → k ∈ ns := fun k h1 h2 => hin k ⟨_, hm, h1, h2⟩
    simp only [mxN] at b3
    obtain ⟨a, b, hab2⟩ : ∃ a b, (ofS ns)[j] = (a, b) := ⟨_, _, rfl⟩
    rw [hab2] at hia b1 b2 b3 hab hlt2 hin2
    simp only at b1 b2 b3 hab hlt2 hin2
    have hw : IntKind.wrap .i64 ((j : Int) + 1) = (j + 1 : Nat) := by rw [wrap_id] <;> omega
    simp [h99, h98, h9, h2, h12, hjl, -iaddrA_rs, hia, cellsP, -Prod.exists]
    refine W_loopI (I := stepI ns (.rs nil sz ((ofS ns).map cellsP) cap) (.rs nil2 sz2 (ns.map kidC) cap2) j a b) (fun q => (b + 1 - q.1).toNat) (a, K)
      ⟨by simp, by simp only; omega, by simp [h99], by simp, by simp [h98], by simp [h9], by simp [h2], by simp [h12], by simp, rfl, rfl, hK, hN, hlt2⟩ ?_
    rintro ⟨k, K2⟩ tm2 hp2 nx2 ⟨c1, c2, g99, g13, g98, g9, g2, g12, g14, rfl, rfl, gK, gN, glt⟩
    simp only at c1 c2 g99 g13 g98 g9 g2 g12 g14 gK gN glt
    have hcl := nodup_len gN gK
    have hcl2 : (K2.length : Int) ≤ 300 := by omega
    by_cases hkb : k ≤ b
    · have hkn : k ∈ ns := hin2 k c1 hkb
      have hw2 : IntKind.wrap .i64 ((K2.length : Int) + 1) = (K2.length + 1 : Nat) := by rw [wrap_id] <;> omega
      have hw3 : IntKind.wrap .i64 (k + 1) = k + 1 := by rw [wrap_id] <;> omega
      simp [g99, g13, g98, g9, g2, g12, g14, -iaddrA_rs, hia, cellsP, hkb, hcl2, hw2, -Prod.exists]
      refine W_loopI (I := metI ns (.rs nil sz ((ofS ns).map cellsP) cap) (.rs nil2 sz2 (ns.map kidC) cap2) j k (K2.length + 1)) (fun i => ns.length - i) 0
        ⟨by simp, by simp [g99], by simp [g13], by simp [g98], by simp [g9], by simp [g2], by simp, by simp [g14], rfl, rfl, by simp, by simp, by simp, by simp⟩ ?_
      rintro i tm3 hp3 nx3 ⟨d1, d99, d13, d98, d9, d2, d12, d14, rfl, rfl, d122, d123, d124, d15⟩
      simp only at d1 d99 d13 d98 d9 d2 d12 d14 d122 d123 d124 d15
      by_cases hil : i < ns.length
      · have hib : iaddrA 1 (.rs nil2 sz2 (ns.map kidC) cap2) (.v (.int .i64 i)) = some (.rp (kidC ns[i])) := iaddr_in hz2 (by simp [hil]) rfl
        have hwi : IntKind.wrap .i64 ((i : Int) + 1) = (i + 1 : Nat) := by rw [wrap_id] <;> omega
        have htk : ((ns.take (i + 1)).any fun n => decide (n = k)) = (((ns.take i).any fun n => decide (n = k)) || decide (ns[i] = k)) := by
          rw [List.take_add_one, List.getElem?_eq_getElem hil, List.any_append]; simp
        generalize ns[i] = n at *
        cases hany : (ns.take i).any fun n => decide (n = k) with
        | true =>
          rw [hany] at d15 htk
          simp [d122, d123, d124, d15, hil, -iaddrA_rs, hib, kidC, hwi]
          exact ⟨i + 1, by omega, by omega, by simp [d99], by simp [d13], by simp [d98], by simp [d9], by simp [d2], by simp [d12], by simp [d14], rfl, rfl, by simp [d122], by simp [d123], by simp, by simp [htk]⟩
        | false =>
          rw [hany] at d15 htk
          simp [d122, d123, d124, d15, d14, hil, -iaddrA_rs, hib, kidC, hwi]
          exact ⟨i + 1, by omega, by omega, by simp [d99], by simp [d13], by simp [d98], by simp [d9], by simp [d2], by simp [d12], by simp [d14], rfl, rfl, by simp [d122], by simp [d123], by simp, by simp [htk]⟩
      · have : i = ns.length := by omega
        subst this
        have hany : ((ns.take ns.length).any fun n => decide (n = k)) = true := by
          rw [List.take_length, List.any_eq_true]
          exact ⟨k, hkn, by simp⟩
        rw [hany] at d15
        simp [d123, d124, d15, d14, hw3, -Prod.exists]
        exact ⟨(k + 1, K2 ++ [k]), by simp only; omega, by simp only; omega, by simp only; omega, by simp [d99], by simp [d13], by simp [d98], by simp [d9], by simp [d2], by simp [d12], by simp, rfl, rfl,
          fun m hm => (List.mem_append.1 hm).elim (gK m) fun h => by rw [List.mem_singleton.1 h]; exact hkn,
          List.nodup_append.2 ⟨gN, by simp, fun m hm x hx e => by
            have := glt m hm
            rw [List.mem_singleton.1 hx] at e
            omega⟩,
          fun m hm => (List.mem_append.1 hm).elim (fun h => by have := glt m h; simp only; omega) fun h => by rw [List.mem_singleton.1 h]; simp only; omega⟩
    · simp [g99, g13, g98, g9, g2, g12, g14, -iaddrA_rs, hia, cellsP, hkb, hw, -Prod.exists]
      exact ⟨(j + 1, K2), by simp only; omega, by simp only; omega, by simp, by simp [g98], by simp [g9], by simp [g2], by simp [g12], rfl, rfl, gK, gN, fun m hm z hz => by
        have h1 := glt m hm
        have h2 := hab z hz
        omega⟩
  · have : j = (ofS ns).length := by omega
    subst this
    have hcl := nodup_len hN hK
    have hcl2 : (K.length : Int) ≤ ns.length := by omega
    simp [h99, h98, c6_rrrrrrrr, h12, h2, hcl2]
    exact WCall_p (f7 _ _) (by simp)
end Go.Ai
