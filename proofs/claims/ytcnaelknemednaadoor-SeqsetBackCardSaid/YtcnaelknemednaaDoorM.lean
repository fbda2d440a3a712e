/- The set of some numbers, by the program. -/
import Derived.Test.YtcnaelknemednaaDoorL
namespace Go.Ai
set_option linter.unusedVariables false
set_option linter.unusedSimpArgs false

def ofS (ns : List Int) : List Sp := normS (ns.filterMap oneS) 0
def metR (ms : List Int) : Blk := ms.map fun n => [.v (.int .i64 n), .v (.bool true)]
theorem find_no {n : Int} : ∀ {ms : List Int}, n ∉ ms → findM .i (.v (.int .i64 n)) (metR ms) = some none
  | [], _ => rfl
  | m :: r, h => by
    have h1 : ¬ n = m := fun e => h (by simp [e])
    have h2 := find_no (n := n) (ms := r) (fun e => h (by simp [e]))
    simp only [metR, List.map_cons, findM, eqCell, if_true] at h2 ⊢
    simp only [h1, decide_false, h2]
theorem find_yes {n : Int} : ∀ {ms : List Int}, n ∈ ms → ∃ i, findM .i (.v (.int .i64 n)) (metR ms) = some (some (i, .v (.bool true)))
  | [], h => by simp at h
  | m :: r, h => by
    by_cases h1 : n = m
    · exact ⟨0, by simp [metR, findM, eqCell, h1]⟩
    · obtain ⟨i, h2⟩ := find_yes (n := n) (ms := r) (by simpa [h1] using h)
      refine ⟨i + 1, ?_⟩
      simp only [metR, List.map_cons, findM, eqCell, if_true] at h2 ⊢
      simp only [h1, decide_false, h2]
def twoS (n : Int) : Sp := (n, n)
theorem in_two {ms : List Int} {n : Int} : inS (ms.map twoS) n ↔ n ∈ ms := by
  simp only [inS, List.mem_map, twoS]
  constructor
  · rintro ⟨x, ⟨m, h, rfl⟩, h2, h3⟩
    rw [show n = m by simp only at h2 h3; omega]; exact h
  · intro h; exact ⟨(n, n), ⟨n, h, rfl⟩, Int.le_refl _, Int.le_refl _⟩
theorem in_of {ns : List Int} {n : Int} : inS (clL (ns.filterMap oneS) 0) n ↔ n ∈ ns ∧ 1 ≤ n ∧ n ≤ mxN := by
  rw [in_cl]
  constructor
  · rintro ⟨x, hx, a, b, h1, h2, h3⟩
    obtain ⟨m, hm, h⟩ := List.mem_filterMap.1 hx
    simp only [oneS] at h
    split at h
    · rename_i hc
      simp only [Option.some.injEq] at h; subst h
      obtain ⟨g1, g2, g3, g4⟩ := clip_some h1
      have e : endsS (m, m) 0 = (m, m, true) := by
        have : ¬ m = 0 := by omega
        simp [endsS, this]
      rw [e] at g2 g3
      simp only at g2 g3
      rw [show n = m by omega]
      exact ⟨hm, hc⟩
    · cases h
  · rintro ⟨h1, h2, h3⟩
    have e : endsS (n, n) 0 = (n, n, true) := by
      have : ¬ n = 0 := by omega
      simp [endsS, this]
    refine ⟨(n, n), List.mem_filterMap.2 ⟨n, h1, by simp [oneS, h2, h3]⟩, n, n, ?_, Int.le_refl _, Int.le_refl _⟩
    simp only [clipS, e]
    rw [if_pos ⟨trivial, by omega⟩]
    congr 1
    exact Prod.ext (by simp only; omega) (by simp only; omega)
theorem of_unique {ns ms : List Int} (h : ∀ n, n ∈ ms ↔ n ∈ ns ∧ 1 ≤ n ∧ n ≤ mxN) : joinL (srtS (ms.map twoS)) = ofS ns := by
  obtain ⟨h1, h2⟩ := joinL_ok (l := srtS (ms.map twoS)) (fun x hx => by
    obtain ⟨m, _, rfl⟩ := List.mem_map.1 (srt_mem.1 hx)
    exact Int.le_refl _) (srt_sorted _)
  obtain ⟨n1, n2⟩ := norm_ok (ns.filterMap oneS) 0
  refine gaps_unique h1 n1 fun n => ?_
  rw [h2 n, show ofS ns = normS (ns.filterMap oneS) 0 from rfl, n2 n, in_of, ← h n, ← in_two]
  simp only [inS, srt_mem]

abbrev ofI (ns : List Int) (xs : AV) (q : Nat × List Int) (s : St) : Prop :=
  q.1 ≤ ns.length ∧ s.tm 10 = .v (.int .i64 q.1) ∧ s.tm 9 = .v (.int .i64 ns.length) ∧ s.tm 8 = xs ∧ s.tm 4 = .mp 0 ∧ s.hp 0 = some (metR q.2) ∧ 0 < s.nx ∧ 0 ∉ slB (s.tm 3) ∧
      OwnN s.hp s.nx 2 ((q.2.map twoS).map cellsP) (s.tm 3) ∧ q.2.length ≤ q.1 ∧ ∀ n, n ∈ q.2 ↔ n ∈ ns.take q.1 ∧ 1 ≤ n ∧ n ≤ mxN
theorem f16 (ns : List Int) (x : AV) (hx : SlA 1 (ns.map kidC) x) (hl : ns.length ≤ 1000000) : ∃ v, SlA 2 ((ofS ns).map cellsP) v ∧ ∀ hp nx, Ret E 16 [x] hp nx v hp nx .p := by
  obtain ⟨nil, sz, cap, rfl, hz⟩ := hx
  refine Ret_pureE e16 rfl (by simp) ?_
  simp [c16]
  refine W_loopI (I := ofI ns (.rs nil sz (ns.map kidC) cap))
    (fun q => ns.length - q.1) (0, []) ⟨by simp, by simp, by simp, by simp, by simp, by simp [metR], by simp, by simp, by simpa using OwnN.nil, by simp, by simp⟩ ?_
  rintro ⟨j, ms⟩ tm hp nx ⟨hj, h10, h9, h8, h4, hM, hnx, h3, hO, hml, hms⟩
  simp only at hj h10 h9 h8 h4 hM hnx h3 hO hml hms
  by_cases hlt : j < ns.length
  · have hia : iaddrA 1 (.rs nil sz (ns.map kidC) cap) (.v (.int .i64 j)) = some (.rp (kidC ns[j])) := iaddr_in hz (by simp [hlt]) rfl
    have hw : IntKind.wrap .i64 ((j : Int) + 1) = (j + 1 : Nat) := by rw [wrap_id] <;> omega
    have htk : ∀ n, n ∈ ns.take (j + 1) ↔ n ∈ ns.take j ∨ n = ns[j] := by
      intro n
      rw [List.take_add_one, List.getElem?_eq_getElem hlt, List.mem_append]
      simp
    have skip : (¬ (1 ≤ ns[j] ∧ ns[j] ≤ mxN) ∨ ns[j] ∈ ms) → ∀ n, n ∈ ms ↔ n ∈ ns.take (j + 1) ∧ 1 ≤ n ∧ n ≤ mxN := by
      intro h n
      rw [htk, hms]
      constructor
      · rintro ⟨h1, h2⟩; exact ⟨.inl h1, h2⟩
      · rintro ⟨h1 | rfl, h2⟩
        · exact ⟨h1, h2⟩
        · exact h.elim (fun h => absurd h2 h) fun h => (hms _).1 h
    have more : 1 ≤ ns[j] → ns[j] ≤ mxN → ∀ n, n ∈ ms ++ [ns[j]] ↔ n ∈ ns.take (j + 1) ∧ 1 ≤ n ∧ n ≤ mxN := by
      intro h1 h2 n
      rw [htk, List.mem_append, hms, List.mem_singleton]
      constructor
      · rintro (⟨h3, h4⟩ | rfl)
        · exact ⟨.inl h3, h4⟩
        · exact ⟨.inr rfl, h1, h2⟩
      · rintro ⟨h3 | rfl, h4⟩
        · exact .inl ⟨h3, h4⟩
        · exact .inr rfl
    generalize ns[j] = n at *
    by_cases q1 : 1 ≤ n
    · by_cases q2 : n ≤ 4294967295
      · by_cases q3 : n ∈ ms
        · obtain ⟨i, hf⟩ := find_yes q3
          simp [h10, h9, h8, h4, hM, hf, hlt, -iaddrA_rs, hia, kidC, q1, q2, hw, -Prod.exists]
          exact ⟨(j + 1, ms), by simp only; omega, by simp only; omega, by simp, by simp [h9], by simp [h8], by simp [h4], hM, hnx, by simpa using h3, by simpa using hO, by simp only; omega, skip (.inr q3)⟩
        · have hf := find_no q3
          simp [h10, h9, h8, h4, hM, hf, hlt, -iaddrA_rs, hia, kidC, q1, q2, spliceL, -Prod.exists]
          have hk0 : ∀ r, r ∈ slB (tm 3) → ¬ r = 0 := fun r hr e => h3 (e ▸ hr)
          have hO2 : OwnN (hupd hp 0 (some (metR ms ++ [[.v (.int .i64 n), .v (.bool true)]]))) nx 2 ((ms.map twoS).map cellsP) (tm 3) := hO.keep (Nat.le_refl _) (fun r _ hr => by simp [hk0 r hr])
          simp only [List.map_map] at hO2
          refine mvE_app hO2.own (by simp) (by simp; omega) ?_
          intro hp2 hn hk
          simp [hw, h10, h9, h8, h4, -Prod.exists]
          refine ⟨(j + 1, ms ++ [n]), by simp only; omega, by simp only; omega, by simp, by simp [h9], by simp [h8], by simp [h4], ?_, by simp, by simp; omega, .inr ⟨nx, by simp, by simp, ?_, by simp⟩, by simp; omega, more q1 q2⟩
          · simp only; rw [hk 0 (by omega) h3]; simp [metR]
          · simp only; rw [hn]; simp [cellsP, twoS]
      · simp [h10, h9, h8, hlt, -iaddrA_rs, hia, kidC, q1, q2, hw, -Prod.exists]
        exact ⟨(j + 1, ms), by simp only; omega, by simp only; omega, by simp, by simp [h9], by simp [h8], by simp [h4], hM, hnx, by simpa using h3, by simpa using hO, by simp only; omega, skip (.inl fun h => q2 h.2)⟩
    · simp [h10, h9, h8, hlt, -iaddrA_rs, hia, kidC, q1, hw, -Prod.exists]
      exact ⟨(j + 1, ms), by simp only; omega, by simp only; omega, by simp, by simp [h9], by simp [h8], by simp [h4], hM, hnx, by simpa using h3, by simpa using hO, by simp only; omega, skip (.inl fun h => q1 h.1)⟩
  · have : j = ns.length := by omega
    subst this
    simp only [List.take_length] at hms
    simp [h10, h9]
    obtain ⟨v, hp', nx', c1, c2⟩ := f27 (ms.map twoS) (tm 3) hp nx hO (by simp; omega) (fun y hy => by
      obtain ⟨m, hm, rfl⟩ := List.mem_map.1 hy
      exact ((hms m).1 hm).2)
    rw [of_unique hms] at c2
    refine WCall_k c1 ?_
    simp
    obtain ⟨nil3, z3, cap3, g3, g4⟩ := frz_own (k := 4) c2.own (by simp)
    exact ⟨_, g3, nil3, z3, cap3, rfl, g4⟩
end Go.Ai
