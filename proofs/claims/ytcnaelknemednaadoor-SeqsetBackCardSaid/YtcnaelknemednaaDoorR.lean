/- Reading a set: a span; all of it, by the program. -/
import Derived.Test.YtcnaelknemednaaDoorO
namespace Go.Ai
set_option linter.unusedVariables false
set_option linter.unusedSimpArgs false

theorem numP_len {s rest : List UInt8} {n : Int} (h : numP s = some (n, rest)) : rest.length < s.length := by
  cases s with
  | nil => simp [numP] at h
  | cons c r =>
    simp only [numP] at h
    split at h
    · cases h; simp
    · split at h
      · cases h
      · rename_i hc
        simp only [Option.some.injEq, Prod.mk.injEq] at h
        obtain ⟨_, rfl⟩ := h
        have e := congrArg List.length (List.takeWhile_append_dropWhile (p := isDig) (l := c :: r))
        have : 0 < ((c :: r).takeWhile isDig).length := List.length_pos_iff.2 (fun e => hc (.inl e))
        rw [List.length_append] at e
        omega
theorem spanP_len {s rest : List UInt8} {x : Sp} (h : spanP s = some (x, rest)) : rest.length < s.length := by
  simp only [spanP] at h
  split at h
  · cases h
  · rename_i n r hn
    have h1 := numP_len hn
    split at h
    · cases h; simpa using h1
    · split at h
      · split at h
        · cases h
        · rename_i m r2 hm
          have h2 := numP_len hm
          cases h; simp at h1; omega
      · cases h; exact h1

abbrev spanRes (hp : Heap) (nx r : Nat) (g : Bool) (s : List UInt8) (v : AV) (hp' : Heap) (nx' : Nat) : Prop :=
  nx ≤ nx' ∧ (∀ q, q < nx → q ≠ r → hp' q = hp q) ∧ match spanP s with
  | none => ∃ x : Sp, v = .tup [.agg (cellsP x), .v (.bool false)]
  | some (x, rest) => v = .tup [.agg (cellsP x), .v (.bool true)] ∧ hp' r = some [[.str rest, .v (.bool (g || grS x))]]

theorem f23 (s : List UInt8) (hs : s.length ≤ 1000000) (g : Bool) (hp : Heap) (nx r : Nat) (hr : r < nx) (h : hp r = some [[.str s, .v (.bool g)]]) :
    ∃ v hp' nx', Ret E 23 [.ptr r 0 0] hp nx v hp' nx' .e ∧ spanRes hp nx r g s v hp' nx' := by
  refine Ret_genE e23 rfl ?_
  have hrn : ¬ r = nx := by omega
  have hnr : ¬ nx = r := by omega
  have hfr : ∀ q, q < nx → ¬ q = nx := fun q h => by omega
  simp only [c23]
  obtain ⟨v1, hp1, c1, n1⟩ := f33 s hs g (hupd hp nx (some [[.v (.int .i64 0), .v (.int .i64 0)]])) (nx + 1) r (by simp [hrn, h])
  cases hN : numP s with
  | none =>
    simp only [numRes, hN] at n1
    obtain ⟨rfl, rfl⟩ := n1
    simp [hnr]
    refine WCall_k c1 ?_
    simp [spliceL]
    refine ⟨by omega, fun q h1 h2 => by simp [hfr q h1], ?_⟩
    simp only [spanP, hN]
    exact ⟨(0, 0), by simp [cellsP]⟩
  | some p =>
    obtain ⟨n, rest⟩ := p
    simp only [numRes, hN] at n1
    obtain ⟨rfl, n2, n3⟩ := n1
    have hl := numP_len hN
    have e1 : hp1 nx = some [[.v (.int .i64 0), .v (.int .i64 0)]] := by rw [n3 nx hnr]; simp
    have c24' := f24 58 rest (by omega) _ hp1 (nx + 1) r n2
    rw [show (((58 : UInt8).toNat : Nat) : Int) = 58 from rfl] at c24'
    simp
    refine WCall_k c1 ?_
    cases hst : isP 58 rest with
    | false =>
      rw [hst] at c24'
      simp only [Bool.false_eq_true, if_false] at c24'
      simp
      refine WCall_k c24' ?_
      simp [e1, spliceL]
      refine ⟨by omega, fun q h1 h2 => by simp [hfr q h1, n3 q h2], ?_⟩
      have hS : spanP s = some ((n, n), rest) := by
        simp only [spanP, hN]
        cases rest with
        | nil => rfl
        | cons c r' =>
          have : ¬ c = 58 := by simpa [isP] using hst
          simp [this]
      simp only [hS]
      exact ⟨by simp [cellsP], by simp [hrn, n2, grS]⟩
    | true =>
      rw [hst] at c24'
      simp only [if_true] at c24'
      cases rest with
      | nil => simp [isP] at hst
      | cons c r' =>
        have hc : c = 58 := by simpa [isP] using hst
        subst hc
        simp only [List.drop_succ_cons, List.drop_zero, List.length_cons] at c24' hl
        simp
        refine WCall_k c24' ?_
        obtain ⟨v2, hp2, c2, m1⟩ := f33 r' (by omega) (g || decide (4294967295 < n)) (hupd hp1 r (some [[.str r', .v (.bool (g || decide (4294967295 < n)))]])) (nx + 1) r (by simp)
        simp
        cases hM : numP r' with
        | none =>
          simp only [numRes, hM] at m1
          obtain ⟨rfl, rfl⟩ := m1
          refine WCall_k c2 ?_
          simp [e1, hnr, spliceL]
          refine ⟨by omega, fun q h1 h2 => by simp [hfr q h1, h2, n3 q h2], ?_⟩
          have hS : spanP s = none := by simp [spanP, hN, hM]
          simp only [hS]
          exact ⟨(n, 0), by simp [cellsP]⟩
        | some p =>
          obtain ⟨m, rest2⟩ := p
          simp only [numRes, hM] at m1
          obtain ⟨rfl, m2, m3⟩ := m1
          have e2 : hp2 nx = some [[.v (.int .i64 0), .v (.int .i64 0)]] := by rw [m3 nx hnr]; simp [hnr, e1]
          refine WCall_k c2 ?_
          simp [e2, spliceL]
          refine ⟨by omega, fun q h1 h2 => by simp [hfr q h1, h2, m3 q h2, n3 q h2], ?_⟩
          have hS : spanP s = some ((n, m), rest2) := by simp [spanP, hN, hM]
          simp only [hS]
          exact ⟨by simp [cellsP], by simp [hrn, m2, grS, Bool.or_assoc]⟩

/-- Set or none, and the error's number. -/
abbrev parI (s0 : List UInt8) (r : Nat) (q : Nat × List UInt8 × List Sp) (s : St) : Prop :=
  q.2.1.length < q.1 ∧ runP q.1 q.2.1 q.2.2 = runP (s0.length + 1) s0 [] ∧ q.2.2.length + q.2.1.length ≤ s0.length ∧ s.tm 4 = .ptr 0 0 0 ∧ s.hp 0 = some [[.str q.2.1, .v (.bool (q.2.2.any grS))]] ∧ 0 < s.nx ∧ OwnS s.hp s.nx 2 (q.2.2.map cellsP) (s.tm 5) ∧ 0 ∉ slB (s.tm 5)

/-- Spans, and an error's number. -/
def ParA (p : List Sp × Int) (v : AV) : Prop := ∃ y, v = .tup [y, .v (.int .i64 p.2)] ∧ SlA 2 (p.1.map cellsP) y

theorem f11 (s0 : List UInt8) (hs : s0.length ≤ 100000) : ∃ v, ParA (parP s0) v ∧ ∀ hp nx, Ret E 11 [.str s0] hp nx v hp nx .p := by
  refine Ret_pureE e11 rfl (by simp) ?_
  have nilA : ∀ n : Int, ParA ([], n) (.tup [.rs true 0 [] (some 0), .v (.int .i64 n)]) := fun n => ⟨_, rfl, true, 0, some 0, rfl, .inl rfl, fun _ => rfl⟩
  simp [c11, spliceL]
  refine W_loopI (I := parI s0 0) (fun q => q.2.1.length) (s0.length + 1, s0, []) ⟨by simp, rfl, by simp, by simp, by simp, by simp, by simpa using OwnS.nil, by simp⟩ ?_
  rintro ⟨k, s, out⟩ tm hp nx ⟨hk, hrun, hlen, t4, h0, hnx, hO, hn0⟩
  simp only at hk hrun hlen t4 h0 hnx hO hn0
  obtain ⟨v1, hp1, nx1, c1, m1, m2, m3⟩ := f23 s (by omega) (out.any grS) hp nx 0 hnx h0
  obtain ⟨k, rfl⟩ : ∃ k', k = k' + 1 := ⟨k - 1, by omega⟩
  generalize hR : runP (s0.length + 1) s0 [] = R0 at hrun
  have hpar : parP s0 = parF R0 := by rw [parP, hR]
  rw [runP] at hrun
  simp [t4, -Prod.exists]
  refine WCall_k c1 ?_
  cases hS : spanP s with
  | none =>
    simp only [hS] at m3 hrun
    obtain ⟨x, rfl⟩ := m3
    subst hrun
    simp [cellsP, spliceL, -Prod.exists, frz_closed]
    exact hpar ▸ nilA 11
  | some p =>
    obtain ⟨x, rest⟩ := p
    simp only [hS] at m3 hrun
    obtain ⟨rfl, g0⟩ := m3
    have hl := spanP_len hS
    have hO2 : ∀ hp', (∀ q, q ∈ slB (tm 5) → hp' q = hp q) → OwnS hp' (nx1 + 1) 2 (out.map cellsP) (tm 5) := fun hp' h => hO.keep (by omega) h
    have hlt := hO.lt
    have hx0 : ¬ 0 = nx1 := by omega
    have hq0 : ∀ q, q ∈ slB (tm 5) → ¬ q = 0 := fun q hq e => hn0 (e ▸ hq)
    simp [cellsP, spliceL, -Prod.exists]
    refine mvE_app (hO2 _ (fun q hq => by
      have := hlt q hq
      have := hq0 q hq
      have : ¬ q = nx1 := by omega
      simp [this]
      exact m2 q (by omega) (by assumption))) (by simp) (by simp; omega) ?_
    intro hp3 hn hkeep
    have g1 : hp3 0 = some [[.str rest, .v (.bool (out.any grS || grS x))]] := by
      rw [hkeep 0 (by omega) hn0]; simp [hx0, g0]
    simp [t4, g1, -Prod.exists]
    cases rest with
    | nil =>
      simp only at hrun
      have hany : (out ++ [x]).any grS = (out.any grS || grS x) := by simp
      subst hrun
      simp only [parF, hany] at hpar
      simp [t4, g1, -Prod.exists]
      cases hg : (out.any grS || grS x) with
      | true =>
        rw [hg] at hpar g1
        simp [hg, frz_closed]
        simp only [if_true] at hpar; rw [hpar]; exact nilA 3
      | false =>
        rw [hg] at hpar g1
        have hO3 : OwnS hp3 (nx1 + 1 + 1) 2 ((out ++ [x]).map cellsP) (.sl (nx1 + 1) 2 0 (out.length + 1) none) := .inr ⟨nx1 + 1, by omega, by simp, by rw [hn]; simp [cellsP]⟩
        by_cases hle : 1000 < (out ++ [x]).length
        · have hle2 : (1000 : Int) < (out.length : Int) + 1 := by simp at hle; omega
          simp [hg, hle2, frz_closed]
          simp only [hle, if_true, Bool.false_eq_true, if_false] at hpar; rw [hpar]; exact nilA 5
        · have hle2 : ¬ (1000 : Int) < (out.length : Int) + 1 := by simp at hle; omega
          simp [hg, hle2]
          obtain ⟨nil3, z3, cap3, h3, h4⟩ := frz_own (k := 3) hO3 closed_sps
          simp only [hle, Bool.false_eq_true, if_false] at hpar
          rw [hpar]
          exact ⟨_, frz_tup (k := 4) (cs' := [.rs nil3 z3 ((out ++ [x]).map cellsP) cap3, .v (.int .i64 0)]) (by rw [mapO_cons, h3, mapO_cons, frz_closed (by simp)]; rfl), _, rfl, nil3, z3, cap3, rfl, h4⟩
    | cons c r' =>
      simp only at hrun
      have c24' := f24 44 (c :: r') (by omega) _ hp3 (nx1 + 1 + 1) 0 g1
      rw [show (((44 : UInt8).toNat : Nat) : Int) = 44 from rfl] at c24'
      by_cases hc : c = 44
      · subst hc
        have hst : isP 44 (44 :: r') = true := by simp [isP]
        rw [hst] at c24'
        simp only [if_true, List.drop_succ_cons, List.drop_zero] at c24' hrun
        simp [t4, g1, -Prod.exists]
        refine WCall_k c24' ?_
        simp [-Prod.exists]
        simp only [List.length_cons] at hl
        have hO3 : OwnS (hupd hp3 0 (some [[.str r', .v (.bool (out.any grS || grS x))]])) (nx1 + 1 + 1) 2 ((out ++ [x]).map cellsP) (.sl (nx1 + 1) 2 0 (out.length + 1) none) := .inr ⟨nx1 + 1, by omega, by simp, by simp [hn, cellsP]⟩
        exact ⟨(k, r', out ++ [x]), by simp only; omega, by simp only; omega, by simp only; rw [hR]; exact hrun, by simp; omega, by simp [t4], by simp, by simp, by simpa using hO3, by simp⟩
      · have hst : isP 44 (c :: r') = false := by simp [isP, hc]
        rw [hst] at c24'
        simp only [Bool.false_eq_true, if_false] at c24'
        simp only [hc, if_false] at hrun
        subst hrun
        simp [t4, g1, -Prod.exists]
        refine WCall_k c24' ?_
        simp [-Prod.exists, frz_closed]
        exact hpar ▸ nilA 11
end Go.Ai
