/- The program's Words. -/
import Derived.Test.YtdhbiimmifedmaaT
namespace Go.Ai
set_option linter.unusedVariables false
set_option linter.unusedSimpArgs false

abbrev wordsI (s : List UInt8) (q : Nat × WSt) (s' : St) : Prop :=
  q.2.rem.length ≤ q.1 ∧ runW q.1 q.2 = wordsP s ∧ q.2.gap ≤ q.2.out.length ∧ q.2.out.length + 2 * q.2.rem.length ≤ 2 * s.length ∧ s'.tm 3 = .ptr 0 0 0 ∧ s'.hp 0 = some [[.str q.2.rem]] ∧ 0 < s'.nx ∧ OwnT s'.hp s'.nx q.2.out (s'.tm 4) ∧ 0 ∉ slB (s'.tm 4) ∧ s'.tm 5 = .int .i64 q.2.gap ∧ s'.tm 6 = .bool q.2.last

theorem joinS_length (sep : List UInt8) : ∀ es : List (List UInt8), (joinS sep es).length ≤ sumS es + sep.length * es.length
  | [] => by simp [joinS]
  | a :: r => by
    have key : ∀ r : List (List UInt8), (r.flatMap (sep ++ ·)).length = sumS r + sep.length * r.length := by
      intro r
      induction r with
      | nil => simp [sumS]
      | cons b r ih =>
        simp only [List.flatMap_cons, List.length_append, List.length_cons, ih, sumS, List.flatten_cons, Nat.mul_add]; omega
    simp only [joinS, List.length_append, key, sumS, List.flatten_cons, List.length_cons, Nat.mul_add]; omega

set_option maxHeartbeats 400000 in
theorem f21 (es : List (List UInt8)) (nil : Bool) (z : Nat) (cap : Option Nat) (hz : (nil = true ∨ z = 1) ∧ (nil = true → es = [])) (hn : es.length ≤ 1000) (ht : sumS es ≤ 20000) (hp nx) :
    Ret E 21 [.rs nil z (es.map sC) cap] hp nx (.str (wordsP (joinS [32] es))) hp nx .p := by
  refine Ret_pureQ e21 rfl (by simp; exact closedLL_sC es) ?_ hp nx
  have hjl := joinS_length [32] es
  simp only [List.length_cons, List.length_nil] at hjl
  simp [c21]
  refine WCall_p (f32 es nil z cap hz hn (by omega) _ _) ?_
  generalize joinS [32] es = s at *
  have hsl : s.length ≤ 21000 := by omega
  simp [spliceL]
  refine W_loopI (I := wordsI s) (fun q => q.1) (s.length, ⟨s, [], 0, false⟩) ?_ ?_
  · refine ⟨Nat.le_refl _, rfl, Nat.le_refl _, by simp, by simp, by simp, by simp, .inl ⟨by simp, rfl⟩, by simp, by simp, by simp⟩
  rintro ⟨n, ⟨rem, out, gap, last⟩⟩ tm hp nx ⟨hn1, hrun, hgap, hlen, t3, h0, hnx, t4, h4, t5, t6⟩
  simp only at hn1 hrun hgap hlen t3 h0 hnx t4 h4 t5 t6
  by_cases hne : rem = []
  · subst hne
    have ho : out = wordsP s := by
      rw [← hrun]; cases n with
      | zero => rfl
      | succ n => simp [runW]
    simp [t3, h0]
    refine t4.b2s fun kd => ?_
    simp [ho]
  · obtain ⟨n, rfl⟩ : ∃ m, n = m + 1 := by
      cases n with
      | zero => exfalso; apply hne; simpa using hn1
      | succ m => exact ⟨m, rfl⟩
    have hrun2 : runW n (wstep ⟨rem, out, gap, last⟩) = wordsP s := by rw [← hrun]; simp [runW, hne]
    obtain ⟨hp1, nx1, r1, r2, r3, r4⟩ := f33 rem (by omega) hp nx 0 hnx h0
    have hg1 : OwnT hp1 nx1 out (tm 4) := t4.keep r2 fun p a1 a2 => r4 p a1 (fun e => h4 (by rw [← e]; exact a2))
    simp [t3, h0, hne]
    refine WCall_k r1 ?_
    cases hw : wordS rem with
    | some xr =>
      obtain ⟨x, rr⟩ := xr
      rw [hw] at r3
      simp only [Option.map_some, Option.getD_some] at r3
      have hwl := wordS_length hw
      have hst : wstep ⟨rem, out, gap, last⟩ = ⟨rr, (if last then out.take (out.length - gap) else out) ++ x, 0, true⟩ := by simp only [wstep, hw]
      rw [hst] at hrun2
      cases last with
      | true =>
        have hwc : IntKind.wrap .i64 ((out.length : Int) - gap) = (out.length - gap : Nat) := by rw [wrap_id] <;> omega
        obtain ⟨y', k1, k2, k3⟩ := hg1.cut (k := out.length - gap) (by omega)
        have htl : (out.take (out.length - gap)).length = out.length - gap := by simp
        simp [optA, t3, t5, t6, hg1.len, hwc, k1]
        refine mvE_T rfl k2 (by omega) fun y2 hp2 nx2 g1 g2 g3 g4 => ?_
        simp [t3, -Prod.exists]
        refine ⟨(n, ⟨rr, out.take (out.length - gap) ++ x, 0, true⟩), Nat.lt_succ_self n, ?_⟩
        have h02 : 0 ∉ slB y' := by rw [k3]; exact h4
        refine ⟨by simp only; omega, by simpa using hrun2, Nat.zero_le _, by simp only [List.length_append, htl]; omega, by simp [t3], ?_, by simp only; omega, by simpa using g1, ?_, by simp, by simp⟩
        · simp only; rw [g3 0 (by omega) h02, r3]
        · simp
          intro hh
          rcases g4 0 hh with e | e
          · exact h02 e
          · omega
      | false =>
        simp [optA, t3, t5, t6]
        refine mvE_T rfl hg1 (by omega) fun y2 hp2 nx2 g1 g2 g3 g4 => ?_
        simp [t3, -Prod.exists]
        refine ⟨(n, ⟨rr, out ++ x, 0, true⟩), Nat.lt_succ_self n, ?_⟩
        refine ⟨by simp only; omega, by simpa using hrun2, Nat.zero_le _, by simp only [List.length_append]; omega, by simp [t3], ?_, by simp only; omega, by simpa using g1, ?_, by simp, by simp⟩
        · simp only; rw [g3 0 (by omega) h4, r3]
        · simp
          intro hh
          rcases g4 0 hh with e | e
          · exact h4 e
          · omega
    | none =>
      rw [hw] at r3
      simp only [Option.map_none, Option.getD_none] at r3
      match rem, hne with
      | c :: rr, _ =>
        have hst : wstep ⟨c :: rr, out, gap, last⟩ = ⟨rr, out ++ [c], if blankC c then gap + 1 else 0, if blankC c then last else false⟩ := by simp only [wstep, hw]
        rw [hst] at hrun2
        simp only [List.length_cons] at hn1 hlen
        have hc1 : sliceStr (.str (c :: rr)) (some (.v (.int .i64 1))) none = some (.str rr) := by rw [sliceStr_l, if_pos (by simp only [List.length_cons]; omega)]; rfl
        have hg2 : OwnT (hupd hp1 0 (some [[.str rr]])) nx1 out (tm 4) := hg1.keep (Nat.le_refl _) fun p a1 a2 => by
          have : p ≠ 0 := fun e => h4 (by rw [← e]; exact a2)
          simp [this]
        simp [optA, t3, r3, hc1, spliceL, -sliceStr_l]
        refine mvE_T (m := [c]) rfl hg2 (by simp only [List.length_cons, List.length_nil]; omega) fun y2 hp2 nx2 g1 g2 g3 g4 => ?_
        simp
        refine WCall_p (f34 c _ _) ?_
        have hwg : IntKind.wrap .i64 ((gap : Int) + 1) = (gap + 1 : Nat) := by rw [wrap_id] <;> omega
        have hz2 : 0 ∉ slB y2 := by
          intro hh
          rcases g4 0 hh with e | e
          · exact h4 e
          · omega
        have h02 : hp2 0 = some [[.str rr]] := by rw [g3 0 (by omega) h4]; simp
        cases hbl : blankC c with
        | true =>
          rw [hbl] at hrun2
          simp [t3, t5, t6, hwg, -Int.natCast_add, -Prod.exists]
          refine ⟨(n, ⟨rr, out ++ [c], gap + 1, last⟩), Nat.lt_succ_self n, ?_⟩
          exact ⟨by simp only; omega, by simpa using hrun2, by simp only [List.length_append, List.length_cons, List.length_nil]; omega, by simp only [List.length_append, List.length_cons, List.length_nil]; omega, by simp [t3], h02, by simp only; omega, by simpa using g1, by simpa using hz2, by simp, by simp [t6]⟩
        | false =>
          rw [hbl] at hrun2
          simp [t3, t5, t6, -Prod.exists]
          refine ⟨(n, ⟨rr, out ++ [c], 0, false⟩), Nat.lt_succ_self n, ?_⟩
          exact ⟨by simp only; omega, by simpa using hrun2, Nat.zero_le _, by simp only [List.length_append, List.length_cons, List.length_nil]; omega, by simp [t3], h02, by simp only; omega, by simpa using g1, by simpa using hz2, by simp, by simp⟩
end Go.Ai
