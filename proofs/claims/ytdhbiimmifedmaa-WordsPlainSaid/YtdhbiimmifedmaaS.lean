/- An encoded word at the beginning. -/
import Derived.Test.YtdhbiimmifedmaaR
namespace Go.Ai
set_option linter.unusedVariables false
set_option linter.unusedSimpArgs false

theorem takeS_len {c : UInt8} {l a b : List UInt8} (h : takeS c l = some (a, b)) : a.length ≤ l.length ∧ b.length ≤ l.length := by
  simp only [takeS] at h
  split at h
  · cases h
  · cases h; simp; omega

/-- What stands between the marks of a word, and what comes behind. -/
def partsS (l : List UInt8) : Option (List UInt8 × List UInt8 × List UInt8 × List UInt8) := match takeS 63 l with
  | none => none
  | some (a, r) => match takeS 63 r with
    | none => none
    | some (b, r) => match takeS 63 r with
      | none => none
      | some (c, r) => some (a, b, c, r)
def wordT (p : List UInt8 × List UInt8 × List UInt8 × List UInt8) : Option (List UInt8 × List UInt8) :=
  if [61].isPrefixOf p.2.2.2 && graphS p.1 && graphS p.2.2.1 then (saysS p.1 p.2.1 p.2.2.1).map fun x => (x, p.2.2.2.drop 1) else none
def wordS (s : List UInt8) : Option (List UInt8 × List UInt8) := if [61, 63].isPrefixOf s then (partsS (s.drop 2)).bind wordT else none

theorem f33 (s : List UInt8) (hs : s.length ≤ 100000) (hp : Heap) (nx r : Nat) (hr : r < nx) (h : hp r = some [[.str s]]) :
    ∃ hp' nx', Ret E 33 [.ptr r 0 0] hp nx (optA ((wordS s).map (·.1))) hp' nx' .e ∧ nx ≤ nx' ∧ hp' r = some [[.str (((wordS s).map (·.2)).getD s)]] ∧ ∀ p, p < nx → p ≠ r → hp' p = hp p := by
  have main := (Ret_genE (P := fun v hp' nx' => v = optA ((wordS s).map (·.1)) ∧ nx ≤ nx' ∧ hp' r = some [[.str (((wordS s).map (·.2)).getD s)]] ∧ ∀ p, p < nx → p ≠ r → hp' p = hp p) e33 (args := [.ptr r 0 0]) rfl (hp := hp) (nx := nx) ?_)
  · obtain ⟨v, hp', nx', h1, rfl, h2⟩ := main
    exact ⟨hp', nx', h1, h2⟩
  simp [c33, h]
  refine WCall_p (f27 _ _ _ _) ?_
  cases hpre : [61, 63].isPrefixOf s with
  | false => simp [wordS, hpre, optA, h]
  | true =>
    have hl2 := pre_len hpre
    simp only [List.length_cons, List.length_nil] at hl2
    have hl2' : (2 : Int) ≤ s.length := by omega
    have hdl : (s.drop 2).length = s.length - 2 := List.length_drop
    have hrn : ¬ r = nx := by omega
    have hnr : ¬ nx = r := by omega
    have hws : wordS s = (partsS (s.drop 2)).bind wordT := by simp only [wordS, hpre, if_true]
    have hc2 : sliceStr (.str s) (some (.v (.int .i64 2))) none = some (.str (s.drop 2)) := by rw [sliceStr_l, if_pos (by omega)]; rfl
    generalize s.drop 2 = D at *
    have c1 := f44 63 D (by omega) (hupd (hupd hp nx (some [[.str []]])) nx (some [[.str D]])) (nx + 1) nx (by simp)
    have hu63 : (((63 : UInt8).toNat : Nat) : Int) = 63 := rfl
    rw [hu63] at c1
    simp [h, hc2, spliceL, -sliceStr_l]
    refine WCall_k c1 ?_
    have hfr : ∀ p, p < nx → ¬ p = nx := fun p hp => by omega
    cases h1 : takeS 63 D with
    | none =>
      have hw : wordS s = none := by rw [hws, partsS, h1]; rfl
      rw [h1] at c1
      simp only [takA, takH] at c1 ⊢
      simp
      refine WCall_k c1 ?_
      simp
      refine WCall_k c1 ?_
      simp [hw, optA, hrn, h]
      exact fun p a1 a2 => by simp [show ¬ p = nx by omega]
    | some ar =>
      obtain ⟨a, r1⟩ := ar
      have hl1 := takeS_len h1
      simp only [takA, takH]
      have c2 := f44 63 r1 (by omega) (hupd (hupd (hupd hp nx (some [[.str []]])) nx (some [[.str D]])) nx (some [[.str r1]])) (nx + 1) nx (by simp)
      rw [hu63] at c2
      simp
      refine WCall_k c2 ?_
      cases h2 : takeS 63 r1 with
      | none =>
        have hw : wordS s = none := by rw [hws, partsS, h1]; simp only [h2]; rfl
        rw [h2] at c2
        simp only [takA, takH] at c2 ⊢
        simp
        refine WCall_k c2 ?_
        simp [hw, optA, hrn, h]
        exact fun p a1 a2 => by simp [show ¬ p = nx by omega]
      | some br =>
        obtain ⟨b, r2⟩ := br
        have hl2 := takeS_len h2
        simp only [takA, takH]
        have c3 := f44 63 r2 (by omega) (hupd (hupd (hupd (hupd hp nx (some [[.str []]])) nx (some [[.str D]])) nx (some [[.str r1]])) nx (some [[.str r2]])) (nx + 1) nx (by simp)
        rw [hu63] at c3
        simp
        refine WCall_k c3 ?_
        cases h3 : takeS 63 r2 with
        | none =>
          have hw : wordS s = none := by rw [hws, partsS, h1]; simp only [h2, h3]; rfl
          simp only [takA, takH]
          simp [hw, optA, hrn, h]
          exact fun p a1 a2 => by simp [show ¬ p = nx by omega]
        | some cr =>
          obtain ⟨c, r3⟩ := cr
          have hl3 := takeS_len h3
          simp only [takA, takH]
          have hw : wordS s = wordT (a, b, c, r3) := by rw [hws, partsS, h1]; simp only [h2, h3]; rfl
          rw [hw]
          simp
          refine WCall_p (f27 _ _ _ _) ?_
          cases k1 : [61].isPrefixOf r3 with
          | false =>
            simp [wordT, k1, optA, hrn, h]
            exact fun p a1 a2 => by simp [show ¬ p = nx by omega]
          | true =>
            simp
            refine WCall_p (f45 a (by omega) _ _) ?_
            cases k2 : graphS a with
            | false =>
              simp [wordT, k1, k2, optA, hrn, h]
              exact fun p a1 a2 => by simp [show ¬ p = nx by omega]
            | true =>
              simp
              refine WCall_p (f45 c (by omega) _ _) ?_
              cases k3 : graphS c with
              | false =>
                simp [wordT, k1, k2, k3, optA, hrn, h]
                exact fun p a1 a2 => by simp [show ¬ p = nx by omega]
              | true =>
                simp
                refine WCall_p (f46 a b c (by omega) (by omega) (by omega) _ _) ?_
                have hpl := pre_len k1
                simp only [List.length_cons, List.length_nil] at hpl
                have hc1 : sliceStr (.str r3) (some (.v (.int .i64 1))) none = some (.str (r3.drop 1)) := by rw [sliceStr_l, if_pos (by omega)]; rfl
                cases k4 : saysS a b c with
                | none =>
                  simp [wordT, k1, k2, k3, k4, optA, hrn, h]
                  exact fun p a1 a2 => by simp [show ¬ p = nx by omega]
                | some x =>
                  simp [wordT, k1, k2, k3, k4, optA, hrn, h, hc1, spliceL, -sliceStr_l]
                  exact fun p a1 a2 => by simp [show ¬ p = nx by omega, a2]
end Go.Ai
