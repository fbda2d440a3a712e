/- The document's Word. -/
import Derived.Test.YtdhbiimmifedmaaW
namespace Go.Ai
set_option linter.unusedVariables false
set_option linter.unusedSimpArgs false

/-- What a word says, and where it ends. -/
def refA (s : List UInt8) : Option (List UInt8 × List UInt8) → AV
  | none => .tup [.str [], .v (.int .i64 (-1))]
  | some (x, r) => .tup [.str x, .v (.int .i64 ((s.length - r.length : Nat) : Int))]

theorem seen_low (c : UInt8) : seenC (lowC c) = seenC c := by
  have key : ((List.range 256).all fun n => decide (seenC (lowC (UInt8.ofNat n)) = seenC (UInt8.ofNat n))) = true := by kernel_rfl
  have := of_decide_eq_true (List.all_eq_true.1 key c.toNat (List.mem_range.2 c.toNat_lt))
  simpa using this
theorem graph_low (s : List UInt8) : graphS (lowS s) = graphS s := by
  simp only [graphS, lowS, List.all_map]
  congr 1; funext c; exact seen_low c

/-- 'until' tells where 'take' cuts. -/
theorem unt_none {s : List UInt8} {i : Nat} {c : UInt8} (h : takeS c (s.drop i) = none) : untS s i c = -1 := by
  simp only [takeS] at h
  split at h
  · rename_i hn; rw [untS, if_pos hn]
  · cases h
theorem unt_some {s a r : List UInt8} {i : Nat} {c : UInt8} (h : takeS c (s.drop i) = some (a, r)) : untS s i c = (i + a.length : Nat) ∧ r = s.drop (i + a.length + 1) ∧ a = (s.take (i + a.length)).drop i ∧ i + a.length < s.length := by
  have hl := idx_lt c (s.drop i)
  simp only [takeS] at h
  split at h
  · cases h
  · rename_i hn
    obtain ⟨k, hk⟩ : ∃ k : Nat, Lib.indexByte (s.drop i) c = k := ⟨(Lib.indexByte (s.drop i) c).toNat, by omega⟩
    rw [hk] at h hl
    rw [List.length_drop] at hl
    simp only [Option.some.injEq, Prod.mk.injEq, Int.toNat_natCast] at h
    obtain ⟨h1, h2⟩ := h
    have hal : a.length = k := by rw [← h1, List.length_take, List.length_drop]; omega
    rw [hal]
    refine ⟨?_, ?_, ?_, by omega⟩
    · rw [untS, if_neg hn, hk]; omega
    · rw [← h2, List.drop_drop]; congr 1
    · rw [← h1, List.drop_take]; congr 1; omega

theorem one_pre {r : List UInt8} {n : Nat} {s : List UInt8} (h : r = s.drop n) : [61].isPrefixOf r = decide (s[n]? = some 61) := by
  subst h
  have h0 : (s.drop n)[0]? = s[n]? := by simp
  rw [← h0]
  match s.drop n with
  | [] => rfl
  | x :: l => rw [Bool.eq_iff_iff]; simp [List.isPrefixOf]; exact eq_comm

theorem f35t (s cs x rest : List UInt8) (C : Nat) (hx : x.length ≤ 50000) (hC : C + 2 ≤ 100000) (he : C + 2 = s.length - rest.length) (tm : Nat → AV) (hp nx) (t9 : tm 9 = .str (lowS cs)) (t12 : tm 12 = .str x) (t8 : tm 8 = .v (.int .i64 (C : Int))) :
    W (Ret E) c35_rrrrrrrrrrrrrr (pureQ [.t 4, .t 5] (refA s ((charS cs x).map fun y => (y, rest)))) ⟨tm, hp, nx⟩ := by
  have hw : IntKind.wrap .i64 ((C : Int) + 2) = (C + 2 : Nat) := by rw [wrap_id] <;> omega
  simp [c35_rrrrrrrrrrrrrr, t9]
  by_cases k3 : lowS cs = isoL
  · have k3' : lowS cs = [105, 115, 111, 45, 56, 56, 53, 57, 45, 49] := k3
    simp [k3', t12, t8]
    refine WCall_p (f20 x (by omega) _ _) ?_
    simp [t8, hw, charS, k3', utf8L, asciiL, isoL, refA, he, frz_closed, -Int.natCast_add]
  · have k3' : ¬ lowS cs = [105, 115, 111, 45, 56, 56, 53, 57, 45, 49] := k3
    by_cases k1 : lowS cs = utf8L
    · have k1' : lowS cs = [117, 116, 102, 45, 56] := k1
      simp [k1', t12, t8, t9, hw, charS, utf8L, refA, he, frz_closed, -Int.natCast_add]
    · have k1' : ¬ lowS cs = [117, 116, 102, 45, 56] := k1
      by_cases k2 : lowS cs = asciiL
      · have k2' : lowS cs = [117, 115, 45, 97, 115, 99, 105, 105] := k2
        simp [k2', t12, t8, t9, hw, charS, utf8L, asciiL, refA, he, frz_closed, -Int.natCast_add]
      · have k2' : ¬ lowS cs = [117, 115, 45, 97, 115, 99, 105, 105] := k2
        simp [k1', k2', k3', t9, charS, utf8L, asciiL, isoL, refA, frz_closed]

set_option maxHeartbeats 1000000 in
theorem f35 (s : List UInt8) (hs : s.length ≤ 50000) (i : Nat) (hi : i ≤ s.length) (hp nx) : Ret E 35 [.str s, .v (.int .i64 i)] hp nx (refA s (wordS (s.drop i))) hp nx .p := by
  refine Ret_pureQ e35 rfl (by simp) ?_ hp nx
  have hw1 : IntKind.wrap .i64 ((i : Int) + 1) = (i + 1 : Nat) := by rw [wrap_id] <;> omega
  have hw2 : IntKind.wrap .i64 ((i : Int) + 2) = (i + 2 : Nat) := by rw [wrap_id] <;> omega
  have hwd : wordS (s.drop i) = if decide (s[i]? = some 61) && decide (s[i + 1]? = some 63) then (partsS (s.drop (i + 2))).bind wordT else none := by
    simp only [wordS, pre2, List.drop_drop]
  by_cases h1 : i + 1 < s.length
  · have h1' : ¬ (s.length : Int) ≤ (i + 1 : Nat) := by omega
    have hg0 : s[i]? = some s[i] := List.getElem?_eq_getElem (by omega)
    have hg1 : s[i + 1]? = some s[i + 1] := List.getElem?_eq_getElem h1
    by_cases k0 : s[i] = 61
    · have k0' : (s[i].toNat : Int) = 61 := by rw [k0]; rfl
      by_cases k1 : s[i + 1] = 63
      · have k1' : (s[i + 1].toNat : Int) = 63 := by rw [k1]; rfl
        have hwd2 : wordS (s.drop i) = (partsS (s.drop (i + 2))).bind wordT := by rw [hwd, hg0, hg1, k0, k1]; rfl
        rw [hwd2]
        simp [c35, hw1, hw2, h1', hg0, hg1, k0', k1', -Int.natCast_add]
        refine WCall_p (f47 s (by omega) (i + 2) (by omega) 63 _ _) ?_
        cases t1 : takeS 63 (s.drop (i + 2)) with
        | none => simp [unt_none t1, partsS, t1, refA, frz_closed]
        | some p1 =>
          obtain ⟨a, r1⟩ := p1
          obtain ⟨u1, v1, x1, y1⟩ := unt_some t1
          generalize hA : i + 2 + a.length = A at *
          have hAi : i + 2 ≤ A := by omega
          have hwA : IntKind.wrap .i64 ((A : Int) + 1) = (A + 1 : Nat) := by rw [wrap_id] <;> omega
          have hAn : ¬ (A : Int) < 0 := by omega
          simp [u1, hAn, hwA, -Int.natCast_add]
          refine WCall_p (f47 s (by omega) (A + 1) (by omega) 63 _ _) ?_
          rw [v1] at t1
          cases t2 : takeS 63 (s.drop (A + 1)) with
          | none => simp [unt_none t2, partsS, t1, t2, refA, frz_closed]
          | some p2 =>
            obtain ⟨b, r2⟩ := p2
            obtain ⟨u2, v2, x2, y2⟩ := unt_some t2
            generalize hB : A + 1 + b.length = B at *
            have hBi : A + 1 ≤ B := by omega
            have hwB : IntKind.wrap .i64 ((B : Int) + 1) = (B + 1 : Nat) := by rw [wrap_id] <;> omega
            have hBn : ¬ (B : Int) < 0 := by omega
            simp [u2, hBn, hwB, -Int.natCast_add]
            refine WCall_p (f47 s (by omega) (B + 1) (by omega) 63 _ _) ?_
            rw [v2] at t2
            cases t3 : takeS 63 (s.drop (B + 1)) with
            | none => simp [unt_none t3, partsS, t1, t2, t3, refA, frz_closed]
            | some p3 =>
              obtain ⟨c, r3⟩ := p3
              obtain ⟨u3, v3, x3, y3⟩ := unt_some t3
              generalize hC : B + 1 + c.length = C at *
              have hCi : B + 1 ≤ C := by omega
              have hwC : IntKind.wrap .i64 ((C : Int) + 1) = (C + 1 : Nat) := by rw [wrap_id] <;> omega
              have hCn : ¬ (C : Int) < 0 := by omega
              have hps : partsS (s.drop (i + 2)) = some (a, b, c, r3) := by simp only [partsS, t1, t2, t3]
              rw [hps]
              have hpre : [61].isPrefixOf r3 = decide (s[C + 1]? = some 61) := one_pre v3
              have hla : (lowS a).length = a.length := by simp [lowS]
              by_cases hc1 : C + 1 < s.length
              · have hc1' : ¬ (s.length : Int) ≤ (C + 1 : Nat) := by omega
                have hg3 : s[C + 1]? = some s[C + 1] := List.getElem?_eq_getElem hc1
                by_cases k2 : s[C + 1] = 61
                · have k2' : (s[C + 1].toNat : Int) = 61 := by rw [k2]; rfl
                  have hp1 : [61].isPrefixOf r3 = true := by rw [hpre, hg3, k2]; rfl
                  have hcut1 : sliceStr (.str s) (some (.v (.int .i64 ((i + 2 : Nat) : Int)))) (some (.v (.int .i64 (A : Int)))) = some (.str a) := by
                    rw [sliceStr_lh, if_pos (by omega), Int.toNat_natCast, Int.toNat_natCast, ← x1]
                  have hcut2 : sliceStr (.str s) (some (.v (.int .i64 ((A + 1 : Nat) : Int)))) (some (.v (.int .i64 (B : Int)))) = some (.str b) := by
                    rw [sliceStr_lh, if_pos (by omega), Int.toNat_natCast, Int.toNat_natCast, ← x2]
                  have hcut3 : sliceStr (.str s) (some (.v (.int .i64 ((B + 1 : Nat) : Int)))) (some (.v (.int .i64 (C : Int)))) = some (.str c) := by
                    rw [sliceStr_lh, if_pos (by omega), Int.toNat_natCast, Int.toNat_natCast, ← x3]
                  simp [u3, hCn, hwC, hc1', hg3, k2', hw2, hwA, hwB, hcut1, -sliceStr_lh, -Int.natCast_add]
                  refine WCall_p (f18 a (by omega) _ _) ?_
                  simp [hwA, hcut2, -sliceStr_lh, -Int.natCast_add]
                  refine WCall_p (f18 b (by omega) _ _) ?_
                  simp [hwB, hcut3, -sliceStr_lh, -Int.natCast_add]
                  refine WCall_p (f48 (lowS a) (by omega) _ _) ?_
                  rw [graph_low]
                  cases g1 : graphS a with
                  | false => simp [wordT, hp1, g1, refA, frz_closed]
                  | true =>
                    simp
                    refine WCall_p (f48 c (by omega) _ _) ?_
                    cases g2 : graphS c with
                    | false => simp [wordT, hp1, g1, g2, refA, frz_closed]
                    | true =>
                      have hwt : wordT (a, b, c, r3) = (saysS a b c).map fun x => (x, r3.tail) := by simp [wordT, hp1, g1, g2]
                      have hend : C + 2 = s.length - r3.tail.length := by rw [← List.drop_one, v3, List.length_drop, List.length_drop]; omega
                      try simp only [Option.bind_some]
                      rw [hwt]
                      have hcl : c.length ≤ s.length := by rw [x3]; simp; omega
                      have hql := qS_length c 0
                      have hul := unS_length c
                      by_cases q1 : lowS b = [98]
                      · have u := f11 c (by omega)
                        rw [refU_eq] at u
                        simp [q1]
                        refine WCall_p (f49 c (by omega) _ _) ?_
                        simp [q1]
                        refine WCall_p (u _ _) ?_
                        by_cases e : (unS c).2 = 0
                        · have hsy : saysS a b c = charS a (unS c).1 := by simp [saysS, bodyS, q1, e]
                          rw [hsy]
                          simp [e]
                          exact f35t s a _ _ C (by omega) (by omega) hend _ _ _ (by simp) (by simp) (by simp)
                        · have hsy : saysS a b c = none := by simp [saysS, bodyS, q1, e]
                          rw [hsy]
                          simp [e, refA, frz_closed]
                      · by_cases q2 : lowS b = [113]
                        · have hsy : saysS a b c = charS a (qS c 0) := by simp [saysS, bodyS, q2]
                          rw [hsy]
                          simp [q2]
                          refine WCall_p (f49 c (by omega) _ _) ?_
                          simp
                          exact f35t s a _ _ C (by omega) (by omega) hend _ _ _ (by simp) (by simp) (by simp)
                        · have hsy : saysS a b c = none := by simp [saysS, bodyS, q1, q2]
                          rw [hsy]
                          simp [q1, q2, refA, frz_closed]
                · have k2' : ¬ (s[C + 1].toNat : Int) = 61 := u8_ne (n := 61) (by omega) k2
                  have hp1 : [61].isPrefixOf r3 = false := by rw [hpre, hg3]; simp [k2]
                  simp [u3, hCn, hwC, hc1', hg3, k2', wordT, hp1, refA, frz_closed, -Int.natCast_add]
              · have hc1' : (s.length : Int) ≤ (C + 1 : Nat) := by omega
                have hg3 : s[C + 1]? = none := List.getElem?_eq_none (by omega)
                have hp1 : [61].isPrefixOf r3 = false := by rw [hpre, hg3]; rfl
                simp [u3, hCn, hwC, hc1', wordT, hp1, refA, frz_closed, -Int.natCast_add]
      · have k1' : ¬ (s[i + 1].toNat : Int) = 63 := u8_ne (n := 63) (by omega) k1
        have hwd2 : wordS (s.drop i) = none := by rw [hwd, hg0, hg1]; simp [k1]
        simp [c35, hw1, h1', hg0, hg1, k0', k1', hwd2, refA, frz_closed, -Int.natCast_add]
    · have k0' : ¬ (s[i].toNat : Int) = 61 := u8_ne (n := 61) (by omega) k0
      have hwd2 : wordS (s.drop i) = none := by rw [hwd, hg0]; simp [k0]
      simp [c35, hw1, h1', hg0, k0', hwd2, refA, frz_closed, -Int.natCast_add]
  · have h1' : (s.length : Int) ≤ (i + 1 : Nat) := by omega
    have hg1 : s[i + 1]? = none := List.getElem?_eq_none (by omega)
    have hwd2 : wordS (s.drop i) = none := by rw [hwd, hg1]; simp
    simp [c35, hw1, h1', hwd2, refA, frz_closed, -Int.natCast_add]
end Go.Ai
