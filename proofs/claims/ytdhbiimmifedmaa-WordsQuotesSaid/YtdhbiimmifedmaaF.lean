/- The program's Unbase64. -/
import Derived.Test.YtdhbiimmifedmaaD
namespace Go.Ai
set_option linter.unusedVariables false
set_option linter.unusedSimpArgs false

/-- What is read from letters, six bits each, until there is none. -/
def decS : List UInt8 → Nat → Nat → List UInt8
  | [], _, _ => []
  | c :: r, x, n => if digS c < 0 then [] else
      if n + 6 < 8 then decS r ((x * 64 + (digS c).toNat) % 65536) (n + 6)
      else UInt8.ofNat ((x * 64 + (digS c).toNat) % 65536 / 2 ^ (n - 2)) :: decS r ((x * 64 + (digS c).toNat) % 65536) (n - 2)
def unS (s : List UInt8) : List UInt8 × Int := if b64S (decS s 0 0) = s then (decS s 0 0, 0) else ([], 11)

theorem idx_lt (c : UInt8) : ∀ l : List UInt8, Lib.indexByte l c < l.length
  | [] => by simp [Lib.indexByte]
  | x :: l => by
    have ih := idx_lt c l
    simp only [Lib.indexByte, List.length_cons]
    split
    · omega
    · split <;> omega
theorem digS_lt (c : UInt8) : digS c < 64 := by
  have := idx_lt c lets
  simpa [digS] using this
theorem decS_length : ∀ (l : List UInt8) (x n : Nat), (decS l x n).length ≤ l.length
  | [], _, _ => by simp [decS]
  | c :: r, x, n => by
    simp only [decS]
    split
    · simp
    · split
      · have := decS_length r ((x * 64 + (digS c).toNat) % 65536) (n + 6); simp; omega
      · have := decS_length r ((x * 64 + (digS c).toNat) % 65536) (n - 2); simp; omega

theorem f10 (s : List UInt8) (hb : s.length ≤ 100000) (hp nx) : Ret E 10 [.str s] hp nx (.tup [.str (unS s).1, .v (.int .i64 (unS s).2)]) hp nx .p := by
  refine Ret_pureQ e10 rfl (by simp) ?_ hp nx
  simp only [c10, lets_eq]
  have c23' := fun n => f23 lets n
  have hdg : ∀ c : UInt8, Lib.indexByte lets c = digS c := fun _ => rfl
  generalize lets = L at c23' hdg ⊢
  simp
  have tail : ∀ (tm : Nat → AV) hp nx, tm 0 = .str s → OwnS hp nx 1 (bytesOf (decS s 0 0)) (tm 4) → W (Ret E) c10_rrrr (pureQ [.t 2, .t 3] (.tup [.str (unS s).1, .v (.int .i64 (unS s).2)])) ⟨tm, hp, nx⟩ := by
    intro tm hp nx t0 t4
    simp [c10_rrrr, t0]
    refine t4.b2s fun kd => ?_
    simp [t0]
    have := decS_length s 0 0
    refine WCall_p (f12 _ (by omega) _ _) ?_
    by_cases he : b64S (decS s 0 0) = s
    · simp [t0, he]
      refine t4.b2s fun kd => ?_
      simp [unS, he, frz_closed]
    · simp [t0, he, unS, frz_closed]
  refine W_loopI (I := fun (q : Nat × Nat × Nat × List UInt8) s' => q.1 ≤ s.length ∧ q.2.1 < 65536 ∧ q.2.2.1 < 8 ∧ q.2.2.2.length ≤ q.1 ∧ s'.tm 11 = .int .i64 q.1 ∧ s'.tm 10 = .int .i64 s.length ∧ s'.tm 5 = .int .i64 q.2.1 ∧ s'.tm 6 = .int .i64 q.2.2.1 ∧ s'.tm 0 = .str s ∧ OwnS s'.hp s'.nx 1 (bytesOf q.2.2.2) (s'.tm 4) ∧
    q.2.2.2 ++ decS (s.drop q.1) q.2.1 q.2.2.1 = decS s 0 0) (fun q => s.length - q.1) (0, 0, 0, []) (by simp; exact OwnS.nil) ?_
  rintro ⟨i, x, n, out⟩ tm hp nx ⟨hj, hx, hn, ho, t11, t10, t5, t6, t0, t4, hout⟩
  simp only at hj hx hn ho t11 t10 t5 t6 t0 t4 hout
  by_cases hlt : i < s.length
  · have hlt' : (i : Int) < s.length := by omega
    have hw : IntKind.wrap .i64 ((i : Int) + 1) = (i + 1 : Nat) := by rw [wrap_id] <;> omega
    have hg : s[i]? = some s[i] := List.getElem?_eq_getElem hlt
    have hd : s.drop i = s[i] :: s.drop (i + 1) := List.drop_eq_getElem_cons hlt
    rw [hd] at hout
    simp only [decS] at hout
    simp [t11, t10, t0, hlt', hg, -Int.ofNat_lt]
    refine WCall_p (c23' _ _ _) ?_
    have hu : (s[i].toNat : Int).toNat.toUInt8 = s[i] := by simp
    rw [hu, hdg]
    by_cases hneg : digS s[i] < 0
    · rw [if_pos hneg, List.append_nil] at hout
      simp [hneg]
      refine tail _ _ _ (by simp [t0]) ?_
      rw [← hout]; simpa using t4
    · rw [if_neg hneg] at hout
      have hlt64 := digS_lt s[i]
      obtain ⟨d, hdd⟩ : ∃ d : Nat, digS s[i] = d := ⟨(digS s[i]).toNat, by omega⟩
      rw [hdd] at hout hneg hlt64 ⊢
      have hsh : shA .shl .i64 (x : Int) 6 = some (.v (.int .i64 (x * 2 ^ 6 : Nat))) := shl_nat (k := 6) (by omega) (by omega)
      have hor : binA .or (.v (.int .i64 ((x * 2 ^ 6 : Nat) : Int))) (.v (.int .i64 (d : Int))) = some (.v (.int .i64 (x * 2 ^ 6 + d : Nat))) := or_nat (by omega) (by omega) (by omega)
      have hand : binA .and (.v (.int .i64 ((x * 2 ^ 6 + d : Nat) : Int))) (.v (.int .i64 65535)) = some (.v (.int .i64 ((x * 2 ^ 6 + d) % 65536 : Nat))) := and_nat (k := 16) (by omega) (by omega)
      have hw6 : IntKind.wrap .i64 ((n : Int) + 6) = (n + 6 : Nat) := by rw [wrap_id] <;> omega
      simp only [Int.toNat_natCast] at hout
      generalize hz : (x * 2 ^ 6 + d) % 65536 = z at hand
      have hz2 : (x * 64 + d) % 65536 = z := hz
      rw [hz2] at hout
      generalize x * 2 ^ 6 + d = y1 at hor hand
      generalize x * 2 ^ 6 = y2 at hsh hor
      by_cases h8 : n + 6 < 8
      · rw [if_pos h8] at hout
        have h8' : ¬ (8 : Int) ≤ (n + 6 : Nat) := by omega
        simp [t11, t10, t5, t6, t0, hsh, hor, hand, hw6, h8', hw, hneg, -Prod.exists, -binA_or, -binA_and, -Int.natCast_add, -Int.ofNat_le, -Int.ofNat_lt]
        refine ⟨(i + 1, z, n + 6, out), ?_⟩
        simp only
        exact ⟨by omega, by omega, by omega, h8, by omega, trivial, trivial, trivial, t4, hout⟩
      · rw [if_neg h8] at hout
        have h8' : (8 : Int) ≤ (n + 6 : Nat) := by omega
        have hw8 : IntKind.wrap .i64 ((n + 6 : Nat) - 8 : Int) = (n - 2 : Nat) := by rw [wrap_id] <;> omega
        have hshr := shr_nat (n := z) (k := n - 2) (by omega)
        simp [t11, t10, t5, t6, t0, hsh, hor, hand, hw6, hw8, hshr, h8', hw, hneg, wrap_u8, -binA_or, -binA_and, -Int.natCast_add, -Int.ofNat_le, -Int.ofNat_lt]
        refine mvE_byte (c := UInt8.ofNat (z / 2 ^ (n - 2))) rfl t4 (by omega) fun hp3 w1 w2 => ?_
        simp [t11, t10, t5, t6, t0, hw, -Int.natCast_add, -Prod.exists]
        refine ⟨(i + 1, z, n - 2, out ++ [UInt8.ofNat (z / 2 ^ (n - 2))]), ?_⟩
        simp only
        exact ⟨by omega, by omega, by omega, by omega, by simp; omega, trivial, trivial, trivial, by simpa using w1, by simpa using hout⟩
  · have : i = s.length := by omega
    subst this
    simp [t11, t10, t0]
    refine tail _ _ _ (by simp [t0]) ?_
    rw [List.drop_length, decS, List.append_nil] at hout
    rw [← hout]; simpa using t4
end Go.Ai
