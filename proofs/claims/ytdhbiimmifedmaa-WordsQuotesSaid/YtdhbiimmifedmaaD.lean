/- The program's Base64. -/
import Derived.Test.YtdhbiimmifedmaaB
namespace Go.Ai
set_option linter.unusedVariables false
set_option linter.unusedSimpArgs false

def xS (l : List UInt8) : Nat → Nat
  | 0 => 0
  | k + 1 => xS l k * 256 + byteN l k
theorem xS_lt (l : List UInt8) : ∀ k, xS l k < 256 ^ k
  | 0 => by simp [xS]
  | k + 1 => by have := xS_lt l k; have := byteN_lt l k; simp only [xS, Nat.pow_succ]; omega
theorem xS_three (l : List UInt8) : xS l 3 = numS l := by simp only [xS, numS]; omega
theorem quadS_take_succ (l : List UInt8) {k : Nat} (h : k < 4) : (quadS l).take (k + 1) = (quadS l).take k ++ [quadC l k] := by
  match k, h with
  | 0, _ => rfl
  | 1, _ => rfl
  | 2, _ => rfl
  | 3, _ => rfl

theorem f12 (b : List UInt8) (hb : b.length ≤ 100000) (hp nx) : Ret E 12 [.str b] hp nx (.str (b64S b)) hp nx .p := by
  refine Ret_pureQ e12 rfl (by simp) ?_ hp nx
  simp only [c12, lets_eq]
  have h64 : lets.length = 64 := rfl
  have hlg := @lets_get
  generalize lets = L at h64 hlg ⊢
  simp
  refine W_loopI (I := fun (q : Nat × List UInt8) s => q.1 ≤ b.length + 2 ∧ s.tm 4 = .int .i64 q.1 ∧ OwnS s.hp s.nx 1 (bytesOf q.2) (s.tm 3) ∧ s.tm 0 = .str b ∧ q.2 ++ b64S (b.drop q.1) = b64S b) (fun q => b.length + 3 - q.1) (0, []) (by simp; exact OwnS.nil) ?_
  rintro ⟨i, out⟩ tm hp nx ⟨hj, t4, t3, t0, hout⟩
  simp only at t4 t3 t0 hj hout
  by_cases hlt : i < b.length
  · have hol : out.length + (b64S (b.drop i)).length = (b64S b).length := by rw [← hout]; simp
    rw [b64S_length] at hol
    rw [b64S_length] at hol
    have hlt' : (i : Int) < b.length := by omega
    have hw : IntKind.wrap .i64 ((i : Int) + 3) = (i + 3 : Nat) := by rw [wrap_id] <;> omega
    have hs := b64S_step (l := b.drop i) (by simp; omega)
    rw [List.drop_drop] at hs
    have hdl : (b.drop i).length = b.length - i := List.length_drop
    simp [t4, t0, hlt', -Int.ofNat_lt]
    -- three bytes
    refine W_loopI (I := fun (k : Nat) s => k ≤ 3 ∧ s.tm 15 = .int .i64 k ∧ s.tm 5 = .int .i64 (xS (b.drop i) k : Nat) ∧ s.tm 6 = .int .i64 (min k (b.length - i) : Nat) ∧ s.tm 4 = .int .i64 i ∧ s.tm 3 = tm 3 ∧ s.tm 0 = .str b ∧ s.hp = hp ∧ s.nx = nx) (fun k => 3 - k) 0 (by simp [xS, t4, t0]) ?_
    rintro k tm1 hp1 nx1 ⟨hk, u15, u5, u6, u4, u3, u0, rfl, rfl⟩
    simp only at u15 u5 u6 u4 u3 u0 hk
    by_cases hk3 : k < 3
    · have hk3' : (k : Int) < 3 := by omega
      have hxl := xS_lt (b.drop i) k
      have hxl2 : xS (b.drop i) k < 16777216 := Nat.lt_of_lt_of_le hxl (by have : 256 ^ k ≤ 256 ^ 3 := Nat.pow_le_pow_right (by omega) (by omega); omega)
      have hsh : shA .shl .i64 (xS (b.drop i) k : Nat) 8 = some (.v (.int .i64 (xS (b.drop i) k * 2 ^ 8 : Nat))) := shl_nat (k := 8) (by omega) (by omega)
      have hwk : IntKind.wrap .i64 ((k : Int) + 1) = (k + 1 : Nat) := by rw [wrap_id] <;> omega
      have hwik : IntKind.wrap .i64 ((i : Int) + k) = (i + k : Nat) := by rw [wrap_id] <;> omega
      by_cases hik : i + k < b.length
      · have hik' : ((i + k : Nat) : Int) < b.length := by omega
        have hg : b[i + k]? = some b[i + k] := List.getElem?_eq_getElem hik
        have hbl := b[i + k].toNat_lt
        have hbn : byteN (b.drop i) k = b[i + k].toNat := by rw [byteN_drop]; exact byteN_get hik
        have hwb : IntKind.wrap .i64 (b[i + k].toNat : Int) = b[i + k].toNat := by rw [wrap_id] <;> omega
        have hor : binA .or (.v (.int .i64 ((xS (b.drop i) k * 2 ^ 8 : Nat) : Int))) (.v (.int .i64 (b[i + k].toNat : Int))) = some (.v (.int .i64 (xS (b.drop i) k * 2 ^ 8 + b[i + k].toNat : Nat))) := or_nat hbl (by omega) (by omega)
        have hwm : IntKind.wrap .i64 ((min k (b.length - i) : Nat) + 1 : Int) = (min (k + 1) (b.length - i) : Nat) := by rw [wrap_id] <;> omega
        generalize hz : xS (b.drop i) k * 2 ^ 8 = z at hsh hor
        generalize hm : min k (b.length - i) = m at u6 hwm
        simp [u15, u5, u6, u4, u3, u0, hk3', hsh, hor, hg, hwb, hik', hwik, hwk, hwm, -binA_or, -Int.ofNat_lt, -Int.natCast_add]
        refine ⟨k + 1, by omega, by omega, rfl, ?_, rfl⟩
        simp only [xS, hbn]; omega
      · have hik' : ¬ ((i + k : Nat) : Int) < b.length := by omega
        have hbn : byteN (b.drop i) k = 0 := by rw [byteN_drop]; exact byteN_out (by omega)
        simp [u15, u5, u6, u4, u3, u0, hk3', hsh, hik', hwik, hwk, -binA_or, -Int.ofNat_lt, -Int.natCast_add, -Int.natCast_mul]
        refine ⟨k + 1, by omega, by omega, rfl, ?_, by omega⟩
        simp only [xS, hbn]; omega
    · have hk3 : k = 3 := by omega
      subst hk3
      have hk3' : ¬ ((3 : Nat) : Int) < 3 := by omega
      simp [u15, u5, u6, u4, u3, u0, -Int.ofNat_lt]
      rw [xS_three] at u5
      have hnl := numS_lt (b.drop i)
      refine W_loopI (I := fun (k : Nat) s => k ≤ 4 ∧ s.tm 37 = .int .i64 k ∧ s.tm 5 = .int .i64 (numS (b.drop i) : Nat) ∧ s.tm 6 = .int .i64 (min 3 (b.length - i) : Nat) ∧ s.tm 4 = .int .i64 i ∧ s.tm 0 = .str b ∧ OwnS s.hp s.nx 1 (bytesOf (out ++ (quadS (b.drop i)).take k)) (s.tm 3)) (fun k => 4 - k) 0 (by simp only at t3; simp [u5, u6, u4, u0, u3]; exact t3) ?_
      rintro k tm2 hp2 nx2 ⟨hk, v37, v5, v6, v4, v0, v3⟩
      simp only at v37 v5 v6 v4 v0 v3 hk
      by_cases hk4 : k < 4
      · have hk4' : (k : Int) < 4 := by omega
        have hwk : IntKind.wrap .i64 ((k : Int) + 1) = (k + 1 : Nat) := by rw [wrap_id] <;> omega
        have hqt := quadS_take_succ (b.drop i) hk4
        have hol2 : (out ++ (quadS (b.drop i)).take k).length < 1000000000 := by
          rw [List.length_append, List.length_take]; omega
        by_cases hkm : k ≤ (b.drop i).length
        · have hkm' : (k : Int) ≤ (min 3 (b.length - i) : Nat) := by omega
          have hw6 : IntKind.wrap .i64 (6 * (k : Int)) = (6 * k : Nat) := by rw [wrap_id] <;> omega
          have hw18 : IntKind.wrap .i64 (18 - (6 * k : Nat) : Int) = (18 - 6 * k : Nat) := by rw [wrap_id] <;> omega
          have hshr := shr_nat (n := numS (b.drop i)) (k := 18 - 6 * k) (by omega)
          have hand : binA .and (.v (.int .i64 ((numS (b.drop i) / 2 ^ (18 - 6 * k) : Nat) : Int))) (.v (.int .i64 63)) = some (.v (.int .i64 (numS (b.drop i) / 2 ^ (18 - 6 * k) % 64 : Nat))) := and_nat (k := 6) (by have := Nat.div_le_self (numS (b.drop i)) (2 ^ (18 - 6 * k)); omega) (by omega)
          have hq : quadC (b.drop i) k = letC (numS (b.drop i) / 2 ^ (18 - 6 * k) % 64) := if_pos hkm
          have hm64 : numS (b.drop i) / 2 ^ (18 - 6 * k) % 64 < 64 := Nat.mod_lt _ (by omega)
          have hgl := hlg hm64
          generalize numS (b.drop i) / 2 ^ (18 - 6 * k) % 64 = z at hand hq hgl
          generalize hy : numS (b.drop i) / 2 ^ (18 - 6 * k) = y at hshr hand
          simp [v37, v5, v6, v4, v0, hk4', hkm', hw6, hw18, hshr, hand, hgl, -binA_and, -Int.ofNat_lt, -Int.ofNat_le, -Int.natCast_add, -Int.natCast_mul]
          refine mvE_byte (c := letC z) rfl v3 hol2 fun hp3 w1 w2 => ?_
          simp [v37, v5, v6, v4, v0, hwk, -Int.natCast_add]
          refine ⟨k + 1, by omega, by omega, rfl, ?_⟩
          rw [hqt, hq, ← List.append_assoc]
          simpa using w1
        · have hkm' : ¬ (k : Int) ≤ (min 3 (b.length - i) : Nat) := by omega
          have hq : quadC (b.drop i) k = 61 := if_neg hkm
          simp [v37, v5, v6, v4, v0, hk4', hkm', -binA_and, -Int.ofNat_lt, -Int.ofNat_le, -Int.natCast_add, -Int.natCast_mul]
          refine mvE_byte (c := 61) rfl v3 hol2 fun hp3 w1 w2 => ?_
          simp [v37, v5, v6, v4, v0, hwk, -Int.natCast_add]
          refine ⟨k + 1, by omega, by omega, rfl, ?_⟩
          rw [hqt, hq, ← List.append_assoc]
          simpa using w1
      · have : k = 4 := by omega
        subst this
        simp [v37, v5, v6, v4, v0, hw, -Int.natCast_add]
        refine ⟨i + 3, by omega, by omega, rfl, _, v3, ?_⟩
        rw [← hout, hs]; simp [quadS]
  · have hlt' : ¬ (i : Int) < b.length := by omega
    simp [t4, t3, t0, hlt', -Int.ofNat_lt]
    refine t3.b2s fun kd => ?_
    rw [List.drop_eq_nil_of_le (by omega)] at hout
    simpa [b64S] using hout
end Go.Ai
