/- Digits; = with two digits. -/
import Derived.Test.YtdhbiimmifedmaaG
namespace Go.Ai
set_option linter.unusedVariables false
set_option linter.unusedSimpArgs false

def hexS (c : UInt8) : Int := if 48 ≤ c.toNat ∧ c.toNat ≤ 57 then (c.toNat : Int) - 48 else if 65 ≤ c.toNat ∧ c.toNat ≤ 70 then (c.toNat : Int) - 55 else if 97 ≤ c.toNat ∧ c.toNat ≤ 102 then (c.toNat : Int) - 87 else -1
theorem hexS_lt (c : UInt8) : hexS c < 16 := by
  simp only [hexS]; split
  · omega
  · split
    · omega
    · split <;> omega
theorem wrap_u8_id {n : Int} (h1 : 0 ≤ n) (h2 : n < 256) : IntKind.wrap .u8 n = n := by
  obtain ⟨m, rfl⟩ : ∃ m : Nat, n = m := ⟨n.toNat, by omega⟩
  rw [wrap_u8]; simp; omega

theorem f38 (c : UInt8) (hp nx) : Ret E 38 [.v (.int .u8 c.toNat)] hp nx (.v (.int .i64 (hexS c))) hp nx .p := by
  refine Ret_pureQ e38 rfl (by simp) ?_ hp nx
  have hc := c.toNat_lt
  simp only [hexS]
  generalize c.toNat = n at hc
  by_cases h1 : 48 ≤ n ∧ n ≤ 57
  · have a1 : (48 : Int) ≤ n := by omega
    have a2 : (n : Int) ≤ 57 := by omega
    simp (disch := (first | omega | simp)) [c38, h1, a1, a2, wrap_id, wrap_u8_id]
  · rw [if_neg h1]
    by_cases h2 : 65 ≤ n ∧ n ≤ 70
    · have a0 : (48 : Int) ≤ n := by omega
      have a0' : ¬ (n : Int) ≤ 57 := by omega
      have a1 : (65 : Int) ≤ n := by omega
      have a2 : (n : Int) ≤ 70 := by omega
      simp (disch := (first | omega | simp)) [c38, h2, a0, a0', a1, a2, wrap_id, wrap_u8_id]; omega
    · rw [if_neg h2]
      by_cases h3 : 97 ≤ n ∧ n ≤ 102
      · have a0 : (48 : Int) ≤ n := by omega
        have a0' : ¬ (n : Int) ≤ 57 := by omega
        have b0 : (65 : Int) ≤ n := by omega
        have b0' : ¬ (n : Int) ≤ 70 := by omega
        have a1 : (97 : Int) ≤ n := by omega
        have a2 : (n : Int) ≤ 102 := by omega
        simp (disch := (first | omega | simp)) [c38, h3, a0, a0', b0, b0', a1, a2, wrap_id, wrap_u8_id]; omega
      · rw [if_neg h3]
        have a0 : (decide ((48 : Int) ≤ n) && decide ((n : Int) ≤ 57)) = false := by simp; omega
        by_cases k1 : (48 : Int) ≤ n
        · have k1' : ¬ (n : Int) ≤ 57 := by omega
          by_cases k2 : (65 : Int) ≤ n
          · have k2' : ¬ (n : Int) ≤ 70 := by omega
            by_cases k3 : (97 : Int) ≤ n
            · have k3' : ¬ (n : Int) ≤ 102 := by omega
              simp [c38, k1, k1', k2, k2', k3, k3']
            · simp [c38, k1, k1', k2, k2', k3]
          · have k3 : ¬ (97 : Int) ≤ n := by omega
            simp [c38, k1, k1', k2, k3]
        · have k2 : ¬ (65 : Int) ≤ n := by omega
          have k3 : ¬ (97 : Int) ≤ n := by omega
          simp [c38, k1, k2, k3]
theorem f29 (c : UInt8) (hp nx) : Ret E 29 [.v (.int .u8 c.toNat)] hp nx (.v (.int .i64 (hexS c))) hp nx .p := by
  refine Ret_pureQ e29 rfl (by simp) ?_ hp nx
  have hc := c.toNat_lt
  simp only [hexS]
  generalize c.toNat = n at hc
  by_cases h1 : 48 ≤ n ∧ n ≤ 57
  · have a1 : (48 : Int) ≤ n := by omega
    have a2 : (n : Int) ≤ 57 := by omega
    simp (disch := (first | omega | simp)) [c29, h1, a1, a2, wrap_id, wrap_u8_id]
  · rw [if_neg h1]
    by_cases h2 : 65 ≤ n ∧ n ≤ 70
    · have a0 : (48 : Int) ≤ n := by omega
      have a0' : ¬ (n : Int) ≤ 57 := by omega
      have a1 : (65 : Int) ≤ n := by omega
      have a2 : (n : Int) ≤ 70 := by omega
      simp (disch := (first | omega | simp)) [c29, h2, a0, a0', a1, a2, wrap_id, wrap_u8_id]
    · rw [if_neg h2]
      by_cases h3 : 97 ≤ n ∧ n ≤ 102
      · have a0 : (48 : Int) ≤ n := by omega
        have a0' : ¬ (n : Int) ≤ 57 := by omega
        have b0 : (65 : Int) ≤ n := by omega
        have b0' : ¬ (n : Int) ≤ 70 := by omega
        have a1 : (97 : Int) ≤ n := by omega
        have a2 : (n : Int) ≤ 102 := by omega
        simp (disch := (first | omega | simp)) [c29, h3, a0, a0', b0, b0', a1, a2, wrap_id, wrap_u8_id]
      · rw [if_neg h3]
        by_cases k1 : (48 : Int) ≤ n
        · have k1' : ¬ (n : Int) ≤ 57 := by omega
          by_cases k2 : (65 : Int) ≤ n
          · have k2' : ¬ (n : Int) ≤ 70 := by omega
            by_cases k3 : (97 : Int) ≤ n
            · have k3' : ¬ (n : Int) ≤ 102 := by omega
              simp [c29, k1, k1', k2, k2', k3, k3']
            · simp [c29, k1, k1', k2, k2', k3]
          · have k3 : ¬ (97 : Int) ≤ n := by omega
            simp [c29, k1, k1', k2, k3]
        · have k2 : ¬ (65 : Int) ≤ n := by omega
          have k3 : ¬ (97 : Int) ≤ n := by omega
          simp [c29, k1, k2, k3]

/-- The byte that stands at the beginning as = and two digits. -/
def escS : List UInt8 → Option UInt8
  | a :: b :: c :: _ => if a = 61 ∧ 0 ≤ hexS b ∧ 0 ≤ hexS c then some (UInt8.ofNat ((hexS b).toNat * 16 + (hexS c).toNat)) else none
  | _ => none
def escA : Option UInt8 → AV
  | some c => .tup [.v (.int .u8 c.toNat), .v (.bool true)]
  | none => .tup [.v (.int .u8 0), .v (.bool false)]

theorem f26 (s : List UInt8) (hs : s.length ≤ 100000) (hp nx) : Ret E 26 [.str s] hp nx (escA (escS s)) hp nx .p := by
  refine Ret_pureQ e26 rfl (by simp) ?_ hp nx
  match s, hs with
  | [], _ => simp [c26, escS, escA, frz_closed]
  | [a], _ => simp [c26, escS, escA, frz_closed]
  | [a, b], _ => simp [c26, escS, escA, frz_closed]
  | a :: b :: c :: r, hs =>
    simp only [List.length_cons] at hs
    have hl : ¬ (((a :: b :: c :: r).length : Nat) : Int) < 3 := by simp only [List.length_cons]; omega
    have hg0 : (a :: b :: c :: r)[0]? = some a := rfl
    have hg1 : (a :: b :: c :: r)[1]? = some b := rfl
    have hg2 : (a :: b :: c :: r)[2]? = some c := rfl
    have hb16 := hexS_lt b
    have hc16 := hexS_lt c
    have he : escS (a :: b :: c :: r) = if a = 61 ∧ 0 ≤ hexS b ∧ 0 ≤ hexS c then some (UInt8.ofNat ((hexS b).toNat * 16 + (hexS c).toNat)) else none := rfl
    generalize a :: b :: c :: r = s at *
    by_cases h1 : a = 61
    · have h1' : (a.toNat : Int) = 61 := by rw [h1]; rfl
      simp [c26, hl, hg0, hg1, h1']
      refine WCall_p (f38 _ _ _) ?_
      by_cases h2 : 0 ≤ hexS b
      · have h2' : ¬ hexS b < 0 := by omega
        simp [h2', hg2]
        refine WCall_p (f38 _ _ _) ?_
        by_cases h3 : 0 ≤ hexS c
        · have h3' : ¬ hexS c < 0 := by omega
          simp [h3', hg1]
          refine WCall_p (f38 _ _ _) ?_
          obtain ⟨p, hp⟩ : ∃ p : Nat, hexS b = p := ⟨(hexS b).toNat, by omega⟩
          obtain ⟨q, hq⟩ : ∃ q : Nat, hexS c = q := ⟨(hexS c).toNat, by omega⟩
          have hsh : shA .shl .i64 (p : Int) 4 = some (.v (.int .i64 (p * 2 ^ 4 : Nat))) := shl_nat (k := 4) (by omega) (by omega)
          have hor : binA .or (.v (.int .i64 ((p * 2 ^ 4 : Nat) : Int))) (.v (.int .i64 (q : Int))) = some (.v (.int .i64 (p * 2 ^ 4 + q : Nat))) := or_nat (by omega) (by omega) (by omega)
          have he2 : escS s = some (UInt8.ofNat (p * 2 ^ 4 + q)) := by rw [he, if_pos ⟨h1, h2, h3⟩, hp, hq]; rfl
          generalize hz : p * 2 ^ 4 + q = z at hor he2
          generalize hy : p * 2 ^ 4 = y at hsh hor
          simp [hp, hsh, hg2, -Int.natCast_add, -Int.natCast_mul, -Int.ofNat_le, -Int.ofNat_lt]
          refine WCall_p (f38 _ _ _) ?_
          simp [hq, hor, he2, escA, wrap_u8, frz_closed, -binA_or, -Int.natCast_add, -Int.natCast_mul]
        · have h3' : hexS c < 0 := by omega
          simp [h3', he, h3, escA, frz_closed]
      · have h2' : hexS b < 0 := by omega
        simp [h2', he, h2, escA, frz_closed]
    · have h1' : ¬ (a.toNat : Int) = 61 := by
        intro h; apply h1; apply UInt8.toNat_inj.1; simpa using (show a.toNat = 61 by omega)
      simp [c26, hl, hg0, h1', he, h1, escA, frz_closed]

theorem f28 (s : List UInt8) (hs : s.length ≤ 100000) (i : Nat) (hi : i < s.length) (hp nx) : Ret E 28 [.str s, .v (.int .i64 i)] hp nx (.v (.bool (escS (s.drop i)).isSome)) hp nx .p := by
  refine Ret_pureQ e28 rfl (by simp) ?_ hp nx
  have hg : s[i]? = some s[i] := List.getElem?_eq_getElem hi
  have hw1 : IntKind.wrap .i64 ((i : Int) + 1) = (i + 1 : Nat) := by rw [wrap_id] <;> omega
  have hw2 : IntKind.wrap .i64 ((i : Int) + 2) = (i + 2 : Nat) := by rw [wrap_id] <;> omega
  by_cases h1 : s[i] = 61
  · have h1' : (s[i].toNat : Int) = 61 := by rw [h1]; rfl
    by_cases h2 : i + 2 < s.length
    · have h2' : ((i + 2 : Nat) : Int) < s.length := by omega
      have hg1 : s[i + 1]? = some s[i + 1] := List.getElem?_eq_getElem (by omega)
      have hg2 : s[i + 2]? = some s[i + 2] := List.getElem?_eq_getElem h2
      have hd : s.drop i = s[i] :: s[i + 1] :: s[i + 2] :: s.drop (i + 3) := by
        rw [List.drop_eq_getElem_cons hi, List.drop_eq_getElem_cons (show i + 1 < s.length by omega), List.drop_eq_getElem_cons h2]
      have he : escS (s.drop i) = if s[i] = 61 ∧ 0 ≤ hexS s[i + 1] ∧ 0 ≤ hexS s[i + 2] then some (UInt8.ofNat ((hexS s[i + 1]).toNat * 16 + (hexS s[i + 2]).toNat)) else none := by rw [hd]; rfl
      rw [he]
      simp [c28, hg, h1', hw1, hw2, h2', hg1, -Int.natCast_add, -Int.ofNat_lt]
      refine WCall_p (f29 _ _ _) ?_
      by_cases h3 : 0 ≤ hexS s[i + 1]
      · simp [h3, hw1, hw2, hg2, -Int.natCast_add]
        refine WCall_p (f29 _ _ _) ?_
        by_cases h4 : 0 ≤ hexS s[i + 2]
        · simp [h3, h4, h1]
        · simp [h3, h4, h1]
      · simp [h3]
    · have h2' : ¬ ((i + 2 : Nat) : Int) < s.length := by omega
      have hn : escS (s.drop i) = none := by
        have hl : (s.drop i).length < 3 := by simp; omega
        match s.drop i, hl with
        | [], _ => rfl
        | [_], _ => rfl
        | [_, _], _ => rfl
      simp [c28, hg, h1', hw1, hw2, h2', hn, -Int.natCast_add, -Int.ofNat_lt]
  · have h1' : ¬ (s[i].toNat : Int) = 61 := by
      intro h; apply h1; apply UInt8.toNat_inj.1; simpa using (show s[i].toNat = 61 by omega)
    have hn : escS (s.drop i) = none := by
      rw [List.drop_eq_getElem_cons hi]
      match s.drop (i + 1) with
      | [] => rfl
      | [_] => rfl
      | _ :: _ :: _ => simp [escS, h1]
    simp [c28, hg, h1', hn]
end Go.Ai
