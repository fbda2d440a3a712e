/- The document's Unbase64; both are the same. -/
import Derived.Test.YtdhbiimmifedmaaF
namespace Go.Ai
set_option linter.unusedVariables false
set_option linter.unusedSimpArgs false

def xR (l : List UInt8) : Nat → Nat
  | 0 => 0
  | k + 1 => xR l k * 64 + (digS (l.getD k 0)).toNat
def nR (l : List UInt8) : Nat → Nat
  | 0 => 0
  | k + 1 => nR l k + (if 0 ≤ digS (l.getD k 0) then 1 else 0)
theorem xR_lt (l : List UInt8) : ∀ k, xR l k < 64 ^ k
  | 0 => by simp [xR]
  | k + 1 => by have := xR_lt l k; have := digS_lt (l.getD k 0); simp only [xR, Nat.pow_succ]; omega
theorem nR_le (l : List UInt8) : ∀ k, nR l k ≤ k
  | 0 => by simp [nR]
  | k + 1 => by have := nR_le l k; simp only [nR]; split <;> omega
def triS (l : List UInt8) : List UInt8 := [UInt8.ofNat (xR l 4 / 65536), UInt8.ofNat (xR l 4 / 256), UInt8.ofNat (xR l 4)].take (nR l 4 - 1)
def refD : List UInt8 → Option (List UInt8)
  | a :: b :: c :: d :: r => if nR [a, b, c, d] 4 < 2 then none else (refD r).map (triS [a, b, c, d] ++ ·)
  | _ => some []
theorem refD_step {l : List UInt8} (h : 4 ≤ l.length) : refD l = if nR l 4 < 2 then none else (refD (l.drop 4)).map (triS l ++ ·) := by
  match l, h with
  | a :: b :: c :: d :: r, _ => rfl
def refU (s : List UInt8) : List UInt8 × Int := if s.length % 4 = 0 then (match refD s with
  | none => ([], 11)
  | some out => if b64S out = s then (out, 0) else ([], 11)) else ([], 11)
theorem triS_length (l : List UInt8) : (triS l).length ≤ 3 := by simp [triS]; omega
theorem refD_length : ∀ (l out : List UInt8), refD l = some out → out.length ≤ l.length
  | a :: b :: c :: d :: r, out, h => by
    rw [refD] at h
    split at h
    · cases h
    · cases hr : refD r with
      | none => rw [hr] at h; cases h
      | some o =>
        rw [hr] at h
        simp only [Option.map_some, Option.some.injEq] at h
        have := refD_length r o hr
        have := triS_length [a, b, c, d]
        subst h; simp; omega
  | [], out, h => by cases h; simp
  | [_], out, h => by cases h; simp
  | [_, _], out, h => by cases h; simp
  | [_, _, _], out, h => by cases h; simp

theorem f11 (s : List UInt8) (hb : s.length ≤ 50000) (hp nx) : Ret E 11 [.str s] hp nx (.tup [.str (refU s).1, .v (.int .i64 (refU s).2)]) hp nx .p := by
  refine Ret_pureQ e11 rfl (by simp) ?_ hp nx
  simp only [c11]
  by_cases hm : s.length % 4 = 0
  · have hm' : ((s.length : Int)).tmod 4 = 0 := by rw [Int.tmod_eq_emod_of_nonneg (by omega)]; omega
    simp [hm']
    refine W_loopI (I := fun (q : Nat × List UInt8) s' => q.1 ≤ s.length ∧ q.1 % 4 = 0 ∧ q.2.length ≤ q.1 ∧ s'.tm 5 = .int .i64 q.1 ∧ s'.tm 4 = .str q.2 ∧ s'.tm 0 = .str s ∧ refD s = (refD (s.drop q.1)).map (q.2 ++ ·)) (fun q => s.length - q.1) (0, []) (by simp) ?_
    rintro ⟨i, out⟩ tm hp nx ⟨hj, hi4, ho, t5, t4, t0, hout⟩
    simp only at hj hi4 ho t5 t4 t0 hout
    by_cases hlt : i < s.length
    · have hlt' : (i : Int) < s.length := by omega
      have hw : IntKind.wrap .i64 ((i : Int) + 4) = (i + 4 : Nat) := by rw [wrap_id] <;> omega
      have hst := refD_step (l := s.drop i) (by simp; omega)
      rw [List.drop_drop] at hst
      simp [t5, t4, t0, hlt', -Int.ofNat_lt]
      refine W_loopI (I := fun (k : Nat) s' => k ≤ 4 ∧ s'.tm 8 = .int .i64 k ∧ s'.tm 6 = .int .i64 (xR (s.drop i) k : Nat) ∧ s'.tm 7 = .int .i64 (nR (s.drop i) k : Nat) ∧ s'.tm 5 = .int .i64 i ∧ s'.tm 4 = .str out ∧ s'.tm 0 = .str s) (fun k => 4 - k) 0 (by simp [xR, nR, t5, t4, t0]) ?_
      rintro k tm1 hp1 nx1 ⟨hk, u8, u6, u7, u5, u4, u0⟩
      simp only at hk u8 u6 u7 u5 u4 u0
      by_cases hk4 : k < 4
      · have hk4' : (k : Int) < 4 := by omega
        have hik : i + k < s.length := by omega
        have hg : s[i + k]? = some s[i + k] := List.getElem?_eq_getElem hik
        have hgd : (s.drop i).getD k 0 = s[i + k] := by simp [List.getD, hg]
        have hwk : IntKind.wrap .i64 ((k : Int) + 1) = (k + 1 : Nat) := by rw [wrap_id] <;> omega
        have hwik : IntKind.wrap .i64 ((i : Int) + k) = (i + k : Nat) := by rw [wrap_id] <;> omega
        have hxl := xR_lt (s.drop i) k
        have hxl2 : xR (s.drop i) k < 16777216 := Nat.lt_of_lt_of_le hxl (by have : 64 ^ k ≤ 64 ^ 4 := Nat.pow_le_pow_right (by omega) (by omega); omega)
        have hnl := nR_le (s.drop i) k
        have hxs : xR (s.drop i) (k + 1) = xR (s.drop i) k * 64 + (digS s[i + k]).toNat := by simp only [xR, hgd]
        have hns : nR (s.drop i) (k + 1) = nR (s.drop i) k + (if 0 ≤ digS s[i + k] then 1 else 0) := by simp only [nR, hgd]
        have hdl := digS_lt s[i + k]
        have hw64 : IntKind.wrap .i64 ((xR (s.drop i) k : Int) * 64) = (xR (s.drop i) k * 64 : Nat) := by rw [wrap_id] <;> omega
        have hwn : IntKind.wrap .i64 ((nR (s.drop i) k : Int) + 1) = (nR (s.drop i) k + 1 : Nat) := by rw [wrap_id] <;> omega
        simp [u8, u6, u7, u5, u4, u0, hk4', hwik, hg, hw64, -Int.natCast_add, -Int.natCast_mul, -Int.ofNat_lt]
        refine WCall_p (f24 _ _ _) ?_
        by_cases hd : 0 ≤ digS s[i + k]
        · have hwd : IntKind.wrap .i64 ((xR (s.drop i) k * 64 : Nat) + digS s[i + k] : Int) = (xR (s.drop i) k * 64 + (digS s[i + k]).toNat : Nat) := by rw [wrap_id] <;> omega
          simp [u8, u6, u7, u5, u4, u0, hd, hwd, hwn, hwk, -Int.natCast_add, -Int.natCast_mul]
          exact ⟨k + 1, by omega, by omega, rfl, by rw [hxs], by rw [hns, if_pos hd]⟩
        · simp [u8, u6, u7, u5, u4, u0, hd, hwk, -Int.natCast_add, -Int.natCast_mul]
          exact ⟨k + 1, by omega, by omega, rfl, by rw [hxs]; congr 1; omega, by rw [hns, if_neg hd]; rfl⟩
      · have : k = 4 := by omega
        subst this
        have hxl := xR_lt (s.drop i) 4
        have hnl := nR_le (s.drop i) 4
        generalize hx : xR (s.drop i) 4 = x at u6 hxl
        generalize hn : nR (s.drop i) 4 = n at u7 hnl hst
        have hq1 : (x : Int).tdiv 65536 = (x / 65536 : Nat) := by rw [Int.tdiv_eq_ediv_of_nonneg (by omega)]; omega
        have hq2 : (x : Int).tdiv 256 = (x / 256 : Nat) := by rw [Int.tdiv_eq_ediv_of_nonneg (by omega)]; omega
        have hw1 : IntKind.wrap .i64 ((x / 65536 : Nat) : Int) = (x / 65536 : Nat) := by rw [wrap_id] <;> omega
        have hw2 : IntKind.wrap .i64 ((x / 256 : Nat) : Int) = (x / 256 : Nat) := by rw [wrap_id] <;> omega
        have htb : ∀ a b c : Nat, toBytes [[.v (.int .u8 (IntKind.wrap .u8 (a : Int)))], [.v (.int .u8 (IntKind.wrap .u8 (b : Int)))], [.v (.int .u8 (IntKind.wrap .u8 (c : Int)))]] = some [UInt8.ofNat a, UInt8.ofNat b, UInt8.ofNat c] := fun a b c => by
          rw [wrap_u8, wrap_u8, wrap_u8]; exact toBytes_bytesOf [UInt8.ofNat a, UInt8.ofNat b, UInt8.ofNat c]
        simp [u8, u6, u7, u5, u4, u0, hq1, hq2, hw1, hw2, htb, -Int.natCast_ediv]
        by_cases h2 : n < 2
        · have h2' : (n : Int) < 2 := by omega
          rw [if_pos h2] at hst
          rw [hst] at hout
          simp [u8, u6, u7, u5, u4, u0, h2', refU, hm, hout, frz_closed]
        · have h2' : ¬ (n : Int) < 2 := by omega
          rw [if_neg h2] at hst
          rw [hst] at hout
          have hwn1 : IntKind.wrap .i64 ((n : Int) - 1) = (n - 1 : Nat) := by rw [wrap_id] <;> omega
          have htr : triS (s.drop i) = [UInt8.ofNat (x / 65536), UInt8.ofNat (x / 256), UInt8.ofNat x].take (n - 1) := by simp only [triS, hx, hn]
          have htl := triS_length (s.drop i)
          rw [htr] at htl
          have hcat : strA .add out ([UInt8.ofNat (x / 65536), UInt8.ofNat (x / 256), UInt8.ofNat x].take (n - 1)) = some (.str (out ++ [UInt8.ofNat (x / 65536), UInt8.ofNat (x / 256), UInt8.ofNat x].take (n - 1))) := strA_cat (by omega)
          have hsl : sliceStr (.str [UInt8.ofNat (x / 65536), UInt8.ofNat (x / 256), UInt8.ofNat x]) none (some (.v (.int .i64 ((n - 1 : Nat) : Int)))) = some (.str ([UInt8.ofNat (x / 65536), UInt8.ofNat (x / 256), UInt8.ofNat x].take (n - 1))) := by
            rw [sliceStr_h, if_pos (by simp only [List.length_cons, List.length_nil]; omega), Int.toNat_natCast]
          rw [htr] at hout
          generalize [UInt8.ofNat (x / 65536), UInt8.ofNat (x / 256), UInt8.ofNat x].take (n - 1) = T at *
          simp [u8, u6, u7, u5, u4, u0, h2', hwn1, hsl, hcat, hw, -sliceStr_h, -strA_add, -Int.natCast_add, -Prod.exists]
          refine ⟨(i + 4, out ++ T), ?_⟩
          simp only
          refine ⟨by omega, by omega, by omega, by simp only [List.length_append]; omega, trivial, trivial, ?_⟩
          rw [hout, Option.map_map]
          congr 1
          funext z
          simp
    · have : i = s.length := by omega
      subst this
      have hrd : refD s = some out := by rw [hout, List.drop_length]; simp [refD]
      have hol := refD_length _ _ hrd
      simp [t5, t4, t0]
      refine WCall_p (f13 _ (by omega) _ _) ?_
      by_cases he : b64S out = s
      · simp [t4, t0, he, refU, hrd, frz_closed]
        simp [hm]
      · simp [t4, t0, he, refU, hrd, frz_closed, hm]
  · have hm' : ¬ ((s.length : Int)).tmod 4 = 0 := by rw [Int.tmod_eq_emod_of_nonneg (by omega)]; omega
    simp [hm', refU, hm, frz_closed]

/-! ### What is written is read. -/
theorem digS_letC {n : Nat} (h : n < 64) : digS (letC n) = n := by
  have : ((List.range 64).all fun n => digS (letC n) == (n : Int)) = true := by kernel_rfl
  simpa using List.all_eq_true.1 this n (List.mem_range.2 h)
theorem digS_eq : digS 61 = -1 := by kernel_rfl

theorem ofNat_eq {n : Nat} {c : UInt8} (h : n % 256 = c.toNat) : UInt8.ofNat n = c := by
  apply UInt8.toNat_inj.1; simpa using h

/-- Two letters are a byte. -/
theorem dec_two {r : List UInt8} {x p q : Nat} (hp : p < 64) (hq : q < 64) : ∃ x', x' % 16 = q % 16 ∧ decS (letC p :: letC q :: r) x 0 = UInt8.ofNat (p * 4 + q / 16) :: decS r x' 4 := by
  refine ⟨(((x * 64 + p) % 65536) * 64 + q) % 65536, by omega, ?_⟩
  simp only [decS, digS_letC hp, digS_letC hq, Int.toNat_natCast]
  rw [if_neg (by omega), if_pos (by omega), if_neg (by omega), if_neg (by omega)]
  congr 1
  apply UInt8.toNat_inj.1
  simp
  omega
/-- A third letter: a byte more. -/
theorem dec_three {r : List UInt8} {x q t : Nat} (hq : x % 16 = q % 16) (ht : t < 64) : ∃ x', x' % 4 = t % 4 ∧ decS (letC t :: r) x 4 = UInt8.ofNat (q % 16 * 16 + t / 4) :: decS r x' 2 := by
  refine ⟨(x * 64 + t) % 65536, by omega, ?_⟩
  simp only [decS, digS_letC ht, Int.toNat_natCast]
  rw [if_neg (by omega), if_neg (by omega)]
  congr 1
  apply UInt8.toNat_inj.1
  simp
  omega
theorem dec_four {r : List UInt8} {x t u : Nat} (hq : x % 4 = t % 4) (hu : u < 64) : ∃ x', decS (letC u :: r) x 2 = UInt8.ofNat (t % 4 * 64 + u) :: decS r x' 0 := by
  refine ⟨(x * 64 + u) % 65536, ?_⟩
  simp only [decS, digS_letC hu, Int.toNat_natCast]
  rw [if_neg (by omega), if_neg (by omega)]
  congr 1
  apply UInt8.toNat_inj.1
  simp
  omega
theorem dec_end {r : List UInt8} {x n : Nat} : decS (61 :: r) x n = [] := by
  simp [decS, digS_eq]

theorem decS_b64S : ∀ (b : List UInt8) (x : Nat), decS (b64S b) x 0 = b
  | [], x => rfl
  | [a], x => by
    have ha := a.toNat_lt
    obtain ⟨x1, h1, e1⟩ := dec_two (r := [61, 61]) (x := x) (p := numS [a] / 262144 % 64) (q := numS [a] / 4096 % 64) (by omega) (by omega)
    have : b64S [a] = letC (numS [a] / 262144 % 64) :: letC (numS [a] / 4096 % 64) :: [61, 61] := rfl
    rw [this, e1, dec_end]
    congr 1
    refine ofNat_eq ?_
    have : numS [a] = a.toNat * 65536 := by simp [numS, byteN]
    rw [this]; omega
  | [a, b], x => by
    have ha := a.toNat_lt
    have hb := b.toNat_lt
    obtain ⟨x1, h1, e1⟩ := dec_two (r := [letC (numS [a, b] / 64 % 64), 61]) (x := x) (p := numS [a, b] / 262144 % 64) (q := numS [a, b] / 4096 % 64) (by omega) (by omega)
    obtain ⟨x2, h2, e2⟩ := dec_three (r := [61]) (t := numS [a, b] / 64 % 64) h1 (by omega)
    have : b64S [a, b] = letC (numS [a, b] / 262144 % 64) :: letC (numS [a, b] / 4096 % 64) :: letC (numS [a, b] / 64 % 64) :: [61] := rfl
    rw [this, e1, e2, dec_end]
    have : numS [a, b] = a.toNat * 65536 + b.toNat * 256 := by simp [numS, byteN]
    rw [this]
    congr 1
    · exact ofNat_eq (by omega)
    · congr 1
      exact ofNat_eq (by omega)
  | a :: b :: c :: r, x => by
    have ha := a.toNat_lt
    have hb := b.toNat_lt
    have hc := c.toNat_lt
    have hN : numS [a, b, c] = a.toNat * 65536 + b.toNat * 256 + c.toNat := by simp [numS, byteN]
    generalize hn : numS [a, b, c] = n at hN
    obtain ⟨x1, h1, e1⟩ := dec_two (r := letC (n / 64 % 64) :: letC (n % 64) :: b64S r) (x := x) (p := n / 262144 % 64) (q := n / 4096 % 64) (by omega) (by omega)
    obtain ⟨x2, h2, e2⟩ := dec_three (r := letC (n % 64) :: b64S r) (t := n / 64 % 64) h1 (by omega)
    obtain ⟨x3, e3⟩ := dec_four (r := b64S r) (u := n % 64) h2 (by omega)
    have : b64S (a :: b :: c :: r) = letC (n / 262144 % 64) :: letC (n / 4096 % 64) :: letC (n / 64 % 64) :: letC (n % 64) :: b64S r := by
      subst hn
      simp [b64S, quadS, quadC]
    rw [this, e1, e2, e3, decS_b64S r x3]
    congr 1
    · exact ofNat_eq (by omega)
    · congr 1
      · exact ofNat_eq (by omega)
      · congr 1
        exact ofNat_eq (by omega)

theorem xR_2 {p q : Nat} (hp : p < 64) (hq : q < 64) : xR [letC p, letC q, 61, 61] 4 = ((p * 64 + q) * 64) * 64 ∧ nR [letC p, letC q, 61, 61] 4 = 2 := by
  constructor
  · simp [xR, digS_letC hp, digS_letC hq, digS_eq]
  · simp [nR, digS_letC hp, digS_letC hq, digS_eq]
theorem xR_3 {p q t : Nat} (hp : p < 64) (hq : q < 64) (ht : t < 64) : xR [letC p, letC q, letC t, 61] 4 = ((p * 64 + q) * 64 + t) * 64 ∧ nR [letC p, letC q, letC t, 61] 4 = 3 := by
  constructor
  · simp [xR, digS_letC hp, digS_letC hq, digS_letC ht, digS_eq]
  · simp [nR, digS_letC hp, digS_letC hq, digS_letC ht, digS_eq]
theorem xR_4 {p q t u : Nat} (hp : p < 64) (hq : q < 64) (ht : t < 64) (hu : u < 64) : xR [letC p, letC q, letC t, letC u] 4 = ((p * 64 + q) * 64 + t) * 64 + u ∧ nR [letC p, letC q, letC t, letC u] 4 = 4 := by
  constructor
  · simp [xR, digS_letC hp, digS_letC hq, digS_letC ht, digS_letC hu]
  · simp [nR, digS_letC hp, digS_letC hq, digS_letC ht, digS_letC hu]
theorem refD_b64S : ∀ b : List UInt8, refD (b64S b) = some b
  | [] => rfl
  | [a] => by
    have ha := a.toNat_lt
    have hN : numS [a] = a.toNat * 65536 := by simp [numS, byteN]
    have : b64S [a] = [letC (numS [a] / 262144 % 64), letC (numS [a] / 4096 % 64), 61, 61] := rfl
    rw [this]
    generalize numS [a] = n at hN
    obtain ⟨hx, hn⟩ := xR_2 (p := n / 262144 % 64) (q := n / 4096 % 64) (by omega) (by omega)
    simp only [refD, triS, hx, hn]
    simp
    exact ofNat_eq (by omega)
  | [a, b] => by
    have ha := a.toNat_lt
    have hb := b.toNat_lt
    have hN : numS [a, b] = a.toNat * 65536 + b.toNat * 256 := by simp [numS, byteN]
    have : b64S [a, b] = [letC (numS [a, b] / 262144 % 64), letC (numS [a, b] / 4096 % 64), letC (numS [a, b] / 64 % 64), 61] := rfl
    rw [this]
    generalize numS [a, b] = n at hN
    obtain ⟨hx, hn⟩ := xR_3 (p := n / 262144 % 64) (q := n / 4096 % 64) (t := n / 64 % 64) (by omega) (by omega) (by omega)
    simp only [refD, triS, hx, hn]
    simp
    exact ⟨ofNat_eq (by omega), ofNat_eq (by omega)⟩
  | a :: b :: c :: r => by
    have ha := a.toNat_lt
    have hb := b.toNat_lt
    have hc := c.toNat_lt
    have hN : numS [a, b, c] = a.toNat * 65536 + b.toNat * 256 + c.toNat := by simp [numS, byteN]
    have : b64S (a :: b :: c :: r) = letC (numS [a, b, c] / 262144 % 64) :: letC (numS [a, b, c] / 4096 % 64) :: letC (numS [a, b, c] / 64 % 64) :: letC (numS [a, b, c] % 64) :: b64S r := by
      simp [b64S, quadS, quadC]
    rw [this]
    generalize numS [a, b, c] = n at hN
    obtain ⟨hx, hn⟩ := xR_4 (p := n / 262144 % 64) (q := n / 4096 % 64) (t := n / 64 % 64) (u := n % 64) (by omega) (by omega) (by omega) (by omega)
    have hx' : xR [letC (n / 262144 % 64), letC (n / 4096 % 64), letC (n / 64 % 64), letC (n % 64)] 4 = n := by rw [hx]; omega
    simp only [refD, triS, hx', hn, refD_b64S r]
    simp
    exact ⟨ofNat_eq (by omega), ofNat_eq (by omega), ofNat_eq (by omega)⟩

/-- The two read the same. -/
theorem refU_eq (s : List UInt8) : refU s = unS s := by
  simp only [refU, unS]
  by_cases h : b64S (decS s 0 0) = s
  · have h1 : refD s = some (decS s 0 0) := by
      have := refD_b64S (decS s 0 0)
      rwa [h] at this
    have h2 : s.length % 4 = 0 := by
      have := b64S_length (decS s 0 0)
      rw [h] at this; omega
    rw [if_pos h, if_pos h2, h1]
    simp [h]
  · rw [if_neg h]
    split
    · cases hr : refD s with
      | none => rfl
      | some out =>
        simp only
        rw [if_neg]
        intro he
        apply h
        have := decS_b64S out 0
        rw [he] at this
        rw [this, he]
    · rfl
end Go.Ai
