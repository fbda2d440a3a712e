/- Base64, and the document's. -/
import Derived.Test.YtdhbiimmifedmaaA
namespace Go.Ai
set_option linter.unusedVariables false
set_option linter.unusedSimpArgs false

def byteN (l : List UInt8) (k : Nat) : Nat := (l.getD k 0).toNat
theorem byteN_lt (l : List UInt8) (k : Nat) : byteN l k < 256 := (l.getD k 0).toNat_lt
theorem byteN_out {l : List UInt8} {k : Nat} (h : l.length ≤ k) : byteN l k = 0 := by simp [byteN, List.getD, List.getElem?_eq_none h]
theorem byteN_get {l : List UInt8} {k : Nat} (h : k < l.length) : byteN l k = l[k].toNat := by simp [byteN, List.getD, List.getElem?_eq_getElem h]

/-- Three bytes as a number. -/
def numS (l : List UInt8) : Nat := byteN l 0 * 65536 + byteN l 1 * 256 + byteN l 2
theorem numS_lt (l : List UInt8) : numS l < 16777216 := by
  have := byteN_lt l 0; have := byteN_lt l 1; have := byteN_lt l 2
  simp only [numS]; omega
/-- Its four letters. -/
def quadC (l : List UInt8) (k : Nat) : UInt8 := if k ≤ l.length then letC (numS l / 2 ^ (18 - 6 * k) % 64) else 61
def quadS (l : List UInt8) : List UInt8 := [quadC l 0, quadC l 1, quadC l 2, quadC l 3]
def b64S : List UInt8 → List UInt8
  | [] => []
  | [a] => quadS [a]
  | [a, b] => quadS [a, b]
  | a :: b :: c :: r => quadS [a, b, c] ++ b64S r
theorem numS_take (l : List UInt8) : numS (l.take 3) = numS l := by
  simp [numS, byteN, List.getElem?_take]
theorem quadS_take (l : List UInt8) : quadS (l.take 3) = quadS l := by
  simp only [quadS, quadC, numS_take, List.length_take]
  have : ∀ k, k ≤ 3 → (k ≤ min 3 l.length ↔ k ≤ l.length) := fun k hk => by omega
  simp [this]
theorem b64S_step {l : List UInt8} (h : l ≠ []) : b64S l = quadS l ++ b64S (l.drop 3) := by
  match l, h with
  | [a], _ => simp [b64S]
  | [a, b], _ => simp [b64S]
  | a :: b :: c :: r, _ => simp only [b64S, List.drop_succ_cons, List.drop_zero]; rw [← quadS_take (a :: b :: c :: r)]; rfl
theorem b64S_length : ∀ l : List UInt8, (b64S l).length = (l.length + 2) / 3 * 4
  | [] => rfl
  | [a] => by simp [b64S, quadS]
  | [a, b] => by simp [b64S, quadS]
  | a :: b :: c :: r => by
    simp only [b64S, List.length_append, b64S_length r, List.length_cons, quadS, List.length_nil]; omega
theorem byteN_drop (l : List UInt8) (i k : Nat) : byteN (l.drop i) k = byteN l (i + k) := by simp [byteN, List.getD]

theorem qn0 {x y z : Nat} (hx : x < 256) (hy : y < 256) (hz : z < 256) : (((x : Int) * 65536 + (y : Int) * 256 + (z : Int)) / 262144).toNat = (x * 65536 + y * 256 + z) / 2 ^ 18 % 64 := by omega
theorem qn1 {x y z : Nat} : (((x : Int) * 65536 + (y : Int) * 256 + (z : Int)) / 4096 % 64).toNat = (x * 65536 + y * 256 + z) / 2 ^ 12 % 64 := by omega
theorem qn2 {x y z : Nat} : (((x : Int) * 65536 + (y : Int) * 256 + (z : Int)) / 64 % 64).toNat = (x * 65536 + y * 256 + z) / 2 ^ 6 % 64 := by omega
theorem qn3 {x y z : Nat} : (((x : Int) * 65536 + (y : Int) * 256 + (z : Int)) % 64).toNat = (x * 65536 + y * 256 + z) / 2 ^ 0 % 64 := by omega
theorem qp0 {x y : Nat} (hx : x < 256) (hy : y < 256) : (((x : Int) * 65536 + (y : Int) * 256) / 262144).toNat = (x * 65536 + y * 256 + 0) / 2 ^ 18 % 64 := by omega
theorem qp1 {x y : Nat} (hx : x < 256) (hy : y < 256) : (((x : Int) * 65536 + (y : Int) * 256) / 4096 % 64).toNat = (x * 65536 + y * 256 + 0) / 2 ^ 12 % 64 := by omega
theorem qp2 {x y : Nat} (hx : x < 256) (hy : y < 256) : (((x : Int) * 65536 + (y : Int) * 256) / 64 % 64).toNat = (x * 65536 + y * 256 + 0) / 2 ^ 6 % 64 := by omega
theorem qr0 {x : Nat} (hx : x < 256) : (((x : Int) * 65536) / 262144).toNat = (x * 65536 + 0 * 256 + 0) / 2 ^ 18 % 64 := by omega
theorem qr1 {x : Nat} (hx : x < 256) : (((x : Int) * 65536) / 4096 % 64).toNat = (x * 65536 + 0 * 256 + 0) / 2 ^ 12 % 64 := by omega
theorem qr2 {x : Nat} (hx : x < 256) : (((x : Int) * 65536) / 64 % 64).toNat = (x * 65536 + 0 * 256 + 0) / 2 ^ 6 % 64 := by omega
theorem f13 (b : List UInt8) (hb : b.length ≤ 100000) (hp nx) : Ret E 13 [.str b] hp nx (.str (b64S b)) hp nx .p := by
  refine Ret_pureQ e13 rfl (by simp) ?_ hp nx
  simp [c13]
  refine W_loopI (I := fun (q : Nat × List UInt8) s => q.1 ≤ b.length + 2 ∧ s.tm 4 = .int .i64 q.1 ∧ s.tm 3 = .str q.2 ∧ s.tm 0 = .str b ∧ s.hp = hnil ∧ s.nx = 0 ∧ q.2 ++ b64S (b.drop q.1) = b64S b) (fun q => b.length + 3 - q.1) (0, []) (by simp) ?_
  rintro ⟨i, out⟩ tm hp nx ⟨hj, t4, t3, t0, rfl, rfl, hout⟩
  simp only at t4 t3 t0 hj hout
  by_cases hlt : i < b.length
  · have hol : out.length + (b64S (b.drop i)).length = (b64S b).length := by rw [← hout]; simp
    rw [b64S_length] at hol
    rw [b64S_length] at hol
    have hlt' : (i : Int) < b.length := by omega
    have hw : IntKind.wrap .i64 ((i : Int) + 3) = (i + 3 : Nat) := by rw [wrap_id] <;> omega
    have hw1 : IntKind.wrap .i64 ((i : Int) + 1) = (i + 1 : Nat) := by rw [wrap_id] <;> omega
    have hw2 : IntKind.wrap .i64 ((i : Int) + 2) = (i + 2 : Nat) := by rw [wrap_id] <;> omega
    have hs := b64S_step (l := b.drop i) (by simp; omega)
    rw [List.drop_drop] at hs
    have hg0 : b[i]? = some b[i] := List.getElem?_eq_getElem hlt
    have hl0 := b[i].toNat_lt
    have hn0 : byteN (b.drop i) 0 = b[i].toNat := by rw [byteN_drop]; exact byteN_get hlt
    by_cases h1 : i + 1 < b.length
    · have h1' : ((i + 1 : Nat) : Int) < b.length := by omega
      have hg1 : b[i + 1]? = some b[i + 1] := List.getElem?_eq_getElem h1
      have hl1 := b[i + 1].toNat_lt
      have hn1 : byteN (b.drop i) 1 = b[i + 1].toNat := by rw [byteN_drop]; exact byteN_get h1
      by_cases h2 : i + 2 < b.length
      · have h2' : ((i + 2 : Nat) : Int) < b.length := by omega
        have hg2 : b[i + 2]? = some b[i + 2] := List.getElem?_eq_getElem h2
        have hl2 := b[i + 2].toNat_lt
        have hn2 : byteN (b.drop i) 2 = b[i + 2].toNat := by rw [byteN_drop]; exact byteN_get h2
        simp (disch := (first | omega | (simp only [List.length_append, List.length_cons, List.length_nil]; omega))) [-strA_add, strA_cat, t4, t3, t0, hlt', hw, hw1, hw2, h1', h2', hg1, hg2, hg0, wrap_id, Int.tdiv_eq_ediv_of_nonneg, Int.tmod_eq_emod_of_nonneg, -Int.natCast_add, -Int.ofNat_lt]
        refine WCall_p (f25i _ (by omega) (by omega) _ _) ?_
        simp (disch := (first | omega | (simp only [List.length_append, List.length_cons, List.length_nil]; omega))) [-strA_add, strA_cat, t4, t3, t0, hlt', hw, hw1, hw2, h1', h2', hg1, hg2, hg0, wrap_id, Int.tdiv_eq_ediv_of_nonneg, Int.tmod_eq_emod_of_nonneg, -Int.natCast_add, -Int.ofNat_lt]
        refine WCall_p (f25i _ (by omega) (by omega) _ _) ?_
        simp (disch := (first | omega | (simp only [List.length_append, List.length_cons, List.length_nil]; omega))) [-strA_add, strA_cat, t4, t3, t0, hlt', hw, hw1, hw2, h1', h2', hg1, hg2, hg0, wrap_id, Int.tdiv_eq_ediv_of_nonneg, Int.tmod_eq_emod_of_nonneg, -Int.natCast_add, -Int.ofNat_lt]
        refine WCall_p (f25i _ (by omega) (by omega) _ _) ?_
        simp (disch := (first | omega | (simp only [List.length_append, List.length_cons, List.length_nil]; omega))) [-strA_add, strA_cat, t4, t3, t0, hlt', hw, hw1, hw2, h1', h2', hg1, hg2, hg0, wrap_id, Int.tdiv_eq_ediv_of_nonneg, Int.tmod_eq_emod_of_nonneg, -Int.natCast_add, -Int.ofNat_lt]
        refine WCall_p (f25i _ (by omega) (by omega) _ _) ?_
        simp (disch := (first | omega | (simp only [List.length_append, List.length_cons, List.length_nil]; omega))) [-strA_add, strA_cat, t4, t3, t0, hlt', hw, hw1, hw2, h1', h2', hg1, hg2, hg0, wrap_id, Int.tdiv_eq_ediv_of_nonneg, Int.tmod_eq_emod_of_nonneg, -Int.natCast_add, -Int.ofNat_lt]
        refine ⟨i + 3, by omega, by omega, rfl, ?_⟩
        have hln : (b.drop i).length = b.length - i := List.length_drop
        rw [← hout, hs]
        have hq : quadS (b.drop i) = [letC (numS (b.drop i) / 2 ^ 18 % 64), letC (numS (b.drop i) / 2 ^ 12 % 64), letC (numS (b.drop i) / 2 ^ 6 % 64), letC (numS (b.drop i) / 2 ^ 0 % 64)] := by
          simp only [quadS, quadC]
          rw [if_pos (by omega), if_pos (by omega), if_pos (by omega), if_pos (by omega)]
        rw [hq]
        simp only [List.cons_append, List.nil_append, numS, hn0, hn1, hn2]
        congr 1
        rw [qn0 hl0 hl1 hl2, qn1, qn2, qn3]
      · have h2' : ¬ ((i + 2 : Nat) : Int) < b.length := by omega
        have hn2 : byteN (b.drop i) 2 = 0 := by rw [byteN_drop]; exact byteN_out (by omega)
        simp (disch := (first | omega | (simp only [List.length_append, List.length_cons, List.length_nil]; omega))) [-strA_add, strA_cat, t4, t3, t0, hlt', hw, hw1, hw2, h1', h2', hg1, hg0, wrap_id, Int.tdiv_eq_ediv_of_nonneg, Int.tmod_eq_emod_of_nonneg, -Int.natCast_add, -Int.ofNat_lt]
        refine WCall_p (f25i _ (by omega) (by omega) _ _) ?_
        simp (disch := (first | omega | (simp only [List.length_append, List.length_cons, List.length_nil]; omega))) [-strA_add, strA_cat, t4, t3, t0, hlt', hw, hw1, hw2, h1', h2', hg1, hg0, wrap_id, Int.tdiv_eq_ediv_of_nonneg, Int.tmod_eq_emod_of_nonneg, -Int.natCast_add, -Int.ofNat_lt]
        refine WCall_p (f25i _ (by omega) (by omega) _ _) ?_
        simp (disch := (first | omega | (simp only [List.length_append, List.length_cons, List.length_nil]; omega))) [-strA_add, strA_cat, t4, t3, t0, hlt', hw, hw1, hw2, h1', h2', hg1, hg0, wrap_id, Int.tdiv_eq_ediv_of_nonneg, Int.tmod_eq_emod_of_nonneg, -Int.natCast_add, -Int.ofNat_lt]
        refine WCall_p (f25i _ (by omega) (by omega) _ _) ?_
        simp (disch := (first | omega | (simp only [List.length_append, List.length_cons, List.length_nil]; omega))) [-strA_add, strA_cat, t4, t3, t0, hlt', hw, hw1, hw2, h1', h2', hg1, hg0, wrap_id, Int.tdiv_eq_ediv_of_nonneg, Int.tmod_eq_emod_of_nonneg, -Int.natCast_add, -Int.ofNat_lt]
        refine ⟨i + 3, by omega, by omega, rfl, ?_⟩
        have hln : (b.drop i).length = b.length - i := List.length_drop
        rw [← hout, hs]
        have hq : quadS (b.drop i) = [letC (numS (b.drop i) / 2 ^ 18 % 64), letC (numS (b.drop i) / 2 ^ 12 % 64), letC (numS (b.drop i) / 2 ^ 6 % 64), 61] := by
          simp only [quadS, quadC]
          rw [if_pos (by omega), if_pos (by omega), if_pos (by omega), if_neg (by omega)]
        rw [hq]
        simp only [List.cons_append, List.nil_append, numS, hn0, hn1, hn2]
        congr 1
        rw [qp0 hl0 hl1, qp1 hl0 hl1, qp2 hl0 hl1]
    · have h1' : ¬ ((i + 1 : Nat) : Int) < b.length := by omega
      have h2' : ¬ ((i + 2 : Nat) : Int) < b.length := by omega
      have hn1 : byteN (b.drop i) 1 = 0 := by rw [byteN_drop]; exact byteN_out (by omega)
      have hn2 : byteN (b.drop i) 2 = 0 := by rw [byteN_drop]; exact byteN_out (by omega)
      simp (disch := (first | omega | (simp only [List.length_append, List.length_cons, List.length_nil]; omega))) [-strA_add, strA_cat, t4, t3, t0, hlt', hw, hw1, hw2, h1', h2', hg0, wrap_id, Int.tdiv_eq_ediv_of_nonneg, Int.tmod_eq_emod_of_nonneg, -Int.natCast_add, -Int.ofNat_lt]
      refine WCall_p (f25i _ (by omega) (by omega) _ _) ?_
      simp (disch := (first | omega | (simp only [List.length_append, List.length_cons, List.length_nil]; omega))) [-strA_add, strA_cat, t4, t3, t0, hlt', hw, hw1, hw2, h1', h2', hg0, wrap_id, Int.tdiv_eq_ediv_of_nonneg, Int.tmod_eq_emod_of_nonneg, -Int.natCast_add, -Int.ofNat_lt]
      refine WCall_p (f25i _ (by omega) (by omega) _ _) ?_
      simp (disch := (first | omega | (simp only [List.length_append, List.length_cons, List.length_nil]; omega))) [-strA_add, strA_cat, t4, t3, t0, hlt', hw, hw1, hw2, h1', h2', hg0, wrap_id, Int.tdiv_eq_ediv_of_nonneg, Int.tmod_eq_emod_of_nonneg, -Int.natCast_add, -Int.ofNat_lt]
      refine ⟨i + 3, by omega, by omega, rfl, ?_⟩
      have hln : (b.drop i).length = b.length - i := List.length_drop
      rw [← hout, hs]
      have hq : quadS (b.drop i) = [letC (numS (b.drop i) / 2 ^ 18 % 64), letC (numS (b.drop i) / 2 ^ 12 % 64), 61, 61] := by
        simp only [quadS, quadC]
        rw [if_pos (by omega), if_pos (by omega), if_neg (by omega), if_neg (by omega)]
      rw [hq]
      simp only [List.cons_append, List.nil_append, numS, hn0, hn1, hn2]
      congr 1
      rw [qr0 hl0, qr1 hl0]
  · have hlt' : ¬ (i : Int) < b.length := by omega
    simp [t4, t3, t0, hlt', -Int.ofNat_lt]
    rw [List.drop_eq_nil_of_le (by omega)] at hout
    simpa [b64S] using hout
end Go.Ai
