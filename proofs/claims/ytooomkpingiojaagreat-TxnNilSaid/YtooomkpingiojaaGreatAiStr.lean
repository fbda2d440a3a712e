/- Texts: cuts, bytes, sums, shifts; loops one round at a time. -/
import Derived.Test.YtooomkpingiojaaGreatAiLib
namespace Go.Ai
set_option linter.unusedVariables false
set_option linter.unusedSimpArgs false

@[simp] theorem sliceStr_lh {s : List UInt8} {k k' : IntKind} {i j : Int} : sliceStr (.str s) (some (.v (.int k i))) (some (.v (.int k' j))) = if (0 ≤ j ∧ j ≤ s.length) ∧ 0 ≤ i ∧ i ≤ j then some (.str ((s.take j.toNat).drop i.toNat)) else none := by
  simp only [sliceStr, boundsA, idxOf]
  by_cases h1 : 0 ≤ j ∧ j ≤ s.length
  · simp [h1]
    by_cases h2 : 0 ≤ i ∧ i ≤ j
    · have : i ≤ max j 0 := by omega
      simp [h2, this]
    · have : ¬ (0 ≤ i ∧ i ≤ max j 0) := by omega
      simp [h2, this]
  · simp [h1]
@[simp] theorem sliceStr_l {s : List UInt8} {k : IntKind} {i : Int} : sliceStr (.str s) (some (.v (.int k i))) none = if 0 ≤ i ∧ i ≤ s.length then some (.str (s.drop i.toNat)) else none := by
  simp only [sliceStr, boundsA, idxOf]
  by_cases h1 : 0 ≤ i ∧ i ≤ s.length
  · simp [h1]
  · simp [h1]
@[simp] theorem sliceStr_h {s : List UInt8} {k : IntKind} {j : Int} : sliceStr (.str s) none (some (.v (.int k j))) = if 0 ≤ j ∧ j ≤ s.length then some (.str (s.take j.toNat)) else none := by
  simp only [sliceStr, boundsA, idxOf]
  by_cases h1 : 0 ≤ j ∧ j ≤ s.length
  · simp [h1]
  · simp [h1]

theorem strA_cat {a b : List UInt8} (h : a.length + b.length ≤ 9223372036854775807) : strA .add a b = some (.str (a ++ b)) := by rw [strA_add, if_pos h]
theorem wrap_nat {n : Nat} (h : n ≤ 9223372036854775807) : IntKind.wrap .i64 (n : Int) = n := wrap_id (by omega) (by omega)
theorem wrap_u8 {n : Nat} : IntKind.wrap .u8 (n : Int) = ((UInt8.ofNat n).toNat : Int) := by
  simp [IntKind.wrap]
  rw [if_neg (by simp [IntKind.signed])]
  rfl
theorem shl_nat {n k : Nat} (hk : k ≤ 60) (h : n * 2 ^ k ≤ 9223372036854775807) : shA .shl .i64 (n : Int) (k : Int) = some (.v (.int .i64 (n * 2 ^ k : Nat))) := by
  have h1 : Nat.min k IntKind.i64.bits = k := by show min k 64 = k; omega
  have h2 : ¬ (k : Int) < 0 := by omega
  simp only [shA, if_neg h2, Int.toNat_natCast, h1]
  rw [show (n : Int) * 2 ^ k = ((n * 2 ^ k : Nat) : Int) by simp, wrap_nat h]
theorem shr_nat {n k : Nat} (hk : k ≤ 60) : shA .shr .i64 (n : Int) (k : Int) = some (.v (.int .i64 (n / 2 ^ k : Nat))) := by
  have h1 : Nat.min k IntKind.i64.bits = k := by show min k 64 = k; omega
  have h2 : ¬ (k : Int) < 0 := by omega
  simp only [shA, if_neg h2, Int.toNat_natCast, h1]
  rw [show ((2 : Int) ^ k) = ((2 ^ k : Nat) : Int) by simp, Int.fdiv_eq_ediv_of_nonneg _ (Int.natCast_nonneg _)]
  simp
theorem and_nat {n k : Nat} (h : n ≤ 9223372036854775807) (hk : k ≤ 60) : binA .and (.v (.int .i64 (n : Int))) (.v (.int .i64 ((2 ^ k - 1 : Nat) : Int))) = some (.v (.int .i64 (n % 2 ^ k : Nat))) := by
  have hp : 2 ^ k ≤ 2 ^ 60 := Nat.pow_le_pow_right (by omega) hk
  have hp0 : 0 < 2 ^ k := Nat.two_pow_pos k
  rw [binA_and]
  have : (BitVec.ofInt IntKind.i64.bits (n : Int) &&& BitVec.ofInt IntKind.i64.bits ((2 ^ k - 1 : Nat) : Int)).toNat = n % 2 ^ k := by
    show (BitVec.ofInt 64 (n : Int) &&& BitVec.ofInt 64 ((2 ^ k - 1 : Nat) : Int)).toNat = _
    rw [BitVec.toNat_and, BitVec.ofInt_natCast, BitVec.ofInt_natCast, BitVec.toNat_ofNat, BitVec.toNat_ofNat, Nat.mod_eq_of_lt (by omega), Nat.mod_eq_of_lt (a := 2 ^ k - 1) (by omega), Nat.and_two_pow_sub_one_eq_mod]
  rw [this, wrap_nat (by have := Nat.mod_lt n hp0; omega)]
theorem or_nat {n k m : Nat} (hm : m < 2 ^ k) (hk : k ≤ 60) (h : n * 2 ^ k + m ≤ 9223372036854775807) : binA .or (.v (.int .i64 ((n * 2 ^ k : Nat) : Int))) (.v (.int .i64 (m : Int))) = some (.v (.int .i64 (n * 2 ^ k + m : Nat))) := by
  rw [binA_or]
  have : (BitVec.ofInt IntKind.i64.bits ((n * 2 ^ k : Nat) : Int) ||| BitVec.ofInt IntKind.i64.bits (m : Int)).toNat = n * 2 ^ k + m := by
    show (BitVec.ofInt 64 ((n * 2 ^ k : Nat) : Int) ||| BitVec.ofInt 64 (m : Int)).toNat = _
    rw [BitVec.toNat_or, BitVec.ofInt_natCast, BitVec.ofInt_natCast, BitVec.toNat_ofNat, BitVec.toNat_ofNat, Nat.mod_eq_of_lt (by omega), Nat.mod_eq_of_lt (a := m) (by omega), Nat.mul_comm, ← Nat.two_pow_add_eq_or_of_lt hm]
  rw [this, wrap_nat h]

/-- A byte more. -/
theorem mvE_byte {K : AV → Heap → Nat → Kd → Prop} {hp : Heap} {nx : Nat} {l : List UInt8} {y : AV} {c : UInt8} {n : Int} (hc : n = c.toNat) (h : OwnS hp nx 1 (bytesOf l) y) (hl : l.length < 1000000000)
    (k : ∀ hp', OwnS hp' (nx + 1) 1 (bytesOf (l ++ [c])) (.sl nx 1 0 (l.length + 1) none) → (∀ q, q ≠ nx → q ∉ slB y → hp' q = hp q) → K (.sl nx 1 0 (l.length + 1) none) hp' (nx + 1) .e) : mvE (appA 1 1 y [[.v (.int .u8 n)]] hp nx) K := by
  subst hc
  have hb : (bytesOf l).length = l.length := by simp [bytesOf]
  refine mvE_app h (by simp) (by simp [hb]; omega) fun hp' h1 h2 => ?_
  simp only [hb, List.length_cons, List.length_nil, Nat.zero_add]
  refine k hp' (.inr ⟨nx, by omega, by simp [bytesOf], ?_⟩) h2
  rw [h1]; simp [bytesOf]
/-- Some bytes more. -/
theorem mvE_bytes {K : AV → Heap → Nat → Kd → Prop} {hp : Heap} {nx : Nat} {l m : List UInt8} {y : AV} (h : OwnS hp nx 1 (bytesOf l) y) (hl : l.length + m.length < 1000000000)
    (k : ∀ y' hp' nx', nx ≤ nx' → OwnS hp' nx' 1 (bytesOf (l ++ m)) y' → (∀ q, q < nx → q ∉ slB y → hp' q = hp q) → (∀ q ∈ slB y', q ∈ slB y ∨ nx ≤ q) → K y' hp' nx' .e) (hm : m ≠ []) : mvE (appA 1 1 y (bytesOf m) hp nx) K := by
  have hb : (bytesOf l).length = l.length := by simp [bytesOf]
  have hb2 : (bytesOf m).length = m.length := by simp [bytesOf]
  refine mvE_app h (by intro e; apply hm; simpa [bytesOf] using e) (by rw [hb, hb2]; omega) fun hp' h1 h2 => ?_
  rw [hb, hb2]
  refine k _ hp' _ (Nat.le_succ nx) (.inr ⟨nx, by omega, by simp [bytesOf], ?_⟩) (fun q h3 h4 => h2 q (by omega) h4) (fun q hq => .inr (by simp at hq; omega))
  rw [h1]; simp [bytesOf]
theorem bytesOf_len {l : List UInt8} : (bytesOf l).length = l.length := by simp [bytesOf]
/-- The bytes as a text. -/
theorem OwnS.b2s {K : AV → Heap → Nat → Kd → Prop} {hp : Heap} {nx : Nat} {l : List UInt8} {y : AV} (h : OwnS hp nx 1 (bytesOf l) y) (k : ∀ kd, K (.str l) hp nx kd) : b2sP y hp nx K := by
  rcases h with ⟨b, z, c, rfl, h1, h2, _⟩ | ⟨r, h1, rfl, h2⟩
  · simp only [b2sP, if_pos h1, toBytes_bytesOf, Option.map_some, mvA_some]; exact k _
  · simp only [b2sP, h2]
    rw [if_pos ⟨trivial, by omega⟩, List.drop_zero, List.take_length, toBytes_bytesOf]
    exact k _
end Go.Ai
