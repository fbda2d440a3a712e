/- Letters of base 64. -/
import Derived.Test.YtdhbiimmifedmaaC
import Derived.Test.YtdhbiimmifedmaaAiStr
namespace Go.Ai
set_option linter.unusedVariables false
set_option linter.unusedSimpArgs false

def lets : List UInt8 := [65, 66, 67, 68, 69, 70, 71, 72, 73, 74, 75, 76, 77, 78, 79, 80, 81, 82, 83, 84, 85, 86, 87, 88, 89, 90, 97, 98, 99, 100, 101, 102, 103, 104, 105, 106, 107, 108, 109, 110, 111, 112, 113, 114, 115, 116, 117, 118, 119, 120, 121, 122, 48, 49, 50, 51, 52, 53, 54, 55, 56, 57, 43, 47]
theorem lets_eq : [65, 66, 67, 68, 69, 70, 71, 72, 73, 74, 75, 76, 77, 78, 79, 80, 81, 82, 83, 84, 85, 86, 87, 88, 89, 90, 97, 98, 99, 100, 101, 102, 103, 104, 105, 106, 107, 108, 109, 110, 111, 112, 113, 114, 115, 116, 117, 118, 119, 120, 121, 122, 48, 49, 50, 51, 52, 53, 54, 55, 56, 57, 43, 47] = lets := rfl
@[simp] theorem lets_length : lets.length = 64 := rfl
def letC (n : Nat) : UInt8 := lets.getD n 0
theorem lets_get {n : Nat} (h : n < 64) : lets[n]? = some (letC n) := by
  simp [letC, List.getD, List.getElem?_eq_getElem (show n < lets.length from h)]

theorem f37 (l : List UInt8) (n : Int) (hp nx) : Ret E 37 [.str l, .v (.int .u8 n)] hp nx (.v (.int .i64 (Lib.indexByte l n.toNat.toUInt8))) hp nx .p := by
  refine Ret_pureQ e37 rfl (by simp) ?_ hp nx
  simp [c37]
  exact WCall_p (Ret_idxb rfl ext50 _ _ _ _) (by simp)
theorem f23 (l : List UInt8) (n : Int) (hp nx) : Ret E 23 [.str l, .v (.int .u8 n)] hp nx (.v (.int .i64 (Lib.indexByte l n.toNat.toUInt8))) hp nx .p := by
  refine Ret_pureQ e23 rfl (by simp) ?_ hp nx
  simp [c23]
  exact WCall_p (f37 _ _ _ _) (by simp)

theorem take_pre : ∀ (a b : List UInt8), b.length ≤ a.length → decide (a.take b.length = b) = b.isPrefixOf a
  | _, [], _ => by simp
  | [], y :: b, h => by simp at h
  | x :: a, y :: b, h => by
    have ih := take_pre a b (by simpa using h)
    simp only [List.length_cons, List.take_succ_cons, List.cons.injEq, List.isPrefixOf_cons_cons, ← ih, Bool.decide_and]
    congr 1
    rw [Bool.eq_iff_iff, decide_eq_true_iff, beq_iff_eq]; exact eq_comm
theorem long_pre : ∀ (a b : List UInt8), ¬ b.length ≤ a.length → b.isPrefixOf a = false
  | _, [], h => by simp at h
  | [], y :: b, h => rfl
  | x :: a, y :: b, h => by
    have ih := long_pre a b (by simpa using h)
    simp [List.isPrefixOf_cons_cons, ih]
theorem f39 (a b : List UInt8) (hp nx) : Ret E 39 [.str a, .str b] hp nx (.v (.bool (b.isPrefixOf a))) hp nx .p := by
  refine Ret_pureQ e39 rfl (by simp) ?_ hp nx
  by_cases h : b.length ≤ a.length
  · simp [c39, h, take_pre]
  · simp [c39, h, long_pre]
theorem f27 (a b : List UInt8) (hp nx) : Ret E 27 [.str a, .str b] hp nx (.v (.bool (b.isPrefixOf a))) hp nx .p := by
  refine Ret_pureQ e27 rfl (by simp) ?_ hp nx
  simp [c27]
  exact WCall_p (f39 _ _ _ _) (by simp)

theorem f25 (n : Nat) (hn : n < 64) (hp nx) : Ret E 25 [.v (.int .i64 n)] hp nx (.str [letC n]) hp nx .p := by
  refine Ret_pureQ e25 rfl (by simp) ?_ hp nx
  have hw : IntKind.wrap .i64 ((n : Int) + 1) = (n + 1 : Nat) := by rw [wrap_id] <;> omega
  have ht : (lets.take (n + 1)).drop n = [letC n] := by
    rw [List.take_add_one, lets_get hn, List.drop_append_of_le_length (by simp; omega)]
    simp
  simp only [c25, lets_eq]
  have h64 : lets.length = 64 := rfl
  generalize lets = L at *
  simp [hw, -Int.natCast_add, h64, ht]
  omega

theorem f25i (z : Int) (h0 : 0 ≤ z) (h1 : z < 64) (hp nx) : Ret E 25 [.v (.int .i64 z)] hp nx (.str [letC z.toNat]) hp nx .p := by
  have := f25 z.toNat (by omega) hp nx
  rwa [show ((z.toNat : Nat) : Int) = z by omega] at this

/-- Which letter it is; -1: none. -/
def digS (c : UInt8) : Int := Lib.indexByte lets c

theorem idx_skip (c : UInt8) : ∀ (l : List UInt8) (j : Nat), j ≤ l.length → (∀ y ∈ l.take j, y ≠ c) → Lib.indexByte l c = if Lib.indexByte (l.drop j) c = -1 then -1 else Lib.indexByte (l.drop j) c + j
  | l, 0, _, _ => by simp
  | [], j + 1, h, _ => by simp at h
  | x :: l, j + 1, h, hn => by
    have hx : x ≠ c := hn x (by simp)
    have ih := idx_skip c l j (by simpa using h) (fun y hy => hn y (by simp [hy]))
    have hg := Lib.indexByte_ge (l.drop j) c
    simp only [Lib.indexByte, List.drop_succ_cons]
    rw [ih]
    simp only [beq_iff_eq, if_neg hx]
    split
    · simp
    · rename_i h1
      rw [if_neg (by omega)]
      omega

theorem f24 (c : UInt8) (hp nx) : Ret E 24 [.v (.int .u8 c.toNat)] hp nx (.v (.int .i64 (digS c))) hp nx .p := by
  refine Ret_pureQ e24 rfl (by simp) ?_ hp nx
  simp [c24]
  refine W_loopI (I := fun (j : Nat) s => j ≤ 64 ∧ s.tm 3 = .int .i64 j ∧ s.tm 0 = .v (.int .u8 c.toNat) ∧ s.hp = hnil ∧ s.nx = 0 ∧ ∀ y ∈ lets.take j, y ≠ c) (fun j => 64 - j) 0 (by simp) ?_
  rintro j tm hp nx ⟨hj, t3, t0, rfl, rfl, hno⟩
  simp only at t3 t0
  by_cases hlt : j < 64
  · have hlt' : (j : Int) < 64 := by omega
    have hw : IntKind.wrap .i64 ((j : Int) + 1) = (j + 1 : Nat) := by rw [wrap_id] <;> omega
    have hd : lets.drop j = letC j :: lets.drop (j + 1) := by
      rw [List.drop_eq_getElem_cons hlt]
      have := lets_get hlt
      rw [List.getElem?_eq_getElem hlt] at this
      simp only [Option.some.injEq] at this
      rw [this]
    simp [t3, t0, hlt', -Int.ofNat_lt, -Int.natCast_add]
    refine WCall_p (f25 j hlt _ _) ?_
    have hs := idx_skip c lets j (by simp; omega) hno
    by_cases he : letC j = c
    · have : (letC j).toNat = c.toNat := by rw [he]
      simp [t3, t0, he]
      rw [digS, hs, hd]
      simp [Lib.indexByte, he]
    · have h1 : ¬ (letC j).toNat = c.toNat := fun h => he (UInt8.toNat_inj.1 h)
      have h2 : ¬ ((letC j).toNat : Int) = c.toNat := by omega
      simp [t3, t0, h2, hw, -Int.natCast_add]
      refine ⟨j + 1, by omega, by omega, by simp, fun y hy => ?_⟩
      rw [List.take_add_one, lets_get hlt] at hy
      rcases List.mem_append.1 hy with h | h
      · exact hno y h
      · simp at h; subst h; exact he
  · have : j = 64 := by omega
    subst this
    simp [t3, t0]
    rw [digS, idx_skip c lets 64 (by simp) hno]
    rfl
end Go.Ai
