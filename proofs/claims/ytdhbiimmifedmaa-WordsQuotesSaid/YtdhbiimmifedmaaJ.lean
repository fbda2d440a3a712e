/- Lower, and the document's. -/
import Derived.Test.YtdhbiimmifedmaaI
namespace Go.Ai
set_option linter.unusedVariables false
set_option linter.unusedSimpArgs false

def lowC (c : UInt8) : UInt8 := if 65 ≤ c.toNat ∧ c.toNat ≤ 90 then UInt8.ofNat (c.toNat + 32) else c
def lowS (s : List UInt8) : List UInt8 := s.map lowC
/-- Lowered up to a place. -/
def lowK (s : List UInt8) (j : Nat) : List UInt8 := (s.take j).map lowC ++ s.drop j
theorem lowK_length (s : List UInt8) (j : Nat) : (lowK s j).length = s.length := by simp [lowK]; omega
theorem lowK_get {s : List UInt8} {j : Nat} (h : j < s.length) : (lowK s j)[j]? = some s[j] := by
  rw [lowK, List.getElem?_append_right (by simp; omega)]
  simp [Nat.min_eq_left (Nat.le_of_lt h), List.getElem?_eq_getElem h]
theorem lowK_succ {s : List UInt8} {j : Nat} (h : j < s.length) : lowK s (j + 1) = (lowK s j).set j (lowC s[j]) := by
  have h1 : ((s.take j).map lowC).length = j := by simp; omega
  rw [lowK, lowK, List.set_append_right _ _ (by omega), h1, Nat.sub_self, List.drop_eq_getElem_cons h, List.set_cons_zero, List.take_add_one, List.getElem?_eq_getElem h, Option.toList_some, List.map_append, List.map_cons, List.map_nil, List.append_assoc, List.singleton_append]
theorem lowK_zero (s : List UInt8) : lowK s 0 = s := by simp [lowK]
theorem lowK_end (s : List UInt8) : lowK s s.length = lowS s := by simp [lowK, lowS]
theorem bytesOf_get {l : List UInt8} {j : Nat} {c : UInt8} (h : l[j]? = some c) : (bytesOf l)[j]? = some [.v (.int .u8 c.toNat)] := by simp [bytesOf, h]
theorem bytesOf_set {l : List UInt8} {j : Nat} {c : UInt8} : (bytesOf l).set j [.v (.int .u8 c.toNat)] = bytesOf (l.set j c) := by simp [bytesOf, List.map_set]

theorem f17 (s : List UInt8) (hs : s.length ≤ 100000) (hp nx) : Ret E 17 [.str s] hp nx (.str (lowS s)) hp nx .p := by
  refine Ret_pureQ e17 rfl (by simp) ?_ hp nx
  simp [c17, s2bA]
  refine W_loopI (I := fun (j : Nat) s' => j ≤ s.length ∧ s'.tm 10 = .int .i64 j ∧ s'.tm 9 = .int .i64 s.length ∧ s'.tm 8 = .sl 0 1 0 s.length none ∧ s'.tm 3 = .sl 0 1 0 s.length none ∧ s'.hp 0 = some (bytesOf (lowK s j)) ∧ 0 < s'.nx) (fun j => s.length - j) 0 (by simp [lowK_zero]) ?_
  rintro j tm hp nx ⟨hj, t10, t9, t8, t3, h0, hnx⟩
  simp only at hj t10 t9 t8 t3 h0 hnx
  by_cases hlt : j < s.length
  · have hlt' : (j : Int) < s.length := by omega
    have hw : IntKind.wrap .i64 ((j : Int) + 1) = (j + 1 : Nat) := by rw [wrap_id] <;> omega
    have hg := bytesOf_get (lowK_get hlt)
    have hc := s[j].toNat_lt
    by_cases hu : 65 ≤ s[j].toNat ∧ s[j].toNat ≤ 90
    · have a1 : (65 : Int) ≤ s[j].toNat := by omega
      have a2 : (s[j].toNat : Int) ≤ 90 := by omega
      have hlc : lowC s[j] = UInt8.ofNat (s[j].toNat + 32) := if_pos hu
      have hw8 : IntKind.wrap .u8 ((s[j].toNat : Int) + 32) = (lowC s[j]).toNat := by
        rw [show (s[j].toNat : Int) + 32 = ((s[j].toNat + 32 : Nat) : Int) by omega, wrap_u8, hlc]
      have hset : (bytesOf (lowK s j)).set j [.v (.int .u8 ((lowC s[j]).toNat : Int))] = bytesOf (lowK s (j + 1)) := by rw [bytesOf_set, lowK_succ hlt]
      generalize lowC s[j] = y at hw8 hset
      generalize s[j].toNat = x at *
      simp [t10, t9, t8, t3, h0, hlt', hg, a1, a2, hw8, hset, hw, spliceL, -Int.natCast_add, -Int.ofNat_lt]
      refine ⟨j + 1, by omega, by omega, rfl, by simp [hset], hnx⟩
    · have hlc : lowC s[j] = s[j] := if_neg hu
      have hset : lowK s (j + 1) = lowK s j := by
        rw [lowK_succ hlt, hlc]
        apply List.ext_getElem?
        intro k
        rw [List.getElem?_set]
        split
        · rename_i e; subst e; rw [if_pos (by rw [lowK_length]; exact hlt), lowK_get hlt]
        · rfl
      by_cases a1 : (65 : Int) ≤ s[j].toNat
      · have a2 : ¬ (s[j].toNat : Int) ≤ 90 := by omega
        generalize s[j].toNat = x at *
        simp [t10, t9, t8, t3, h0, hlt', hg, a1, a2, hw, -Int.natCast_add, -Int.ofNat_lt]
        exact ⟨j + 1, by omega, by omega, rfl, by rw [hset], hnx⟩
      · generalize s[j].toNat = x at *
        simp [t10, t9, t8, t3, h0, hlt', hg, a1, hw, -Int.natCast_add, -Int.ofNat_lt]
        exact ⟨j + 1, by omega, by omega, rfl, by rw [hset], hnx⟩
  · have : j = s.length := by omega
    subst this
    rw [lowK_end] at h0
    have ho : OwnS hp nx 1 (bytesOf (lowS s)) (.sl 0 1 0 s.length none) := .inr ⟨0, hnx, by simp [bytesOf, lowS], h0⟩
    simp [t10, t9, t3, -Int.ofNat_lt, -b2sP_sl]
    refine ho.b2s fun kd => ?_
    simp

theorem f18 (s : List UInt8) (hs : s.length ≤ 100000) (hp nx) : Ret E 18 [.str s] hp nx (.str (lowS s)) hp nx .p := by
  refine Ret_pureQ e18 rfl (by simp) ?_ hp nx
  simp [c18, s2bA]
  refine W_loopI (I := fun (j : Nat) s' => j ≤ s.length ∧ s'.tm 4 = .int .i64 j ∧ s'.tm 3 = .sl 0 1 0 s.length none ∧ s'.hp 0 = some (bytesOf (lowK s j)) ∧ 0 < s'.nx) (fun j => s.length - j) 0 (by simp [lowK_zero]) ?_
  rintro j tm hp nx ⟨hj, t4, t3, h0, hnx⟩
  simp only at hj t4 t3 h0 hnx
  by_cases hlt : j < s.length
  · have hlt' : (j : Int) < s.length := by omega
    have hw : IntKind.wrap .i64 ((j : Int) + 1) = (j + 1 : Nat) := by rw [wrap_id] <;> omega
    have hg := bytesOf_get (lowK_get hlt)
    have hc := s[j].toNat_lt
    by_cases hu : 65 ≤ s[j].toNat ∧ s[j].toNat ≤ 90
    · have a1 : (65 : Int) ≤ s[j].toNat := by omega
      have a2 : (s[j].toNat : Int) ≤ 90 := by omega
      have hlc : lowC s[j] = UInt8.ofNat (s[j].toNat + 32) := if_pos hu
      have hw8 : IntKind.wrap .u8 ((s[j].toNat : Int) + 32) = (lowC s[j]).toNat := by
        rw [show (s[j].toNat : Int) + 32 = ((s[j].toNat + 32 : Nat) : Int) by omega, wrap_u8, hlc]
      have hset : (bytesOf (lowK s j)).set j [.v (.int .u8 ((lowC s[j]).toNat : Int))] = bytesOf (lowK s (j + 1)) := by rw [bytesOf_set, lowK_succ hlt]
      generalize lowC s[j] = y at hw8 hset
      generalize s[j].toNat = x at *
      simp [t4, t3, h0, hlt', hg, a1, a2, hw8, hset, hw, spliceL, -Int.natCast_add, -Int.ofNat_lt]
      refine ⟨j + 1, by omega, by omega, rfl, by simp [hset], hnx⟩
    · have hlc : lowC s[j] = s[j] := if_neg hu
      have hset : lowK s (j + 1) = lowK s j := by
        rw [lowK_succ hlt, hlc]
        apply List.ext_getElem?
        intro k
        rw [List.getElem?_set]
        split
        · rename_i e; subst e; rw [if_pos (by rw [lowK_length]; exact hlt), lowK_get hlt]
        · rfl
      by_cases a1 : (65 : Int) ≤ s[j].toNat
      · have a2 : ¬ (s[j].toNat : Int) ≤ 90 := by omega
        generalize s[j].toNat = x at *
        simp [t4, t3, h0, hlt', hg, a1, a2, hw, -Int.natCast_add, -Int.ofNat_lt]
        exact ⟨j + 1, by omega, by omega, rfl, by rw [hset], hnx⟩
      · generalize s[j].toNat = x at *
        simp [t4, t3, h0, hlt', hg, a1, hw, -Int.natCast_add, -Int.ofNat_lt]
        exact ⟨j + 1, by omega, by omega, rfl, by rw [hset], hnx⟩
  · have : j = s.length := by omega
    subst this
    rw [lowK_end] at h0
    have ho : OwnS hp nx 1 (bytesOf (lowS s)) (.sl 0 1 0 s.length none) := .inr ⟨0, hnx, by simp [bytesOf, lowS], h0⟩
    simp [t4, t3, -Int.ofNat_lt, -b2sP_sl]
    refine ho.b2s fun kd => ?_
    simp
end Go.Ai
