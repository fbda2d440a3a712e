/- Latin, and the document's. -/
import Derived.Test.YtdhbiimmifedmaaK
namespace Go.Ai
set_option linter.unusedVariables false
set_option linter.unusedSimpArgs false

def latS (s : List UInt8) : List UInt8 := s.flatMap latC
theorem latS_take {s : List UInt8} {j : Nat} (h : j < s.length) : latS (s.take (j + 1)) = latS (s.take j) ++ latC s[j] := by
  rw [List.take_add_one, List.getElem?_eq_getElem h, Option.toList_some]
  simp only [latS, List.flatMap_append, List.flatMap_cons, List.flatMap_nil, List.append_nil]
theorem latS_length : ∀ s : List UInt8, (latS s).length ≤ 2 * s.length
  | [] => by simp [latS]
  | c :: r => by
    have := latS_length r
    have := latC_length c
    simp only [latS, List.flatMap_cons, List.length_append, List.length_cons] at *; omega
theorem wrap_i32 (c : UInt8) : IntKind.wrap .i32 (c.toNat : Int) = c.toNat := by
  have key : ((List.range 256).all fun n => decide (IntKind.wrap .i32 (n : Int) = n)) = true := by kernel_rfl
  exact of_decide_eq_true (List.all_eq_true.1 key c.toNat (List.mem_range.2 c.toNat_lt))
theorem utf8_latC (c : UInt8) : (Utf8.encode (c.toNat : Int)).data.toList = latC c := by
  have key : ((List.range 256).all fun n => decide ((Utf8.encode (n : Int)).data.toList = latC (UInt8.ofNat n))) = true := by kernel_rfl
  have := of_decide_eq_true (List.all_eq_true.1 key c.toNat (List.mem_range.2 c.toNat_lt))
  simpa using this

theorem f20 (s : List UInt8) (hs : s.length ≤ 100000) (hp nx) : Ret E 20 [.str s] hp nx (.str (latS s)) hp nx .p := by
  refine Ret_pureQ e20 rfl (by simp) ?_ hp nx
  simp [c20]
  refine W_loopI (I := fun (j : Nat) s' => j ≤ s.length ∧ s'.tm 4 = .int .i64 j ∧ s'.tm 0 = .str s ∧ s'.tm 3 = .str (latS (s.take j))) (fun j => s.length - j) 0 (by simp [latS]) ?_
  rintro j tm hp nx ⟨hj, t4, t0, t3⟩
  simp only at hj t4 t0 t3
  by_cases hlt : j < s.length
  · have hlt' : (j : Int) < s.length := by omega
    have hg : s[j]? = some s[j] := List.getElem?_eq_getElem hlt
    have hw : IntKind.wrap .i64 ((j : Int) + 1) = (j + 1 : Nat) := by rw [wrap_id] <;> omega
    have hl1 := latS_length (s.take j)
    have hl2 := latC_length s[j]
    rw [List.length_take] at hl1
    have hcat : strA .add (latS (s.take j)) (latC s[j]) = some (.str (latS (s.take (j + 1)))) := by rw [strA_cat (by omega), latS_take hlt]
    simp [t4, t0, t3, hlt', hg, wrap_i32, utf8_latC, hcat, hw, -strA_add, -Int.natCast_add, -Int.ofNat_lt]
    exact ⟨j + 1, by omega, by omega, rfl, rfl⟩
  · have : j = s.length := by omega
    subst this
    simp [t4, t0, t3]

theorem f19 (s : List UInt8) (hs : s.length ≤ 100000) (hp nx) : Ret E 19 [.str s] hp nx (.str (latS s)) hp nx .p := by
  refine Ret_pureQ e19 rfl (by simp) ?_ hp nx
  simp [c19]
  refine W_loopI (I := fun (j : Nat) s' => j ≤ s.length ∧ s'.tm 7 = .int .i64 j ∧ s'.tm 6 = .int .i64 s.length ∧ s'.tm 0 = .str s ∧ s'.tm 3 = .ptr 0 0 0 ∧ BLD s'.hp s'.nx 0 (latS (s.take j)) ∧ (j = 0 → ∃ a, s'.hp 0 = some [[a, .rs true 0 [] (some 0)]])) (fun j => s.length - j) 0
    (by simp [latS]; exact ⟨by omega, by simp, .v (.pointer none), .rs true 0 [] (some 0), by simp, .inl rfl, .inl ⟨rfl, rfl⟩, by simp, by simp⟩) ?_
  rintro j tm hp nx ⟨hj, t7, t6, t0, t3, hB, h0⟩
  simp only at hj t7 t6 t0 t3 hB h0
  have hl1 := latS_length (s.take j)
  rw [List.length_take] at hl1
  by_cases hlt : j < s.length
  · have hlt' : (j : Int) < s.length := by omega
    have hg : s[j]? = some s[j] := List.getElem?_eq_getElem hlt
    have hw : IntKind.wrap .i64 ((j : Int) + 1) = (j + 1 : Nat) := by rw [wrap_id] <;> omega
    obtain ⟨v, hp', nx', r1, r2⟩ := f30 s[j] hp nx 0 _ (by omega) hB
    rw [← latS_take hlt] at r2
    simp [t7, t6, t0, t3, hlt', hg, wrap_i32, -Int.ofNat_lt]
    refine WCall_k r1 ?_
    simp [t7, t6, t0, t3, hw, -Int.natCast_add]
    exact ⟨j + 1, by omega, by omega, rfl, r2, by omega⟩
  · have : j = s.length := by omega
    subst this
    simp [t7, t6, t3]
    rw [List.take_length] at hB hl1
    have hne : latS s = [] → ∃ a, hp 0 = some [[a, .rs true 0 [] (some 0)]] := by
      intro e
      apply h0
      match s, e with
      | [], _ => rfl
      | c :: r, e =>
        simp only [latS, List.flatMap_cons, List.append_eq_nil_iff, latC] at e
        have := e.1
        split at this <;> simp at this
    obtain ⟨hp', nx', r1⟩ := f31 hp nx 0 (latS s) (by have := latS_length s; omega) hB hne
    refine WCall_k r1 ?_
    simp
end Go.Ai
