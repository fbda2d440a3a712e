/- Right spans. -/
import Derived.Test.YtcnaelknemednaaDoorV
namespace Go.Ai
set_option linter.unusedVariables false
set_option linter.unusedSimpArgs false

def mayS (n : Int) : Bool := decide (0 ≤ n) && decide (n ≤ 4294967295)
theorem f22 (n : Int) (hp nx) : Ret E 22 [.v (.int .i64 n)] hp nx (.v (.bool (mayS n))) hp nx .p := by
  refine Ret_pureQ e22 rfl (by simp) ?_ hp nx
  by_cases h : 0 ≤ n <;> simp [c22, h, mayS]

def badP (x : Sp) : Bool := !(mayS x.1) || !(mayS x.2)
theorem f21 (x : Sp) (hp : Heap) (nx : Nat) : KeptH E 21 [.agg (cellsP x)] hp nx (.v (.bool (badP x))) := by
  refine Ret_genS e21 rfl ?_
  obtain ⟨a, b⟩ := x
  have fr : ∀ r, r < nx → ¬ r = nx := fun r h => by omega
  simp [c21, cellsP]
  refine WCall_p (f22 a _ _) ?_
  cases h1 : mayS a with
  | false =>
    simp [badP, h1]
    exact fun r h => by simp [fr r h]
  | true =>
    simp [badP, h1]
    refine WCall_p (f22 b _ _) ?_
    simp
    exact fun r h => by simp [fr r h]
def rightS (l : List Sp) : Bool := decide (0 < l.length) && decide (l.length ≤ 1000) && !l.any badP
theorem f8 (l : List Sp) (x : AV) (hx : SlA 2 (l.map cellsP) x) (hl : l.length ≤ 1000000) (hp nx) : Ret E 8 [x] hp nx (.v (.bool (rightS l))) hp nx .p := by
  obtain ⟨nil, sz, cap, rfl, hz⟩ := id hx
  refine Ret_pureQ e8 rfl (by simp) ?_ hp nx
  simp [c8]
  obtain ⟨hp', nx', q1, q2, q3⟩ := f20 badP 21 [] hnil 0 (fun x hp nx _ _ => f21 x hp nx) l _ hx hl
  refine WCall_k q1 ?_
  by_cases k1 : 0 < l.length
  · have k1' : (0 : Int) < l.length := by omega
    by_cases k2 : l.length ≤ 1000
    · have k2' : (l.length : Int) ≤ 1000 := by omega
      simp [k1', k2', rightS, k1, k2]
    · have k2' : ¬ (l.length : Int) ≤ 1000 := by omega
      simp [k1', k2', rightS, k1, k2]
  · have k1' : ¬ (0 : Int) < l.length := by omega
    simp [k1', rightS, k1]

theorem badP_iff {a b : Int} : badP (a, b) = (decide (a < 0) || decide (b < 0) || decide (4294967295 < a) || decide (4294967295 < b)) := by
  rw [Bool.eq_iff_iff]
  simp [badP, mayS]
  omega
theorem f9 (l : List Sp) (x : AV) (hx : SlA 2 (l.map cellsP) x) (hl : l.length ≤ 1000000) (hp nx) : Ret E 9 [x] hp nx (.v (.bool (rightS l))) hp nx .p := by
  obtain ⟨nil, sz, cap, rfl, hz⟩ := id hx
  refine Ret_pureQ e9 rfl (by simp) ?_ hp nx
  simp [c9]
  refine W_loopI (I := fun (j : Nat) s => j ≤ l.length ∧ s.tm 3 = .v (.int .i64 j) ∧ s.tm 0 = .rs nil sz (l.map cellsP) cap ∧ s.hp = hnil ∧ s.nx = 0 ∧ ∀ z ∈ l.take j, badP z = false) (fun j => l.length - j) 0 (by simp) ?_
  rintro j tm hp nx ⟨hj, h3, h0, rfl, rfl, hno⟩
  simp only at h3 h0
  by_cases hlt : j < l.length
  · have hget : l[j]? = some l[j] := List.getElem?_eq_getElem hlt
    have hm := List.getElem_mem hlt
    have hia : iaddrA 2 (.rs nil sz (l.map cellsP) cap) (.v (.int .i64 j)) = some (.rp (cellsP l[j])) := iaddr_in hz (by simp [hlt]) rfl
    have hw : IntKind.wrap .i64 ((j : Int) + 1) = (j + 1 : Nat) := by rw [wrap_id] <;> omega
    obtain ⟨a, b, hab⟩ : ∃ a b, l[j] = (a, b) := ⟨_, _, rfl⟩
    rw [hab] at hia hm hget
    have hbad : badP (a, b) = true → rightS l = false := fun h => by
      have : l.any badP = true := List.any_eq_true.2 ⟨_, hm, h⟩
      simp [rightS, this]
    rw [badP_iff] at hbad
    by_cases q1 : a < 0
    · simp [h3, h0, hlt, -iaddrA_rs, hia, cellsP, q1, hbad (by simp [q1])]
    · by_cases q2 : b < 0
      · simp [h3, h0, hlt, -iaddrA_rs, hia, cellsP, q1, q2, hbad (by simp [q2])]
      · by_cases q3 : 4294967295 < a
        · simp [h3, h0, hlt, -iaddrA_rs, hia, cellsP, q1, q2, q3, hbad (by simp [q3])]
        · by_cases q4 : 4294967295 < b
          · simp [h3, h0, hlt, -iaddrA_rs, hia, cellsP, q1, q2, q3, q4, hbad (by simp [q4])]
          · have hok : badP (a, b) = false := by rw [badP_iff]; simp [q1, q2, q3, q4]
            simp [h3, h0, hlt, -iaddrA_rs, hia, cellsP, q1, q2, q3, q4, hw]
            exact ⟨j + 1, by omega, by omega, by simp, fun u w h => take_succ_all hget hno hok (u, w) h⟩
  · have : j = l.length := by omega
    subst this
    rw [List.take_length] at hno
    have hany : l.any badP = false := by
      rw [Bool.eq_false_iff]; intro h
      obtain ⟨z, hz, h2⟩ := List.any_eq_true.1 h
      rw [hno z hz] at h2; cases h2
    by_cases k1 : 0 < l.length
    · have k1' : (0 : Int) < l.length := by omega
      by_cases k2 : l.length ≤ 1000
      · have k2' : (l.length : Int) ≤ 1000 := by omega
        simp [h3, h0, k1', k2', rightS, k1, k2, hany]
      · have k2' : ¬ (l.length : Int) ≤ 1000 := by omega
        simp [h3, h0, k1', k2', rightS, k1, k2]
    · have k1' : ¬ (0 : Int) < l.length := by omega
      simp [h3, h0, k1', rightS, k1]
end Go.Ai
