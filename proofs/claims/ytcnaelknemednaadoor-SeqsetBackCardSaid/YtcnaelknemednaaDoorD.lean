/- Members; two lists the same. -/
import Derived.Test.YtcnaelknemednaaDoorB
namespace Go.Ai
set_option linter.unusedVariables false
set_option linter.unusedSimpArgs false

theorem filter_take_succ {α : Type} (p : α → Bool) (f : α → List AV) {l : List α} {j : Nat} (hlt : j < l.length) : ((l.take (j + 1)).filter p).map f = ((l.take j).filter p).map f ++ (if p l[j] then [f l[j]] else []) := by
  rw [List.take_add_one, List.getElem?_eq_getElem hlt, List.filter_append, List.map_append]
  cases h : p l[j] <;> simp [List.filter, h]

theorem f14 (l : List Sp) (x : AV) (hx : SlA 2 (l.map cellsP) x) (hl : l.length ≤ 1000000) (am : List Int) (y : AV) (hy : SlA 1 (am.map kidC) y) (ha : am.length ≤ 1000000) (most : Int) :
    ∃ v, SlA 1 ((am.filter fun n => hasS l n most).map kidC) v ∧ ∀ hp nx, Ret E 14 [x, .v (.int .i64 most), y] hp nx v hp nx .p := by
  obtain ⟨nil, sz, cap, rfl, hz⟩ := id hx
  obtain ⟨nil2, sz2, cap2, rfl, hz2⟩ := hy
  refine Ret_pureE e14 rfl (by simp) ?_
  simp [c14]
  refine W_loopI (I := fun (j : Nat) s => j ≤ am.length ∧ s.tm 12 = .v (.int .i64 j) ∧ s.tm 11 = .v (.int .i64 am.length) ∧ s.tm 10 = .rs nil2 sz2 (am.map kidC) cap2 ∧ s.tm 0 = .rs nil sz (l.map cellsP) cap ∧ s.tm 1 = .v (.int .i64 most) ∧ OwnS s.hp s.nx 1 (((am.take j).filter fun n => hasS l n most).map kidC) (s.tm 7))
    (fun j => am.length - j) 0 (by simp; exact OwnS.nil) ?_
  rintro j tm hp nx ⟨hj, h12, h11, h10, h0, h1, hO⟩
  simp only at h12 h11 h10 h0 h1 hO
  by_cases hlt : j < am.length
  · have hget : am[j]? = some am[j] := List.getElem?_eq_getElem hlt
    have hia : iaddrA 1 (.rs nil2 sz2 (am.map kidC) cap2) (.v (.int .i64 j)) = some (.rp (kidC am[j])) := iaddr_in hz2 (by simp [hget]) rfl
    have hw : IntKind.wrap .i64 ((j : Int) + 1) = (j + 1 : Nat) := by rw [wrap_id] <;> omega
    have hfl : ((am.take j).filter fun n => hasS l n most).length ≤ j := Nat.le_trans (List.length_filter_le _ _) (by simp; omega)
    simp [h12, h11, h10, h0, h1, hlt, -iaddrA_rs, hia, kidC]
    refine WCall_p (f25 l _ hx hl am[j] most _ _) ?_
    cases hp : hasS l am[j] most
    · simp [h12, h11, h10, h0, h1, hw]
      refine ⟨j + 1, by omega, by omega, by simp, ?_⟩
      rw [filter_take_succ _ _ hlt, hp]; simpa using hO
    · simp [h12, h11, h10, h0, h1]
      refine mvE_app hO (by simp) (by simp; omega) ?_
      intro hp2 hn hk
      simp [hw, h12, h11, h10, h0, h1]
      refine ⟨j + 1, by omega, by omega, by simp, ?_⟩
      rw [filter_take_succ _ _ hlt, hp]
      exact .inr ⟨nx, by omega, by simp, by rw [hn]; simp [kidC]⟩
  · have : j = am.length := by omega
    subst this
    simp [h12, h11]
    simp only [List.take_length] at hO
    obtain ⟨nil3, z3, cap3, h3, h4⟩ := frz_own (k := 4) hO (by simp)
    exact ⟨_, h3, nil3, z3, cap3, rfl, h4⟩

theorem take_succ_eq {α : Type} {a b : List α} {j : Nat} (ha : j < a.length) (hb : j < b.length) (h : a.take j = b.take j) (e : a[j] = b[j]) : a.take (j + 1) = b.take (j + 1) := by
  rw [List.take_add_one, List.take_add_one, h, List.getElem?_eq_getElem ha, List.getElem?_eq_getElem hb, e]

theorem f13 (a b : List Int) (x y : AV) (hx : SlA 1 (a.map kidC) x) (hy : SlA 1 (b.map kidC) y) (ha : a.length ≤ 10000000) (hb : b.length ≤ 10000000) (hp nx) : Ret E 13 [x, y] hp nx (.v (.bool (decide (a = b)))) hp nx .p := by
  obtain ⟨nil, sz, cap, rfl, hz⟩ := hx
  obtain ⟨nil2, sz2, cap2, rfl, hz2⟩ := hy
  refine Ret_pureQ e13 rfl (by simp) ?_ hp nx
  simp [c13]
  by_cases hl : a.length = b.length
  · simp [hl]
    refine W_loopI (I := fun (j : Nat) s => j ≤ a.length ∧ s.tm 5 = .v (.int .i64 j) ∧ s.tm 0 = .rs nil sz (a.map kidC) cap ∧ s.tm 1 = .rs nil2 sz2 (b.map kidC) cap2 ∧ s.hp = hnil ∧ s.nx = 0 ∧ a.take j = b.take j)
      (fun j => a.length - j) 0 (by simp) ?_
    rintro j tm hp nx ⟨hj, h5, h0, h1, rfl, rfl, hh⟩
    simp only at h5 h0 h1
    by_cases hlt : j < a.length
    · have hlb : j < b.length := by omega
      have hia : iaddrA 1 (.rs nil sz (a.map kidC) cap) (.v (.int .i64 j)) = some (.rp (kidC a[j])) := iaddr_in hz (by simp [hlt]) rfl
      have hib : iaddrA 1 (.rs nil2 sz2 (b.map kidC) cap2) (.v (.int .i64 j)) = some (.rp (kidC b[j])) := iaddr_in hz2 (by simp [hlb]) rfl
      have hw : IntKind.wrap .i64 ((j : Int) + 1) = (j + 1 : Nat) := by rw [wrap_id] <;> omega
      by_cases he : a[j] = b[j]
      · simp [h5, h0, h1, hlt, hlb, -iaddrA_rs, hia, hib, kidC, he, hw]
        exact ⟨j + 1, by omega, by omega, by simp, take_succ_eq hlt hlb hh he⟩
      · simp [h5, h0, h1, hlt, hlb, -iaddrA_rs, hia, hib, kidC, he]
        intro e; subst e; exact he rfl
    · have : j = a.length := by omega
      subst this
      simp [h5, h0]
      rw [hl] at hh; rw [← hl, List.take_length] at hh; rw [hl, List.take_length] at hh; exact hh
  · have hl2 : ¬ (a.length : Int) = b.length := by omega
    simp [hl2]
    intro e; subst e; exact hl rfl

theorem f10 (a b : List Sp) (x y : AV) (hx : SlA 2 (a.map cellsP) x) (hy : SlA 2 (b.map cellsP) y) (ha : a.length ≤ 10000000) (hb : b.length ≤ 10000000) (hp nx) : Ret E 10 [x, y] hp nx (.v (.bool (decide (a = b)))) hp nx .p := by
  obtain ⟨nil, sz, cap, rfl, hz⟩ := hx
  obtain ⟨nil2, sz2, cap2, rfl, hz2⟩ := hy
  refine Ret_pureQ e10 rfl (by simp) ?_ hp nx
  simp [c10]
  by_cases hl : a.length = b.length
  · simp [hl]
    refine W_loopI (I := fun (j : Nat) s => j ≤ a.length ∧ s.tm 5 = .v (.int .i64 j) ∧ s.tm 0 = .rs nil sz (a.map cellsP) cap ∧ s.tm 1 = .rs nil2 sz2 (b.map cellsP) cap2 ∧ s.hp = hnil ∧ s.nx = 0 ∧ a.take j = b.take j)
      (fun j => a.length - j) 0 (by simp) ?_
    rintro j tm hp nx ⟨hj, h5, h0, h1, rfl, rfl, hh⟩
    simp only at h5 h0 h1
    by_cases hlt : j < a.length
    · have hlb : j < b.length := by omega
      have hia : iaddrA 2 (.rs nil sz (a.map cellsP) cap) (.v (.int .i64 j)) = some (.rp (cellsP a[j])) := iaddr_in hz (by simp [hlt]) rfl
      have hib : iaddrA 2 (.rs nil2 sz2 (b.map cellsP) cap2) (.v (.int .i64 j)) = some (.rp (cellsP b[j])) := iaddr_in hz2 (by simp [hlb]) rfl
      have hw : IntKind.wrap .i64 ((j : Int) + 1) = (j + 1 : Nat) := by rw [wrap_id] <;> omega
      by_cases he : a[j] = b[j]
      · simp [h5, h0, h1, hlt, hlb, -iaddrA_rs, hia, hib, cellsP, he, hw]
        exact ⟨j + 1, by omega, by omega, by simp, take_succ_eq hlt hlb hh he⟩
      · have he2 : (!decide (a[j].fst = b[j].fst) || !decide (a[j].snd = b[j].snd)) = true := by
          by_cases q : a[j].fst = b[j].fst
          · have : ¬ a[j].snd = b[j].snd := fun q2 => he (Prod.ext q q2)
            simp [this]
          · simp [q]
        simp [h5, h0, h1, hlt, hlb, -iaddrA_rs, hia, hib, cellsP, he, he2, -Bool.or_eq_true]
        intro e; subst e; exact he rfl
    · have : j = a.length := by omega
      subst this
      simp [h5, h0]
      rw [hl] at hh; rw [← hl, List.take_length] at hh; rw [hl, List.take_length] at hh; exact hh
  · have hl2 : ¬ (a.length : Int) = b.length := by omega
    simp [hl2]
    intro e; subst e; exact hl rfl
end Go.Ai
