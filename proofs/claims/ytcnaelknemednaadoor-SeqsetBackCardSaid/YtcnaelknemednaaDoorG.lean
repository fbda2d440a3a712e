/- The one way of a set, by the program. -/
import Derived.Test.YtcnaelknemednaaDoorF
namespace Go.Ai
set_option linter.unusedVariables false
set_option linter.unusedSimpArgs false

def normS (l : List Sp) (most : Int) : List Sp := joinL (srtS (l.filterMap (clipS most)))

theorem filterMap_take_succ {α β : Type} (p : α → Option β) {l : List α} {j : Nat} (hlt : j < l.length) : (l.take (j + 1)).filterMap p = (l.take j).filterMap p ++ (match p l[j] with | some y => [y] | none => []) := by
  rw [List.take_add_one, List.getElem?_eq_getElem hlt, List.filterMap_append]
  congr 1
  cases h : p l[j] <;> simp [h]
theorem filterMap_len {α β : Type} (p : α → Option β) : ∀ l : List α, (l.filterMap p).length ≤ l.length := fun l => List.length_filterMap_le p l
theorem clip_b {l : List Sp} {most : Int} : ∀ y ∈ l.filterMap (clipS most), 1 ≤ y.1 ∧ y.1 ≤ mxN := by
  intro y hy
  obtain ⟨x, _, h⟩ := List.mem_filterMap.1 hy
  have := clip_ok h
  omega

theorem f15 (l : List Sp) (x : AV) (hx : SlA 2 (l.map cellsP) x) (hl : l.length ≤ 1000000) (most : Int) : ∃ v, SlA 2 ((normS l most).map cellsP) v ∧ ∀ hp nx, Ret E 15 [x, .v (.int .i64 most)] hp nx v hp nx .p := by
  obtain ⟨nil, sz, cap, rfl, hz⟩ := id hx
  refine Ret_pureE e15 rfl (by simp) ?_
  simp [c15]
  refine W_loopI (I := fun (j : Nat) s => j ≤ l.length ∧ s.tm 13 = .v (.int .i64 j) ∧ s.tm 12 = .v (.int .i64 l.length) ∧ s.tm 11 = .rs nil sz (l.map cellsP) cap ∧ s.tm 1 = .v (.int .i64 most) ∧ OwnN s.hp s.nx 2 (((l.take j).filterMap (clipS most)).map cellsP) (s.tm 5))
    (fun j => l.length - j) 0 (by simp; exact OwnN.nil) ?_
  rintro j tm hp nx ⟨hj, h13, h12, h11, h1, hO⟩
  simp only at h13 h12 h11 h1 hO
  by_cases hlt : j < l.length
  · obtain ⟨a, b, hz2⟩ : ∃ a b, l[j] = (a, b) := ⟨_, _, rfl⟩
    have hia : iaddrA 2 (.rs nil sz (l.map cellsP) cap) (.v (.int .i64 j)) = some (.rp (cellsP (a, b))) := iaddr_in hz (by simp [hlt, hz2]) rfl
    have hw : IntKind.wrap .i64 ((j : Int) + 1) = (j + 1 : Nat) := by rw [wrap_id] <;> omega
    have hfl := filterMap_len (clipS most) (l.take j)
    simp only [List.length_take] at hfl
    have hst := filterMap_take_succ (clipS most) hlt
    rw [hz2] at hst
    have hkeep : ∀ hp', (∀ r, r < nx → hp' r = hp r) → OwnN hp' (nx + 1) 2 (((l.take j).filterMap (clipS most)).map cellsP) (tm 5) := fun hp' h => hO.keep (by omega) (fun r h1 _ => h r h1)
    generalize (l.take j).filterMap (clipS most) = out at *
    simp [h13, h12, h11, h1, hlt, -iaddrA_rs, hia]
    refine ⟨by simp [cellsP], ?_⟩
    simp [cellsP, spliceL, h1]
    refine WCall_p (f26 (a, b) most _ _) ?_
    have fr : ∀ r, r < nx → ¬ r = nx := fun r h => by omega
    cases hs : (endsS (a, b) most).2.2 with
    | false =>
      have hc : clipS most (a, b) = none := by simp [clipS, hs]
      simp [h13, h12, h11, h1, hw]
      refine ⟨j + 1, by omega, by omega, by simp, ?_⟩
      rw [hst, hc]
      simpa using hkeep _ (fun r h => by simp [fr r h])
    | true =>
      by_cases hle : max (endsS (a, b) most).1 1 ≤ min (endsS (a, b) most).2.1 4294967295
      · have hc : clipS most (a, b) = some (max (endsS (a, b) most).1 1, min (endsS (a, b) most).2.1 mxN) := by simp only [clipS]; rw [if_pos ⟨hs, hle⟩]
        simp only [mxN] at hc
        rw [hc] at hst
        simp only at hst
        simp [h13, h12, h11, h1, hle, spliceL]
        refine mvE_app (hkeep _ (fun r h => by simp [fr r h])).own (by simp) (by simp; omega) ?_
        intro hp2 hn hk
        simp [hw, h13, h12, h11, h1]
        refine ⟨j + 1, by omega, by omega, by simp, ?_⟩
        rw [hst]
        exact .inr ⟨nx + 1, by omega, by simp, by rw [hn]; simp [cellsP, mxN], by simp⟩
      · have hc : clipS most (a, b) = none := by simp only [clipS]; rw [if_neg (fun h => hle h.2)]
        rw [hc] at hst
        simp only at hst
        simp [h13, h12, h11, h1, hle, hw]
        refine ⟨j + 1, by omega, by omega, by simp, ?_⟩
        rw [hst]
        simpa using hkeep _ (fun r h => by simp [fr r h])
  · have : j = l.length := by omega
    subst this
    simp only [List.take_length] at hO
    simp [h13, h12]
    obtain ⟨v, hp', nx', c1, c2⟩ := f27 (l.filterMap (clipS most)) (tm 5) hp nx hO (Nat.le_trans (filterMap_len _ _) hl) clip_b
    refine WCall_k c1 ?_
    simp
    obtain ⟨nil3, z3, cap3, h3, h4⟩ := frz_own (k := 4) c2.own (by simp)
    exact ⟨_, h3, nil3, z3, cap3, rfl, h4⟩
end Go.Ai
