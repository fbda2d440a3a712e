/- The document's one way of a set: the walk. -/
import Derived.Test.YtcnaelknemednaaI
namespace Go.Ai
set_option linter.unusedVariables false
set_option linter.unusedSimpArgs false

abbrev growI (l : List Sp) (most lo : Int) (x : AV) (t5 : AV) (hp0 : Heap) (nx0 : Nat) (q : Int × Bool) (s : St) : Prop :=
  s.tm 0 = x ∧ s.tm 1 = .v (.int .i64 most) ∧ s.tm 5 = t5 ∧ s.tm 7 = .v (.int .i64 lo) ∧ s.tm 10 = .v (.int .i64 q.1) ∧ s.tm 11 = .v (.bool q.2) ∧ s.hp = hp0 ∧ s.nx = nx0 ∧
  AllIn (clL l most) lo q.1 ∧ (q.2 = false → ∀ x ∈ l, gcond most q.1 x = false)
abbrev passI (l : List Sp) (most lo hi : Int) (x : AV) (t5 : AV) (hp0 : Heap) (nx0 : Nat) (q : Nat × Int × Bool) (s : St) : Prop :=
  q.1 ≤ l.length ∧ s.tm 0 = x ∧ s.tm 1 = .v (.int .i64 most) ∧ s.tm 5 = t5 ∧ s.tm 7 = .v (.int .i64 lo) ∧ s.tm 10 = .v (.int .i64 q.2.1) ∧ s.tm 11 = .v (.bool q.2.2) ∧ s.tm 12 = .v (.int .i64 q.1) ∧ s.hp = hp0 ∧ s.nx = nx0 ∧
  AllIn (clL l most) lo q.2.1 ∧ (q.2.2 = true → hi < q.2.1) ∧ (q.2.2 = false → q.2.1 = hi ∧ ∀ x ∈ l.take q.1, gcond most hi x = false)

theorem f18b (l : List Sp) (hpos : ∀ x ∈ l, 0 ≤ x.1 ∧ 0 ≤ x.2) (hl : l.length ≤ 1000000) (most lo : Int) (nil : Bool) (sz : Nat) (cap : Option Nat) (hz : (nil = true ∨ sz = 2) ∧ (nil = true → l.map cellsP = []))
    (out : List Sp) (hlo : AllIn (clL l most) lo lo) (h1lo : 1 ≤ lo) (hol : out.length ≤ 5000000000) (tm : Nat → AV) (hp : Heap) (nx : Nat) (t0 : tm 0 = .rs nil sz (l.map cellsP) cap) (t1 : tm 1 = .v (.int .i64 most))
    (t5 : OwnS hp nx 2 (out.map cellsP) (tm 5)) (t7 : tm 7 = .v (.int .i64 lo)) (t10 : tm 10 = .v (.int .i64 lo)) (t11 : tm 11 = .v (.bool true)) (Q : CExit → St → Prop)
    (hQ : ∀ hi tm' hp' nx', AllIn (clL l most) lo hi → (∀ x ∈ l, gcond most hi x = false) → tm' 0 = tm 0 → tm' 1 = tm 1 → tm' 6 = .v (.int .i64 hi) → OwnS hp' nx' 2 ((out ++ [(lo, hi)]).map cellsP) (tm' 5) → Q .normal ⟨tm', hp', nx'⟩) :
    W (Ret E) c18_rrriiirrrrr Q ⟨tm, hp, nx⟩ := by
  simp [c18_rrriiirrrrr]
  refine W_loopI (I := growI l most lo (tm 0) (tm 5) hp nx) (fun q => (mxN - q.1).toNat + if q.2 then 1 else 0) (lo, true) ⟨rfl, t1, rfl, t7, t10, t11, rfl, rfl, hlo, fun h => by cases h⟩ ?_
  rintro ⟨hi, g⟩ tm2 hp2 nx2 ⟨g0, g1, g5, g7, g10, g11, rfl, rfl, gA, gS⟩
  simp only at g0 g1 g5 g7 g10 g11 gA gS
  cases g with
  | false =>
    simp [g11, g5, g7, g10, spliceL]
    refine mvE_app t5 (by simp) (by simp; omega) ?_
    intro hp3 hn hk
    simp [g10]
    refine hQ hi _ _ _ gA (gS rfl) (by simp [g0]) (by simp [g1, t1]) (by simp) (.inr ⟨nx2, by simp, by simp, by rw [hn]; simp [cellsP]⟩)
  | true =>
    simp [g11]
    have a1 := gA.1
    have a2 := gA.2.1
    refine W_loopI (I := passI l most lo hi (tm 0) (tm 5) hp2 nx2) (fun q => l.length - q.1) (0, hi, false) ⟨by simp, by simp [g0], by simp [g1], by simp [g5], by simp [g7], by simp [g10], by simp, by simp, rfl, rfl, gA, (fun h => nomatch h), fun _ => ⟨rfl, by simp⟩⟩ ?_
    rintro ⟨j, hi2, g2⟩ tm3 hp3 nx3 ⟨k, k0, k1, k5, k7, k10, k11, k12, rfl, rfl, kA, kT, kF⟩
    simp only at k k0 k1 k5 k7 k10 k11 k12 kA kT kF
    by_cases hlt : j < l.length
    · have hm : l[j] ∈ l := List.getElem_mem hlt
      obtain ⟨p1, p2⟩ := hpos _ hm
      have b1 := kA.1
      have b2 := kA.2.1
      have hst := kA.step hm g2
      have hgc := grow_cond (most := most) p1 p2 (by omega : 1 ≤ hi2) b2
      have c32' := f32 l[j] most p1 p2
      have c29' := f29 l[j] hi2 most
      have c29'' := f29 l[j] (hi2 + 1) most
      have hia : iaddrA 2 (.rs nil sz (l.map cellsP) cap) (.v (.int .i64 j)) = some (.rp (cellsP l[j])) := iaddr_in hz (by simp [hlt]) rfl
      have hw : IntKind.wrap .i64 ((j : Int) + 1) = (j + 1 : Nat) := by rw [wrap_id] <;> omega
      have hw2 : IntKind.wrap .i64 (hi2 + 1) = hi2 + 1 := by simp only [mxN] at b2; rw [wrap_id] <;> omega
      have htk : ∀ x ∈ l.take (j + 1), x ∈ l.take j ∨ x = l[j] := by
        intro x hx
        rw [List.take_add_one, List.getElem?_eq_getElem hlt] at hx
        rcases List.mem_append.1 hx with hx | hx
        · exact .inl hx
        · exact .inr (by simpa using hx)
      simp only [gstep] at hst
      have hcl : closedL (cellsP l[j]) = true := by simp [cellsP]
      have hcd : (cellsP l[j]).length = 2 := by simp [cellsP]
      rw [t0] at k0
      have hc2 : (cellsP l[j]).take 2 = cellsP l[j] := by simp [cellsP]
      have hle : hi ≤ hi2 := by
        cases g2 with
        | false => have := (kF rfl).1; omega
        | true => have := kT rfl; omega
      simp [k0, k12, k1, hlt, -iaddrA_rs, hia, hcd, hc2, -Prod.exists, -Bool.exists_bool]
      refine WCall_p (c32' _ _) ?_
      by_cases q1 : hi2 < endI most l[j]
      · simp [k0, k12, k1, k10, q1, hlt, -iaddrA_rs, hia, hcd, hc2, -Prod.exists, -Bool.exists_bool]
        refine WCall_p (c29' _ _) ?_
        cases q2 : covS most hi2 l[j] with
        | true =>
          have hg : gcond most hi2 l[j] = true := by rw [← hgc]; simp [q1, q2]
          rw [hg] at hst
          simp only [if_true] at hst
          simp [k12, hw, -Prod.exists, -Bool.exists_bool]
          exact ⟨(j + 1, endI most l[j], true), by simp; omega, by simp; omega, by simp [k0, t0], by simp [k1], by simp [k5], by simp [k7], by simp, by simp, by simp, rfl, rfl, hst.1, (fun _ => by simp only; omega), fun h => nomatch h⟩
        | false =>
          simp [k0, k12, k1, k10, hlt, -iaddrA_rs, hia, hcd, hc2, hw2, -Prod.exists, -Bool.exists_bool]
          refine WCall_p (c29'' _ _) ?_
          cases q3 : covS most (hi2 + 1) l[j] with
          | true =>
            have hg : gcond most hi2 l[j] = true := by rw [← hgc]; simp [q1, q2, q3]
            rw [hg] at hst
            simp only [if_true] at hst
            simp [k12, hw, -Prod.exists, -Bool.exists_bool]
            exact ⟨(j + 1, endI most l[j], true), by simp; omega, by simp; omega, by simp [k0, t0], by simp [k1], by simp [k5], by simp [k7], by simp, by simp, by simp, rfl, rfl, hst.1, (fun _ => by simp only; omega), fun h => nomatch h⟩
          | false =>
            have hg : gcond most hi2 l[j] = false := by rw [← hgc]; simp [q1, q2, q3]
            simp [k12, hw, -Prod.exists, -Bool.exists_bool]
            exact ⟨(j + 1, hi2, g2), by simp; omega, by simp; omega, by simp [k0, t0], by simp [k1], by simp [k5], by simp [k7], by simp [k10], by simp [k11], by simp, rfl, rfl, kA, kT, fun h => ⟨(kF h).1, fun x hx => (htk x hx).elim ((kF h).2 x) fun e => by rw [e, ← (kF h).1]; exact hg⟩⟩
      · have hg : gcond most hi2 l[j] = false := by rw [← hgc]; simp [q1]
        simp [k0, k12, k1, k10, q1, hw, -Prod.exists, -Bool.exists_bool]
        exact ⟨(j + 1, hi2, g2), by simp; omega, by simp; omega, by simp [k0, t0], by simp [k1], by simp [k5], by simp [k7], by simp [k10], by simp [k11], by simp, rfl, rfl, kA, kT, fun h => ⟨(kF h).1, fun x hx => (htk x hx).elim ((kF h).2 x) fun e => by rw [e, ← (kF h).1]; exact hg⟩⟩
    · have : j = l.length := by omega
      subst this
      simp [k0, k12, t0, -Prod.exists, -Bool.exists_bool]
      refine ⟨(hi2, g2), ?_, by simp [k0, t0], by simp [k1], by simp [k5], by simp [k7], by simp [k10], by simp [k11], rfl, rfl, kA, ?_⟩
      · have b2 := kA.2.1
        have b3 := kA.1
        cases g2 with
        | false => obtain ⟨e, _⟩ := kF rfl; subst e; simp
        | true => have := kT rfl; simp; omega
      · intro h; obtain ⟨rfl, h2⟩ := kF h; simpa using h2
end Go.Ai
