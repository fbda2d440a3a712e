/- The statement SeqsetOne: plain laws, and 'rising'. -/
import Derived.Test.YtcnaelknemednaaW
namespace Go.Ai
set_option linter.unusedVariables false
set_option linter.unusedSimpArgs false

theorem Gaps.le : ∀ {l : List Sp}, Gaps l → ∀ z ∈ l, z.1 ≤ z.2
  | [], _, z, h => by simp at h
  | x :: r, hg, z, h => by
    rcases List.mem_cons.1 h with rfl | h
    · exact hg.head
    · exact hg.tail.le z h
theorem Gaps.next : ∀ {l : List Sp}, Gaps l → ∀ (j : Nat) (h : j + 1 < l.length), l[j].2 + 1 < l[j + 1].1
  | [], _, j, h => by simp at h
  | x :: r, hg, 0, h => by
    have hr : 0 < r.length := by simpa using h
    exact hg.above r[0] (List.getElem_mem hr)
  | x :: r, hg, j + 1, h => hg.tail.next j (by simpa using h)
theorem in_self {l : List Sp} (hg : Gaps l) {z : Sp} (hz : z ∈ l) : inS l z.1 ∧ inS l z.2 := ⟨⟨z, hz, Int.le_refl _, hg.le z hz⟩, ⟨z, hz, hg.le z hz, Int.le_refl _⟩⟩
theorem cl_b {l : List Sp} {most n : Int} (h : inS (clL l most) n) : 1 ≤ n ∧ n ≤ mxN := by
  obtain ⟨x, h1, a, b, h2, h3, h4⟩ := in_cl.1 h
  have := clip_ok h2
  simp only at this
  omega
theorem norm_b {l : List Sp} {most : Int} : ∀ z ∈ normS l most, 1 ≤ z.1 ∧ z.1 ≤ z.2 ∧ z.2 ≤ mxN := by
  obtain ⟨h1, h2⟩ := norm_ok l most
  intro z hz
  have h3 := in_self h1 hz
  have h4 := cl_b ((h2 _).1 h3.1)
  have h5 := cl_b ((h2 _).1 h3.2)
  exact ⟨h4.1, h1.le z hz, h5.2⟩
theorem clip_id {z : Sp} (h : 1 ≤ z.1 ∧ z.1 ≤ z.2 ∧ z.2 ≤ mxN) : clipS 0 z = some z := by
  obtain ⟨a, b⟩ := z
  simp only at h
  have e : endsS (a, b) 0 = (a, b, true) := by
    have h1 : ¬ a = 0 := by omega
    have h2 : ¬ b = 0 := by omega
    simp [endsS, h1, h2]; omega
  simp only [clipS, e]
  rw [if_pos ⟨trivial, by omega⟩]
  congr 1
  exact Prod.ext (by simp only; omega) (by simp only; omega)
theorem cl_id : ∀ {l : List Sp}, (∀ z ∈ l, 1 ≤ z.1 ∧ z.1 ≤ z.2 ∧ z.2 ≤ mxN) → clL l 0 = l
  | [], _ => rfl
  | z :: r, h => by
    have := cl_id (l := r) fun y hy => h y (by simp [hy])
    simp only [clL, List.filterMap_cons, clip_id (h z (by simp))] at this ⊢
    rw [this]
theorem norm_again (l : List Sp) (most : Int) : normS (normS l most) 0 = normS l most := by
  obtain ⟨h1, h2⟩ := norm_ok l most
  obtain ⟨h3, h4⟩ := norm_ok (normS l most) 0
  exact gaps_unique h3 h1 fun n => by rw [h4 n, cl_id norm_b]
theorem has_norm (l : List Sp) (most x : Int) (hx : x ≤ mxN) : hasS (normS l most) x 0 = hasS l x most := by
  obtain ⟨h1, h2⟩ := norm_ok l most
  have e1 := clip_has (normS l most) 0 x
  have e2 := clip_has l most x
  rw [show (normS l most).filterMap (clipS 0) = normS l most from cl_id norm_b] at e1
  rw [Bool.eq_iff_iff]
  constructor
  · intro h; exact (e2.1 ((h2 x).1 (e1.2 ⟨h, hx⟩))).1
  · intro h; exact (e1.1 ((h2 x).2 (e2.2 ⟨h, hx⟩))).1
theorem has_big {l : List Sp} {x : Int} (hb : ∀ z ∈ l, 1 ≤ z.1 ∧ z.1 ≤ z.2 ∧ z.2 ≤ mxN) (hx : mxN < x) : hasS l x 0 = false := by
  rw [Bool.eq_false_iff]
  intro h
  simp only [hasS, Bool.and_eq_true, List.any_eq_true, covS, decide_eq_true_eq] at h
  obtain ⟨_, z, hz, ⟨_, _⟩, h3⟩ := h
  have h4 := hb z hz
  have e : endsS z 0 = (z.1, z.2, true) := by
    have h1 : ¬ z.1 = 0 := by omega
    have h2 : ¬ z.2 = 0 := by omega
    simp only [endsS, h1, h2, or_self, if_false]
    exact Prod.ext (by simp only; omega) (Prod.ext (by simp only; omega) rfl)
  rw [e] at h3
  simp only at h3
  omega
theorem has_of {ns : List Int} {x : Int} (hx : x ∈ ns) : hasS (ofS ns) x 0 = (decide (1 ≤ x) && decide (x ≤ 4294967295)) := by
  by_cases h : x ≤ mxN
  · have e1 := clip_has (ofS ns) 0 x
    rw [show (ofS ns).filterMap (clipS 0) = ofS ns from cl_id norm_b] at e1
    have e2 : inS (ofS ns) x ↔ x ∈ ns ∧ 1 ≤ x ∧ x ≤ mxN := ((norm_ok (ns.filterMap oneS) 0).2 x).trans in_of
    rw [Bool.eq_iff_iff]
    simp only [Bool.and_eq_true, decide_eq_true_eq]
    constructor
    · intro h2; exact ((e2.1 (e1.2 ⟨h2, h⟩))).2
    · intro h2; exact (e1.1 (e2.2 ⟨hx, h2⟩)).1
  · rw [has_big (l := ofS ns) (norm_b (l := ns.filterMap oneS) (most := 0)) (by omega)]
    simp only [mxN] at h
    simp [h]
theorem in_of_ns {ns : List Int} {k : Int} (h : inS (ofS ns) k) : k ∈ ns := (in_of.1 (((norm_ok (ns.filterMap oneS) 0).2 k).1 h)).1
theorem nodup_len : ∀ {K ns : List Int}, K.Nodup → (∀ m ∈ K, m ∈ ns) → K.length ≤ ns.length
  | [], _, _, _ => by simp
  | m :: K, ns, h, h2 => by
    obtain ⟨h3, h4⟩ := List.nodup_cons.1 h
    have hm := h2 m (by simp)
    have := nodup_len (K := K) (ns := ns.erase m) h4 fun k hk => (List.mem_erase_of_ne (by rintro rfl; exact h3 hk)).2 (h2 k (by simp [hk]))
    rw [List.length_erase_of_mem hm] at this
    have := List.length_pos_of_mem hm
    simp only [List.length_cons]
    omega

theorem f21 (l : List Sp) (x : AV) (hx : SlA 2 (l.map cellsP) x) (hl : l.length ≤ 1000000) (hg : Gaps l) (hb : ∀ z ∈ l, 1 ≤ z.1 ∧ z.1 ≤ z.2 ∧ z.2 ≤ mxN) (hp nx) : Ret E 21 [x] hp nx (.v (.bool true)) hp nx .p := by
  obtain ⟨nil, sz, cap, rfl, hz⟩ := hx
  refine Ret_pureQ e21 rfl (by simp) ?_ hp nx
  simp [c21]
  refine W_loopI (I := fun (j : Nat) s => j ≤ l.length ∧ s.tm 6 = .v (.int .i64 j) ∧ s.tm 5 = .v (.int .i64 l.length) ∧ s.tm 0 = .rs nil sz (l.map cellsP) cap ∧ s.hp = hnil ∧ s.nx = 0) (fun j => l.length - j) 0 (by simp) ?_
  rintro j tm hp nx ⟨hj, h6, h5, h0, rfl, rfl⟩
  simp only at h6 h5 h0
  by_cases hlt : j < l.length
  · have hia : iaddrA 2 (.rs nil sz (l.map cellsP) cap) (.v (.int .i64 j)) = some (.rp (cellsP l[j])) := iaddr_in hz (by simp [hlt]) rfl
    have hw : IntKind.wrap .i64 ((j : Int) + 1) = (j + 1 : Nat) := by rw [wrap_id] <;> omega
    obtain ⟨b1, b2, b3⟩ := hb l[j] (List.getElem_mem hlt)
    simp only [mxN] at b3
    have q1 : ¬ l[j].1 < 1 := by omega
    have q2 : ¬ l[j].2 < l[j].1 := by omega
    have q3 : ¬ 4294967295 < l[j].2 := by omega
    cases j with
    | zero =>
      have hia0 : iaddrA 2 (.rs nil sz (l.map cellsP) cap) (.v (.int .i64 0)) = some (.rp (cellsP l[0])) := hia
      simp [h6, h5, h0, hlt, -iaddrA_rs, hia0, cellsP, q1, q2, q3, wr1]
      exact ⟨1, by omega, by omega, rfl⟩
    | succ i =>
      have hn := hg.next i hlt
      have hia2 : iaddrA 2 (.rs nil sz (l.map cellsP) cap) (.v (.int .i64 i)) = some (.rp (cellsP l[i])) := iaddr_in hz (by simp [show i < l.length by omega]) rfl
      have hw2 : IntKind.wrap .i64 (((i + 1 : Nat) : Int) - 1) = i := by rw [wrap_id] <;> omega
      have hw3 : IntKind.wrap .i64 (l[i + 1].1 - 1) = l[i + 1].1 - 1 := by rw [wrap_id] <;> omega
      have q4 : ¬ l[i + 1].1 - 1 ≤ l[i].2 := by omega
      have q5 : (0 : Int) < ((i + 1 : Nat) : Int) := by omega
      simp [h6, h5, h0, hlt, -iaddrA_rs, hia, hia2, cellsP, q1, q2, q3, q4, q5, hw, hw2, hw3, -Int.natCast_add]
      exact ⟨i + 2, by omega, by omega, by omega⟩
  · have : j = l.length := by omega
    subst this
    simp [h6, h5]
end Go.Ai
