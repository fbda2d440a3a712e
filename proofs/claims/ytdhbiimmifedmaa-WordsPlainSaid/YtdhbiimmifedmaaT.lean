/- Words. -/
import Derived.Test.YtdhbiimmifedmaaS
namespace Go.Ai
set_option linter.unusedVariables false
set_option linter.unusedSimpArgs false

/-- Bytes that a run owns: none, or the first of a block. -/
def OwnT (hp : Heap) (nx : Nat) (l : List UInt8) (y : AV) : Prop :=
  (y = .rs true 0 [] (some 0) ∧ l = []) ∨ ∃ r es, r < nx ∧ y = .sl r 1 0 l.length none ∧ hp r = some es ∧ l.length ≤ es.length ∧ es.take l.length = bytesOf l
theorem OwnT.keep {hp hp' : Heap} {nx nx' : Nat} {l : List UInt8} {y : AV} (h : OwnT hp nx l y) (hn : nx ≤ nx') (hk : ∀ p, p < nx → p ∈ slB y → hp' p = hp p) : OwnT hp' nx' l y := by
  rcases h with ⟨rfl, rfl⟩ | ⟨r, es, h1, rfl, h2, h3, h4⟩
  · exact .inl ⟨rfl, rfl⟩
  · exact .inr ⟨r, es, by omega, rfl, by rw [hk r h1 (by simp), h2], h3, h4⟩
theorem OwnT.len {hp : Heap} {nx : Nat} {l : List UInt8} {y : AV} (h : OwnT hp nx l y) : lenA y = some (.v (.int .i64 (l.length : Nat))) := by
  rcases h with ⟨rfl, rfl⟩ | ⟨r, es, h1, rfl, h2, h3, h4⟩ <;> rfl
theorem OwnT.lt {hp : Heap} {nx : Nat} {l : List UInt8} {y : AV} (h : OwnT hp nx l y) : ∀ p ∈ slB y, p < nx := by
  rcases h with ⟨rfl, rfl⟩ | ⟨r, es, h1, rfl, h2, h3, h4⟩
  · simp
  · simpa using h1
theorem OwnT.app {hp : Heap} {nx : Nat} {l m : List UInt8} {y : AV} (h : OwnT hp nx l y) (hl : l.length + m.length ≤ 1000000000) :
    ∃ y' hp' nx', appA 1 1 y (bytesOf m) hp nx = some (y', hp', nx') ∧ OwnT hp' nx' (l ++ m) y' ∧ nx ≤ nx' ∧ (∀ p, p < nx → p ∉ slB y → hp' p = hp p) ∧ ∀ p ∈ slB y', p ∈ slB y ∨ nx ≤ p := by
  rcases h with ⟨rfl, rfl⟩ | ⟨q, es, h1, rfl, h3, h4, h5⟩
  · by_cases hm : m = []
    · subst hm
      exact ⟨.rs true 0 [] (some 0), hp, nx, rfl, .inl ⟨rfl, rfl⟩, Nat.le_refl _, fun _ _ _ => rfl, by simp⟩
    · have hm' : m.length ≠ 0 := by simpa using hm
      refine ⟨.sl nx 1 0 m.length none, hupd hp nx (some (bytesOf m)), nx + 1, ?_, ?_, by omega, ?_, ?_⟩
      · simp only [appA, bytesOf_len]
        rw [if_pos (.inl trivial), if_neg hm', if_pos ⟨by simp only [List.length_nil]; omega, by simp only [List.length_nil] at hl ⊢; omega⟩]
        simp
      · refine .inr ⟨nx, bytesOf m, by omega, rfl, by simp, by simp [bytesOf_len], ?_⟩
        simp only [List.nil_append]
        rw [← bytesOf_len (l := m)]; exact List.take_length
      · intro p hp1 _; simp [show ¬ p = nx by omega]
      · intro p hp1; simp at hp1; right; omega
  · by_cases hc : l.length + m.length ≤ es.length
    · refine ⟨.sl q 1 0 (l.length + m.length) none, hupd hp q (some (spliceL es l.length (bytesOf m))), nx, ?_, ?_, Nat.le_refl _, ?_, ?_⟩
      · simp only [appA, h3, bytesOf_len, if_true, Nat.zero_add]
        rw [if_neg (by omega), if_pos hc]
      · have hsl : (spliceL es l.length (bytesOf m)).take (l ++ m).length = bytesOf (l ++ m) := by
          have e1 : (bytesOf m).length = m.length := bytesOf_len
          simp only [spliceL, h5]
          rw [List.append_assoc, List.length_append, List.take_append, bytesOf_len]
          have : (bytesOf l).take (l.length + m.length) = bytesOf l := List.take_of_length_le (by rw [bytesOf_len]; omega)
          rw [this, Nat.add_sub_cancel_left, List.take_append_of_le_length (by rw [e1]; omega), List.take_of_length_le (by rw [e1]; omega)]
          simp [bytesOf]
        refine .inr ⟨q, spliceL es l.length (bytesOf m), h1, by simp, by simp, ?_, hsl⟩
        simp only [spliceL, List.length_append, h5, bytesOf_len, List.length_drop]; omega
      · intro p hp1 hp2; simp at hp2; simp [hp2]
      · intro p hp1; left; simpa using hp1
    · refine ⟨.sl nx 1 0 (l.length + m.length) none, hupd (hupd hp q none) nx (some (es.take l.length ++ bytesOf m)), nx + 1, ?_, ?_, by omega, ?_, ?_⟩
      · simp only [appA, h3, bytesOf_len, if_true, Nat.zero_add]
        rw [if_neg (by omega), if_neg hc, if_pos (by omega)]
        simp
      · refine .inr ⟨nx, es.take l.length ++ bytesOf m, by omega, by simp, by simp, ?_, ?_⟩
        · rw [h5]; simp [bytesOf_len]
        · rw [h5]
          have : bytesOf l ++ bytesOf m = bytesOf (l ++ m) := by simp [bytesOf]
          rw [this, ← bytesOf_len (l := l ++ m)]; exact List.take_length
      · intro p hp1 hp2; simp at hp2; simp [hp2, show ¬ p = nx by omega]
      · intro p hp1; simp at hp1; right; omega
theorem mvE_T {K : AV → Heap → Nat → Kd → Prop} {hp : Heap} {nx : Nat} {l m : List UInt8} {y : AV} {b : Blk} (hb : b = bytesOf m) (h : OwnT hp nx l y) (hl : l.length + m.length ≤ 1000000000)
    (k : ∀ y' hp' nx', OwnT hp' nx' (l ++ m) y' → nx ≤ nx' → (∀ p, p < nx → p ∉ slB y → hp' p = hp p) → (∀ p ∈ slB y', p ∈ slB y ∨ nx ≤ p) → K y' hp' nx' .e) : mvE (appA 1 1 y b hp nx) K := by
  obtain ⟨y', hp', nx', h1, h2, h3, h4, h5⟩ := h.app hl
  rw [hb, h1]
  exact k y' hp' nx' h2 h3 h4 h5
theorem OwnT.cut {hp : Heap} {nx : Nat} {l : List UInt8} {y : AV} (h : OwnT hp nx l y) {k : Nat} (hk : k ≤ l.length) :
    ∃ y', sliceA 1 y none (some (.v (.int .i64 (k : Int)))) none = some y' ∧ OwnT hp nx (l.take k) y' ∧ slB y' = slB y := by
  rcases h with ⟨rfl, rfl⟩ | ⟨q, es, h1, rfl, h3, h4, h5⟩
  · have : k = 0 := by simpa using hk
    subst this
    exact ⟨.rs true 0 [] (some 0), rfl, .inl ⟨rfl, rfl⟩, rfl⟩
  · have hlk : (l.take k).length = k := by simp; omega
    refine ⟨.sl q 1 0 (l.take k).length none, ?_, .inr ⟨q, es, h1, rfl, h3, by rw [hlk]; omega, ?_⟩, rfl⟩
    · rw [hlk]
      have hk' : (k : Int) ≤ l.length := by omega
      simp [sliceA, boundsA, idxOf, capCut, hk]
    · rw [hlk]
      have : es.take k = (es.take l.length).take k := by rw [List.take_take, Nat.min_eq_left hk]
      rw [this, h5]; simp [bytesOf, List.map_take]
theorem OwnT.b2s {K : AV → Heap → Nat → Kd → Prop} {hp : Heap} {nx : Nat} {l : List UInt8} {y : AV} (h : OwnT hp nx l y) (k : ∀ kd, K (.str l) hp nx kd) : b2sP y hp nx K := by
  rcases h with ⟨rfl, rfl⟩ | ⟨r, es, h1, rfl, h2, h3, h4⟩
  · exact k .p
  · simp only [b2sP, h2]
    rw [if_pos ⟨trivial, by omega⟩, List.drop_zero, h4, toBytes_bytesOf]
    exact k _

/-! ### What the program does with a line. -/
structure WSt where
  rem : List UInt8
  out : List UInt8
  gap : Nat
  last : Bool
def wstep (q : WSt) : WSt := match wordS q.rem with
  | some (x, r) => ⟨r, (if q.last then q.out.take (q.out.length - q.gap) else q.out) ++ x, 0, true⟩
  | none => match q.rem with
    | [] => q
    | c :: r => ⟨r, q.out ++ [c], if blankC c then q.gap + 1 else 0, if blankC c then q.last else false⟩
def runW : Nat → WSt → List UInt8
  | 0, q => q.out
  | n + 1, q => if q.rem = [] then q.out else runW n (wstep q)
def wordsP (s : List UInt8) : List UInt8 := runW s.length ⟨s, [], 0, false⟩

theorem takeS_len2 {c : UInt8} {l a b : List UInt8} (h : takeS c l = some (a, b)) : a.length + b.length + 1 ≤ l.length := by
  have := idx_lt c l
  simp only [takeS] at h
  split at h
  · cases h
  · cases h; simp; omega
theorem charS_length {cs s x : List UInt8} (h : charS cs s = some x) : x.length ≤ 2 * s.length := by
  have := latS_length s
  simp only [charS] at h
  split at h
  · cases h; omega
  · split at h
    · cases h; omega
    · split at h
      · cases h; omega
      · cases h
theorem wordS_length {s x r : List UInt8} (h : wordS s = some (x, r)) : x.length + 2 * r.length + 2 ≤ 2 * s.length := by
  simp only [wordS] at h
  split at h
  · rename_i hp
    have hl := pre_len hp
    simp only [List.length_cons, List.length_nil] at hl
    have hd : (s.drop 2).length = s.length - 2 := List.length_drop
    simp only [partsS] at h
    cases h1 : takeS 63 (s.drop 2) with
    | none => rw [h1] at h; cases h
    | some p1 =>
      obtain ⟨a, r1⟩ := p1
      rw [h1] at h
      have l1 := takeS_len2 h1
      simp only at h
      cases h2 : takeS 63 r1 with
      | none => rw [h2] at h; cases h
      | some p2 =>
        obtain ⟨b, r2⟩ := p2
        rw [h2] at h
        have l2 := takeS_len2 h2
        simp only at h
        cases h3 : takeS 63 r2 with
        | none => rw [h3] at h; cases h
        | some p3 =>
          obtain ⟨c, r3⟩ := p3
          rw [h3] at h
          have l3 := takeS_len2 h3
          simp only [Option.bind_some, wordT] at h
          split at h
          · cases h4 : saysS a b c with
            | none => rw [h4] at h; cases h
            | some y =>
              rw [h4] at h
              simp only [Option.map_some, Option.some.injEq, Prod.mk.injEq] at h
              obtain ⟨rfl, rfl⟩ := h
              have : y.length ≤ 2 * c.length := by
                simp only [saysS] at h4
                cases h5 : bodyS b c with
                | none => rw [h5] at h4; cases h4
                | some z =>
                  rw [h5] at h4
                  have := charS_length h4
                  have := bodyS_length h5
                  omega
              simp only [List.length_drop]; omega
          · cases h
  · cases h
end Go.Ai
