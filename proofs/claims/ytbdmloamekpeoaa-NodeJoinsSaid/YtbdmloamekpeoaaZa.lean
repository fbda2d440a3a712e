/- Contents and nodes: what is written is read, what is read is written. -/
import Derived.Test.YtbdmloamekpeoaaY
namespace Go.Ai
set_option linter.unusedVariables false
set_option linter.unusedSimpArgs false

theorem readS_numS : ∀ (n x : Nat), x < 256 ^ n → readS (numS x n) = x
  | 0, x, h => by simp at h; subst h; rfl
  | n + 1, x, h => by
    have h1 : x / 256 < 256 ^ n := by rw [Nat.pow_succ] at h; omega
    have h2 : (UInt8.ofNat (x % 256)).toNat = x % 256 := by simp
    rw [numS, readS_snoc, readS_numS n _ h1, h2]; omega
theorem numS_readS : ∀ (n : Nat) (l : List UInt8), l.length = n → numS (readS l) n = l
  | 0, l, h => by rw [List.length_eq_zero_iff] at h; subst h; rfl
  | n + 1, l, h => by
    have hne : l ≠ [] := by rintro rfl; simp at h
    obtain ⟨l', b, rfl⟩ : ∃ l' b, l = l' ++ [b] := ⟨l.dropLast, l.getLast hne, (List.dropLast_concat_getLast hne).symm⟩
    have hb := b.toNat_lt
    have hl : l'.length = n := by simpa using h
    rw [readS_snoc, numS]
    have e1 : (256 * readS l' + b.toNat) / 256 = readS l' := by omega
    have e2 : (256 * readS l' + b.toNat) % 256 = b.toNat := by omega
    rw [e1, e2, numS_readS n l' hl]
    simp

theorem bytesR_app (l rest : List UInt8) : bytesR (l ++ rest, false) l.length = (l, (rest, false)) := by
  unfold bytesR; simp
theorem numR_num {x n : Nat} (h : x < 256 ^ n) (rest : List UInt8) : numR (numS x n ++ rest, false) n = (x, (rest, false)) := by
  have := bytesR_app (numS x n) rest
  rw [numS_length] at this
  unfold numR; rw [this, readS_numS n x h]
theorem bytesR_ok {r : RS} {m : Nat} (h : (bytesR r m).2.2 = false) : r.2 = false ∧ (bytesR r m).1.length = m ∧ r.1 = (bytesR r m).1 ++ (bytesR r m).2.1 := by
  unfold bytesR at h ⊢
  split
  · rename_i hm; rw [if_pos hm] at h; exact ⟨h, by simp; omega, by simp⟩
  · rename_i hm; rw [if_neg hm] at h; cases h
theorem numR_ok {r : RS} {m : Nat} (h : (numR r m).2.2 = false) : r.2 = false ∧ m ≤ r.1.length ∧ r.1 = numS (numR r m).1 m ++ (numR r m).2.1 := by
  unfold numR at h ⊢
  obtain ⟨h1, h2, h3⟩ := bytesR_ok h
  refine ⟨h1, ?_, ?_⟩
  · have := congrArg List.length h3; rw [List.length_append] at this; omega
  · show r.1 = numS (readS (bytesR r m).1) m ++ (bytesR r m).2.1
    rw [numS_readS m _ h2]; exact h3

theorem itemR_ok {r : RS} (h : (itemR r).2.2 = false) : r.2 = false ∧ r.1 = itemB (itemR r).1 ++ (itemR r).2.1 := by
  unfold itemR at h ⊢
  split
  · rename_i h255
    rw [if_pos h255] at h
    simp only [Bool.or_eq_false_iff, decide_eq_false_iff_not] at h
    obtain ⟨h1, h2⟩ := h
    obtain ⟨a1, _, a2⟩ := numR_ok h1
    obtain ⟨b1, _, b2⟩ := numR_ok a1
    obtain ⟨c1, _, c2⟩ := numR_ok b1
    refine ⟨c1, ?_⟩
    have hp : 0 < ((numR (numR r 1).2 4).1 : Int) := by omega
    simp only [itemB, hp, if_true, Int.toNat_natCast]
    rw [c2, h255, b2, a2]
    simp [numS]
  · rename_i h255
    rw [if_neg h255] at h
    obtain ⟨a1, a2, a3⟩ := bytesR_ok h
    obtain ⟨b1, _, b2⟩ := numR_ok a1
    refine ⟨b1, ?_⟩
    simp only [itemB]
    rw [if_neg (by omega), a2, List.append_assoc, ← a3]
    exact b2

/-- What a node's loop keeps. -/
def WF (n : Nd) : Prop := if n.leaf then n.items.length = n.keys.length else n.kids.length = n.keys.length + 1
def entries (n : Nd) : List UInt8 := (List.range n.keys.length).flatMap (entryB n)

theorem flatMap_congr' {α β : Type} {l : List α} {f g : α → List β} (h : ∀ x ∈ l, f x = g x) : l.flatMap f = l.flatMap g := by
  induction l with
  | nil => rfl
  | cons a l ih => simp only [List.flatMap_cons]; rw [h a (by simp), ih fun x hx => h x (by simp [hx])]

theorem entries_leaf {n : Nd} (hl : n.leaf = true) (hw : WF n) (k : List UInt8) (x : Itm) : entries ⟨n.leaf, n.keys ++ [k], n.items ++ [x], n.kids⟩ = entries n ++ (numS k.length 1 ++ k ++ itemB x) := by
  simp only [WF, hl, if_true] at hw
  unfold entries
  simp only [List.length_append, List.length_singleton, List.range_succ, List.flatMap_append, List.flatMap_cons, List.flatMap_nil, List.append_nil]
  congr 1
  · refine flatMap_congr' fun i hi => ?_
    simp only [List.mem_range] at hi
    have e1 : (n.keys ++ [k]).getD i [] = n.keys.getD i [] := by simp [List.getD, List.getElem?_append_left hi]
    have e2 : (n.items ++ [x]).getD i ⟨[], 0, 0⟩ = n.items.getD i ⟨[], 0, 0⟩ := by simp [List.getD, List.getElem?_append_left (show i < n.items.length by omega)]
    simp only [entryB, e1, e2]
  · have e1 : (n.keys ++ [k]).getD n.keys.length [] = k := by simp
    have e2 : (n.items ++ [x]).getD n.keys.length ⟨[], 0, 0⟩ = x := by rw [← hw]; simp
    simp only [entryB, e1, e2, hl, if_true]
theorem entries_kid {n : Nd} (hl : n.leaf = false) (hw : WF n) (k : List UInt8) (c : Nat) : entries ⟨n.leaf, n.keys ++ [k], n.items, n.kids ++ [(c : Int)]⟩ = entries n ++ (numS k.length 1 ++ k ++ numS c 4) := by
  simp [WF, hl] at hw
  unfold entries
  simp only [List.length_append, List.length_singleton, List.range_succ, List.flatMap_append, List.flatMap_cons, List.flatMap_nil, List.append_nil]
  congr 1
  · refine flatMap_congr' fun i hi => ?_
    simp only [List.mem_range] at hi
    have e1 : (n.keys ++ [k]).getD i [] = n.keys.getD i [] := by simp [List.getD, List.getElem?_append_left hi]
    have e2 : (n.kids ++ [(c : Int)]).getD (i + 1) 0 = n.kids.getD (i + 1) 0 := by simp [List.getD, List.getElem?_append_left (show i + 1 < n.kids.length by omega)]
    simp only [entryB, e1, e2]
  · have e1 : (n.keys ++ [k]).getD n.keys.length [] = k := by simp
    have e2 : (n.kids ++ [(c : Int)]).getD (n.keys.length + 1) 0 = c := by rw [← hw]; simp
    simp only [entryB, e1, e2, hl]
    simp

theorem stepR_ok {n : Nd} {r : RS} (hw : WF n) (h : (stepR n r).2.2 = false) : r.2 = false ∧ WF (stepR n r).1 ∧ entries n ++ r.1 = entries (stepR n r).1 ++ (stepR n r).2.1 ∧
    (stepR n r).1.keys.length = n.keys.length + 1 ∧ (stepR n r).1.kids.getD 0 0 = n.kids.getD 0 0 ∧ stepT n r.1 = some ((stepR n r).1, (stepR n r).2.1) := by
  cases hl : n.leaf
  · have e : stepR n r = (⟨n.leaf, n.keys ++ [(bytesR (numR r 1).2 (numR r 1).1).1], n.items, n.kids ++ [((numR (bytesR (numR r 1).2 (numR r 1).1).2 4).1 : Int)]⟩, (numR (bytesR (numR r 1).2 (numR r 1).1).2 4).2) := by simp [stepR, hl]
    rw [e] at h ⊢
    obtain ⟨a1, a0, a2⟩ := numR_ok h
    obtain ⟨b1, b2, b3⟩ := bytesR_ok a1
    obtain ⟨c1, c0, c2⟩ := numR_ok b1
    simp only
    refine ⟨c1, ?_, ?_, by simp, ?_, ?_⟩
    · simp [WF, hl] at hw ⊢; omega
    · rw [entries_kid hl hw, b2, List.append_assoc, List.append_assoc, List.append_assoc, ← a2, ← b3, ← c2]
    · simp [WF, hl] at hw
      rw [List.getD_eq_getElem?_getD, List.getD_eq_getElem?_getD, List.getElem?_append_left (show 0 < n.kids.length by omega)]
    · obtain ⟨s, bad⟩ := r
      simp only at c1 c0 c2; subst c1
      have f1 : numR (s, false) 1 = (readS (s.take 1), (s.drop 1, false)) := by unfold numR bytesR; simp only; rw [if_pos c0]
      rw [f1] at b2 b3 a0 ⊢
      simp only at b2 b3
      have f2 : readS (s.take 1) ≤ (s.drop 1).length := by rw [b3, List.length_append, b2]; omega
      have f3 : bytesR (s.drop 1, false) (readS (s.take 1)) = ((s.drop 1).take (readS (s.take 1)), ((s.drop 1).drop (readS (s.take 1)), false)) := by unfold bytesR; simp only; rw [if_pos f2]
      simp only at a0 ⊢
      rw [f3] at a0 ⊢
      simp only at a0 ⊢
      have f4 : numR ((s.drop 1).drop (readS (s.take 1)), false) 4 = (readS (((s.drop 1).drop (readS (s.take 1))).take 4), (((s.drop 1).drop (readS (s.take 1))).drop 4, false)) := by unfold numR bytesR; simp only; rw [if_pos a0]
      rw [f4]
      unfold stepT
      rw [if_neg (by omega), if_neg (by omega), if_neg (by simp [hl]), if_neg (by omega)]
  · have e : stepR n r = (⟨n.leaf, n.keys ++ [(bytesR (numR r 1).2 (numR r 1).1).1], n.items ++ [(itemR (bytesR (numR r 1).2 (numR r 1).1).2).1], n.kids⟩, (itemR (bytesR (numR r 1).2 (numR r 1).1).2).2) := by simp [stepR, hl]
    rw [e] at h ⊢
    obtain ⟨a1, a2⟩ := itemR_ok h
    obtain ⟨b1, b2, b3⟩ := bytesR_ok a1
    obtain ⟨c1, c0, c2⟩ := numR_ok b1
    simp only
    refine ⟨c1, ?_, ?_, by simp, trivial, ?_⟩
    · simp [WF, hl] at hw ⊢; omega
    · rw [entries_leaf hl hw, b2, List.append_assoc, List.append_assoc, List.append_assoc, ← a2, ← b3, ← c2]
    · obtain ⟨s, bad⟩ := r
      simp only at c1 c0 c2; subst c1
      have f1 : numR (s, false) 1 = (readS (s.take 1), (s.drop 1, false)) := by unfold numR bytesR; simp only; rw [if_pos c0]
      rw [f1] at b2 b3 h ⊢
      simp only at b2 b3 h ⊢
      have f2 : readS (s.take 1) ≤ (s.drop 1).length := by rw [b3, List.length_append, b2]; omega
      have f3 : bytesR (s.drop 1, false) (readS (s.take 1)) = ((s.drop 1).take (readS (s.take 1)), ((s.drop 1).drop (readS (s.take 1)), false)) := by unfold bytesR; simp only; rw [if_pos f2]
      rw [f3] at h ⊢
      simp only at h ⊢
      have f4 : itemT ((s.drop 1).drop (readS (s.take 1))) = ((itemR ((s.drop 1).drop (readS (s.take 1)), false)).1, (itemR ((s.drop 1).drop (readS (s.take 1)), false)).2.1, true) := by
        generalize (s.drop 1).drop (readS (s.take 1)) = q at h
        unfold itemR at h ⊢
        split at h
        · rename_i h255
          simp only [Bool.or_eq_false_iff, decide_eq_false_iff_not] at h
          obtain ⟨g1, g2⟩ := h
          obtain ⟨a1, a3, a2⟩ := numR_ok g1
          obtain ⟨b1, b3, b2⟩ := numR_ok a1
          obtain ⟨c1, c3, c2⟩ := numR_ok b1
          have k1 : numR (q, false) 1 = (readS (q.take 1), (q.drop 1, false)) := by unfold numR bytesR; simp only; rw [if_pos c3]
          rw [k1] at h255 a3 b3 ⊢
          simp only at b3 h255 ⊢
          have k2 : numR (q.drop 1, false) 4 = (readS ((q.drop 1).take 4), ((q.drop 1).drop 4, false)) := by unfold numR bytesR; simp only; rw [if_pos b3]
          rw [k2] at a3 ⊢
          simp only at a3 ⊢
          have k3 : numR ((q.drop 1).drop 4, false) 4 = (readS (((q.drop 1).drop 4).take 4), (((q.drop 1).drop 4).drop 4, false)) := by unfold numR bytesR; simp only; rw [if_pos a3]
          rw [k3]
          unfold itemT
          rw [if_pos c3, if_pos h255, if_pos (by simp at a3 ⊢; omega), if_pos h255]
          simp [List.drop_take]
        · rename_i h255
          obtain ⟨a1, a2, a3⟩ := bytesR_ok h
          obtain ⟨b1, b0, b2⟩ := numR_ok a1
          have k1 : numR (q, false) 1 = (readS (q.take 1), (q.drop 1, false)) := by unfold numR bytesR; simp only; rw [if_pos b0]
          rw [k1] at h255 a2 a3 ⊢
          simp only at a2 a3 h255 ⊢
          have k2 : readS (q.take 1) ≤ (q.drop 1).length := by rw [a3, List.length_append, a2]; omega
          have k3 : bytesR (q.drop 1, false) (readS (q.take 1)) = ((q.drop 1).take (readS (q.take 1)), ((q.drop 1).drop (readS (q.take 1)), false)) := by unfold bytesR; simp only; rw [if_pos k2]
          rw [k3]
          unfold itemT takeS
          rw [if_pos b0, if_neg h255, if_neg h255, if_pos k2]
      unfold stepT
      rw [if_neg (by omega), if_neg (by omega), if_pos hl, f4]
      simp
end Go.Ai
