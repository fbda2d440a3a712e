/- Decode and the document's are the same; what is written is read. -/
import Derived.Test.YtbdmloamekpeoaaMg6
/- Decode and the document's are the same; what is written is read. -/
namespace Go.Ai
set_option linter.unusedVariables false
set_option linter.unusedSimpArgs false

theorem loopR_ok : ∀ (m : Nat) {n : Nd} {r : RS}, WF n → (loopR m n r).2.2 = false → r.2 = false ∧ WF (loopR m n r).1 ∧ entries n ++ r.1 = entries (loopR m n r).1 ++ (loopR m n r).2.1 ∧
    (loopR m n r).1.keys.length = n.keys.length + m ∧ (loopR m n r).1.kids.getD 0 0 = n.kids.getD 0 0 ∧ (loopR m n r).1.leaf = n.leaf ∧ loopT m n r.1 = some ((loopR m n r).1, (loopR m n r).2.1)
  | 0, n, r, hw, h => ⟨h, hw, rfl, rfl, rfl, rfl, rfl⟩
  | m + 1, n, r, hw, h => by
    cases hr : r.2 with
    | true => rw [loopR, hr] at h; simp at h; rw [hr] at h; cases h
    | false =>
      have e : loopR (m + 1) n r = loopR m (stepR n r).1 (stepR n r).2 := by rw [loopR, hr]; rfl
      rw [e] at h ⊢
      have hs : (stepR n r).2.2 = false := by
        cases hb : (stepR n r).2.2 with
        | false => rfl
        | true => rw [loopR_bad hb] at h; simp only at h; rw [hb] at h; cases h
      obtain ⟨_, a2, a3, a4, a5, a6⟩ := stepR_ok hw hs
      obtain ⟨b1, b2, b3, b4, b5, b6, b7⟩ := loopR_ok m a2 h
      refine ⟨rfl, b2, by rw [a3, b3], by omega, by rw [b5, a5], by rw [b6, stepR_leaf], ?_⟩
      rw [loopT, a6]; exact b7

theorem endR_ok {kind : Int} (hk : kind = 1 ∨ kind = 2) {s : List UInt8} (h : (endR kind s).2.2 = false) (he : (endR kind s).2.1 = []) :
    contentS (endR kind s).1 = s ∧ (endR kind s).1.leaf = decide (kind = 1) ∧ endT kind s = some ((endR kind s).1, []) := by
  unfold endR at h he ⊢
  have hw : WF (startR kind (numR (s, false) 2).2).1 := by unfold startR; split <;> simp [WF]
  obtain ⟨a1, a2, a3, a4, a5, a6, a7⟩ := loopR_ok _ hw h
  rw [he] at a3 a7
  generalize hn : (loopR (numR (s, false) 2).1 (startR kind (numR (s, false) 2).2).1 (startR kind (numR (s, false) 2).2).2).1 = n at *
  rcases hk with rfl | rfl
  · have e : startR 1 (numR (s, false) 2).2 = (⟨true, [], [], []⟩, (numR (s, false) 2).2) := by simp [startR]
    rw [e] at a1 a3 a4 a5 a6 a7
    simp only at a1 a3 a4 a5 a6 a7
    obtain ⟨b1, b2, b3⟩ := numR_ok a1
    simp only at b2 b3
    simp at a4
    have e0 : entries ⟨true, [], [], []⟩ = [] := rfl
    rw [e0] at a3
    refine ⟨?_, by simpa using a6, ?_⟩
    · show headB n ++ entries n = s
      simp at a3
      simp only [headB, a6, if_true, a4, List.append_nil]
      rw [← a3]; exact b3.symm
    · unfold endT startT
      have f1 : numR (s, false) 2 = (readS (s.take 2), (s.drop 2, false)) := by unfold numR bytesR; simp only; rw [if_pos b2]
      rw [f1] at a7
      rw [if_neg (by simp; omega)]
      simp only [show ¬ (1 : Int) = 2 by decide, if_false]
      exact a7
  · have e : startR 2 (numR (s, false) 2).2 = (⟨false, [], [], [((numR (numR (s, false) 2).2 4).1 : Int)]⟩, (numR (numR (s, false) 2).2 4).2) := by simp [startR]
    rw [e] at a1 a3 a4 a5 a6 a7
    simp only at a1 a3 a4 a5 a6 a7
    obtain ⟨c1, c2, c3⟩ := numR_ok a1
    obtain ⟨b1, b2, b3⟩ := numR_ok c1
    simp only at b2 b3
    simp at a4 a5
    have e0 : ∀ x : Int, entries ⟨false, [], [], [x]⟩ = [] := fun _ => rfl
    rw [e0] at a3
    refine ⟨?_, by simpa using a6, ?_⟩
    · show headB n ++ entries n = s
      simp at a3
      have hkd : n.kids.getD 0 0 = ((numR (numR (s, false) 2).2 4).1 : Int) := by simpa using a5
      simp only [headB, a6, a4, hkd]
      rw [← a3]
      simp only [Bool.false_eq_true, if_false, Int.toNat_natCast]
      rw [List.append_assoc, ← c3]; exact b3.symm
    · unfold endT startT
      have f1 : numR (s, false) 2 = (readS (s.take 2), (s.drop 2, false)) := by unfold numR bytesR; simp only; rw [if_pos b2]
      rw [f1] at a7 c2
      simp only at a7 c2
      have f2 : numR (s.drop 2, false) 4 = (readS ((s.drop 2).take 4), ((s.drop 2).drop 4, false)) := by unfold numR bytesR; simp only; rw [if_pos c2]
      rw [f2] at a7
      rw [if_neg (by simp; omega), if_pos rfl, if_neg (by omega)]
      exact a7

/-- What is read has that content. -/
theorem decS_content {kind : Int} {s : List UInt8} {n : Nd} (h : decS kind s = some n) : (kind = 1 ∨ kind = 2) ∧ contentS n = s ∧ n.leaf = decide (kind = 1) ∧ rightS n = true ∧ refS kind s = some n := by
  by_cases hk : kind = 1 ∨ kind = 2
  · rw [decS_eq hk] at h
    split at h
    · cases h
    · rename_i hn
      simp only [Option.some.injEq] at h; subst h
      simp only [not_or, Bool.not_eq_true, ne_eq, Classical.not_not] at hn
      obtain ⟨h1, h2, h3⟩ := hn
      obtain ⟨a1, a2, a3⟩ := endR_ok hk h1 h2
      refine ⟨hk, a1, a2, by simpa using h3, ?_⟩
      unfold refS; rw [a3]; simp only
      rw [if_pos ⟨trivial, by simpa using h3, a1⟩]
  · unfold decS at h
    rw [if_pos (by omega)] at h; cases h

/-! ### Written, then read -/
def partN (n : Nd) (i : Nat) : Nd := ⟨n.leaf, n.keys.take i, if n.leaf then n.items.take i else [], if n.leaf then [] else n.kids.take (i + 1)⟩
def restN (n : Nd) (i : Nat) : List UInt8 := ((List.range n.keys.length).drop i).flatMap (entryB n)

theorem itemR_item {x : Itm} (h : itemS x = true) (rest : List UInt8) : itemR (itemB x ++ rest, false) = (x, (rest, false)) := by
  obtain ⟨v, p, s⟩ := x
  rcases itemS_cases h with ⟨h1, h2, h3⟩ | ⟨p', s', h1, h2, h3, h4, h5, h6, h7⟩
  · simp only at h1 h2 h3; subst h1; subst h2
    have e : itemB ⟨v, 0, 0⟩ = numS v.length 1 ++ v := by simp [itemB]
    rw [e, List.append_assoc]
    unfold itemR
    rw [numR_num (n := 1) (x := v.length) (by omega)]
    simp only
    rw [if_neg (by omega), bytesR_app]
  · simp only at h1 h2 h7; subst h1; subst h2; subst h7
    have e : itemB ⟨[], (p' : Int), (s' : Int)⟩ = numS 255 1 ++ (numS p' 4 ++ numS s' 4) := by simp [itemB, show 0 < p' by omega]; rfl
    rw [e, List.append_assoc, List.append_assoc]
    unfold itemR
    rw [numR_num (n := 1) (x := 255) (by omega)]
    simp only [if_true]
    rw [numR_num (n := 4) (x := p') (by omega)]
    simp only
    rw [numR_num (n := 4) (x := s') (by omega)]
    simp; omega

theorem restN_step {n : Nd} {i : Nat} (h : i < n.keys.length) : restN n i = entryB n i ++ restN n (i + 1) := by
  unfold restN
  rw [List.drop_eq_getElem_cons (by simpa using h)]
  simp
theorem loopR_written {n : Nd} (hf : RightF n) : ∀ (d i : Nat), i + d = n.keys.length → loopR d (partN n i) (restN n i, false) = (partN n n.keys.length, ([], false))
  | 0, i, h => by
    have : i = n.keys.length := by omega
    subst this
    have : (List.range n.keys.length).drop n.keys.length = [] := by simp
    simp only [loopR, restN, this, List.flatMap_nil]
  | d + 1, i, h => by
    have hi : i < n.keys.length := by omega
    have ih := loopR_written hf d (i + 1) (by omega)
    have hk : n.keys.getD i [] = n.keys[i] := by simp [hi]
    have hkl := hf.klen i hi
    have hts : n.keys.take (i + 1) = n.keys.take i ++ [n.keys[i]] := by rw [List.take_add_one, List.getElem?_eq_getElem hi]; rfl
    have hst : stepR (partN n i) (restN n i, false) = (partN n (i + 1), (restN n (i + 1), false)) := by
      rw [restN_step hi]
      cases hl : n.leaf
      · obtain ⟨g1, g2, g3, g4⟩ := hf.inner hl
        have hik : i + 1 < n.kids.length := by omega
        obtain ⟨k, hk2, hk3, hk4⟩ := kidS_nat (g4 _ (List.getElem_mem hik))
        have hg : (n.kids.getD (i + 1) 0).toNat = k := by simp [hik, hk2]
        have e : entryB n i = numS n.keys[i].length 1 ++ (n.keys[i] ++ numS k 4) := by simp only [entryB, hk, hl, hg]; simp
        have htk : n.kids.take (i + 1 + 1) = n.kids.take (i + 1) ++ [(k : Int)] := by rw [List.take_add_one, List.getElem?_eq_getElem hik, hk2]; rfl
        rw [e, List.append_assoc, List.append_assoc]
        unfold stepR
        simp only [partN, hl, Bool.false_eq_true, if_false]
        rw [numR_num (n := 1) (x := n.keys[i].length) (by omega)]
        simp only
        rw [bytesR_app]
        simp only
        rw [numR_num (n := 4) (x := k) (by omega), hts, htk]
      · obtain ⟨g1, g2, g3⟩ := hf.leaf hl
        have hii : i < n.items.length := by omega
        have hg : n.items.getD i ⟨[], 0, 0⟩ = n.items[i] := by simp [hii]
        have e : entryB n i = numS n.keys[i].length 1 ++ (n.keys[i] ++ itemB n.items[i]) := by simp only [entryB, hk, hl, hg]; simp
        have hti : n.items.take (i + 1) = n.items.take i ++ [n.items[i]] := by rw [List.take_add_one, List.getElem?_eq_getElem hii]; rfl
        rw [e, List.append_assoc, List.append_assoc]
        unfold stepR
        simp only [partN, hl, if_true]
        rw [numR_num (n := 1) (x := n.keys[i].length) (by omega)]
        simp only
        rw [bytesR_app]
        simp only
        rw [itemR_item (g3 _ (List.getElem_mem hii)), hts, hti]
    rw [loopR, hst]
    exact ih

theorem partN_all {n : Nd} (hf : RightF n) : partN n n.keys.length = n := by
  obtain ⟨leaf, keys, items, kids⟩ := n
  cases leaf
  · obtain ⟨g1, g2, g3, g4⟩ := hf.inner rfl
    simp only at g1 g2 g3
    simp [partN, g3, ← g2]
  · obtain ⟨g1, g2, g3⟩ := hf.leaf rfl
    simp only at g1 g2
    have : keys.take keys.length = keys := List.take_length
    have h2 : items.take keys.length = items := by rw [← g1]; exact List.take_length
    simp [partN, g2, h2]

def kindS (n : Nd) : Int := if n.leaf then 1 else 2
theorem decS_written {n : Nd} (hr : rightS n = true) (hl : n.keys.length < 65536) : decS (kindS n) (contentS n) = some n := by
  have hf := RightF.of hr
  have key : endR (kindS n) (contentS n) = (n, ([], false)) := by
    have h0 : contentS n = headB n ++ restN n 0 := by simp [contentS, restN]
    have lw := loopR_written hf n.keys.length 0 (by omega)
    rw [partN_all hf] at lw
    unfold endR
    rw [h0]
    cases hlf : n.leaf
    · obtain ⟨g1, g2, g3, g4⟩ := hf.inner hlf
      have h0k : 0 < n.kids.length := by omega
      obtain ⟨k, hk2, hk3, hk4⟩ := kidS_nat (g4 _ (List.getElem_mem h0k))
      have hg : (n.kids.getD 0 0).toNat = k := by simp [h0k, hk2]
      have e : headB n = numS n.keys.length 2 ++ numS k 4 := by simp only [headB, hlf, hg]; simp
      have hkd : kindS n = 2 := by simp [kindS, hlf]
      have hp : partN n 0 = ⟨false, [], [], [(k : Int)]⟩ := by
        simp only [partN, hlf]
        have : n.kids.take (0 + 1) = [(k : Int)] := by rw [List.take_add_one, List.getElem?_eq_getElem h0k, hk2]; rfl
        simp [this]
      rw [e, hkd, List.append_assoc, numR_num (n := 2) (x := n.keys.length) (by omega)]
      have es : startR 2 (numS k 4 ++ restN n 0, false) = (⟨false, [], [], [(k : Int)]⟩, (restN n 0, false)) := by
        unfold startR
        rw [if_neg (by decide), numR_num (n := 4) (x := k) (by omega)]
      simp only [es]
      rw [← hp]; exact lw
    · have e : headB n = numS n.keys.length 2 := by simp [headB, hlf]
      have hkd : kindS n = 1 := by simp [kindS, hlf]
      have hp : partN n 0 = ⟨true, [], [], []⟩ := by simp [partN, hlf]
      rw [e, hkd, numR_num (n := 2) (x := n.keys.length) (by omega)]
      simp only [startR, if_true]
      rw [← hp]; exact lw
  have hk : kindS n = 1 ∨ kindS n = 2 := by unfold kindS; split <;> simp
  rw [decS_eq hk, key]
  simp [hr]

theorem stepT_len {n n' : Nd} {s s' : List UInt8} (h : stepT n s = some (n', s')) : n'.leaf = n.leaf ∧ n'.keys.length = n.keys.length + 1 := by
  unfold stepT at h
  split at h
  · cases h
  split at h
  · cases h
  split at h
  · split at h
    · simp at h; obtain ⟨rfl, _⟩ := h; simp
    · cases h
  · split at h
    · cases h
    · simp at h; obtain ⟨rfl, _⟩ := h; simp
theorem loopT_len : ∀ (m : Nat) {n n' : Nd} {s s' : List UInt8}, loopT m n s = some (n', s') → n'.leaf = n.leaf ∧ n'.keys.length = n.keys.length + m
  | 0, n, n', s, s', h => by simp [loopT] at h; obtain ⟨rfl, _⟩ := h; simp
  | m + 1, n, n', s, s', h => by
    rw [loopT] at h
    split at h
    · rename_i n1 s1 h1
      obtain ⟨a, b⟩ := stepT_len h1
      obtain ⟨c, d⟩ := loopT_len m h
      exact ⟨c.trans a, by omega⟩
    · cases h

theorem refS_eq (kind : Int) (s : List UInt8) : refS kind s = decS kind s := by
  cases hd : decS kind s with
  | some n => exact (decS_content hd).2.2.2.2
  | none =>
    cases hr : refS kind s with
    | none => rfl
    | some n =>
      exfalso
      unfold refS at hr
      split at hr
      · rename_i m r he
        split at hr
        · rename_i hc
          simp only [Option.some.injEq] at hr; subst hr
          obtain ⟨rfl, h1, h2⟩ := hc
          -- its kind, its length
          unfold endT at he
          split at he
          · rename_i n0 r0 hs
            obtain ⟨a, b⟩ := loopT_len _ he
            have hrl : readS (s.take 2) < 65536 := by
              have h3 := readS_lt (s.take 2)
              have h4 : 256 ^ (s.take 2).length ≤ 256 ^ 2 := Nat.pow_le_pow_right (by omega) (by simp; omega)
              omega
            have hk : m.keys.length < 65536 ∧ kind = kindS m := by
              unfold startT at hs
              split at hs
              · cases hs
              · rename_i hn
                split at hs
                · rename_i h2
                  split at hs
                  · cases hs
                  · simp only [Option.some.injEq, Prod.mk.injEq] at hs
                    obtain ⟨rfl, _⟩ := hs
                    simp at a b
                    exact ⟨by omega, by simp [kindS, a, h2]⟩
                · rename_i h2
                  simp only [Option.some.injEq, Prod.mk.injEq] at hs
                  obtain ⟨rfl, _⟩ := hs
                  simp at a b
                  refine ⟨by omega, ?_⟩
                  simp [kindS, a]; omega
            have := decS_written h1 hk.1
            rw [← hk.2, h2, hd] at this; cases this
          · cases he
        · cases hr
      · cases hr

theorem f25 (kind : Int) (s : List UInt8) (hsl : s.length ≤ 50000) : ∃ v, decQ kind s v ∧ ∀ hp nx, Ret E 25 [.v (.int .i64 kind), .str s] hp nx v hp nx .p := by
  have conv : ∀ v, refQ kind s v → decQ kind s v := fun v h => by unfold refQ at h; rw [refS_eq] at h; exact h
  suffices h : ∃ v, refQ kind s v ∧ ∀ hp nx, Ret E 25 [.v (.int .i64 kind), .str s] hp nx v hp nx .p from by
    obtain ⟨v, h1, h2⟩ := h; exact ⟨v, conv v h1, h2⟩
  refine Ret_pureE e25 rfl (by simp) ?_
  have hrl : readS (s.take 2) < 65536 := by
    have h3 := readS_lt (s.take 2)
    have h4 : 256 ^ (s.take 2).length ≤ 256 ^ 2 := Nat.pow_le_pow_right (by omega) (by simp; omega)
    omega
  have fail : startT kind s = none → refQ kind s (.tup [zeroN, .v (.int .i64 11)]) := fun h => by
    have : refS kind s = none := by unfold refS endT; rw [h]
    exact ⟨fun m h2 => (by rw [this] at h2; cases h2), fun _ => rfl⟩
  have main := fun (st : St) hk h => f25_loop kind hk s hsl (readS (s.take 2)) (by omega) (0, ((startT kind s).getD (nd0, [])).1, ((startT kind s).getD (nd0, [])).2) st h
  simp only [c25] at main
  by_cases h2 : s.length < 2
  · have hs : startT kind s = none := by unfold startT; rw [if_pos (by omega)]
    have q : ¬ 2 ≤ s.length := by omega
    simp [c25, spliceL, -W_block]
    refine WCall_p (f49 s 2 _ _) ?_
    simp [takeS, takeA, q, spliceL]
    exact ⟨.tup [zeroN, .v (.int .i64 11)], by simp [zeroN, frz_closed], fail hs⟩
  have q : 2 ≤ s.length := by omega
  by_cases h1 : kind = 1
  · subst h1
    simp [c25, spliceL, -W_block]
    refine WCall_p (f49 s 2 _ _) ?_
    simp [takeS, takeA, q, spliceL, -W_block]
    refine WCall_p (f50 _ (by simp; omega) _ _) ?_
    simp [-W_block]
    simp only [W_block]
    have hs : startT 1 s = some (⟨true, [], [], []⟩, s.drop 2) := by unfold startT; rw [if_neg (by simp; omega), if_neg (by decide)]
    rw [hs] at main
    refine main _ (.inl rfl) ?_
    have he : endT 1 s = loopT (readS (s.take 2)) ⟨true, [], [], []⟩ (s.drop 2) := by unfold endT; rw [hs]
    exact ⟨by simp, by simp, by simp, by simp, by simp, by simp, by simp, by simp, by simp [zeroN], ⟨_, _, _, ⟨by simp, OwnS.nil, OwnS.nil, OwnS.nil, by simp, by simp, by simp, by simp, by simp, by simp⟩⟩, (by show 1 < 2; omega), he.symm, by simp, by simp, by simp, by simp, by simp⟩
  · by_cases h3 : kind = 2
    · subst h3
      simp [c25, spliceL, -W_block]
      refine WCall_p (f49 s 2 _ _) ?_
      simp [takeS, takeA, q, spliceL, -W_block]
      refine WCall_p (f50 _ (by simp; omega) _ _) ?_
      simp [-W_block]
      refine WCall_p (f49 _ 4 _ _) ?_
      by_cases h4 : (s.drop 2).length < 4
      · have hs : startT 2 s = none := by unfold startT; rw [if_neg (by simp; omega), if_pos rfl, if_pos h4]
        have q4 : ¬ 4 ≤ s.length - 2 := by simp at h4; omega
        simp [takeS, takeA, q4, spliceL]
        exact ⟨.tup [zeroN, .v (.int .i64 11)], by simp [zeroN, frz_closed], fail hs⟩
      · have q4 : 4 ≤ s.length - 2 := by simp at h4; omega
        simp [takeS, takeA, q4, spliceL, -W_block]
        refine WCall_p (f50 _ (by simp; omega) _ _) ?_
        simp [spliceL, -W_block]
        simp only [W_block]
        have hs : startT 2 s = some (⟨false, [], [], [(readS ((s.drop 2).take 4) : Int)]⟩, (s.drop 2).drop 4) := by unfold startT; rw [if_neg (by simp; omega), if_pos rfl, if_neg h4]
        rw [hs] at main
        refine main _ (.inr rfl) ?_
        have he : endT 2 s = loopT (readS (s.take 2)) ⟨false, [], [], [(readS ((s.drop 2).take 4) : Int)]⟩ ((s.drop 2).drop 4) := by unfold endT; rw [hs]
        exact ⟨by simp, by simp, by simp, by simp, by simp, by simp, by simp, by simp, by simp [zeroN], ⟨_, _, _, ⟨by simp; rfl, OwnS.nil, OwnS.nil, OwnS.lit, by simp, by simp, by simp, by simp, by simp, by simp⟩⟩, (by show 1 < 2; omega), he.symm, by simp, by simp, by simp, by simp, by simp⟩
    · have hs : startT kind s = none := by unfold startT; rw [if_pos (by omega)]
      simp [c25, spliceL, h1, h3]
      refine WCall_p (f49 s 2 _ _) ?_
      simp [takeS, takeA, q, spliceL, h1, h3]
      exact ⟨.tup [zeroN, .v (.int .i64 11)], by simp [zeroN, frz_closed], fail hs⟩
end Go.Ai

/- Are two nodes the same? -/
namespace Go.Ai
set_option linter.unusedVariables false
set_option linter.unusedSimpArgs false

noncomputable def sameS (a b : Nd) : Bool := @decide (a = b) (Classical.propDecidable _)
theorem sameS_true {a b : Nd} (h : a = b) : sameS a b = true := by simp [sameS, h]
theorem sameS_false {a b : Nd} (h : a ≠ b) : sameS a b = false := by simp [sameS, h]
theorem sameS_refl (a : Nd) : sameS a a = true := sameS_true rfl

theorem same_upto {α : Type} {a b : List α} (hl : a.length = b.length) (h : ∀ i (h1 : i < a.length) (h2 : i < b.length), a[i] = b[i]) : a = b := List.ext_getElem hl fun i h1 h2 => h i h1 h2

theorem f22 (a b : Nd) (x y : AV) (hx : NdA a x) (hy : NdA b y) (h1 : a.keys.length ≤ 100000) (h2 : a.items.length ≤ 100000) (h3 : a.kids.length ≤ 100001) (hp nx) :
    Ret E 22 [x, y] hp nx (.v (.bool (sameS a b))) hp nx .p := by
  obtain ⟨aleaf, akeys, aitems, akids⟩ := a
  obtain ⟨bleaf, bkeys, bitems, bkids⟩ := b
  obtain ⟨kA, iA, dA, rfl, ⟨akn, aksz, akc, rfl, akz⟩, ⟨ain, aisz, aic, rfl, aiz⟩, ⟨adn, adsz, adc, rfl, adz⟩⟩ := hx
  obtain ⟨kB, iB, dB, rfl, ⟨bkn, bksz, bkc, rfl, bkz⟩, ⟨bin, bisz, bic, rfl, biz⟩, ⟨bdn, bdsz, bdc, rfl, bdz⟩⟩ := hy
  simp only at h1 h2 h3 akz aiz adz bkz biz bdz
  refine Ret_pureQ e22 rfl (by simp) ?_ hp nx
  have no : ∀ {v : Bool}, (Nd.mk aleaf akeys aitems akids ≠ Nd.mk bleaf bkeys bitems bkids) → sameS ⟨aleaf, akeys, aitems, akids⟩ ⟨bleaf, bkeys, bitems, bkids⟩ = false := fun h => sameS_false h
  by_cases g0 : aleaf = bleaf
  case neg =>
    have e : (aleaf == bleaf) = false := by simpa using g0
    simp [c22, e, no (v := true) (fun h => g0 (congrArg Nd.leaf h))]
  have e0 : (aleaf == bleaf) = true := by simpa using g0
  by_cases g1 : akeys.length = bkeys.length
  case neg =>
    have g1' : ¬ (akeys.length : Int) = bkeys.length := by omega
    simp [c22, e0, g1', no (v := true) (fun h => g1 (congrArg (·.keys.length) h))]
  have g1' : (akeys.length : Int) = bkeys.length := by omega
  by_cases g2 : aitems.length = bitems.length
  case neg =>
    have g2' : ¬ (aitems.length : Int) = bitems.length := by omega
    simp [c22, e0, g1', g2', no (v := true) (fun h => g2 (congrArg (·.items.length) h))]
  have g2' : (aitems.length : Int) = bitems.length := by omega
  by_cases g3 : akids.length = bkids.length
  case neg =>
    have g3' : ¬ (akids.length : Int) = bkids.length := by omega
    simp [c22, e0, g1', g2', g3', no (v := true) (fun h => g3 (congrArg (·.kids.length) h))]
  have g3' : (akids.length : Int) = bkids.length := by omega
  simp [c22, e0, g1', g2', g3']
  have hH : ∃ H : Heap, H = hupd (hupd hnil 0 (some [[AV.v (Value.bool aleaf), AV.rs akn aksz (akeys.map keyC) akc, AV.rs ain aisz (aitems.map Itm.cells) aic, AV.rs adn adsz (akids.map kidC) adc]])) 1
      (some [[AV.v (Value.bool bleaf), AV.rs bkn bksz (bkeys.map keyC) bkc, AV.rs bin bisz (bitems.map Itm.cells) bic, AV.rs bdn bdsz (bkids.map kidC) bdc]]) := ⟨_, rfl⟩
  obtain ⟨H, hH⟩ := hH
  rw [← hH]
  have H0 : H 0 = some [[AV.v (Value.bool aleaf), AV.rs akn aksz (akeys.map keyC) akc, AV.rs ain aisz (aitems.map Itm.cells) aic, AV.rs adn adsz (akids.map kidC) adc]] := by rw [hH]; simp
  have H1 : H 1 = some [[AV.v (Value.bool bleaf), AV.rs bkn bksz (bkeys.map keyC) bkc, AV.rs bin bisz (bitems.map Itm.cells) bic, AV.rs bdn bdsz (bkids.map kidC) bdc]] := by rw [hH]; simp
  clear hH
  refine W_loopI (I := fun (j : Nat) s => j ≤ akeys.length ∧ s.tm 5 = .int .i64 j ∧ s.tm 2 = .ptr 0 0 0 ∧ s.tm 3 = .ptr 1 0 0 ∧ s.hp = H ∧ (∀ i (u : i < akeys.length) (v : i < bkeys.length), i < j → akeys[i] = bkeys[i]))
    (fun j => akeys.length - j) 0 (by simp) ?_
  rintro j tm hp nx ⟨hj, t5, t2, t3, hH, hno⟩
  simp only at t5 t2 t3 hH
  subst hH
  by_cases hlt : j < akeys.length
  · have hlt' : (j : Int) < akeys.length := by omega
    have hltb : j < bkeys.length := by omega
    have i1 : iaddrA 1 (.rs akn aksz (akeys.map keyC) akc) (.v (.int .i64 j)) = some (.rp (keyC akeys[j])) := iaddr_in akz (by simp [hlt]) rfl
    have i2 : iaddrA 1 (.rs bkn bksz (bkeys.map keyC) bkc) (.v (.int .i64 j)) = some (.rp (keyC bkeys[j])) := iaddr_in bkz (by simp [hltb]) rfl
    have hw : IntKind.wrap .i64 ((j : Int) + 1) = (j + 1 : Nat) := by rw [wrap_id] <;> omega
    by_cases he : akeys[j] = bkeys[j]
    · simp [t5, t2, t3, H0, H1, hlt', i1, i2, -iaddrA_rs, keyC, he, hw, -Int.ofNat_lt, -Int.natCast_add]
      refine ⟨j + 1, by omega, by omega, rfl, fun i u v h => ?_⟩
      rcases Nat.lt_or_ge i j with g | g
      · exact hno i u v g
      · have : i = j := by omega
        subst this; exact he
    · simp [t5, t2, t3, H0, H1, hlt', i1, i2, -iaddrA_rs, keyC, he, -Int.ofNat_lt]
      refine no (v := true) (fun h => he ?_)
      have : akeys = bkeys := congrArg Nd.keys h
      simp [this]
  have hlt' : ¬ (j : Int) < akeys.length := by omega
  have hke : akeys = bkeys := same_upto g1 fun i u v => hno i u v (by omega)
  simp [t5, t2, t3, H0, H1, hlt', -Int.ofNat_lt]
  refine W_loopI (I := fun (j : Nat) s => j ≤ aitems.length ∧ s.tm 6 = .int .i64 j ∧ s.tm 2 = .ptr 0 0 0 ∧ s.tm 3 = .ptr 1 0 0 ∧ s.hp = hp ∧ (∀ i (u : i < aitems.length) (v : i < bitems.length), i < j → aitems[i] = bitems[i]))
    (fun j => aitems.length - j) 0 (by simp [t2, t3]) ?_
  clear t5 t2 t3 hlt hlt' hj
  rintro j tm hp nx ⟨hj, t6, t2, t3, hH, hno2⟩
  simp only at t6 t2 t3 hH
  subst hH
  by_cases hlt : j < aitems.length
  · have hlt' : (j : Int) < aitems.length := by omega
    have hltb : j < bitems.length := by omega
    have i1 : iaddrA 3 (.rs ain aisz (aitems.map Itm.cells) aic) (.v (.int .i64 j)) = some (.rp aitems[j].cells) := iaddr_in aiz (by simp [hlt]) rfl
    have i2 : iaddrA 3 (.rs bin bisz (bitems.map Itm.cells) bic) (.v (.int .i64 j)) = some (.rp bitems[j].cells) := iaddr_in biz (by simp [hltb]) rfl
    have hw : IntKind.wrap .i64 ((j : Int) + 1) = (j + 1 : Nat) := by rw [wrap_id] <;> omega
    by_cases he : aitems[j] = bitems[j]
    · simp [t6, t2, t3, H0, H1, hlt', i1, i2, -iaddrA_rs, he, hw, -Int.ofNat_lt, -Int.natCast_add]
      refine ⟨by simp [Itm.cells], ?_⟩
      simp [Itm.cells, t6, t2, t3, hw, -Int.natCast_add]
      refine ⟨j + 1, by omega, by omega, rfl, fun i u v h => ?_⟩
      rcases Nat.lt_or_ge i j with g | g
      · exact hno2 i u v g
      · have : i = j := by omega
        subst this; exact he
    · have hne : ¬ ((aitems[j].v = bitems[j].v ∧ aitems[j].p = bitems[j].p) ∧ aitems[j].s = bitems[j].s) := by
        rintro ⟨⟨u1, u2⟩, u3⟩; apply he
        generalize aitems[j] = p at *; generalize bitems[j] = q at *
        cases p; cases q; simp_all
      simp [t6, t2, t3, H0, H1, hlt', i1, i2, -iaddrA_rs, -Int.ofNat_lt]
      refine ⟨by simp [Itm.cells], by simp [Itm.cells], ?_⟩
      have hz : (!(decide (aitems[j].v = bitems[j].v) && (decide (aitems[j].p = bitems[j].p) && decide (aitems[j].s = bitems[j].s)))) = true := by
        cases hq : (decide (aitems[j].v = bitems[j].v) && (decide (aitems[j].p = bitems[j].p) && decide (aitems[j].s = bitems[j].s))) with
        | false => rfl
        | true => simp at hq; exact absurd ⟨⟨hq.1, hq.2.1⟩, hq.2.2⟩ hne
      simp [Itm.cells, -Bool.not_and, hz]
      refine no (v := true) (fun h => he ?_)
      have : aitems = bitems := congrArg Nd.items h
      simp [this]
  have hlt' : ¬ (j : Int) < aitems.length := by omega
  have hie : aitems = bitems := same_upto g2 fun i u v => hno2 i u v (by omega)
  simp [t6, t2, t3, H0, H1, hlt', -Int.ofNat_lt]
  refine W_loopI (I := fun (j : Nat) s => j ≤ akids.length ∧ s.tm 7 = .int .i64 j ∧ s.tm 2 = .ptr 0 0 0 ∧ s.tm 3 = .ptr 1 0 0 ∧ s.hp = hp ∧ (∀ i (u : i < akids.length) (v : i < bkids.length), i < j → akids[i] = bkids[i]))
    (fun j => akids.length - j) 0 (by simp [t2, t3]) ?_
  clear t6 t2 t3 hlt hlt' hj
  rintro j tm hp nx ⟨hj, t7, t2, t3, hH, hno3⟩
  simp only at t7 t2 t3 hH
  subst hH
  by_cases hlt : j < akids.length
  · have hlt' : (j : Int) < akids.length := by omega
    have hltb : j < bkids.length := by omega
    have i1 : iaddrA 1 (.rs adn adsz (akids.map kidC) adc) (.v (.int .i64 j)) = some (.rp (kidC akids[j])) := iaddr_in adz (by simp [hlt]) rfl
    have i2 : iaddrA 1 (.rs bdn bdsz (bkids.map kidC) bdc) (.v (.int .i64 j)) = some (.rp (kidC bkids[j])) := iaddr_in bdz (by simp [hltb]) rfl
    have hw : IntKind.wrap .i64 ((j : Int) + 1) = (j + 1 : Nat) := by rw [wrap_id] <;> omega
    by_cases he : akids[j] = bkids[j]
    · simp [t7, t2, t3, H0, H1, hlt', i1, i2, -iaddrA_rs, kidC, he, hw, -Int.ofNat_lt, -Int.natCast_add]
      refine ⟨j + 1, by omega, by omega, rfl, fun i u v h => ?_⟩
      rcases Nat.lt_or_ge i j with g | g
      · exact hno3 i u v g
      · have : i = j := by omega
        subst this; exact he
    · simp [t7, t2, t3, H0, H1, hlt', i1, i2, -iaddrA_rs, kidC, he, -Int.ofNat_lt]
      refine no (v := true) (fun h => he ?_)
      have : akids = bkids := congrArg Nd.kids h
      simp [this]
  have hlt' : ¬ (j : Int) < akids.length := by omega
  have hde : akids = bkids := same_upto g3 fun i u v => hno3 i u v (by omega)
  simp [t7, t2, t3, H0, H1, hlt', -Int.ofNat_lt]
  rw [g0, hke, hie, hde]; exact sameS_refl _
end Go.Ai

/- NodeDecodes, NodeBack, NodeFinds, walked. -/
namespace Go.Ai
set_option linter.unusedVariables false
set_option linter.unusedSimpArgs false

theorem sumW_ge (n : Nd) : ∀ k, k ≤ sumW n k
  | 0 => Nat.zero_le _
  | k + 1 => by
    have := sumW_ge n k
    have : 1 ≤ weightS n k := by unfold weightS; split <;> (try split) <;> omega
    simp only [sumW]; omega
theorem right_len {n : Nd} (hr : rightS n = true) (m : Nat) (h : (contentS n).length ≤ m) : n.keys.length ≤ m ∧ n.items.length ≤ m ∧ n.kids.length ≤ m + 1 := by
  have hf := RightF.of hr
  have h1 := sumW_ge n n.keys.length
  rw [contentS_length] at h
  have h2 : n.keys.length ≤ m := by omega
  cases hl : n.leaf
  · obtain ⟨g1, g2, g3, g4⟩ := hf.inner hl
    exact ⟨h2, by simp [g3], by omega⟩
  · obtain ⟨g1, g2, g3⟩ := hf.leaf hl
    exact ⟨h2, by omega, by simp [g2]⟩

theorem NdA.shape {n : Nd} {x : AV} (h : NdA n x) : ∃ b k1 k2 k3 k4 i1 i2 i3 i4 d1 d2 d3 d4, x = .agg [.v (.bool b), .rs k1 k2 k3 k4, .rs i1 i2 i3 i4, .rs d1 d2 d3 d4] := by
  obtain ⟨kA, iA, dA, rfl, hk, hi, hd⟩ := h
  obtain ⟨_, _, _, rfl⟩ := hk.shape
  obtain ⟨_, _, _, rfl⟩ := hi.shape
  obtain ⟨_, _, _, rfl⟩ := hd.shape
  exact ⟨_, _, _, _, _, _, _, _, _, _, _, _, _, rfl⟩

theorem f7 (kind : Int) (s : List UInt8) (hp nx) : Ret E 7 [.v (.int .i64 kind), .str s] hp nx (.v (.bool true)) hp nx .p := by
  refine Ret_pureQ e7 rfl rfl ?_ hp nx
  by_cases hl : s.length ≤ 20000
  · have hl' : ¬ (20000 : Int) < s.length := by omega
    obtain ⟨v1, q1, r1⟩ := f24 kind s
    obtain ⟨v2, q2, r2⟩ := f25 kind s (by omega)
    have key : ∃ n y1 y2 e, NdA n y1 ∧ NdA n y2 ∧ v1 = .tup [y1, .v (.int .i64 e)] ∧ v2 = .tup [y2, .v (.int .i64 e)] ∧ n.keys.length ≤ 20000 ∧ n.items.length ≤ 20000 ∧ n.kids.length ≤ 20001 := by
      cases hd : decS kind s with
      | some n =>
        obtain ⟨y1, a1, rfl⟩ := q1.1 n hd
        obtain ⟨y2, a2, rfl⟩ := q2.1 n hd
        obtain ⟨_, h2, _, h4, _⟩ := decS_content hd
        exact ⟨n, y1, y2, 0, a1, a2, rfl, rfl, right_len h4 20000 (by rw [h2]; exact hl)⟩
      | none => exact ⟨nd0, zeroN, zeroN, 11, NdA.zero, NdA.zero, q1.2 hd, q2.2 hd, by simp [nd0]⟩
    obtain ⟨n, y1, y2, e, a1, a2, rfl, rfl, b1, b2, b3⟩ := key
    have hsm := f22 n n y1 y2 a1 a2 (by omega) (by omega) (by omega)
    rw [sameS_refl] at hsm
    obtain ⟨_, _, _, _, _, _, _, _, _, _, _, _, _, rfl⟩ := a1.shape
    obtain ⟨_, _, _, _, _, _, _, _, _, _, _, _, _, rfl⟩ := a2.shape
    simp [c7, hl']
    refine WCall_p (r1 _ _) ?_
    simp [spliceL]
    refine WCall_p (r2 _ _) ?_
    simp [spliceL]
    refine WCall_p (hsm _ _) ?_
    simp
    refine WCall_p (f18 _ _ _) ?_
    simp
    refine WCall_p (f11 _ _) ?_
    simp
  · have hl' : (20000 : Int) < s.length := by omega
    simp [c7, hl']
    refine WCall_p (f11 _ _) ?_
    simp

theorem f8_tail (kind : Int) (s : List UInt8) (hs : s.length ≤ 20000) (tm : Nat → AV) (hp : Heap) (nx : Nat) (t1 : tm 1 = .v (.int .i64 kind)) (t2 : tm 2 = .str s) :
    W (Ret E) c8_rrr (pureQ c8.res (.v (.bool true))) ⟨tm, hp, nx⟩ := by
  obtain ⟨v1, q1, r1⟩ := f24 kind s
  cases hd : decS kind s with
  | none =>
    rw [q1.2 hd] at r1
    simp [c8, c8_rrr, t1, t2]
    refine WCall_p (r1 _ _) ?_
    simp [zeroN, spliceL]
    refine WCall_p (f18 _ _ _) ?_
    simp
    refine WCall_p (f11 _ _) ?_
    simp
  | some n =>
    obtain ⟨y1, a1, rfl⟩ := q1.1 n hd
    obtain ⟨hk, h2, h3, h4, _⟩ := decS_content hd
    obtain ⟨b1, b2, b3⟩ := right_len h4 20000 (by rw [h2]; exact hs)
    have h16 := f16 n y1 a1 (by omega) (by omega) (by omega)
    have h12 := f12 n y1 a1 (by omega) (by omega) (by omega)
    obtain ⟨_, _, _, _, _, _, _, _, _, _, _, _, _, rfl⟩ := a1.shape
    simp [c8, c8_rrr, t1, t2]
    refine WCall_p (r1 _ _) ?_
    simp [spliceL]
    refine WCall_p (f18 _ _ _) ?_
    simp
    refine WCall_p (h16 _ _) ?_
    by_cases hlen : (contentS n).length > 492
    · have hlen' : (492 : Int) < s.length := by rw [← h2]; omega
      simp [encA, encS, h4, hlen]
      refine WCall_p (f18 _ _ _) ?_
      simp [t1, t2, hlen']
      refine WCall_p (f11 _ _) ?_
      simp
    · have hkk : (if n.leaf = true then (1 : Int) else 2) = kind := by
        rcases hk with rfl | rfl <;> simp [h3]
      simp [encA, encS, h4, hlen]
      refine WCall_p (f18 _ _ _) ?_
      simp [t1, t2]
      refine WCall_p (f18 _ _ _) ?_
      simp [t1, t2, hkk, h2]
      refine WCall_p (h12 _ _) ?_
      simp [h4]
      refine WCall_p (f11 _ _) ?_
      simp

theorem f8 (n : Nd) (x : AV) (hx : NdA n x) (kind : Int) (s : List UInt8) (hp nx) : Ret E 8 [x, .v (.int .i64 kind), .str s] hp nx (.v (.bool true)) hp nx .p := by
  obtain ⟨b, hb, e10'⟩ := f10 n x hx
  have h16 := fun (h : smallN n) => f16 n x hx (by have := h.1; omega) (by have := h.2.1; omega) (by have := h.2.2; omega)
  have h14 := fun (h : smallN n) => f14 n x hx (by have := h.1; omega) (by have := h.2.1; omega) (by have := h.2.2; omega)
  have h22 := fun (h : smallN n) y hy => f22 n n x y hx hy (by have := h.1; omega) (by have := h.2.1; omega) (by have := h.2.2; omega)
  have tail := fun hs tm hp nx t1 t2 => f8_tail kind s hs tm hp nx t1 t2
  simp only [c8] at tail
  obtain ⟨_, _, _, _, _, _, _, _, _, _, _, _, _, rfl⟩ := hx.shape
  refine Ret_pureQ e8 rfl (by
    obtain ⟨kA, iA, dA, e, hk, hi, hd⟩ := hx
    obtain ⟨_, _, _, rfl, _⟩ := hk
    obtain ⟨_, _, _, rfl, _⟩ := hi
    obtain ⟨_, _, _, rfl, _⟩ := hd
    rw [e]; simp) ?_ hp nx
  simp [c8]
  refine WCall_p (e10' _ _) ?_
  cases b
  · simp
    refine WCall_p (f11 _ _) ?_
    simp
  have hsm := hb rfl
  by_cases hl : s.length ≤ 20000
  · have hl' : ¬ (20000 : Int) < s.length := by omega
    simp [hl']
    refine WCall_p (h16 hsm _ _) ?_
    simp [encA]
    refine WCall_p (f18 _ _ _) ?_
    cases hr : rightS n
    · simp [encS, hr]
      exact tail hl _ _ _ (by simp) (by simp)
    · by_cases hlen : (contentS n).length > 492
      · simp [encS, hr, hlen]
        exact tail hl _ _ _ (by simp) (by simp)
      · obtain ⟨v1, q1, r1⟩ := f24 (kindS n) (contentS n)
        have hdw := decS_written hr (by have := hsm.1; omega)
        obtain ⟨y1, a1, rfl⟩ := q1.1 n hdw
        have hsame := h22 hsm y1 a1
        rw [sameS_refl] at hsame
        obtain ⟨_, _, _, _, _, _, _, _, _, _, _, _, _, rfl⟩ := a1.shape
        have hk : (if n.leaf = true then (1 : Int) else 2) = kindS n := rfl
        have hsz : sizeS n = (contentS n).length := by simp [sizeS, hr]
        have hlen' : ¬ (492 : Int) < (contentS n).length := by omega
        simp [encS, hr, hlen, hk]
        refine WCall_p (r1 _ _) ?_
        simp [spliceL]
        refine WCall_p (f18 _ _ _) ?_
        simp
        refine WCall_p (hsame _ _) ?_
        simp
        refine WCall_p (h14 hsm _ _) ?_
        simp [hsz, hlen']
        exact tail hl _ _ _ (by simp) (by simp)
  · have hl' : (20000 : Int) < s.length := by omega
    simp [hl']
    refine WCall_p (f11 _ _) ?_
    simp

theorem f5 (n : Nd) (x : AV) (hx : NdA n x) (key : List UInt8) (hp nx) : Ret E 5 [x, .str key] hp nx (.v (.bool true)) hp nx .p := by
  obtain ⟨b, hb, e10'⟩ := f10 n x hx
  have h12 := fun (h : smallN n) => f12 n x hx (by have := h.1; omega) (by have := h.2.1; omega) (by have := h.2.2; omega)
  have h19 := fun (h : smallN n) k => f19 n x hx k (by have := h.1; omega) (by have := h.2.1; omega) (by have := h.2.2; omega)
  have h20 := fun (h : smallN n) k => f20 n x hx k (by have := h.1; omega) (by have := h.2.1; omega) (by have := h.2.2; omega)
  obtain ⟨leaf, keys, items, kids⟩ := n
  obtain ⟨kA, iA, dA, rfl, hk, hi, hd⟩ := hx
  obtain ⟨kn, ksz, kc, rfl, hkz⟩ := hk
  obtain ⟨in', isz, ic, rfl, hiz⟩ := hi
  obtain ⟨dn, dsz, dc, rfl, hdz⟩ := hd
  simp only at hkz
  refine Ret_pureQ e5 rfl (by simp) ?_ hp nx
  simp [c5]
  refine WCall_p (e10' _ _) ?_
  cases b
  · simp
    refine WCall_p (f11 _ _) ?_
    simp
  have hsm := hb rfl
  by_cases hl : key.length ≤ 5000
  · have hl' : ¬ (5000 : Int) < key.length := by omega
    have hkl : keys.length ≤ 200 := hsm.1
    simp [hl']
    refine WCall_p (h19 hsm key _ _) ?_
    simp [findA]
    refine WCall_p (h20 hsm key _ _) ?_
    simp [findA]
    refine W_loopI (I := fun (j : Nat) s => j ≤ keys.length ∧ s.tm 44 = .int .i64 j ∧ s.tm 43 = .int .i64 keys.length ∧ s.tm 2 = .ptr 0 0 0 ∧ s.hp = hupd hnil 0 (some [[AV.v (Value.bool leaf), AV.rs kn ksz (keys.map keyC) kc, AV.rs in' isz (items.map Itm.cells) ic, AV.rs dn dsz (kids.map kidC) dc]]))
      (fun j => keys.length - j) 0 (by simp) ?_
    rintro j tm hp nx ⟨hj, t44, t43, t2, hH⟩
    simp only at t44 t43 t2 hH
    by_cases hlt : j < keys.length
    · have hlt' : (j : Int) < keys.length := by omega
      have i1 : iaddrA 1 (.rs kn ksz (keys.map keyC) kc) (.v (.int .i64 j)) = some (.rp (keyC keys[j])) := iaddr_in hkz (by simp [hlt]) rfl
      have hw : IntKind.wrap .i64 ((j : Int) + 1) = (j + 1 : Nat) := by rw [wrap_id] <;> omega
      simp [t44, t43, t2, hH, hlt', i1, -iaddrA_rs, keyC, -Int.ofNat_lt, -Int.natCast_add]
      refine WCall_p (h19 hsm _ _ _) ?_
      simp [findA, t44, t43, t2, hH, -Int.natCast_add]
      refine WCall_p (h12 hsm _ _) ?_
      cases hr : rightS ⟨leaf, keys, items, kids⟩
      · simp [t44, t43, t2, hH, hw, -Int.natCast_add]
        exact ⟨j + 1, by omega, by omega, rfl⟩
      · have hrise : Rise keys := Rise.of (by simp only [rightS, Bool.and_eq_true] at hr; exact hr.1)
        have hba := below_at hrise hlt
        have hmem : keys[j] ∈ keys := List.getElem_mem hlt
        cases leaf
        · simp [t44, t43, t2, hH, hw, findS, hr, hba, -Int.natCast_add]
          exact ⟨j + 1, by omega, by omega, rfl⟩
        · simp [t44, t43, t2, hH, hw, findS, hr, hba, -Int.natCast_add]
          exact ⟨j + 1, by omega, by omega, rfl⟩
    · have hlt' : ¬ (j : Int) < keys.length := by omega
      simp [t44, t43, t2, hlt', -Int.ofNat_lt]
      refine WCall_p (f11 _ _) ?_
      simp
  · have hl' : (5000 : Int) < key.length := by omega
    simp [hl']
    refine WCall_p (f11 _ _) ?_
    simp
end Go.Ai

/- slices.Grow of nil, slices.Concat. (printed by ze.py) -/
namespace Go.Ai
set_option linter.unusedVariables false
set_option linter.unusedSimpArgs false

/-- One behind the other. -/
def catL {α : Type} (es : List (List α)) : List α := es.flatten
theorem cat_take {α : Type} {es : List (List α)} {j : Nat} (h : j < es.length) : catL (es.take (j + 1)) = catL (es.take j) ++ es[j] := by
  have e : es.take (j + 1) = es.take j ++ [es[j]] := by rw [List.take_add_one, List.getElem?_eq_getElem h]; rfl
  rw [e]; simp only [catL, List.flatten_append, List.flatten_cons, List.flatten_nil, List.append_nil]
theorem cat_le {α : Type} (es : List (List α)) (j : Nat) : (catL (es.take j)).length ≤ (catL es).length := by
  have e : catL es = catL (es.take j) ++ catL (es.drop j) := by simp only [catL]; rw [← List.flatten_append, List.take_append_drop]
  rw [e, List.length_append]; omega
/-- Slices, as the elements of a slice. -/
def SlAs {α : Type} (n : Nat) (f : α → List AV) (es : List (List α)) (xs : List AV) : Prop := xs.length = es.length ∧ ∀ (i : Nat) (h : i < es.length) (h' : i < xs.length), SlA n (es[i].map f) xs[i]
theorem SlAs.closed {α : Type} {n : Nat} {f : α → List AV} (hf : ∀ l : List α, closedLL (l.map f) = true) {es : List (List α)} {xs : List AV} (h : SlAs n f es xs) : closedLL (xs.map fun x => [x]) = true := by
  have key : ∀ l : List AV, (∀ x ∈ l, x.closed = true) → closedLL (l.map fun x => [x]) = true := by
    intro l
    induction l with
    | nil => intro _; rfl
    | cons x r ih => intro h; simp [h x (by simp)]; exact ih fun y hy => h y (by simp [hy])
  refine key xs fun x hx => ?_
  obtain ⟨i, hi, rfl⟩ := List.getElem_of_mem hx
  obtain ⟨_, _, _, e⟩ := (h.2 i (by rw [← h.1]; exact hi) hi).shape
  rw [e]
  exact hf _
theorem iaddr_row {xs : List AV} {k : IntKind} {j : Nat} {c : Option Nat} (h : j < xs.length) : iaddrA 1 (.rs false 1 (xs.map fun x => [x]) c) (.v (.int k (j : Int))) = some (.rp [xs[j]]) := by simp [h]
theorem splice_fill {L new Z : Blk} {n m : Nat} (h : L.length = n) (hm : n + new.length ≤ m) : spliceL (L ++ Z.drop n) n new = (L ++ new) ++ Z.drop (n + new.length) := by
  subst h
  simp only [spliceL]
  rw [List.take_left, List.drop_append, List.drop_drop]
  simp only [List.append_assoc]
  have : L.drop (L.length + new.length) = [] := List.drop_eq_nil_of_le (by omega)
  rw [this, List.nil_append]
  congr 3; omega

theorem f63 (n : Nat) (hn : 0 < n) (hl : n ≤ 1000000) (hp : Heap) (nx : Nat) : Ret E 63 [.rs true 0 [] (some 0), .v (.int .i64 n)] hp nx (.sl nx 3 0 0 none) (hupd hp nx (some (List.replicate n [.str [], .v (.int .i64 0), .v (.int .i64 0)]))) (nx + 1) .e := by
  have main := (Ret_genE (P := fun v hp' nx' => v = .sl nx 3 0 0 none ∧ hp' = hupd hp nx (some (List.replicate n [.str [], .v (.int .i64 0), .v (.int .i64 0)])) ∧ nx' = nx + 1) e63 (args := [.rs true 0 [] (some 0), .v (.int .i64 n)]) rfl (hp := hp) (nx := nx) ?_)
  · obtain ⟨v, hp', nx', h1, rfl, rfl, rfl⟩ := main
    exact h1
  have h1 : ¬ (n : Int) < 0 := by omega
  have h2 : (0 : Int) < n := by omega
  have h3 : IntKind.wrap .i64 (n : Int) = n := by rw [wrap_id] <;> omega
  have h4 : IntKind.wrap .i64 0 = 0 := rfl
  have hA : appzA 3 32 [.str [], .v (.int .i64 0), .v (.int .i64 0)] (.rs true 0 [] (some 0)) (.v (.int .i64 (n : Int))) hp nx = some (.sl nx 3 0 n none, hupd hp nx (some (List.replicate n [.str [], .v (.int .i64 0), .v (.int .i64 0)])), nx + 1) := by
    simp only [appzA]
    rw [if_pos ⟨by omega, by omega, by omega, rfl, rfl⟩]
    simp only [appA, List.length_replicate, Int.toNat_natCast]
    rw [if_pos (.inl trivial), if_neg (by omega), if_pos ⟨by simp only [List.length_nil]; omega, by simp only [List.length_nil]; omega⟩]
    simp
  simp [c63, h1, h2, h3, h4, sliceA, boundsA, idxOf, capCut, hA, -Int.ofNat_lt, -Int.natCast_pos]

theorem f44 (es : List (List Itm)) (xs : List AV) (c : Option Nat) (h : SlAs 3 Itm.cells es xs) (hn : es.length ≤ 1000) (hs : (catL es).length ≤ 1000000) :
    ∃ z, SlA 3 ((catL es).map Itm.cells) z ∧ ∀ hp nx, Ret E 44 [.rs false 1 (xs.map fun x => [x]) c] hp nx z hp nx .p := by
  refine ⟨if (catL es).length = 0 then .rs true 0 [] (some 0) else .rs false 3 ((catL es).map Itm.cells) none, ?_, fun hp nx => ?_⟩
  · split
    · rename_i h0
      have : catL es = [] := by simpa using h0
      exact ⟨true, 0, _, by rw [this]; rfl, .inl rfl, fun _ => by rw [this]; rfl⟩
    · exact ⟨false, _, _, rfl, .inr rfl, fun h => by cases h⟩
  have hcl := h.closed (fun l => closed_items)
  have hone : ∀ l : List Itm, (l.map Itm.cells).all (fun l => l.all AV.one) = true := one_items
  obtain ⟨hxl, hx⟩ := h
  refine Ret_pureQ e44 rfl (by simp only [closedL, AV.closed, hcl, Bool.and_self]) ?_ hp nx
  simp [c44]
  refine W_loopI (I := fun (j : Nat) s' => j ≤ es.length ∧ s'.tm 11 = .int .i64 j ∧ s'.tm 10 = .int .i64 xs.length ∧ s'.tm 9 = .rs false 1 (xs.map fun x => [x]) c ∧ s'.tm 0 = .rs false 1 (xs.map fun x => [x]) c ∧ s'.tm 3 = .int .i64 (catL (es.take j)).length ∧ s'.nx = 0 ∧ s'.hp = hnil) (fun j => es.length - j) 0 (by simp [catL]) ?_
  rintro j tm hp nx ⟨hj, t11, t10, t9, t0, t3, hnx, hhp⟩
  simp only at hj t11 t10 t9 t0 t3 hnx hhp
  subst hnx; subst hhp
  by_cases hlt : j < es.length
  · have hlx : j < xs.length := by omega
    have hlt' : (j : Int) < xs.length := by omega
    have hst := congrArg List.length (cat_take hlt)
    rw [List.length_append] at hst
    have hle := cat_le es (j + 1)
    have hia := iaddr_row (k := .i64) (c := c) hlx
    obtain ⟨nil, sz, cap, hxe, hz, hnl⟩ := hx j hlt hlx
    have hlen : lenA xs[j] = some (.v (.int .i64 (es[j].length : Nat))) := by rw [hxe]; simp
    have hw : IntKind.wrap .i64 ((j : Int) + 1) = (j + 1 : Nat) := by rw [wrap_id] <;> omega
    generalize hA : (catL (es.take j)).length = A at *
    generalize hB : (catL (es.take (j + 1))).length = B at *
    have hw2 : IntKind.wrap .i64 ((A : Int) + (es[j].length : Nat)) = (B : Nat) := by rw [wrap_id] <;> omega
    have hneg : ¬ (B : Int) < 0 := by omega
    simp [t11, t10, t9, t0, t3, hlt', hia, hlen, hw, hw2, hneg, -iaddrA_rs, -Int.ofNat_lt, -Int.natCast_add]
    exact ⟨j + 1, by omega, by omega, rfl, by rw [hB]⟩
  have hje : j = es.length := by omega
  subst hje
  have htake : es.take es.length = es := List.take_length
  rw [htake] at t3
  by_cases h0 : (catL es).length = 0
  · have hem : ∀ (j : Nat) (h : j < es.length), es[j] = [] := by
      intro j h
      have := cat_le es (j + 1)
      rw [cat_take h, List.length_append] at this
      exact List.length_eq_zero_iff.1 (by omega)
    have hG : ∀ hp nx, Ret E 63 [.rs true 0 [] (some 0), .v (.int .i64 0)] hp nx (.rs true 0 [] (some 0)) hp nx .p := by
      intro hp nx
      refine Ret_pureQ e63 rfl (by simp) ?_ hp nx
      have h4 : IntKind.wrap .i64 0 = 0 := rfl
      simp [c63, h4, frz_closed]
    rw [h0] at t3
    simp [t11, t10, hxl, t3]
    refine WCall_p (hG _ _) ?_
    simp [t0]
    refine W_loopI (I := fun (j : Nat) s' => j ≤ es.length ∧ s'.tm 27 = .int .i64 j ∧ s'.tm 26 = .int .i64 xs.length ∧ s'.tm 25 = .rs false 1 (xs.map fun x => [x]) c ∧ s'.tm 6 = .rs true 0 [] (some 0)) (fun j => es.length - j) 0 (by simp) ?_
    rintro j tm hp nx ⟨hj, t27, t26, t25, t6⟩
    simp only at hj t27 t26 t25 t6
    by_cases hlt : j < es.length
    · have hlx : j < xs.length := by omega
      have hlt' : (j : Int) < xs.length := by omega
      have hia := iaddr_row (k := .i64) (c := c) hlx
      have hw : IntKind.wrap .i64 ((j : Int) + 1) = (j + 1 : Nat) := by rw [wrap_id] <;> omega
      obtain ⟨nil, sz, cap, hxe, hz, hnl⟩ := hx j hlt hlx
      rw [hem j hlt] at hxe
      have happ : appendA 3 32 (.rs true 0 [] (some 0)) xs[j] hp nx = some (.rs true 0 [] (some 0), hp, nx) := by
        rw [hxe, appendA_rs hz]; simp [appA]
      simp [t27, t26, t25, t6, hlt', hia, hw, happ, -iaddrA_rs, -Int.ofNat_lt, -Int.natCast_add]
      exact ⟨j + 1, by omega, by omega, rfl⟩
    · have : j = es.length := by omega
      subst this
      have : ¬ (es.length : Int) < xs.length := by omega
      simp [t27, t26, t6, this, List.length_eq_zero_iff.1 h0, frz_closed, -Int.ofNat_lt]
  · simp [t11, t10, hxl, t3]
    refine WCall_k (f63 (catL es).length (by omega) hs _ _) ?_
    simp [t0]
    generalize hT : (catL es).length = T at *
    generalize hZ : List.replicate T ([.str [], .v (.int .i64 0), .v (.int .i64 0)] : List AV) = Z
    have hZl : Z.length = T := by rw [← hZ]; simp
    refine W_loopI (I := fun (j : Nat) s' => j ≤ es.length ∧ s'.tm 27 = .int .i64 j ∧ s'.tm 26 = .int .i64 xs.length ∧ s'.tm 25 = .rs false 1 (xs.map fun x => [x]) c ∧ s'.tm 6 = .sl 0 3 0 (catL (es.take j)).length none ∧ s'.hp 0 = some ((catL (es.take j)).map Itm.cells ++ Z.drop (catL (es.take j)).length)) (fun j => es.length - j) 0 (by simp [catL, hZ]) ?_
    rintro j tm hp nx ⟨hj, t27, t26, t25, t6, hh⟩
    simp only at hj t27 t26 t25 t6 hh
    by_cases hlt : j < es.length
    · have hlx : j < xs.length := by omega
      have hlt' : (j : Int) < xs.length := by omega
      have hia := iaddr_row (k := .i64) (c := c) hlx
      have hw : IntKind.wrap .i64 ((j : Int) + 1) = (j + 1 : Nat) := by rw [wrap_id] <;> omega
      obtain ⟨nil, sz, cap, hxe, hz, hnl⟩ := hx j hlt hlx
      have hst := cat_take hlt
      have hle := cat_le es (j + 1)
      rw [hst, List.length_append] at hle
      have happ : appendA 3 32 (.sl 0 3 0 (catL (es.take j)).length none) xs[j] hp nx = some (.sl 0 3 0 (catL (es.take (j + 1))).length none, hupd hp 0 (some ((catL (es.take (j + 1))).map Itm.cells ++ Z.drop (catL (es.take (j + 1))).length)), nx) := by
        rw [hxe, appendA_rs hz, if_pos (hone _)]
        simp only [appA, if_true, hh, Nat.zero_add]
        rw [if_neg (by simp only [List.length_append, List.length_map, List.length_drop]; omega), if_pos (by simp only [List.length_append, List.length_map, List.length_drop]; omega), splice_fill (m := T) (by simp) (by simp only [List.length_map]; omega)]
        rw [hst]
        simp only [List.map_append, List.length_append, List.length_map]
      simp [t27, t26, t25, t6, hlt', hia, hw, happ, -iaddrA_rs, -Int.ofNat_lt, -Int.natCast_add]
      exact ⟨j + 1, by omega, by omega, rfl, rfl, rfl⟩
    · have : j = es.length := by omega
      subst this
      rw [htake, hT] at t6 hh
      have hdz : Z.drop T = [] := List.drop_eq_nil_of_le (by omega)
      rw [hdz, List.append_nil] at hh
      have : ¬ (es.length : Int) < xs.length := by omega
      have hfz := frz_sl (k := 4) (r := 0) (sz := 3) (i := 0) (len := T) (cap := none) hh (by simp [hT]) (by rw [List.drop_zero, List.take_of_length_le (by simp [hT])]; simp)
      have htk : (((catL es).map Itm.cells).drop 0).take T = (catL es).map Itm.cells := by rw [List.drop_zero]; exact List.take_of_length_le (by simp [hT])
      rw [htk] at hfz
      have hne : ¬ catL es = [] := fun e => h0 (by rw [← hT, e]; rfl)
      simp [t27, t26, t6, this, h0, hfz, hne, -Int.ofNat_lt]

theorem f64 (n : Nat) (hn : 0 < n) (hl : n ≤ 1000000) (hp : Heap) (nx : Nat) : Ret E 64 [.rs true 0 [] (some 0), .v (.int .i64 n)] hp nx (.sl nx 1 0 0 none) (hupd hp nx (some (List.replicate n [.v (.int .i64 0)]))) (nx + 1) .e := by
  have main := (Ret_genE (P := fun v hp' nx' => v = .sl nx 1 0 0 none ∧ hp' = hupd hp nx (some (List.replicate n [.v (.int .i64 0)])) ∧ nx' = nx + 1) e64 (args := [.rs true 0 [] (some 0), .v (.int .i64 n)]) rfl (hp := hp) (nx := nx) ?_)
  · obtain ⟨v, hp', nx', h1, rfl, rfl, rfl⟩ := main
    exact h1
  have h1 : ¬ (n : Int) < 0 := by omega
  have h2 : (0 : Int) < n := by omega
  have h3 : IntKind.wrap .i64 (n : Int) = n := by rw [wrap_id] <;> omega
  have h4 : IntKind.wrap .i64 0 = 0 := rfl
  have hA : appzA 1 8 [.v (.int .i64 0)] (.rs true 0 [] (some 0)) (.v (.int .i64 (n : Int))) hp nx = some (.sl nx 1 0 n none, hupd hp nx (some (List.replicate n [.v (.int .i64 0)])), nx + 1) := by
    simp only [appzA]
    rw [if_pos ⟨by omega, by omega, by omega, rfl, rfl⟩]
    simp only [appA, List.length_replicate, Int.toNat_natCast]
    rw [if_pos (.inl trivial), if_neg (by omega), if_pos ⟨by simp only [List.length_nil]; omega, by simp only [List.length_nil]; omega⟩]
    simp
  simp [c64, h1, h2, h3, h4, sliceA, boundsA, idxOf, capCut, hA, -Int.ofNat_lt, -Int.natCast_pos]

theorem f45 (es : List (List Int)) (xs : List AV) (c : Option Nat) (h : SlAs 1 kidC es xs) (hn : es.length ≤ 1000) (hs : (catL es).length ≤ 1000000) :
    ∃ z, SlA 1 ((catL es).map kidC) z ∧ ∀ hp nx, Ret E 45 [.rs false 1 (xs.map fun x => [x]) c] hp nx z hp nx .p := by
  refine ⟨if (catL es).length = 0 then .rs true 0 [] (some 0) else .rs false 1 ((catL es).map kidC) none, ?_, fun hp nx => ?_⟩
  · split
    · rename_i h0
      have : catL es = [] := by simpa using h0
      exact ⟨true, 0, _, by rw [this]; rfl, .inl rfl, fun _ => by rw [this]; rfl⟩
    · exact ⟨false, _, _, rfl, .inr rfl, fun h => by cases h⟩
  have hcl := h.closed (fun l => closed_kids)
  have hone : ∀ l : List Int, (l.map kidC).all (fun l => l.all AV.one) = true := one_kids
  obtain ⟨hxl, hx⟩ := h
  refine Ret_pureQ e45 rfl (by simp only [closedL, AV.closed, hcl, Bool.and_self]) ?_ hp nx
  simp [c45]
  refine W_loopI (I := fun (j : Nat) s' => j ≤ es.length ∧ s'.tm 11 = .int .i64 j ∧ s'.tm 10 = .int .i64 xs.length ∧ s'.tm 9 = .rs false 1 (xs.map fun x => [x]) c ∧ s'.tm 0 = .rs false 1 (xs.map fun x => [x]) c ∧ s'.tm 3 = .int .i64 (catL (es.take j)).length ∧ s'.nx = 0 ∧ s'.hp = hnil) (fun j => es.length - j) 0 (by simp [catL]) ?_
  rintro j tm hp nx ⟨hj, t11, t10, t9, t0, t3, hnx, hhp⟩
  simp only at hj t11 t10 t9 t0 t3 hnx hhp
  subst hnx; subst hhp
  by_cases hlt : j < es.length
  · have hlx : j < xs.length := by omega
    have hlt' : (j : Int) < xs.length := by omega
    have hst := congrArg List.length (cat_take hlt)
    rw [List.length_append] at hst
    have hle := cat_le es (j + 1)
    have hia := iaddr_row (k := .i64) (c := c) hlx
    obtain ⟨nil, sz, cap, hxe, hz, hnl⟩ := hx j hlt hlx
    have hlen : lenA xs[j] = some (.v (.int .i64 (es[j].length : Nat))) := by rw [hxe]; simp
    have hw : IntKind.wrap .i64 ((j : Int) + 1) = (j + 1 : Nat) := by rw [wrap_id] <;> omega
    generalize hA : (catL (es.take j)).length = A at *
    generalize hB : (catL (es.take (j + 1))).length = B at *
    have hw2 : IntKind.wrap .i64 ((A : Int) + (es[j].length : Nat)) = (B : Nat) := by rw [wrap_id] <;> omega
    have hneg : ¬ (B : Int) < 0 := by omega
    simp [t11, t10, t9, t0, t3, hlt', hia, hlen, hw, hw2, hneg, -iaddrA_rs, -Int.ofNat_lt, -Int.natCast_add]
    exact ⟨j + 1, by omega, by omega, rfl, by rw [hB]⟩
  have hje : j = es.length := by omega
  subst hje
  have htake : es.take es.length = es := List.take_length
  rw [htake] at t3
  by_cases h0 : (catL es).length = 0
  · have hem : ∀ (j : Nat) (h : j < es.length), es[j] = [] := by
      intro j h
      have := cat_le es (j + 1)
      rw [cat_take h, List.length_append] at this
      exact List.length_eq_zero_iff.1 (by omega)
    have hG : ∀ hp nx, Ret E 64 [.rs true 0 [] (some 0), .v (.int .i64 0)] hp nx (.rs true 0 [] (some 0)) hp nx .p := by
      intro hp nx
      refine Ret_pureQ e64 rfl (by simp) ?_ hp nx
      have h4 : IntKind.wrap .i64 0 = 0 := rfl
      simp [c64, h4, frz_closed]
    rw [h0] at t3
    simp [t11, t10, hxl, t3]
    refine WCall_p (hG _ _) ?_
    simp [t0]
    refine W_loopI (I := fun (j : Nat) s' => j ≤ es.length ∧ s'.tm 27 = .int .i64 j ∧ s'.tm 26 = .int .i64 xs.length ∧ s'.tm 25 = .rs false 1 (xs.map fun x => [x]) c ∧ s'.tm 6 = .rs true 0 [] (some 0)) (fun j => es.length - j) 0 (by simp) ?_
    rintro j tm hp nx ⟨hj, t27, t26, t25, t6⟩
    simp only at hj t27 t26 t25 t6
    by_cases hlt : j < es.length
    · have hlx : j < xs.length := by omega
      have hlt' : (j : Int) < xs.length := by omega
      have hia := iaddr_row (k := .i64) (c := c) hlx
      have hw : IntKind.wrap .i64 ((j : Int) + 1) = (j + 1 : Nat) := by rw [wrap_id] <;> omega
      obtain ⟨nil, sz, cap, hxe, hz, hnl⟩ := hx j hlt hlx
      rw [hem j hlt] at hxe
      have happ : appendA 1 8 (.rs true 0 [] (some 0)) xs[j] hp nx = some (.rs true 0 [] (some 0), hp, nx) := by
        rw [hxe, appendA_rs hz]; simp [appA]
      simp [t27, t26, t25, t6, hlt', hia, hw, happ, -iaddrA_rs, -Int.ofNat_lt, -Int.natCast_add]
      exact ⟨j + 1, by omega, by omega, rfl⟩
    · have : j = es.length := by omega
      subst this
      have : ¬ (es.length : Int) < xs.length := by omega
      simp [t27, t26, t6, this, List.length_eq_zero_iff.1 h0, frz_closed, -Int.ofNat_lt]
  · simp [t11, t10, hxl, t3]
    refine WCall_k (f64 (catL es).length (by omega) hs _ _) ?_
    simp [t0]
    generalize hT : (catL es).length = T at *
    generalize hZ : List.replicate T ([.v (.int .i64 0)] : List AV) = Z
    have hZl : Z.length = T := by rw [← hZ]; simp
    refine W_loopI (I := fun (j : Nat) s' => j ≤ es.length ∧ s'.tm 27 = .int .i64 j ∧ s'.tm 26 = .int .i64 xs.length ∧ s'.tm 25 = .rs false 1 (xs.map fun x => [x]) c ∧ s'.tm 6 = .sl 0 1 0 (catL (es.take j)).length none ∧ s'.hp 0 = some ((catL (es.take j)).map kidC ++ Z.drop (catL (es.take j)).length)) (fun j => es.length - j) 0 (by simp [catL, hZ]) ?_
    rintro j tm hp nx ⟨hj, t27, t26, t25, t6, hh⟩
    simp only at hj t27 t26 t25 t6 hh
    by_cases hlt : j < es.length
    · have hlx : j < xs.length := by omega
      have hlt' : (j : Int) < xs.length := by omega
      have hia := iaddr_row (k := .i64) (c := c) hlx
      have hw : IntKind.wrap .i64 ((j : Int) + 1) = (j + 1 : Nat) := by rw [wrap_id] <;> omega
      obtain ⟨nil, sz, cap, hxe, hz, hnl⟩ := hx j hlt hlx
      have hst := cat_take hlt
      have hle := cat_le es (j + 1)
      rw [hst, List.length_append] at hle
      have happ : appendA 1 8 (.sl 0 1 0 (catL (es.take j)).length none) xs[j] hp nx = some (.sl 0 1 0 (catL (es.take (j + 1))).length none, hupd hp 0 (some ((catL (es.take (j + 1))).map kidC ++ Z.drop (catL (es.take (j + 1))).length)), nx) := by
        rw [hxe, appendA_rs hz, if_pos (hone _)]
        simp only [appA, if_true, hh, Nat.zero_add]
        rw [if_neg (by simp only [List.length_append, List.length_map, List.length_drop]; omega), if_pos (by simp only [List.length_append, List.length_map, List.length_drop]; omega), splice_fill (m := T) (by simp) (by simp only [List.length_map]; omega)]
        rw [hst]
        simp only [List.map_append, List.length_append, List.length_map]
      simp [t27, t26, t25, t6, hlt', hia, hw, happ, -iaddrA_rs, -Int.ofNat_lt, -Int.natCast_add]
      exact ⟨j + 1, by omega, by omega, rfl, rfl, rfl⟩
    · have : j = es.length := by omega
      subst this
      rw [htake, hT] at t6 hh
      have hdz : Z.drop T = [] := List.drop_eq_nil_of_le (by omega)
      rw [hdz, List.append_nil] at hh
      have : ¬ (es.length : Int) < xs.length := by omega
      have hfz := frz_sl (k := 4) (r := 0) (sz := 1) (i := 0) (len := T) (cap := none) hh (by simp [hT]) (by rw [List.drop_zero, List.take_of_length_le (by simp [hT])]; simp)
      have htk : (((catL es).map kidC).drop 0).take T = (catL es).map kidC := by rw [List.drop_zero]; exact List.take_of_length_le (by simp [hT])
      rw [htk] at hfz
      have hne : ¬ catL es = [] := fun e => h0 (by rw [← hT, e]; rfl)
      simp [t27, t26, t6, this, h0, hfz, hne, -Int.ofNat_lt]
end Go.Ai

