/- Decode and the document's are the same; what is written is read. -/
import Derived.Test.YtbdmloamekpeoaaZa
namespace Go.Ai
set_option linter.unusedVariables false
set_option linter.unusedSimpArgs false

theorem loopR_ok : ∀ (m : Nat) {n : Nd} {r : RS}, WF n → (loopR m n r).2.2 = false → r.2 = false ∧ WF (loopR m n r).1 ∧ entries n ++ r.1 = entries (loopR m n r).1 ++ (loopR m n r).2.1 ∧
    (loopR m n r).1.keys.length = n.keys.length + m ∧ (loopR m n r).1.kids.getD 0 0 = n.kids.getD 0 0 ∧ (loopR m n r).1.leaf = n.leaf ∧ loopT m n r.1 = some ((loopR m n r).1, (loopR m n r).2.1)
  | 0, n, r, hw, h => ⟨h, hw, rfl, rfl, rfl, rfl, rfl⟩
  | m + 1, n, r, hw, h => by
    cases hr : r.2 with
    | true => rw [loopR, hr] at h; simp at h; rw [hr] at h; cases h
    | false =>
      have e : loopR (m + 1) n r = loopR m (stepR n r).1 (stepR n r).2 := by rw [loopR, hr]; rfl
      rw [e] at h ⊢
      have hs : (stepR n r).2.2 = false := by
        cases hb : (stepR n r).2.2 with
        | false => rfl
        | true => rw [loopR_bad hb] at h; simp only at h; rw [hb] at h; cases h
      obtain ⟨_, a2, a3, a4, a5, a6⟩ := stepR_ok hw hs
      obtain ⟨b1, b2, b3, b4, b5, b6, b7⟩ := loopR_ok m a2 h
      refine ⟨rfl, b2, by rw [a3, b3], by omega, by rw [b5, a5], by rw [b6, stepR_leaf], ?_⟩
      rw [loopT, a6]; exact b7

theorem endR_ok {kind : Int} (hk : kind = 1 ∨ kind = 2) {s : List UInt8} (h : (endR kind s).2.2 = false) (he : (endR kind s).2.1 = []) :
    contentS (endR kind s).1 = s ∧ (endR kind s).1.leaf = decide (kind = 1) ∧ endT kind s = some ((endR kind s).1, []) := by
  unfold endR at h he ⊢
  have hw : WF (startR kind (numR (s, false) 2).2).1 := by unfold startR; split <;> simp [WF]
  obtain ⟨a1, a2, a3, a4, a5, a6, a7⟩ := loopR_ok _ hw h
  rw [he] at a3 a7
  generalize hn : (loopR (numR (s, false) 2).1 (startR kind (numR (s, false) 2).2).1 (startR kind (numR (s, false) 2).2).2).1 = n at *
  rcases hk with rfl | rfl
  · have e : startR 1 (numR (s, false) 2).2 = (⟨true, [], [], []⟩, (numR (s, false) 2).2) := by simp [startR]
    rw [e] at a1 a3 a4 a5 a6 a7
    simp only at a1 a3 a4 a5 a6 a7
    obtain ⟨b1, b2, b3⟩ := numR_ok a1
    simp only at b2 b3
    simp at a4
    have e0 : entries ⟨true, [], [], []⟩ = [] := rfl
    rw [e0] at a3
    refine ⟨?_, by simpa using a6, ?_⟩
    · show headB n ++ entries n = s
      simp at a3
      simp only [headB, a6, if_true, a4, List.append_nil]
      rw [← a3]; exact b3.symm
    · unfold endT startT
      have f1 : numR (s, false) 2 = (readS (s.take 2), (s.drop 2, false)) := by unfold numR bytesR; simp only; rw [if_pos b2]
      rw [f1] at a7
      rw [if_neg (by simp; omega)]
      simp only [show ¬ (1 : Int) = 2 by decide, if_false]
      exact a7
  · have e : startR 2 (numR (s, false) 2).2 = (⟨false, [], [], [((numR (numR (s, false) 2).2 4).1 : Int)]⟩, (numR (numR (s, false) 2).2 4).2) := by simp [startR]
    rw [e] at a1 a3 a4 a5 a6 a7
    simp only at a1 a3 a4 a5 a6 a7
    obtain ⟨c1, c2, c3⟩ := numR_ok a1
    obtain ⟨b1, b2, b3⟩ := numR_ok c1
    simp only at b2 b3
    simp at a4 a5
    have e0 : ∀ x : Int, entries ⟨false, [], [], [x]⟩ = [] := fun _ => rfl
    rw [e0] at a3
    refine ⟨?_, by simpa using a6, ?_⟩
    · show headB n ++ entries n = s
      simp at a3
      have hkd : n.kids.getD 0 0 = ((numR (numR (s, false) 2).2 4).1 : Int) := by simpa using a5
      simp only [headB, a6, a4, hkd]
      rw [← a3]
      simp only [Bool.false_eq_true, if_false, Int.toNat_natCast]
      rw [List.append_assoc, ← c3]; exact b3.symm
    · unfold endT startT
      have f1 : numR (s, false) 2 = (readS (s.take 2), (s.drop 2, false)) := by unfold numR bytesR; simp only; rw [if_pos b2]
      rw [f1] at a7 c2
      simp only at a7 c2
      have f2 : numR (s.drop 2, false) 4 = (readS ((s.drop 2).take 4), ((s.drop 2).drop 4, false)) := by unfold numR bytesR; simp only; rw [if_pos c2]
      rw [f2] at a7
      rw [if_neg (by simp; omega), if_pos rfl, if_neg (by omega)]
      exact a7

/-- What is read has that content. -/
theorem decS_content {kind : Int} {s : List UInt8} {n : Nd} (h : decS kind s = some n) : (kind = 1 ∨ kind = 2) ∧ contentS n = s ∧ n.leaf = decide (kind = 1) ∧ rightS n = true ∧ refS kind s = some n := by
  by_cases hk : kind = 1 ∨ kind = 2
  · rw [decS_eq hk] at h
    split at h
    · cases h
    · rename_i hn
      simp only [Option.some.injEq] at h; subst h
      simp only [not_or, Bool.not_eq_true, ne_eq, Classical.not_not] at hn
      obtain ⟨h1, h2, h3⟩ := hn
      obtain ⟨a1, a2, a3⟩ := endR_ok hk h1 h2
      refine ⟨hk, a1, a2, by simpa using h3, ?_⟩
      unfold refS; rw [a3]; simp only
      rw [if_pos ⟨trivial, by simpa using h3, a1⟩]
  · unfold decS at h
    rw [if_pos (by omega)] at h; cases h

/-! ### Written, then read -/
def partN (n : Nd) (i : Nat) : Nd := ⟨n.leaf, n.keys.take i, if n.leaf then n.items.take i else [], if n.leaf then [] else n.kids.take (i + 1)⟩
def restN (n : Nd) (i : Nat) : List UInt8 := ((List.range n.keys.length).drop i).flatMap (entryB n)

theorem itemR_item {x : Itm} (h : itemS x = true) (rest : List UInt8) : itemR (itemB x ++ rest, false) = (x, (rest, false)) := by
  obtain ⟨v, p, s⟩ := x
  rcases itemS_cases h with ⟨h1, h2, h3⟩ | ⟨p', s', h1, h2, h3, h4, h5, h6, h7⟩
  · simp only at h1 h2 h3; subst h1; subst h2
    have e : itemB ⟨v, 0, 0⟩ = numS v.length 1 ++ v := by simp [itemB]
    rw [e, List.append_assoc]
    unfold itemR
    rw [numR_num (n := 1) (x := v.length) (by omega)]
    simp only
    rw [if_neg (by omega), bytesR_app]
  · simp only at h1 h2 h7; subst h1; subst h2; subst h7
    have e : itemB ⟨[], (p' : Int), (s' : Int)⟩ = numS 255 1 ++ (numS p' 4 ++ numS s' 4) := by simp [itemB, show 0 < p' by omega]; rfl
    rw [e, List.append_assoc, List.append_assoc]
    unfold itemR
    rw [numR_num (n := 1) (x := 255) (by omega)]
    simp only [if_true]
    rw [numR_num (n := 4) (x := p') (by omega)]
    simp only
    rw [numR_num (n := 4) (x := s') (by omega)]
    simp; omega

theorem restN_step {n : Nd} {i : Nat} (h : i < n.keys.length) : restN n i = entryB n i ++ restN n (i + 1) := by
  unfold restN
  rw [List.drop_eq_getElem_cons (by simpa using h)]
  simp
theorem loopR_written {n : Nd} (hf : RightF n) : ∀ (d i : Nat), i + d = n.keys.length → loopR d (partN n i) (restN n i, false) = (partN n n.keys.length, ([], false))
  | 0, i, h => by
    have : i = n.keys.length := by omega
    subst this
    have : (List.range n.keys.length).drop n.keys.length = [] := by simp
    simp only [loopR, restN, this, List.flatMap_nil]
  | d + 1, i, h => by
    have hi : i < n.keys.length := by omega
    have ih := loopR_written hf d (i + 1) (by omega)
    have hk : n.keys.getD i [] = n.keys[i] := by simp [hi]
    have hkl := hf.klen i hi
    have hts : n.keys.take (i + 1) = n.keys.take i ++ [n.keys[i]] := by rw [List.take_add_one, List.getElem?_eq_getElem hi]; rfl
    have hst : stepR (partN n i) (restN n i, false) = (partN n (i + 1), (restN n (i + 1), false)) := by
      rw [restN_step hi]
      cases hl : n.leaf
      · obtain ⟨g1, g2, g3, g4⟩ := hf.inner hl
        have hik : i + 1 < n.kids.length := by omega
        obtain ⟨k, hk2, hk3, hk4⟩ := kidS_nat (g4 _ (List.getElem_mem hik))
        have hg : (n.kids.getD (i + 1) 0).toNat = k := by simp [hik, hk2]
        have e : entryB n i = numS n.keys[i].length 1 ++ (n.keys[i] ++ numS k 4) := by simp only [entryB, hk, hl, hg]; simp
        have htk : n.kids.take (i + 1 + 1) = n.kids.take (i + 1) ++ [(k : Int)] := by rw [List.take_add_one, List.getElem?_eq_getElem hik, hk2]; rfl
        rw [e, List.append_assoc, List.append_assoc]
        unfold stepR
        simp only [partN, hl, Bool.false_eq_true, if_false]
        rw [numR_num (n := 1) (x := n.keys[i].length) (by omega)]
        simp only
        rw [bytesR_app]
        simp only
        rw [numR_num (n := 4) (x := k) (by omega), hts, htk]
      · obtain ⟨g1, g2, g3⟩ := hf.leaf hl
        have hii : i < n.items.length := by omega
        have hg : n.items.getD i ⟨[], 0, 0⟩ = n.items[i] := by simp [hii]
        have e : entryB n i = numS n.keys[i].length 1 ++ (n.keys[i] ++ itemB n.items[i]) := by simp only [entryB, hk, hl, hg]; simp
        have hti : n.items.take (i + 1) = n.items.take i ++ [n.items[i]] := by rw [List.take_add_one, List.getElem?_eq_getElem hii]; rfl
        rw [e, List.append_assoc, List.append_assoc]
        unfold stepR
        simp only [partN, hl, if_true]
        rw [numR_num (n := 1) (x := n.keys[i].length) (by omega)]
        simp only
        rw [bytesR_app]
        simp only
        rw [itemR_item (g3 _ (List.getElem_mem hii)), hts, hti]
    rw [loopR, hst]
    exact ih

theorem partN_all {n : Nd} (hf : RightF n) : partN n n.keys.length = n := by
  obtain ⟨leaf, keys, items, kids⟩ := n
  cases leaf
  · obtain ⟨g1, g2, g3, g4⟩ := hf.inner rfl
    simp only at g1 g2 g3
    simp [partN, g3, ← g2]
  · obtain ⟨g1, g2, g3⟩ := hf.leaf rfl
    simp only at g1 g2
    have : keys.take keys.length = keys := List.take_length
    have h2 : items.take keys.length = items := by rw [← g1]; exact List.take_length
    simp [partN, g2, h2]

def kindS (n : Nd) : Int := if n.leaf then 1 else 2
theorem decS_written {n : Nd} (hr : rightS n = true) (hl : n.keys.length < 65536) : decS (kindS n) (contentS n) = some n := by
  have hf := RightF.of hr
  have key : endR (kindS n) (contentS n) = (n, ([], false)) := by
    have h0 : contentS n = headB n ++ restN n 0 := by simp [contentS, restN]
    have lw := loopR_written hf n.keys.length 0 (by omega)
    rw [partN_all hf] at lw
    unfold endR
    rw [h0]
    cases hlf : n.leaf
    · obtain ⟨g1, g2, g3, g4⟩ := hf.inner hlf
      have h0k : 0 < n.kids.length := by omega
      obtain ⟨k, hk2, hk3, hk4⟩ := kidS_nat (g4 _ (List.getElem_mem h0k))
      have hg : (n.kids.getD 0 0).toNat = k := by simp [h0k, hk2]
      have e : headB n = numS n.keys.length 2 ++ numS k 4 := by simp only [headB, hlf, hg]; simp
      have hkd : kindS n = 2 := by simp [kindS, hlf]
      have hp : partN n 0 = ⟨false, [], [], [(k : Int)]⟩ := by
        simp only [partN, hlf]
        have : n.kids.take (0 + 1) = [(k : Int)] := by rw [List.take_add_one, List.getElem?_eq_getElem h0k, hk2]; rfl
        simp [this]
      rw [e, hkd, List.append_assoc, numR_num (n := 2) (x := n.keys.length) (by omega)]
      have es : startR 2 (numS k 4 ++ restN n 0, false) = (⟨false, [], [], [(k : Int)]⟩, (restN n 0, false)) := by
        unfold startR
        rw [if_neg (by decide), numR_num (n := 4) (x := k) (by omega)]
      simp only [es]
      rw [← hp]; exact lw
    · have e : headB n = numS n.keys.length 2 := by simp [headB, hlf]
      have hkd : kindS n = 1 := by simp [kindS, hlf]
      have hp : partN n 0 = ⟨true, [], [], []⟩ := by simp [partN, hlf]
      rw [e, hkd, numR_num (n := 2) (x := n.keys.length) (by omega)]
      simp only [startR, if_true]
      rw [← hp]; exact lw
  have hk : kindS n = 1 ∨ kindS n = 2 := by unfold kindS; split <;> simp
  rw [decS_eq hk, key]
  simp [hr]

theorem stepT_len {n n' : Nd} {s s' : List UInt8} (h : stepT n s = some (n', s')) : n'.leaf = n.leaf ∧ n'.keys.length = n.keys.length + 1 := by
  unfold stepT at h
  split at h
  · cases h
  split at h
  · cases h
  split at h
  · split at h
    · simp at h; obtain ⟨rfl, _⟩ := h; simp
    · cases h
  · split at h
    · cases h
    · simp at h; obtain ⟨rfl, _⟩ := h; simp
theorem loopT_len : ∀ (m : Nat) {n n' : Nd} {s s' : List UInt8}, loopT m n s = some (n', s') → n'.leaf = n.leaf ∧ n'.keys.length = n.keys.length + m
  | 0, n, n', s, s', h => by simp [loopT] at h; obtain ⟨rfl, _⟩ := h; simp
  | m + 1, n, n', s, s', h => by
    rw [loopT] at h
    split at h
    · rename_i n1 s1 h1
      obtain ⟨a, b⟩ := stepT_len h1
      obtain ⟨c, d⟩ := loopT_len m h
      exact ⟨c.trans a, by omega⟩
    · cases h

theorem refS_eq (kind : Int) (s : List UInt8) : refS kind s = decS kind s := by
  cases hd : decS kind s with
  | some n => exact (decS_content hd).2.2.2.2
  | none =>
    cases hr : refS kind s with
    | none => rfl
    | some n =>
      exfalso
      unfold refS at hr
      split at hr
      · rename_i m r he
        split at hr
        · rename_i hc
          simp only [Option.some.injEq] at hr; subst hr
          obtain ⟨rfl, h1, h2⟩ := hc
          -- its kind, its length
          unfold endT at he
          split at he
          · rename_i n0 r0 hs
            obtain ⟨a, b⟩ := loopT_len _ he
            have hrl : readS (s.take 2) < 65536 := by
              have h3 := readS_lt (s.take 2)
              have h4 : 256 ^ (s.take 2).length ≤ 256 ^ 2 := Nat.pow_le_pow_right (by omega) (by simp; omega)
              omega
            have hk : m.keys.length < 65536 ∧ kind = kindS m := by
              unfold startT at hs
              split at hs
              · cases hs
              · rename_i hn
                split at hs
                · rename_i h2
                  split at hs
                  · cases hs
                  · simp only [Option.some.injEq, Prod.mk.injEq] at hs
                    obtain ⟨rfl, _⟩ := hs
                    simp at a b
                    exact ⟨by omega, by simp [kindS, a, h2]⟩
                · rename_i h2
                  simp only [Option.some.injEq, Prod.mk.injEq] at hs
                  obtain ⟨rfl, _⟩ := hs
                  simp at a b
                  refine ⟨by omega, ?_⟩
                  simp [kindS, a]; omega
            have := decS_written h1 hk.1
            rw [← hk.2, h2, hd] at this; cases this
          · cases he
        · cases hr
      · cases hr

theorem f25 (kind : Int) (s : List UInt8) (hsl : s.length ≤ 50000) : ∃ v, decQ kind s v ∧ ∀ hp nx, Ret E 25 [.v (.int .i64 kind), .str s] hp nx v hp nx .p := by
  have conv : ∀ v, refQ kind s v → decQ kind s v := fun v h => by unfold refQ at h; rw [refS_eq] at h; exact h
  suffices h : ∃ v, refQ kind s v ∧ ∀ hp nx, Ret E 25 [.v (.int .i64 kind), .str s] hp nx v hp nx .p from by
    obtain ⟨v, h1, h2⟩ := h; exact ⟨v, conv v h1, h2⟩
  refine Ret_pureE e25 rfl (by simp) ?_
  have hrl : readS (s.take 2) < 65536 := by
    have h3 := readS_lt (s.take 2)
    have h4 : 256 ^ (s.take 2).length ≤ 256 ^ 2 := Nat.pow_le_pow_right (by omega) (by simp; omega)
    omega
  have fail : startT kind s = none → refQ kind s (.tup [zeroN, .v (.int .i64 11)]) := fun h => by
    have : refS kind s = none := by unfold refS endT; rw [h]
    exact ⟨fun m h2 => (by rw [this] at h2; cases h2), fun _ => rfl⟩
  have main := fun (st : St) hk h => f25_loop kind hk s hsl (readS (s.take 2)) (by omega) (0, ((startT kind s).getD (nd0, [])).1, ((startT kind s).getD (nd0, [])).2) st h
  simp only [c25] at main
  by_cases h2 : s.length < 2
  · have hs : startT kind s = none := by unfold startT; rw [if_pos (by omega)]
    have q : ¬ 2 ≤ s.length := by omega
    simp [c25, spliceL, -W_block]
    refine WCall_p (f49 s 2 _ _) ?_
    simp [takeS, takeA, q, spliceL]
    exact ⟨.tup [zeroN, .v (.int .i64 11)], by simp [zeroN, frz_closed], fail hs⟩
  have q : 2 ≤ s.length := by omega
  by_cases h1 : kind = 1
  · subst h1
    simp [c25, spliceL, -W_block]
    refine WCall_p (f49 s 2 _ _) ?_
    simp [takeS, takeA, q, spliceL, -W_block]
    refine WCall_p (f50 _ (by simp; omega) _ _) ?_
    simp [-W_block]
    simp only [W_block]
    have hs : startT 1 s = some (⟨true, [], [], []⟩, s.drop 2) := by unfold startT; rw [if_neg (by simp; omega), if_neg (by decide)]
    rw [hs] at main
    refine main _ (.inl rfl) ?_
    have he : endT 1 s = loopT (readS (s.take 2)) ⟨true, [], [], []⟩ (s.drop 2) := by unfold endT; rw [hs]
    exact ⟨by simp, by simp, by simp, by simp, by simp, by simp, by simp, by simp, by simp [zeroN], ⟨_, _, _, ⟨by simp, OwnS.nil, OwnS.nil, OwnS.nil, by simp, by simp, by simp, by simp, by simp, by simp⟩⟩, (by show 1 < 2; omega), he.symm, by simp, by simp, by simp, by simp, by simp⟩
  · by_cases h3 : kind = 2
    · subst h3
      simp [c25, spliceL, -W_block]
      refine WCall_p (f49 s 2 _ _) ?_
      simp [takeS, takeA, q, spliceL, -W_block]
      refine WCall_p (f50 _ (by simp; omega) _ _) ?_
      simp [-W_block]
      refine WCall_p (f49 _ 4 _ _) ?_
      by_cases h4 : (s.drop 2).length < 4
      · have hs : startT 2 s = none := by unfold startT; rw [if_neg (by simp; omega), if_pos rfl, if_pos h4]
        have q4 : ¬ 4 ≤ s.length - 2 := by simp at h4; omega
        simp [takeS, takeA, q4, spliceL]
        exact ⟨.tup [zeroN, .v (.int .i64 11)], by simp [zeroN, frz_closed], fail hs⟩
      · have q4 : 4 ≤ s.length - 2 := by simp at h4; omega
        simp [takeS, takeA, q4, spliceL, -W_block]
        refine WCall_p (f50 _ (by simp; omega) _ _) ?_
        simp [spliceL, -W_block]
        simp only [W_block]
        have hs : startT 2 s = some (⟨false, [], [], [(readS ((s.drop 2).take 4) : Int)]⟩, (s.drop 2).drop 4) := by unfold startT; rw [if_neg (by simp; omega), if_pos rfl, if_neg h4]
        rw [hs] at main
        refine main _ (.inr rfl) ?_
        have he : endT 2 s = loopT (readS (s.take 2)) ⟨false, [], [], [(readS ((s.drop 2).take 4) : Int)]⟩ ((s.drop 2).drop 4) := by unfold endT; rw [hs]
        exact ⟨by simp, by simp, by simp, by simp, by simp, by simp, by simp, by simp, by simp [zeroN], ⟨_, _, _, ⟨by simp; rfl, OwnS.nil, OwnS.nil, OwnS.lit, by simp, by simp, by simp, by simp, by simp, by simp⟩⟩, (by show 1 < 2; omega), he.symm, by simp, by simp, by simp, by simp, by simp⟩
    · have hs : startT kind s = none := by unfold startT; rw [if_pos (by omega)]
      simp [c25, spliceL, h1, h3]
      refine WCall_p (f49 s 2 _ _) ?_
      simp [takeS, takeA, q, spliceL, h1, h3]
      exact ⟨.tup [zeroN, .v (.int .i64 11)], by simp [zeroN, frz_closed], fail hs⟩
end Go.Ai
