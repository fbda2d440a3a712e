/- Plain laws: encoded words that are made. -/
import Derived.Test.YtdhbiimmifedmaaY
namespace Go.Ai
set_option linter.unusedVariables false
set_option linter.unusedSimpArgs false

theorem idx_none {c : UInt8} : ∀ {l : List UInt8}, c ∉ l → ∀ r, Lib.indexByte (l ++ c :: r) c = l.length
  | [], _, r => by simp [Lib.indexByte]
  | x :: l, h, r => by
    have hx : x ≠ c := fun e => h (e ▸ List.mem_cons_self)
    have ih := idx_none (l := l) (fun e => h (List.mem_cons_of_mem _ e)) r
    simp only [List.cons_append, Lib.indexByte, beq_iff_eq, if_neg hx, ih]
    have e : (l.length : Int) ≠ -1 := by omega
    simp [e]
theorem takeS_app {c : UInt8} {l : List UInt8} (h : c ∉ l) (r : List UInt8) : takeS c (l ++ c :: r) = some (l, r) := by
  have := idx_none h r
  rw [takeS, if_neg (by omega), this]
  simp

theorem wordS_made {cs how t : List UInt8} (h1 : (63 : UInt8) ∉ cs) (h2 : (63 : UInt8) ∉ how) (h3 : (63 : UInt8) ∉ t) (g1 : graphS cs = true) (g2 : graphS t = true) (r : List UInt8) :
    wordS (61 :: 63 :: (cs ++ 63 :: (how ++ 63 :: (t ++ 63 :: 61 :: r)))) = (saysS cs how t).map fun x => (x, r) := by
  have hp : [61, 63].isPrefixOf ((61 : UInt8) :: 63 :: (cs ++ 63 :: (how ++ 63 :: (t ++ 63 :: 61 :: r)))) = true := by simp [List.isPrefixOf]
  rw [wordS, if_pos hp]
  simp only [List.drop_succ_cons, List.drop_zero, partsS, takeS_app h1, takeS_app h2, takeS_app h3, Option.bind_some, wordT]
  rw [if_pos (by simp [g1, g2, List.isPrefixOf])]

theorem wordS_head {c : UInt8} {r : List UInt8} (h : c ≠ 61) : wordS (c :: r) = none := by
  rw [wordS, if_neg]
  simp only [List.isPrefixOf, Bool.and_eq_true, beq_iff_eq, not_and]
  intro e; exact absurd e.symm h
theorem docR_plain : ∀ {a : List UInt8}, (61 : UInt8) ∉ a → docR a = a
  | [], _ => rfl
  | c :: r, h => by
    rw [docR_cons (wordS_head fun e => h (by simp [e])), docR_plain fun e => h (by simp [e])]
theorem docR_last {l x : List UInt8} (h : wordS l = some (x, [])) : docR l = x := by
  rw [docR_word h]
  simp only [List.dropWhile_nil, wordS_nil, docR_nil]
  simp [docR_nil]
theorem docR_gap {l x g m y : List UInt8} (h : wordS l = some (x, g ++ m)) (hg : ∀ c ∈ g, blankC c = true) (hm : wordS m = some (y, [])) : docR l = x ++ y := by
  have hd : (g ++ m).dropWhile blankC = m := by
    rw [List.dropWhile_append_of_pos hg]; exact wordS_eq hm
  rw [docR_word h, hd, hm]
  simp only [Option.isSome_some, if_true]
  rw [docR_last hm]
theorem docR_mid {l x m y : List UInt8} {c : UInt8} (h : wordS l = some (x, c :: m)) (hc : c ≠ 61) (hb : blankC c = false) (hm : wordS m = some (y, [])) : docR l = x ++ c :: y := by
  rw [docR_word h, List.dropWhile_cons_of_neg (by simp [hb]), wordS_head hc]
  simp only [Option.isSome_none, Bool.false_eq_true, if_false]
  rw [docR_cons (wordS_head hc), docR_last hm]

/-- Base 64's letters: none is a mark, all can be seen. -/
theorem letC_ok (n : Nat) (h : n < 64) : letC n ≠ 63 ∧ seenC (letC n) = true := by
  have key : ((List.range 64).all fun n => decide (letC n ≠ 63 ∧ seenC (letC n) = true)) = true := by kernel_rfl
  exact of_decide_eq_true (List.all_eq_true.1 key n (List.mem_range.2 h))
theorem quadC_ok (l : List UInt8) (k : Nat) : quadC l k ≠ 63 ∧ seenC (quadC l k) = true := by
  simp only [quadC]
  split
  · exact letC_ok _ (Nat.mod_lt _ (by omega))
  · exact ⟨by decide, by decide⟩
theorem quadS_ok (l : List UInt8) : ∀ c ∈ quadS l, c ≠ 63 ∧ seenC c = true := by
  intro c hc
  simp only [quadS, List.mem_cons, List.not_mem_nil, or_false] at hc
  rcases hc with rfl | rfl | rfl | rfl <;> exact quadC_ok _ _
theorem b64S_ok : ∀ l : List UInt8, ∀ c ∈ b64S l, c ≠ 63 ∧ seenC c = true
  | [], c, h => by simp [b64S] at h
  | [a], c, h => quadS_ok _ c h
  | [a, b], c, h => quadS_ok _ c h
  | a :: b :: d :: r, c, h => by
    simp only [b64S] at h
    rcases List.mem_append.1 h with h | h
    · exact quadS_ok _ c h
    · exact b64S_ok r c h
theorem b64S_no (l : List UInt8) : (63 : UInt8) ∉ b64S l := fun h => (b64S_ok l _ h).1 rfl
theorem b64S_seen (l : List UInt8) : graphS (b64S l) = true := List.all_eq_true.2 fun c h => (b64S_ok l c h).2

def oneS (a : List UInt8) : List UInt8 := [61, 63, 85, 84, 70, 45, 56, 63, 98, 63] ++ b64S a ++ [63, 61]
def twoS (a : List UInt8) : List UInt8 := [61, 63, 117, 115, 45, 97, 115, 99, 105, 105, 63, 66, 63] ++ b64S a ++ [63, 61]
theorem unS_b64S (a : List UInt8) : unS (b64S a) = (a, 0) := by simp [unS, decS_b64S]
theorem wordS_one (a r : List UInt8) : wordS (oneS a ++ r) = some (a, r) := by
  have := wordS_made (cs := [85, 84, 70, 45, 56]) (how := [98]) (t := b64S a) (by decide) (by decide) (b64S_no a) (by decide) (b64S_seen a) r
  have hs : saysS [85, 84, 70, 45, 56] [98] (b64S a) = some a := by
    have e1 : lowS [85, 84, 70, 45, 56] = utf8L := by kernel_rfl
    have e2 : lowS [98] = [98] := by kernel_rfl
    simp only [saysS, bodyS, e2, unS_b64S, if_true, charS, e1]
  rw [hs] at this
  simp only [Option.map_some] at this
  rw [← this]
  congr 1
  simp [oneS]
theorem wordS_two (a r : List UInt8) : wordS (twoS a ++ r) = some (a, r) := by
  have := wordS_made (cs := [117, 115, 45, 97, 115, 99, 105, 105]) (how := [66]) (t := b64S a) (by decide) (by decide) (b64S_no a) (by decide) (b64S_seen a) r
  have hs : saysS [117, 115, 45, 97, 115, 99, 105, 105] [66] (b64S a) = some a := by
    have e1 : lowS [117, 115, 45, 97, 115, 99, 105, 105] = asciiL := by kernel_rfl
    have e2 : lowS [66] = [98] := by kernel_rfl
    have e3 : ¬ asciiL = utf8L := by decide
    simp only [saysS, bodyS, e2, unS_b64S, if_true, charS, e1, if_neg e3]
  rw [hs] at this
  simp only [Option.map_some] at this
  rw [← this]
  congr 1
  simp [twoS]
theorem says_one (a : List UInt8) : wordsP (oneS a) = a := by
  have := wordS_one a []
  rw [List.append_nil] at this
  rw [words_doc, docR_last this]
theorem says_gap (a b g : List UInt8) (hg : ∀ c ∈ g, blankC c = true) : wordsP (oneS a ++ (g ++ twoS b)) = a ++ b := by
  have := wordS_two b []
  rw [List.append_nil] at this
  rw [words_doc, docR_gap (wordS_one a (g ++ twoS b)) hg this]
theorem says_mid (a b : List UInt8) : wordsP (oneS a ++ 120 :: twoS b) = a ++ 120 :: b := by
  have := wordS_two b []
  rw [List.append_nil] at this
  rw [words_doc, docR_mid (wordS_one a (120 :: twoS b)) (by decide) (by decide) this]
theorem says_plain {a : List UInt8} (h : (61 : UInt8) ∉ a) : wordsP a = a := by rw [words_doc, docR_plain h]

/-! ### Each byte as = and two digits -/
def digL (small : Bool) : List UInt8 := if small then [48, 49, 50, 51, 52, 53, 54, 55, 56, 57, 97, 98, 99, 100, 101, 102] else [48, 49, 50, 51, 52, 53, 54, 55, 56, 57, 65, 66, 67, 68, 69, 70]
def triL (small : Bool) (c : UInt8) : List UInt8 := [61, (digL small).getD (c.toNat / 16) 0, (digL small).getD (c.toNat % 16) 0]
def escL (small : Bool) (s : List UInt8) : List UInt8 := s.flatMap (triL small)
theorem tri_ok (small : Bool) (c : UInt8) : 0 ≤ hexS ((digL small).getD (c.toNat / 16) 0) ∧ 0 ≤ hexS ((digL small).getD (c.toNat % 16) 0) ∧
    UInt8.ofNat ((hexS ((digL small).getD (c.toNat / 16) 0)).toNat * 16 + (hexS ((digL small).getD (c.toNat % 16) 0)).toNat) = c ∧ (∀ x ∈ triL small c, x ≠ 63 ∧ seenC x = true) := by
  have key : ∀ small, ((List.range 256).all fun n => decide (0 ≤ hexS ((digL small).getD ((UInt8.ofNat n).toNat / 16) 0) ∧ 0 ≤ hexS ((digL small).getD ((UInt8.ofNat n).toNat % 16) 0) ∧
    UInt8.ofNat ((hexS ((digL small).getD ((UInt8.ofNat n).toNat / 16) 0)).toNat * 16 + (hexS ((digL small).getD ((UInt8.ofNat n).toNat % 16) 0)).toNat) = UInt8.ofNat n ∧ (∀ x ∈ triL small (UInt8.ofNat n), x ≠ 63 ∧ seenC x = true))) = true := by
    intro b; cases b <;> kernel_rfl
  have := of_decide_eq_true (List.all_eq_true.1 (key small) c.toNat (List.mem_range.2 c.toNat_lt))
  simpa using this
theorem escS_tri (small : Bool) (c : UInt8) (r : List UInt8) : escS (triL small c ++ r) = some c := by
  obtain ⟨h1, h2, h3, _⟩ := tri_ok small c
  simp only [triL, List.cons_append, List.nil_append, escS]
  rw [if_pos ⟨trivial, h1, h2⟩, h3]
theorem unq_esc (small : Bool) : ∀ (s r : List UInt8), unqS (escL small s ++ r) 0 = s ++ unqS r 0
  | [], r => rfl
  | c :: s, r => by
    have e : escL small (c :: s) ++ r = triL small c ++ (escL small s ++ r) := by simp [escL]
    have hne : triL small c ++ (escL small s ++ r) ≠ [] := by simp [escL, triL]
    rw [e, unqS_step hne, escS_tri]
    have : (triL small c ++ (escL small s ++ r)).drop 3 = escL small s ++ r := rfl
    simp only [this, unq_esc small s r, List.cons_append]
theorem q_esc (small : Bool) : ∀ s : List UInt8, qS (escL small s) 0 = s
  | [] => rfl
  | c :: s => by
    have e : escL small (c :: s) = triL small c ++ escL small s := by simp [escL]
    have hne : triL small c ++ escL small s ≠ [] := by simp [escL, triL]
    rw [e, qS_step hne, escS_tri]
    have : (triL small c ++ escL small s).drop 3 = escL small s := rfl
    simp only [this, q_esc small s]
theorem unq_soft (r : List UInt8) : unqS (61 :: 13 :: 10 :: r) 0 = unqS r 0 := by
  rw [unqS_step (by simp)]
  have : escS (61 :: 13 :: 10 :: r) = none := by
    simp only [escS]; rw [if_neg]; rintro ⟨_, h, _⟩; exact absurd h (by decide)
  rw [this]
  simp [List.isPrefixOf]
theorem unq_soft2 : unqS [61, 10] 0 = [] := by kernel_rfl
theorem unq_nil : unqS [] 0 = [] := rfl
theorem unq_t (small : Bool) (s : List UInt8) : unqS (escL small s) 0 = s := by
  have := unq_esc small s []
  simpa [unq_nil] using this
theorem unq_tt (small : Bool) (s : List UInt8) : unqS (escL small s ++ [61, 13, 10] ++ escL small s ++ [61, 10]) 0 = s ++ s := by
  have : escL small s ++ [61, 13, 10] ++ escL small s ++ [61, 10] = escL small s ++ (61 :: 13 :: 10 :: (escL small s ++ [61, 10])) := by simp
  rw [this, unq_esc, unq_soft, unq_esc, unq_soft2, List.append_nil]
theorem esc_ok (small : Bool) (s : List UInt8) : ∀ x ∈ escL small s, x ≠ 63 ∧ seenC x = true := by
  intro x hx
  obtain ⟨c, _, h⟩ := List.mem_flatMap.1 hx
  exact (tri_ok small c).2.2.2 x h
theorem esc_length (small : Bool) : ∀ s : List UInt8, (escL small s).length = 3 * s.length
  | [] => rfl
  | c :: s => by
    have := esc_length small s
    simp only [escL] at this
    simp only [escL, List.flatMap_cons, List.length_append, this, List.length_cons, triL, List.length_nil]; omega
def qWord (cs t : List UInt8) : List UInt8 := ([61, 63] ++ cs ++ [63, 81, 63]) ++ t ++ [63, 61]
theorem says_q {cs x : List UInt8} (h1 : (63 : UInt8) ∉ cs) (g1 : graphS cs = true) (small : Bool) (s : List UInt8) (hx : charS cs s = some x) : wordsP (qWord cs (escL small s)) = x := by
  have e := wordS_made (cs := cs) (how := [81]) (t := escL small s) h1 (by decide) (fun h => (esc_ok small s _ h).1 rfl) g1 (List.all_eq_true.2 fun c h => (esc_ok small s c h).2) []
  have hs : saysS cs [81] (escL small s) = some x := by
    have e2 : lowS [81] = [113] := by kernel_rfl
    have e3 : ¬ ([113] : List UInt8) = [98] := by decide
    simp only [saysS, bodyS, e2, if_true, if_neg e3, q_esc, hx]
  rw [hs] at e
  simp only [Option.map_some] at e
  rw [words_doc]
  apply docR_last
  rw [← e]
  congr 1
  simp [qWord]
theorem says_q8 (small : Bool) (s : List UInt8) : wordsP (qWord [117, 116, 102, 45, 56] (escL small s)) = s := by
  refine says_q (by decide) (by decide) small s ?_
  have e1 : lowS [117, 116, 102, 45, 56] = utf8L := by kernel_rfl
  simp [charS, e1]
theorem says_qi (small : Bool) (s : List UInt8) : wordsP (qWord [105, 115, 111, 45, 56, 56, 53, 57, 45, 49] (escL small s)) = latS s := by
  refine says_q (by decide) (by decide) small s ?_
  have e1 : lowS [105, 115, 111, 45, 56, 56, 53, 57, 45, 49] = isoL := by kernel_rfl
  have e2 : ¬ isoL = utf8L := by decide
  have e3 : ¬ isoL = asciiL := by decide
  simp only [charS, e1, if_neg e2, if_neg e3, if_true]
end Go.Ai
