/- The document's Words; both are the same; WordsTells. -/
import Derived.Test.YtdhbiimmifedmaaX
namespace Go.Ai
set_option linter.unusedVariables false
set_option linter.unusedSimpArgs false

/-- The document's way. -/
def docW : Nat → List UInt8 → List UInt8
  | 0, _ => []
  | n + 1, l => match wordS l with
    | some (x, r) => x ++ docW n (if (wordS (r.dropWhile blankC)).isSome then r.dropWhile blankC else r)
    | none => match l with
      | [] => []
      | c :: r => c :: docW n r

theorem dw_len (l : List UInt8) : (l.dropWhile blankC).length ≤ l.length := (List.dropWhile_suffix blankC).length_le
theorem wordS_nil : wordS [] = none := by kernel_rfl
theorem docW_nil : ∀ n, docW n [] = []
  | 0 => rfl
  | n + 1 => by simp only [docW, wordS_nil]
theorem docW_more : ∀ (n m : Nat) (l : List UInt8), l.length ≤ n → l.length ≤ m → docW n l = docW m l
  | 0, m, l, h1, h2 => by
    have : l = [] := by simpa using h1
    subst this; rw [docW_nil, docW_nil]
  | n + 1, 0, l, h1, h2 => by
    have : l = [] := by simpa using h2
    subst this; rw [docW_nil, docW_nil]
  | n + 1, m + 1, l, h1, h2 => by
    simp only [docW]
    cases hw : wordS l with
    | some xr =>
      obtain ⟨x, r⟩ := xr
      have h3 := wordS_length hw
      have h4 := dw_len r
      simp only
      rw [docW_more n m _ (by split <;> omega) (by split <;> omega)]
    | none =>
      match l with
      | [] => rfl
      | c :: r =>
        simp only [List.length_cons] at h1 h2
        simp only
        rw [docW_more n m r (by omega) (by omega)]
def docR (l : List UInt8) : List UInt8 := docW l.length l
theorem docR_word {l x r : List UInt8} (h : wordS l = some (x, r)) : docR l = x ++ docR (if (wordS (r.dropWhile blankC)).isSome then r.dropWhile blankC else r) := by
  have h3 := wordS_length h
  have h4 := dw_len r
  obtain ⟨n, hn⟩ : ∃ n, l.length = n + 1 := ⟨l.length - 1, by omega⟩
  simp only [docR]
  rw [hn]
  simp only [docW, h]
  rw [docW_more n _ _ (by split <;> omega) (Nat.le_refl _)]
theorem docR_cons {c : UInt8} {r : List UInt8} (h : wordS (c :: r) = none) : docR (c :: r) = c :: docR r := by
  show docW (r.length + 1) (c :: r) = _
  simp only [docW, h]; rfl
theorem docR_nil : docR [] = [] := rfl

theorem wordS_eq {l : List UInt8} {y : List UInt8 × List UInt8} (h : wordS l = some y) : l.dropWhile blankC = l := by
  simp only [wordS] at h
  split at h
  · rename_i hp
    match l with
    | [] => rfl
    | c :: r =>
      have : c = 61 := by simp [List.isPrefixOf] at hp; exact hp.1.symm
      subst this
      rfl
  · cases h

/-- From any state on. -/
theorem runW_doc : ∀ (m : Nat) (rem : List UInt8), rem.length ≤ m →
    (∀ (n : Nat) (out : List UInt8) (gap : Nat), rem.length ≤ n → runW n ⟨rem, out, gap, false⟩ = out ++ docR rem) ∧
    (∀ (n : Nat) (o bl : List UInt8), rem.length ≤ n → runW n ⟨rem, o ++ bl, bl.length, true⟩ = if (wordS (rem.dropWhile blankC)).isSome then o ++ docR (rem.dropWhile blankC) else o ++ bl ++ docR rem)
  | m, [], _ => by
    have h0 : ∀ (n : Nat) (q : List UInt8 × Nat × Bool), runW n ⟨[], q.1, q.2.1, q.2.2⟩ = q.1 := by
      intro n q; cases n with
      | zero => rfl
      | succ n => simp [runW]
    refine ⟨fun n out gap _ => ?_, fun n o bl _ => ?_⟩
    · rw [h0 n (out, gap, false), docR_nil, List.append_nil]
    · rw [h0 n (o ++ bl, bl.length, true)]
      simp only [List.dropWhile_nil, wordS_nil, docR_nil, List.append_nil]; rfl
  | 0, c :: r, h => by simp at h
  | m + 1, c :: r, h => by
    simp only [List.length_cons] at h
    have ihr := runW_doc m r (by omega)
    cases hw : wordS (c :: r) with
    | some xr =>
      obtain ⟨x, r'⟩ := xr
      have hl := wordS_length hw
      simp only [List.length_cons] at hl
      have ih := (runW_doc m r' (by omega)).2
      refine ⟨fun n out gap hn => ?_, fun n o bl hn => ?_⟩
      · obtain ⟨n, rfl⟩ : ∃ k, n = k + 1 := ⟨n - 1, by simp at hn; omega⟩
        have e := ih n (out ++ x) [] (by simp at hn; omega)
        simp only [List.append_nil, List.length_nil] at e
        rw [docR_word hw]
        simp only [runW, wstep, hw]
        rw [if_neg (by simp)]
        simp only [Bool.false_eq_true, if_false]
        rw [e]
        split <;> simp
      · obtain ⟨n, rfl⟩ : ∃ k, n = k + 1 := ⟨n - 1, by simp at hn; omega⟩
        have e := ih n (o ++ x) [] (by simp at hn; omega)
        simp only [List.append_nil, List.length_nil] at e
        rw [wordS_eq hw, hw, docR_word hw]
        simp only [runW, wstep, hw]
        rw [if_neg (by simp)]
        have ht : (o ++ bl).take ((o ++ bl).length - bl.length) = o := by rw [List.length_append, Nat.add_sub_cancel]; simp
        simp only [if_true, ht, Option.isSome_some]
        rw [e]
        split <;> simp
    | none =>
      refine ⟨fun n out gap hn => ?_, fun n o bl hn => ?_⟩
      · obtain ⟨n, rfl⟩ : ∃ k, n = k + 1 := ⟨n - 1, by simp at hn; omega⟩
        simp only [List.length_cons] at hn
        rw [docR_cons hw]
        simp only [runW, wstep, hw]
        rw [if_neg (by simp)]
        have : (if blankC c = true then false else false) = false := by split <;> rfl
        rw [this, ihr.1 n _ _ (by omega)]
        simp
      · obtain ⟨n, rfl⟩ : ∃ k, n = k + 1 := ⟨n - 1, by simp at hn; omega⟩
        simp only [List.length_cons] at hn
        simp only [runW, wstep, hw]
        rw [if_neg (by simp)]
        cases hb : blankC c with
        | true =>
          have e := ihr.2 n o (bl ++ [c]) (by omega)
          simp only [List.length_append, List.length_cons, List.length_nil, Nat.zero_add] at e
          simp only [if_true]
          rw [List.append_assoc, e, List.dropWhile_cons_of_pos hb]
          split
          · rfl
          · rw [docR_cons hw]; simp
        | false =>
          simp only [Bool.false_eq_true, if_false]
          rw [ihr.1 n _ _ (by omega), List.dropWhile_cons_of_neg (by simp [hb]), hw, docR_cons hw]
          simp
theorem words_doc (s : List UInt8) : wordsP s = docR s := by
  have := (runW_doc s.length s (Nat.le_refl _)).1 s.length [] 0 (Nat.le_refl _)
  exact this

theorem drop_dw (l : List UInt8) : ∃ k, k ≤ l.length ∧ l.dropWhile blankC = l.drop k ∧ (∀ y ∈ l.take k, blankC y = true) ∧ (∀ y, l[k]? = some y → blankC y = false) := by
  induction l with
  | nil => exact ⟨0, by simp, rfl, by simp, by simp⟩
  | cons c r ih =>
    cases hb : blankC c with
    | true =>
      obtain ⟨k, h1, h2, h3, h4⟩ := ih
      refine ⟨k + 1, by simp; omega, ?_, ?_, ?_⟩
      · rw [List.dropWhile_cons_of_pos hb, h2]; rfl
      · intro y hy
        rw [List.take_succ_cons] at hy
        rcases List.mem_cons.1 hy with rfl | h
        · exact hb
        · exact h3 y h
      · simpa using h4
    | false =>
      refine ⟨0, by simp, ?_, by simp, ?_⟩
      · rw [List.dropWhile_cons_of_neg (by simp [hb])]; rfl
      · intro y hy; simp at hy; subst hy; exact hb

/-- Lines joined, so far. -/
theorem joinS_snoc {sep : List UInt8} {es : List (List UInt8)} {j : Nat} (h : j < es.length) : joinS sep (es.take (j + 1)) = (if 0 < j then joinS sep (es.take j) ++ sep else joinS sep (es.take j)) ++ es[j] := by
  match es, h with
  | a :: r, h =>
    cases j with
    | zero => simp [joinS]
    | succ j =>
      simp only [List.length_cons] at h
      have hj : j < r.length := by omega
      simp only [List.take_succ_cons, joinS, Nat.succ_pos, if_true, List.getElem_cons_succ]
      rw [List.take_add_one, List.getElem?_eq_getElem hj, List.flatMap_append]
      simp

theorem takeS_suf {c : UInt8} {l a b : List UInt8} (h : takeS c l = some (a, b)) : b <:+ l := by
  simp only [takeS] at h
  split at h
  · cases h
  · cases h; exact List.drop_suffix _ _
theorem wordS_suf {s x r : List UInt8} (h : wordS s = some (x, r)) : r <:+ s := by
  simp only [wordS] at h
  split at h
  · simp only [partsS] at h
    cases h1 : takeS 63 (s.drop 2) with
    | none => rw [h1] at h; cases h
    | some p1 =>
      obtain ⟨a, r1⟩ := p1
      rw [h1] at h
      have l1 := takeS_suf h1
      simp only at h
      cases h2 : takeS 63 r1 with
      | none => rw [h2] at h; cases h
      | some p2 =>
        obtain ⟨b, r2⟩ := p2
        rw [h2] at h
        have l2 := takeS_suf h2
        simp only at h
        cases h3 : takeS 63 r2 with
        | none => rw [h3] at h; cases h
        | some p3 =>
          obtain ⟨c, r3⟩ := p3
          rw [h3] at h
          have l3 := takeS_suf h3
          simp only [Option.bind_some, wordT] at h
          split at h
          · cases h4 : saysS a b c with
            | none => rw [h4] at h; cases h
            | some y =>
              rw [h4] at h
              simp only [Option.map_some, Option.some.injEq, Prod.mk.injEq] at h
              rw [← h.2]
              exact (List.drop_suffix _ _).trans (l3.trans (l2.trans (l1.trans (List.drop_suffix _ _))))
          · cases h
  · cases h

set_option maxHeartbeats 1000000 in
theorem f22 (es : List (List UInt8)) (nil : Bool) (z : Nat) (cap : Option Nat) (hz : (nil = true ∨ z = 1) ∧ (nil = true → es = [])) (hn : es.length ≤ 1000) (ht : sumS es ≤ 20000) (hp nx) :
    Ret E 22 [.rs nil z (es.map sC) cap] hp nx (.str (docR (joinS [32] es))) hp nx .p := by
  refine Ret_pureQ e22 rfl (by simp; exact closedLL_sC es) ?_ hp nx
  have hjl := joinS_length [32] es
  simp only [List.length_cons, List.length_nil] at hjl
  have hz' : (nil = true ∨ z = 1) ∧ (nil = true → es.map sC = []) := ⟨hz.1, fun h => by rw [hz.2 h]; rfl⟩
  simp [c22]
  refine W_loopI (I := fun (j : Nat) s' => j ≤ es.length ∧ s'.tm 4 = .int .i64 j ∧ s'.tm 0 = .rs nil z (es.map sC) cap ∧ s'.tm 3 = .str (joinS [32] (es.take j))) (fun j => es.length - j) 0 (by simp [joinS]) ?_
  rintro j tm hp nx ⟨hj, t4, t0, t3⟩
  simp only at hj t4 t0 t3
  by_cases hlt : j < es.length
  · have hlt' : (j : Int) < es.length := by omega
    have hia : iaddrA 1 (.rs nil z (es.map sC) cap) (.v (.int .i64 (j : Int))) = some (.rp [.str es[j]]) := iaddr_in hz' (get_sC hlt) rfl
    have hst := joinS_snoc (sep := [32]) hlt
    have hjl2 := joinS_length [32] (es.take j)
    have h5 := sumS_le es j
    have h6 := sumS_take hlt
    have h7 := sumS_le es (j + 1)
    simp only [List.length_cons, List.length_nil, List.length_take] at hjl2
    have hw : IntKind.wrap .i64 ((j : Int) + 1) = (j + 1 : Nat) := by rw [wrap_id] <;> omega
    by_cases h0 : 0 < j
    · have h0' : (0 : Int) < j := by omega
      rw [if_pos h0] at hst
      have hcat : strA .add (joinS [32] (es.take j)) [32] = some (.str (joinS [32] (es.take j) ++ [32])) := strA_cat (by simp only [List.length_cons, List.length_nil]; omega)
      have hcat2 : strA .add (joinS [32] (es.take j) ++ [32]) es[j] = some (.str (joinS [32] (es.take (j + 1)))) := by
        rw [hst]; exact strA_cat (by simp only [List.length_append, List.length_cons, List.length_nil]; omega)
      simp [t4, t0, t3, hlt', h0', hia, hcat, hcat2, hw, -iaddrA_rs, -strA_add, -Int.ofNat_lt, -Int.natCast_add, -Int.natCast_pos]
      exact ⟨j + 1, by omega, by omega, rfl, rfl⟩
    · have h0' : ¬ (0 : Int) < j := by omega
      rw [if_neg h0] at hst
      have hcat2 : strA .add (joinS [32] (es.take j)) es[j] = some (.str (joinS [32] (es.take (j + 1)))) := by
        rw [hst]; exact strA_cat (by omega)
      simp [t4, t0, t3, hlt', h0', hia, hcat2, hw, -iaddrA_rs, -strA_add, -Int.ofNat_lt, -Int.natCast_add, -Int.natCast_pos]
      exact ⟨j + 1, by omega, by omega, rfl, rfl⟩
  have hje : j = es.length := by omega
  subst hje
  rw [List.take_length] at t3
  simp [t4, t0]
  generalize joinS [32] es = s at *
  have hsl : s.length ≤ 21000 := by omega
  refine W_loopI (I := fun (q : Nat × List UInt8) s' => q.1 ≤ s.length ∧ s'.tm 6 = .int .i64 q.1 ∧ s'.tm 3 = .str s ∧ s'.tm 5 = .str q.2 ∧ q.2 ++ docR (s.drop q.1) = docR s ∧ q.2.length + 2 * (s.length - q.1) ≤ 2 * s.length) (fun q => s.length - q.1) (0, []) (by simp [t3]) ?_
  rintro ⟨i, out⟩ tm hp nx ⟨hi, t6, t3, t5, hout, hol⟩
  simp only at hi t6 t3 t5 hout hol
  by_cases hlt : i < s.length
  · have hlt' : (i : Int) < s.length := by omega
    have hg : s[i]? = some s[i] := List.getElem?_eq_getElem hlt
    have hw1 : IntKind.wrap .i64 ((i : Int) + 1) = (i + 1 : Nat) := by rw [wrap_id] <;> omega
    have hdc : s.drop i = s[i] :: s.drop (i + 1) := List.drop_eq_getElem_cons hlt
    simp [t6, t3, hlt', -Int.ofNat_lt]
    refine WCall_p (f35 s (by omega) i hi _ _) ?_
    cases hw : wordS (s.drop i) with
    | none =>
      have hcut : sliceStr (.str s) (some (.v (.int .i64 (i : Int)))) (some (.v (.int .i64 ((i + 1 : Nat) : Int)))) = some (.str [s[i]]) := by
        rw [sliceStr_lh, if_pos (by omega), Int.toNat_natCast, Int.toNat_natCast, List.take_add_one, hg, List.drop_append_of_le_length (by simp; omega)]
        simp
      have hcat : strA .add out [s[i]] = some (.str (out ++ [s[i]])) := strA_cat (by simp only [List.length_cons, List.length_nil]; omega)
      rw [hdc] at hw
      rw [hdc, docR_cons hw] at hout
      simp [refA, t6, t3, t5, hw1, hcut, hcat, -sliceStr_lh, -strA_add, -Int.natCast_add, -Prod.exists]
      refine ⟨(i + 1, out ++ [s[i]]), by simp only; omega, by simp only; omega, rfl, rfl, by rw [← hout]; simp, by simp only [List.length_append, List.length_cons, List.length_nil]; omega⟩
    | some xr =>
      obtain ⟨x, r⟩ := xr
      have hwl := wordS_length hw
      rw [List.length_drop] at hwl
      have hsuf : r = s.drop (s.length - r.length) := List.suffix_iff_eq_drop.1 ((wordS_suf hw).trans (List.drop_suffix _ _))
      rw [docR_word hw] at hout
      obtain ⟨e, he⟩ : ∃ e, e = s.length - r.length := ⟨_, rfl⟩
      rw [← he] at hsuf
      have hcat : strA .add out x = some (.str (out ++ x)) := strA_cat (by omega)
      have hen : ¬ (e : Int) < 0 := by omega
      simp only [refA, ← he]
      simp [t6, t3, t5, hcat, hen, -strA_add, -Int.natCast_add]
      refine W_loopI (I := fun (k : Nat) s' => e ≤ k ∧ k ≤ s.length ∧ s'.tm 9 = .int .i64 k ∧ s'.tm 6 = .int .i64 e ∧ s'.tm 3 = .str s ∧ s'.tm 5 = .str (out ++ x) ∧ (s.drop k).dropWhile blankC = r.dropWhile blankC) (fun k => s.length - k) e (by simp [t3, ← hsuf]; omega) ?_
      rintro k tm hp nx ⟨hk0, hk, t9, t6, t3, t5, hdw⟩
      simp only at hk0 hk t9 t6 t3 t5 hdw
      have hfin : (∀ y, s[k]? = some y → blankC y = false) → r.dropWhile blankC = s.drop k := by
        intro hy
        rw [← hdw]
        by_cases hk1 : k < s.length
        · rw [List.drop_eq_getElem_cons hk1, List.dropWhile_cons_of_neg (by simp [hy s[k] (List.getElem?_eq_getElem hk1)])]
        · rw [List.drop_eq_nil_of_le (by omega)]; rfl
      have tail : (∀ y, s[k]? = some y → blankC y = false) → ∀ z, wordS (s.drop k) = z → True := fun _ _ _ => trivial
      by_cases hk1 : k < s.length
      · have hk1' : (k : Int) < s.length := by omega
        have hgk : s[k]? = some s[k] := List.getElem?_eq_getElem hk1
        have hwk : IntKind.wrap .i64 ((k : Int) + 1) = (k + 1 : Nat) := by rw [wrap_id] <;> omega
        simp [t9, t3, hk1', hgk, -Int.ofNat_lt]
        refine WCall_p (f36 s[k] _ _) ?_
        cases hbl : blankC s[k] with
        | true =>
          simp [t9, t3, t6, t5, hwk, -Int.natCast_add]
          refine ⟨k + 1, by omega, by omega, by omega, rfl, ?_⟩
          rw [← hdw, List.drop_eq_getElem_cons hk1, List.dropWhile_cons_of_pos hbl]
        | false =>
          have hf := hfin fun y hy => by rw [hgk] at hy; cases hy; exact hbl
          rw [hf] at hout
          simp [t9, t3]
          refine WCall_p (f35 s (by omega) k hk _ _) ?_
          cases hw2 : wordS (s.drop k) with
          | none =>
            rw [hw2] at hout
            simp [refA, t9, t3, t6, t5, -Prod.exists]
            refine ⟨(e, out ++ x), by simp only; omega, by simp only; omega, rfl, rfl, ?_, by simp only [List.length_append]; omega⟩
            rw [← hout, ← hsuf]; simp
          | some y =>
            obtain ⟨x2, r2⟩ := y
            rw [hw2] at hout
            have hnn : (0 : Int) ≤ ((s.length - r2.length : Nat) : Int) := by omega
            simp [refA, t9, t3, t6, t5, hnn, -Prod.exists]
            refine ⟨(k, out ++ x), by simp only; omega, by simp only; omega, rfl, rfl, ?_, by simp only [List.length_append]; omega⟩
            rw [← hout]; simp
      · have hk1' : ¬ (k : Int) < s.length := by omega
        have hgk : s[k]? = none := List.getElem?_eq_none (by omega)
        have hf := hfin fun y hy => by rw [hgk] at hy; cases hy
        rw [hf] at hout
        simp [t9, t3, hk1', -Int.ofNat_lt]
        refine WCall_p (f35 s (by omega) k hk _ _) ?_
        have hdn : s.drop k = [] := List.drop_eq_nil_of_le (by omega)
        rw [hdn] at hout ⊢
        rw [wordS_nil] at hout ⊢
        simp [refA, t9, t3, t6, t5, -Prod.exists]
        refine ⟨(e, out ++ x), by simp only; omega, by simp only; omega, rfl, rfl, ?_, by simp only [List.length_append]; omega⟩
        rw [← hout, ← hsuf]; simp
  · have : i = s.length := by omega
    subst this
    rw [List.drop_length, docR_nil, List.append_nil] at hout
    simp [t6, t3, t5, hout]

/-- Cut at 2000, added up. -/
theorem f6 (es : List (List UInt8)) (nil : Bool) (cap : Nat) (hnil : nil = true → es = []) (hp nx) :
    Ret E 6 [.rs nil 1 (es.map sC) (some cap)] hp nx (.v (.bool true)) hp nx .p := by
  refine Ret_pureQ e6 rfl (by simp; exact closedLL_sC es) ?_ hp nx
  have hz' : (nil = true ∨ 1 = 1) ∧ (nil = true → es.map sC = []) := ⟨.inr rfl, fun h => by rw [hnil h]; rfl⟩
  simp [c6]
  refine W_loopI (I := fun (q : Nat × Nat) s' => q.1 ≤ es.length ∧ q.1 ≤ 21 ∧ s'.tm 4 = .int .i64 q.1 ∧ s'.tm 0 = .rs nil 1 (es.map sC) (some cap) ∧ s'.tm 3 = .int .i64 q.2 ∧ q.2 ≤ 2000 * q.1 ∧ (q.2 ≤ 1500 → sumS (es.take q.1) = q.2)) (fun q => es.length - q.1) (0, 0) (by simp [sumS]) ?_
  rintro ⟨j, n⟩ tm hp nx ⟨hj, hj2, t4, t0, t3, hn, hs⟩
  simp only at hj hj2 t4 t0 t3 hn hs
  by_cases hlt : j < es.length
  · have hlt' : (j : Int) < es.length := by omega
    by_cases h20 : j ≤ 20
    · have h20' : (j : Int) ≤ 20 := by omega
      have hia : iaddrA 1 (.rs nil 1 (es.map sC) (some cap)) (.v (.int .i64 (j : Int))) = some (.rp [.str es[j]]) := iaddr_in hz' (get_sC hlt) rfl
      have hw : IntKind.wrap .i64 ((j : Int) + 1) = (j + 1 : Nat) := by rw [wrap_id] <;> omega
      have h6 := sumS_take hlt
      simp [t4, t0, t3, hlt', h20', hia, hw, -iaddrA_rs, -Int.ofNat_lt, -Int.natCast_add, -Prod.exists]
      have hw3 : IntKind.wrap .i64 ((n : Int) + min (es[j].length : Int) 2000) = (n + min es[j].length 2000 : Nat) := by rw [wrap_id] <;> omega
      rw [hw3]
      refine ⟨(j + 1, n + min es[j].length 2000), by simp only; omega, by simp only; omega, by simp only; omega, rfl, rfl, by simp only; omega, fun h => ?_⟩
      simp only at h ⊢
      rw [h6, hs (by omega)]; omega
    · have h20' : ¬ (j : Int) ≤ 20 := by omega
      have hbig : (20 : Int) < es.length := by omega
      simp [t4, t0, t3, hlt', h20', hbig, -Int.ofNat_lt]
      exact WCall_p (f9 _ _) (by simp)
  · have hje : j = es.length := by omega
    subst hje
    rw [List.take_length] at hs
    by_cases hbig : 20 < es.length
    · have hbig' : (20 : Int) < es.length := by omega
      simp [t4, t0, t3, hbig', -Int.ofNat_lt]
      exact WCall_p (f9 _ _) (by simp)
    · have hbig' : ¬ (20 : Int) < es.length := by omega
      by_cases hn2 : 1500 < n
      · have hn2' : (1500 : Int) < n := by omega
        simp [t4, t0, t3, hbig', hn2', -Int.ofNat_lt]
        exact WCall_p (f9 _ _) (by simp)
      · have hn2' : ¬ (1500 : Int) < n := by omega
        have hsum := hs (by omega)
        simp [t4, t0, t3, hbig', hn2', -Int.ofNat_lt]
        refine WCall_p (f21 es nil 1 (some cap) ⟨.inr rfl, hnil⟩ (by omega) (by omega) _ _) ?_
        simp [t0]
        refine WCall_p (f22 es nil 1 (some cap) ⟨.inr rfl, hnil⟩ (by omega) (by omega) _ _) ?_
        simp [words_doc]
        exact WCall_p (f9 _ _) (by simp)
end Go.Ai
