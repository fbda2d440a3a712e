/- Unquote, and the document's. -/
import Derived.Test.YtdhbiimmifedmaaH
namespace Go.Ai
set_option linter.unusedVariables false
set_option linter.unusedSimpArgs false

/-- What is read; some bytes are skipped first. -/
def unqS : List UInt8 → Nat → List UInt8
  | [], _ => []
  | _ :: r, k + 1 => unqS r k
  | a :: r, 0 => match escS (a :: r) with
    | some c => c :: unqS r 2
    | none => if [61, 13, 10].isPrefixOf (a :: r) then unqS r 2 else if [61, 10].isPrefixOf (a :: r) then unqS r 1 else a :: unqS r 0
theorem unqS_skip : ∀ (l : List UInt8) (k : Nat), unqS l k = unqS (l.drop k) 0
  | [], k => by cases k <;> simp [unqS]
  | a :: r, 0 => rfl
  | a :: r, k + 1 => by simp only [unqS, List.drop_succ_cons]; exact unqS_skip r k
theorem unqS_length : ∀ (l : List UInt8) (k : Nat), (unqS l k).length ≤ l.length
  | [], k => by simp [unqS]
  | a :: r, k + 1 => by have := unqS_length r k; simp only [unqS, List.length_cons]; omega
  | a :: r, 0 => by
    have h0 := unqS_length r 0
    have h1 := unqS_length r 1
    have h2 := unqS_length r 2
    simp only [unqS]
    split
    · simp only [List.length_cons]; omega
    · split
      · simp only [List.length_cons]; omega
      · split
        · simp only [List.length_cons]; omega
        · simp only [List.length_cons]; omega
theorem unqS_step {l : List UInt8} (hl : l ≠ []) : unqS l 0 = match escS l with
    | some c => c :: unqS (l.drop 3) 0
    | none => if [61, 13, 10].isPrefixOf l then unqS (l.drop 3) 0 else if [61, 10].isPrefixOf l then unqS (l.drop 2) 0 else l.head hl :: unqS (l.drop 1) 0 := by
  match l, hl with
  | a :: r, _ =>
    simp only [unqS, List.drop_succ_cons, List.drop_zero, List.head_cons]
    rw [unqS_skip r 2, unqS_skip r 1]
theorem escS_len {l : List UInt8} {c : UInt8} (h : escS l = some c) : 3 ≤ l.length := by
  match l, h with
  | _ :: _ :: _ :: _, _ => simp
theorem pre_len {p l : List UInt8} (h : p.isPrefixOf l = true) : p.length ≤ l.length := (List.isPrefixOf_iff_prefix.1 h).length_le

theorem head_get : ∀ (l : List UInt8) (h : l ≠ []), l[0]? = some (l.head h)
  | [], h => absurd rfl h
  | a :: r, _ => rfl
theorem f15 (s : List UInt8) (hs : s.length ≤ 100000) (hp nx) : Ret E 15 [.str s] hp nx (.str (unqS s 0)) hp nx .p := by
  refine Ret_pureQ e15 rfl (by simp) ?_ hp nx
  simp [c15]
  have hsl := unqS_length s 0
  refine W_loopI (I := fun (q : Nat × List UInt8) s' => q.1 ≤ s.length ∧ s'.tm 0 = .str (s.drop q.1) ∧ OwnS s'.hp s'.nx 1 (bytesOf q.2) (s'.tm 3) ∧ q.2 ++ unqS (s.drop q.1) 0 = unqS s 0) (fun q => s.length - q.1) (0, []) (by simp; exact OwnS.nil) ?_
  rintro ⟨i, out⟩ tm hp nx ⟨hj, t0, t3, hout⟩
  simp only at hj t0 t3 hout
  have hol : out.length ≤ s.length := by have := congrArg List.length hout; rw [List.length_append] at this; omega
  by_cases hlt : i < s.length
  · have hne : s.drop i ≠ [] := by simp; omega
    have hst := unqS_step hne
    have hg : (s.drop i)[0]? = some ((s.drop i).head hne) := head_get _ hne
    have hdl : (s.drop i).length = s.length - i := List.length_drop
    have hdd : ∀ k, (s.drop i).drop k = s.drop (i + k) := fun k => List.drop_drop
    have c26' := f26 (s.drop i) (by omega)
    have c27' := fun p => f27 (s.drop i) p
    have hstop : ∀ k, i + k ≤ s.length → sliceStr (.str (s.drop i)) (some (.v (.int .i64 ((k : Nat) : Int)))) none = some (.str (s.drop (i + k))) := by
      intro k hk
      rw [sliceStr_l, if_pos (by omega), Int.toNat_natCast, hdd]
    have hs1 : sliceStr (.str (s.drop i)) (some (.v (.int .i64 1))) none = some (.str (s.drop (i + 1))) := hstop 1 (by omega)
    have hs2 := hstop 2
    have hs3 := hstop 3
    rw [hdd, hdd, hdd] at hst
    generalize hD : s.drop i = D at *
    simp [t0, hne]
    refine WCall_p (c26' _ _) ?_
    cases he : escS D with
    | some c =>
      have h3 := escS_len he
      rw [he] at hst
      have hs3' : sliceStr (.str D) (some (.v (.int .i64 3))) none = some (.str (s.drop (i + 3))) := hs3 (by omega)
      simp [escA, t0, -sliceStr_l]
      refine mvE_byte (c := c) rfl t3 (by omega) fun hp3 w1 w2 => ?_
      simp [t0, hs3', -sliceStr_l, -Prod.exists]
      refine ⟨(i + 3, out ++ [c]), ?_⟩
      simp only
      refine ⟨by omega, by omega, trivial, by simpa using w1, ?_⟩
      rw [← hout, hst]; simp
    | none =>
      rw [he] at hst
      simp [escA, t0]
      refine WCall_p (c27' _ _ _) ?_
      by_cases h1 : [61, 13, 10].isPrefixOf D = true
      · have h3 := pre_len h1
        simp only [List.length_cons, List.length_nil] at h3
        have hs3' : sliceStr (.str D) (some (.v (.int .i64 3))) none = some (.str (s.drop (i + 3))) := hs3 (by omega)
        simp only [h1, if_true] at hst
        rw [h1]
        simp [t0, hs3', -sliceStr_l, -Prod.exists]
        refine ⟨(i + 3, out), ?_⟩
        simp only
        exact ⟨by omega, by omega, trivial, t3, by rw [← hout, hst]⟩
      · rw [Bool.not_eq_true] at h1
        rw [h1]
        simp [t0]
        refine WCall_p (c27' _ _ _) ?_
        simp only [h1] at hst
        by_cases h2 : [61, 10].isPrefixOf D = true
        · have h3 := pre_len h2
          simp only [List.length_cons, List.length_nil] at h3
          have hs2' : sliceStr (.str D) (some (.v (.int .i64 2))) none = some (.str (s.drop (i + 2))) := hs2 (by omega)
          simp only [h2, if_true] at hst
          rw [h2]
          simp [t0, hs2', -sliceStr_l, -Prod.exists]
          refine ⟨(i + 2, out), ?_⟩
          simp only
          exact ⟨by omega, by omega, trivial, t3, by rw [← hout, hst]; simp⟩
        · rw [Bool.not_eq_true] at h2
          rw [h2]
          simp only [h2] at hst
          simp [t0, hg]
          refine mvE_byte (c := D.head hne) rfl t3 (by omega) fun hp3 w1 w2 => ?_
          simp [t0, hs1, -sliceStr_l, -Prod.exists]
          refine ⟨(i + 1, out ++ [D.head hne]), ?_⟩
          simp only
          refine ⟨by omega, by omega, trivial, by simpa using w1, ?_⟩
          rw [← hout, hst]; simp
  · have hd : s.drop i = [] := List.drop_eq_nil_of_le (by omega)
    rw [hd] at t0 hout
    simp [t0]
    refine t3.b2s fun kd => ?_
    simpa [unqS] using hout

theorem pre2 {a b : UInt8} {l : List UInt8} {i : Nat} : [a, b].isPrefixOf (l.drop i) = (decide (l[i]? = some a) && decide (l[i + 1]? = some b)) := by
  have h0 : (l.drop i)[0]? = l[i]? := by simp
  have h1 : (l.drop i)[1]? = l[i + 1]? := by simp
  rw [← h0, ← h1]
  match l.drop i with
  | [] => rfl
  | [x] => simp [List.isPrefixOf]
  | x :: y :: r => rw [Bool.eq_iff_iff]; simp [List.isPrefixOf]; constructor <;> (rintro ⟨rfl, rfl⟩; exact ⟨rfl, rfl⟩)
theorem pre3 {a b c : UInt8} {l : List UInt8} {i : Nat} : [a, b, c].isPrefixOf (l.drop i) = (decide (l[i]? = some a) && decide (l[i + 1]? = some b) && decide (l[i + 2]? = some c)) := by
  have h0 : (l.drop i)[0]? = l[i]? := by simp
  have h1 : (l.drop i)[1]? = l[i + 1]? := by simp
  have h2 : (l.drop i)[2]? = l[i + 2]? := by simp
  rw [← h0, ← h1, ← h2]
  match l.drop i with
  | [] => rfl
  | [x] => simp [List.isPrefixOf]
  | [x, y] => simp [List.isPrefixOf]
  | x :: y :: z :: r => rw [Bool.eq_iff_iff]; simp [List.isPrefixOf]; constructor <;> (first | (rintro ⟨rfl, rfl, rfl⟩; exact ⟨⟨rfl, rfl⟩, rfl⟩) | (rintro ⟨⟨rfl, rfl⟩, rfl⟩; exact ⟨rfl, rfl, rfl⟩))
theorem u8_ne {c : UInt8} {n : Nat} (hn : n < 256) (h : ¬ c = UInt8.ofNat n) : ¬ (c.toNat : Int) = n := by
  intro e; apply h; apply UInt8.toNat_inj.1; simp; omega
theorem f16 (s : List UInt8) (hs : s.length ≤ 100000) (hp nx) : Ret E 16 [.str s] hp nx (.str (unqS s 0)) hp nx .p := by
  refine Ret_pureQ e16 rfl (by simp) ?_ hp nx
  simp [c16]
  have hsl := unqS_length s 0
  refine W_loopI (I := fun (q : Nat × List UInt8) s' => q.1 ≤ s.length ∧ s'.tm 4 = .int .i64 q.1 ∧ s'.tm 0 = .str s ∧ s'.tm 3 = .str q.2 ∧ q.2 ++ unqS (s.drop q.1) 0 = unqS s 0) (fun q => s.length - q.1) (0, []) (by simp) ?_
  rintro ⟨i, out⟩ tm hp nx ⟨hj, t4, t0, t3, hout⟩
  simp only at hj t4 t0 t3 hout
  have hol : out.length ≤ s.length := by have := congrArg List.length hout; rw [List.length_append] at this; omega
  by_cases hlt : i < s.length
  · have hlt' : (i : Int) < s.length := by omega
    have hg : s[i]? = some s[i] := List.getElem?_eq_getElem hlt
    have hne : s.drop i ≠ [] := by simp; omega
    have hst := unqS_step hne
    have hhd : (s.drop i).head hne = s[i] := by simp
    have hdd : ∀ k, (s.drop i).drop k = s.drop (i + k) := fun k => List.drop_drop
    rw [hdd, hdd, hdd, hhd] at hst
    have hw1 : IntKind.wrap .i64 ((i : Int) + 1) = (i + 1 : Nat) := by rw [wrap_id] <;> omega
    have hw2 : IntKind.wrap .i64 ((i : Int) + 2) = (i + 2 : Nat) := by rw [wrap_id] <;> omega
    have hw21 : IntKind.wrap .i64 ((i + 2 : Nat) + 1 : Int) = (i + 3 : Nat) := by rw [wrap_id] <;> omega
    have hw11 : IntKind.wrap .i64 ((i + 1 : Nat) + 1 : Int) = (i + 2 : Nat) := by rw [wrap_id] <;> omega
    simp [t4, t0, hlt', -Int.ofNat_lt]
    refine WCall_p (f28 s hs i hlt _ _) ?_
    cases he : escS (s.drop i) with
    | some c =>
      have h3 := escS_len he
      rw [List.length_drop] at h3
      have hg1 : s[i + 1]? = some s[i + 1] := List.getElem?_eq_getElem (by omega)
      have hg2 : s[i + 2]? = some s[i + 2] := List.getElem?_eq_getElem (by omega)
      rw [he] at hst
      have hd : s.drop i = s[i] :: s[i + 1] :: s[i + 2] :: s.drop (i + 3) := by
        rw [List.drop_eq_getElem_cons hlt, List.drop_eq_getElem_cons (show i + 1 < s.length by omega), List.drop_eq_getElem_cons (show i + 2 < s.length by omega)]
      have he2 : (if s[i] = 61 ∧ 0 ≤ hexS s[i + 1] ∧ 0 ≤ hexS s[i + 2] then some (UInt8.ofNat ((hexS s[i + 1]).toNat * 16 + (hexS s[i + 2]).toNat)) else none) = some c := by rw [← he, hd]; rfl
      split at he2
      · rename_i hh
        simp only [Option.some.injEq] at he2
        have hb16 := hexS_lt s[i + 1]
        have hc16 := hexS_lt s[i + 2]
        simp [t4, t0, t3, hw1, hg1, -Int.natCast_add]
        refine WCall_p (f29 _ _ _) ?_
        simp [t4, t0, t3, hw2, hg2, -Int.natCast_add]
        refine WCall_p (f29 _ _ _) ?_
        obtain ⟨p, hp⟩ : ∃ p : Nat, hexS s[i + 1] = p := ⟨(hexS s[i + 1]).toNat, by omega⟩
        obtain ⟨q, hq⟩ : ∃ q : Nat, hexS s[i + 2] = q := ⟨(hexS s[i + 2]).toNat, by omega⟩
        rw [hp, hq, Int.toNat_natCast, Int.toNat_natCast] at he2
        have hwm : IntKind.wrap .i64 (16 * (p : Int)) = (p * 16 : Nat) := by rw [wrap_id] <;> omega
        have hwa : IntKind.wrap .i64 ((p * 16 : Nat) + (q : Int)) = (p * 16 + q : Nat) := by rw [wrap_id] <;> omega
        have htb : toBytes [[.v (.int .u8 (c.toNat : Int))]] = some [c] := toBytes_bytesOf [c]
        have hwu : IntKind.wrap .u8 ((p * 16 + q : Nat) : Int) = c.toNat := by rw [wrap_u8, he2]
        have hcat : strA .add out [c] = some (.str (out ++ [c])) := strA_cat (by simp only [List.length_cons, List.length_nil]; omega)
        simp [t4, t0, t3, hp, hq, hwm, hwa, hwu, hcat, hw2, hw21, -toBytes_one, htb, -strA_add, -Int.natCast_add, -Int.natCast_mul, -Prod.exists]
        refine ⟨(i + 3, out ++ [c]), ?_⟩
        simp only
        exact ⟨by omega, by omega, trivial, trivial, by rw [← hout, hst]; simp⟩
      · cases he2
    | none =>
      rw [he] at hst
      simp only [pre2, pre3, hg] at hst
      have hcat : strA .add out [s[i]] = some (.str (out ++ [s[i]])) := strA_cat (by simp only [List.length_cons, List.length_nil]; omega)
      have hcut : sliceStr (.str s) (some (.v (.int .i64 (i : Int)))) (some (.v (.int .i64 ((i + 1 : Nat) : Int)))) = some (.str [s[i]]) := by
        rw [sliceStr_lh, if_pos (by omega), Int.toNat_natCast, Int.toNat_natCast, List.take_add_one, hg, List.drop_append_of_le_length (by simp; omega)]
        simp
      have hlast : s[i] :: unqS (s.drop (i + 1)) 0 = unqS (s.drop i) 0 → ∃ q : Nat × List UInt8, s.length - q.1 < s.length - i ∧ q.1 ≤ s.length ∧ ((i + 1 : Nat) : Int) = (q.1 : Int) ∧ out ++ [s[i]] = q.2 ∧ q.2 ++ unqS (s.drop q.1) 0 = unqS s 0 :=
        fun h => ⟨(i + 1, out ++ [s[i]]), by simp only; omega, by simp only; omega, rfl, rfl, by rw [← hout, ← h]; simp⟩
      by_cases h1 : s[i] = 61
      · have h1' : (s[i].toNat : Int) = 61 := by rw [h1]; rfl
        by_cases hb : i + 1 < s.length
        · have hb' : ((i + 1 : Nat) : Int) < s.length := by omega
          have hg1 : s[i + 1]? = some s[i + 1] := List.getElem?_eq_getElem hb
          by_cases h2 : s[i + 1] = 10
          · have h2' : (s[i + 1].toNat : Int) = 10 := by rw [h2]; rfl
            simp [hg1, h1, h2] at hst
            simp [t4, t0, t3, hg, h1', hw1, hb', hg1, h2', hw11, -Int.natCast_add, -Prod.exists, -Int.ofNat_lt]
            exact ⟨(i + 2, out), by simp only; omega, by simp only; omega, rfl, rfl, by rw [← hout, hst]⟩
          · have h2' : ¬ (s[i + 1].toNat : Int) = 10 := u8_ne (n := 10) (by omega) h2
            by_cases hc : i + 2 < s.length
            · have hc' : ((i + 2 : Nat) : Int) < s.length := by omega
              have hg2 : s[i + 2]? = some s[i + 2] := List.getElem?_eq_getElem hc
              by_cases h3 : s[i + 1] = 13
              · have h3' : (s[i + 1].toNat : Int) = 13 := by rw [h3]; rfl
                by_cases h4 : s[i + 2] = 10
                · have h4' : (s[i + 2].toNat : Int) = 10 := by rw [h4]; rfl
                  simp [hg1, hg2, h1, h3, h4] at hst
                  simp [t4, t0, t3, hg, h1', hw1, hb', hg1, h2', hc', hw2, hg2, h3', h4', hw21, -Int.natCast_add, -Prod.exists, -Int.ofNat_lt]
                  exact ⟨(i + 3, out), by simp only; omega, by simp only; omega, rfl, rfl, by rw [← hout, hst]⟩
                · have h4' : ¬ (s[i + 2].toNat : Int) = 10 := u8_ne (n := 10) (by omega) h4
                  simp [hg1, hg2, h1, h3, h4] at hst
                  simp [t4, t0, t3, hg, h1', hw1, hb', hg1, h2', hc', hw2, hg2, h3', h4', hcut, hcat, -strA_add, -sliceStr_lh, -Int.natCast_add, -Prod.exists, -Int.ofNat_lt]
                  exact hlast (by rw [hst, h1])
              · have h3' : ¬ (s[i + 1].toNat : Int) = 13 := u8_ne (n := 13) (by omega) h3
                simp [hg1, hg2, h1, h2, h3] at hst
                simp [t4, t0, t3, hg, h1', hw1, hb', hg1, h2', hc', hw2, hg2, h3', hcut, hcat, -strA_add, -sliceStr_lh, -Int.natCast_add, -Prod.exists, -Int.ofNat_lt]
                exact hlast (by rw [hst, h1])
            · have hc' : ¬ ((i + 2 : Nat) : Int) < s.length := by omega
              have hg2 : s[i + 2]? = none := List.getElem?_eq_none (by omega)
              simp [hg1, hg2, h1, h2] at hst
              simp [t4, t0, t3, hg, h1', hw1, hb', hg1, h2', hc', hw2, hcut, hcat, -strA_add, -sliceStr_lh, -Int.natCast_add, -Prod.exists, -Int.ofNat_lt]
              exact hlast (by rw [hst, h1])
        · have hb' : ¬ ((i + 1 : Nat) : Int) < s.length := by omega
          have hc' : ¬ ((i + 2 : Nat) : Int) < s.length := by omega
          have hg1 : s[i + 1]? = none := List.getElem?_eq_none (by omega)
          simp [hg1, h1] at hst
          simp [t4, t0, t3, hg, h1', hw1, hb', hc', hw2, hcut, hcat, -strA_add, -sliceStr_lh, -Int.natCast_add, -Prod.exists, -Int.ofNat_lt]
          exact hlast (by rw [hst, h1])
      · have h1' : ¬ (s[i].toNat : Int) = 61 := u8_ne (n := 61) (by omega) h1
        simp [h1] at hst
        simp [t4, t0, t3, hg, h1', hw1, hcut, hcat, -strA_add, -sliceStr_lh, -Int.natCast_add, -Prod.exists, -Int.ofNat_lt]
        exact hlast (by rw [hst])
  · have hlt' : ¬ (i : Int) < s.length := by omega
    have hd : s.drop i = [] := List.drop_eq_nil_of_le (by omega)
    rw [hd] at hout
    simp [t4, t0, t3, hlt', -Int.ofNat_lt]
    simpa [unqS] using hout
end Go.Ai
