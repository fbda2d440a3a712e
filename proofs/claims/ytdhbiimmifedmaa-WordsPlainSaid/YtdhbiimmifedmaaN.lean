/- Blanks, letters that can be seen, up to a byte, the text of an encoded word. -/
import Derived.Test.YtdhbiimmifedmaaM
namespace Go.Ai
set_option linter.unusedVariables false
set_option linter.unusedSimpArgs false

def blankC (c : UInt8) : Bool := decide (c = 32) || decide (c = 9) || decide (c = 13) || decide (c = 10)
theorem eq_u8 {c : UInt8} {n : Nat} (hn : n < 256) : ((c.toNat : Int) = (n : Int)) = (c = UInt8.ofNat n) := by
  apply propext
  constructor
  · intro h; apply UInt8.toNat_inj.1; simp; omega
  · rintro rfl; simp; omega
theorem f34 (c : UInt8) (hp nx) : Ret E 34 [.v (.int .u8 c.toNat)] hp nx (.v (.bool (blankC c))) hp nx .p := by
  refine Ret_pureQ e34 rfl (by simp) ?_ hp nx
  have e1 : ((c.toNat : Int) = 32) = (c = 32) := eq_u8 (n := 32) (by omega)
  have e2 : ((c.toNat : Int) = 9) = (c = 9) := eq_u8 (n := 9) (by omega)
  have e3 : ((c.toNat : Int) = 13) = (c = 13) := eq_u8 (n := 13) (by omega)
  have e4 : ((c.toNat : Int) = 10) = (c = 10) := eq_u8 (n := 10) (by omega)
  by_cases h1 : c = 32
  · simp [c34, e1, h1, blankC]
  · by_cases h2 : c = 9
    · simp [c34, e1, e2, h1, h2, blankC]
    · by_cases h3 : c = 13
      · simp [c34, e1, e2, e3, h1, h2, h3, blankC]
      · simp [c34, e1, e2, e3, e4, h1, h2, h3, blankC]
theorem f36 (c : UInt8) (hp nx) : Ret E 36 [.v (.int .u8 c.toNat)] hp nx (.v (.bool (blankC c))) hp nx .p := by
  refine Ret_pureQ e36 rfl (by simp) ?_ hp nx
  have e1 : ((c.toNat : Int) = 32) = (c = 32) := eq_u8 (n := 32) (by omega)
  have e2 : ((c.toNat : Int) = 9) = (c = 9) := eq_u8 (n := 9) (by omega)
  have e3 : ((c.toNat : Int) = 13) = (c = 13) := eq_u8 (n := 13) (by omega)
  have e4 : ((c.toNat : Int) = 10) = (c = 10) := eq_u8 (n := 10) (by omega)
  by_cases h1 : c = 9
  · simp [c36, e2, h1, blankC]
  · by_cases h2 : c = 10
    · simp [c36, e2, e4, h1, h2, blankC]
    · by_cases h3 : c = 13
      · simp [c36, e2, e4, e3, h1, h2, h3, blankC]
      · simp [c36, e1, e2, e3, e4, h1, h2, h3, blankC]

def seenC (c : UInt8) : Bool := decide (33 ≤ c.toNat) && decide (c.toNat ≤ 126)
def graphS (s : List UInt8) : Bool := s.all seenC
theorem f45 (s : List UInt8) (hs : s.length ≤ 100000) (hp nx) : Ret E 45 [.str s] hp nx (.v (.bool (graphS s))) hp nx .p := by
  refine Ret_pureQ e45 rfl (by simp) ?_ hp nx
  simp [c45]
  refine W_loopI (I := fun (j : Nat) s' => j ≤ s.length ∧ s'.tm 6 = .int .i64 j ∧ s'.tm 5 = .int .i64 s.length ∧ s'.tm 0 = .str s ∧ graphS s = graphS (s.drop j)) (fun j => s.length - j) 0 (by simp) ?_
  rintro j tm hp nx ⟨hj, t6, t5, t0, hg⟩
  simp only at hj t6 t5 t0 hg
  by_cases hlt : j < s.length
  · have hlt' : (j : Int) < s.length := by omega
    have hg0 : s[j]? = some s[j] := List.getElem?_eq_getElem hlt
    have hw : IntKind.wrap .i64 ((j : Int) + 1) = (j + 1 : Nat) := by rw [wrap_id] <;> omega
    rw [List.drop_eq_getElem_cons hlt] at hg
    simp only [graphS, List.all_cons] at hg
    by_cases h1 : s[j].toNat < 33
    · have h1' : (s[j].toNat : Int) < 33 := by omega
      have : seenC s[j] = false := by simp [seenC]; omega
      rw [this] at hg
      simp [t6, t5, t0, hlt', hg0, h1', -Int.ofNat_lt]
      exact hg
    · have h1' : ¬ (s[j].toNat : Int) < 33 := by omega
      by_cases h2 : 126 < s[j].toNat
      · have h2' : (126 : Int) < s[j].toNat := by omega
        have : seenC s[j] = false := by simp [seenC]; omega
        rw [this] at hg
        simp [t6, t5, t0, hlt', hg0, h1', h2', -Int.ofNat_lt]
        exact hg
      · have h2' : ¬ (126 : Int) < s[j].toNat := by omega
        have : seenC s[j] = true := by simp [seenC]; omega
        rw [this, Bool.true_and] at hg
        simp [t6, t5, t0, hlt', hg0, h1', h2', hw, -Int.ofNat_lt, -Int.natCast_add]
        exact ⟨j + 1, by omega, by omega, rfl, hg⟩
  · have : j = s.length := by omega
    subst this
    rw [List.drop_length] at hg
    have hg' : graphS s = true := hg
    simp [t6, t5, hg']
theorem f48 (s : List UInt8) (hs : s.length ≤ 100000) (hp nx) : Ret E 48 [.str s] hp nx (.v (.bool (graphS s))) hp nx .p := by
  refine Ret_pureQ e48 rfl (by simp) ?_ hp nx
  simp [c48]
  refine W_loopI (I := fun (j : Nat) s' => j ≤ s.length ∧ s'.tm 3 = .int .i64 j ∧ s'.tm 0 = .str s ∧ graphS s = graphS (s.drop j)) (fun j => s.length - j) 0 (by simp) ?_
  rintro j tm hp nx ⟨hj, t6, t0, hg⟩
  simp only at hj t6 t0 hg
  by_cases hlt : j < s.length
  · have hlt' : (j : Int) < s.length := by omega
    have hg0 : s[j]? = some s[j] := List.getElem?_eq_getElem hlt
    have hw : IntKind.wrap .i64 ((j : Int) + 1) = (j + 1 : Nat) := by rw [wrap_id] <;> omega
    rw [List.drop_eq_getElem_cons hlt] at hg
    simp only [graphS, List.all_cons] at hg
    by_cases h1 : s[j].toNat < 33
    · have h1' : (s[j].toNat : Int) < 33 := by omega
      have : seenC s[j] = false := by simp [seenC]; omega
      rw [this] at hg
      simp [t6, t0, hlt', hg0, h1', -Int.ofNat_lt]
      exact hg
    · have h1' : ¬ (s[j].toNat : Int) < 33 := by omega
      by_cases h2 : 126 < s[j].toNat
      · have h2' : (126 : Int) < s[j].toNat := by omega
        have : seenC s[j] = false := by simp [seenC]; omega
        rw [this] at hg
        simp [t6, t0, hlt', hg0, h1', h2', -Int.ofNat_lt]
        exact hg
      · have h2' : ¬ (126 : Int) < s[j].toNat := by omega
        have : seenC s[j] = true := by simp [seenC]; omega
        rw [this, Bool.true_and] at hg
        simp [t6, t0, hlt', hg0, h1', h2', hw, -Int.ofNat_lt, -Int.natCast_add]
        exact ⟨j + 1, by omega, by omega, rfl, hg⟩
  · have : j = s.length := by omega
    subst this
    rw [List.drop_length] at hg
    have hg' : graphS s = true := hg
    simp [t6, t0, hg']

/-- Up to a byte, which goes too. -/
def takeS (c : UInt8) (l : List UInt8) : Option (List UInt8 × List UInt8) := if Lib.indexByte l c < 0 then none else some (l.take (Lib.indexByte l c).toNat, l.drop ((Lib.indexByte l c).toNat + 1))
def takA : Option (List UInt8 × List UInt8) → AV
  | none => .tup [.str [], .v (.bool false)]
  | some (a, _) => .tup [.str a, .v (.bool true)]
def takH (hp : Heap) (r : Nat) : Option (List UInt8 × List UInt8) → Heap
  | none => hp
  | some (_, b) => hupd hp r (some [[.str b]])
theorem f44 (c : UInt8) (l : List UInt8) (hl : l.length ≤ 1000000) (hp : Heap) (nx r : Nat) (h : hp r = some [[.str l]]) :
    Ret E 44 [.ptr r 0 0, .v (.int .u8 c.toNat)] hp nx (takA (takeS c l)) (takH hp r (takeS c l)) nx .e := by
  have main := (Ret_genE (P := fun v hp' nx' => v = takA (takeS c l) ∧ hp' = takH hp r (takeS c l) ∧ nx' = nx) e44 (args := [.ptr r 0 0, .v (.int .u8 c.toNat)]) rfl (hp := hp) (nx := nx) ?_)
  · obtain ⟨v, hp', nx', h1, rfl, rfl, rfl⟩ := main
    exact h1
  simp [c44, h]
  refine WCall_p (f23 _ _ _ _) ?_
  have hu : (c.toNat : Int).toNat.toUInt8 = c := by simp
  rw [hu]
  have hlt := idx_lt c l
  by_cases hneg : Lib.indexByte l c < 0
  · simp [hneg, takeS, takA, takH]
  · obtain ⟨i, hi⟩ : ∃ i : Nat, Lib.indexByte l c = i := ⟨(Lib.indexByte l c).toNat, by omega⟩
    have hts : takeS c l = some (l.take i, l.drop (i + 1)) := by rw [takeS, if_neg hneg, hi]; rfl
    rw [hi] at hlt hneg
    have hw : IntKind.wrap .i64 ((i : Int) + 1) = (i + 1 : Nat) := by rw [wrap_id] <;> omega
    have hc1 : sliceStr (.str l) none (some (.v (.int .i64 (i : Int)))) = some (.str (l.take i)) := by rw [sliceStr_h, if_pos (by omega), Int.toNat_natCast]
    have hc2 : sliceStr (.str l) (some (.v (.int .i64 ((i + 1 : Nat) : Int)))) none = some (.str (l.drop (i + 1))) := by rw [sliceStr_l, if_pos (by omega), Int.toNat_natCast]
    simp [hi, hneg, h, hw, hc1, hc2, hts, takA, takH, spliceL, -sliceStr_l, -sliceStr_h, -Int.natCast_add]

/-- What a text says. -/
def qS : List UInt8 → Nat → List UInt8
  | [], _ => []
  | _ :: r, k + 1 => qS r k
  | a :: r, 0 => match escS (a :: r) with
    | some c => c :: qS r 2
    | none => (if a = 95 then 32 else a) :: qS r 0
theorem qS_skip : ∀ (l : List UInt8) (k : Nat), qS l k = qS (l.drop k) 0
  | [], k => by cases k <;> simp [qS]
  | a :: r, 0 => rfl
  | a :: r, k + 1 => by simp only [qS, List.drop_succ_cons]; exact qS_skip r k
theorem qS_length : ∀ (l : List UInt8) (k : Nat), (qS l k).length ≤ l.length
  | [], k => by simp [qS]
  | a :: r, k + 1 => by have := qS_length r k; simp only [qS, List.length_cons]; omega
  | a :: r, 0 => by
    have h0 := qS_length r 0
    have h2 := qS_length r 2
    simp only [qS]
    split
    · simp only [List.length_cons]; omega
    · simp only [List.length_cons]; omega
theorem qS_step {l : List UInt8} (hl : l ≠ []) : qS l 0 = match escS l with
    | some c => c :: qS (l.drop 3) 0
    | none => (if l.head hl = 95 then 32 else l.head hl) :: qS (l.drop 1) 0 := by
  match l, hl with
  | a :: r, _ =>
    simp only [qS, List.drop_succ_cons, List.drop_zero, List.head_cons]
    rw [qS_skip r 2]
    cases escS (a :: r) <;> rfl

/-- The place of a byte from another place on; -1: there is none. -/
def untS (s : List UInt8) (i : Nat) (c : UInt8) : Int := if Lib.indexByte (s.drop i) c < 0 then -1 else Lib.indexByte (s.drop i) c + i
theorem f47 (s : List UInt8) (hs : s.length ≤ 100000) (i : Nat) (hi : i ≤ s.length) (c : UInt8) (hp nx) : Ret E 47 [.str s, .v (.int .i64 i), .v (.int .u8 c.toNat)] hp nx (.v (.int .i64 (untS s i c))) hp nx .p := by
  refine Ret_pureQ e47 rfl (by simp) ?_ hp nx
  simp [c47]
  refine W_loopI (I := fun (j : Nat) s' => i + j ≤ s.length ∧ s'.tm 7 = .int .i64 (i + j : Nat) ∧ s'.tm 0 = .str s ∧ s'.tm 2 = .v (.int .u8 c.toNat) ∧ ∀ y ∈ (s.drop i).take j, y ≠ c) (fun j => s.length - j) 0 (by simp; omega) ?_
  rintro j tm hp nx ⟨hj, t7, t0, t2, hno⟩
  simp only at hj t7 t0 t2
  have hsk := idx_skip c (s.drop i) j (by simp; omega) hno
  rw [List.drop_drop] at hsk
  by_cases hlt : i + j < s.length
  · have hlt' : ((i + j : Nat) : Int) < s.length := by omega
    have hg0 : s[i + j]? = some s[i + j] := List.getElem?_eq_getElem hlt
    have hw : IntKind.wrap .i64 (((i + j : Nat) : Int) + 1) = (i + (j + 1) : Nat) := by rw [wrap_id] <;> omega
    rw [List.drop_eq_getElem_cons hlt] at hsk
    by_cases he : s[i + j] = c
    · simp only [Lib.indexByte, he, beq_self_eq_true, if_true] at hsk
      have hu : untS s i c = (i + j : Nat) := by
        rw [untS, hsk]; simp; omega
      simp [t7, t0, t2, hlt', hg0, he, hu, -Int.ofNat_lt, -Int.natCast_add]
    · have he' : ¬ s[i + j].toNat = c.toNat := fun h => he (UInt8.toNat_inj.1 h)
      have he2 : ¬ (s[i + j].toNat : Int) = c.toNat := by omega
      simp [t7, t0, t2, hlt', hg0, he2, hw, -Int.ofNat_lt, -Int.natCast_add]
      refine ⟨j + 1, by omega, by omega, rfl, fun y hy => ?_⟩
      rw [List.take_add_one] at hy
      rcases List.mem_append.1 hy with h | h
      · exact hno y h
      · have : (s.drop i)[j]? = some s[i + j] := by rw [List.getElem?_drop, hg0]
        rw [this] at h; simp at h; subst h; exact he
  · have hd : s.drop (i + j) = [] := List.drop_eq_nil_of_le (by omega)
    rw [hd] at hsk
    have hlt' : ¬ ((i + j : Nat) : Int) < s.length := by omega
    have hu : untS s i c = -1 := by
      rw [untS, hsk]; rfl
    simp [t7, t0, t2, hlt', hu, -Int.ofNat_lt, -Int.natCast_add]

theorem f49 (s : List UInt8) (hs : s.length ≤ 100000) (hp nx) : Ret E 49 [.str s] hp nx (.str (qS s 0)) hp nx .p := by
  refine Ret_pureQ e49 rfl (by simp) ?_ hp nx
  simp [c49]
  have hsl := qS_length s 0
  refine W_loopI (I := fun (q : Nat × List UInt8) s' => q.1 ≤ s.length ∧ s'.tm 4 = .int .i64 q.1 ∧ s'.tm 0 = .str s ∧ s'.tm 3 = .str q.2 ∧ q.2 ++ qS (s.drop q.1) 0 = qS s 0) (fun q => s.length - q.1) (0, []) (by simp) ?_
  rintro ⟨i, out⟩ tm hp nx ⟨hj, t4, t0, t3, hout⟩
  simp only at hj t4 t0 t3 hout
  have hol : out.length ≤ s.length := by have := congrArg List.length hout; rw [List.length_append] at this; omega
  by_cases hlt : i < s.length
  · have hlt' : (i : Int) < s.length := by omega
    have hg : s[i]? = some s[i] := List.getElem?_eq_getElem hlt
    have hne : s.drop i ≠ [] := by simp; omega
    have hst := qS_step hne
    have hhd : (s.drop i).head hne = s[i] := by simp
    have hdd : ∀ k, (s.drop i).drop k = s.drop (i + k) := fun k => List.drop_drop
    rw [hdd, hdd, hhd] at hst
    have hw1 : IntKind.wrap .i64 ((i : Int) + 1) = (i + 1 : Nat) := by rw [wrap_id] <;> omega
    have hw2 : IntKind.wrap .i64 ((i : Int) + 2) = (i + 2 : Nat) := by rw [wrap_id] <;> omega
    have hw21 : IntKind.wrap .i64 ((i + 2 : Nat) + 1 : Int) = (i + 3 : Nat) := by rw [wrap_id] <;> omega
    simp [t4, t0, hlt', -Int.ofNat_lt]
    refine WCall_p (f28 s hs i hlt _ _) ?_
    cases he : escS (s.drop i) with
    | some c =>
      have h3 := escS_len he
      rw [List.length_drop] at h3
      have hg1 : s[i + 1]? = some s[i + 1] := List.getElem?_eq_getElem (by omega)
      have hg2 : s[i + 2]? = some s[i + 2] := List.getElem?_eq_getElem (by omega)
      rw [he] at hst
      have hd : s.drop i = s[i] :: s[i + 1] :: s[i + 2] :: s.drop (i + 3) := by
        rw [List.drop_eq_getElem_cons hlt, List.drop_eq_getElem_cons (show i + 1 < s.length by omega), List.drop_eq_getElem_cons (show i + 2 < s.length by omega)]
      have he2 : (if s[i] = 61 ∧ 0 ≤ hexS s[i + 1] ∧ 0 ≤ hexS s[i + 2] then some (UInt8.ofNat ((hexS s[i + 1]).toNat * 16 + (hexS s[i + 2]).toNat)) else none) = some c := by rw [← he, hd]; rfl
      split at he2
      · rename_i hh
        simp only [Option.some.injEq] at he2
        have hb16 := hexS_lt s[i + 1]
        have hc16 := hexS_lt s[i + 2]
        simp [t4, t0, t3, hw1, hg1, -Int.natCast_add]
        refine WCall_p (f29 _ _ _) ?_
        simp [t4, t0, t3, hw2, hg2, -Int.natCast_add]
        refine WCall_p (f29 _ _ _) ?_
        obtain ⟨p, hp⟩ : ∃ p : Nat, hexS s[i + 1] = p := ⟨(hexS s[i + 1]).toNat, by omega⟩
        obtain ⟨q, hq⟩ : ∃ q : Nat, hexS s[i + 2] = q := ⟨(hexS s[i + 2]).toNat, by omega⟩
        rw [hp, hq, Int.toNat_natCast, Int.toNat_natCast] at he2
        have hwm : IntKind.wrap .i64 (16 * (p : Int)) = (p * 16 : Nat) := by rw [wrap_id] <;> omega
        have hwa : IntKind.wrap .i64 ((p * 16 : Nat) + (q : Int)) = (p * 16 + q : Nat) := by rw [wrap_id] <;> omega
        have htb : toBytes [[.v (.int .u8 (c.toNat : Int))]] = some [c] := toBytes_bytesOf [c]
        have hwu : IntKind.wrap .u8 ((p * 16 + q : Nat) : Int) = c.toNat := by rw [wrap_u8, he2]
        have hcat : strA .add out [c] = some (.str (out ++ [c])) := strA_cat (by simp only [List.length_cons, List.length_nil]; omega)
        simp [t4, t0, t3, hp, hq, hwm, hwa, hwu, hcat, hw2, hw21, -toBytes_one, htb, -strA_add, -Int.natCast_add, -Int.natCast_mul, -Prod.exists]
        refine ⟨(i + 3, out ++ [c]), ?_⟩
        simp only
        exact ⟨by omega, by omega, trivial, trivial, by rw [← hout, hst]; simp⟩
      · cases he2
    | none =>
      rw [he] at hst
      have hcat : strA .add out [s[i]] = some (.str (out ++ [s[i]])) := strA_cat (by simp only [List.length_cons, List.length_nil]; omega)
      have hcat2 : strA .add out [32] = some (.str (out ++ [32])) := strA_cat (by simp only [List.length_cons, List.length_nil]; omega)
      have hcut : sliceStr (.str s) (some (.v (.int .i64 (i : Int)))) (some (.v (.int .i64 ((i + 1 : Nat) : Int)))) = some (.str [s[i]]) := by
        rw [sliceStr_lh, if_pos (by omega), Int.toNat_natCast, Int.toNat_natCast, List.take_add_one, hg, List.drop_append_of_le_length (by simp; omega)]
        simp
      by_cases h1 : s[i] = 95
      · have h1' : (s[i].toNat : Int) = 95 := by rw [h1]; rfl
        rw [h1] at hst
        simp [t4, t0, t3, hg, h1', hw1, hcut, hcat2, -strA_add, -sliceStr_lh, -Int.natCast_add, -Prod.exists, -Int.ofNat_lt]
        refine ⟨(i + 1, out ++ [32]), ?_⟩
        simp only
        exact ⟨by omega, by omega, trivial, trivial, by rw [← hout, hst]; simp⟩
      · have h1' : ¬ (s[i].toNat : Int) = 95 := u8_ne (n := 95) (by omega) h1
        simp only [if_neg h1] at hst
        simp [t4, t0, t3, hg, h1', hw1, hcut, hcat, -strA_add, -sliceStr_lh, -Int.natCast_add, -Prod.exists, -Int.ofNat_lt]
        refine ⟨(i + 1, out ++ [s[i]]), ?_⟩
        simp only
        exact ⟨by omega, by omega, trivial, trivial, by rw [← hout, hst]; simp⟩
  · have hlt' : ¬ (i : Int) < s.length := by omega
    have hd : s.drop i = [] := List.drop_eq_nil_of_le (by omega)
    rw [hd] at hout
    simp [t4, t0, t3, hlt', -Int.ofNat_lt]
    simpa [qS] using hout
end Go.Ai
