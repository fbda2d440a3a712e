/- What an encoded word's text says. -/
import Derived.Test.YtdhbiimmifedmaaN
namespace Go.Ai
set_option linter.unusedVariables false
set_option linter.unusedSimpArgs false

def utf8L : List UInt8 := [117, 116, 102, 45, 56]
def asciiL : List UInt8 := [117, 115, 45, 97, 115, 99, 105, 105]
def isoL : List UInt8 := [105, 115, 111, 45, 56, 56, 53, 57, 45, 49]
def bodyS (how text : List UInt8) : Option (List UInt8) := if lowS how = [98] then (if (unS text).2 = 0 then some (unS text).1 else none) else if lowS how = [113] then some (qS text 0) else none
def charS (cs s : List UInt8) : Option (List UInt8) := if lowS cs = utf8L then some s else if lowS cs = asciiL then some s else if lowS cs = isoL then some (latS s) else none
def saysS (cs how text : List UInt8) : Option (List UInt8) := match bodyS how text with
  | none => none
  | some s => charS cs s
def optA : Option (List UInt8) → AV
  | none => .tup [.str [], .v (.bool false)]
  | some s => .tup [.str s, .v (.bool true)]
theorem unS_length (s : List UInt8) : (unS s).1.length ≤ s.length := by
  have := decS_length s 0 0
  simp only [unS]; split
  · exact this
  · simp
theorem bodyS_length {how text s : List UInt8} (h : bodyS how text = some s) : s.length ≤ text.length := by
  have h1 := unS_length text
  have h2 := qS_length text 0
  simp only [bodyS] at h
  split at h
  · split at h
    · cases h; exact h1
    · cases h
  · split at h
    · cases h; exact h2
    · cases h

theorem f46t (cs s : List UInt8) (h1 : cs.length ≤ 100000) (h2 : s.length ≤ 100000) (tm : Nat → AV) (hp nx) (t0 : tm 0 = .str cs) (t8 : tm 8 = .str s) :
    W (Ret E) c46_rrr (pureQ [.t 6, .t 7] (optA (charS cs s))) ⟨tm, hp, nx⟩ := by
  simp [c46_rrr, t0]
  refine WCall_p (f17 cs h1 _ _) ?_
  by_cases k1 : lowS cs = utf8L
  · have k1' : lowS cs = [117, 116, 102, 45, 56] := k1
    simp [k1', t8, charS, utf8L, optA, frz_closed]
  · have k1' : ¬ lowS cs = [117, 116, 102, 45, 56] := k1
    by_cases k2 : lowS cs = asciiL
    · have k2' : lowS cs = [117, 115, 45, 97, 115, 99, 105, 105] := k2
      simp [k2', t8, charS, utf8L, asciiL, optA, frz_closed]
    · have k2' : ¬ lowS cs = [117, 115, 45, 97, 115, 99, 105, 105] := k2
      by_cases k3 : lowS cs = isoL
      · have k3' : lowS cs = [105, 115, 111, 45, 56, 56, 53, 57, 45, 49] := k3
        simp [k3', t8]
        refine WCall_p (f19 s h2 _ _) ?_
        simp [charS, k3', utf8L, asciiL, isoL, optA, frz_closed]
      · have k3' : ¬ lowS cs = [105, 115, 111, 45, 56, 56, 53, 57, 45, 49] := k3
        simp [k1', k2', k3', t8, charS, utf8L, asciiL, isoL, optA, frz_closed]

theorem f46 (cs how text : List UInt8) (h1 : cs.length ≤ 100000) (h2 : how.length ≤ 100000) (h3 : text.length ≤ 100000) (hp nx) :
    Ret E 46 [.str cs, .str how, .str text] hp nx (optA (saysS cs how text)) hp nx .p := by
  refine Ret_pureQ e46 rfl (by simp) ?_ hp nx
  simp [c46]
  refine WCall_p (f17 how h2 _ _) ?_
  by_cases k1 : lowS how = [98]
  · simp [k1]
    refine WCall_p (f10 text h3 _ _) ?_
    by_cases k2 : (unS text).2 = 0
    · simp [k2]
      have hs : saysS cs how text = charS cs (unS text).1 := by simp [saysS, bodyS, k1, k2]
      rw [hs]
      exact f46t cs _ h1 (by have := unS_length text; omega) _ _ _ (by simp) (by simp)
    · simp [k2, saysS, bodyS, k1, optA, frz_closed]
  · by_cases k2 : lowS how = [113]
    · simp [k1, k2]
      have hs : saysS cs how text = charS cs (qS text 0) := by simp [saysS, bodyS, k1, k2]
      have hql := qS_length text 0
      rw [hs]
      refine W_loopI (I := fun (q : Nat × List UInt8) s' => q.1 ≤ text.length ∧ s'.tm 11 = .str (text.drop q.1) ∧ s'.tm 8 = .str q.2 ∧ s'.tm 0 = .str cs ∧ q.2 ++ qS (text.drop q.1) 0 = qS text 0) (fun q => text.length - q.1) (0, []) (by simp) ?_
      rintro ⟨i, out⟩ tm hp nx ⟨hj, t11, t8, t0, hout⟩
      simp only at hj t11 t8 t0 hout
      have hol : out.length ≤ text.length := by have := congrArg List.length hout; rw [List.length_append] at this; omega
      by_cases hlt : i < text.length
      · have hne : text.drop i ≠ [] := by simp; omega
        have hst := qS_step hne
        have hg : (text.drop i)[0]? = some ((text.drop i).head hne) := head_get _ hne
        have hdl : (text.drop i).length = text.length - i := List.length_drop
        have hdd : ∀ k, (text.drop i).drop k = text.drop (i + k) := fun k => List.drop_drop
        have c26' := f26 (text.drop i) (by omega)
        have hstop : ∀ k, i + k ≤ text.length → sliceStr (.str (text.drop i)) (some (.v (.int .i64 ((k : Nat) : Int)))) none = some (.str (text.drop (i + k))) := by
          intro k hk
          rw [sliceStr_l, if_pos (by omega), Int.toNat_natCast, hdd]
        have hs1 : sliceStr (.str (text.drop i)) (some (.v (.int .i64 1))) none = some (.str (text.drop (i + 1))) := hstop 1 (by omega)
        have hs3 := hstop 3
        have hcut : sliceStr (.str (text.drop i)) none (some (.v (.int .i64 1))) = some (.str [(text.drop i).head hne]) := by
          rw [sliceStr_h, if_pos (by omega)]
          have : ∀ (l : List UInt8) (h : l ≠ []), l.take (1 : Int).toNat = [l.head h] := by
            intro l h; cases l with
            | nil => exact absurd rfl h
            | cons a r => rfl
          rw [this _ hne]
        rw [hdd, hdd] at hst
        generalize text.drop i = D at *
        simp [t11, hne]
        refine WCall_p (c26' _ _) ?_
        cases he : escS D with
        | some c =>
          have h3 := escS_len he
          rw [he] at hst
          have hs3' : sliceStr (.str D) (some (.v (.int .i64 3))) none = some (.str (text.drop (i + 3))) := hs3 (by omega)
          have hcat : strA .add out [c] = some (.str (out ++ [c])) := strA_cat (by simp only [List.length_cons, List.length_nil]; omega)
          have htb : toBytes [[.v (.int .u8 (c.toNat : Int))]] = some [c] := toBytes_bytesOf [c]
          simp [escA, t11, t8, t0, hs3', hcat, htb, -toBytes_one, -strA_add, -sliceStr_l, -Prod.exists]
          refine ⟨(i + 3, out ++ [c]), ?_⟩
          simp only
          exact ⟨by omega, by omega, trivial, trivial, by rw [← hout, hst]; simp⟩
        | none =>
          rw [he] at hst
          have hcat : strA .add out [D.head hne] = some (.str (out ++ [D.head hne])) := strA_cat (by simp only [List.length_cons, List.length_nil]; omega)
          have hcat2 : strA .add out [32] = some (.str (out ++ [32])) := strA_cat (by simp only [List.length_cons, List.length_nil]; omega)
          simp [escA, t11, t8, t0, hg]
          by_cases h1 : D.head hne = 95
          · have h1' : ((D.head hne).toNat : Int) = 95 := by rw [h1]; rfl
            simp only [h1, if_true] at hst
            simp [t11, t8, t0, h1', hs1, hcat2, -strA_add, -sliceStr_l, -Prod.exists]
            refine ⟨(i + 1, out ++ [32]), ?_⟩
            simp only
            exact ⟨by omega, by omega, trivial, trivial, by rw [← hout, hst]; simp⟩
          · have h1' : ¬ ((D.head hne).toNat : Int) = 95 := u8_ne (n := 95) (by omega) h1
            simp only [if_neg h1] at hst
            simp [t11, t8, t0, h1', hs1, hcut, hcat, -strA_add, -sliceStr_l, -sliceStr_h, -Prod.exists]
            refine ⟨(i + 1, out ++ [D.head hne]), ?_⟩
            simp only
            exact ⟨by omega, by omega, trivial, trivial, by rw [← hout, hst]; simp⟩
      · have hd : text.drop i = [] := List.drop_eq_nil_of_le (by omega)
        rw [hd] at t11 hout
        simp only [qS, List.append_nil] at hout
        subst hout
        simp [t11]
        exact f46t cs _ h1 (by omega) _ _ _ (by simp [t0]) (by simp [t8])
    · simp [k1, k2, saysS, bodyS, optA, frz_closed]
end Go.Ai
