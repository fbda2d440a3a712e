/- Which set a text is: the two ways are one: plain laws. -/
import Derived.Test.YtcnaelknemednaaR
namespace Go.Ai
set_option linter.unusedVariables false
set_option linter.unusedSimpArgs false

def splitA (c : UInt8) : List UInt8 → List UInt8 → List (List UInt8)
  | [], cur => [cur]
  | a :: r, cur => if a = c then cur :: splitA c r [] else splitA c r (cur ++ [a])
def accR : List UInt8 → Int → Int
  | [], n => n
  | c :: r, n => if 4294967295 < 10 * n + (c.toNat : Int) - 48 then -2 else accR r (10 * n + (c.toNat : Int) - 48)
def numR (s : List UInt8) : Int := if s = [42] then 0 else if s = [] ∨ s.head? = some 48 then -1 else if s.all isDig then accR s 0 else -1
def pieR (t : List UInt8) : Option Sp := match splitA 58 t [] with
  | [a] => if numR a = -1 then none else some (numR a, numR a)
  | [a, b] => if numR a = -1 ∨ numR b = -1 then none else some (numR a, numR b)
  | _ => none
def runR : List (List UInt8) → List Sp → Option (List Sp)
  | [], out => some out
  | t :: ts, out => match pieR t with
    | none => none
    | some x => runR ts (out ++ [x])
def grR (x : Sp) : Bool := decide (x.1 = -2) || decide (x.2 = -2)
def refF : Option (List Sp) → List Sp × Int
  | none => ([], 11)
  | some l => if l.any grR then ([], 3) else if 1000 < l.length then ([], 5) else (l, 0)
def refP (s : List UInt8) : List Sp × Int := refF (runR (splitA 44 s []) [])

def cv (n : Int) : Int := if n = -2 then 4294967296 else n
def cvP (x : Sp) : Sp := (cv x.1, cv x.2)

abbrev stepV (n : Int) (c : UInt8) : Int := min (10 * n + ((c.toNat : Int) - 48)) 4294967296
theorem fold_top : ∀ {l : List UInt8}, (∀ c ∈ l, isDig c = true) → l.foldl stepV 4294967296 = 4294967296
  | [], _ => rfl
  | c :: r, h => by
    have hc := h c (by simp)
    simp only [isDig, Bool.and_eq_true, decide_eq_true_eq] at hc
    rw [List.foldl_cons, show stepV 4294967296 c = 4294967296 by simp only [stepV]; omega]
    exact fold_top fun x hx => h x (by simp [hx])
theorem acc_fold : ∀ {l : List UInt8} {n : Int}, (∀ c ∈ l, isDig c = true) → 0 ≤ n → n ≤ 4294967295 → l.foldl stepV n = cv (accR l n) ∧ (accR l n = -2 ∨ (0 ≤ accR l n ∧ accR l n ≤ 4294967295))
  | [], n, _, h1, h2 => by
    refine ⟨?_, .inr ⟨h1, h2⟩⟩
    show n = cv n
    rw [cv, if_neg (by omega)]
  | c :: r, n, h, h1, h2 => by
    have hc := h c (by simp)
    have hr : ∀ x ∈ r, isDig x = true := fun x hx => h x (by simp [hx])
    simp only [isDig, Bool.and_eq_true, decide_eq_true_eq] at hc
    rw [List.foldl_cons]
    by_cases hb : 4294967295 < 10 * n + (c.toNat : Int) - 48
    · rw [show stepV n c = 4294967296 by simp only [stepV]; omega, fold_top hr]
      have e : accR (c :: r) n = -2 := by simp only [accR]; rw [if_pos hb]
      rw [e]
      exact ⟨rfl, .inl rfl⟩
    · have e : accR (c :: r) n = accR r (10 * n + (c.toNat : Int) - 48) := by simp only [accR]; rw [if_neg hb]
      rw [e, show stepV n c = 10 * n + (c.toNat : Int) - 48 by simp only [stepV]; omega]
      exact acc_fold hr (by omega) (by omega)
theorem numR_le (s : List UInt8) : numR s = -2 ∨ numR s = -1 ∨ (0 ≤ numR s ∧ numR s ≤ 4294967295) := by
  unfold numR
  split
  · exact .inr (.inr (by omega))
  · split
    · exact .inr (.inl rfl)
    · split
      · rename_i h
        rcases (acc_fold (l := s) (n := 0) (by simpa using h) (by omega) (by omega)).2 with h | h
        · exact .inl h
        · exact .inr (.inr h)
      · exact .inr (.inl rfl)

/-- What comes behind a number: the end, or a mark. -/
def Mark (s : List UInt8) : Prop := s = [] ∨ ∃ c r, s = c :: r ∧ (c = 44 ∨ c = 58)
theorem mark_tw {s : List UInt8} (h : Mark s) : s.takeWhile isDig = [] ∧ s.dropWhile isDig = s := by
  rcases h with rfl | ⟨c, r, rfl, rfl | rfl⟩
  · exact ⟨rfl, rfl⟩
  · have : isDig 44 = false := by decide
    simp [List.takeWhile_cons, List.dropWhile_cons, this]
  · have : isDig 58 = false := by decide
    simp [List.takeWhile_cons, List.dropWhile_cons, this]
theorem tw_app : ∀ {t s : List UInt8}, (∀ c ∈ t, isDig c = true) → (t ++ s).takeWhile isDig = t ++ s.takeWhile isDig ∧ (t ++ s).dropWhile isDig = s.dropWhile isDig
  | [], s, _ => ⟨rfl, rfl⟩
  | c :: t, s, h => by
    obtain ⟨h1, h2⟩ := tw_app (t := t) (s := s) fun x hx => h x (by simp [hx])
    have hc := h c (by simp)
    simp [List.takeWhile_cons, List.dropWhile_cons, hc, h1, h2]
theorem dw_some : ∀ {t s : List UInt8}, t.all isDig = false → ∃ c r, (t ++ s).dropWhile isDig = c :: r ∧ c ∈ t
  | [], s, h => by simp at h
  | c :: t, s, h => by
    cases hc : isDig c with
    | false => exact ⟨c, t ++ s, by simp [List.dropWhile_cons, hc], by simp⟩
    | true =>
      simp only [List.all_cons, hc, Bool.true_and] at h
      obtain ⟨d, r, h1, h2⟩ := dw_some (s := s) h
      exact ⟨d, r, by simp [List.dropWhile_cons, hc, h1], by simp [h2]⟩

def BadR (o : Option (Int × List UInt8)) : Prop := o = none ∨ ∃ v c r, o = some (v, c :: r) ∧ c ≠ 44 ∧ c ≠ 58
theorem num_both {t s : List UInt8} (h44 : 44 ∉ t) (h58 : 58 ∉ t) (hm : Mark s) : (numR t = -1 ∧ BadR (numP (t ++ s))) ∨ (numR t ≠ -1 ∧ numP (t ++ s) = some (cv (numR t), s)) := by
  obtain ⟨m1, m2⟩ := mark_tw hm
  cases t with
  | nil =>
    refine .inl ⟨by simp [numR], .inl ?_⟩
    rcases hm with rfl | ⟨c, r, rfl, rfl | rfl⟩
    · rfl
    · simp [numP, List.takeWhile_cons, show isDig 44 = false by decide]
    · simp [numP, List.takeWhile_cons, show isDig 58 = false by decide]
  | cons a t =>
    have ha44 : a ≠ 44 := fun e => h44 (by simp [e])
    have ha58 : a ≠ 58 := fun e => h58 (by simp [e])
    by_cases hs : a = 42
    · subst hs
      cases t with
      | nil => exact .inr ⟨by simp [numR], by simp [numP, numR, cv]⟩
      | cons b t =>
        refine .inl ⟨?_, .inr ⟨0, b, t ++ s, by simp [numP], fun e => h44 (by simp [e]), fun e => h58 (by simp [e])⟩⟩
        have : isDig 42 = false := by decide
        simp [numR, this]
    · have hne : ¬ (a :: t) = [42] := by simp [hs]
      by_cases h0 : a = 48
      · subst h0
        exact .inl ⟨by simp [numR], .inl (by simp [numP])⟩
      · cases hall : (a :: t).all isDig with
        | true =>
          have hd : ∀ c ∈ a :: t, isDig c = true := by simpa using hall
          obtain ⟨w1, w2⟩ := tw_app (s := s) hd
          rw [m1, List.append_nil] at w1
          rw [m2] at w2
          have hf := acc_fold (l := a :: t) (n := 0) hd (by omega) (by omega)
          have hn : numR (a :: t) = accR (a :: t) 0 := by simp only [numR]; rw [if_neg hne, if_neg (by simp [h0]), if_pos hall]
          have hp : numP (a :: t ++ s) = some (valP (a :: t), s) := by
            rw [List.cons_append] at w1 w2
            simp only [List.cons_append, numP, if_neg hs, w1, w2]
            rw [if_neg (by simp [h0])]
          refine .inr ⟨by rw [hn]; rcases hf.2 with h | h <;> omega, ?_⟩
          rw [hp, hn, ← hf.1]; rfl
        | false =>
          have hn : numR (a :: t) = -1 := by simp only [numR]; rw [if_neg hne, if_neg (by simp [h0]), if_neg (by rw [hall]; simp)]
          refine .inl ⟨hn, ?_⟩
          obtain ⟨c, r, d1, d2⟩ := dw_some (s := s) hall
          rw [List.cons_append] at d1
          by_cases hq : (a :: (t ++ s)).takeWhile isDig = []
          · exact .inl (by simp only [List.cons_append, numP, if_neg hs, hq]; simp)
          · exact .inr ⟨_, c, r, by simp only [List.cons_append, numP, if_neg hs, d1]; rw [if_neg (by simp [hq, h0])], fun e => h44 (e ▸ d2), fun e => h58 (e ▸ d2)⟩

/-- The pieces, put together again. -/
def joinC (c : UInt8) : List (List UInt8) → List UInt8
  | [] => []
  | [t] => t
  | t :: ts => t ++ c :: joinC c ts
theorem split_ne (c : UInt8) : ∀ (s cur : List UInt8), splitA c s cur ≠ []
  | [], cur => by simp [splitA]
  | a :: r, cur => by
    simp only [splitA]
    split
    · simp
    · exact split_ne c r _
theorem joinC_cons (c : UInt8) (t : List UInt8) {ts : List (List UInt8)} (h : ts ≠ []) : joinC c (t :: ts) = t ++ c :: joinC c ts := by
  cases ts with
  | nil => exact absurd rfl h
  | cons a r => rfl
theorem split_join (c : UInt8) : ∀ (s cur : List UInt8), joinC c (splitA c s cur) = cur ++ s
  | [], cur => by simp [splitA, joinC]
  | a :: r, cur => by
    simp only [splitA]
    split
    · rename_i h; subst h
      rw [joinC_cons _ _ (split_ne _ _ _), split_join]; rfl
    · rw [split_join]; simp
theorem split_free (c : UInt8) : ∀ (s cur : List UInt8), c ∉ cur → ∀ t ∈ splitA c s cur, c ∉ t
  | [], cur, h, t, ht => by simp [splitA] at ht; subst ht; exact h
  | a :: r, cur, h, t, ht => by
    simp only [splitA] at ht
    split at ht
    · rcases List.mem_cons.1 ht with rfl | ht
      · exact h
      · exact split_free c r [] (by simp) t ht
    · rename_i hne
      exact split_free c r _ (by simp [h]; exact fun e => hne e.symm) t ht
theorem split_sub (c : UInt8) : ∀ (s cur : List UInt8), ∀ t ∈ splitA c s cur, ∀ x ∈ t, x ∈ cur ++ s := by
  intro s
  induction s with
  | nil => intro cur t ht x hx; simp [splitA] at ht; subst ht; simpa using hx
  | cons a r ih =>
    intro cur t ht x hx
    simp only [splitA] at ht
    split at ht
    · rcases List.mem_cons.1 ht with rfl | ht
      · simp [hx]
      · have := ih [] t ht x hx; simp at this; simp [this]
    · have := ih _ t ht x hx
      simpa using this
end Go.Ai
