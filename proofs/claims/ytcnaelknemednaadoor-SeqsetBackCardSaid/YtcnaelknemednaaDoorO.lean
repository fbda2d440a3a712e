/- Reading a set: the program's reader. -/
import Derived.Test.YtcnaelknemednaaDoorM
import Derived.Test.YtcnaelknemednaaDoorAiStr
namespace Go.Ai
set_option linter.unusedVariables false
set_option linter.unusedSimpArgs false

def isDig (c : UInt8) : Bool := decide (48 ≤ c.toNat) && decide (c.toNat ≤ 57)
def valP (l : List UInt8) : Int := l.foldl (fun n c => min (10 * n + ((c.toNat : Int) - 48)) 4294967296) 0
def numP (s : List UInt8) : Option (Int × List UInt8) := match s with
  | [] => none
  | c :: r => if c = 42 then some (0, r) else if s.takeWhile isDig = [] ∨ c = 48 then none else some (valP (s.takeWhile isDig), s.dropWhile isDig)
def spanP (s : List UInt8) : Option (Sp × List UInt8) := match numP s with
  | none => none
  | some (n, r) => match r with
    | [] => some ((n, n), [])
    | c :: r' => if c = 58 then (match numP r' with
      | none => none
      | some (m, r'') => some ((n, m), r'')) else some ((n, n), c :: r')
def grS (x : Sp) : Bool := decide (4294967295 < x.1) || decide (4294967295 < x.2)
def runP : Nat → List UInt8 → List Sp → Option (List Sp)
  | 0, _, _ => none
  | k + 1, s, out => match spanP s with
    | none => none
    | some (x, r) => match r with
      | [] => some (out ++ [x])
      | c :: r' => if c = 44 then runP k r' (out ++ [x]) else none
def parF : Option (List Sp) → List Sp × Int
  | none => ([], 11)
  | some l => if l.any grS then ([], 3) else if 1000 < l.length then ([], 5) else (l, 0)
def parP (s : List UInt8) : List Sp × Int := parF (runP (s.length + 1) s [])

/-- A byte is taken, if it stands there. -/
def isP (c : UInt8) (s : List UInt8) : Bool := s.head? == some c
theorem f24 (c : UInt8) (s : List UInt8) (hs : s.length ≤ 1000000) (y : AV) (hp : Heap) (nx r : Nat) (h : hp r = some [[.str s, y]]) :
    Ret E 24 [.ptr r 0 0, .v (.int .u8 c.toNat)] hp nx (.v (.bool (isP c s))) (if isP c s then hupd hp r (some [[.str (s.drop 1), y]]) else hp) nx .e := by
  have main := Ret_genE (P := fun v hp' nx' => v = .v (.bool (isP c s)) ∧ hp' = (if isP c s then hupd hp r (some [[.str (s.drop 1), y]]) else hp) ∧ nx' = nx) e24 (args := [.ptr r 0 0, .v (.int .u8 c.toNat)]) rfl (hp := hp) (nx := nx) ?_
  · obtain ⟨v, hp', nx', h1, rfl, rfl, rfl⟩ := main
    exact h1
  simp only [c24]
  cases s with
  | nil => simp [h, isP]
  | cons a s =>
    by_cases he : a = c
    · subst he
      simp [h, isP, spliceL]
      omega
    · have he2 : ¬ (a.toNat : Int) = c.toNat := fun e => he (UInt8.toNat_inj.1 (by omega))
      simp [h, isP, he, he2]

theorem wrap8 {n : Int} (h1 : 0 ≤ n) (h2 : n < 256) : IntKind.wrap .u8 n = n := by simp [IntKind.wrap, IntKind.bits, IntKind.signed]; omega
theorem valP_snoc (l : List UInt8) (c : UInt8) : valP (l ++ [c]) = min (10 * valP l + ((c.toNat : Int) - 48)) 4294967296 := by simp [valP]
theorem valP_b {l : List UInt8} (h : ∀ c ∈ l, isDig c = true) : 0 ≤ valP l ∧ valP l ≤ 4294967296 := by
  have key : ∀ (l : List UInt8) (n : Int), (∀ c ∈ l, isDig c = true) → 0 ≤ n → n ≤ 4294967296 → 0 ≤ l.foldl (fun n c => min (10 * n + ((c.toNat : Int) - 48)) 4294967296) n ∧ l.foldl (fun n c => min (10 * n + ((c.toNat : Int) - 48)) 4294967296) n ≤ 4294967296 := by
    intro l
    induction l with
    | nil => intro n _ h1 h2; exact ⟨h1, h2⟩
    | cons c r ih =>
      intro n h h1 h2
      have hc := h c (by simp)
      simp only [isDig, Bool.and_eq_true, decide_eq_true_eq] at hc
      exact ih (min (10 * n + ((c.toNat : Int) - 48)) 4294967296) (fun x hx => h x (by simp [hx])) (by omega) (by omega)
  exact key l 0 h (by omega) (by omega)
theorem dropWhile_head {l : List UInt8} {c : UInt8} {r : List UInt8} (h : l.dropWhile isDig = c :: r) : isDig c = false := by
  induction l with
  | nil => simp at h
  | cons a l ih =>
    simp only [List.dropWhile_cons] at h
    split at h
    · exact ih h
    · rename_i hn
      cases h; simpa using hn
theorem takeWhile_all {l : List UInt8} : ∀ c ∈ l.takeWhile isDig, isDig c = true := by
  induction l with
  | nil => simp
  | cons a l ih =>
    intro c hc
    simp only [List.takeWhile_cons] at hc
    split at hc
    · rcases List.mem_cons.1 hc with rfl | hc
      · assumption
      · exact ih c hc
    · simp at hc

abbrev numRes (hp : Heap) (r : Nat) (g : Bool) (s : List UInt8) (v : AV) (hp' : Heap) : Prop := match numP s with
  | none => v = .tup [.v (.int .i64 0), .v (.bool false)] ∧ hp' = hp
  | some (n, rest) => v = .tup [.v (.int .i64 n), .v (.bool true)] ∧ hp' r = some [[.str rest, .v (.bool (g || decide (4294967295 < n)))]] ∧ ∀ q, q ≠ r → hp' q = hp q

theorem hupd2 {hp : Heap} {r : Nat} {a b : Option Blk} : hupd (hupd hp r a) r b = hupd hp r b := by
  funext q
  by_cases h : q = r <;> simp [hupd, h]
theorem f33t (D R : List UInt8) (hs : (D ++ R).length ≤ 1000000) (hall : ∀ c ∈ D, isDig c = true) (g : Bool) (tm : Nat → AV) (hp : Heap) (nx r : Nat) (h : hp r = some [[.str (D ++ R), .v (.bool g)]])
    (t0 : tm 0 = .ptr r 0 0) (t4 : tm 4 = .v (.int .i64 (valP D))) (t5 : tm 5 = .v (.int .i64 D.length)) (P : AV → Heap → Nat → Prop)
    (h1 : D = [] ∨ (D ++ R).head? = some 48 → P (.tup [.v (.int .i64 0), .v (.bool false)]) hp nx)
    (h2 : ¬ (D = [] ∨ (D ++ R).head? = some 48) → P (.tup [.v (.int .i64 (valP D)), .v (.bool true)]) (hupd hp r (some [[.str R, .v (.bool (g || decide (4294967295 < valP D)))]])) nx) :
    W (Ret E) c33_rrrr (genQ [.t 2, .t 3] P) ⟨tm, hp, nx⟩ := by
  simp only [c33_rrrr]
  cases D with
  | nil =>
    simp [t5]
    exact h1 (.inl rfl)
  | cons c D =>
    have hz : ¬ ((D.length : Int) + 1 = 0) := by omega
    by_cases hc : c = 48
    · subst hc
      simp [t5, t0, h, hz]
      exact h1 (.inr rfl)
    · have hc2 : ¬ (c.toNat : Int) = 48 := fun e => hc (UInt8.toNat_inj.1 (by have e2 : c.toNat = 48 := (by omega); simpa using e2))
      have hq := h2 (by simp [hc])
      have hle : (D.length : Int) + 1 ≤ D.length + R.length + 1 := by omega
      have hdr : ((c :: D) ++ R).drop (D.length + 1) = R := by simp

      generalize valP (c :: D) = n at *
      cases g with
      | true =>
        simp [t5, t0, t4, h, hz, hc2, hle, spliceL]
        refine ⟨by omega, ?_⟩
        rw [hupd2]; simpa using hq
      | false =>
        simp [t5, t0, t4, h, hz, hc2, hle, spliceL]
        refine ⟨by omega, ?_⟩
        rw [hupd2]; simpa using hq

set_option maxHeartbeats 400000 in
theorem f33 (s : List UInt8) (hs : s.length ≤ 1000000) (g : Bool) (hp : Heap) (nx r : Nat) (h : hp r = some [[.str s, .v (.bool g)]]) :
    ∃ v hp', Ret E 33 [.ptr r 0 0] hp nx v hp' nx .e ∧ numRes hp r g s v hp' := by
  have main := Ret_genE (P := fun v hp' nx' => numRes hp r g s v hp' ∧ nx' = nx) e33 (args := [.ptr r 0 0]) rfl (hp := hp) (nx := nx) ?_
  · obtain ⟨v, hp', nx', h1, h2, rfl⟩ := main
    exact ⟨v, hp', h1, h2⟩
  have c24' := f24 42 s hs (.v (.bool g)) hp nx r h
  rw [show (((42 : UInt8).toNat : Nat) : Int) = 42 from rfl] at c24'
  simp only [c33]
  have hsplit := List.takeWhile_append_dropWhile (p := isDig) (l := s)
  have hall := takeWhile_all (l := s)
  have hhd : ∀ c r, s.dropWhile isDig = c :: r → isDig c = false := fun c r e => dropWhile_head e
  cases hst : isP 42 s with
  | true =>
    rw [hst] at c24'
    simp only [if_true] at c24'
    cases s with
    | nil => simp [isP] at hst
    | cons a s' =>
      have ha : a = 42 := by simpa [isP] using hst
      subst ha
      simp at c24'
      simp [h]
      refine WCall_k c24' ?_
      simp [numRes, numP]
      intro q hq; simp [hq]
  | false =>
    rw [hst] at c24'
    simp [h]
    refine WCall_k c24' ?_
    have hnum : numP s = if s.takeWhile isDig = [] ∨ s.head? = some 48 then none else some (valP (s.takeWhile isDig), s.dropWhile isDig) := by
      cases s with
      | nil => simp [numP]
      | cons a s' =>
        have ha : ¬ a = 42 := by simpa [isP] using hst
        simp only [numP, if_neg ha, List.head?_cons, Option.some.injEq]
    clear c24' hst
    generalize s.takeWhile isDig = D at *
    generalize s.dropWhile isDig = R at *
    subst hsplit
    simp
    refine W_loopI (I := fun (j : Nat) st => j ≤ D.length ∧ st.tm 0 = .ptr r 0 0 ∧ st.tm 4 = .v (.int .i64 (valP (D.take j))) ∧ st.tm 5 = .v (.int .i64 j) ∧ st.hp = hp ∧ st.nx = nx) (fun j => D.length - j) 0 (by simp [valP]) ?_
    rintro j tm hp2 nx2 ⟨hj, t0, t4, t5, rfl, rfl⟩
    simp only at t0 t4 t5 h
    simp only [List.length_append] at hs
    by_cases hlt : j < D.length
    · have hd := hall D[j] (List.getElem_mem hlt)
      simp only [isDig, Bool.and_eq_true, decide_eq_true_eq] at hd
      have hv := valP_b (l := D.take j) (fun c hc => hall c (List.mem_of_mem_take hc))
      have hsn : valP (D.take (j + 1)) = min (10 * valP (D.take j) + ((D[j].toNat : Int) - 48)) 4294967296 := by
        rw [List.take_add_one, List.getElem?_eq_getElem hlt]; exact valP_snoc _ _
      have hget : (D ++ R)[j]? = some D[j] := by rw [List.getElem?_append_left hlt, List.getElem?_eq_getElem hlt]
      have hw : IntKind.wrap .i64 ((j : Int) + 1) = (j + 1 : Nat) := by rw [wrap_id] <;> omega
      generalize D[j] = c at *
      generalize valP (D.take j) = n at *
      have w1 : IntKind.wrap .i64 (10 * n) = 10 * n := by rw [wrap_id] <;> omega
      have w2 : IntKind.wrap .u8 ((c.toNat : Int) - 48) = (c.toNat : Int) - 48 := wrap8 (by omega) (by omega)
      have w3 : IntKind.wrap .i64 ((c.toNat : Int) - 48) = (c.toNat : Int) - 48 := by rw [wrap_id] <;> omega
      have w4 : IntKind.wrap .i64 (10 * n + ((c.toNat : Int) - 48)) = 10 * n + ((c.toNat : Int) - 48) := by rw [wrap_id] <;> omega
      have d1 : (48 : Int) ≤ c.toNat := by omega
      have d2 : (c.toNat : Int) ≤ 57 := by omega
      have hjl : (j : Int) < (D.length : Int) + R.length := by omega
      simp [t0, t4, t5, h, hget, hjl, d1, d2, w1, w2, w3, w4, hw]
      exact ⟨j + 1, by omega, by omega, by rw [hsn], by simp⟩
    · have : j = D.length := by omega
      subst this
      simp only [List.take_length] at t4
      have tail := f33t D R (by simp; omega) hall g
      have fin1 : D = [] ∨ (D ++ R).head? = some 48 → (fun v hp' nx' => numRes hp2 r g (D ++ R) v hp' ∧ nx' = nx2) (.tup [.v (.int .i64 0), .v (.bool false)]) hp2 nx2 := fun hc => by
        simp only [numRes, hnum, if_pos hc]; simp
      have fin2 : ¬ (D = [] ∨ (D ++ R).head? = some 48) → (fun v hp' nx' => numRes hp2 r g (D ++ R) v hp' ∧ nx' = nx2) (.tup [.v (.int .i64 (valP D)), .v (.bool true)]) (hupd hp2 r (some [[.str R, .v (.bool (g || decide (4294967295 < valP D)))]])) nx2 := fun hc => by
        simp only [numRes, hnum, if_neg hc]; simp
        exact fun q hq => by simp [hq]
      cases R with
      | nil =>
        rw [List.append_nil] at fin1 fin2
        simp [t0, t5, h]
        exact f33t D [] (by simp; omega) hall g _ hp2 nx2 r h (by simp [t0]) (by simp [t4]) (by simp [t5]) _ (fun hc => fin1 (by simpa using hc)) (fun hc => fin2 (by simpa using hc))
      | cons c R' =>
        have hnd := hhd c R' rfl
        have hget : (D ++ c :: R')[D.length]? = some c := by simp
        have hjl : (D.length : Int) < (D.length : Int) + (R'.length + 1) := by omega
        by_cases q1 : (48 : Int) ≤ c.toNat
        · have q2 : ¬ (c.toNat : Int) ≤ 57 := by
            intro q2
            have : isDig c = true := by simp [isDig]; omega
            rw [this] at hnd; cases hnd
          simp [t0, t5, h, hget, hjl, q1, q2]
          exact f33t D (c :: R') (by simp; omega) hall g _ hp2 nx2 r h (by simp [t0]) (by simp [t4]) (by simp [t5]) _ fin1 fin2
        · simp [t0, t5, h, hget, hjl, q1]
          exact f33t D (c :: R') (by simp; omega) hall g _ hp2 nx2 r h (by simp [t0]) (by simp [t4]) (by simp [t5]) _ fin1 fin2
end Go.Ai
