/- The document's Parse; the statement SeqsetParses. -/
import Derived.Test.YtcnaelknemednaaT
import Derived.Test.YtcnaelknemednaaZ
namespace Go.Ai
set_option linter.unusedVariables false
set_option linter.unusedSimpArgs false

def strC (s : List UInt8) : List AV := [.str s]
@[simp] theorem closed_strs {l : List (List UInt8)} : closedLL (l.map strC) = true := closedLL_map (fun x => by simp [strC]) l

theorem splitA_len (c : UInt8) : ∀ (s cur : List UInt8), (splitA c s cur).length ≤ s.length + 1
  | [], cur => by simp [splitA]
  | a :: r, cur => by
    simp only [splitA]
    split
    · have := splitA_len c r []; simp; omega
    · have := splitA_len c r (cur ++ [a]); simp; omega

abbrev splI (s : List UInt8) (c : UInt8) (q : Nat × Nat × List (List UInt8)) (st : St) : Prop :=
  q.1 ≤ s.length + 1 ∧ q.2.1 ≤ q.1 ∧ st.tm 0 = .str s ∧ st.tm 1 = .v (.int .u8 c.toNat) ∧ st.tm 7 = .v (.int .i64 q.1) ∧ st.tm 6 = .v (.int .i64 q.2.1) ∧ OwnS st.hp st.nx 1 (q.2.2.map strC) (st.tm 5) ∧ q.2.2.length ≤ q.1 ∧
  (q.1 ≤ s.length → q.2.2 ++ splitA c (s.drop q.1) ((s.take q.1).drop q.2.1) = splitA c s []) ∧ (q.1 = s.length + 1 → q.2.2 = splitA c s [])

theorem f24 (s : List UInt8) (hs : s.length ≤ 1000000) (c : UInt8) : ∃ v, SlA 1 ((splitA c s []).map strC) v ∧ ∀ hp nx, Ret E 24 [.str s, .v (.int .u8 c.toNat)] hp nx v hp nx .p := by
  refine Ret_pureE e24 rfl (by simp) ?_
  simp [c24]
  refine W_loopI (I := splI s c) (fun q => s.length + 1 - q.1) (0, 0, []) ⟨by simp, by simp, by simp, by simp, by simp, by simp, by simpa using OwnS.lit (es := []), by simp, by simp, by simp⟩ ?_
  rintro ⟨i, from', out⟩ tm hp nx ⟨hi, hf, h0, h1, h7, h6, hO, hol, hI, hE⟩
  simp only at hi hf h0 h1 h7 h6 hO hol hI hE
  by_cases hil : i ≤ s.length
  · have hI := hI hil
    have hil2 : (i : Int) ≤ s.length := by omega
    have hff : (0 : Int) ≤ from' ∧ (from' : Int) ≤ i := by omega
    have hw : IntKind.wrap .i64 ((i : Int) + 1) = (i + 1 : Nat) := by rw [wrap_id] <;> omega
    have hcut : sliceStr (.str s) (some (.v (.int .i64 from'))) (some (.v (.int .i64 i))) = some (.str ((s.take i).drop from')) := by
      rw [sliceStr_lh, if_pos (by omega)]; simp
    by_cases hie : i = s.length
    · subst hie
      rw [List.drop_length, List.take_length] at hI
      rw [List.take_length] at hcut
      simp only [splitA] at hI
      generalize s.drop from' = piece at *
      simp [h0, h1, h7, h6, hcut, spliceL, -sliceStr_lh, -Prod.exists]
      refine mvE_app hO (by simp) (by simp; omega) ?_
      intro hp2 hn hk
      simp [h0, h1, h7, h6, hw, -Prod.exists]
      exact ⟨(s.length + 1, s.length + 1, out ++ [piece]), by simp only; omega, by simp only; omega, by simp, by simp [h0], by simp [h1], by simp, by simp, .inr ⟨nx, by simp, by simp, by simp only; rw [hn]; simp [strC]⟩, by simp; omega,
        (fun h => by simp only at h; omega), fun _ => hI⟩
    · have hlt : i < s.length := by omega
      have hie2 : ¬ (i : Int) = s.length := by omega
      have hget : s[i]? = some s[i] := List.getElem?_eq_getElem hlt
      have hdr : s.drop i = s[i] :: s.drop (i + 1) := List.drop_eq_getElem_cons hlt
      have htk : (s.take (i + 1)).drop from' = (s.take i).drop from' ++ [s[i]] := by
        rw [List.take_add_one, hget, List.drop_append_of_le_length (by simp; omega)]; rfl
      rw [hdr] at hI
      obtain ⟨a, haj⟩ : ∃ a, s[i] = a := ⟨_, rfl⟩
      rw [haj] at hI hget htk
      simp only [splitA] at hI
      by_cases hac : a = c
      · subst hac
        rw [if_pos rfl] at hI
        generalize (s.take i).drop from' = piece at *
        simp [h0, h1, h7, h6, hcut, hlt, haj, hil2, hie2, spliceL, -sliceStr_lh, -Prod.exists]
        refine mvE_app hO (by simp) (by simp; omega) ?_
        intro hp2 hn hk
        simp [h0, h1, h7, h6, hw, -Prod.exists]
        exact ⟨(i + 1, i + 1, out ++ [piece]), by simp only; omega, by simp only; omega, by simp, by simp [h0], by simp [h1], by simp, by simp, .inr ⟨nx, by simp, by simp, by simp only; rw [hn]; simp [strC]⟩, by simp; omega,
          (fun _ => by simp only [List.append_assoc, List.singleton_append]; rw [show (s.take (i + 1)).drop (i + 1) = [] from List.drop_eq_nil_of_le (by simp; omega)]; exact hI), fun h => by simp only at h; omega⟩
      · rw [if_neg hac, ← htk] at hI
        have hac2 : ¬ (a.toNat : Int) = c.toNat := fun e => hac (UInt8.toNat_inj.1 (by omega))
        simp [h0, h1, h7, h6, hlt, haj, hil2, hie2, hac2, hw, -Prod.exists]
        exact ⟨(i + 1, from', out), by simp only; omega, by simp only; omega, by simp only; omega, by simp [h0], by simp [h1], by simp, by simp [h6], hO, by simp only; omega, (fun _ => hI), fun h => by simp only at h; omega⟩
  · have : i = s.length + 1 := by omega
    subst this
    have hE := hE rfl
    have hil2 : ¬ ((s.length + 1 : Nat) : Int) ≤ s.length := by omega
    have hil3 : ¬ (s.length : Int) + 1 ≤ s.length := by omega
    subst hE
    simp [h0, h7, hil3]
    obtain ⟨nil3, z3, cap3, h3, h4⟩ := frz_own (k := 4) hO (by simp)
    exact ⟨_, h3, nil3, z3, cap3, rfl, h4⟩

theorem f25 (s : List UInt8) (hs : s.length ≤ 1000000) (hp nx) : Ret E 25 [.str s] hp nx (.v (.int .i64 (numR s))) hp nx .p := by
  refine Ret_pureQ e25 rfl (by simp) ?_ hp nx
  by_cases h1 : s = [42]
  · subst h1; simp [c25, numR]
  · cases s with
    | nil => simp [c25, numR]
    | cons a t =>
      by_cases h2 : a = 48
      · subst h2; simp [c25, numR]
      · have h3 : ¬ (a.toNat : Int) = 48 := fun e => h2 (UInt8.toNat_inj.1 (by have e2 : a.toNat = 48 := (by omega); simpa using e2))
        have hn : numR (a :: t) = if (a :: t).all isDig then accR (a :: t) 0 else -1 := by simp only [numR]; rw [if_neg h1, if_neg (by simp [h2])]
        rw [hn]
        generalize hS : a :: t = S at *
        obtain ⟨R, hR⟩ : ∃ R, R = (if S.all isDig then accR S 0 else -1) := ⟨_, rfl⟩
        rw [← hR]
        clear hn
        have hS0 : S[0]? = some a := by rw [← hS]; rfl
        have hSn : ¬ S = [] := by rw [← hS]; simp
        simp [c25, h1, hSn, hS0, h3]
        refine W_loopI (I := fun (j : Nat) st => j ≤ S.length ∧ st.tm 0 = .str S ∧ st.tm 3 = .v (.int .i64 j) ∧ st.hp = hnil ∧ st.nx = 0 ∧ ∀ c ∈ S.take j, isDig c = true) (fun j => S.length - j) 0 (by simp) ?_
        rintro j tm hp nx ⟨hj, t0, t3, rfl, rfl, hd⟩
        simp only at t0 t3
        by_cases hlt : j < S.length
        · have hget : S[j]? = some S[j] := List.getElem?_eq_getElem hlt
          have hm : S[j] ∈ S := List.getElem_mem hlt
          have hw : IntKind.wrap .i64 ((j : Int) + 1) = (j + 1 : Nat) := by rw [wrap_id] <;> omega
          have htk : ∀ c ∈ S.take (j + 1), c ∈ S.take j ∨ c = S[j] := by
            intro z hz
            rw [List.take_add_one, hget] at hz
            rcases List.mem_append.1 hz with hz | hz
            · exact .inl hz
            · exact .inr (by simpa using hz)
          obtain ⟨c, hcj⟩ : ∃ c, S[j] = c := ⟨_, rfl⟩
          rw [hcj] at hm htk
          have hall : isDig c = false → S.all isDig = false := fun h => by
            rw [Bool.eq_false_iff]; intro h4
            have := List.all_eq_true.1 h4 c hm
            rw [this] at h; cases h
          by_cases q1 : (c.toNat : Int) < 48
          · have := hall (by simp [isDig]; omega)
            rw [this] at hR
            simp at hR
            simp [t0, t3, hlt, hcj, q1, hR]
          · by_cases q2 : (57 : Int) < c.toNat
            · have := hall (by simp [isDig]; omega)
              rw [this] at hR
              simp at hR
              simp [t0, t3, hlt, hcj, q1, q2, hR]
            · have hc : isDig c = true := by simp [isDig]; omega
              simp [t0, t3, hlt, hcj, q1, q2, hw]
              exact ⟨j + 1, by omega, by omega, by simp, fun z hz => (htk z hz).elim (hd z) fun e => e ▸ hc⟩
        · have : j = S.length := by omega
          subst this
          rw [List.take_length] at hd
          have hall : S.all isDig = true := List.all_eq_true.2 hd
          rw [hall, if_pos rfl] at hR
          simp [t0, t3]
          refine W_loopI (I := fun (q : Nat × Int) st => q.1 ≤ S.length ∧ st.tm 0 = .str S ∧ st.tm 5 = .v (.int .i64 q.1) ∧ st.tm 4 = .v (.int .i64 q.2) ∧ st.hp = hnil ∧ st.nx = 0 ∧ 0 ≤ q.2 ∧ q.2 ≤ 4294967295 ∧ accR (S.drop q.1) q.2 = accR S 0) (fun q => S.length - q.1) (0, 0) (by simp [t0]) ?_
          rintro ⟨j, n⟩ tm hp nx ⟨hj, t0, t5, t4, rfl, rfl, n1, n2, hacc⟩
          simp only at hj t0 t5 t4 n1 n2 hacc
          by_cases hlt : j < S.length
          · have hget : S[j]? = some S[j] := List.getElem?_eq_getElem hlt
            have hdj := hd S[j] (List.getElem_mem hlt)
            rw [List.drop_eq_getElem_cons hlt] at hacc
            have hw : IntKind.wrap .i64 ((j : Int) + 1) = (j + 1 : Nat) := by rw [wrap_id] <;> omega
            obtain ⟨c, hcj⟩ : ∃ c, S[j] = c := ⟨_, rfl⟩
            rw [hcj] at hdj hacc
            simp only [isDig, Bool.and_eq_true, decide_eq_true_eq] at hdj
            have w1 : IntKind.wrap .i64 (10 * n) = 10 * n := by rw [wrap_id] <;> omega
            have w2 : IntKind.wrap .i64 (c.toNat : Int) = c.toNat := by rw [wrap_id] <;> omega
            have w3 : IntKind.wrap .i64 (10 * n + (c.toNat : Int)) = 10 * n + (c.toNat : Int) := by rw [wrap_id] <;> omega
            have w4 : IntKind.wrap .i64 (10 * n + (c.toNat : Int) - 48) = 10 * n + (c.toNat : Int) - 48 := by rw [wrap_id] <;> omega
            simp only [accR] at hacc
            by_cases q1 : 4294967295 < 10 * n + (c.toNat : Int) - 48
            · rw [if_pos q1] at hacc
              simp [t0, t5, t4, hlt, hcj, w1, w2, w3, w4, q1, hR, ← hacc]
            · rw [if_neg q1] at hacc
              simp [t0, t5, t4, hlt, hcj, w1, w2, w3, w4, q1, hw, -Prod.exists]
              exact ⟨(j + 1, 10 * n + (c.toNat : Int) - 48), by simp only; omega, by simp only; omega, by simp, by simp, by omega, by omega, hacc⟩
          · have : j = S.length := by omega
            subst this
            rw [List.drop_length] at hacc
            simp only [accR] at hacc
            simp [t0, t5, t4, hacc, hR]
end Go.Ai
