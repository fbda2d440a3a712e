/- The document's Parse; the statement SeqsetParses. -/
import Derived.Test.YtcnaelknemednaaU
namespace Go.Ai
set_option linter.unusedVariables false
set_option linter.unusedSimpArgs false

theorem split_len (c : UInt8) : ∀ (s cur : List UInt8), ∀ t ∈ splitA c s cur, t.length ≤ cur.length + s.length
  | [], cur, t, h => by simp [splitA] at h; subst h; simp
  | a :: r, cur, t, h => by
    simp only [splitA] at h
    split at h
    · rcases List.mem_cons.1 h with rfl | h
      · simp
      · have := split_len c r [] t h; simp at this ⊢; omega
    · have := split_len c r _ t h; simp at this ⊢; omega
theorem pie_short {t : List UInt8} {p : List (List UInt8)} (hp : splitA 58 t [] = p) (hl : p.length ≤ 2) : ∃ a b, p[0]? = some a ∧ p[p.length - 1]? = some b ∧ pieR t = if numR a = -1 ∨ numR b = -1 then none else some (numR a, numR b) := by
  match p, hp, hl with
  | [], hp, _ => exact absurd hp (split_ne _ _ _)
  | [a], hp, _ => exact ⟨a, a, rfl, rfl, by simp only [pieR, hp, or_self]⟩
  | [a, b], hp, _ => exact ⟨a, b, rfl, rfl, by simp only [pieR, hp]⟩
  | _ :: _ :: _ :: _, _, hl => simp at hl
theorem pie_long {t : List UInt8} {p : List (List UInt8)} (hp : splitA 58 t [] = p) (hl : 2 < p.length) : pieR t = none := by
  match p, hp, hl with
  | [], hp, hl => simp at hl
  | [a], hp, hl => simp at hl
  | [a, b], hp, hl => simp at hl
  | _ :: _ :: _ :: _, hp, _ => simp only [pieR, hp]

abbrev refPI (ps : List (List UInt8)) (v : AV) (q : Nat × List Sp) (s : St) : Prop :=
  q.1 ≤ ps.length ∧ s.tm 4 = v ∧ s.tm 7 = .v (.int .i64 q.1) ∧ s.tm 6 = .v (.bool (q.2.any grR)) ∧ OwnS s.hp s.nx 2 (q.2.map cellsP) (s.tm 5) ∧ q.2.length ≤ q.1 ∧ runR (ps.drop q.1) q.2 = runR ps []

theorem f9 (s0 : List UInt8) (hs : s0.length ≤ 100000) : ∃ v, ParA (refP s0) v ∧ ∀ hp nx, Ret E 9 [.str s0] hp nx v hp nx .p := by
  refine Ret_pureE e9 rfl (by simp) ?_
  have nilA : ∀ n : Int, ParA ([], n) (.tup [.rs true 0 [] (some 0), .v (.int .i64 n)]) := fun n => ⟨_, rfl, true, 0, some 0, rfl, .inl rfl, fun _ => rfl⟩
  obtain ⟨v1, a1, b1⟩ := f24 s0 (by omega) 44
  rw [show (((44 : UInt8).toNat : Nat) : Int) = 44 from rfl] at b1
  have hpl := splitA_len 44 s0 []
  have htl := split_len 44 s0 []
  have hpar : refP s0 = refF (runR (splitA 44 s0 []) []) := rfl
  generalize splitA 44 s0 [] = ps at *
  obtain ⟨nil, sz, cap, rfl, hz⟩ := a1
  simp [c9]
  refine WCall_p (b1 _ _) ?_
  simp
  refine W_loopI (I := refPI ps (.rs nil sz (ps.map strC) cap)) (fun q => ps.length - q.1) (0, []) ⟨by simp, by simp, by simp, by simp, by simpa using OwnS.nil, by simp, by simp⟩ ?_
  rintro ⟨i, out⟩ tm hp nx ⟨hi, t4, t7, t6, hO, hol, hrun⟩
  simp only at hi t4 t7 t6 hO hol hrun
  generalize hR : runR ps [] = R0 at *
  by_cases hlt : i < ps.length
  · rw [List.drop_eq_getElem_cons hlt] at hrun
    have hti := htl ps[i] (List.getElem_mem hlt)
    simp only [List.length_nil, Nat.zero_add] at hti
    have hia : iaddrA 1 (.rs nil sz (ps.map strC) cap) (.v (.int .i64 i)) = some (.rp (strC ps[i])) := iaddr_in hz (by simp [hlt]) rfl
    have hw : IntKind.wrap .i64 ((i : Int) + 1) = (i + 1 : Nat) := by rw [wrap_id] <;> omega
    simp only [runR] at hrun
    generalize ps[i] = t at *
    obtain ⟨v2, a2, b2⟩ := f24 t (by omega) 58
    rw [show (((58 : UInt8).toNat : Nat) : Int) = 58 from rfl] at b2
    have hp2 := splitA_len 58 t []
    have hq2 := split_len 58 t []
    have hpn := split_ne 58 t []
    have ps1 := @pie_short t
    have ps2 := @pie_long t
    generalize splitA 58 t [] = p at *
    obtain ⟨nil2, sz2, cap2, rfl, hz2⟩ := a2
    simp [t4, t7, hlt, -iaddrA_rs, hia, strC, -Prod.exists]
    refine WCall_p (b2 _ _) ?_
    by_cases hl : 2 < p.length
    · have hl2 : (2 : Int) < p.length := by omega
      rw [ps2 rfl hl] at hrun
      subst hrun
      simp [hl2, frz_closed, -Prod.exists]
      exact hpar ▸ nilA 11
    · have hl2 : ¬ (2 : Int) < p.length := by omega
      obtain ⟨a, b, e1, e2, e3⟩ := ps1 rfl (by omega)
      rw [e3] at hrun
      have hpos : 0 < p.length := List.length_pos_iff.2 hpn
      have ha := hq2 a (List.mem_of_getElem? e1)
      have hb := hq2 b (List.mem_of_getElem? e2)
      simp only [List.length_nil, Nat.zero_add] at ha hb
      have i1 : iaddrA 1 (.rs nil2 sz2 (p.map strC) cap2) (.v (.int .i64 0)) = some (.rp (strC a)) := iaddr_in (j := 0) hz2 (by rw [List.getElem?_map, e1]; rfl) rfl
      have hw2 : IntKind.wrap .i64 ((p.length : Int) - 1) = ((p.length - 1 : Nat) : Int) := by rw [wrap_id] <;> omega
      have i2 : iaddrA 1 (.rs nil2 sz2 (p.map strC) cap2) (.v (.int .i64 ((p.length - 1 : Nat) : Int))) = some (.rp (strC b)) := iaddr_in hz2 (by rw [List.getElem?_map, e2]; rfl) rfl
      have ca := f25 a (by omega)
      have cb := f25 b (by omega)
      generalize numR a = na at *
      generalize numR b = nb at *
      simp [hl2, -iaddrA_rs, i1, strC, -Prod.exists]
      refine WCall_p (ca _ _) ?_
      simp [hw2, -iaddrA_rs, i2, strC, -Prod.exists]
      refine WCall_p (cb _ _) ?_
      by_cases q1 : na = -1
      · rw [if_pos (.inl q1)] at hrun
        simp only at hrun
        subst hrun
        simp [q1, frz_closed, -Prod.exists]
        exact hpar ▸ nilA 11
      · by_cases q2 : nb = -1
        · rw [if_pos (.inr q2)] at hrun
          simp only at hrun
          subst hrun
          simp [q1, q2, frz_closed, -Prod.exists]
          exact hpar ▸ nilA 11
        · rw [if_neg (fun h => h.elim q1 q2)] at hrun
          simp only at hrun
          have fin : ∀ tm' hp' nx', tm' 4 = .rs nil sz (ps.map strC) cap → tm' 7 = .v (.int .i64 (i + 1 : Nat)) → tm' 6 = .v (.bool (out.any grR || grR (na, nb))) → OwnS hp' nx' 2 ((out ++ [(na, nb)]).map cellsP) (tm' 5) →
              ∃ q : Nat × List Sp, ps.length - q.1 < ps.length - i ∧ refPI ps (.rs nil sz (ps.map strC) cap) q ⟨tm', hp', nx'⟩ := fun tm' hp' nx' f4 f7 f6 f5 =>
            ⟨(i + 1, out ++ [(na, nb)]), by simp only; omega, by simp only; omega, f4, f7, f6.trans (by simp), f5, by simp; omega, by simp only; rw [hR]; exact hrun⟩
          have fown : ∀ hp' : Heap, hp' nx = some (out.map cellsP ++ [[.v (.int .i64 na), .v (.int .i64 nb)]]) → OwnS hp' (nx + 1) 2 ((out ++ [(na, nb)]).map cellsP) (.sl nx 2 0 (out.length + 1) none) := fun hp' h => .inr ⟨nx, by omega, by simp, by rw [h]; simp [cellsP]⟩
          cases hg : out.any grR with
          | true =>
            rw [hg] at t6 fin
            simp [q1, q2, t4, t7, t6, spliceL, -Prod.exists]
            refine mvE_app hO (by simp) (by simp; omega) ?_
            intro hp3 hn hk
            simp [t4, t7, hw, -Prod.exists]
            exact fin _ _ _ (by simp [t4]) (by simp) (by simp) (by simpa using fown hp3 hn)
          | false =>
            rw [hg] at t6 fin
            by_cases q3 : na = -2
            · simp [q1, q2, q3, t4, t7, t6, spliceL, -Prod.exists]
              refine mvE_app hO (by simp) (by simp; omega) ?_
              intro hp3 hn hk
              simp [t4, t7, hw, -Prod.exists]
              subst q3
              exact fin _ _ _ (by simp [t4]) (by simp) (by simp [grR]) (by simpa using fown hp3 hn)
            · by_cases q4 : nb = -2
              · simp [q1, q2, q3, q4, t4, t7, t6, spliceL, -Prod.exists]
                refine mvE_app hO (by simp) (by simp; omega) ?_
                intro hp3 hn hk
                simp [t4, t7, hw, -Prod.exists]
                subst q4
                exact fin _ _ _ (by simp [t4]) (by simp) (by simp [grR, q3]) (by simpa using fown hp3 hn)
              · simp [q1, q2, q3, q4, t4, t7, t6, spliceL, -Prod.exists]
                refine mvE_app hO (by simp) (by simp; omega) ?_
                intro hp3 hn hk
                simp [t4, t7, hw, -Prod.exists]
                exact fin _ _ _ (by simp [t4]) (by simp) (by simp [grR, q3, q4]) (by simpa using fown hp3 hn)
  · have : i = ps.length := by omega
    subst this
    rw [List.drop_length] at hrun
    simp only [runR] at hrun
    subst hrun
    have hlen := hO.len
    simp only [refF] at hpar
    cases hg : out.any grR with
    | true =>
      rw [hg] at hpar t6
      simp only [if_true] at hpar
      simp [t4, t7, t6, frz_closed]
      rw [hpar]; exact nilA 3
    | false =>
      rw [hg] at hpar t6
      by_cases hle : 1000 < out.length
      · have hle2 : (1000 : Int) < out.length := by omega
        simp only [hle, if_true, Bool.false_eq_true, if_false] at hpar
        simp [t4, t7, t6, hlen, hle2, frz_closed]
        rw [hpar]; exact nilA 5
      · have hle2 : ¬ (1000 : Int) < out.length := by omega
        simp only [hle, Bool.false_eq_true, if_false] at hpar
        simp [t4, t7, t6, hlen, hle2]
        obtain ⟨nil3, z3, cap3, h3, h4⟩ := frz_own (k := 3) hO closed_sps
        rw [hpar]
        exact ⟨_, frz_tup (k := 4) (cs' := [.rs nil3 z3 (out.map cellsP) cap3, .v (.int .i64 0)]) (by rw [mapO_cons, h3, mapO_cons, frz_closed (by simp)]; rfl), _, rfl, nil3, z3, cap3, rfl, h4⟩

theorem f3 (s : List UInt8) (hp nx) : Ret E 3 [.str s] hp nx (.v (.bool true)) hp nx .p := by
  refine Ret_pureQ e3 rfl (by simp) ?_ hp nx
  by_cases k1 : 20000 < s.length
  · have k1' : (20000 : Int) < s.length := by omega
    simp [c3, k1']
    exact WCall_p (f7 _ _) (by simp)
  · have k1' : ¬ (20000 : Int) < s.length := by omega
    obtain ⟨v1, ⟨y1, rfl, h1⟩, b1⟩ := f8 s (by omega)
    obtain ⟨v2, ⟨y2, rfl, h2⟩, b2⟩ := f9 s (by omega)
    rw [← par_ref] at h2 b2
    have hlen : (parP s).1.length ≤ 1000 := by
      rw [par_ref]
      unfold refP refF
      split
      · simp
      · split
        · simp
        · split
          · simp
          · rename_i h; simp only; omega
    have b3 := f10 _ _ y1 y2 h1 h2 (by omega) (by omega)
    simp only [decide_true] at b3
    simp [c3, k1']
    refine WCall_p (b1 _ _) ?_
    simp
    refine WCall_p (b2 _ _) ?_
    simp
    refine WCall_p (b3 _ _) ?_
    simp
    refine WCall_p (f11 _ _ _) ?_
    simp
    exact WCall_p (f7 _ _) (by simp)
end Go.Ai
