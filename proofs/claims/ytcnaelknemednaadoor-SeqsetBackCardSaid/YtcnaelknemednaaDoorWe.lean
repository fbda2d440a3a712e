/- A set's text, both ways: the walks. -/
import Derived.Test.YtcnaelknemednaaDoorWc
namespace Go.Ai
set_option linter.unusedVariables false
set_option linter.unusedSimpArgs false

def spanT (x : Sp) : List UInt8 := numT x.1 ++ (if x.1 = x.2 then [] else 58 :: numT x.2)
def printT (l : List Sp) : List UInt8 := if rightS l then Lib.join (l.map spanT) [44] else []
theorem right_b {l : List Sp} (h : rightS l = true) : 0 < l.length ∧ l.length ≤ 1000 ∧ ∀ x ∈ l, (0 ≤ x.1 ∧ x.1 ≤ 4294967295) ∧ 0 ≤ x.2 ∧ x.2 ≤ 4294967295 := by
  simp only [rightS, Bool.and_eq_true, decide_eq_true_eq, Bool.not_eq_true'] at h
  refine ⟨h.1.1, h.1.2, fun x hx => ?_⟩
  have : badP x = false := by
    rw [Bool.eq_false_iff]; intro h2
    have := List.any_eq_true.2 ⟨x, hx, h2⟩
    rw [h.2] at this; cases this
  simp [badP, mayS] at this
  omega

theorem numT_len (n : Int) (h0 : 0 ≤ n) (h1 : n ≤ 4294967295) : (numT n).length ≤ 21 := by
  unfold numT
  split
  · simp
  · obtain ⟨u, rfl⟩ : ∃ u : Nat, n = u := ⟨n.toNat, by omega⟩
    rw [show Lib.itoa (u : Int) = Lib.decDigits u by simp [Lib.itoa], Lib.decDigits_length]
    have : ∀ (k u : Nat), u < 10 ^ (k + 1) → Lib.nDigits u ≤ k + 1 := by
      intro k
      induction k with
      | zero => intro u h; rw [Lib.nDigits, dif_pos (by simpa using h)]; omega
      | succ k ih =>
        intro u h
        rw [Lib.nDigits]
        split
        · omega
        · have := ih (u / 10) (by rw [Nat.pow_succ] at h; omega)
          omega
    have := this 9 u (by omega)
    omega
theorem spanT_len {x : Sp} (h : (0 ≤ x.1 ∧ x.1 ≤ 4294967295) ∧ 0 ≤ x.2 ∧ x.2 ≤ 4294967295) : (spanT x).length ≤ 50 := by
  have h1 := numT_len x.1 h.1.1 h.1.2
  have h2 := numT_len x.2 h.2.1 h.2.2
  simp only [spanT, List.length_append]
  split <;> simp <;> omega

theorem jt_snoc (a : List (List UInt8)) (x : List UInt8) : Lib.joinTail [44] (a ++ [x]) = Lib.joinTail [44] a ++ 44 :: x := by
  simp [Lib.joinTail]
theorem join_snoc (a : List (List UInt8)) (x : List UInt8) : Lib.join (a ++ [x]) [44] = if a = [] then x else Lib.join a [44] ++ 44 :: x := by
  cases a with
  | nil => simp [Lib.join_one]
  | cons y r =>
    rw [if_neg (by simp), List.cons_append, Lib.join_cons, Lib.join_cons, jt_snoc]; simp
theorem jt_len : ∀ (a : List (List UInt8)), (∀ x ∈ a, x.length ≤ 50) → (Lib.joinTail [44] a).length ≤ 51 * a.length
  | [], _ => by simp [Lib.joinTail]
  | x :: r, h => by
    have h1 := jt_len r fun y hy => h y (by simp [hy])
    have h2 := h x (by simp)
    simp [Lib.joinTail] at h1 ⊢
    omega
theorem join_len {a : List (List UInt8)} (h : ∀ x ∈ a, x.length ≤ 50) : (Lib.join a [44]).length ≤ 51 * a.length := by
  cases a with
  | nil => simp [Lib.join_nil]
  | cons x r =>
    have h1 := jt_len r fun y hy => h y (by simp [hy])
    have h2 := h x (by simp)
    rw [Lib.join_cons]; simp; omega
/-- The text of the first of them. -/
def preT (l : List Sp) (j : Nat) : List UInt8 := Lib.join ((l.take j).map spanT) [44]
theorem preT_len {l : List Sp} (h : rightS l = true) (j : Nat) : (preT l j).length ≤ 51000 := by
  obtain ⟨_, h2, h3⟩ := right_b h
  have := join_len (a := (l.take j).map spanT) (fun y hy => by
    obtain ⟨x, hx, rfl⟩ := List.mem_map.1 hy
    exact spanT_len (h3 x (List.mem_of_mem_take hx)))
  simp only [preT, List.length_map, List.length_take] at this ⊢
  omega
theorem preT_succ {l : List Sp} {j : Nat} (hlt : j < l.length) : preT l (j + 1) = (if j = 0 then [] else preT l j ++ [44]) ++ spanT l[j] := by
  simp only [preT]
  rw [List.take_add_one, List.getElem?_eq_getElem hlt, List.map_append]
  show Lib.join ((l.take j).map spanT ++ [spanT l[j]]) [44] = _
  rw [join_snoc]
  by_cases h : j = 0
  · subst h; simp
  · rw [if_neg h, if_neg (by
      rw [List.map_eq_nil_iff, List.take_eq_nil_iff]
      intro h2
      rcases h2 with h2 | h2
      · exact h h2
      · rw [h2] at hlt; simp at hlt)]
    simp
theorem preT_all (l : List Sp) : preT l l.length = Lib.join (l.map spanT) [44] := by rw [preT, List.take_length]

theorem f7 (l : List Sp) (x : AV) (hx : SlA 2 (l.map cellsP) x) (hl : l.length ≤ 1000000) (hp nx) : Ret E 7 [x] hp nx (.str (printT l)) hp nx .p := by
  have c9' := f9 l x hx hl
  obtain ⟨nil, sz, cap, rfl, hz⟩ := id hx
  refine Ret_pureQ e7 rfl (by simp) ?_ hp nx
  simp [c7]
  refine W_loopI (I := fun (j : Nat) s => j ≤ l.length ∧ (0 < j → rightS l = true) ∧ s.tm 4 = .v (.int .i64 j) ∧ s.tm 3 = .str (preT l j) ∧ s.tm 0 = .rs nil sz (l.map cellsP) cap ∧ s.hp = hnil ∧ s.nx = 0) (fun j => l.length - j) 0 (by simp [preT, Lib.join_nil]) ?_
  rintro j tm hp nx ⟨hj, hr0, t4, t3, t0, rfl, rfl⟩
  simp only at hj hr0 t4 t3 t0
  by_cases hlt : j < l.length
  · simp [t4, t3, t0, hlt]
    refine WCall_p (c9' _ _) ?_
    cases hr : rightS l with
    | false =>
      have : j = 0 := by
        rcases Nat.eq_zero_or_pos j with h | h
        · exact h
        · rw [hr0 h] at hr; cases hr
      subst this
      simp [t3, preT, Lib.join_nil, printT, hr]
    | true =>
      obtain ⟨_, r2, r3⟩ := right_b hr
      have hget : l[j]? = some l[j] := List.getElem?_eq_getElem hlt
      have hm := List.getElem_mem hlt
      have hb := r3 _ hm
      have hia : iaddrA 2 (.rs nil sz (l.map cellsP) cap) (.v (.int .i64 j)) = some (.rp (cellsP l[j])) := iaddr_in hz (by simp [hlt]) rfl
      have hw : IntKind.wrap .i64 ((j : Int) + 1) = (j + 1 : Nat) := by rw [wrap_id] <;> omega
      have hsuc := preT_succ hlt
      obtain ⟨a, b, hab⟩ : ∃ a b, l[j] = (a, b) := ⟨_, _, rfl⟩
      rw [hab] at hia hm hget hb hsuc
      simp only at hb
      obtain ⟨a, rfl⟩ : ∃ u : Nat, a = u := ⟨a.toNat, by omega⟩
      obtain ⟨b, rfl⟩ : ∃ u : Nat, b = u := ⟨b.toNat, by omega⟩
      have ca := fun hp nx => f19 a (by omega) hp nx
      have cb := fun hp nx => f19 b (by omega) hp nx
      have la := numT_len a hb.1.1 hb.1.2
      have lb := numT_len b hb.2.1 hb.2.2
      have lp := preT_len hr j
      have hp0 : preT l 0 = [] := by simp [preT, Lib.join_nil]
      have la2 : (numT a).length ≤ 9223372036854775807 := by omega
      by_cases hj0 : j = 0
      · subst hj0
        have hia0 : iaddrA 2 (.rs nil sz (l.map cellsP) cap) (.v (.int .i64 0)) = some (.rp (cellsP ((a : Int), (b : Int)))) := hia
        have hq : preT l 1 = numT a ++ (if (a : Int) = b then [] else 58 :: numT b) := by rw [hsuc]; simp [spanT]
        simp [t4, t3, t0, -iaddrA_rs, hia0, cellsP, hp0]
        refine WCall_p (ca _ _) ?_
        by_cases hab2 : a = b
        · subst hab2
          simp at hq
          simp [t4, t3, t0, -iaddrA_rs, hia0, cellsP, la2]
          exact ⟨1, by omega, by omega, hw, hq.symm⟩
        · have hne : ¬ (a : Int) = b := by omega
          rw [if_neg hne] at hq
          have l3 : (numT a).length + 1 ≤ 9223372036854775807 := by omega
          have l4 : (numT a).length + ((numT b).length + 1) ≤ 9223372036854775807 := by omega
          simp [t4, t3, t0, -iaddrA_rs, hia0, cellsP, hne, la2, l3]
          refine WCall_p (cb _ _) ?_
          simp [t4, t3, t0, -iaddrA_rs, hia0, cellsP, hne, la2, l3]
          exact ⟨by omega, 1, by omega, by omega, hw, hq.symm⟩
      · have hj1 : 0 < j := by omega
        have hq : preT l (j + 1) = preT l j ++ 44 :: (numT a ++ (if (a : Int) = b then [] else 58 :: numT b)) := by rw [hsuc]; simp [spanT, hj0]
        have l1 : (preT l j).length + 1 ≤ 9223372036854775807 := by omega
        have l2 : (preT l j).length + 1 + (numT a).length ≤ 9223372036854775807 := by omega
        simp [t4, t3, t0, -iaddrA_rs, hia, cellsP, hj1, l1]
        refine WCall_p (ca _ _) ?_
        by_cases hab2 : a = b
        · subst hab2
          simp at hq
          simp [t4, t3, t0, -iaddrA_rs, hia, cellsP, l2]
          exact ⟨j + 1, by omega, by omega, hw, hq.symm⟩
        · have hne : ¬ (a : Int) = b := by omega
          rw [if_neg hne] at hq
          have l3 : (preT l j).length + 1 + (numT a).length + 1 ≤ 9223372036854775807 := by omega
          simp [t4, t3, t0, -iaddrA_rs, hia, cellsP, hne, l2, l3]
          refine ⟨by omega, WCall_p (cb _ _) ?_⟩
          simp [t4, t3, t0, -iaddrA_rs, hia, cellsP, hne, l2, l3]
          exact ⟨by omega, j + 1, by omega, by omega, hw, hq.symm⟩
  · have : j = l.length := by omega
    subst this
    simp [t4, t3, t0, hlt]
    by_cases h : 0 < l.length
    · rw [printT, if_pos (hr0 h), preT_all]
    · have : l = [] := List.length_eq_zero_iff.1 (by omega)
      subst this
      rfl
end Go.Ai

namespace Go.Ai
set_option linter.unusedVariables false
set_option linter.unusedSimpArgs false

theorem c18 (es : List (List UInt8)) (h1 : es.length ≤ 140737488355328) (h2 : (Lib.join es [44]).length ≤ 140737488355328) (y : AV) (hy : SlA 1 (es.map strC) y) :
    ∃ v, v = .str (Lib.join es [44]) ∧ ∀ hp nx, Ret E 18 (y :: [.str [44]]) hp nx v hp nx .p := by
  obtain ⟨nil, sz, cap, rfl, hz⟩ := hy
  refine ⟨_, rfl, fun hp nx => Ret_prim (.inr (.inr ⟨rfl, rfl, rfl, rfl, nil, sz, es, cap, [44], rfl, ⟨hz.1, fun h => ?_⟩, h1, h2, rfl⟩))⟩
  have := hz.2 h
  simpa using this

def strsT (l : List Sp) (j : Nat) : Blk := (l.take j).map fun x => strC (spanT x)
theorem strsT_len (l : List Sp) (j : Nat) (h : j ≤ l.length) : (strsT l j).length = j := by simp [strsT, h]
theorem strsT_succ {l : List Sp} {j : Nat} {x : Sp} (h : l[j]? = some x) : strsT l (j + 1) = strsT l j ++ [[.str (spanT x)]] := by
  simp only [strsT]; rw [List.take_add_one, h, List.map_append]; rfl
theorem strsT_closed (l : List Sp) (j : Nat) : closedLL (strsT l j) = true := by
  unfold strsT
  generalize l.take j = m
  induction m with
  | nil => rfl
  | cons x r ih => simpa [strC] using ih
theorem f6 (l : List Sp) (x : AV) (hx : SlA 2 (l.map cellsP) x) (hl : l.length ≤ 1000000) (hp nx) : Ret E 6 [x] hp nx (.str (printT l)) hp nx .p := by
  have c8' := f8 l x hx hl
  obtain ⟨nil, sz, cap, rfl, hz⟩ := id hx
  refine Ret_pureQ e6 rfl (by simp) ?_ hp nx
  simp [c6]
  refine WCall_p (c8' _ _) ?_
  cases hr : rightS l with
  | false => simp [printT, hr]
  | true =>
    obtain ⟨_, r2, r3⟩ := right_b hr
    simp
    refine W_loopI (I := fun (j : Nat) s => j ≤ l.length ∧ s.tm 12 = .v (.int .i64 j) ∧ s.tm 11 = .v (.int .i64 l.length) ∧ s.tm 10 = .rs nil sz (l.map cellsP) cap ∧ OwnS s.hp s.nx 1 (strsT l j) (s.tm 3)) (fun j => l.length - j) 0 ⟨by omega, by simp, by simp, by simp, by simpa [strsT] using OwnS.nil⟩ ?_
    rintro j tm hp nx ⟨hj, t12, t11, t10, hO⟩
    simp only at hj t12 t11 t10 hO
    by_cases hlt : j < l.length
    · have hget : l[j]? = some l[j] := List.getElem?_eq_getElem hlt
      have hm := List.getElem_mem hlt
      have hb := r3 _ hm
      have hia : iaddrA 2 (.rs nil sz (l.map cellsP) cap) (.v (.int .i64 j)) = some (.rp (cellsP l[j])) := iaddr_in hz (by simp [hlt]) rfl
      have hw : IntKind.wrap .i64 ((j : Int) + 1) = (j + 1 : Nat) := by rw [wrap_id] <;> omega
      have hsl := strsT_len l j hj
      obtain ⟨a, b, hab⟩ : ∃ a b, l[j] = (a, b) := ⟨_, _, rfl⟩
      rw [hab] at hia hm hget hb
      have htk := strsT_succ hget
      simp only at hb
      have ca := fun hp nx => f17 a (by omega) (by omega) hp nx
      have cb := fun hp nx => f17 b (by omega) (by omega) hp nx
      have la := numT_len a hb.1.1 hb.1.2
      have lb := numT_len b hb.2.1 hb.2.2
      have hlt2 := hO.lt
      have hO2 : ∀ hp', (∀ q, q < nx → hp' q = hp q) → OwnS hp' (nx + 1) 1 (strsT l j) (tm 3) := fun hp' h => hO.keep (by omega) fun q hq => h q (hlt2 q hq)
      simp [t12, t11, t10, hlt, -iaddrA_rs, hia, cellsP, spliceL]
      refine WCall_p (ca _ _) ?_
      by_cases hne : a = b
      · subst hne
        simp [t12, t11, t10, spliceL]
        refine mvE_app (hO2 _ fun q hq => by
          have : ¬ q = nx := by omega
          simp [this]) (by simp) (by simp; omega) ?_
        intro hp2 hn hk
        simp [t12, t11, t10]
        refine ⟨j + 1, by omega, by omega, hw, ?_⟩
        rw [htk]
        exact .inr ⟨nx + 1, by omega, by simp, by rw [hn]; simp [spanT]⟩
      · have l3 : (numT b).length + 1 ≤ 9223372036854775807 := by omega
        have l4 : (numT a).length + ((numT b).length + 1) ≤ 9223372036854775807 := by omega
        simp [t12, t11, t10, spliceL, hne]
        refine WCall_p (cb _ _) ?_
        simp [t12, t11, t10, spliceL, hne, l3, l4]
        refine ⟨by omega, ?_⟩
        refine mvE_app (hO2 _ fun q hq => by
          have : ¬ q = nx := by omega
          simp [this]) (by simp) (by simp; omega) ?_
        intro hp2 hn hk
        simp [t12, t11, t10]
        refine ⟨j + 1, by omega, by omega, hw, ?_⟩
        rw [htk]
        exact .inr ⟨nx + 1, by omega, by simp, by rw [hn]; simp [spanT, hne]⟩
    · have : j = l.length := by omega
      subst this
      simp [t12, t11]
      rw [printT, if_pos hr]
      obtain ⟨v, hv, q1⟩ := Ret_giveP (G := fun v => v = .str (Lib.join (l.map spanT) [44])) hO (strsT_closed _ _) (rest := [.str [44]]) (by simp) (fun y hy => c18 (l.map spanT) (by simp; omega) (by
        have := preT_len hr l.length
        rw [preT_all] at this; omega) y (by
          have : (l.map spanT).map strC = strsT l l.length := by simp [strsT, Function.comp_def]
          rw [this]; exact hy))
      subst hv
      refine WCall_k q1 ?_
      simp
end Go.Ai
