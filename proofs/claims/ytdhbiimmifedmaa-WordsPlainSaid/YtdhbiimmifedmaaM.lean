/- Join. -/
import Derived.Test.YtdhbiimmifedmaaL
namespace Go.Ai
set_option linter.unusedVariables false
set_option linter.unusedSimpArgs false

theorem f53 (hp : Heap) (nx r n : Nat) (hn : n ≤ 10000000) (h1 : r + 1 < nx) (h2 : hp (r + 1) = some [[.ty 48 2]]) (h3 : hp r = some [[.ptr r 0 0, .rs true 0 [] (some 0)]]) :
    ∃ v hp' nx', Ret E 53 [.ptr r 0 0, .v (.int .i64 n)] hp nx v hp' nx' .e ∧ BLD hp' nx' r [] := by
  refine (Ret_genE (P := fun v hp' nx' => BLD hp' nx' r []) e53 (args := [.ptr r 0 0, .v (.int .i64 n)]) rfl (hp := hp) (nx := nx) ?_)
  have hw0 : IntKind.wrap .i64 0 = 0 := by rw [wrap_id] <;> omega
  have hw : IntKind.wrap .i64 (n : Int) = n := by rw [wrap_id] <;> omega
  have hsl : sliceA 1 (.sl nx 1 0 n none) none (some (.v (.int .i64 0))) none = some (.sl nx 1 0 0 none) := by
    simp [sliceA, boundsA, idxOf, capCut]
  simp [c53, h3, hw0, hw]
  refine WCall_k (Ret_mkb rfl ext54 n (by omega) hp nx) ?_
  simp [h3, hsl, show ¬ r = nx by omega, show ¬ r = nx + 1 by omega, copyA, elemsA, spliceL]
  refine BLD.mk' (y := .sl nx 1 0 0 none) (by omega) (by simp [h2, show ¬ r + 1 = r by omega, show ¬ r + 1 = nx by omega, show ¬ r + 1 = nx + 1 by omega, show ¬ r = nx by omega]) (by simp) (.inr ⟨nx, [], 0, by omega, rfl, ?_, ?_, Nat.le_refl _, rfl⟩) (by simp; omega) (by simp; omega)
  · simp [show ¬ nx + 1 = r by omega]
  · simp [show ¬ nx = r by omega]

theorem f42 (hp : Heap) (nx r n : Nat) (hn : n ≤ 10000000) (h1 : r + 1 < nx) (h2 : hp (r + 1) = some [[.ty 48 2]]) (h3 : hp r = some [[.v (.pointer none), .rs true 0 [] (some 0)]]) :
    ∃ v hp' nx', Ret E 42 [.ptr r 0 0, .v (.int .i64 n)] hp nx v hp' nx' .e ∧ BLD hp' nx' r [] := by
  refine (Ret_genE (P := fun v hp' nx' => BLD hp' nx' r []) e42 (args := [.ptr r 0 0, .v (.int .i64 n)]) rfl (hp := hp) (nx := nx) ?_)
  obtain ⟨hp1, r1, r2, r3⟩ := f40 hp nx r _ _ (.inl rfl) h3 h2
  have w1 : hp1 (r + 1) = some [[.ty 48 2]] := by rw [r3 _ (by omega), h2]
  have hn0 : ¬ (n : Int) < 0 := by omega
  have hw0 : IntKind.wrap .i64 0 = 0 := by rw [wrap_id] <;> omega
  simp [c42]
  refine WCall_k r1 ?_
  by_cases hp0 : 0 < n
  · have hp0' : (0 : Int) < n := by omega
    obtain ⟨v, hp2, nx2, u1, u2⟩ := f53 hp1 nx r n hn h1 w1 r2
    simp [hn0, r2, hw0, hp0]
    refine WCall_k u1 ?_
    simp
    exact u2
  · have hp0' : ¬ (0 : Int) < n := by omega
    simp [hn0, r2, hw0, hp0]
    exact BLD.mk' h1 w1 r2 (.inl ⟨rfl, rfl⟩) (by simp) (by simp)

theorem f43 (m : List UInt8) (hp : Heap) (nx r : Nat) (l : List UInt8) (hl : l.length + m.length ≤ 100000000) (h : BLD hp nx r l) :
    ∃ v hp' nx', Ret E 43 [.ptr r 0 0, .str m] hp nx v hp' nx' .e ∧ BLD hp' nx' r (l ++ m) := by
  refine (Ret_genE (P := fun v hp' nx' => BLD hp' nx' r (l ++ m)) e43 (args := [.ptr r 0 0, .str m]) rfl (hp := hp) (nx := nx) ?_)
  obtain ⟨h1, h2, a, y, h3, h4, h5, h6, h7⟩ := h
  obtain ⟨hp1, r1, r2, r3⟩ := f40 hp nx r a y h4 h3 h2
  have t1 : TBy hp1 nx l y := h5.set h3 (by simp) h6 r3
  have w1 : hp1 (r + 1) = some [[.ty 48 2]] := by rw [r3 _ (by omega), h2]
  simp [c43]
  refine WCall_k r1 ?_
  simp [r2]
  refine mvE_t rfl t1 (by omega) fun y' hp2 nx2 u2 u3 u4 u5 => ?_
  have v2 : hp2 r = some [[.ptr r 0 0, y]] := by rw [u4 r (by omega) h6, r2]
  have w2 : hp2 (r + 1) = some [[.ty 48 2]] := by rw [u4 (r + 1) (by omega) h7, w1]
  have n6 : r ∉ slB y' := fun hh => by rcases u5 r hh with e | e; exact h6 e; omega
  have n7 : r + 1 ∉ slB y' := fun hh => by rcases u5 _ hh with e | e; exact h7 e; omega
  have hone : y'.cells = [y'] ∧ y'.one = true := by
    rcases u2 with ⟨rfl, _⟩ | ⟨q, es, k, _, rfl, _⟩ <;> exact ⟨rfl, rfl⟩
  simp [v2, hone, spliceL]
  refine BLD.mk' (y := y') (by omega) (by simp [w2]) (by simp) (u2.set v2 (by simp) n6 (fun p hp => by simp [hp])) n6 n7

def sC (k : List UInt8) : List AV := [.str k]
/-- Texts, one behind the other, with one between. -/
def joinS (sep : List UInt8) : List (List UInt8) → List UInt8
  | [] => []
  | a :: r => a ++ r.flatMap (sep ++ ·)
theorem joinS_ne {sep : List UInt8} : ∀ {es : List (List UInt8)} (h : es ≠ []), joinS sep es = es.head h ++ es.tail.flatMap (sep ++ ·)
  | [], h => absurd rfl h
  | a :: r, _ => rfl
def sumS (es : List (List UInt8)) : Nat := es.flatten.length
theorem sumS_take {es : List (List UInt8)} {j : Nat} (h : j < es.length) : sumS (es.take (j + 1)) = sumS (es.take j) + es[j].length := by
  rw [List.take_add_one, List.getElem?_eq_getElem h, Option.toList_some]
  simp only [sumS, List.flatten_append, List.flatten_cons, List.flatten_nil, List.append_nil, List.length_append]
theorem sumS_le (es : List (List UInt8)) (j : Nat) : sumS (es.take j) ≤ sumS es := by
  have : sumS es = sumS (es.take j) + sumS (es.drop j) := by
    simp only [sumS]
    rw [← List.length_append, ← List.flatten_append, List.take_append_drop]
  omega
theorem flat_len : ∀ l : List (List UInt8), (l.flatMap (32 :: ·)).length = l.length + sumS l
  | [] => rfl
  | a :: r => by
    have := flat_len r
    simp only [List.flatMap_cons, List.length_append, List.length_cons, this, sumS, List.flatten_cons]; omega
theorem closedLL_sC : ∀ es : List (List UInt8), closedLL (es.map sC) = true
  | [] => by simp
  | x :: r => by simp [sC, closedLL_sC r]
theorem iaddr_in {n : Nat} {nil sz k es cap} {i : Int} {j : Nat} {c : List AV} (hz : (nil = true ∨ sz = n) ∧ (nil = true → es = [])) (hj : es[j]? = some c) (hi : i = (j : Int)) : iaddrA n (.rs nil sz es cap) (.v (.int k i)) = some (.rp c) := by
  have hne : es ≠ [] := by intro e; subst e; simp at hj
  have := hz.1.resolve_left fun h => hne (hz.2 h)
  subst this; subst hi
  simp [hj]
theorem get_sC {es : List (List UInt8)} {j : Nat} (h : j < es.length) : (es.map sC)[j]? = some [.str es[j]] := by simp [h, sC]

theorem head_getL {α : Type} : ∀ (l : List α) (h : l ≠ []), l[0]? = some (l.head h)
  | [], h => absurd rfl h
  | a :: r, _ => rfl
set_option maxHeartbeats 400000 in
theorem f32 (es : List (List UInt8)) (nil : Bool) (z : Nat) (cap : Option Nat) (hz : (nil = true ∨ z = 1) ∧ (nil = true → es = [])) (hn : es.length ≤ 1000) (ht : sumS es ≤ 1000000) (hp nx) :
    Ret E 32 [.rs nil z (es.map sC) cap, .str [32]] hp nx (.str (joinS [32] es)) hp nx .p := by
  refine Ret_pureQ e32 rfl (by simp; exact closedLL_sC es) ?_ hp nx
  match es, hz, hn, ht with
  | [], _, _, _ => simp [c32, joinS]
  | [a], hz, _, _ =>
    have hia : iaddrA 1 (.rs nil z [[.str a]] cap) (.v (.int .i64 0)) = some (.rp [.str a]) := iaddr_in (j := 0) ⟨hz.1, fun h => by simpa using hz.2 h⟩ (by simp) rfl
    simp [c32, joinS, hia, -iaddrA_rs, sC]
  | a :: b :: r, hz, hn, ht =>
    have hl2 : 2 ≤ (a :: b :: r).length := by simp
    generalize a :: b :: r = es at hn ht hz hl2
    have k0 : ¬ (es.length : Int) = 0 := by omega
    have k0' : ¬ es = [] := by intro e; rw [e] at hl2; simp at hl2
    have k1 : ¬ (es.length : Int) = 1 := by omega
    have k1' : ¬ es.length = 1 := by omega
    rw [joinS_ne k0']
    have hhd : es[0]? = some (es.head k0') := head_getL es k0'
    have hz' : (nil = true ∨ z = 1) ∧ (nil = true → es.map sC = []) := ⟨hz.1, fun h => by rw [hz.2 h]; rfl⟩
    have hw1 : IntKind.wrap .i64 ((es.length : Int) - 1) = (es.length - 1 : Nat) := by rw [wrap_id] <;> omega
    have hwm : IntKind.wrap .i64 ((es.length - 1 : Nat) : Int) = (es.length - 1 : Nat) := by rw [wrap_id] <;> omega
    have hq : (9223372036854775807 : Int).tdiv ((es.length - 1 : Nat) : Int) = (9223372036854775807 / (es.length - 1) : Nat) := by
      rw [Int.tdiv_eq_ediv_of_nonneg (by decide)]; exact (Int.natCast_ediv 9223372036854775807 _).symm
    have hqw : IntKind.wrap .i64 ((9223372036854775807 / (es.length - 1) : Nat) : Int) = (9223372036854775807 / (es.length - 1) : Nat) := wrap_nat (Nat.div_le_self _ _)
    have hq1 : ¬ ((9223372036854775807 / (es.length - 1) : Nat) : Int) ≤ 1 := by
      have : 1000 ≤ 9223372036854775807 / (es.length - 1) := by rw [Nat.le_div_iff_mul_le (by omega)]; omega
      omega
    have hm0 : ¬ ((es.length - 1 : Nat) : Int) = 0 := by omega
    have hm0n : ¬ es.length - 1 = 0 := by omega
    have hq1n : ¬ 9223372036854775807 / (es.length - 1) ≤ 1 := by omega
    have hsum := sumS_le es
    simp [c32, k0', k1, hw1, hwm, hq, hqw, hq1, hm0, hm0n, hq1n, -Int.natCast_ediv]
    refine W_loopI (I := fun (j : Nat) s' => j ≤ es.length ∧ s'.tm 41 = .int .i64 j ∧ s'.tm 40 = .int .i64 es.length ∧ s'.tm 39 = .rs nil z (es.map sC) cap ∧ s'.tm 5 = .int .i64 (es.length - 1 + sumS (es.take j) : Nat) ∧ s'.tm 0 = .rs nil z (es.map sC) cap ∧ s'.tm 1 = .str [32] ∧ s'.hp = hnil ∧ s'.nx = 0) (fun j => es.length - j) 0 (by simp [sumS]) ?_
    rintro j tm hp nx ⟨hj, t41, t40, t39, t5, t0, t1, rfl, rfl⟩
    simp only at hj t41 t40 t39 t5 t0 t1
    have hsj := hsum j
    by_cases hlt : j < es.length
    · have hlt' : (j : Int) < es.length := by omega
      have hw : IntKind.wrap .i64 ((j : Int) + 1) = (j + 1 : Nat) := by rw [wrap_id] <;> omega
      have hia : iaddrA 1 (.rs nil z (es.map sC) cap) (.v (.int .i64 (j : Int))) = some (.rp [.str es[j]]) := iaddr_in hz' (get_sC hlt) rfl
      have hsj1 := hsum (j + 1)
      rw [sumS_take hlt] at hsj1
      have hwa : IntKind.wrap .i64 (9223372036854775807 - ((es.length - 1 + sumS (es.take j) : Nat) : Int)) = (9223372036854775807 - (es.length - 1 + sumS (es.take j)) : Nat) := by rw [wrap_id] <;> omega
      have hov : ¬ ((9223372036854775807 - (es.length - 1 + sumS (es.take j)) : Nat) : Int) < es[j].length := by omega
      have hws : IntKind.wrap .i64 (((es.length - 1 + sumS (es.take j) : Nat) : Int) + es[j].length) = (es.length - 1 + sumS (es.take (j + 1)) : Nat) := by rw [sumS_take hlt, wrap_id] <;> omega
      generalize es.length - 1 + sumS (es.take j) = n0 at t5 hwa hov hws
      simp [t41, t40, t39, t5, t0, t1, hlt', hia, hwa, hov, hws, hw, -iaddrA_rs, -Int.natCast_add, -Int.ofNat_lt]
      exact ⟨j + 1, by omega, by omega, rfl, rfl⟩
    · have : j = es.length := by omega
      subst this
      rw [List.take_length] at t5
      have hia0 : iaddrA 1 (.rs nil z (es.map sC) cap) (.v (.int .i64 0)) = some (.rp [.str (es.head k0')]) := iaddr_in (j := 0) hz' (by simp [sC, hhd]) rfl
      simp [t41, t40, t39, t5, t0, t1]
      obtain ⟨v1, hp1, nx1, r1, r2⟩ := f42 (hupd (hupd hnil 0 (some [[.v (.pointer none), .rs true 0 [] (some 0)]])) 1 (some [[.ty 48 2]])) 2 0 (es.length - 1 + sumS es) (by omega) (by omega) (by simp) (by simp)
      have hcons : es = es.head k0' :: es.tail := (List.cons_head_tail k0').symm
      have hsumc : sumS es = (es.head k0').length + sumS es.tail := by
        have h : sumS es = sumS (es.head k0' :: es.tail) := congrArg sumS hcons
        rw [h]; simp only [sumS, List.flatten_cons, List.length_append]
      have htl : es.tail.length = es.length - 1 := List.length_tail
      have hhl : (es.head k0').length ≤ sumS es := by omega
      have hslc : ∃ cap', sliceA 1 (.rs nil z (es.map sC) cap) (some (.v (.int .i64 1))) none none = some (.rs nil z (es.tail.map sC) cap') := by
        have h1 : (1 : Int) ≤ es.length := by omega
        have h2 : 1 ≤ es.length := by omega
        simp [sliceA, boundsA, idxOf, hz.1, h1, h2]
        rw [List.take_of_length_le (by simp)]
      obtain ⟨cap', hslc⟩ := hslc
      obtain ⟨v2, hp2, nx2, u1, u2⟩ := f43 (es.head k0') hp1 nx1 0 [] (by simp; omega) r2
      refine WCall_k r1 ?_
      simp [t0, t1, hia0, -iaddrA_rs]
      refine WCall_k u1 ?_
      generalize es.tail = tl at *
      generalize es.head k0' = hd at *
      simp [t0, t1, hslc]
      have hzt : (nil = true ∨ z = 1) ∧ (nil = true → tl.map sC = []) := ⟨hz.1, fun h => by have := hz.2 h; exact absurd this k0'⟩
      refine W_loopI (I := fun (j : Nat) s' => j ≤ tl.length ∧ s'.tm 65 = .int .i64 j ∧ s'.tm 64 = .int .i64 tl.length ∧ s'.tm 63 = .rs nil z (tl.map sC) cap' ∧ s'.tm 8 = .ptr 0 0 0 ∧ s'.tm 1 = .str [32] ∧ BLD s'.hp s'.nx 0 (hd ++ (tl.take j).flatMap (32 :: ·))) (fun j => tl.length - j) 0 (by simp [t1]; simpa using u2) ?_
      rintro j tm hp nx ⟨hj, t65, t64, t63, t8, t1, hB⟩
      simp only at hj t65 t64 t63 t8 t1 hB
      have hfl := flat_len (tl.take j)
      have hst := sumS_le tl j
      by_cases hlt : j < tl.length
      · have hlt' : (j : Int) < tl.length := by omega
        have hw : IntKind.wrap .i64 ((j : Int) + 1) = (j + 1 : Nat) := by rw [wrap_id] <;> omega
        have hia : iaddrA 1 (.rs nil z (tl.map sC) cap') (.v (.int .i64 (j : Int))) = some (.rp [.str tl[j]]) := iaddr_in hzt (get_sC hlt) rfl
        have hst1 := sumS_le tl (j + 1)
        rw [sumS_take hlt] at hst1
        rw [List.length_take] at hfl
        obtain ⟨v3, hp3, nx3, w1, w2⟩ := f43 [32] hp nx 0 _ (by simp only [List.length_append, List.length_cons, List.length_nil]; omega) hB
        obtain ⟨v4, hp4, nx4, z1, z2⟩ := f43 tl[j] hp3 nx3 0 _ (by simp only [List.length_append, List.length_cons, List.length_nil]; omega) w2
        simp [t65, t64, t63, t8, t1, hlt', hia, -iaddrA_rs, -Int.ofNat_lt]
        refine WCall_k w1 ?_
        simp [t8]
        refine WCall_k z1 ?_
        simp [t65, t64, t63, t8, t1, hw, -Int.natCast_add]
        refine ⟨j + 1, by omega, by omega, rfl, ?_⟩
        rw [List.take_add_one, List.getElem?_eq_getElem hlt, Option.toList_some, List.flatMap_append]
        simpa using z2
      · have : j = tl.length := by omega
        subst this
        rw [List.take_length] at hB hfl hst
        simp [t65, t64, t8]
        obtain ⟨hp5, nx5, y1⟩ := f31 hp nx 0 _ (by simp only [List.length_append]; omega) hB (by
          intro e
          have := congrArg List.length e
          simp only [List.length_append, List.length_nil] at this
          omega)
        refine WCall_k y1 ?_
        simp
end Go.Ai
