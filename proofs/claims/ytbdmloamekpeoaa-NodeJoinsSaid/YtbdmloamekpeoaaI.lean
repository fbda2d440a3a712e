/- Texts under way. -/
import Derived.Test.YtbdmloamekpeoaaH
namespace Go.Ai
set_option linter.unusedVariables false
set_option linter.unusedSimpArgs false

/-- The text at block w is l; what it stands in lies behind w. -/
def TX (hp : Heap) (nx w : Nat) (l : List UInt8) : Prop :=
  w < nx ∧ ((hp w = some [[.rs true 0 [] (some 0)]] ∧ l = []) ∨ ∃ b, w < b ∧ b < nx ∧ hp w = some [[.sl b 1 0 l.length none]] ∧ hp b = some (bytesOf l))

theorem bytesOf_length {l : List UInt8} : (bytesOf l).length = l.length := by simp [bytesOf]
theorem bytesOf_append {a b : List UInt8} : bytesOf a ++ bytesOf b = bytesOf (a ++ b) := by simp [bytesOf]

/-- Blocks that the text at w stands in. -/
def TXb (hp : Heap) (w r : Nat) : Prop := r = w ∨ ∃ n c, hp w = some [[.sl r 1 0 n c]]
/-- What a step that writes on the text at w leaves alone. -/
structure TXF (w : Nat) (hp : Heap) (nx : Nat) (hp' : Heap) (nx' : Nat) : Prop where
  le : nx ≤ nx'
  keep : ∀ r, r < nx → ¬ TXb hp w r → hp' r = hp r ∧ ¬ TXb hp' w r
theorem TXF.refl {w hp nx} : TXF w hp nx hp nx := ⟨Nat.le_refl _, fun r h1 h2 => ⟨rfl, h2⟩⟩
theorem TXF.trans {w hp nx hp1 nx1 hp2 nx2} (h : TXF w hp nx hp1 nx1) (k : TXF w hp1 nx1 hp2 nx2) : TXF w hp nx hp2 nx2 :=
  ⟨Nat.le_trans h.le k.le, fun r h1 h2 => by
    obtain ⟨a, b⟩ := h.keep r h1 h2
    obtain ⟨c, d⟩ := k.keep r (Nat.lt_of_lt_of_le h1 h.le) b
    exact ⟨c.trans a, d⟩⟩

/-- Some bytes more: what the append gives, and what is there once that is stored. -/
theorem TX.append {hp : Heap} {nx w : Nat} {l : List UInt8} (h : TX hp nx w l) (new : List UInt8) (hn : l.length + new.length ≤ 100000000) (hne : l ≠ [] ∨ new ≠ []) :
    ∃ bv v hp' nx', hp w = some [[bv]] ∧ appA 1 1 bv (bytesOf new) hp nx = some (v, hp', nx') ∧ hp' w = some [[bv]] ∧ v.cells = [v] ∧ v.one = true ∧ TXF w hp nx (hupd hp' w (some [[v]])) nx' ∧ TX (hupd hp' w (some [[v]])) nx' w (l ++ new) := by
  obtain ⟨hw, h⟩ := h
  rcases h with ⟨h1, rfl⟩ | ⟨b, hb, hbn, h1, h2⟩
  · have hne : new ≠ [] := by simpa using hne
    have hl : new.length ≠ 0 := by simpa using hne
    refine ⟨_, .sl nx 1 0 new.length none, hupd hp nx (some (bytesOf new)), nx + 1, h1, ?_, ?_, rfl, rfl, ?_, ?_⟩
    · simp only [appA, true_or, if_true, bytesOf_length, hl, if_false, List.length_nil, Nat.zero_add]
      rw [if_pos ⟨by omega, by simp at hn ⊢; omega⟩]; rfl
    · simp [show ¬ w = nx by omega, h1]
    · refine ⟨by omega, fun r hr hb => ⟨?_, ?_⟩⟩
      · simp [show ¬ r = w from fun e => hb (.inl e), show ¬ r = nx by omega]
      · rintro (e | ⟨n, c, e⟩)
        · exact hb (.inl e)
        · simp at e; omega
    · refine ⟨by omega, .inr ⟨nx, hw, by omega, ?_, ?_⟩⟩
      · simp
      · simp [show ¬ nx = w by omega]
  · by_cases hl : new = []
    · subst hl
      refine ⟨_, .sl b 1 0 l.length none, hupd hp b (some (bytesOf l)), nx, h1, ?_, ?_, rfl, rfl, ?_, ?_⟩
      · simp only [appA, if_true, h2, bytesOf_length, Nat.zero_add, List.length_nil]
        rw [if_neg (by omega)]
        simp [bytesOf, spliceL]
      · simp [show ¬ w = b by omega, h1]
      · refine ⟨by omega, fun r hr hb => ⟨?_, ?_⟩⟩
        · simp [show ¬ r = w from fun e => hb (.inl e), show ¬ r = b from fun e => hb (.inr ⟨_, _, by rw [e]; exact h1⟩)]
        · rintro (e | ⟨n, c, e⟩)
          · exact hb (.inl e)
          · simp at e; exact hb (.inr ⟨_, _, by rw [← e.1]; exact h1⟩)
      · refine ⟨hw, .inr ⟨b, hb, hbn, ?_, ?_⟩⟩
        · simp
        · simp [show ¬ b = w by omega]
    · have hl' : new.length ≠ 0 := by simpa using hl
      refine ⟨_, .sl nx 1 0 (l.length + new.length) none, hupd (hupd hp b none) nx (some (bytesOf l ++ bytesOf new)), nx + 1, h1, ?_, ?_, rfl, rfl, ?_, ?_⟩
      · simp only [appA, if_true, h2, bytesOf_length, Nat.zero_add]
        rw [if_neg (by omega), if_neg (by omega), if_pos (by omega)]
        have : (bytesOf l).take l.length = bytesOf l := by rw [← bytesOf_length (l := l)]; exact List.take_length
        simp [this]
      · simp [show ¬ w = b by omega, show ¬ w = nx by omega, h1]
      · refine ⟨by omega, fun r hr hb => ⟨?_, ?_⟩⟩
        · simp [show ¬ r = w from fun e => hb (.inl e), show ¬ r = b from fun e => hb (.inr ⟨_, _, by rw [e]; exact h1⟩), show ¬ r = nx by omega]
        · rintro (e | ⟨n, c, e⟩)
          · exact hb (.inl e)
          · simp at e; omega
      · refine ⟨by omega, .inr ⟨nx, hw, by omega, ?_, ?_⟩⟩
        · simp
        · simp [show ¬ nx = w by omega, bytesOf_append]

/-- Some low bytes of a number, the highest first. -/
theorem numS_shift (x : Nat) : ∀ n k, k < n → numS (x / 256 ^ (n - k)) k ++ UInt8.ofNat (x / 256 ^ (n - 1 - k) % 256) :: [] = numS (x / 256 ^ (n - 1 - k)) (k + 1) := by
  intro n k hk
  have : 256 ^ (n - k) = 256 ^ (n - 1 - k) * 256 := by rw [← Nat.pow_succ]; congr 1; omega
  simp only [numS]
  rw [Nat.div_div_eq_div_mul, this]

theorem f38 (x n : Nat) (hx : x ≤ 9223372036854775807) (hn : n ≤ 7) (hp : Heap) (nx w : Nat) (l : List UInt8) (hl : l.length ≤ 10000000) (h : TX hp nx w l) :
    ∃ hp' nx', Ret E 38 [.ptr w 0 0, .v (.int .i64 x), .v (.int .i64 n)] hp nx (.tup []) hp' nx' .e ∧ TX hp' nx' w (l ++ numS x n) ∧ TXF w hp nx hp' nx' := by
  have main := Ret_genE (P := fun v hp' nx' => v = .tup [] ∧ TX hp' nx' w (l ++ numS x n) ∧ TXF w hp nx hp' nx') e38 (args := [.ptr w 0 0, .v (.int .i64 x), .v (.int .i64 n)]) rfl (hp := hp) (nx := nx) ?_
  · obtain ⟨v, hp', nx', h1, rfl, h2⟩ := main
    exact ⟨hp', nx', h1, h2⟩
  · simp [c38]
    have hw0 : IntKind.wrap .i64 ((n : Int) - 1) = (n : Int) - 1 := by rw [wrap_id] <;> omega
    refine W_loopI (I := fun (k : Nat) s => k ≤ n ∧ s.tm 6 = .int .i64 ((n : Int) - 1 - k) ∧ s.tm 0 = .ptr w 0 0 ∧ s.tm 1 = .int .i64 x ∧ TX s.hp s.nx w (l ++ numS (x / 256 ^ (n - k)) k) ∧ TXF w hp nx s.hp s.nx)
      (fun k => n - k) 0 (by simp [hw0, h, numS, TXF.refl]) ?_
    rintro k tm hp1 nx1 ⟨hk, t6, t0, t1, hT, hF⟩
    simp only at t6 t0 t1 hT hF
    by_cases hlt : k < n
    · have h6 : (n : Int) - 1 - k = (n - 1 - k : Nat) := by omega
      rw [h6] at t6
      have hw1 : IntKind.wrap .i64 (8 * ((n - 1 - k : Nat) : Int)) = (8 * (n - 1 - k) : Nat) := by rw [wrap_id] <;> omega
      have hsh : shA .shr .i64 (x : Int) ((8 * (n - 1 - k) : Nat) : Int) = some (.int .i64 ((x / 256 ^ (n - 1 - k) : Nat) : Int)) := by
        simp only [shA]
        rw [if_neg (by omega)]
        have e1 : Nat.min ((8 * (n - 1 - k) : Nat) : Int).toNat (IntKind.bits .i64) = 8 * (n - 1 - k) := by
          simp only [Int.toNat_natCast]; show Nat.min _ 64 = _; exact Nat.min_eq_left (by omega)
        rw [e1]
        have e2 : (2 : Int) ^ (8 * (n - 1 - k)) = ((256 ^ (n - 1 - k) : Nat) : Int) := by
          rw [Int.pow_mul]; norm_cast
        rw [e2, Int.fdiv_eq_ediv_of_nonneg _ (Int.natCast_nonneg _)]
        norm_cast
      generalize hy : x / 256 ^ (n - 1 - k) = y at hsh
      have hby : [[AV.v (.int .u8 (IntKind.wrap .u8 (y : Int)))]] = bytesOf [UInt8.ofNat (y % 256)] := by
        rw [IntKind.wrap_u8]
        simp [bytesOf]
      obtain ⟨bv, v, hp2, nx2, g1, g2, g3, g4, g5, g7, g8⟩ := hT.append [UInt8.ofNat (y % 256)] (by simp [numS_length]; omega) (.inr (by simp))
      have hw2 : IntKind.wrap .i64 (((n - 1 - k : Nat) : Int) - 1) = (n : Int) - 1 - (k + 1 : Nat) := by
        have e : ((n - 1 - k : Nat) : Int) = n - 1 - k := by omega
        rw [e, wrap_id] <;> omega
      rw [← hby] at g2
      simp [t6, t0, t1, hw1, hsh, g1, g2, g3, g4, g5, hw2, -Int.natCast_mul, spliceL]
      refine ⟨k + 1, by omega, by omega, by simp, ?_, hF.trans g7⟩
      · have := numS_shift x n k hlt
        rw [hy] at this
        rw [show n - (k + 1) = n - 1 - k by omega, hy, ← this, ← List.append_assoc]
        exact g8
    · have : k = n := by omega
      subst this
      have : (k : Int) - 1 - k = -1 := by omega
      rw [this] at t6
      simp [t6]
      refine ⟨?_, hF⟩
      simpa using hT

theorem f39 (hp : Heap) (nx w : Nat) (l s : List UInt8) (hl : l.length ≤ 9000000) (hs : s.length ≤ 255) (h : TX hp nx w l) :
    ∃ hp' nx', Ret E 39 [.ptr w 0 0, .str s] hp nx (.tup []) hp' nx' .e ∧ TX hp' nx' w (l ++ (numS s.length 1 ++ s)) ∧ TXF w hp nx hp' nx' := by
  have main := Ret_genE (P := fun v hp' nx' => v = .tup [] ∧ TX hp' nx' w (l ++ (numS s.length 1 ++ s)) ∧ TXF w hp nx hp' nx') e39 (args := [.ptr w 0 0, .str s]) rfl (hp := hp) (nx := nx) ?_
  · obtain ⟨v, hp', nx', h1, rfl, h2⟩ := main
    exact ⟨hp', nx', h1, h2⟩
  · obtain ⟨hp1, nx1, r1, r2, r3⟩ := f38 s.length 1 (by omega) (by omega) hp nx w l (by omega) h
    obtain ⟨bv, v, hp2, nx2, g1, g2, g3, g4, g5, g7, g8⟩ := r2.append s (by simp [numS_length]; omega) (.inl (by simp [numS]))
    simp [c39]
    refine WCall_k r1 ?_
    simp [g1, g2, g3, g4, g5, spliceL]
    exact ⟨by simpa using g8, r3.trans g7⟩

theorem f40 (hp : Heap) (nx w : Nat) (l : List UInt8) (x : Itm) (hx : itemS x = true) (hl : l.length ≤ 8000000) (h : TX hp nx w l) :
    ∃ hp' nx', Ret E 40 [.ptr w 0 0, .agg x.cells] hp nx (.tup []) hp' nx' .e ∧ TX hp' nx' w (l ++ itemB x) ∧ TXF w hp nx hp' nx' := by
  have main := Ret_genE (P := fun v hp' nx' => v = .tup [] ∧ TX hp' nx' w (l ++ itemB x) ∧ TXF w hp nx hp' nx') e40 (args := [.ptr w 0 0, .agg x.cells]) rfl (hp := hp) (nx := nx) ?_
  · obtain ⟨v, hp', nx', h1, rfl, h2⟩ := main
    exact ⟨hp', nx', h1, h2⟩
  · have hnw : w < nx := h.1
    have hN : ¬ TXb (hupd hp nx (some [x.cells])) w nx := by
      rintro (e | ⟨n, c, e⟩)
      · omega
      · simp [show ¬ w = nx by omega] at e
        obtain ⟨_, h⟩ := h
        rcases h with ⟨h1, _⟩ | ⟨b, _, h2, h3, _⟩
        · rw [h1] at e; simp at e
        · rw [h3] at e; simp at e; omega
    have hF0 : TXF w hp nx (hupd hp nx (some [x.cells])) (nx + 1) := by
      refine ⟨by omega, fun r hr hb => ⟨by simp [show ¬ r = nx by omega], ?_⟩⟩
      rintro (e | ⟨n, c, e⟩)
      · exact hb (.inl e)
      · simp [show ¬ w = nx by omega] at e
        exact hb (.inr ⟨n, c, e⟩)
    have hT : TX (hupd hp nx (some [x.cells])) (nx + 1) w l := by
      obtain ⟨_, h⟩ := h
      refine ⟨by omega, ?_⟩
      rcases h with ⟨h1, h2⟩ | ⟨b, h1, h2, h3, h4⟩
      · exact .inl ⟨by simp [show ¬ w = nx by omega, h1], h2⟩
      · exact .inr ⟨b, h1, by omega, by simp [show ¬ w = nx by omega, h3], by simp [show ¬ b = nx by omega, h4]⟩
    rcases itemS_cases hx with ⟨q1, q2, q3⟩ | ⟨p, s, q1, q2, q3, q4, q5, q6, q7⟩
    · obtain ⟨hp1, nx1, r1, r2, r3⟩ := f39 _ _ w l x.v (by omega) (by omega) hT
      have r1' := r1
      simp only [Itm.cells, q1] at r1'
      simp [c40, Itm.cells, q1]
      refine WCall_k r1' ?_
      have hb : itemB x = numS x.v.length 1 ++ x.v := by simp [itemB, q1]
      simp [hb]
      exact ⟨r2, hF0.trans r3⟩
    · obtain ⟨hp1, nx1, r1, r2, r3⟩ := f38 255 1 (by omega) (by omega) _ _ w l (by omega) hT
      obtain ⟨hp2, nx2, u1, u2, u3⟩ := f38 p 4 (by omega) (by omega) _ _ w _ (by simp [numS_length]; omega) r2
      obtain ⟨hp3, nx3, v1, v2, v3⟩ := f38 s 4 (by omega) (by omega) _ _ w _ (by simp [numS_length]; omega) u2
      have k1 := r3.keep nx (by omega) hN
      have k2 := u3.keep nx (by have := r3.le; omega) k1.2
      have hc1 : hp1 nx = some [x.cells] := by rw [k1.1]; simp
      have hc2 : hp2 nx = some [x.cells] := by rw [k2.1, hc1]
      simp only [Itm.cells] at hc1 hc2 r1
      have hp0 : ¬ x.p = 0 := by omega
      simp [c40, Itm.cells, hp0]
      refine WCall_k r1 ?_
      simp [hc1, q1]
      refine WCall_k u1 ?_
      simp [hc2, q2]
      refine WCall_k v1 ?_
      have hb : itemB x = [255] ++ numS p 4 ++ numS s 4 := by simp [itemB, q1, q2, show 0 < p by omega]
      have h255 : numS 255 1 = [255] := rfl
      simp [hb]
      refine ⟨?_, hF0.trans (r3.trans (u3.trans v3))⟩
      simpa [h255] using v2
end Go.Ai
