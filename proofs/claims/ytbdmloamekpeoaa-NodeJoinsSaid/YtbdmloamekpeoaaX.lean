/- Decode, whole; the document's helpers. -/
import Derived.Test.YtbdmloamekpeoaaW
namespace Go.Ai
set_option linter.unusedVariables false
set_option linter.unusedSimpArgs false

theorem f24 (kind : Int) (s : List UInt8) : ∃ v, decQ kind s v ∧ ∀ hp nx, Ret E 24 [.v (.int .i64 kind), .str s] hp nx v hp nx .p := by
  refine Ret_pureE e24 rfl (by simp) ?_
  have hm : (numR (s, false) 2).1 ≤ 65535 := by have := numR_lt (s, false) 2; omega
  have main : ∀ (st : St), kind = 1 ∨ kind = 2 → decI kind s (numR (s, false) 2).1 (decide (kind = 1)) (0, (startR kind (numR (s, false) 2).2).1, (startR kind (numR (s, false) 2).2).2) st →
      W (Ret E) (match c24.body with | .seq _ (.seq _ (.seq _ (.seq _ (.seq _ (.seq _ (.seq (.seq _ (.block _ l)) _)))))) => l | _ => .skip) (blkK 0 (seqK (Ret E) c24_rrrrrrr (pureEQ [.cell 4 (some 4), .t 5] (decQ kind s)))) st :=
    fun st hk h => f24_loop kind hk s _ hm _ _ st h
  simp only [c24] at main
  by_cases h1 : kind = 1
  · subst h1
    simp [c24, spliceL, -W_block]
    refine c46' (s, false) 2 (by omega) (by omega) (by simp [RD]) ?_
    intro hp1 nx1 hR1 hS1
    have e1 := hS1.keep 1 (by omega) (by omega)
    have e0 := hS1.keep 0 (by omega) (by omega)
    simp at e1 e0
    simp [e1, -W_block]
    simp only [W_block]
    refine main _ (.inl rfl) ?_
    have hle := hS1.le
    refine ⟨by simp, by simp, by simp, by simp, by simp, by simp, by simpa [zeroN] using e0, ⟨_, _, _, ⟨by simpa [startR] using e1, OwnS.nil, OwnS.nil, OwnS.nil, by simp, by simp, by simp, by simp, by simp, by simp⟩⟩, by simpa [startR] using hR1, (by show 2 < nx1; omega), rfl, by simp [startR], by simp [startR], by simp [startR], by simp [startR]⟩
  · by_cases h2 : kind = 2
    · subst h2
      simp [c24, spliceL, -W_block]
      refine c46' (s, false) 2 (by omega) (by omega) (by simp [RD]) ?_
      intro hp1 nx1 hR1 hS1
      have e1 := hS1.keep 1 (by omega) (by omega)
      have e0 := hS1.keep 0 (by omega) (by omega)
      have hle := hS1.le
      simp at e1 e0
      simp [e1, -W_block]
      refine c46' _ 4 (by omega) (by omega) hR1 ?_
      intro hp2 nx2 hR2 hS2
      have g1 := hS2.keep 1 (by omega) (by omega)
      have g0 := hS2.keep 0 (by omega) (by omega)
      have hle2 := hS2.le
      rw [e1] at g1
      rw [e0] at g0
      simp [e1, g1, spliceL, appA, show ¬ 1 = nx2 by omega, -W_block]
      simp only [W_block]
      refine main _ (.inr rfl) ?_
      refine ⟨by simp, by simp, by simp, by simp, by simp, by simp, by simp [zeroN, g0, show ¬ 0 = nx2 by omega], ⟨_, _, _, ⟨by simp [startR], OwnS.nil, OwnS.nil, .inr ⟨nx2, by simp, rfl, ?_⟩, by simp, by simp, by simp; omega, by simp, by simp, by simp⟩⟩, ?_, (by show 2 < nx2 + 1; omega), rfl, by simp [startR], by simp [startR], by simp [startR], by simp [startR]⟩
      · simp [startR, kidC, show ¬ nx2 = 1 by omega]
      · simp [RD, startR, show ¬ 2 = nx2 by omega]; exact hR2
    · simp [c24, spliceL, h1, h2, frz_closed]
      refine ⟨fun n h => ?_, fun _ => rfl⟩
      simp [decS, h1, h2] at h

theorem f50 (s : List UInt8) (hs : s.length ≤ 6) (hp nx) : Ret E 50 [.str s] hp nx (.v (.int .i64 (readS s))) hp nx .p := by
  refine Ret_pureQ e50 rfl rfl ?_ hp nx
  simp [c50]
  refine W_loopI (I := fun (j : Nat) st => j ≤ s.length ∧ st.tm 4 = .int .i64 j ∧ st.tm 0 = .str s ∧ st.tm 3 = .int .i64 (readS (s.take j))) (fun j => s.length - j) 0 (by simp [readS]) ?_
  rintro j tm hp nx ⟨hj, t4, t0, t3⟩
  simp only at t4 t0 t3
  by_cases hlt : j < s.length
  · have hget : s[j]? = some s[j] := List.getElem?_eq_getElem hlt
    have hts : s.take (j + 1) = s.take j ++ [s[j]] := by rw [List.take_add_one, hget]; rfl
    have hx : readS (s.take j) < 281474976710656 := by
      have h1 := readS_lt (s.take j)
      have h2 : 256 ^ (s.take j).length ≤ 256 ^ 6 := Nat.pow_le_pow_right (by omega) (by simp; omega)
      omega
    have hb := s[j].toNat_lt
    have hw : IntKind.wrap .i64 ((j : Int) + 1) = (j + 1 : Nat) := by rw [wrap_id] <;> omega
    have hw1 : IntKind.wrap .i64 (256 * (readS (s.take j) : Int)) = (256 * readS (s.take j) : Nat) := by rw [wrap_id] <;> omega
    have hw2 : IntKind.wrap .i64 (s[j].toNat : Int) = (s[j].toNat : Nat) := by rw [wrap_id] <;> omega
    have hw3 : IntKind.wrap .i64 (((256 * readS (s.take j) : Nat) : Int) + (s[j].toNat : Int)) = (256 * readS (s.take j) + s[j].toNat : Nat) := by rw [wrap_id] <;> omega
    have hlt' : (j : Int) < (s.length : Int) := by omega
    simp [t4, t0, t3, hlt', hget, hw, hw1, hw2, hw3, -Int.natCast_add, -Int.natCast_mul, -Int.ofNat_lt]
    exact ⟨j + 1, by omega, by omega, by simp, by rw [hts, readS_snoc]⟩
  · have : j = s.length := by omega
    subst this
    simp [t4, t0, t3]

def takeS (s : List UInt8) (n : Nat) : List UInt8 × List UInt8 × Bool := if n ≤ s.length then (s.take n, s.drop n, true) else ([], [], false)
def takeA (x : List UInt8 × List UInt8 × Bool) : AV := .tup [.str x.1, .str x.2.1, .v (.bool x.2.2)]
theorem f49 (s : List UInt8) (n : Nat) (hp nx) : Ret E 49 [.str s, .v (.int .i64 n)] hp nx (takeA (takeS s n)) hp nx .p := by
  refine Ret_pureQ e49 rfl rfl ?_ hp nx
  by_cases h : n ≤ s.length
  · have h' : ¬ (s.length : Int) < n := by omega
    simp [c49, h', sliceStr_hi h, sliceStr_lo h, takeS, takeA, h, frz_closed, -Int.ofNat_lt]
  · have h' : (s.length : Int) < n := by omega
    simp [c49, h', takeS, takeA, h, frz_closed, -Int.ofNat_lt]

def itemT (s : List UInt8) : Itm × List UInt8 × Bool :=
  if 1 ≤ s.length then
    if readS (s.take 1) = 255 then (if 8 ≤ (s.drop 1).length then (⟨[], readS ((s.drop 1).take 4), readS (((s.drop 1).take 8).drop 4)⟩, (s.drop 1).drop 8, true) else (⟨[], 0, 0⟩, [], false))
    else (⟨(takeS (s.drop 1) (readS (s.take 1))).1, 0, 0⟩, (takeS (s.drop 1) (readS (s.take 1))).2)
  else (⟨[], 0, 0⟩, [], false)
def itemA (x : Itm × List UInt8 × Bool) : AV := .tup [.agg x.1.cells, .str x.2.1, .v (.bool x.2.2)]

set_option maxRecDepth 8000 in
theorem f51 (s : List UInt8) (hp nx) : Ret E 51 [.str s] hp nx (itemA (itemT s)) hp nx .p := by
  refine Ret_pureQ e51 rfl rfl ?_ hp nx
  simp [c51]
  refine WCall_p (f49 s 1 _ _) ?_
  by_cases h1 : 1 ≤ s.length
  · obtain ⟨b, s', rfl⟩ : ∃ b s', s = b :: s' := by cases s with | nil => simp at h1 | cons b s' => exact ⟨b, s', rfl⟩
    have hb := b.toNat_lt
    have hrd : readS [b] = b.toNat := by simp [readS]
    by_cases h2 : b.toNat = 255
    · have h2' : ¬ (b.toNat : Int) < 255 := by omega
      simp [takeS, takeA, h2', spliceL]
      refine WCall_p (f49 s' 8 _ _) ?_
      by_cases h3 : 8 ≤ s'.length
      · have q1 : sliceStr (.str (s'.take 8)) none (some (.v (.int .i64 4))) = some (.str (s'.take 4)) := by
          rw [show (4 : Int) = ((4 : Nat) : Int) from rfl, sliceStr_hi (by simp; omega), List.take_take]; rfl
        have q2 : sliceStr (.str (s'.take 8)) (some (.v (.int .i64 4))) none = some (.str ((s'.take 8).drop 4)) := by
          rw [show (4 : Int) = ((4 : Nat) : Int) from rfl, sliceStr_lo (by simp; omega)]
        simp [takeS, takeA, h3, q1]
        refine WCall_p (f50 _ (by simp; omega) _ _) ?_
        simp [q2]
        refine WCall_p (f50 _ (by simp; omega) _ _) ?_
        simp [itemT, itemA, hrd, h2, h3, spliceL, Itm.cells, frz_closed]
      · simp [takeS, takeA, h3, spliceL]
        simp [itemT, itemA, hrd, h2, h3, spliceL, Itm.cells, frz_closed]
    · have h2' : (b.toNat : Int) < 255 := by omega
      have hw : IntKind.wrap .i64 (b.toNat : Int) = (b.toNat : Nat) := by rw [wrap_id] <;> omega
      simp [takeS, takeA, h2', hw, spliceL]
      refine WCall_p (f49 s' b.toNat _ _) ?_
      simp [takeA, spliceL]
      simp [itemT, itemA, hrd, h2, spliceL, Itm.cells, frz_closed]
  · have : s = [] := by cases s with | nil => rfl | cons b s' => simp at h1
    subst this
    simp [takeS, takeA, spliceL]
    simp [itemT, itemA, Itm.cells, frz_closed]
end Go.Ai
