/- The reader. -/
import Derived.Test.YtbdmloamekpeoaaS
import Derived.Test.YtbdmloamekpeoaaAiLib
namespace Go.Ai
set_option linter.unusedVariables false
set_option linter.unusedSimpArgs false

abbrev RS := List UInt8 × Bool
def readS (s : List UInt8) : Nat := s.foldl (fun x b => 256 * x + b.toNat) 0
def bytesR (r : RS) (n : Nat) : List UInt8 × RS := if n ≤ r.1.length then (r.1.take n, (r.1.drop n, r.2)) else ([], (r.1, true))
def numR (r : RS) (n : Nat) : Nat × RS := (readS (bytesR r n).1, (bytesR r n).2)
def itemR (r : RS) : Itm × RS :=
  if (numR r 1).1 = 255 then
    (⟨[], (numR (numR r 1).2 4).1, (numR (numR (numR r 1).2 4).2 4).1⟩, ((numR (numR (numR r 1).2 4).2 4).2.1, (numR (numR (numR r 1).2 4).2 4).2.2 || decide ((numR (numR r 1).2 4).1 = 0)))
  else (⟨(bytesR (numR r 1).2 (numR r 1).1).1, 0, 0⟩, (bytesR (numR r 1).2 (numR r 1).1).2)

theorem foldl_lt (s : List UInt8) : ∀ x : Nat, s.foldl (fun x b => 256 * x + b.toNat) x < (x + 1) * 256 ^ s.length := by
  induction s with
  | nil => intro x; simp
  | cons b s ih =>
    intro x
    have h := ih (256 * x + b.toNat)
    have hb : b.toNat < 256 := b.toNat_lt
    simp only [List.foldl_cons, List.length_cons, Nat.pow_succ]
    calc _ < (256 * x + b.toNat + 1) * 256 ^ s.length := h
      _ ≤ ((x + 1) * 256) * 256 ^ s.length := Nat.mul_le_mul_right _ (by omega)
      _ = (x + 1) * (256 ^ s.length * 256) := by rw [Nat.mul_assoc, Nat.mul_comm 256]
theorem readS_lt (s : List UInt8) : readS s < 256 ^ s.length := by simpa [readS] using foldl_lt s 0
theorem readS_snoc (s : List UInt8) (b : UInt8) : readS (s ++ [b]) = 256 * readS s + b.toNat := by simp [readS]
theorem bytesR_len (r : RS) (n : Nat) : (bytesR r n).1.length ≤ n := by
  unfold bytesR; split
  · simp; omega
  · simp
theorem numR_lt (r : RS) (n : Nat) : (numR r n).1 < 256 ^ n := by
  unfold numR
  have h1 := readS_lt (bytesR r n).1
  have h2 := Nat.pow_le_pow_right (n := 256) (by omega) (bytesR_len r n)
  simp only; omega

theorem bv_or {x b : Nat} (hx : x < 281474976710656) (hb : b < 256) : (BitVec.ofNat 64 (x * 256) ||| BitVec.ofNat 64 b).toNat = 256 * x + b := by
  have h1 : (BitVec.ofNat 64 (x * 256)).toNat = x * 256 := by rw [BitVec.toNat_ofNat, show (2 : Nat) ^ 64 = 18446744073709551616 from rfl]; omega
  have h2 : (BitVec.ofNat 64 b).toNat = b := by rw [BitVec.toNat_ofNat, show (2 : Nat) ^ 64 = 18446744073709551616 from rfl]; omega
  rw [BitVec.toNat_or, h1, h2]
  have := Nat.shiftLeft_add_eq_or_of_lt (b := b) (i := 8) (show b < 2 ^ 8 by omega) x
  rw [Nat.shiftLeft_eq] at this
  have e : x * 2 ^ 8 = x * 256 := rfl
  rw [e] at this
  rw [← this, Nat.mul_comm]
theorem or_step {x b : Nat} (hx : x < 281474976710656) (hb : b < 256) : IntKind.wrap .i64 ((BitVec.ofInt (IntKind.bits .i64) (IntKind.wrap .i64 ((x : Int) * 256)) ||| BitVec.ofNat (IntKind.bits .i64) b).toNat : Int) = ((256 * x + b : Nat) : Int) := by
  have e0 : (x : Int) * 256 = ((x * 256 : Nat) : Int) := by omega
  have e1 : IntKind.wrap .i64 ((x : Int) * 256) = ((x * 256 : Nat) : Int) := by rw [e0, wrap_id] <;> omega
  have e2 : BitVec.ofInt (IntKind.bits .i64) ((x * 256 : Nat) : Int) = BitVec.ofNat 64 (x * 256) := BitVec.ofInt_natCast ..
  have e4 := bv_or hx hb
  rw [e1, e2]
  have e5 : IntKind.wrap .i64 ((256 * x + b : Nat) : Int) = ((256 * x + b : Nat) : Int) := by rw [wrap_id] <;> omega
  exact (congrArg (fun n : Nat => IntKind.wrap .i64 (n : Int)) e4).trans e5

/-- A reader's cells. -/
def RD (hp : Heap) (w : Nat) (r : RS) : Prop := hp w = some [[.str r.1, .v (.bool r.2)]]

theorem boundsA_hi {len top b : Nat} {k : IntKind} (h2 : b ≤ top) : boundsA len top none (some (.v (.int k b))) none = some (0, b, none) := by
  have e1 : 0 ≤ (b : Int) ∧ (b : Int) ≤ (top : Int) := by omega
  simp only [boundsA, idxOf, Option.getD_none, if_pos e1, Int.toNat_natCast]
theorem boundsA_lo {len top b : Nat} {k : IntKind} (h2 : b ≤ len) : boundsA len top (some (.v (.int k b))) none none = some (b, len, none) := by
  have e1 : 0 ≤ (b : Int) ∧ (b : Int) ≤ (len : Int) := by omega
  simp [boundsA, idxOf, e1]
theorem sliceStr_hi {l : List UInt8} {b : Nat} {k : IntKind} (h : b ≤ l.length) : sliceStr (.str l) none (some (.v (.int k b))) = some (.str (l.take b)) := by
  simp only [sliceStr, boundsA_hi h, List.drop_zero]
theorem sliceStr_lo {l : List UInt8} {b : Nat} {k : IntKind} (h : b ≤ l.length) : sliceStr (.str l) (some (.v (.int k b))) none = some (.str (l.drop b)) := by
  simp only [sliceStr, boundsA_lo h, List.take_length]

theorem f47 (r : RS) (n : Nat) (hp : Heap) (nx w : Nat) (h : RD hp w r) :
    ∃ hp', Ret E 47 [.ptr w 0 0, .v (.int .i64 n)] hp nx (.str (bytesR r n).1) hp' nx .e ∧ RD hp' w (bytesR r n).2 ∧ Stay (· = w) hp nx hp' nx := by
  obtain ⟨s, bad⟩ := r
  simp only [RD] at h
  refine ⟨hupd hp w (some [[.str (bytesR (s, bad) n).2.1, .v (.bool (bytesR (s, bad) n).2.2)]]), ?_, by simp [RD], ⟨Nat.le_refl _, fun q _ hq => by simp [hq]⟩⟩
  have main := Ret_genE (P := fun v hp' nx' => v = .str (bytesR (s, bad) n).1 ∧ hp' = hupd hp w (some [[.str (bytesR (s, bad) n).2.1, .v (.bool (bytesR (s, bad) n).2.2)]]) ∧ nx' = nx) e47 (args := [.ptr w 0 0, .v (.int .i64 n)]) rfl (hp := hp) (nx := nx) ?_
  · obtain ⟨v, hp', nx', h1, rfl, rfl, rfl⟩ := main
    exact h1
  · by_cases hn : n ≤ s.length
    · have hn' : ¬ (s.length : Int) < n := by omega
      simp [c47, h, hn', sliceStr_hi hn, sliceStr_lo hn, spliceL, bytesR, hn, -Int.ofNat_lt]
    · have hn' : (s.length : Int) < n := by omega
      simp [c47, h, hn', spliceL, bytesR, hn, -Int.ofNat_lt]

theorem f46 (r : RS) (n : Nat) (hn : n ≤ 6) (hp : Heap) (nx w : Nat) (hw : w < nx) (h : RD hp w r) :
    ∃ hp' nx', Ret E 46 [.ptr w 0 0, .v (.int .i64 n)] hp nx (.v (.int .i64 (numR r n).1)) hp' nx' .e ∧ RD hp' w (numR r n).2 ∧ Stay (· = w) hp nx hp' nx' := by
  obtain ⟨hp1, r1, r2, r3⟩ := f47 r n hp nx w h
  have main := Ret_genE (P := fun v hp' nx' => v = .v (.int .i64 (numR r n).1) ∧ RD hp' w (numR r n).2 ∧ Stay (· = w) hp nx hp' nx') e46 (args := [.ptr w 0 0, .v (.int .i64 n)]) rfl (hp := hp) (nx := nx) ?_
  · obtain ⟨v, hp', nx', h1, rfl, h2⟩ := main
    exact ⟨hp', nx', h1, h2⟩
  · simp [c46]
    refine WCall_k r1 ?_
    have hbl := bytesR_len r n
    have hrd : RD (hupd hp1 nx (some (bytesOf (bytesR r n).1))) w (numR r n).2 := by
      simp only [RD, hupd_apply, show ¬ w = nx by omega, if_false]; exact r2
    have hst : Stay (· = w) hp nx (hupd hp1 nx (some (bytesOf (bytesR r n).1))) (nx + 1) :=
      r3.trans ⟨by omega, fun q hq _ => by simp [show ¬ q = nx by omega]⟩
    have hnr : (numR r n).1 = readS (bytesR r n).1 := rfl
    generalize hbs : (bytesR r n).1 = bs at *
    simp [s2bA]
    refine W_loopI (I := fun (j : Nat) s => j ≤ bs.length ∧ s.tm 13 = .int .i64 j ∧ s.tm 12 = .int .i64 bs.length ∧ s.tm 11 = .sl nx 1 0 bs.length none ∧ s.tm 5 = .int .i64 (readS (bs.take j)) ∧ s.hp = hupd hp1 nx (some (bytesOf bs)) ∧ s.nx = nx + 1)
      (fun j => bs.length - j) 0 (by simp [readS]) ?_
    rintro j tm hp' nx' ⟨hj, t13, t12, t11, t5, rfl, rfl⟩
    simp only at t13 t12 t11 t5
    by_cases hlt : j < bs.length
    · have hget : bs[j]? = some bs[j] := List.getElem?_eq_getElem hlt
      have hgb : (bytesOf bs)[j]? = some [.v (.int .u8 bs[j].toNat)] := by simp [bytesOf, hget]
      have hwr : IntKind.wrap .i64 ((j : Int) + 1) = (j + 1 : Nat) := by rw [wrap_id] <;> omega
      have hlt' : (j : Int) < (bs.length : Int) := by omega
      have hx : readS (bs.take j) < 281474976710656 := by
        have h1 := readS_lt (bs.take j)
        have h2 : 256 ^ (bs.take j).length ≤ 256 ^ 6 := Nat.pow_le_pow_right (by omega) (by simp; omega)
        omega
      have hsh : shA .shl .i64 (readS (bs.take j) : Int) 8 = some (.int .i64 (IntKind.wrap .i64 ((readS (bs.take j) : Int) * 256))) := by
        simp only [shA]; rw [if_neg (by omega)]; rfl
      have hb8 : IntKind.wrap .i64 (bs[j].toNat : Int) = (bs[j].toNat : Nat) := by have := bs[j].toNat_lt; rw [wrap_id] <;> omega
      have hor := or_step hx bs[j].toNat_lt
      have hts : bs.take (j + 1) = bs.take j ++ [bs[j]] := by rw [List.take_add_one, hget]; rfl
      simp [t13, t12, t11, t5, hlt', hgb, hwr, hsh, hb8, hor, -BitVec.toNat_or, -Int.natCast_add, -Int.ofNat_lt, -Int.natCast_mul]
      exact ⟨j + 1, by omega, by omega, by simp, by rw [hts, readS_snoc]⟩
    · have : j = bs.length := by omega
      subst this
      simp [t13, t12, t5]
      refine ⟨?_, hrd, hst⟩
      rw [hnr]
end Go.Ai
