/- Find, and the document's. -/
import Derived.Test.YtbdmloamekpeoaaMg4
import Derived.Test.YtbdmloamekpeoaaAiLib
/- Find, and the document's. -/
namespace Go.Ai
set_option linter.unusedVariables false
set_option linter.unusedSimpArgs false

theorem f60 (ks : List (List UInt8)) (x : AV) (hx : SlA 1 (ks.map keyC) x) (k : List UInt8) (j : Nat) (hj : j < ks.length) (hp : Heap) (nx a b : Nat) (ha : hp a = some [[x]]) (hb : hp b = some [[.str k]]) :
    Ret E 60 [.v (.int .i64 j), .ptr a 0 0, .ptr b 0 0] hp nx (.v (.bool (!strLt ks[j] k))) hp nx .e := by
  have main := Ret_genE (P := fun v hp' nx' => v = .v (.bool (!strLt ks[j] k)) ∧ hp' = hp ∧ nx' = nx) e60 (args := [.v (.int .i64 j), .ptr a 0 0, .ptr b 0 0]) rfl (hp := hp) (nx := nx) ?_
  · obtain ⟨v, hp', nx', h1, rfl, rfl, rfl⟩ := main
    exact h1
  · obtain ⟨kn, ksz, kc, rfl, hkz⟩ := hx
    have hget : ks[j]? = some ks[j] := List.getElem?_eq_getElem hj
    have hia : iaddrA 1 (.rs kn ksz (ks.map keyC) kc) (.v (.int .i64 j)) = some (.rp (keyC ks[j])) := iaddr_in hkz (by simp [hget]) rfl
    simp [c60, ha, hb, hia, -iaddrA_rs, keyC]

theorem f59 (ks : List (List UInt8)) (x : AV) (hx : SlA 1 (ks.map keyC) x) (hr : Rise ks) (hl : ks.length ≤ 1000000) (k : List UInt8) (hp : Heap) (nx a b : Nat) (ha : hp a = some [[x]]) (hb : hp b = some [[.str k]]) :
    Ret E 59 [.v (.int .i64 ks.length), .fn (.func 60) [] [.ptr a 0 0, .ptr b 0 0]] hp nx (.v (.int .i64 (below ks k))) hp nx .e := by
  have main := Ret_genE (P := fun v hp' nx' => v = .v (.int .i64 (below ks k)) ∧ hp' = hp ∧ nx' = nx) e59 (args := [.v (.int .i64 ks.length), .fn (.func 60) [] [.ptr a 0 0, .ptr b 0 0]]) rfl (hp := hp) (nx := nx) ?_
  · obtain ⟨v, hp', nx', h1, rfl, rfl, rfl⟩ := main
    exact h1
  · simp [c59]
    refine W_loopI (I := fun (g : Nat × Nat) s => g.1 ≤ g.2 ∧ g.2 ≤ ks.length ∧ s.tm 5 = .int .i64 g.1 ∧ s.tm 6 = .int .i64 g.2 ∧ s.tm 1 = .fn (.func 60) [] [.ptr a 0 0, .ptr b 0 0] ∧ s.hp = hp ∧ s.nx = nx ∧
        (∀ j (hj : j < ks.length), j < g.1 → strLt ks[j] k = true) ∧ (∀ j (hj : j < ks.length), g.2 ≤ j → strLt ks[j] k = false))
      (fun g => g.2 - g.1) (0, ks.length) (by simp; intro j hj h; omega) ?_
    rintro ⟨i, j⟩ tm hp' nx' ⟨hij, hjl, t5, t6, t1, rfl, rfl, hlo, hhi⟩
    simp only at hij hjl t5 t6 t1 hlo hhi
    by_cases hlt : i < j
    · obtain ⟨m, hm⟩ : ∃ m, m = (i + j) / 2 := ⟨_, rfl⟩
      have hml : m < ks.length := by omega
      have hw1 : IntKind.wrap .i64 ((i : Int) + (j : Int)) = (i + j : Nat) := by rw [wrap_id] <;> omega
      have hw2 : IntKind.wrap .u64 ((i + j : Nat) : Int) = (i + j : Nat) := by simp only [IntKind.wrap, IntKind.bits, IntKind.signed]; simp; omega
      have hsh : shA .shr .u64 ((i + j : Nat) : Int) 1 = some (.int .u64 (m : Nat)) := by
        simp only [shA]
        rw [if_neg (by omega)]
        have e1 : Nat.min (1 : Int).toNat (IntKind.bits .u64) = 1 := by decide
        rw [e1, Int.fdiv_eq_ediv_of_nonneg _ (by omega), hm]
        norm_cast
      have hw3 : IntKind.wrap .i64 (m : Int) = (m : Nat) := by rw [wrap_id] <;> omega
      have hw4 : IntKind.wrap .i64 ((m : Int) + 1) = (m + 1 : Nat) := by rw [wrap_id] <;> omega
      simp [t5, t6, t1, hlt, hw1, hw2, hsh, hw3, -Int.natCast_add]
      refine WCall_k (f60 ks x hx k m hml _ _ a b ha hb) ?_
      cases hs : strLt ks[m] k
      · simp [t5, t6, t1, hw4, -Int.natCast_add]
        refine ⟨i, m, by omega, by omega, by omega, rfl, rfl, hlo, fun q hq hmq => ?_⟩
        rcases Nat.lt_or_ge m q with g | g
        · cases h4 : strLt ks[q] k with
          | false => rfl
          | true => have := strLt_trans (hr m q hq g) h4; rw [hs] at this; cases this
        · have : q = m := by omega
          subst this; exact hs
      · simp [t5, t6, t1, hw4, -Int.natCast_add]
        refine ⟨m + 1, j, by omega, by omega, by omega, rfl, rfl, fun q hq hmq => ?_, hhi⟩
        rcases Nat.lt_or_ge q m with g | g
        · exact strLt_trans (hr q m hml g) hs
        · have : q = m := by omega
          subst this; exact hs
    · have : i = j := by omega
      subst this
      simp [t5, t6, t1]
      rw [below_eq hjl hlo hhi]

theorem f41 (ks : List (List UInt8)) (x : AV) (hx : SlA 1 (ks.map keyC) x) (hr : Rise ks) (hl : ks.length ≤ 1000000) (k : List UInt8) (hp nx) :
    Ret E 41 [x, .str k] hp nx (.v (.int .i64 (below ks k))) hp nx .p := by
  have hx0 := hx
  obtain ⟨kn, ksz, kc, rfl, hkz⟩ := hx
  refine Ret_pureQ e41 rfl (by simp) ?_ hp nx
  simp [c41]
  have := f59 ks _ hx0 hr hl k (hupd (hupd hnil 0 (some [[AV.rs kn ksz (ks.map keyC) kc]])) 1 (some [[AV.str k]])) 2 0 1 (by simp) (by simp)
  refine WCall_k this ?_
  simp

def findA (r : Int × Bool) : AV := .tup [.int .i64 r.1, .v (.bool r.2)]

theorem f19 (n : Nd) (x : AV) (hx : NdA n x) (k : List UInt8) (h1 : n.keys.length ≤ 60000) (h2 : n.items.length ≤ 60000) (h3 : n.kids.length ≤ 60001) (hp nx) :
    Ret E 19 [x, .str k] hp nx (findA (findS n k)) hp nx .p := by
  have c12' := f12 n _ hx (by omega) (by omega) (by omega)
  obtain ⟨leaf, keys, items, kids⟩ := n
  obtain ⟨kA, iA, dA, rfl, hk, hi, hd⟩ := hx
  have hk' := hk
  obtain ⟨kn, ksz, kc, rfl, hkz⟩ := hk
  obtain ⟨in', isz, ic, rfl, hiz⟩ := hi
  obtain ⟨dn, dsz, dc, rfl, hdz⟩ := hd
  simp only at h1 h2 h3 hk' hkz
  refine Ret_pureQ e19 rfl (by simp) ?_ hp nx
  simp [c19]
  refine WCall_p (c12' _ _) ?_
  cases hr : rightS ⟨leaf, keys, items, kids⟩
  · simp [findA, findS, hr, frz_closed]
  have hrise : Rise keys := Rise.of (by simp only [rightS, Bool.and_eq_true] at hr; exact hr.1)
  obtain ⟨b1, b2, b3⟩ := below_spec hrise k
  simp
  refine WCall_p (f41 keys _ hk' hrise (by omega) k _ _) ?_
  have hmem := mem_below hrise k
  simp
  by_cases hlt : below keys k < keys.length
  · have hget : keys[below keys k]? = some keys[below keys k] := List.getElem?_eq_getElem hlt
    have hia : iaddrA 1 (.rs kn ksz (keys.map keyC) kc) (.v (.int .i64 (below keys k))) = some (.rp (keyC keys[below keys k])) := iaddr_in hkz (by simp [hget]) rfl
    have hw : IntKind.wrap .i64 ((below keys k : Int) + 1) = (below keys k + 1 : Nat) := by rw [wrap_id] <;> omega
    rw [hget] at hmem
    by_cases heq : keys[below keys k] = k
    · have hin : k ∈ keys := hmem.2 (by rw [heq])
      cases leaf
      · simp [hlt, hia, -iaddrA_rs, keyC, heq, hw, frz_closed, -Int.natCast_add]
        simp [findA, findS, hr, hin]
      · simp [hlt, hia, -iaddrA_rs, keyC, heq, hw, frz_closed, -Int.natCast_add]
        simp [findA, findS, hr, hin]
    · have hin : k ∉ keys := fun h => heq (by simpa using hmem.1 h)
      simp [hlt, hia, -iaddrA_rs, keyC, heq, frz_closed]
      simp [findA, findS, hr, hin]
  · have hin : k ∉ keys := fun h => by
      have := hmem.1 h
      rw [List.getElem?_eq_none (by omega)] at this; cases this
    simp [hlt, frz_closed]
    simp [findA, findS, hr, hin]

/-- How many lie below a key, or at it. -/
def upto (eq : Bool) (ks : List (List UInt8)) (k : List UInt8) : Nat := (ks.filter fun x => strLt x k || (eq && decide (x = k))).length
theorem upto_eq {ks : List (List UInt8)} (hr : Rise ks) (eq : Bool) (k : List UInt8) : upto eq ks k = below ks k + if k ∈ ks ∧ eq = true then 1 else 0 := by
  cases eq
  · simp [upto, below]
  · unfold upto below
    simp only [and_true]
    induction ks with
    | nil => simp
    | cons a r ih =>
      have hr' : Rise r := fun i j hj hij => by have := hr (i + 1) (j + 1) (by simp; omega) (by omega); simpa using this
      have ha : ∀ y ∈ r, strLt a y = true := by
        intro y hy
        obtain ⟨j, hj, rfl⟩ := List.getElem_of_mem hy
        have := hr 0 (j + 1) (by simp; omega) (by omega)
        simpa using this
      have ih := ih hr'
      simp only [List.filter_cons]
      by_cases hak : a = k
      · subst hak
        have hn : a ∉ r := fun h => by have := ha _ h; rw [strLt_irrefl] at this; cases this
        rw [if_neg hn] at ih
        simp [strLt_irrefl]
        simpa using ih
      · cases hlt : strLt a k
        · have e : (k ∈ a :: r) ↔ k ∈ r := by simp [Ne.symm hak]
          simp only [e]
          simp [hak]
          simpa using ih
        · have e : (k ∈ a :: r) ↔ k ∈ r := by simp [Ne.symm hak]
          simp only [e]
          simp
          have := ih
          simp at this
          omega

theorem f20 (n : Nd) (x : AV) (hx : NdA n x) (k : List UInt8) (h1 : n.keys.length ≤ 60000) (h2 : n.items.length ≤ 60000) (h3 : n.kids.length ≤ 60001) (hp nx) :
    Ret E 20 [x, .str k] hp nx (findA (findS n k)) hp nx .p := by
  have c13' := f13 n _ hx (by omega) (by omega) (by omega)
  obtain ⟨leaf, keys, items, kids⟩ := n
  obtain ⟨e, rfl⟩ : ∃ e, leaf = !e := ⟨!leaf, by simp⟩
  obtain ⟨kA, iA, dA, rfl, hk, hi, hd⟩ := hx
  have hk' := hk
  obtain ⟨kn, ksz, kc, rfl, hkz⟩ := hk
  obtain ⟨in', isz, ic, rfl, hiz⟩ := hi
  obtain ⟨dn, dsz, dc, rfl, hdz⟩ := hd
  simp only at h1 h2 h3 hk' hkz
  refine Ret_pureQ e20 rfl (by simp) ?_ hp nx
  simp [c20]
  refine WCall_p (c13' _ _) ?_
  cases hr : rightS ⟨!e, keys, items, kids⟩
  · simp [findA, findS, hr, frz_closed]
  have hrise : Rise keys := Rise.of (by simp only [rightS, Bool.and_eq_true] at hr; exact hr.1)
  simp
  refine W_loopI (I := fun (j : Nat) s => j ≤ keys.length ∧ s.tm 8 = .int .i64 j ∧ s.tm 6 = .int .i64 (upto e (keys.take j) k) ∧ s.tm 7 = .v (.bool (decide (k ∈ keys.take j))) ∧ s.tm 1 = .str k ∧ s.tm 2 = .ptr 0 0 0 ∧
      s.hp = hupd hnil 0 (some [[.v (.bool (!e)), .rs kn ksz (keys.map keyC) kc, .rs in' isz (items.map Itm.cells) ic, .rs dn dsz (kids.map kidC) dc]]) ∧ s.nx = 1)
    (fun j => keys.length - j) 0 (by simp [upto]) ?_
  rintro j tm hp nx ⟨hj, t8, t6, t7, t1, t2, rfl, rfl⟩
  simp only at t8 t6 t7 t1 t2
  by_cases hlt : j < keys.length
  · have hget : keys[j]? = some keys[j] := List.getElem?_eq_getElem hlt
    have hia : iaddrA 1 (.rs kn ksz (keys.map keyC) kc) (.v (.int .i64 j)) = some (.rp (keyC keys[j])) := iaddr_in hkz (by simp [hget]) rfl
    have hw : IntKind.wrap .i64 ((j : Int) + 1) = (j + 1 : Nat) := by rw [wrap_id] <;> omega
    have hul : upto e (keys.take j) k ≤ j := by
      have := List.length_filter_le (fun x => strLt x k || (e && decide (x = k))) (keys.take j)
      simp only [List.length_take] at this
      unfold upto; omega
    have hw2 : IntKind.wrap .i64 ((upto e (keys.take j) k : Int) + 1) = (upto e (keys.take j) k + 1 : Nat) := by rw [wrap_id] <;> omega
    have hts : keys.take (j + 1) = keys.take j ++ [keys[j]] := by rw [List.take_add_one, hget]; rfl
    have hus : upto e (keys.take (j + 1)) k = upto e (keys.take j) k + if (strLt keys[j] k || (e && decide (keys[j] = k))) = true then 1 else 0 := by
      rw [hts]; unfold upto; rw [List.filter_append, List.length_append]; simp only [List.filter_cons, List.filter_nil]; split <;> simp
    have hms : k ∈ keys.take (j + 1) ↔ k ∈ keys.take j ∨ keys[j] = k := by rw [hts, List.mem_append, List.mem_singleton, eq_comm (a := k)]
    by_cases heq : keys[j] = k
    · have hlk : strLt keys[j] k = false := by rw [heq]; exact strLt_irrefl _
      cases e <;> by_cases hmj : k ∈ keys.take j <;> simp only [hmj, decide_true, decide_false] at t7 <;>
        (simp [t8, t6, t7, t1, t2, hlt, hia, -iaddrA_rs, keyC, heq, hw, hw2, strLt_irrefl, -Int.natCast_add]
         refine ⟨j + 1, by omega, by omega, by simp, ?_, ?_⟩
         · simp [hus, heq, strLt_irrefl]
         · simp [hms, heq])
    · cases hlk : strLt keys[j] k <;> cases e <;> by_cases hmj : k ∈ keys.take j <;> simp only [hmj, decide_true, decide_false] at t7 <;>
        (simp [t8, t6, t7, t1, t2, hlt, hia, -iaddrA_rs, keyC, heq, hlk, hw, hw2, -Int.natCast_add]
         refine ⟨j + 1, by omega, by omega, by simp, ?_, ?_⟩
         · simp [hus, heq, hlk]
         · simp [hms, hmj, heq])
  · have : j = keys.length := by omega
    subst this
    simp [t8, t6, t7, t2, t1, frz_closed]
    simp [findA, findS, hr, upto_eq hrise]
end Go.Ai

/- The reader. -/
namespace Go.Ai
set_option linter.unusedVariables false
set_option linter.unusedSimpArgs false

abbrev RS := List UInt8 × Bool
def readS (s : List UInt8) : Nat := s.foldl (fun x b => 256 * x + b.toNat) 0
def bytesR (r : RS) (n : Nat) : List UInt8 × RS := if n ≤ r.1.length then (r.1.take n, (r.1.drop n, r.2)) else ([], (r.1, true))
def numR (r : RS) (n : Nat) : Nat × RS := (readS (bytesR r n).1, (bytesR r n).2)
def itemR (r : RS) : Itm × RS :=
  if (numR r 1).1 = 255 then
    (⟨[], (numR (numR r 1).2 4).1, (numR (numR (numR r 1).2 4).2 4).1⟩, ((numR (numR (numR r 1).2 4).2 4).2.1, (numR (numR (numR r 1).2 4).2 4).2.2 || decide ((numR (numR r 1).2 4).1 = 0)))
  else (⟨(bytesR (numR r 1).2 (numR r 1).1).1, 0, 0⟩, (bytesR (numR r 1).2 (numR r 1).1).2)

theorem foldl_lt (s : List UInt8) : ∀ x : Nat, s.foldl (fun x b => 256 * x + b.toNat) x < (x + 1) * 256 ^ s.length := by
  induction s with
  | nil => intro x; simp
  | cons b s ih =>
    intro x
    have h := ih (256 * x + b.toNat)
    have hb : b.toNat < 256 := b.toNat_lt
    simp only [List.foldl_cons, List.length_cons, Nat.pow_succ]
    calc _ < (256 * x + b.toNat + 1) * 256 ^ s.length := h
      _ ≤ ((x + 1) * 256) * 256 ^ s.length := Nat.mul_le_mul_right _ (by omega)
      _ = (x + 1) * (256 ^ s.length * 256) := by rw [Nat.mul_assoc, Nat.mul_comm 256]
theorem readS_lt (s : List UInt8) : readS s < 256 ^ s.length := by simpa [readS] using foldl_lt s 0
theorem readS_snoc (s : List UInt8) (b : UInt8) : readS (s ++ [b]) = 256 * readS s + b.toNat := by simp [readS]
theorem bytesR_len (r : RS) (n : Nat) : (bytesR r n).1.length ≤ n := by
  unfold bytesR; split
  · simp; omega
  · simp
theorem numR_lt (r : RS) (n : Nat) : (numR r n).1 < 256 ^ n := by
  unfold numR
  have h1 := readS_lt (bytesR r n).1
  have h2 := Nat.pow_le_pow_right (n := 256) (by omega) (bytesR_len r n)
  simp only; omega

theorem bv_or {x b : Nat} (hx : x < 281474976710656) (hb : b < 256) : (BitVec.ofNat 64 (x * 256) ||| BitVec.ofNat 64 b).toNat = 256 * x + b := by
  have h1 : (BitVec.ofNat 64 (x * 256)).toNat = x * 256 := by rw [BitVec.toNat_ofNat, show (2 : Nat) ^ 64 = 18446744073709551616 from rfl]; omega
  have h2 : (BitVec.ofNat 64 b).toNat = b := by rw [BitVec.toNat_ofNat, show (2 : Nat) ^ 64 = 18446744073709551616 from rfl]; omega
  rw [BitVec.toNat_or, h1, h2]
  have := Nat.shiftLeft_add_eq_or_of_lt (b := b) (i := 8) (show b < 2 ^ 8 by omega) x
  rw [Nat.shiftLeft_eq] at this
  have e : x * 2 ^ 8 = x * 256 := rfl
  rw [e] at this
  rw [← this, Nat.mul_comm]
theorem or_step {x b : Nat} (hx : x < 281474976710656) (hb : b < 256) : IntKind.wrap .i64 ((BitVec.ofInt (IntKind.bits .i64) (IntKind.wrap .i64 ((x : Int) * 256)) ||| BitVec.ofNat (IntKind.bits .i64) b).toNat : Int) = ((256 * x + b : Nat) : Int) := by
  have e0 : (x : Int) * 256 = ((x * 256 : Nat) : Int) := by omega
  have e1 : IntKind.wrap .i64 ((x : Int) * 256) = ((x * 256 : Nat) : Int) := by rw [e0, wrap_id] <;> omega
  have e2 : BitVec.ofInt (IntKind.bits .i64) ((x * 256 : Nat) : Int) = BitVec.ofNat 64 (x * 256) := BitVec.ofInt_natCast ..
  have e4 := bv_or hx hb
  rw [e1, e2]
  have e5 : IntKind.wrap .i64 ((256 * x + b : Nat) : Int) = ((256 * x + b : Nat) : Int) := by rw [wrap_id] <;> omega
  exact (congrArg (fun n : Nat => IntKind.wrap .i64 (n : Int)) e4).trans e5

/-- A reader's cells. -/
def RD (hp : Heap) (w : Nat) (r : RS) : Prop := hp w = some [[.str r.1, .v (.bool r.2)]]

theorem boundsA_hi {len top b : Nat} {k : IntKind} (h2 : b ≤ top) : boundsA len top none (some (.v (.int k b))) none = some (0, b, none) := by
  have e1 : 0 ≤ (b : Int) ∧ (b : Int) ≤ (top : Int) := by omega
  simp only [boundsA, idxOf, Option.getD_none, if_pos e1, Int.toNat_natCast]
theorem boundsA_lo {len top b : Nat} {k : IntKind} (h2 : b ≤ len) : boundsA len top (some (.v (.int k b))) none none = some (b, len, none) := by
  have e1 : 0 ≤ (b : Int) ∧ (b : Int) ≤ (len : Int) := by omega
  simp [boundsA, idxOf, e1]
theorem sliceStr_hi {l : List UInt8} {b : Nat} {k : IntKind} (h : b ≤ l.length) : sliceStr (.str l) none (some (.v (.int k b))) = some (.str (l.take b)) := by
  simp only [sliceStr, boundsA_hi h, List.drop_zero]
theorem sliceStr_lo {l : List UInt8} {b : Nat} {k : IntKind} (h : b ≤ l.length) : sliceStr (.str l) (some (.v (.int k b))) none = some (.str (l.drop b)) := by
  simp only [sliceStr, boundsA_lo h, List.take_length]

theorem f47 (r : RS) (n : Nat) (hp : Heap) (nx w : Nat) (h : RD hp w r) :
    ∃ hp', Ret E 47 [.ptr w 0 0, .v (.int .i64 n)] hp nx (.str (bytesR r n).1) hp' nx .e ∧ RD hp' w (bytesR r n).2 ∧ Stay (· = w) hp nx hp' nx := by
  obtain ⟨s, bad⟩ := r
  simp only [RD] at h
  refine ⟨hupd hp w (some [[.str (bytesR (s, bad) n).2.1, .v (.bool (bytesR (s, bad) n).2.2)]]), ?_, by simp [RD], ⟨Nat.le_refl _, fun q _ hq => by simp [hq]⟩⟩
  have main := Ret_genE (P := fun v hp' nx' => v = .str (bytesR (s, bad) n).1 ∧ hp' = hupd hp w (some [[.str (bytesR (s, bad) n).2.1, .v (.bool (bytesR (s, bad) n).2.2)]]) ∧ nx' = nx) e47 (args := [.ptr w 0 0, .v (.int .i64 n)]) rfl (hp := hp) (nx := nx) ?_
  · obtain ⟨v, hp', nx', h1, rfl, rfl, rfl⟩ := main
    exact h1
  · by_cases hn : n ≤ s.length
    · have hn' : ¬ (s.length : Int) < n := by omega
      simp [c47, h, hn', sliceStr_hi hn, sliceStr_lo hn, spliceL, bytesR, hn, -Int.ofNat_lt]
    · have hn' : (s.length : Int) < n := by omega
      simp [c47, h, hn', spliceL, bytesR, hn, -Int.ofNat_lt]

theorem f46 (r : RS) (n : Nat) (hn : n ≤ 6) (hp : Heap) (nx w : Nat) (hw : w < nx) (h : RD hp w r) :
    ∃ hp' nx', Ret E 46 [.ptr w 0 0, .v (.int .i64 n)] hp nx (.v (.int .i64 (numR r n).1)) hp' nx' .e ∧ RD hp' w (numR r n).2 ∧ Stay (· = w) hp nx hp' nx' := by
  obtain ⟨hp1, r1, r2, r3⟩ := f47 r n hp nx w h
  have main := Ret_genE (P := fun v hp' nx' => v = .v (.int .i64 (numR r n).1) ∧ RD hp' w (numR r n).2 ∧ Stay (· = w) hp nx hp' nx') e46 (args := [.ptr w 0 0, .v (.int .i64 n)]) rfl (hp := hp) (nx := nx) ?_
  · obtain ⟨v, hp', nx', h1, rfl, h2⟩ := main
    exact ⟨hp', nx', h1, h2⟩
  · simp [c46]
    refine WCall_k r1 ?_
    have hbl := bytesR_len r n
    have hrd : RD (hupd hp1 nx (some (bytesOf (bytesR r n).1))) w (numR r n).2 := by
      simp only [RD, hupd_apply, show ¬ w = nx by omega, if_false]; exact r2
    have hst : Stay (· = w) hp nx (hupd hp1 nx (some (bytesOf (bytesR r n).1))) (nx + 1) :=
      r3.trans ⟨by omega, fun q hq _ => by simp [show ¬ q = nx by omega]⟩
    have hnr : (numR r n).1 = readS (bytesR r n).1 := rfl
    generalize hbs : (bytesR r n).1 = bs at *
    simp [s2bA]
    refine W_loopI (I := fun (j : Nat) s => j ≤ bs.length ∧ s.tm 13 = .int .i64 j ∧ s.tm 12 = .int .i64 bs.length ∧ s.tm 11 = .sl nx 1 0 bs.length none ∧ s.tm 5 = .int .i64 (readS (bs.take j)) ∧ s.hp = hupd hp1 nx (some (bytesOf bs)) ∧ s.nx = nx + 1)
      (fun j => bs.length - j) 0 (by simp [readS]) ?_
    rintro j tm hp' nx' ⟨hj, t13, t12, t11, t5, rfl, rfl⟩
    simp only at t13 t12 t11 t5
    by_cases hlt : j < bs.length
    · have hget : bs[j]? = some bs[j] := List.getElem?_eq_getElem hlt
      have hgb : (bytesOf bs)[j]? = some [.v (.int .u8 bs[j].toNat)] := by simp [bytesOf, hget]
      have hwr : IntKind.wrap .i64 ((j : Int) + 1) = (j + 1 : Nat) := by rw [wrap_id] <;> omega
      have hlt' : (j : Int) < (bs.length : Int) := by omega
      have hx : readS (bs.take j) < 281474976710656 := by
        have h1 := readS_lt (bs.take j)
        have h2 : 256 ^ (bs.take j).length ≤ 256 ^ 6 := Nat.pow_le_pow_right (by omega) (by simp; omega)
        omega
      have hsh : shA .shl .i64 (readS (bs.take j) : Int) 8 = some (.int .i64 (IntKind.wrap .i64 ((readS (bs.take j) : Int) * 256))) := by
        simp only [shA]; rw [if_neg (by omega)]; rfl
      have hb8 : IntKind.wrap .i64 (bs[j].toNat : Int) = (bs[j].toNat : Nat) := by have := bs[j].toNat_lt; rw [wrap_id] <;> omega
      have hor := or_step hx bs[j].toNat_lt
      have hts : bs.take (j + 1) = bs.take j ++ [bs[j]] := by rw [List.take_add_one, hget]; rfl
      simp [t13, t12, t11, t5, hlt', hgb, hwr, hsh, hb8, hor, -BitVec.toNat_or, -Int.natCast_add, -Int.ofNat_lt, -Int.natCast_mul]
      exact ⟨j + 1, by omega, by omega, by simp, by rw [hts, readS_snoc]⟩
    · have : j = bs.length := by omega
      subst this
      simp [t13, t12, t5]
      refine ⟨?_, hrd, hst⟩
      rw [hnr]
end Go.Ai

/- Decode. -/
namespace Go.Ai
set_option linter.unusedVariables false
set_option linter.unusedSimpArgs false

theorem f48 (r : RS) (hp : Heap) (nx w : Nat) (hw : w < nx) (h : RD hp w r) :
    ∃ hp' nx', Ret E 48 [.ptr w 0 0] hp nx (.agg (itemR r).1.cells) hp' nx' .e ∧ RD hp' w (itemR r).2 ∧ Stay (· = w) hp nx hp' nx' := by
  have main := Ret_genE (P := fun v hp' nx' => v = .agg (itemR r).1.cells ∧ RD hp' w (itemR r).2 ∧ Stay (· = w) hp nx hp' nx') e48 (args := [.ptr w 0 0]) rfl (hp := hp) (nx := nx) ?_
  · obtain ⟨v, hp', nx', h1, rfl, h2⟩ := main
    exact ⟨hp', nx', h1, h2⟩
  · have hst0 : Stay (· = w) hp nx (hupd hp nx (some [[.str [], .v (.int .i64 0), .v (.int .i64 0)]])) (nx + 1) := ⟨by omega, fun q hq _ => by simp [show ¬ q = nx by omega]⟩
    have hrd0 : RD (hupd hp nx (some [[.str [], .v (.int .i64 0), .v (.int .i64 0)]])) w r := by simp only [RD, hupd_apply, show ¬ w = nx by omega, if_false]; exact h
    obtain ⟨hp1, nx1, r1, r2, r3⟩ := f46 r 1 (by omega) _ (nx + 1) w (by omega) hrd0
    have hb1 : hp1 nx = some [[.str [], .v (.int .i64 0), .v (.int .i64 0)]] := by rw [r3.keep nx (by omega) (by omega)]; simp
    have hn1 := r3.le
    simp [c48]
    refine WCall_k r1 ?_
    simp
    by_cases h255 : (numR r 1).1 = 255
    · have h255' : ((numR r 1).1 : Int) = 255 := by omega
      obtain ⟨hp2, nx2, u1, u2, u3⟩ := f46 _ 4 (by omega) _ nx1 w (by omega) r2
      have hn2 := u3.le
      have hb2 : hp2 nx = some [[.str [], .v (.int .i64 0), .v (.int .i64 0)]] := by rw [u3.keep nx (by omega) (by omega), hb1]
      obtain ⟨hp3, nx3, v1, v2, v3⟩ := f46 _ 4 (by omega) _ nx2 w (by omega) u2
      have hn3 := v3.le
      have hb3 : hp3 nx = some [[.str [], .v (.int .i64 0), .v (.int .i64 0)]] := by rw [v3.keep nx (by omega) (by omega), hb2]
      have hw3 : hp3 w = some [[.str (numR (numR (numR r 1).2 4).2 4).2.1, .v (.bool (numR (numR (numR r 1).2 4).2 4).2.2)]] := v2
      simp [h255']
      refine WCall_k u1 ?_
      simp
      refine WCall_k v1 ?_
      have hwn : ¬ w = nx3 := by omega
      have hnn : ¬ nx = nx3 := by omega
      have hwx : ¬ w = nx := by omega
      have hst : Stay (· = w) hp nx hp3 nx3 := ((hst0.trans r3).trans u3).trans v3
      have hwn' : ¬ nx3 = w := by omega
      have hxw : ¬ nx = w := by omega
      cases hbad : (numR (numR (numR r 1).2 4).2 4).2.2 <;> by_cases hz : (numR (numR r 1).2 4).1 = 0 <;>
        (simp [hwn, hnn, hwx, hxw, hwn', hw3, hb3, spliceL, hbad, hz]
         refine ⟨?_, ?_, ?_⟩
         · simp [itemR, h255, Itm.cells, hz]
         · simp [RD, itemR, h255, hbad, hz, hwx, hwn]
         · refine ⟨by omega, fun q hq hqw => ?_⟩
           have hqw : q ≠ w := hqw
           simp [show ¬ q = nx by omega, show ¬ q = nx3 by omega, hqw]
           exact hst.keep q hq hqw)
    · have h255' : ¬ ((numR r 1).1 : Int) = 255 := by omega
      obtain ⟨hp2, u1, u2, u3⟩ := f47 (numR r 1).2 (numR r 1).1 hp1 nx1 w r2
      have hb2 : hp2 nx = some [[.str [], .v (.int .i64 0), .v (.int .i64 0)]] := by rw [u3.keep nx (by omega) (by omega), hb1]
      simp [h255']
      refine WCall_k u1 ?_
      have hwx : ¬ w = nx := by omega
      simp [hb2, spliceL]
      have hst : Stay (· = w) hp nx hp2 nx1 := ((hst0.trans r3).trans u3)
      refine ⟨by simp [itemR, h255, Itm.cells], by simp [RD, itemR, h255, hwx]; exact u2, ⟨hst.le, fun q hq hqw => ?_⟩⟩
      simp [show ¬ q = nx by omega]
      exact hst.keep q hq hqw

def stepR (n : Nd) (r : RS) : Nd × RS :=
  if n.leaf then (⟨n.leaf, n.keys ++ [(bytesR (numR r 1).2 (numR r 1).1).1], n.items ++ [(itemR (bytesR (numR r 1).2 (numR r 1).1).2).1], n.kids⟩, (itemR (bytesR (numR r 1).2 (numR r 1).1).2).2)
  else (⟨n.leaf, n.keys ++ [(bytesR (numR r 1).2 (numR r 1).1).1], n.items, n.kids ++ [((numR (bytesR (numR r 1).2 (numR r 1).1).2 4).1 : Int)]⟩, (numR (bytesR (numR r 1).2 (numR r 1).1).2 4).2)
def loopR : Nat → Nd → RS → Nd × RS
  | 0, n, r => (n, r)
  | m + 1, n, r => if r.2 then (n, r) else loopR m (stepR n r).1 (stepR n r).2
theorem loopR_bad {m : Nat} {n : Nd} {r : RS} (h : r.2 = true) : loopR m n r = (n, r) := by
  cases m
  · rfl
  · simp [loopR, h]
def startR (kind : Int) (r : RS) : Nd × RS := if kind = 1 then (⟨true, [], [], []⟩, r) else (⟨false, [], [], [((numR r 4).1 : Int)]⟩, (numR r 4).2)
def endR (kind : Int) (s : List UInt8) : Nd × RS := loopR (numR (s, false) 2).1 (startR kind (numR (s, false) 2).2).1 (startR kind (numR (s, false) 2).2).2
def decS (kind : Int) (s : List UInt8) : Option Nd :=
  if kind ≠ 1 ∧ kind ≠ 2 then none
  else if (endR kind s).2.2 = true ∨ (endR kind s).2.1 ≠ [] ∨ rightS (endR kind s).1 = false then none else some (endR kind s).1

/-- A node under way. -/
structure NH (hp : Heap) (nx b w : Nat) (n : Nd) (xk xi xd : AV) : Prop where
  at' : hp b = some [[.v (.bool n.leaf), xk, xi, xd]]
  k : OwnS hp nx 1 (n.keys.map keyC) xk
  i : OwnS hp nx 3 (n.items.map Itm.cells) xi
  d : OwnS hp nx 1 (n.kids.map kidC) xd
  kb : b ∉ slB xk ∧ w ∉ slB xk ∧ 0 ∉ slB xk
  ib : b ∉ slB xi ∧ w ∉ slB xi ∧ 0 ∉ slB xi
  db : b ∉ slB xd ∧ w ∉ slB xd ∧ 0 ∉ slB xd
  ki : ∀ q ∈ slB xk, q ∉ slB xi
  kd : ∀ q ∈ slB xk, q ∉ slB xd
  id' : ∀ q ∈ slB xi, q ∉ slB xd
theorem NH.keep {hp hp' : Heap} {nx nx' b w : Nat} {n : Nd} {xk xi xd : AV} (h : NH hp nx b w n xk xi xd) (hb : b ≠ w) (hb2 : b < nx) (hs : Stay (· = w) hp nx hp' nx') : NH hp' nx' b w n xk xi xd :=
  ⟨by rw [hs.keep b hb2 hb, h.at'], h.k.keep hs.le fun r hr => hs.keep r (h.k.lt r hr) (fun e => h.kb.2.1 (e ▸ hr)), h.i.keep hs.le fun r hr => hs.keep r (h.i.lt r hr) (fun e => h.ib.2.1 (e ▸ hr)),
   h.d.keep hs.le fun r hr => hs.keep r (h.d.lt r hr) (fun e => h.db.2.1 (e ▸ hr)), h.kb, h.ib, h.db, h.ki, h.kd, h.id'⟩
end Go.Ai

/- Decode, walked. -/
namespace Go.Ai
set_option linter.unusedVariables false
set_option linter.unusedSimpArgs false

theorem NH.lend {hp : Heap} {nx b w : Nat} {n : Nd} {xk xi xd : AV} (h : NH hp nx b w n xk xi xd) (k : Nat) : ∃ x0, NdA n x0 ∧ x0.closed = true ∧ frz (k + 3) hp (.agg [.v (.bool n.leaf), xk, xi, xd]) = some x0 := by
  obtain ⟨n1, z1, c1, e1, g1⟩ := frz_own (k := k) h.k closed_keys
  obtain ⟨n2, z2, c2, e2, g2⟩ := frz_own (k := k) h.i closed_items
  obtain ⟨n3, z3, c3, e3, g3⟩ := frz_own (k := k) h.d closed_kids
  refine ⟨.agg [.v (.bool n.leaf), .rs n1 z1 (n.keys.map keyC) c1, .rs n2 z2 (n.items.map Itm.cells) c2, .rs n3 z3 (n.kids.map kidC) c3], ⟨_, _, _, rfl, ⟨_, _, _, rfl, g1⟩, ⟨_, _, _, rfl, g2⟩, ⟨_, _, _, rfl, g3⟩⟩, by simp, ?_⟩
  exact frz_agg (by simp [e1, e2, e3, frz_closed])

theorem stepR_leaf (n : Nd) (r : RS) : (stepR n r).1.leaf = n.leaf := by unfold stepR; split <;> rfl

/-- A node's place, a loop's round: a key's slice grown. -/
theorem OwnS.keep' {hp hp' : Heap} {nx nx' sz : Nat} {es : Blk} {x : AV} (h : OwnS hp nx sz es x) (hn : nx ≤ nx') (hk : ∀ r ∈ slB x, r < nx → hp' r = hp r) : OwnS hp' nx' sz es x :=
  h.keep hn fun r hr => hk r hr (h.lt r hr)

def zeroN : AV := .agg [.v (.bool false), .rs true 0 [] (some 0), .rs true 0 [] (some 0), .rs true 0 [] (some 0)]
def decQ (kind : Int) (s : List UInt8) (v : AV) : Prop :=
  (∀ n, decS kind s = some n → ∃ y, NdA n y ∧ v = .tup [y, .v (.int .i64 0)]) ∧ (decS kind s = none → v = .tup [zeroN, .v (.int .i64 11)])

theorem decS_eq {kind : Int} (hk : kind = 1 ∨ kind = 2) (s : List UInt8) : decS kind s = if (endR kind s).2.2 = true ∨ (endR kind s).2.1 ≠ [] ∨ rightS (endR kind s).1 = false then none else some (endR kind s).1 := by
  unfold decS
  rw [if_neg]
  rcases hk with rfl | rfl <;> simp

theorem f24_tail (kind : Int) (hk : kind = 1 ∨ kind = 2) (s : List UInt8) (tm : Nat → AV) (hp : Heap) (nx : Nat) (n : Nd) (r : RS) (xk xi xd : AV) (t4 : tm 4 = .ptr 0 0 0) (t6 : tm 6 = .ptr 1 0 0) (t7 : tm 7 = .ptr 2 0 0)
    (h0 : hp 0 = some [zeroN.cells]) (hN : NH hp nx 1 2 n xk xi xd) (hR : RD hp 2 r) (he : endR kind s = (n, r)) (hl : n.keys.length ≤ 70000 ∧ n.items.length ≤ 70000 ∧ n.kids.length ≤ 70001) :
    W (Ret E) c24_rrrrrrr (pureEQ [.cell 4 (some 4), .t 5] (decQ kind s)) ⟨tm, hp, nx⟩ := by
  obtain ⟨x0, hx0, hc0, hz0⟩ := hN.lend 3
  have h12 := Ret_lend (hp := hp) (nx := nx) (args := [.agg [.v (.bool n.leaf), xk, xi, xd]]) (args0 := [x0]) (by simp [hz0]) rfl (f12 n x0 hx0 (by omega) (by omega) (by omega) hnil 0)
  have hR' : hp 2 = some [[.str r.1, .v (.bool r.2)]] := hR
  have hN1 := hN.at'
  have hd := decS_eq hk s
  rw [he] at hd
  obtain ⟨s1, bad⟩ := r
  simp only at hR' hd
  have h0' : hp 0 = some [[.v (.bool false), .rs true 0 [] (some 0), .rs true 0 [] (some 0), .rs true 0 [] (some 0)]] := h0
  cases bad
  · by_cases hs : s1 = []
    · simp [c24_rrrrrrr, t4, t6, t7, hR', hs, hN1]
      refine WCall_k h12 ?_
      cases hr : rightS n
      · simp [t4, t6, t7, h0', spliceL]
        refine ⟨.tup [zeroN, .v (.int .i64 11)], by simp [zeroN, frz_closed], ?_⟩
        refine ⟨fun m h => ?_, fun _ => rfl⟩
        rw [hd] at h; simp [hs, hr] at h
      · obtain ⟨k1, k2⟩ := hN.k.one
        obtain ⟨i1, i2⟩ := hN.i.one
        obtain ⟨d1, d2⟩ := hN.d.one
        have hN1' : hp 1 = some [[AV.v (Value.bool n.leaf), xk, xi, xd]] := hN1
        simp [t4, t6, t7, h0', hN1', spliceL, k2, i2, d2]
        have hN2 : NH (hupd hp 0 (some [[AV.v (Value.bool n.leaf), xk, xi, xd]])) nx 1 2 n xk xi xd :=
          ⟨by simp [hN1], hN.k.keep (Nat.le_refl _) (fun q hq => by simp [show ¬ q = 0 from fun e => hN.kb.2.2 (e ▸ hq)]), hN.i.keep (Nat.le_refl _) (fun q hq => by simp [show ¬ q = 0 from fun e => hN.ib.2.2 (e ▸ hq)]),
           hN.d.keep (Nat.le_refl _) (fun q hq => by simp [show ¬ q = 0 from fun e => hN.db.2.2 (e ▸ hq)]), hN.kb, hN.ib, hN.db, hN.ki, hN.kd, hN.id'⟩
        obtain ⟨x1, hx1, hc1, hz1⟩ := hN2.lend 2
        refine ⟨.tup [x1, .v (.int .i64 0)], frz_tup (by simp [hz1]), fun m h => ?_, fun h => ?_⟩
        · rw [hd] at h; simp [hs, hr] at h; subst h
          exact ⟨x1, hx1, rfl⟩
        · rw [hd] at h; simp [hs, hr] at h
    · simp [c24_rrrrrrr, t4, t6, t7, hR', hs, h0', spliceL]
      refine ⟨.tup [zeroN, .v (.int .i64 11)], by simp [zeroN, frz_closed], ?_⟩
      refine ⟨fun m h => ?_, fun _ => rfl⟩
      rw [hd] at h; simp [hs] at h
  · simp [c24_rrrrrrr, t4, t6, t7, hR', h0', spliceL]
    refine ⟨.tup [zeroN, .v (.int .i64 11)], by simp [zeroN, frz_closed], ?_⟩
    refine ⟨fun m h => ?_, fun _ => rfl⟩
    rw [hd] at h; simp at h
end Go.Ai

