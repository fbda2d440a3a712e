/- The sum of bytes. -/
import Derived.Test.YtooomkpingiojaaGreatXa
import Derived.Test.YtooomkpingiojaaGreatAiStr
namespace Go.Ai
set_option linter.unusedVariables false
set_option linter.unusedSimpArgs false

/-- A slice that nobody writes. -/
def SlA (n : Nat) (es : List (List AV)) (x : AV) : Prop := ∃ nil sz cap, x = .rs nil sz es cap ∧ (nil = true ∨ sz = n) ∧ (nil = true → es = [])
theorem iaddr_in {n sz : Nat} {nil : Bool} {es : List (List AV)} {cap : Option Nat} {j : Nat} {cells : List AV} {k : IntKind} (h : (nil = true ∨ sz = n) ∧ (nil = true → es = [])) (hl : es[j]? = some cells) :
    iaddrA n (.rs nil sz es cap) (.v (.int k j)) = some (.rp cells) := by
  obtain ⟨hlt, he⟩ := List.getElem?_eq_some_iff.1 hl
  rcases h.1 with h1 | h1
  · rw [h.2 h1] at hlt; simp at hlt
  · simp [iaddrA, h1, idxOf, hlt, he]
def sumE : Blk → Nat → Nat → Option Nat
  | [], _, x => some x
  | [.v (.int .u8 (.ofNat n))] :: r, i, x => bif Nat.ble n 255 then sumE r (i + 1) ((x + (i + 1) * n) % 4294967296) else none
  | _, _, _ => none
theorem wrap_u32 {n : Nat} : IntKind.wrap .u32 (n : Int) = ((n % 4294967296 : Nat) : Int) := by
  have h1 : IntKind.signed .u32 = false := rfl
  have h2 : IntKind.bits .u32 = 32 := rfl
  simp [IntKind.wrap, h1, h2]
theorem sumE_cons {l : List AV} {r : Blk} {i x s : Nat} (h : sumE (l :: r) i x = some s) : ∃ n : Nat, l = [.v (.int .u8 n)] ∧ n ≤ 255 ∧ sumE r (i + 1) ((x + (i + 1) * n) % 4294967296) = some s := by
  unfold sumE at h
  split at h
  · rename_i e; cases e
  · rename_i i' x' n r' e
    cases e
    rw [cond_eq_ite] at h
    split at h
    · rename_i hn; exact ⟨n, rfl, Nat.le_of_ble_eq_true hn, h⟩
    · cases h
  · cases h
theorem f202 (es : Blk) (x : AV) (hx : SlA 1 es x) (hc : closedLL es = true) (hl : es.length ≤ 1000000) (s : Nat) (hs : sumE es 0 0 = some s) (hp nx) : Ret E 202 [x] hp nx (.v (.int .u32 s)) hp nx .p := by
  obtain ⟨nil, sz, cap, rfl, hz⟩ := id hx
  refine Ret_pureQ e202 rfl (by simp [hc]) ?_ hp nx
  simp [c202]
  refine W_loopI (I := fun (q : Nat × Nat) t => q.1 ≤ es.length ∧ q.2 < 4294967296 ∧ sumE (es.drop q.1) q.1 q.2 = some s ∧ t.tm 8 = .v (.int .i64 q.1) ∧ t.tm 7 = .v (.int .i64 es.length) ∧ t.tm 6 = .rs nil sz es cap ∧ t.tm 3 = .v (.int .u32 q.2) ∧ t.hp = hnil ∧ t.nx = 0) (fun q => es.length - q.1) (0, 0) ⟨by simp, by simp, by simpa using hs, by simp, by simp, by simp, by simp, by simp, by simp⟩ ?_
  rintro ⟨j, y⟩ tm hp nx ⟨hj, hy, hd, t8, t7, t6, t3, rfl, rfl⟩
  simp only at hj hy hd t8 t7 t6 t3
  by_cases hlt : j < es.length
  · rw [List.drop_eq_getElem_cons hlt] at hd
    obtain ⟨n, e1, e2, e3⟩ := sumE_cons hd
    have hia : iaddrA 1 (.rs nil sz es cap) (.v (.int .i64 j)) = some (.rp [.v (.int .u8 n)]) := iaddr_in hz (by rw [List.getElem?_eq_getElem hlt, e1])
    have w1 : IntKind.wrap .i64 ((j : Int) + 1) = (j + 1 : Nat) := by rw [wrap_id] <;> omega
    have w2 : IntKind.wrap .u32 ((j + 1 : Nat) : Int) = (j + 1 : Nat) := by rw [wrap_u32, Nat.mod_eq_of_lt (by omega)]
    have w3 : IntKind.wrap .u32 (n : Int) = n := by rw [wrap_u32, Nat.mod_eq_of_lt (by omega)]
    have w4 : IntKind.wrap .u32 (((j + 1 : Nat) : Int) * n) = (((j + 1) * n % 4294967296 : Nat) : Int) := by rw [show ((j + 1 : Nat) : Int) * n = (((j + 1) * n : Nat) : Int) by simp, wrap_u32]
    have w5 : IntKind.wrap .u32 ((y : Int) + (((j + 1) * n % 4294967296 : Nat) : Int)) = (((y + (j + 1) * n) % 4294967296 : Nat) : Int) := by
      rw [show (y : Int) + (((j + 1) * n % 4294967296 : Nat) : Int) = ((y + (j + 1) * n % 4294967296 : Nat) : Int) by simp, wrap_u32]
      simp
    simp [t8, t7, t6, t3, hlt, -iaddrA_rs, hia, -Prod.exists, w1, w2, w3, w4, w5, -Int.natCast_add, -Int.natCast_mul, -Int.natCast_emod]
    exact ⟨(j + 1, (y + (j + 1) * n) % 4294967296), by simp only; omega, by simp only; omega, by simp only; omega, e3, rfl, rfl⟩
  · have : j = es.length := by omega
    subst this
    rw [List.drop_eq_nil_of_le (Nat.le_refl _)] at hd
    simp only [sumE, Option.some.injEq] at hd
    subst hd
    simp [t8, t7, t3]

/-- The sum, as a program. -/
def xSum (args : List AV) (H : Tr Blk) (nx : Nat) : Option (AV × Tr Blk × Nat) :=
  match mapO (frz 6 H.get) args with
  | some [.rs false sz es _] => bif Nat.beq sz 1 && closedLL es && Nat.ble es.length 1000000 then
      match sumE es 0 0 with
      | some s => some (.v (.int .u32 s), H, nx)
      | none => none
    else none
  | _ => none
theorem xSum_ok {args : List AV} {H H' : Tr Blk} {nx nx' : Nat} {v : AV} (h : xSum args H nx = some (v, H', nx')) : Ret E 202 args H.get nx v H'.get nx' .e := by
  unfold xSum at h
  split at h
  · rename_i sz es cap hz
    rw [cond_eq_ite] at h
    split at h
    · rename_i hc
      simp only [Bool.and_eq_true] at hc
      split at h
      · rename_i s hs
        simp only [Option.some.injEq, Prod.mk.injEq] at h
        obtain ⟨rfl, rfl, rfl⟩ := h
        exact Ret_lend hz rfl (f202 es _ ⟨false, sz, cap, rfl, .inr (beq_t hc.1.1), fun h => nomatch h⟩ hc.1.2 (ble_t hc.2) s hs hnil 0)
      · cases h
    · cases h
  · cases h
def xe5 : Nat → List AV → Tr Blk → Nat → Option (AV × Tr Blk × Nat)
  | 202, args, H, nx => xSum args H nx
  | f, args, H, nx => xe f args H nx
theorem xe5_ok : ∀ f args H nx v H' nx', xe5 f args H nx = some (v, H', nx') → Ret E f args H.get nx v H'.get nx' .e := by
  intro f args H nx v H' nx' h
  unfold xe5 at h
  split at h
  · exact xSum_ok h
  · exact xe_ok _ _ _ _ _ _ _ h
end Go.Ai
