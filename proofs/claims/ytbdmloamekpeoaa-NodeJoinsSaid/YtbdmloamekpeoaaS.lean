/- Find, and the document's. -/
import Derived.Test.YtbdmloamekpeoaaR
namespace Go.Ai
set_option linter.unusedVariables false
set_option linter.unusedSimpArgs false

theorem f60 (ks : List (List UInt8)) (x : AV) (hx : SlA 1 (ks.map keyC) x) (k : List UInt8) (j : Nat) (hj : j < ks.length) (hp : Heap) (nx a b : Nat) (ha : hp a = some [[x]]) (hb : hp b = some [[.str k]]) :
    Ret E 60 [.v (.int .i64 j), .ptr a 0 0, .ptr b 0 0] hp nx (.v (.bool (!strLt ks[j] k))) hp nx .e := by
  have main := Ret_genE (P := fun v hp' nx' => v = .v (.bool (!strLt ks[j] k)) ∧ hp' = hp ∧ nx' = nx) e60 (args := [.v (.int .i64 j), .ptr a 0 0, .ptr b 0 0]) rfl (hp := hp) (nx := nx) ?_
  · obtain ⟨v, hp', nx', h1, rfl, rfl, rfl⟩ := main
    exact h1
  · obtain ⟨kn, ksz, kc, rfl, hkz⟩ := hx
    have hget : ks[j]? = some ks[j] := List.getElem?_eq_getElem hj
    have hia : iaddrA 1 (.rs kn ksz (ks.map keyC) kc) (.v (.int .i64 j)) = some (.rp (keyC ks[j])) := iaddr_in hkz (by simp [hget]) rfl
    simp [c60, ha, hb, hia, -iaddrA_rs, keyC]

theorem f59 (ks : List (List UInt8)) (x : AV) (hx : SlA 1 (ks.map keyC) x) (hr : Rise ks) (hl : ks.length ≤ 1000000) (k : List UInt8) (hp : Heap) (nx a b : Nat) (ha : hp a = some [[x]]) (hb : hp b = some [[.str k]]) :
    Ret E 59 [.v (.int .i64 ks.length), .fn (.func 60) [] [.ptr a 0 0, .ptr b 0 0]] hp nx (.v (.int .i64 (below ks k))) hp nx .e := by
  have main := Ret_genE (P := fun v hp' nx' => v = .v (.int .i64 (below ks k)) ∧ hp' = hp ∧ nx' = nx) e59 (args := [.v (.int .i64 ks.length), .fn (.func 60) [] [.ptr a 0 0, .ptr b 0 0]]) rfl (hp := hp) (nx := nx) ?_
  · obtain ⟨v, hp', nx', h1, rfl, rfl, rfl⟩ := main
    exact h1
  · simp [c59]
    refine W_loopI (I := fun (g : Nat × Nat) s => g.1 ≤ g.2 ∧ g.2 ≤ ks.length ∧ s.tm 5 = .int .i64 g.1 ∧ s.tm 6 = .int .i64 g.2 ∧ s.tm 1 = .fn (.func 60) [] [.ptr a 0 0, .ptr b 0 0] ∧ s.hp = hp ∧ s.nx = nx ∧
        (∀ j (hj : j < ks.length), j < g.1 → strLt ks[j] k = true) ∧ (∀ j (hj : j < ks.length), g.2 ≤ j → strLt ks[j] k = false))
      (fun g => g.2 - g.1) (0, ks.length) (by simp; intro j hj h; omega) ?_
    rintro ⟨i, j⟩ tm hp' nx' ⟨hij, hjl, t5, t6, t1, rfl, rfl, hlo, hhi⟩
    simp only at hij hjl t5 t6 t1 hlo hhi
    by_cases hlt : i < j
    · obtain ⟨m, hm⟩ : ∃ m, m = (i + j) / 2 := ⟨_, rfl⟩
      have hml : m < ks.length := by omega
      have hw1 : IntKind.wrap .i64 ((i : Int) + (j : Int)) = (i + j : Nat) := by rw [wrap_id] <;> omega
      have hw2 : IntKind.wrap .u64 ((i + j : Nat) : Int) = (i + j : Nat) := by simp only [IntKind.wrap, IntKind.bits, IntKind.signed]; simp; omega
      have hsh : shA .shr .u64 ((i + j : Nat) : Int) 1 = some (.int .u64 (m : Nat)) := by
        simp only [shA]
        rw [if_neg (by omega)]
        have e1 : Nat.min (1 : Int).toNat (IntKind.bits .u64) = 1 := by decide
        rw [e1, Int.fdiv_eq_ediv_of_nonneg _ (by omega), hm]
        norm_cast
      have hw3 : IntKind.wrap .i64 (m : Int) = (m : Nat) := by rw [wrap_id] <;> omega
      have hw4 : IntKind.wrap .i64 ((m : Int) + 1) = (m + 1 : Nat) := by rw [wrap_id] <;> omega
      simp [t5, t6, t1, hlt, hw1, hw2, hsh, hw3, -Int.natCast_add]
      refine WCall_k (f60 ks x hx k m hml _ _ a b ha hb) ?_
      cases hs : strLt ks[m] k
      · simp [t5, t6, t1, hw4, -Int.natCast_add]
        refine ⟨i, m, by omega, by omega, by omega, rfl, rfl, hlo, fun q hq hmq => ?_⟩
        rcases Nat.lt_or_ge m q with g | g
        · cases h4 : strLt ks[q] k with
          | false => rfl
          | true => have := strLt_trans (hr m q hq g) h4; rw [hs] at this; cases this
        · have : q = m := by omega
          subst this; exact hs
      · simp [t5, t6, t1, hw4, -Int.natCast_add]
        refine ⟨m + 1, j, by omega, by omega, by omega, rfl, rfl, fun q hq hmq => ?_, hhi⟩
        rcases Nat.lt_or_ge q m with g | g
        · exact strLt_trans (hr q m hml g) hs
        · have : q = m := by omega
          subst this; exact hs
    · have : i = j := by omega
      subst this
      simp [t5, t6, t1]
      rw [below_eq hjl hlo hhi]

theorem f41 (ks : List (List UInt8)) (x : AV) (hx : SlA 1 (ks.map keyC) x) (hr : Rise ks) (hl : ks.length ≤ 1000000) (k : List UInt8) (hp nx) :
    Ret E 41 [x, .str k] hp nx (.v (.int .i64 (below ks k))) hp nx .p := by
  have hx0 := hx
  obtain ⟨kn, ksz, kc, rfl, hkz⟩ := hx
  refine Ret_pureQ e41 rfl (by simp) ?_ hp nx
  simp [c41]
  have := f59 ks _ hx0 hr hl k (hupd (hupd hnil 0 (some [[AV.rs kn ksz (ks.map keyC) kc]])) 1 (some [[AV.str k]])) 2 0 1 (by simp) (by simp)
  refine WCall_k this ?_
  simp

def findA (r : Int × Bool) : AV := .tup [.int .i64 r.1, .v (.bool r.2)]

theorem f19 (n : Nd) (x : AV) (hx : NdA n x) (k : List UInt8) (h1 : n.keys.length ≤ 60000) (h2 : n.items.length ≤ 60000) (h3 : n.kids.length ≤ 60001) (hp nx) :
    Ret E 19 [x, .str k] hp nx (findA (findS n k)) hp nx .p := by
  have c12' := f12 n _ hx (by omega) (by omega) (by omega)
  obtain ⟨leaf, keys, items, kids⟩ := n
  obtain ⟨kA, iA, dA, rfl, hk, hi, hd⟩ := hx
  have hk' := hk
  obtain ⟨kn, ksz, kc, rfl, hkz⟩ := hk
  obtain ⟨in', isz, ic, rfl, hiz⟩ := hi
  obtain ⟨dn, dsz, dc, rfl, hdz⟩ := hd
  simp only at h1 h2 h3 hk' hkz
  refine Ret_pureQ e19 rfl (by simp) ?_ hp nx
  simp [c19]
  refine WCall_p (c12' _ _) ?_
  cases hr : rightS ⟨leaf, keys, items, kids⟩
  · simp [findA, findS, hr, frz_closed]
  have hrise : Rise keys := Rise.of (by simp only [rightS, Bool.and_eq_true] at hr; exact hr.1)
  obtain ⟨b1, b2, b3⟩ := below_spec hrise k
  simp
  refine WCall_p (f41 keys _ hk' hrise (by omega) k _ _) ?_
  have hmem := mem_below hrise k
  simp
  by_cases hlt : below keys k < keys.length
  · have hget : keys[below keys k]? = some keys[below keys k] := List.getElem?_eq_getElem hlt
    have hia : iaddrA 1 (.rs kn ksz (keys.map keyC) kc) (.v (.int .i64 (below keys k))) = some (.rp (keyC keys[below keys k])) := iaddr_in hkz (by simp [hget]) rfl
    have hw : IntKind.wrap .i64 ((below keys k : Int) + 1) = (below keys k + 1 : Nat) := by rw [wrap_id] <;> omega
    rw [hget] at hmem
    by_cases heq : keys[below keys k] = k
    · have hin : k ∈ keys := hmem.2 (by rw [heq])
      cases leaf
      · simp [hlt, hia, -iaddrA_rs, keyC, heq, hw, frz_closed, -Int.natCast_add]
        simp [findA, findS, hr, hin]
      · simp [hlt, hia, -iaddrA_rs, keyC, heq, hw, frz_closed, -Int.natCast_add]
        simp [findA, findS, hr, hin]
    · have hin : k ∉ keys := fun h => heq (by simpa using hmem.1 h)
      simp [hlt, hia, -iaddrA_rs, keyC, heq, frz_closed]
      simp [findA, findS, hr, hin]
  · have hin : k ∉ keys := fun h => by
      have := hmem.1 h
      rw [List.getElem?_eq_none (by omega)] at this; cases this
    simp [hlt, frz_closed]
    simp [findA, findS, hr, hin]

/-- How many lie below a key, or at it. -/
def upto (eq : Bool) (ks : List (List UInt8)) (k : List UInt8) : Nat := (ks.filter fun x => strLt x k || (eq && decide (x = k))).length
theorem upto_eq {ks : List (List UInt8)} (hr : Rise ks) (eq : Bool) (k : List UInt8) : upto eq ks k = below ks k + if k ∈ ks ∧ eq = true then 1 else 0 := by
  cases eq
  · simp [upto, below]
  · unfold upto below
    simp only [and_true]
    induction ks with
    | nil => simp
    | cons a r ih =>
      have hr' : Rise r := fun i j hj hij => by have := hr (i + 1) (j + 1) (by simp; omega) (by omega); simpa using this
      have ha : ∀ y ∈ r, strLt a y = true := by
        intro y hy
        obtain ⟨j, hj, rfl⟩ := List.getElem_of_mem hy
        have := hr 0 (j + 1) (by simp; omega) (by omega)
        simpa using this
      have ih := ih hr'
      simp only [List.filter_cons]
      by_cases hak : a = k
      · subst hak
        have hn : a ∉ r := fun h => by have := ha _ h; rw [strLt_irrefl] at this; cases this
        rw [if_neg hn] at ih
        simp [strLt_irrefl]
        simpa using ih
      · cases hlt : strLt a k
        · have e : (k ∈ a :: r) ↔ k ∈ r := by simp [Ne.symm hak]
          simp only [e]
          simp [hak]
          simpa using ih
        · have e : (k ∈ a :: r) ↔ k ∈ r := by simp [Ne.symm hak]
          simp only [e]
          simp
          have := ih
          simp at this
          omega

theorem f20 (n : Nd) (x : AV) (hx : NdA n x) (k : List UInt8) (h1 : n.keys.length ≤ 60000) (h2 : n.items.length ≤ 60000) (h3 : n.kids.length ≤ 60001) (hp nx) :
    Ret E 20 [x, .str k] hp nx (findA (findS n k)) hp nx .p := by
  have c13' := f13 n _ hx (by omega) (by omega) (by omega)
  obtain ⟨leaf, keys, items, kids⟩ := n
  obtain ⟨e, rfl⟩ : ∃ e, leaf = !e := ⟨!leaf, by simp⟩
  obtain ⟨kA, iA, dA, rfl, hk, hi, hd⟩ := hx
  have hk' := hk
  obtain ⟨kn, ksz, kc, rfl, hkz⟩ := hk
  obtain ⟨in', isz, ic, rfl, hiz⟩ := hi
  obtain ⟨dn, dsz, dc, rfl, hdz⟩ := hd
  simp only at h1 h2 h3 hk' hkz
  refine Ret_pureQ e20 rfl (by simp) ?_ hp nx
  simp [c20]
  refine WCall_p (c13' _ _) ?_
  cases hr : rightS ⟨!e, keys, items, kids⟩
  · simp [findA, findS, hr, frz_closed]
  have hrise : Rise keys := Rise.of (by simp only [rightS, Bool.and_eq_true] at hr; exact hr.1)
  simp
  refine W_loopI (I := fun (j : Nat) s => j ≤ keys.length ∧ s.tm 8 = .int .i64 j ∧ s.tm 6 = .int .i64 (upto e (keys.take j) k) ∧ s.tm 7 = .v (.bool (decide (k ∈ keys.take j))) ∧ s.tm 1 = .str k ∧ s.tm 2 = .ptr 0 0 0 ∧
      s.hp = hupd hnil 0 (some [[.v (.bool (!e)), .rs kn ksz (keys.map keyC) kc, .rs in' isz (items.map Itm.cells) ic, .rs dn dsz (kids.map kidC) dc]]) ∧ s.nx = 1)
    (fun j => keys.length - j) 0 (by simp [upto]) ?_
  rintro j tm hp nx ⟨hj, t8, t6, t7, t1, t2, rfl, rfl⟩
  simp only at t8 t6 t7 t1 t2
  by_cases hlt : j < keys.length
  · have hget : keys[j]? = some keys[j] := List.getElem?_eq_getElem hlt
    have hia : iaddrA 1 (.rs kn ksz (keys.map keyC) kc) (.v (.int .i64 j)) = some (.rp (keyC keys[j])) := iaddr_in hkz (by simp [hget]) rfl
    have hw : IntKind.wrap .i64 ((j : Int) + 1) = (j + 1 : Nat) := by rw [wrap_id] <;> omega
    have hul : upto e (keys.take j) k ≤ j := by
      have := List.length_filter_le (fun x => strLt x k || (e && decide (x = k))) (keys.take j)
      simp only [List.length_take] at this
      unfold upto; omega
    have hw2 : IntKind.wrap .i64 ((upto e (keys.take j) k : Int) + 1) = (upto e (keys.take j) k + 1 : Nat) := by rw [wrap_id] <;> omega
    have hts : keys.take (j + 1) = keys.take j ++ [keys[j]] := by rw [List.take_add_one, hget]; rfl
    have hus : upto e (keys.take (j + 1)) k = upto e (keys.take j) k + if (strLt keys[j] k || (e && decide (keys[j] = k))) = true then 1 else 0 := by
      rw [hts]; unfold upto; rw [List.filter_append, List.length_append]; simp only [List.filter_cons, List.filter_nil]; split <;> simp
    have hms : k ∈ keys.take (j + 1) ↔ k ∈ keys.take j ∨ keys[j] = k := by rw [hts, List.mem_append, List.mem_singleton, eq_comm (a := k)]
    by_cases heq : keys[j] = k
    · have hlk : strLt keys[j] k = false := by rw [heq]; exact strLt_irrefl _
      cases e <;> by_cases hmj : k ∈ keys.take j <;> simp only [hmj, decide_true, decide_false] at t7 <;>
        (simp [t8, t6, t7, t1, t2, hlt, hia, -iaddrA_rs, keyC, heq, hw, hw2, strLt_irrefl, -Int.natCast_add]
         refine ⟨j + 1, by omega, by omega, by simp, ?_, ?_⟩
         · simp [hus, heq, strLt_irrefl]
         · simp [hms, heq])
    · cases hlk : strLt keys[j] k <;> cases e <;> by_cases hmj : k ∈ keys.take j <;> simp only [hmj, decide_true, decide_false] at t7 <;>
        (simp [t8, t6, t7, t1, t2, hlt, hia, -iaddrA_rs, keyC, heq, hlk, hw, hw2, -Int.natCast_add]
         refine ⟨j + 1, by omega, by omega, by simp, ?_, ?_⟩
         · simp [hus, heq, hlk]
         · simp [hms, hmj, heq])
  · have : j = keys.length := by omega
    subst this
    simp [t8, t6, t7, t2, t1, frz_closed]
    simp [findA, findS, hr, upto_eq hrise]
end Go.Ai
