/- Right nodes. -/
import Derived.Test.YtbdmloamekpeoaaB
namespace Go.Ai
set_option linter.unusedVariables false
set_option linter.unusedSimpArgs false

theorem f57 (p : Int → Bool) (g : Nat) (hg : ∀ x hp nx, Ret E g [.v (.int .i64 x)] hp nx (.v (.bool (p x))) hp nx .p) (es : List Int) (x : AV) (hx : SlA 1 (es.map kidC) x) (hlen : es.length ≤ 1000000) (hp nx) :
    Ret E 57 [x, .fn (.func g) [] []] hp nx (.v (.int .i64 (firstS p es 0))) hp nx .p := by
  obtain ⟨nil, sz, cap, rfl, hz⟩ := hx
  refine Ret_pureQ e57 rfl (by simp) ?_ hp nx
  simp [c57]
  refine W_loopI (I := fun (j : Nat) s => j ≤ es.length ∧ s.tm 8 = .int .i64 j ∧ s.tm 7 = .int .i64 es.length ∧ s.tm 0 = .rs nil sz (es.map kidC) cap ∧ s.tm 1 = .fn (.func g) [] [] ∧ s.hp = hnil ∧ s.nx = 0 ∧ ∀ y ∈ es.take j, p y = false)
    (fun j => es.length - j) 0 (by simp) ?_
  rintro j tm hp nx ⟨hj, h8, h7, h0, h1, rfl, rfl, hno⟩
  simp only at h8 h7 h0 h1
  by_cases hlt : j < es.length
  · have hget : es[j]? = some es[j] := List.getElem?_eq_getElem hlt
    have hia : iaddrA 1 (.rs nil sz (es.map kidC) cap) (.v (.int .i64 j)) = some (.rp (kidC es[j])) := iaddr_in hz (by simp [hget]) rfl
    have hw : IntKind.wrap .i64 ((j : Int) + 1) = (j + 1 : Nat) := by rw [wrap_id] <;> omega
    simp [h8, h7, h0, h1, hlt, -iaddrA_rs, hia, kidC]
    refine WCall_p (hg _ _ _) ?_
    cases hp : p es[j]
    · simp [h8, h7, h0, h1, hw]
      exact ⟨j + 1, by omega, by omega, by simp, take_succ_all hget hno hp⟩
    · simp
      rw [firstS_skip p es j 0 (by omega) hno, List.drop_eq_getElem_cons hlt]
      simp [firstS, hp]
  · have : j = es.length := by omega
    subst this
    simp [h8, h7]
    rw [firstS_skip p es _ 0 hj hno]; simp [firstS]

theorem f27 (p : Itm → Bool) (g : Nat) (hg : ∀ x hp nx, Ret E g [.agg x.cells] hp nx (.v (.bool (p x))) hp nx .p) (es : List Itm) (x : AV) (hx : SlA 3 (es.map Itm.cells) x) (hlen : es.length ≤ 1000000) (hp nx) :
    Ret E 27 [x, .fn (.func g) [] []] hp nx (.v (.bool (es.any p))) hp nx .p := by
  refine Ret_pureQ e27 rfl (by obtain ⟨nil, sz, cap, rfl, hz⟩ := hx; simp) ?_ hp nx
  simp [c27]
  refine WCall_p (f56 p g hg es x hx hlen _ _) ?_
  simp [firstS_any]
theorem f30 (p : Int → Bool) (g : Nat) (hg : ∀ x hp nx, Ret E g [.v (.int .i64 x)] hp nx (.v (.bool (p x))) hp nx .p) (es : List Int) (x : AV) (hx : SlA 1 (es.map kidC) x) (hlen : es.length ≤ 1000000) (hp nx) :
    Ret E 30 [x, .fn (.func g) [] []] hp nx (.v (.bool (es.any p))) hp nx .p := by
  refine Ret_pureQ e30 rfl (by obtain ⟨nil, sz, cap, rfl, hz⟩ := hx; simp) ?_ hp nx
  simp [c30]
  refine WCall_p (f57 p g hg es x hx hlen _ _) ?_
  simp [firstS_any]

def badS (ks : List (List UInt8)) (i : Nat) : Bool := decide (60 < (ks.getD i []).length) || (decide (0 < i) && !strLt (ks.getD (i - 1) []) (ks.getD i []))
def keysS (ks : List (List UInt8)) : Bool := (List.range ks.length).all fun i => !badS ks i
def bodyS (n : Nd) : Bool := if n.leaf then decide (n.items.length = n.keys.length) && decide (n.kids.length = 0) && n.items.all itemS
  else decide (0 < n.keys.length) && decide (n.kids.length = n.keys.length + 1) && decide (n.items.length = 0) && n.kids.all kidS
def rightS (n : Nd) : Bool := keysS n.keys && bodyS n

theorem keysS_true {ks : List (List UInt8)} (h : ∀ i, i < ks.length → badS ks i = false) : keysS ks = true := by
  simp only [keysS, List.all_eq_true, List.mem_range]
  intro i hi; simp [h i hi]
theorem keysS_false {ks : List (List UInt8)} {i : Nat} (hi : i < ks.length) (h : badS ks i = true) : keysS ks = false := by
  cases hk : keysS ks with
  | false => rfl
  | true =>
    simp only [keysS, List.all_eq_true, List.mem_range] at hk
    have := hk i hi
    rw [h] at this; cases this

theorem strLt_irrefl : ∀ a : List UInt8, strLt a a = false
  | [] => rfl
  | x :: a => by simp [strLt, strLt_irrefl a]
theorem strLt_conn : ∀ a b : List UInt8, (strLt a b || decide (a = b)) = !strLt b a
  | [], [] => rfl
  | [], y :: b => by simp [strLt]
  | x :: a, [] => by simp [strLt]
  | x :: a, y :: b => by
    have ih := strLt_conn a b
    simp only [strLt]
    by_cases h1 : x < y
    · have h2 : ¬ y < x := by intro h; have h1 := UInt8.lt_iff_toNat_lt.1 h1; have h := UInt8.lt_iff_toNat_lt.1 h; omega
      have h3 : x ≠ y := by rintro rfl; exact h2 h1
      simp [h1, h2, h3, Ne.symm h3]
    · by_cases h2 : y < x
      · have h3 : x ≠ y := by rintro rfl; exact h1 h2
        simp [h1, h2, h3]
      · have h3 : x = y := by
          apply UInt8.toNat_inj.1
          have h1 : ¬ x.toNat < y.toNat := fun h => h1 (UInt8.lt_iff_toNat_lt.2 h)
          have h2 : ¬ y.toNat < x.toNat := fun h => h2 (UInt8.lt_iff_toNat_lt.2 h)
          omega
        subst h3
        simp [h1]
        rw [← ih]

theorem any_not {α : Type} (p : α → Bool) (l : List α) : (!l.any fun x => !p x) = l.all p := by
  induction l with
  | nil => rfl
  | cons a l ih => simp [List.any_cons, List.all_cons, ← ih]

theorem f12 (n : Nd) (x : AV) (hx : NdA n x) (h1 : n.keys.length ≤ 100000) (h2 : n.items.length ≤ 100000) (h3 : n.kids.length ≤ 100000) (hp nx) :
    Ret E 12 [x] hp nx (.v (.bool (rightS n))) hp nx .p := by
  obtain ⟨kA, iA, dA, rfl, hk, hi, hd⟩ := hx
  have hk' := hk; have hi' := hi; have hd' := hd
  obtain ⟨kn, ksz, kc, rfl, hkz⟩ := hk'
  obtain ⟨in', isz, ic, rfl, hiz⟩ := hi'
  obtain ⟨dn, dsz, dc, rfl, hdz⟩ := hd'
  obtain ⟨leaf, keys, items, kids⟩ := n
  simp only at *
  refine Ret_pureQ e12 rfl (by simp) ?_ hp nx
  simp [c12]
  refine W_loopI (I := fun (j : Nat) s => j ≤ keys.length ∧ s.tm 8 = .int .i64 j ∧ s.tm 7 = .int .i64 keys.length ∧ s.tm 6 = .rs kn ksz (keys.map keyC) kc ∧ s.tm 1 = .ptr 0 0 0 ∧
    s.hp = hupd hnil 0 (some [[.v (.bool leaf), .rs kn ksz (keys.map keyC) kc, .rs in' isz (items.map Itm.cells) ic, .rs dn dsz (kids.map kidC) dc]]) ∧ s.nx = 1 ∧ ∀ i, i < j → badS keys i = false)
    (fun j => keys.length - j) 0 (by simp) ?_
  rintro j tm hp nx ⟨hj, h8, h7, h6, t1, rfl, rfl, hno⟩
  simp only at h8 h7 h6 t1
  by_cases hlt : j < keys.length
  · have hget : keys[j]? = some keys[j] := List.getElem?_eq_getElem hlt
    have hgd : keys.getD j [] = keys[j] := by simp [hget]
    have hia : iaddrA 1 (.rs kn ksz (keys.map keyC) kc) (.v (.int .i64 j)) = some (.rp (keyC keys[j])) := iaddr_in hkz (by simp [hget]) rfl
    have hw : IntKind.wrap .i64 ((j : Int) + 1) = (j + 1 : Nat) := by rw [wrap_id] <;> omega
    by_cases hl : 60 < keys[j].length
    · have hl' : (60 : Int) < keys[j].length := by omega
      simp [h8, h7, h6, t1, hlt, -iaddrA_rs, hia, keyC, hl']
      have : badS keys j = true := by simp only [badS]; rw [hgd]; simp [hl]
      simp [rightS, keysS_false hlt this]
    · have hl' : ¬ (60 : Int) < keys[j].length := by omega
      by_cases hj0 : 0 < j
      · have hpl : j - 1 < keys.length := by omega
        have hpg : keys[j - 1]? = some keys[j - 1] := List.getElem?_eq_getElem hpl
        have hpd : keys.getD (j - 1) [] = keys[j - 1] := by simp [hpg]
        have hw1 : IntKind.wrap .i64 ((j : Int) - 1) = (j - 1 : Nat) := by rw [wrap_id] <;> omega
        have hib : iaddrA 1 (.rs kn ksz (keys.map keyC) kc) (.v (.int .i64 (j - 1 : Nat))) = some (.rp (keyC keys[j - 1])) := iaddr_in hkz (by simp [hpg]) rfl
        have hbad : badS keys j = !strLt keys[j - 1] keys[j] := by simp only [badS]; rw [hgd, hpd]; simp [hl, hj0]
        cases hs : strLt keys[j - 1] keys[j]
        · simp [h8, h7, h6, t1, hlt, -iaddrA_rs, hia, keyC, hl', hj0, hw1, hib, hs]
          simp [rightS, keysS_false hlt (by rw [hbad, hs]; rfl)]
        · simp [h8, h7, h6, t1, hlt, -iaddrA_rs, hia, keyC, hl', hj0, hw1, hib, hs, hw]
          refine ⟨j + 1, by omega, by omega, by simp, fun i hi => ?_⟩
          rcases Nat.lt_or_ge i j with h | h
          · exact hno i h
          · have : i = j := by omega
            subst this; rw [hbad, hs]; rfl
      · have hj0' : j = 0 := by omega
        subst hj0'
        have hia0 : iaddrA 1 (.rs kn ksz (keys.map keyC) kc) (.v (.int .i64 0)) = some (.rp (keyC keys[0])) := hia
        have hw0 : IntKind.wrap .i64 (0 + 1) = 1 := hw
        simp at h8
        simp [h8, h7, h6, t1, hlt, -iaddrA_rs, hia0, keyC, hl', hw0]
        refine ⟨1, by omega, by omega, by decide, fun i hi => ?_⟩
        have : i = 0 := by omega
        subst this
        simp only [badS]; rw [hgd]; simp; omega
  · have : j = keys.length := by omega
    subst this
    have hks := keysS_true hno
    have hw : IntKind.wrap .i64 ((keys.length : Int) + 1) = (keys.length + 1 : Nat) := by rw [wrap_id] <;> omega
    cases leaf
    · by_cases ha : 0 < keys.length
      · by_cases hb : kids.length = keys.length + 1
        · have hb' : (kids.length : Int) = (keys.length + 1 : Nat) := by omega
          by_cases hc : items.length = 0
          · have hc' : (items.length : Int) = 0 := by omega
            simp [h8, h7, t1, ha, hw, hb', hc', -Int.natCast_add]
            refine WCall_p (f30 (fun x => !kidS x) 31 (fun x hp nx => f31 x hp nx) kids _ hd (by omega) _ _) ?_
            simp [rightS, hks, bodyS, ha, hb, hc, any_not]
          · have hc' : items ≠ [] := by rintro rfl; exact hc rfl
            simp [h8, h7, t1, ha, hw, hb', hc', -Int.natCast_add]
            simp [rightS, hks, bodyS, ha, hb, hc']
        · have hb' : ¬ (kids.length : Int) = (keys.length + 1 : Nat) := by omega
          simp [h8, h7, t1, ha, hw, hb', -Int.natCast_add]
          simp [rightS, hks, bodyS, ha, hb]
      · simp [h8, h7, t1, ha]
        simp [rightS, hks, bodyS, ha]
    · by_cases ha : items.length = keys.length
      · have ha' : (items.length : Int) = keys.length := by omega
        by_cases hb : kids.length = 0
        · have hb' : (kids.length : Int) = 0 := by omega
          simp [h8, h7, t1, ha', hb']
          refine WCall_p (f27 (fun x => !itemS x) 28 (fun x hp nx => f28 x hp nx) items _ hi (by omega) _ _) ?_
          simp [rightS, hks, bodyS, ha, hb, any_not]
        · have hb' : kids ≠ [] := by rintro rfl; exact hb rfl
          simp [h8, h7, t1, ha', hb']
          simp [rightS, hks, bodyS, ha, hb']
      · have ha' : ¬ (items.length : Int) = keys.length := by omega
        simp [h8, h7, t1, ha']
        simp [rightS, hks, bodyS, ha]
end Go.Ai
