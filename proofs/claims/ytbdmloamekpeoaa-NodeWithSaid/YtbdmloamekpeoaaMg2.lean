/- Nodes as abstract values; which ones are right. -/
import Derived.Test.YtbdmloamekpeoaaMg1
import Derived.Test.YtbdmloamekpeoaaAiSimp
/- Nodes as abstract values; which ones are right. -/
namespace Go.Ai
set_option linter.unusedVariables false
set_option linter.unusedSimpArgs false

structure Itm where
  v : List UInt8
  p : Int
  s : Int

def Itm.cells (x : Itm) : List AV := [.str x.v, .int .i64 x.p, .int .i64 x.s]

structure Nd where
  leaf : Bool
  keys : List (List UInt8)
  items : List Itm
  kids : List Int

def keyC (k : List UInt8) : List AV := [.str k]
def kidC (k : Int) : List AV := [.int .i64 k]

/-- A slice that nobody writes. -/
def SlA (n : Nat) (es : List (List AV)) (x : AV) : Prop := ∃ nil sz cap, x = .rs nil sz es cap ∧ (nil = true ∨ sz = n) ∧ (nil = true → es = [])

def NdA (n : Nd) (x : AV) : Prop := ∃ k i d, x = .agg [.v (.bool n.leaf), k, i, d] ∧ SlA 1 (n.keys.map keyC) k ∧ SlA 3 (n.items.map Itm.cells) i ∧ SlA 1 (n.kids.map kidC) d

theorem closedLL_map {α : Type} {f : α → List AV} (h : ∀ x, closedL (f x) = true) : ∀ l : List α, closedLL (l.map f) = true
  | [] => by simp
  | x :: r => by simp [h x, closedLL_map h r]
@[simp] theorem closed_keys {l : List (List UInt8)} : closedLL (l.map keyC) = true := closedLL_map (fun x => by simp [keyC]) l
@[simp] theorem closed_items {l : List Itm} : closedLL (l.map Itm.cells) = true := closedLL_map (fun x => by simp [Itm.cells]) l
@[simp] theorem closed_kids {l : List Int} : closedLL (l.map kidC) = true := closedLL_map (fun x => by simp [kidC]) l

def kidS (x : Int) : Bool := decide (2 ≤ x) && decide (x < 4096)
def itemS (x : Itm) : Bool := if x.p = 0 then decide (x.s = 0) && decide (x.v.length ≤ 60) else kidS x.p && decide (x.v = []) && decide (60 < x.s) && decide (x.s ≤ 60000)

theorem f32 (x : Int) (hp nx) : Ret E 32 [.v (.int .i64 x)] hp nx (.v (.bool (kidS x))) hp nx .p := by
  refine Ret_pureQ e32 rfl rfl ?_ hp nx
  by_cases h1 : 2 ≤ x <;> simp [c32, kidS, h1]
theorem f34 (x : Int) (hp nx) : Ret E 34 [.v (.int .i64 x)] hp nx (.v (.bool (kidS x))) hp nx .p := by
  refine Ret_pureQ e34 rfl rfl ?_ hp nx
  by_cases h1 : 2 ≤ x <;> simp [c34, kidS, h1]

theorem f29 (x : Itm) (hp nx) : Ret E 29 [.agg x.cells] hp nx (.v (.bool (itemS x))) hp nx .p := by
  refine Ret_pureQ e29 rfl (by simp [Itm.cells]) ?_ hp nx
  obtain ⟨v, p, s⟩ := x
  by_cases h1 : p = 0
  · by_cases h2 : s = 0
    · simp [c29, h1, Itm.cells, h2, itemS]; omega
    · simp [c29, h1, Itm.cells, h2, itemS]
  · simp [c29, h1, Itm.cells, itemS]
    refine WCall_p (f32 p _ _) ?_
    cases h2 : kidS p
    · simp
    · by_cases h4 : v = []
      · by_cases h5 : 60 < s
        · simp [h4, h5]
        · simp [h4, h5]
      · simp [h4]
theorem f33 (x : Itm) (hp nx) : Ret E 33 [.agg x.cells] hp nx (.v (.bool (itemS x))) hp nx .p := by
  refine Ret_pureQ e33 rfl (by simp [Itm.cells]) ?_ hp nx
  obtain ⟨v, p, s⟩ := x
  by_cases h1 : p = 0
  · by_cases h2 : s = 0
    · simp [c33, h1, Itm.cells, h2, itemS]; omega
    · simp [c33, h1, Itm.cells, h2, itemS]
  · simp [c33, h1, Itm.cells, itemS]
    refine WCall_p (f34 p _ _) ?_
    cases h2 : kidS p
    · simp
    · by_cases h4 : v = []
      · by_cases h5 : 60 < s
        · simp [h4, h5]
        · simp [h4, h5]
      · simp [h4]

theorem f28 (x : Itm) (hp nx) : Ret E 28 [.agg x.cells] hp nx (.v (.bool (!itemS x))) hp nx .p := by
  refine Ret_pureQ e28 rfl (by simp [Itm.cells]) ?_ hp nx
  have := f29 x
  obtain ⟨v, p, s⟩ := x
  simp [c28, Itm.cells]
  exact WCall_p (this _ _) (by simp)
theorem f31 (x : Int) (hp nx) : Ret E 31 [.v (.int .i64 x)] hp nx (.v (.bool (!kidS x))) hp nx .p := by
  refine Ret_pureQ e31 rfl rfl ?_ hp nx
  simp [c31]
  exact WCall_p (f32 x _ _) (by simp)

/-- Where the first stands that is so; -1: none is. -/
def firstS {α : Type} (p : α → Bool) : List α → Int → Int
  | [], _ => -1
  | x :: r, i => if p x then i else firstS p r (i + 1)

theorem firstS_any {α : Type} (p : α → Bool) : ∀ (l : List α) (i : Int), 0 ≤ i → decide (0 ≤ firstS p l i) = l.any p
  | [], i, _ => by simp [firstS]
  | x :: r, i, h => by
    simp only [firstS, List.any_cons]
    split
    · rename_i hx; simp [hx, h]
    · rename_i hx; simp [hx, firstS_any p r (i + 1) (by omega)]
end Go.Ai

/- Looking through slices. -/
namespace Go.Ai
set_option linter.unusedVariables false
set_option linter.unusedSimpArgs false

theorem firstS_skip {α : Type} (p : α → Bool) : ∀ (l : List α) (j : Nat) (i : Int), j ≤ l.length → (∀ x ∈ l.take j, p x = false) → firstS p l i = firstS p (l.drop j) (i + j)
  | _, 0, i, _, _ => by simp
  | [], j + 1, i, h, _ => by simp at h
  | x :: r, j + 1, i, h, h2 => by
    have hx := h2 x (by simp)
    simp only [firstS, hx]
    rw [if_neg (by simp), firstS_skip p r j (i + 1) (by simpa using h) (fun y hy => h2 y (by simp [hy]))]
    simp; congr 1; omega

theorem take_succ_all {α : Type} {p : α → Bool} {l : List α} {j : Nat} {x : α} (hj : l[j]? = some x) (h : ∀ y ∈ l.take j, p y = false) (hx : p x = false) : ∀ y ∈ l.take (j + 1), p y = false := by
  intro y hy
  rw [List.take_add_one, hj] at hy
  simp at hy
  rcases hy with hy | rfl
  · exact h y hy
  · exact hx

/-- An address within a slice that nobody writes. -/
theorem iaddr_in {n : Nat} {nil sz k es cap} {i : Int} {j : Nat} {c : List AV} (hz : (nil = true ∨ sz = n) ∧ (nil = true → es = [])) (hj : es[j]? = some c) (hi : i = (j : Int)) : iaddrA n (.rs nil sz es cap) (.v (.int k i)) = some (.rp c) := by
  have hne : es ≠ [] := by intro e; subst e; simp at hj
  have := hz.1.resolve_left fun h => hne (hz.2 h)
  subst this; subst hi
  simp [hj]

theorem f56 (p : Itm → Bool) (g : Nat) (hg : ∀ x hp nx, Ret E g [.agg x.cells] hp nx (.v (.bool (p x))) hp nx .p) (es : List Itm) (x : AV) (hx : SlA 3 (es.map Itm.cells) x) (hlen : es.length ≤ 1000000) (hp nx) :
    Ret E 56 [x, .fn (.func g) [] []] hp nx (.v (.int .i64 (firstS p es 0))) hp nx .p := by
  obtain ⟨nil, sz, cap, rfl, hz⟩ := hx
  refine Ret_pureQ e56 rfl (by simp) ?_ hp nx
  simp [c56]
  refine W_loopI (I := fun (j : Nat) s => j ≤ es.length ∧ s.tm 8 = .int .i64 j ∧ s.tm 7 = .int .i64 es.length ∧ s.tm 0 = .rs nil sz (es.map Itm.cells) cap ∧ s.tm 1 = .fn (.func g) [] [] ∧ s.hp = hnil ∧ s.nx = 0 ∧ ∀ y ∈ es.take j, p y = false)
    (fun j => es.length - j) 0 (by simp) ?_
  rintro j tm hp nx ⟨hj, h8, h7, h0, h1, rfl, rfl, hno⟩
  simp only at h8 h7 h0 h1
  by_cases hlt : j < es.length
  · have hget : es[j]? = some es[j] := List.getElem?_eq_getElem hlt
    have hia : iaddrA 3 (.rs nil sz (es.map Itm.cells) cap) (.v (.int .i64 j)) = some (.rp es[j].cells) := iaddr_in hz (by simp [hget]) rfl
    have hw : IntKind.wrap .i64 ((j : Int) + 1) = (j + 1 : Nat) := by rw [wrap_id] <;> omega
    simp [h8, h7, h0, h1, hlt, -iaddrA_rs, hia]
    refine ⟨by simp [Itm.cells], ?_⟩
    simp [Itm.cells]
    refine WCall_p (hg _ _ _) ?_
    cases hp : p es[j]
    · simp [h8, h7, h0, h1, hw]
      exact ⟨j + 1, by omega, by omega, by simp, take_succ_all hget hno hp⟩
    · simp
      rw [firstS_skip p es j 0 (by omega) hno, List.drop_eq_getElem_cons hlt]
      simp [firstS, hp]
  · have : j = es.length := by omega
    subst this
    simp [h8, h7]
    rw [firstS_skip p es _ 0 hj hno]; simp [firstS]
end Go.Ai

/- Right nodes. -/
namespace Go.Ai
set_option linter.unusedVariables false
set_option linter.unusedSimpArgs false

theorem f57 (p : Int → Bool) (g : Nat) (hg : ∀ x hp nx, Ret E g [.v (.int .i64 x)] hp nx (.v (.bool (p x))) hp nx .p) (es : List Int) (x : AV) (hx : SlA 1 (es.map kidC) x) (hlen : es.length ≤ 1000000) (hp nx) :
    Ret E 57 [x, .fn (.func g) [] []] hp nx (.v (.int .i64 (firstS p es 0))) hp nx .p := by
  obtain ⟨nil, sz, cap, rfl, hz⟩ := hx
  refine Ret_pureQ e57 rfl (by simp) ?_ hp nx
  simp [c57]
  refine W_loopI (I := fun (j : Nat) s => j ≤ es.length ∧ s.tm 8 = .int .i64 j ∧ s.tm 7 = .int .i64 es.length ∧ s.tm 0 = .rs nil sz (es.map kidC) cap ∧ s.tm 1 = .fn (.func g) [] [] ∧ s.hp = hnil ∧ s.nx = 0 ∧ ∀ y ∈ es.take j, p y = false)
    (fun j => es.length - j) 0 (by simp) ?_
  rintro j tm hp nx ⟨hj, h8, h7, h0, h1, rfl, rfl, hno⟩
  simp only at h8 h7 h0 h1
  by_cases hlt : j < es.length
  · have hget : es[j]? = some es[j] := List.getElem?_eq_getElem hlt
    have hia : iaddrA 1 (.rs nil sz (es.map kidC) cap) (.v (.int .i64 j)) = some (.rp (kidC es[j])) := iaddr_in hz (by simp [hget]) rfl
    have hw : IntKind.wrap .i64 ((j : Int) + 1) = (j + 1 : Nat) := by rw [wrap_id] <;> omega
    simp [h8, h7, h0, h1, hlt, -iaddrA_rs, hia, kidC]
    refine WCall_p (hg _ _ _) ?_
    cases hp : p es[j]
    · simp [h8, h7, h0, h1, hw]
      exact ⟨j + 1, by omega, by omega, by simp, take_succ_all hget hno hp⟩
    · simp
      rw [firstS_skip p es j 0 (by omega) hno, List.drop_eq_getElem_cons hlt]
      simp [firstS, hp]
  · have : j = es.length := by omega
    subst this
    simp [h8, h7]
    rw [firstS_skip p es _ 0 hj hno]; simp [firstS]

theorem f27 (p : Itm → Bool) (g : Nat) (hg : ∀ x hp nx, Ret E g [.agg x.cells] hp nx (.v (.bool (p x))) hp nx .p) (es : List Itm) (x : AV) (hx : SlA 3 (es.map Itm.cells) x) (hlen : es.length ≤ 1000000) (hp nx) :
    Ret E 27 [x, .fn (.func g) [] []] hp nx (.v (.bool (es.any p))) hp nx .p := by
  refine Ret_pureQ e27 rfl (by obtain ⟨nil, sz, cap, rfl, hz⟩ := hx; simp) ?_ hp nx
  simp [c27]
  refine WCall_p (f56 p g hg es x hx hlen _ _) ?_
  simp [firstS_any]
theorem f30 (p : Int → Bool) (g : Nat) (hg : ∀ x hp nx, Ret E g [.v (.int .i64 x)] hp nx (.v (.bool (p x))) hp nx .p) (es : List Int) (x : AV) (hx : SlA 1 (es.map kidC) x) (hlen : es.length ≤ 1000000) (hp nx) :
    Ret E 30 [x, .fn (.func g) [] []] hp nx (.v (.bool (es.any p))) hp nx .p := by
  refine Ret_pureQ e30 rfl (by obtain ⟨nil, sz, cap, rfl, hz⟩ := hx; simp) ?_ hp nx
  simp [c30]
  refine WCall_p (f57 p g hg es x hx hlen _ _) ?_
  simp [firstS_any]

def badS (ks : List (List UInt8)) (i : Nat) : Bool := decide (60 < (ks.getD i []).length) || (decide (0 < i) && !strLt (ks.getD (i - 1) []) (ks.getD i []))
def keysS (ks : List (List UInt8)) : Bool := (List.range ks.length).all fun i => !badS ks i
def bodyS (n : Nd) : Bool := if n.leaf then decide (n.items.length = n.keys.length) && decide (n.kids.length = 0) && n.items.all itemS
  else decide (0 < n.keys.length) && decide (n.kids.length = n.keys.length + 1) && decide (n.items.length = 0) && n.kids.all kidS
def rightS (n : Nd) : Bool := keysS n.keys && bodyS n

theorem keysS_true {ks : List (List UInt8)} (h : ∀ i, i < ks.length → badS ks i = false) : keysS ks = true := by
  simp only [keysS, List.all_eq_true, List.mem_range]
  intro i hi; simp [h i hi]
theorem keysS_false {ks : List (List UInt8)} {i : Nat} (hi : i < ks.length) (h : badS ks i = true) : keysS ks = false := by
  cases hk : keysS ks with
  | false => rfl
  | true =>
    simp only [keysS, List.all_eq_true, List.mem_range] at hk
    have := hk i hi
    rw [h] at this; cases this

theorem strLt_irrefl : ∀ a : List UInt8, strLt a a = false
  | [] => rfl
  | x :: a => by simp [strLt, strLt_irrefl a]
theorem strLt_conn : ∀ a b : List UInt8, (strLt a b || decide (a = b)) = !strLt b a
  | [], [] => rfl
  | [], y :: b => by simp [strLt]
  | x :: a, [] => by simp [strLt]
  | x :: a, y :: b => by
    have ih := strLt_conn a b
    simp only [strLt]
    by_cases h1 : x < y
    · have h2 : ¬ y < x := by intro h; have h1 := UInt8.lt_iff_toNat_lt.1 h1; have h := UInt8.lt_iff_toNat_lt.1 h; omega
      have h3 : x ≠ y := by rintro rfl; exact h2 h1
      simp [h1, h2, h3, Ne.symm h3]
    · by_cases h2 : y < x
      · have h3 : x ≠ y := by rintro rfl; exact h1 h2
        simp [h1, h2, h3]
      · have h3 : x = y := by
          apply UInt8.toNat_inj.1
          have h1 : ¬ x.toNat < y.toNat := fun h => h1 (UInt8.lt_iff_toNat_lt.2 h)
          have h2 : ¬ y.toNat < x.toNat := fun h => h2 (UInt8.lt_iff_toNat_lt.2 h)
          omega
        subst h3
        simp [h1]
        rw [← ih]

theorem any_not {α : Type} (p : α → Bool) (l : List α) : (!l.any fun x => !p x) = l.all p := by
  induction l with
  | nil => rfl
  | cons a l ih => simp [List.any_cons, List.all_cons, ← ih]

theorem f12 (n : Nd) (x : AV) (hx : NdA n x) (h1 : n.keys.length ≤ 100000) (h2 : n.items.length ≤ 100000) (h3 : n.kids.length ≤ 100000) (hp nx) :
    Ret E 12 [x] hp nx (.v (.bool (rightS n))) hp nx .p := by
  obtain ⟨kA, iA, dA, rfl, hk, hi, hd⟩ := hx
  have hk' := hk; have hi' := hi; have hd' := hd
  obtain ⟨kn, ksz, kc, rfl, hkz⟩ := hk'
  obtain ⟨in', isz, ic, rfl, hiz⟩ := hi'
  obtain ⟨dn, dsz, dc, rfl, hdz⟩ := hd'
  obtain ⟨leaf, keys, items, kids⟩ := n
  simp only at *
  refine Ret_pureQ e12 rfl (by simp) ?_ hp nx
  simp [c12]
  refine W_loopI (I := fun (j : Nat) s => j ≤ keys.length ∧ s.tm 8 = .int .i64 j ∧ s.tm 7 = .int .i64 keys.length ∧ s.tm 6 = .rs kn ksz (keys.map keyC) kc ∧ s.tm 1 = .ptr 0 0 0 ∧
    s.hp = hupd hnil 0 (some [[.v (.bool leaf), .rs kn ksz (keys.map keyC) kc, .rs in' isz (items.map Itm.cells) ic, .rs dn dsz (kids.map kidC) dc]]) ∧ s.nx = 1 ∧ ∀ i, i < j → badS keys i = false)
    (fun j => keys.length - j) 0 (by simp) ?_
  rintro j tm hp nx ⟨hj, h8, h7, h6, t1, rfl, rfl, hno⟩
  simp only at h8 h7 h6 t1
  by_cases hlt : j < keys.length
  · have hget : keys[j]? = some keys[j] := List.getElem?_eq_getElem hlt
    have hgd : keys.getD j [] = keys[j] := by simp [hget]
    have hia : iaddrA 1 (.rs kn ksz (keys.map keyC) kc) (.v (.int .i64 j)) = some (.rp (keyC keys[j])) := iaddr_in hkz (by simp [hget]) rfl
    have hw : IntKind.wrap .i64 ((j : Int) + 1) = (j + 1 : Nat) := by rw [wrap_id] <;> omega
    by_cases hl : 60 < keys[j].length
    · have hl' : (60 : Int) < keys[j].length := by omega
      simp [h8, h7, h6, t1, hlt, -iaddrA_rs, hia, keyC, hl']
      have : badS keys j = true := by simp only [badS]; rw [hgd]; simp [hl]
      simp [rightS, keysS_false hlt this]
    · have hl' : ¬ (60 : Int) < keys[j].length := by omega
      by_cases hj0 : 0 < j
      · have hpl : j - 1 < keys.length := by omega
        have hpg : keys[j - 1]? = some keys[j - 1] := List.getElem?_eq_getElem hpl
        have hpd : keys.getD (j - 1) [] = keys[j - 1] := by simp [hpg]
        have hw1 : IntKind.wrap .i64 ((j : Int) - 1) = (j - 1 : Nat) := by rw [wrap_id] <;> omega
        have hib : iaddrA 1 (.rs kn ksz (keys.map keyC) kc) (.v (.int .i64 (j - 1 : Nat))) = some (.rp (keyC keys[j - 1])) := iaddr_in hkz (by simp [hpg]) rfl
        have hbad : badS keys j = !strLt keys[j - 1] keys[j] := by simp only [badS]; rw [hgd, hpd]; simp [hl, hj0]
        cases hs : strLt keys[j - 1] keys[j]
        · simp [h8, h7, h6, t1, hlt, -iaddrA_rs, hia, keyC, hl', hj0, hw1, hib, hs]
          simp [rightS, keysS_false hlt (by rw [hbad, hs]; rfl)]
        · simp [h8, h7, h6, t1, hlt, -iaddrA_rs, hia, keyC, hl', hj0, hw1, hib, hs, hw]
          refine ⟨j + 1, by omega, by omega, by simp, fun i hi => ?_⟩
          rcases Nat.lt_or_ge i j with h | h
          · exact hno i h
          · have : i = j := by omega
            subst this; rw [hbad, hs]; rfl
      · have hj0' : j = 0 := by omega
        subst hj0'
        have hia0 : iaddrA 1 (.rs kn ksz (keys.map keyC) kc) (.v (.int .i64 0)) = some (.rp (keyC keys[0])) := hia
        have hw0 : IntKind.wrap .i64 (0 + 1) = 1 := hw
        simp at h8
        simp [h8, h7, h6, t1, hlt, -iaddrA_rs, hia0, keyC, hl', hw0]
        refine ⟨1, by omega, by omega, by decide, fun i hi => ?_⟩
        have : i = 0 := by omega
        subst this
        simp only [badS]; rw [hgd]; simp; omega
  · have : j = keys.length := by omega
    subst this
    have hks := keysS_true hno
    have hw : IntKind.wrap .i64 ((keys.length : Int) + 1) = (keys.length + 1 : Nat) := by rw [wrap_id] <;> omega
    cases leaf
    · by_cases ha : 0 < keys.length
      · by_cases hb : kids.length = keys.length + 1
        · have hb' : (kids.length : Int) = (keys.length + 1 : Nat) := by omega
          by_cases hc : items.length = 0
          · have hc' : (items.length : Int) = 0 := by omega
            simp [h8, h7, t1, ha, hw, hb', hc', -Int.natCast_add]
            refine WCall_p (f30 (fun x => !kidS x) 31 (fun x hp nx => f31 x hp nx) kids _ hd (by omega) _ _) ?_
            simp [rightS, hks, bodyS, ha, hb, hc, any_not]
          · have hc' : items ≠ [] := by rintro rfl; exact hc rfl
            simp [h8, h7, t1, ha, hw, hb', hc', -Int.natCast_add]
            simp [rightS, hks, bodyS, ha, hb, hc']
        · have hb' : ¬ (kids.length : Int) = (keys.length + 1 : Nat) := by omega
          simp [h8, h7, t1, ha, hw, hb', -Int.natCast_add]
          simp [rightS, hks, bodyS, ha, hb]
      · simp [h8, h7, t1, ha]
        simp [rightS, hks, bodyS, ha]
    · by_cases ha : items.length = keys.length
      · have ha' : (items.length : Int) = keys.length := by omega
        by_cases hb : kids.length = 0
        · have hb' : (kids.length : Int) = 0 := by omega
          simp [h8, h7, t1, ha', hb']
          refine WCall_p (f27 (fun x => !itemS x) 28 (fun x hp nx => f28 x hp nx) items _ hi (by omega) _ _) ?_
          simp [rightS, hks, bodyS, ha, hb, any_not]
        · have hb' : kids ≠ [] := by rintro rfl; exact hb rfl
          simp [h8, h7, t1, ha', hb']
          simp [rightS, hks, bodyS, ha, hb']
      · have ha' : ¬ (items.length : Int) = keys.length := by omega
        simp [h8, h7, t1, ha']
        simp [rightS, hks, bodyS, ha]
end Go.Ai

/- The document's Right. -/
namespace Go.Ai
set_option linter.unusedVariables false
set_option linter.unusedSimpArgs false

theorem all_false {α : Type} {p : α → Bool} {l : List α} {j : Nat} (h : j < l.length) (hp : p l[j] = false) : l.all p = false := by
  cases ha : l.all p with
  | false => rfl
  | true => rw [List.all_eq_true] at ha; rw [ha _ (List.getElem_mem h)] at hp; cases hp
theorem all_true {α : Type} {p : α → Bool} {l : List α} (h : ∀ i (hi : i < l.length), p l[i] = true) : l.all p = true := by
  rw [List.all_eq_true]
  intro x hx
  obtain ⟨i, hi, rfl⟩ := List.getElem_of_mem hx
  exact h i hi

theorem f13 (n : Nd) (x : AV) (hx : NdA n x) (h1 : n.keys.length ≤ 100000) (h2 : n.items.length ≤ 100000) (h3 : n.kids.length ≤ 100000) (hp nx) :
    Ret E 13 [x] hp nx (.v (.bool (rightS n))) hp nx .p := by
  obtain ⟨kA, iA, dA, rfl, hk, hi, hd⟩ := hx
  have hk' := hk; have hi' := hi; have hd' := hd
  obtain ⟨kn, ksz, kc, rfl, hkz⟩ := hk'
  obtain ⟨in', isz, ic, rfl, hiz⟩ := hi'
  obtain ⟨dn, dsz, dc, rfl, hdz⟩ := hd'
  obtain ⟨leaf, keys, items, kids⟩ := n
  simp only at *
  refine Ret_pureQ e13 rfl (by simp) ?_ hp nx
  simp [c13]
  refine W_loopI (I := fun (j : Nat) s => j ≤ keys.length ∧ s.tm 3 = .int .i64 j ∧ s.tm 1 = .ptr 0 0 0 ∧
    s.hp = hupd hnil 0 (some [[.v (.bool leaf), .rs kn ksz (keys.map keyC) kc, .rs in' isz (items.map Itm.cells) ic, .rs dn dsz (kids.map kidC) dc]]) ∧ s.nx = 1 ∧ ∀ i, i < j → badS keys i = false)
    (fun j => keys.length - j) 0 (by simp) ?_
  rintro j tm hp nx ⟨hj, t3, t1, rfl, rfl, hno⟩
  simp only at t3 t1
  by_cases hlt : j < keys.length
  · have hget : keys[j]? = some keys[j] := List.getElem?_eq_getElem hlt
    have hgd : keys.getD j [] = keys[j] := by simp [hget]
    have hia : iaddrA 1 (.rs kn ksz (keys.map keyC) kc) (.v (.int .i64 j)) = some (.rp (keyC keys[j])) := iaddr_in hkz (by simp [hget]) rfl
    have hw : IntKind.wrap .i64 ((j : Int) + 1) = (j + 1 : Nat) := by rw [wrap_id] <;> omega
    by_cases hl : 60 < keys[j].length
    · have hl' : (60 : Int) < keys[j].length := by omega
      simp [t3, t1, hlt, -iaddrA_rs, hia, keyC, hl']
      have : badS keys j = true := by simp only [badS]; rw [hgd]; simp [hl]
      simp [rightS, keysS_false hlt this]
    · have hl' : ¬ (60 : Int) < keys[j].length := by omega
      by_cases hj0 : 0 < j
      · have hpl : j - 1 < keys.length := by omega
        have hpg : keys[j - 1]? = some keys[j - 1] := List.getElem?_eq_getElem hpl
        have hpd : keys.getD (j - 1) [] = keys[j - 1] := by simp [hpg]
        have hw1 : IntKind.wrap .i64 ((j : Int) - 1) = (j - 1 : Nat) := by rw [wrap_id] <;> omega
        have hib : iaddrA 1 (.rs kn ksz (keys.map keyC) kc) (.v (.int .i64 (j - 1 : Nat))) = some (.rp (keyC keys[j - 1])) := iaddr_in hkz (by simp [hpg]) rfl
        have hbad : badS keys j = !strLt keys[j - 1] keys[j] := by simp only [badS]; rw [hgd, hpd]; simp [hl, hj0]
        cases hs : strLt keys[j - 1] keys[j]
        · simp [t3, t1, hlt, -iaddrA_rs, hia, keyC, hl', hj0, hw1, hib, strLt_conn, hs]
          simp [rightS, keysS_false hlt (by rw [hbad, hs]; rfl)]
        · simp [t3, t1, hlt, -iaddrA_rs, hia, keyC, hl', hj0, hw1, hib, strLt_conn, hs, hw]
          refine ⟨j + 1, by omega, by omega, by simp, fun i hi => ?_⟩
          rcases Nat.lt_or_ge i j with h | h
          · exact hno i h
          · have : i = j := by omega
            subst this; rw [hbad, hs]; rfl
      · have hj0' : j = 0 := by omega
        subst hj0'
        have hia0 : iaddrA 1 (.rs kn ksz (keys.map keyC) kc) (.v (.int .i64 0)) = some (.rp (keyC keys[0])) := hia
        simp at t3
        simp [t3, t1, hlt, -iaddrA_rs, hia0, keyC, hl']
        refine ⟨1, by omega, by omega, by decide, fun i hi => ?_⟩
        have : i = 0 := by omega
        subst this
        simp only [badS]; rw [hgd]; simp; omega
  · have : j = keys.length := by omega
    subst this
    have hks := keysS_true hno
    have hw : IntKind.wrap .i64 ((keys.length : Int) + 1) = (keys.length + 1 : Nat) := by rw [wrap_id] <;> omega
    cases leaf
    · by_cases ha : 0 < keys.length
      · have ha2 : keys ≠ [] := by rintro rfl; cases ha
        by_cases hb : kids.length = keys.length + 1
        · have hb' : (kids.length : Int) = (keys.length + 1 : Nat) := by omega
          by_cases hc : items.length = 0
          · have hc' : items = [] := List.eq_nil_of_length_eq_zero hc
            simp [t3, t1, ha2, hw, hb', hc', -Int.natCast_add]
            refine W_loopI (I := fun (j : Nat) s => j ≤ kids.length ∧ s.tm 5 = .int .i64 j ∧ s.tm 1 = .ptr 0 0 0 ∧
              s.hp = hupd hnil 0 (some [[.v (.bool false), .rs kn ksz (keys.map keyC) kc, .rs in' isz (items.map Itm.cells) ic, .rs dn dsz (kids.map kidC) dc]]) ∧ s.nx = 1 ∧ ∀ i (hi : i < kids.length), i < j → kidS kids[i] = true)
              (fun j => kids.length - j) 0 (by simp [t1, hc']) ?_
            rintro j tm hp nx ⟨hj, t5, t1, rfl, rfl, hno⟩
            simp only at t5 t1
            by_cases hlt : j < kids.length
            · have hget : kids[j]? = some kids[j] := List.getElem?_eq_getElem hlt
              have hia : iaddrA 1 (.rs dn dsz (kids.map kidC) dc) (.v (.int .i64 j)) = some (.rp (kidC kids[j])) := iaddr_in hdz (by simp [hget]) rfl
              have hw : IntKind.wrap .i64 ((j : Int) + 1) = (j + 1 : Nat) := by rw [wrap_id] <;> omega
              simp [t5, t1, hlt, -iaddrA_rs, hia, kidC]
              refine WCall_p (f34 _ _ _) ?_
              cases hq : kidS kids[j]
              · simp
                simp [rightS, bodyS, all_false hlt hq]
              · simp [t5, t1, hw]
                refine ⟨j + 1, by omega, by omega, by simp, fun i hi hi2 => ?_⟩
                rcases Nat.lt_or_ge i j with h | h
                · exact hno i hi h
                · have : i = j := by omega
                  subst this; exact hq
            · have : j = kids.length := by omega
              subst this
              simp [t5, t1]
              simp [rightS, hks, bodyS, ha, hb, hc, all_true fun i hi => hno i hi hi]
          · have hc' : items ≠ [] := by rintro rfl; exact hc rfl
            simp [t3, t1, ha2, hw, hb', hc', List.length_pos_iff, -Int.natCast_add]
            simp [rightS, hks, bodyS, ha, hb, hc']
        · have hb' : ¬ (kids.length : Int) = (keys.length + 1 : Nat) := by omega
          simp [t3, t1, ha2, hw, hb', -Int.natCast_add]
          simp [rightS, hks, bodyS, ha, hb]
      · have ha2 : keys = [] := List.eq_nil_of_length_eq_zero (by omega)
        subst ha2
        simp [t3, t1]
        simp [rightS, bodyS]
    · by_cases ha : items.length = keys.length
      · have ha' : (items.length : Int) = keys.length := by omega
        by_cases hb : kids.length = 0
        · have hb' : kids = [] := List.eq_nil_of_length_eq_zero hb
          simp [t3, t1, ha', hb']
          refine W_loopI (I := fun (j : Nat) s => j ≤ items.length ∧ s.tm 4 = .int .i64 j ∧ s.tm 1 = .ptr 0 0 0 ∧
            s.hp = hupd hnil 0 (some [[.v (.bool true), .rs kn ksz (keys.map keyC) kc, .rs in' isz (items.map Itm.cells) ic, .rs dn dsz (kids.map kidC) dc]]) ∧ s.nx = 1 ∧ ∀ i (hi : i < items.length), i < j → itemS items[i] = true)
            (fun j => items.length - j) 0 (by simp [t1, hb']) ?_
          rintro j tm hp nx ⟨hj, t4, t1, rfl, rfl, hno⟩
          simp only at t4 t1
          by_cases hlt : j < items.length
          · have hget : items[j]? = some items[j] := List.getElem?_eq_getElem hlt
            have hia : iaddrA 3 (.rs in' isz (items.map Itm.cells) ic) (.v (.int .i64 j)) = some (.rp items[j].cells) := iaddr_in hiz (by simp [hget]) rfl
            have hw : IntKind.wrap .i64 ((j : Int) + 1) = (j + 1 : Nat) := by rw [wrap_id] <;> omega
            simp [t4, t1, hlt, -iaddrA_rs, hia]
            refine ⟨by simp [Itm.cells], ?_⟩
            simp [Itm.cells]
            refine WCall_p (f33 _ _ _) ?_
            cases hq : itemS items[j]
            · simp
              simp [rightS, bodyS, all_false hlt hq]
            · simp [t4, t1, hw]
              refine ⟨j + 1, by omega, by omega, by simp, fun i hi hi2 => ?_⟩
              rcases Nat.lt_or_ge i j with h | h
              · exact hno i hi h
              · have : i = j := by omega
                subst this; exact hq
          · have : j = items.length := by omega
            subst this
            simp [t4, t1]
            simp [rightS, hks, bodyS, ha, hb, all_true fun i hi => hno i hi hi]
        · have hb' : kids ≠ [] := by rintro rfl; exact hb rfl
          simp [t3, t1, ha', hb', List.length_pos_iff]
          simp [rightS, hks, bodyS, ha, hb']
      · have ha' : ¬ (items.length : Int) = keys.length := by omega
        simp [t3, t1, ha']
        simp [rightS, hks, bodyS, ha]
end Go.Ai

