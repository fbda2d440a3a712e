/- Sizes and contents. -/
import Derived.Test.YtbdmloamekpeoaaMg2
/- Sizes and contents. -/
namespace Go.Ai
set_option linter.unusedVariables false
set_option linter.unusedSimpArgs false

/-- A number's bytes, the highest first. -/
def numS (x : Nat) : Nat → List UInt8
  | 0 => []
  | n + 1 => numS (x / 256) n ++ [UInt8.ofNat (x % 256)]
theorem numS_length : ∀ (n x : Nat), (numS x n).length = n
  | 0, _ => rfl
  | n + 1, x => by simp [numS, numS_length n]

theorem f58 (x n : Nat) (hx : x ≤ 9223372036854775807) (hn : n ≤ 100) (hp nx) : Ret E 58 [.v (.int .i64 x), .v (.int .i64 n)] hp nx (.str (numS x n)) hp nx .p := by
  refine Ret_pureQ e58 rfl rfl ?_ hp nx
  simp [c58]
  refine W_loopI (I := fun (g : Nat × Nat × List UInt8) s => g.1 ≤ n ∧ g.2.1 ≤ 9223372036854775807 ∧ s.tm 6 = .int .i64 g.1 ∧ s.tm 1 = .int .i64 n ∧ s.tm 0 = .int .i64 g.2.1 ∧ s.tm 5 = .str g.2.2 ∧ s.hp = hnil ∧ s.nx = 0 ∧
      g.2.2.length = g.1 ∧ numS x n = numS g.2.1 (n - g.1) ++ g.2.2) (fun g => n - g.1) (0, x, []) (by simp [hx]) ?_
  rintro ⟨j, y, s⟩ tm hp nx ⟨hj, hy, t6, t1, t0, t5, rfl, rfl, hsl, hs⟩
  simp only at t6 t1 t0 t5 hj hy hsl hs
  by_cases hlt : j < n
  · have hw : IntKind.wrap .i64 ((j : Int) + 1) = (j + 1 : Nat) := by rw [wrap_id] <;> omega
    have hm : Int.tmod (y : Int) 256 = ((y % 256 : Nat) : Int) := by rw [Int.tmod_eq_emod_of_nonneg (by omega)]; omega
    have hq : Int.tdiv (y : Int) 256 = ((y / 256 : Nat) : Int) := by rw [Int.tdiv_eq_ediv_of_nonneg (by omega)]; omega
    have hq2 : IntKind.wrap .i64 ((y / 256 : Nat) : Int) = (y / 256 : Nat) := by rw [wrap_id] <;> omega
    have hm2 : IntKind.wrap .u8 ((y % 256 : Nat) : Int) = ((y % 256 : Nat) : Int) := by rw [IntKind.wrap_u8]; omega
    have hl : 1 + s.length ≤ 9223372036854775807 := by omega
    simp [t6, t1, t0, t5, hlt, hw, hm, hq, hq2, hm2, hl, -Int.natCast_ediv, -Int.natCast_emod]
    exact ⟨j + 1, by omega, by omega, y / 256, by omega, by simp, rfl, by omega, by
      rw [hs, show n - j = n - (j + 1) + 1 by omega]; simp [numS]⟩
  · have : j = n := by omega
    subst this
    simp [t6, t1, t5]
    rw [hs]; simp [numS]

structure RightF (n : Nd) : Prop where
  klen : ∀ i (h : i < n.keys.length), (n.keys[i]).length ≤ 60
  leaf : n.leaf = true → n.items.length = n.keys.length ∧ n.kids = [] ∧ ∀ x ∈ n.items, itemS x = true
  inner : n.leaf = false → 0 < n.keys.length ∧ n.kids.length = n.keys.length + 1 ∧ n.items = [] ∧ ∀ x ∈ n.kids, kidS x = true
theorem RightF.of {n : Nd} (h : rightS n = true) : RightF n := by
  simp only [rightS, Bool.and_eq_true] at h
  obtain ⟨h1, h2⟩ := h
  refine ⟨fun i hi => ?_, fun hl => ?_, fun hl => ?_⟩
  · simp only [keysS, List.all_eq_true, List.mem_range] at h1
    have := h1 i hi
    simp [badS, hi] at this
    omega
  · simp only [bodyS, hl, if_true, Bool.and_eq_true, decide_eq_true_eq, List.all_eq_true] at h2
    exact ⟨h2.1.1, List.eq_nil_of_length_eq_zero h2.1.2, h2.2⟩
  · simp [bodyS, hl] at h2
    exact ⟨h2.1.1.1, h2.1.1.2, h2.1.2, h2.2⟩

theorem kidS_nat {x : Int} (h : kidS x = true) : ∃ k : Nat, x = k ∧ 2 ≤ k ∧ k < 4096 := by
  simp [kidS] at h
  exact ⟨x.toNat, by omega, by omega, by omega⟩
theorem itemS_cases {x : Itm} (h : itemS x = true) : (x.p = 0 ∧ x.s = 0 ∧ x.v.length ≤ 60) ∨ (∃ p s : Nat, x.p = p ∧ x.s = s ∧ 2 ≤ p ∧ p < 4096 ∧ 60 < s ∧ s ≤ 60000 ∧ x.v = []) := by
  simp only [itemS] at h
  split at h
  · rename_i hp; simp at h; exact .inl ⟨hp, h.1, h.2⟩
  · simp [kidS] at h
    exact .inr ⟨x.p.toNat, x.s.toNat, by omega, by omega, by omega, by omega, by omega, by omega, h.1.1.2⟩

def headB (n : Nd) : List UInt8 := numS n.keys.length 2 ++ if n.leaf then [] else numS (n.kids.getD 0 0).toNat 4
def itemB (x : Itm) : List UInt8 := if 0 < x.p then 255 :: (numS x.p.toNat 4 ++ numS x.s.toNat 4) else numS x.v.length 1 ++ x.v
def entryB (n : Nd) (i : Nat) : List UInt8 := numS (n.keys.getD i []).length 1 ++ n.keys.getD i [] ++ if n.leaf then itemB (n.items.getD i ⟨[], 0, 0⟩) else numS (n.kids.getD (i + 1) 0).toNat 4
def contentS (n : Nd) : List UInt8 := headB n ++ (List.range n.keys.length).flatMap (entryB n)

theorem headB_length {n : Nd} : (headB n).length = if n.leaf then 2 else 6 := by
  simp only [headB]; split <;> simp [numS_length]
theorem itemB_length {x : Itm} : (itemB x).length = if 0 < x.p then 9 else 1 + x.v.length := by
  simp only [itemB]; split <;> simp [numS_length]
def weightS (n : Nd) (i : Nat) : Nat := if n.leaf then (if 0 < (n.items.getD i ⟨[], 0, 0⟩).p then 1 + (n.keys.getD i []).length + 9 else 1 + (n.keys.getD i []).length + 1 + (n.items.getD i ⟨[], 0, 0⟩).v.length) else 1 + (n.keys.getD i []).length + 4
theorem entryB_length {n : Nd} {i : Nat} : (entryB n i).length = weightS n i := by
  simp only [entryB, weightS]
  cases n.leaf
  · simp [numS_length]; omega
  · simp only [if_true, List.length_append, itemB_length, numS_length]
    split <;> omega
theorem weightS_le {n : Nd} (hr : RightF n) {i : Nat} (hi : i < n.keys.length) : weightS n i ≤ 122 := by
  have h1 := hr.klen i hi
  have hk : n.keys.getD i [] = n.keys[i] := by simp [hi]
  simp only [weightS, hk]
  cases hl : n.leaf
  · simp; omega
  · obtain ⟨h2, h3, h4⟩ := hr.leaf hl
    have hi2 : i < n.items.length := by omega
    have hg : n.items.getD i ⟨[], 0, 0⟩ = n.items[i] := by simp [hi2]
    rw [hg]
    rcases itemS_cases (h4 _ (List.getElem_mem hi2)) with ⟨h5, _, h6⟩ | ⟨p, s, h5, _, h6, _⟩
    · simp [h5]; omega
    · have : (0 : Int) < n.items[i].p := by omega
      simp [this]; omega

theorem f35 (n : Nd) (x : AV) (hx : NdA n x) (hp nx) : Ret E 35 [x] hp nx (.v (.int .i64 (headB n).length)) hp nx .p := by
  obtain ⟨kA, iA, dA, rfl, hk, hi, hd⟩ := hx
  obtain ⟨kn, ksz, kc, rfl, hkz⟩ := hk
  obtain ⟨in', isz, ic, rfl, hiz⟩ := hi
  obtain ⟨dn, dsz, dc, rfl, hdz⟩ := hd
  refine Ret_pureQ e35 rfl (by simp) ?_ hp nx
  rw [headB_length]
  cases n.leaf <;> simp [c35]

theorem f36 (n : Nd) (x : AV) (hx : NdA n x) (hr : RightF n) (i : Nat) (hi : i < n.keys.length) (hp nx) : Ret E 36 [x, .v (.int .i64 i)] hp nx (.v (.int .i64 (weightS n i))) hp nx .p := by
  have hle := weightS_le hr hi
  have h1 := hr.klen i hi
  have hlt := hi
  obtain ⟨kA, iA, dA, rfl, hk, hi, hd⟩ := hx
  obtain ⟨kn, ksz, kc, rfl, hkz⟩ := hk
  obtain ⟨in', isz, ic, rfl, hiz⟩ := hi
  obtain ⟨dn, dsz, dc, rfl, hdz⟩ := hd
  refine Ret_pureQ e36 rfl (by simp) ?_ hp nx
  obtain ⟨leaf, keys, items, kids⟩ := n
  simp only at *
  have hget : keys[i]? = some keys[i] := List.getElem?_eq_getElem hlt
  have hgd : keys.getD i [] = keys[i] := by simp [hget]
  have hia : iaddrA 1 (.rs kn ksz (keys.map keyC) kc) (.v (.int .i64 i)) = some (.rp (keyC keys[i])) := iaddr_in hkz (by simp [hget]) rfl
  have hw1 : IntKind.wrap .i64 (1 + (keys[i].length : Int)) = (1 + keys[i].length : Nat) := by rw [wrap_id] <;> omega
  simp only [weightS, hgd] at hle ⊢
  cases leaf
  · have hw2 : IntKind.wrap .i64 ((1 + keys[i].length : Nat) + 4) = (1 + keys[i].length + 4 : Nat) := by rw [wrap_id] <;> omega
    simp [c36, -iaddrA_rs, hia, keyC, hw1, hw2, -Int.natCast_add]
  · obtain ⟨h2, h3, h4⟩ := hr.leaf rfl
    simp only at h2 h3 h4
    have hi2 : i < items.length := by omega
    have hg : items.getD i ⟨[], 0, 0⟩ = items[i] := by simp [hi2]
    have hib : iaddrA 3 (.rs in' isz (items.map Itm.cells) ic) (.v (.int .i64 i)) = some (.rp items[i].cells) := iaddr_in hiz (by simp [hi2]) rfl
    simp only [hg] at hle ⊢
    by_cases hp0 : 0 < items[i].p
    · have hw2 : IntKind.wrap .i64 ((1 + keys[i].length : Nat) + 9) = (1 + keys[i].length + 9 : Nat) := by rw [wrap_id] <;> omega
      simp [c36, -iaddrA_rs, hia, hib, keyC, Itm.cells, hp0, hw1, hw2, -Int.natCast_add]
    · simp [hp0] at hle
      have hw2 : IntKind.wrap .i64 ((1 + keys[i].length : Nat) + 1) = (1 + keys[i].length + 1 : Nat) := by rw [wrap_id] <;> omega
      have hw3 : IntKind.wrap .i64 ((1 + keys[i].length + 1 : Nat) + (items[i].v.length : Int)) = (1 + keys[i].length + 1 + items[i].v.length : Nat) := by rw [wrap_id] <;> omega
      simp [c36, -iaddrA_rs, hia, hib, keyC, Itm.cells, hp0, hw1, hw2, hw3, -Int.natCast_add]
end Go.Ai

/- Size and Encode, and the document's. -/
namespace Go.Ai
set_option linter.unusedVariables false
set_option linter.unusedSimpArgs false

def sumW (n : Nd) : Nat → Nat
  | 0 => 0
  | k + 1 => sumW n k + weightS n k
theorem sumW_length (n : Nd) : ∀ k, ((List.range k).flatMap (entryB n)).length = sumW n k
  | 0 => rfl
  | k + 1 => by rw [List.range_succ]; simp [sumW_length n k, sumW, entryB_length]
theorem sumW_le {n : Nd} (hr : RightF n) : ∀ k, k ≤ n.keys.length → sumW n k ≤ 122 * k
  | 0, _ => by simp [sumW]
  | k + 1, h => by
    have := sumW_le hr k (by omega)
    have := weightS_le hr (i := k) (by omega)
    simp only [sumW]; omega

def sizeS (n : Nd) : Nat := if rightS n then (contentS n).length else 0
theorem contentS_length (n : Nd) : (contentS n).length = (headB n).length + sumW n n.keys.length := by
  simp only [contentS, List.length_append, sumW_length]

theorem f14 (n : Nd) (x : AV) (hx : NdA n x) (h1 : n.keys.length ≤ 100000) (h2 : n.items.length ≤ 100000) (h3 : n.kids.length ≤ 100000) (hp nx) :
    Ret E 14 [x] hp nx (.v (.int .i64 (sizeS n))) hp nx .p := by
  have hx0 := hx
  obtain ⟨kA, iA, dA, rfl, hk, hi, hd⟩ := hx
  have c12' := f12 n _ hx0 h1 h2 h3
  have c35' := f35 n _ hx0
  have c36' := fun hr i hi => f36 n _ hx0 hr i hi
  obtain ⟨kn, ksz, kc, rfl, hkz⟩ := hk
  obtain ⟨in', isz, ic, rfl, hiz⟩ := hi
  obtain ⟨dn, dsz, dc, rfl, hdz⟩ := hd
  refine Ret_pureQ e14 rfl (by simp) ?_ hp nx
  simp [c14]
  refine WCall_p (c12' _ _) ?_
  cases hr : rightS n
  · simp [sizeS, hr]
  · have hf := RightF.of hr
    have hhl : (headB n).length ≤ 6 := by rw [headB_length]; split <;> omega
    have hsz : sizeS n = (headB n).length + sumW n n.keys.length := by simp [sizeS, hr, contentS_length]
    simp
    refine WCall_p (c35' _ _) ?_
    simp
    refine W_loopI (I := fun (j : Nat) s => j ≤ n.keys.length ∧ s.tm 13 = .int .i64 j ∧ s.tm 12 = .int .i64 n.keys.length ∧ s.tm 3 = .int .i64 ((headB n).length + sumW n j : Nat) ∧ s.tm 1 = .ptr 0 0 0 ∧
      s.hp = hupd hnil 0 (some [[.v (.bool n.leaf), .rs kn ksz (n.keys.map keyC) kc, .rs in' isz (n.items.map Itm.cells) ic, .rs dn dsz (n.kids.map kidC) dc]]) ∧ s.nx = 1)
      (fun j => n.keys.length - j) 0 (by simp [sumW]) ?_
    rintro j tm hp nx ⟨hj, t13, t12, t3, t1, rfl, rfl⟩
    simp only at t13 t12 t3 t1
    by_cases hlt : j < n.keys.length
    · have hw : IntKind.wrap .i64 ((j : Int) + 1) = (j + 1 : Nat) := by rw [wrap_id] <;> omega
      have hs := sumW_le hf j hj
      have hwl := weightS_le hf hlt
      have hw2 : IntKind.wrap .i64 (((headB n).length + sumW n j : Nat) + (weightS n j : Int)) = ((headB n).length + sumW n (j + 1) : Nat) := by
        have e : sumW n (j + 1) = sumW n j + weightS n j := rfl
        rw [wrap_id] <;> omega
      simp [t13, t12, t3, t1, hlt, -Int.natCast_add]
      refine WCall_p (c36' hf j hlt _ _) ?_
      simp [t13, t12, t3, t1, hw, hw2, -Int.natCast_add]
      exact ⟨j + 1, by omega, by omega, by simp, by simp⟩
    · have : j = n.keys.length := by omega
      subst this
      simp [t13, t12, t3, -Int.natCast_add]
      rw [hsz]

theorem f37 (n : Nd) (x : AV) (hx : NdA n x) (hf : RightF n) (h1 : n.keys.length ≤ 60000) (hp nx) :
    Ret E 37 [x] hp nx (.str (contentS n)) hp nx .p := by
  obtain ⟨kA, iA, dA, rfl, hk, hi, hd⟩ := hx
  obtain ⟨kn, ksz, kc, rfl, hkz⟩ := hk
  obtain ⟨in', isz, ic, rfl, hiz⟩ := hi
  obtain ⟨dn, dsz, dc, rfl, hdz⟩ := hd
  refine Ret_pureQ e37 rfl (by simp) ?_ hp nx
  have hhl : (headB n).length ≤ 6 := by rw [headB_length]; split <;> omega
  have key : ∀ tm, tm 3 = .str (headB n) → tm 1 = .ptr 0 0 0 → tm 4 = .int .i64 0 →
    W (Ret E) (.loop (match c37.body with | .seq _ (.seq _ (.seq _ (.seq (.seq _ (.block _ (.loop b))) _))) => b | _ => .skip)) (fun e s => match e with
      | .exit 0 => s.tm 3 = .str (contentS n)
      | _ => False) ⟨tm, hupd hnil 0 (some [[.v (.bool n.leaf), .rs kn ksz (n.keys.map keyC) kc, .rs in' isz (n.items.map Itm.cells) ic, .rs dn dsz (n.kids.map kidC) dc]]), 1⟩ := by
    intro tm t3 t1 t4
    simp only [c37]
    refine W_loopI (I := fun (j : Nat) s => j ≤ n.keys.length ∧ s.tm 4 = .int .i64 j ∧ s.tm 3 = .str (headB n ++ (List.range j).flatMap (entryB n)) ∧ s.tm 1 = .ptr 0 0 0 ∧
      s.hp = hupd hnil 0 (some [[.v (.bool n.leaf), .rs kn ksz (n.keys.map keyC) kc, .rs in' isz (n.items.map Itm.cells) ic, .rs dn dsz (n.kids.map kidC) dc]]) ∧ s.nx = 1)
      (fun j => n.keys.length - j) 0 (by simp [t3, t1, t4]) ?_
    rintro j tm hp nx ⟨hj, t4, t3, t1, rfl, rfl⟩
    simp only at t4 t3 t1
    by_cases hlt : j < n.keys.length
    · have hs := sumW_le hf j hj
      have hwl := weightS_le hf hlt
      have hget : n.keys[j]? = some n.keys[j] := List.getElem?_eq_getElem hlt
      have hgd : n.keys.getD j [] = n.keys[j] := by simp [hget]
      have hia : iaddrA 1 (.rs kn ksz (n.keys.map keyC) kc) (.v (.int .i64 j)) = some (.rp (keyC n.keys[j])) := iaddr_in hkz (by simp [hget]) rfl
      have hw : IntKind.wrap .i64 ((j : Int) + 1) = (j + 1 : Nat) := by rw [wrap_id] <;> omega
      have hkl := hf.klen j hlt
      generalize hP : headB n ++ (List.range j).flatMap (entryB n) = P at t3
      have hPl : P.length ≤ 122 * 60000 + 6 := by rw [← hP, List.length_append, sumW_length]; omega
      have hent : headB n ++ (List.range (j + 1)).flatMap (entryB n) = P ++ entryB n j := by rw [← hP, List.range_succ]; simp
      have ha1 : P.length + (numS n.keys[j].length 1).length ≤ 9223372036854775807 := by rw [numS_length]; omega
      have ha2 : (P ++ numS n.keys[j].length 1).length + n.keys[j].length ≤ 9223372036854775807 := by rw [List.length_append, numS_length]; omega
      simp [t4, t3, t1, hlt, -iaddrA_rs, hia, keyC, -List.length_append, -List.append_assoc]
      refine WCall_p (f58 n.keys[j].length 1 (by omega) (by omega) _ _) ?_
      cases hl : n.leaf
      · obtain ⟨g1, g2, g3, g4⟩ := hf.inner hl
        have hjk : j + 1 < n.kids.length := by omega
        have hib : iaddrA 1 (.rs dn dsz (n.kids.map kidC) dc) (.v (.int .i64 (j + 1 : Nat))) = some (.rp (kidC n.kids[j + 1])) := iaddr_in hdz (by simp [hjk]) rfl
        obtain ⟨k, hk, _, _⟩ := kidS_nat (g4 _ (List.getElem_mem hjk))
        have he : entryB n j = numS n.keys[j].length 1 ++ n.keys[j] ++ numS k 4 := by
          have : n.kids.getD (j + 1) 0 = k := by simp [hjk, hk]
          simp only [entryB, hgd, hl, this]; simp
        have ha3 : (P ++ numS n.keys[j].length 1 ++ n.keys[j]).length + (numS k 4).length ≤ 9223372036854775807 := by simp only [List.length_append, numS_length]; omega
        simp [t4, t3, t1, hlt, -iaddrA_rs, hia, hib, keyC, kidC, hk, ha1, ha2, hl, hw, -List.length_append, -List.append_assoc, -Int.natCast_add]
        refine WCall_p (f58 k 4 (by omega) (by omega) _ _) ?_
        simp [t4, t3, t1, ha3, hw, -List.length_append, -List.append_assoc, -Int.natCast_add]
        exact ⟨j + 1, by omega, by omega, by simp, by rw [hent, he]; simp⟩
      · obtain ⟨g1, g2, g3⟩ := hf.leaf hl
        have hi2 : j < n.items.length := by omega
        have hg : n.items.getD j ⟨[], 0, 0⟩ = n.items[j] := by simp [hi2]
        have hib : iaddrA 3 (.rs in' isz (n.items.map Itm.cells) ic) (.v (.int .i64 j)) = some (.rp n.items[j].cells) := iaddr_in hiz (by simp [hi2]) rfl
        have he : entryB n j = numS n.keys[j].length 1 ++ n.keys[j] ++ itemB n.items[j] := by
          simp only [entryB, hgd, hl, hg]; simp
        rcases itemS_cases (g3 _ (List.getElem_mem hi2)) with ⟨q1, q2, q3⟩ | ⟨p, s, q1, q2, q3, q4, q5, q6, q7⟩
        · have hp0 : ¬ (0 : Int) < n.items[j].p := by omega
          have hb : itemB n.items[j] = numS n.items[j].v.length 1 ++ n.items[j].v := by simp [itemB, hp0]
          have ha3 : (P ++ numS n.keys[j].length 1 ++ n.keys[j]).length + (numS n.items[j].v.length 1).length ≤ 9223372036854775807 := by simp only [List.length_append, numS_length]; omega
          have ha4 : (P ++ numS n.keys[j].length 1 ++ n.keys[j] ++ numS n.items[j].v.length 1).length + n.items[j].v.length ≤ 9223372036854775807 := by simp only [List.length_append, numS_length]; omega
          simp [t4, t3, t1, hlt, -iaddrA_rs, hia, hib, keyC, Itm.cells, ha1, ha2, hl, hw, hp0, -List.length_append, -List.append_assoc, -Int.natCast_add]
          refine WCall_p (f58 n.items[j].v.length 1 (by omega) (by omega) _ _) ?_
          simp [t4, t3, t1, hib, -iaddrA_rs, Itm.cells, ha3, ha4, hw, -List.length_append, -List.append_assoc, -Int.natCast_add]
          exact ⟨j + 1, by omega, by omega, by simp, by rw [hent, he, hb]; simp⟩
        · have hp0 : (0 : Int) < n.items[j].p := by omega
          have hb : itemB n.items[j] = [255] ++ numS p 4 ++ numS s 4 := by simp [itemB, q1, q2, show 0 < p by omega]
          have ha3 : (P ++ numS n.keys[j].length 1 ++ n.keys[j]).length + 1 ≤ 9223372036854775807 := by simp only [List.length_append, numS_length, List.length_singleton]; omega
          have ha4 : (P ++ numS n.keys[j].length 1 ++ n.keys[j] ++ [255]).length + (numS p 4).length ≤ 9223372036854775807 := by simp only [List.length_append, numS_length, List.length_singleton]; omega
          have ha5 : (P ++ numS n.keys[j].length 1 ++ n.keys[j] ++ [255] ++ numS p 4).length + (numS s 4).length ≤ 9223372036854775807 := by simp only [List.length_append, numS_length, List.length_singleton]; omega
          simp [t4, t3, t1, hlt, -iaddrA_rs, hia, hib, keyC, Itm.cells, ha1, ha2, ha3, hl, hw, hp0, -List.length_append, -List.append_assoc, -Int.natCast_add]
          rw [q1]
          refine WCall_p (f58 p 4 (by omega) (by omega) _ _) ?_
          simp [t4, t3, t1, hib, -iaddrA_rs, Itm.cells, ha4, hw, -List.length_append, -List.append_assoc, -Int.natCast_add]
          rw [q2]
          refine WCall_p (f58 s 4 (by omega) (by omega) _ _) ?_
          simp [t4, t3, t1, ha5, hw, -List.length_append, -List.append_assoc, -Int.natCast_add]
          exact ⟨j + 1, by omega, by omega, by simp, by rw [hent, he, hb]; simp⟩
    · have : j = n.keys.length := by omega
      subst this
      simp [t4, t3, t1, contentS]
  have done : ∀ tm, tm 3 = .str (headB n) → tm 1 = .ptr 0 0 0 → tm 4 = .int .i64 0 → W (Ret E) (match c37.body with | .seq _ (.seq _ (.seq _ (.seq (.seq _ l) _))) => l | _ => .skip) (fun e s => e = .normal ∧ s.tm 3 = .str (contentS n)) ⟨tm, hupd hnil 0 (some [[.v (.bool n.leaf), .rs kn ksz (n.keys.map keyC) kc, .rs in' isz (n.items.map Itm.cells) ic, .rs dn dsz (n.kids.map kidC) dc]]), 1⟩ := by
    intro tm t3 t1 t4
    simp only [c37]
    simp only [W_block]
    refine W_mono (fun _ _ _ _ _ _ _ _ h => h) _ _ _ _ ?_ (key tm t3 t1 t4)
    rintro e s h
    cases e with
    | normal => exact h.elim
    | ret => exact h.elim
    | exit i =>
      cases i with
      | zero => exact ⟨rfl, h⟩
      | succ i => exact h.elim
  have fin : ∀ tm, tm 3 = .str (headB n) → tm 1 = .ptr 0 0 0 → tm 4 = .int .i64 0 → ∀ Q, (∀ tm hp nx, tm 3 = .str (contentS n) → Q .normal ⟨tm, hp, nx⟩) → W (Ret E) (match c37.body with | .seq _ (.seq _ (.seq _ (.seq (.seq _ l) _))) => l | _ => .skip) Q ⟨tm, hupd hnil 0 (some [[.v (.bool n.leaf), .rs kn ksz (n.keys.map keyC) kc, .rs in' isz (n.items.map Itm.cells) ic, .rs dn dsz (n.kids.map kidC) dc]]), 1⟩ := by
    intro tm t3 t1 t4 Q hQ
    refine W_mono (fun _ _ _ _ _ _ _ _ h => h) _ _ _ _ ?_ (done tm t3 t1 t4)
    rintro e ⟨tm, hp, nx⟩ ⟨rfl, h⟩
    exact hQ _ _ _ h
  simp [c37, -W_block]
  refine WCall_p (f58 n.keys.length 2 (by omega) (by omega) _ _) ?_
  cases hl : n.leaf
  · obtain ⟨g1, g2, g3, g4⟩ := hf.inner hl
    have h0 : 0 < n.kids.length := by omega
    have hib : iaddrA 1 (.rs dn dsz (n.kids.map kidC) dc) (.v (.int .i64 0)) = some (.rp (kidC n.kids[0])) := iaddr_in (j := 0) hdz (by simp [h0]) rfl
    obtain ⟨k, hk, _, _⟩ := kidS_nat (g4 _ (List.getElem_mem h0))
    have hh : headB n = numS n.keys.length 2 ++ numS k 4 := by
      have : n.kids.getD 0 0 = k := by simp [h0, hk]
      simp only [headB, hl, this]; simp
    have ha : (numS n.keys.length 2).length + (numS k 4).length ≤ 9223372036854775807 := by simp [numS_length]
    simp [hib, -iaddrA_rs, kidC, hk, -List.length_append, -W_block]
    refine WCall_p (f58 k 4 (by omega) (by omega) _ _) ?_
    simp [ha, -List.length_append, -W_block]
    rw [hl] at fin
    refine fin _ (by simp [hh]) (by simp) (by simp) _ ?_
    intro tm hp nx t3
    simp [t3]
  · have hh : headB n = numS n.keys.length 2 := by simp [headB, hl]
    simp [-W_block]
    rw [hl] at fin
    refine fin _ (by simp [hh]) (by simp) (by simp) _ ?_
    intro tm hp nx t3
    simp [t3]
end Go.Ai

/- Texts under way. -/
namespace Go.Ai
set_option linter.unusedVariables false
set_option linter.unusedSimpArgs false

/-- The text at block w is l; what it stands in lies behind w. -/
def TX (hp : Heap) (nx w : Nat) (l : List UInt8) : Prop :=
  w < nx ∧ ((hp w = some [[.rs true 0 [] (some 0)]] ∧ l = []) ∨ ∃ b, w < b ∧ b < nx ∧ hp w = some [[.sl b 1 0 l.length none]] ∧ hp b = some (bytesOf l))

theorem bytesOf_length {l : List UInt8} : (bytesOf l).length = l.length := by simp [bytesOf]
theorem bytesOf_append {a b : List UInt8} : bytesOf a ++ bytesOf b = bytesOf (a ++ b) := by simp [bytesOf]

/-- Blocks that the text at w stands in. -/
def TXb (hp : Heap) (w r : Nat) : Prop := r = w ∨ ∃ n c, hp w = some [[.sl r 1 0 n c]]
/-- What a step that writes on the text at w leaves alone. -/
structure TXF (w : Nat) (hp : Heap) (nx : Nat) (hp' : Heap) (nx' : Nat) : Prop where
  le : nx ≤ nx'
  keep : ∀ r, r < nx → ¬ TXb hp w r → hp' r = hp r ∧ ¬ TXb hp' w r
theorem TXF.refl {w hp nx} : TXF w hp nx hp nx := ⟨Nat.le_refl _, fun r h1 h2 => ⟨rfl, h2⟩⟩
theorem TXF.trans {w hp nx hp1 nx1 hp2 nx2} (h : TXF w hp nx hp1 nx1) (k : TXF w hp1 nx1 hp2 nx2) : TXF w hp nx hp2 nx2 :=
  ⟨Nat.le_trans h.le k.le, fun r h1 h2 => by
    obtain ⟨a, b⟩ := h.keep r h1 h2
    obtain ⟨c, d⟩ := k.keep r (Nat.lt_of_lt_of_le h1 h.le) b
    exact ⟨c.trans a, d⟩⟩

/-- Some bytes more: what the append gives, and what is there once that is stored. -/
theorem TX.append {hp : Heap} {nx w : Nat} {l : List UInt8} (h : TX hp nx w l) (new : List UInt8) (hn : l.length + new.length ≤ 100000000) (hne : l ≠ [] ∨ new ≠ []) :
    ∃ bv v hp' nx', hp w = some [[bv]] ∧ appA 1 1 bv (bytesOf new) hp nx = some (v, hp', nx') ∧ hp' w = some [[bv]] ∧ v.cells = [v] ∧ v.one = true ∧ TXF w hp nx (hupd hp' w (some [[v]])) nx' ∧ TX (hupd hp' w (some [[v]])) nx' w (l ++ new) := by
  obtain ⟨hw, h⟩ := h
  rcases h with ⟨h1, rfl⟩ | ⟨b, hb, hbn, h1, h2⟩
  · have hne : new ≠ [] := by simpa using hne
    have hl : new.length ≠ 0 := by simpa using hne
    refine ⟨_, .sl nx 1 0 new.length none, hupd hp nx (some (bytesOf new)), nx + 1, h1, ?_, ?_, rfl, rfl, ?_, ?_⟩
    · simp only [appA, true_or, if_true, bytesOf_length, hl, if_false, List.length_nil, Nat.zero_add]
      rw [if_pos ⟨by omega, by simp at hn ⊢; omega⟩]; rfl
    · simp [show ¬ w = nx by omega, h1]
    · refine ⟨by omega, fun r hr hb => ⟨?_, ?_⟩⟩
      · simp [show ¬ r = w from fun e => hb (.inl e), show ¬ r = nx by omega]
      · rintro (e | ⟨n, c, e⟩)
        · exact hb (.inl e)
        · simp at e; omega
    · refine ⟨by omega, .inr ⟨nx, hw, by omega, ?_, ?_⟩⟩
      · simp
      · simp [show ¬ nx = w by omega]
  · by_cases hl : new = []
    · subst hl
      refine ⟨_, .sl b 1 0 l.length none, hupd hp b (some (bytesOf l)), nx, h1, ?_, ?_, rfl, rfl, ?_, ?_⟩
      · simp only [appA, if_true, h2, bytesOf_length, Nat.zero_add, List.length_nil]
        rw [if_neg (by omega)]
        simp [bytesOf, spliceL]
      · simp [show ¬ w = b by omega, h1]
      · refine ⟨by omega, fun r hr hb => ⟨?_, ?_⟩⟩
        · simp [show ¬ r = w from fun e => hb (.inl e), show ¬ r = b from fun e => hb (.inr ⟨_, _, by rw [e]; exact h1⟩)]
        · rintro (e | ⟨n, c, e⟩)
          · exact hb (.inl e)
          · simp at e; exact hb (.inr ⟨_, _, by rw [← e.1]; exact h1⟩)
      · refine ⟨hw, .inr ⟨b, hb, hbn, ?_, ?_⟩⟩
        · simp
        · simp [show ¬ b = w by omega]
    · have hl' : new.length ≠ 0 := by simpa using hl
      refine ⟨_, .sl nx 1 0 (l.length + new.length) none, hupd (hupd hp b none) nx (some (bytesOf l ++ bytesOf new)), nx + 1, h1, ?_, ?_, rfl, rfl, ?_, ?_⟩
      · simp only [appA, if_true, h2, bytesOf_length, Nat.zero_add]
        rw [if_neg (by omega), if_neg (by omega), if_pos (by omega)]
        have : (bytesOf l).take l.length = bytesOf l := by rw [← bytesOf_length (l := l)]; exact List.take_length
        simp [this]
      · simp [show ¬ w = b by omega, show ¬ w = nx by omega, h1]
      · refine ⟨by omega, fun r hr hb => ⟨?_, ?_⟩⟩
        · simp [show ¬ r = w from fun e => hb (.inl e), show ¬ r = b from fun e => hb (.inr ⟨_, _, by rw [e]; exact h1⟩), show ¬ r = nx by omega]
        · rintro (e | ⟨n, c, e⟩)
          · exact hb (.inl e)
          · simp at e; omega
      · refine ⟨by omega, .inr ⟨nx, hw, by omega, ?_, ?_⟩⟩
        · simp
        · simp [show ¬ nx = w by omega, bytesOf_append]

/-- Some low bytes of a number, the highest first. -/
theorem numS_shift (x : Nat) : ∀ n k, k < n → numS (x / 256 ^ (n - k)) k ++ UInt8.ofNat (x / 256 ^ (n - 1 - k) % 256) :: [] = numS (x / 256 ^ (n - 1 - k)) (k + 1) := by
  intro n k hk
  have : 256 ^ (n - k) = 256 ^ (n - 1 - k) * 256 := by rw [← Nat.pow_succ]; congr 1; omega
  simp only [numS]
  rw [Nat.div_div_eq_div_mul, this]

theorem f38 (x n : Nat) (hx : x ≤ 9223372036854775807) (hn : n ≤ 7) (hp : Heap) (nx w : Nat) (l : List UInt8) (hl : l.length ≤ 10000000) (h : TX hp nx w l) :
    ∃ hp' nx', Ret E 38 [.ptr w 0 0, .v (.int .i64 x), .v (.int .i64 n)] hp nx (.tup []) hp' nx' .e ∧ TX hp' nx' w (l ++ numS x n) ∧ TXF w hp nx hp' nx' := by
  have main := Ret_genE (P := fun v hp' nx' => v = .tup [] ∧ TX hp' nx' w (l ++ numS x n) ∧ TXF w hp nx hp' nx') e38 (args := [.ptr w 0 0, .v (.int .i64 x), .v (.int .i64 n)]) rfl (hp := hp) (nx := nx) ?_
  · obtain ⟨v, hp', nx', h1, rfl, h2⟩ := main
    exact ⟨hp', nx', h1, h2⟩
  · simp [c38]
    have hw0 : IntKind.wrap .i64 ((n : Int) - 1) = (n : Int) - 1 := by rw [wrap_id] <;> omega
    refine W_loopI (I := fun (k : Nat) s => k ≤ n ∧ s.tm 6 = .int .i64 ((n : Int) - 1 - k) ∧ s.tm 0 = .ptr w 0 0 ∧ s.tm 1 = .int .i64 x ∧ TX s.hp s.nx w (l ++ numS (x / 256 ^ (n - k)) k) ∧ TXF w hp nx s.hp s.nx)
      (fun k => n - k) 0 (by simp [hw0, h, numS, TXF.refl]) ?_
    rintro k tm hp1 nx1 ⟨hk, t6, t0, t1, hT, hF⟩
    simp only at t6 t0 t1 hT hF
    by_cases hlt : k < n
    · have h6 : (n : Int) - 1 - k = (n - 1 - k : Nat) := by omega
      rw [h6] at t6
      have hw1 : IntKind.wrap .i64 (8 * ((n - 1 - k : Nat) : Int)) = (8 * (n - 1 - k) : Nat) := by rw [wrap_id] <;> omega
      have hsh : shA .shr .i64 (x : Int) ((8 * (n - 1 - k) : Nat) : Int) = some (.int .i64 ((x / 256 ^ (n - 1 - k) : Nat) : Int)) := by
        simp only [shA]
        rw [if_neg (by omega)]
        have e1 : Nat.min ((8 * (n - 1 - k) : Nat) : Int).toNat (IntKind.bits .i64) = 8 * (n - 1 - k) := by
          simp only [Int.toNat_natCast]; show Nat.min _ 64 = _; exact Nat.min_eq_left (by omega)
        rw [e1]
        have e2 : (2 : Int) ^ (8 * (n - 1 - k)) = ((256 ^ (n - 1 - k) : Nat) : Int) := by
          rw [Int.pow_mul]; norm_cast
        rw [e2, Int.fdiv_eq_ediv_of_nonneg _ (Int.natCast_nonneg _)]
        norm_cast
      generalize hy : x / 256 ^ (n - 1 - k) = y at hsh
      have hby : [[AV.v (.int .u8 (IntKind.wrap .u8 (y : Int)))]] = bytesOf [UInt8.ofNat (y % 256)] := by
        rw [IntKind.wrap_u8]
        simp [bytesOf]
      obtain ⟨bv, v, hp2, nx2, g1, g2, g3, g4, g5, g7, g8⟩ := hT.append [UInt8.ofNat (y % 256)] (by simp [numS_length]; omega) (.inr (by simp))
      have hw2 : IntKind.wrap .i64 (((n - 1 - k : Nat) : Int) - 1) = (n : Int) - 1 - (k + 1 : Nat) := by
        have e : ((n - 1 - k : Nat) : Int) = n - 1 - k := by omega
        rw [e, wrap_id] <;> omega
      rw [← hby] at g2
      simp [t6, t0, t1, hw1, hsh, g1, g2, g3, g4, g5, hw2, -Int.natCast_mul, spliceL]
      refine ⟨k + 1, by omega, by omega, by simp, ?_, hF.trans g7⟩
      · have := numS_shift x n k hlt
        rw [hy] at this
        rw [show n - (k + 1) = n - 1 - k by omega, hy, ← this, ← List.append_assoc]
        exact g8
    · have : k = n := by omega
      subst this
      have : (k : Int) - 1 - k = -1 := by omega
      rw [this] at t6
      simp [t6]
      refine ⟨?_, hF⟩
      simpa using hT

theorem f39 (hp : Heap) (nx w : Nat) (l s : List UInt8) (hl : l.length ≤ 9000000) (hs : s.length ≤ 255) (h : TX hp nx w l) :
    ∃ hp' nx', Ret E 39 [.ptr w 0 0, .str s] hp nx (.tup []) hp' nx' .e ∧ TX hp' nx' w (l ++ (numS s.length 1 ++ s)) ∧ TXF w hp nx hp' nx' := by
  have main := Ret_genE (P := fun v hp' nx' => v = .tup [] ∧ TX hp' nx' w (l ++ (numS s.length 1 ++ s)) ∧ TXF w hp nx hp' nx') e39 (args := [.ptr w 0 0, .str s]) rfl (hp := hp) (nx := nx) ?_
  · obtain ⟨v, hp', nx', h1, rfl, h2⟩ := main
    exact ⟨hp', nx', h1, h2⟩
  · obtain ⟨hp1, nx1, r1, r2, r3⟩ := f38 s.length 1 (by omega) (by omega) hp nx w l (by omega) h
    obtain ⟨bv, v, hp2, nx2, g1, g2, g3, g4, g5, g7, g8⟩ := r2.append s (by simp [numS_length]; omega) (.inl (by simp [numS]))
    simp [c39]
    refine WCall_k r1 ?_
    simp [g1, g2, g3, g4, g5, spliceL]
    exact ⟨by simpa using g8, r3.trans g7⟩

theorem f40 (hp : Heap) (nx w : Nat) (l : List UInt8) (x : Itm) (hx : itemS x = true) (hl : l.length ≤ 8000000) (h : TX hp nx w l) :
    ∃ hp' nx', Ret E 40 [.ptr w 0 0, .agg x.cells] hp nx (.tup []) hp' nx' .e ∧ TX hp' nx' w (l ++ itemB x) ∧ TXF w hp nx hp' nx' := by
  have main := Ret_genE (P := fun v hp' nx' => v = .tup [] ∧ TX hp' nx' w (l ++ itemB x) ∧ TXF w hp nx hp' nx') e40 (args := [.ptr w 0 0, .agg x.cells]) rfl (hp := hp) (nx := nx) ?_
  · obtain ⟨v, hp', nx', h1, rfl, h2⟩ := main
    exact ⟨hp', nx', h1, h2⟩
  · have hnw : w < nx := h.1
    have hN : ¬ TXb (hupd hp nx (some [x.cells])) w nx := by
      rintro (e | ⟨n, c, e⟩)
      · omega
      · simp [show ¬ w = nx by omega] at e
        obtain ⟨_, h⟩ := h
        rcases h with ⟨h1, _⟩ | ⟨b, _, h2, h3, _⟩
        · rw [h1] at e; simp at e
        · rw [h3] at e; simp at e; omega
    have hF0 : TXF w hp nx (hupd hp nx (some [x.cells])) (nx + 1) := by
      refine ⟨by omega, fun r hr hb => ⟨by simp [show ¬ r = nx by omega], ?_⟩⟩
      rintro (e | ⟨n, c, e⟩)
      · exact hb (.inl e)
      · simp [show ¬ w = nx by omega] at e
        exact hb (.inr ⟨n, c, e⟩)
    have hT : TX (hupd hp nx (some [x.cells])) (nx + 1) w l := by
      obtain ⟨_, h⟩ := h
      refine ⟨by omega, ?_⟩
      rcases h with ⟨h1, h2⟩ | ⟨b, h1, h2, h3, h4⟩
      · exact .inl ⟨by simp [show ¬ w = nx by omega, h1], h2⟩
      · exact .inr ⟨b, h1, by omega, by simp [show ¬ w = nx by omega, h3], by simp [show ¬ b = nx by omega, h4]⟩
    rcases itemS_cases hx with ⟨q1, q2, q3⟩ | ⟨p, s, q1, q2, q3, q4, q5, q6, q7⟩
    · obtain ⟨hp1, nx1, r1, r2, r3⟩ := f39 _ _ w l x.v (by omega) (by omega) hT
      have r1' := r1
      simp only [Itm.cells, q1] at r1'
      simp [c40, Itm.cells, q1]
      refine WCall_k r1' ?_
      have hb : itemB x = numS x.v.length 1 ++ x.v := by simp [itemB, q1]
      simp [hb]
      exact ⟨r2, hF0.trans r3⟩
    · obtain ⟨hp1, nx1, r1, r2, r3⟩ := f38 255 1 (by omega) (by omega) _ _ w l (by omega) hT
      obtain ⟨hp2, nx2, u1, u2, u3⟩ := f38 p 4 (by omega) (by omega) _ _ w _ (by simp [numS_length]; omega) r2
      obtain ⟨hp3, nx3, v1, v2, v3⟩ := f38 s 4 (by omega) (by omega) _ _ w _ (by simp [numS_length]; omega) u2
      have k1 := r3.keep nx (by omega) hN
      have k2 := u3.keep nx (by have := r3.le; omega) k1.2
      have hc1 : hp1 nx = some [x.cells] := by rw [k1.1]; simp
      have hc2 : hp2 nx = some [x.cells] := by rw [k2.1, hc1]
      simp only [Itm.cells] at hc1 hc2 r1
      have hp0 : ¬ x.p = 0 := by omega
      simp [c40, Itm.cells, hp0]
      refine WCall_k r1 ?_
      simp [hc1, q1]
      refine WCall_k u1 ?_
      simp [hc2, q2]
      refine WCall_k v1 ?_
      have hb : itemB x = [255] ++ numS p 4 ++ numS s 4 := by simp [itemB, q1, q2, show 0 < p by omega]
      have h255 : numS 255 1 = [255] := rfl
      simp [hb]
      refine ⟨?_, hF0.trans (r3.trans (u3.trans v3))⟩
      simpa [h255] using v2
end Go.Ai

/- Encode, and the document's. -/
namespace Go.Ai
set_option linter.unusedVariables false
set_option linter.unusedSimpArgs false

theorem f15 (n : Nd) (x : AV) (hx : NdA n x) (h1 : n.keys.length ≤ 60000) (h2 : n.items.length ≤ 60000) (h3 : n.kids.length ≤ 60000) (hp nx) :
    Ret E 15 [x] hp nx (.v (.int .i64 (sizeS n))) hp nx .p := by
  have hx0 := hx
  have c13' := f13 n _ hx0 (by omega) (by omega) (by omega)
  have c37' := fun hr => f37 n _ hx0 hr h1
  obtain ⟨kA, iA, dA, rfl, hk, hi, hd⟩ := hx
  obtain ⟨kn, ksz, kc, rfl, hkz⟩ := hk
  obtain ⟨in', isz, ic, rfl, hiz⟩ := hi
  obtain ⟨dn, dsz, dc, rfl, hdz⟩ := hd
  refine Ret_pureQ e15 rfl (by simp) ?_ hp nx
  simp [c15]
  refine WCall_p (c13' _ _) ?_
  cases hr : rightS n
  · simp [sizeS, hr]
  · simp
    refine WCall_p (c37' (RightF.of hr) _ _) ?_
    simp [sizeS, hr]

def encS (n : Nd) : Int × List UInt8 × Int :=
  if rightS n then (if (contentS n).length > 492 then (0, [], 4) else (if n.leaf then 1 else 2, contentS n, 0)) else (0, [], 2)
def encA (r : Int × List UInt8 × Int) : AV := .tup [.int .i64 r.1, .str r.2.1, .int .i64 r.2.2]

theorem f17 (n : Nd) (x : AV) (hx : NdA n x) (h1 : n.keys.length ≤ 60000) (h2 : n.items.length ≤ 60000) (h3 : n.kids.length ≤ 60000) (hp nx) :
    Ret E 17 [x] hp nx (encA (encS n)) hp nx .p := by
  have hx0 := hx
  have c13' := f13 n _ hx0 (by omega) (by omega) (by omega)
  have c37' := fun hr => f37 n _ hx0 hr h1
  obtain ⟨kA, iA, dA, rfl, hk, hi, hd⟩ := hx
  obtain ⟨kn, ksz, kc, rfl, hkz⟩ := hk
  obtain ⟨in', isz, ic, rfl, hiz⟩ := hi
  obtain ⟨dn, dsz, dc, rfl, hdz⟩ := hd
  refine Ret_pureQ e17 rfl (by simp) ?_ hp nx
  simp [c17]
  refine WCall_p (c13' _ _) ?_
  cases hr : rightS n
  · simp [encA, encS, hr, frz_closed]
  · simp
    refine WCall_p (c37' (RightF.of hr) _ _) ?_
    by_cases hl : (contentS n).length > 492
    · have hl' : (492 : Int) < (contentS n).length := by omega
      simp [encA, encS, hr, hl', hl, frz_closed]
    · have hl' : ¬ (492 : Int) < (contentS n).length := by omega
      cases hlf : n.leaf
      · simp [encA, encS, hr, hl', hl, frz_closed, hlf]
      · simp [encA, encS, hr, hl', hl, frz_closed, hlf]

theorem TX.read {hp : Heap} {nx w : Nat} {l : List UInt8} (h : TX hp nx w l) (hne : l ≠ []) : ∃ b, hp w = some [[.sl b 1 0 l.length none]] ∧ b2sO hp b 1 0 l.length = some (.str l) := by
  obtain ⟨_, h⟩ := h
  rcases h with ⟨_, h⟩ | ⟨b, _, _, h1, h2⟩
  · exact absurd h hne
  · refine ⟨b, h1, ?_⟩
    rw [b2sO_at h2]
    have : ((bytesOf l).drop 0).take l.length = bytesOf l := by rw [List.drop_zero, ← bytesOf_length (l := l)]; exact List.take_length
    rw [if_pos ⟨rfl, by rw [bytesOf_length]; omega⟩, this, toBytes_bytesOf]
    rfl

set_option maxHeartbeats 400000 in
theorem f16 (n : Nd) (x : AV) (hx : NdA n x) (h1 : n.keys.length ≤ 60000) (h2 : n.items.length ≤ 60000) (h3 : n.kids.length ≤ 60001) (hp nx) :
    Ret E 16 [x] hp nx (encA (encS n)) hp nx .p := by
  have hx0 := hx
  have c12' := f12 n _ hx0 (by omega) (by omega) (by omega)
  have c14' := f14 n _ hx0 (by omega) (by omega) (by omega)
  obtain ⟨kA, iA, dA, rfl, hk, hi, hd⟩ := hx
  obtain ⟨kn, ksz, kc, rfl, hkz⟩ := hk
  obtain ⟨in', isz, ic, rfl, hiz⟩ := hi
  obtain ⟨dn, dsz, dc, rfl, hdz⟩ := hd
  refine Ret_pureQ e16 rfl (by simp) ?_ hp nx
  simp [c16]
  refine WCall_p (c12' _ _) ?_
  cases hr : rightS n
  · simp [encA, encS, hr, frz_closed]
  have hf := RightF.of hr
  simp
  refine WCall_p (c14' _ _) ?_
  have hsz : sizeS n = (contentS n).length := by simp [sizeS, hr]
  by_cases hl : (contentS n).length > 492
  · have hl' : (492 : Int) < (sizeS n : Int) := by omega
    simp [encA, encS, hr, hl', hl, frz_closed]
  have hl' : ¬ (492 : Int) < (sizeS n : Int) := by omega
  simp [hl']
  generalize hND : [AV.v (Value.bool n.leaf), AV.rs kn ksz (n.keys.map keyC) kc, AV.rs in' isz (n.items.map Itm.cells) ic, AV.rs dn dsz (n.kids.map kidC) dc] = ND
  have hT0 : TX (hupd (hupd hnil 0 (some [ND])) 1 (some [[.rs true 0 [] (some 0)]])) 2 1 [] := ⟨by omega, .inl ⟨by simp, rfl⟩⟩
  have hB0 : ¬ TXb (hupd (hupd hnil 0 (some [ND])) 1 (some [[.rs true 0 [] (some 0)]])) 1 0 := by
    rintro (e | ⟨n, c, e⟩)
    · omega
    · simp at e
  obtain ⟨hp1, nx1, r1, r2, r3⟩ := f38 n.keys.length 2 (by omega) (by omega) _ _ 1 [] (by simp) hT0
  have k1 := r3.keep 0 (by omega) hB0
  have hN1 : hp1 0 = some [ND] := by rw [k1.1]; simp
  subst hND
  refine WCall_k r1 ?_
  simp only [List.nil_append] at r2
  -- behind the head
  have tail : ∀ tm hp nx, tm 1 = .ptr 0 0 0 → tm 5 = .ptr 1 0 0 → hp 0 = some [[AV.v (Value.bool n.leaf), AV.rs kn ksz (n.keys.map keyC) kc, AV.rs in' isz (n.items.map Itm.cells) ic, AV.rs dn dsz (n.kids.map kidC) dc]] → ¬ TXb hp 1 0 → TX hp nx 1 (headB n) →
      W (Ret E) c16_rrrrrr (pureQ [.t 2, .t 3, .t 4] (encA (encS n))) ⟨tm, hp, nx⟩ := by
    intro tm hp nx t1 t5 hN hB hT
    simp [c16, c16_rrrrrr, t1, t5, hN]
    refine W_loopI (I := fun (j : Nat) s => j ≤ n.keys.length ∧ s.tm 38 = .int .i64 j ∧ s.tm 37 = .int .i64 n.keys.length ∧ s.tm 36 = AV.rs kn ksz (n.keys.map keyC) kc ∧ s.tm 1 = .ptr 0 0 0 ∧ s.tm 5 = .ptr 1 0 0 ∧ 0 < s.nx ∧
        s.hp 0 = some [[AV.v (Value.bool n.leaf), AV.rs kn ksz (n.keys.map keyC) kc, AV.rs in' isz (n.items.map Itm.cells) ic, AV.rs dn dsz (n.kids.map kidC) dc]] ∧ ¬ TXb s.hp 1 0 ∧ TX s.hp s.nx 1 (headB n ++ (List.range j).flatMap (entryB n)))
        (fun j => n.keys.length - j) 0 (by simp [t1, t5, hN, hB, hT]; have := hT.1; omega) ?_
    rintro j tm hp nx ⟨hj, t38, t37, t36, t1, t5, hnx, hN, hB, hT⟩
    simp only at t38 t37 t36 t1 t5 hnx hN hB hT
    by_cases hlt : j < n.keys.length
    · have hs := sumW_le hf j hj
      have hwl := weightS_le hf hlt
      have hhl : (headB n).length ≤ 6 := by rw [headB_length]; split <;> omega
      have hget : n.keys[j]? = some n.keys[j] := List.getElem?_eq_getElem hlt
      have hgd : n.keys.getD j [] = n.keys[j] := by simp [hget]
      have hia : iaddrA 1 (.rs kn ksz (n.keys.map keyC) kc) (.v (.int .i64 j)) = some (.rp (keyC n.keys[j])) := iaddr_in hkz (by simp [hget]) rfl
      have hw : IntKind.wrap .i64 ((j : Int) + 1) = (j + 1 : Nat) := by rw [wrap_id] <;> omega
      have hkl := hf.klen j hlt
      obtain ⟨hp1, nx1, r1, r2, r3⟩ := f39 _ _ 1 _ n.keys[j] (by rw [List.length_append, sumW_length]; omega) (by omega) hT
      have k1 := r3.keep 0 hnx hB
      have hN1 := k1.1.trans hN
      have hnx1 : 0 < nx1 := by have := r3.le; omega
      simp [t38, t37, t36, t1, t5, hlt, -iaddrA_rs, hia, keyC]
      refine WCall_k r1 ?_
      cases hlf : n.leaf
      · obtain ⟨g1, g2, g3, g4⟩ := hf.inner hlf
        have hjk : j + 1 < n.kids.length := by omega
        have hib : iaddrA 1 (.rs dn dsz (n.kids.map kidC) dc) (.v (.int .i64 (j + 1 : Nat))) = some (.rp (kidC n.kids[j + 1])) := iaddr_in hdz (by simp [hjk]) rfl
        obtain ⟨k, hk, _, _⟩ := kidS_nat (g4 _ (List.getElem_mem hjk))
        have he : entryB n j = numS n.keys[j].length 1 ++ n.keys[j] ++ numS k 4 := by
          have : n.kids.getD (j + 1) 0 = k := by simp [hjk, hk]
          simp only [entryB, hgd, hlf, this]; simp
        obtain ⟨hp2, nx2, u1, u2, u3⟩ := f38 k 4 (by omega) (by omega) _ _ 1 _ (by rw [List.length_append, List.length_append, List.length_append, sumW_length, numS_length]; omega) r2
        have k2 := u3.keep 0 hnx1 k1.2
        have hN2 := k2.1.trans hN1
        have hnx2 : 0 < nx2 := by have := u3.le; omega
        rw [hlf] at hN1 hN2
        simp [t38, t37, t36, t1, t5, hN1, -iaddrA_rs, hib, kidC, hk, hw, -Int.natCast_add]
        refine WCall_k u1 ?_
        simp [t38, t37, t36, t1, t5, hN2, hw, -Int.natCast_add]
        refine ⟨j + 1, by omega, by omega, by simp, hnx2, k2.2, ?_⟩
        rw [List.range_succ, List.flatMap_append]
        simpa [he] using u2
      · obtain ⟨g1, g2, g3⟩ := hf.leaf hlf
        have hi2 : j < n.items.length := by omega
        have hg : n.items.getD j ⟨[], 0, 0⟩ = n.items[j] := by simp [hi2]
        have hib : iaddrA 3 (.rs in' isz (n.items.map Itm.cells) ic) (.v (.int .i64 j)) = some (.rp n.items[j].cells) := iaddr_in hiz (by simp [hi2]) rfl
        have he : entryB n j = numS n.keys[j].length 1 ++ n.keys[j] ++ itemB n.items[j] := by
          simp only [entryB, hgd, hlf, hg]; simp
        obtain ⟨hp2, nx2, u1, u2, u3⟩ := f40 _ _ 1 _ n.items[j] (g3 _ (List.getElem_mem hi2)) (by rw [List.length_append, List.length_append, List.length_append, sumW_length, numS_length]; omega) r2
        have k2 := u3.keep 0 hnx1 k1.2
        have hN2 := k2.1.trans hN1
        have hnx2 : 0 < nx2 := by have := u3.le; omega
        rw [hlf] at hN1 hN2
        simp [t38, t37, t36, t1, t5, hN1, -iaddrA_rs, hib, hw, -Int.natCast_add]
        refine ⟨by simp [Itm.cells], ?_⟩
        simp only [Itm.cells] at u1 ⊢
        simp
        refine WCall_k u1 ?_
        simp [t38, t37, t36, t1, t5, hN2, hw, -Int.natCast_add]
        refine ⟨j + 1, by omega, by omega, by simp, hnx2, k2.2, ?_⟩
        rw [List.range_succ, List.flatMap_append]
        simpa [he] using u2
    · have : j = n.keys.length := by omega
      subst this
      have hne : contentS n ≠ [] := by
        intro h; have := congrArg List.length h
        rw [contentS_length, headB_length] at this
        simp at this; split at this <;> omega
      rw [show headB n ++ (List.range n.keys.length).flatMap (entryB n) = contentS n from rfl] at hT
      obtain ⟨b, g1, g2⟩ := hT.read hne
      cases hlf : n.leaf
      · rw [hlf] at hN
        simp [t38, t37, t1, t5, hN, g1, g2]
        simp [encA, encS, hr, hl, frz_closed, hlf]
      · rw [hlf] at hN
        simp [t38, t37, t1, t5, hN, g1, g2]
        simp [encA, encS, hr, hl, frz_closed, hlf]
  cases hlf : n.leaf
  · obtain ⟨g1, g2, g3, g4⟩ := hf.inner hlf
    have h0 : 0 < n.kids.length := by omega
    have hib : iaddrA 1 (.rs dn dsz (n.kids.map kidC) dc) (.v (.int .i64 0)) = some (.rp (kidC n.kids[0])) := iaddr_in (j := 0) hdz (by simp [h0]) rfl
    obtain ⟨k, hk, _, _⟩ := kidS_nat (g4 _ (List.getElem_mem h0))
    have hh : headB n = numS n.keys.length 2 ++ numS k 4 := by
      have : n.kids.getD 0 0 = k := by simp [h0, hk]
      simp only [headB, hlf, this]; simp
    obtain ⟨hp2, nx2, u1, u2, u3⟩ := f38 k 4 (by omega) (by omega) _ _ 1 _ (by rw [numS_length]; omega) r2
    have k2 := u3.keep 0 (by have := r3.le; omega) k1.2
    have hN2 := k2.1.trans hN1
    have hN1' := hN1
    rw [hlf] at hN1'
    simp [hN1', hib, -iaddrA_rs, kidC, hk]
    refine WCall_k u1 ?_
    simp
    exact tail _ hp2 nx2 (by simp) (by simp) hN2 k2.2 (by rw [hh]; exact u2)
  · have hh : headB n = numS n.keys.length 2 := by simp [headB, hlf]
    have hN1' := hN1
    rw [hlf] at hN1'
    simp [hN1']
    exact tail _ hp1 nx1 (by simp) (by simp) hN1 k1.2 (by rw [hh]; exact r2)
end Go.Ai

