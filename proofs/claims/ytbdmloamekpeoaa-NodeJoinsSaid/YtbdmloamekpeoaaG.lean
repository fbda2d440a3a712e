/- Sizes and contents. -/
import Derived.Test.YtbdmloamekpeoaaF
namespace Go.Ai
set_option linter.unusedVariables false
set_option linter.unusedSimpArgs false

/-- A number's bytes, the highest first. -/
def numS (x : Nat) : Nat → List UInt8
  | 0 => []
  | n + 1 => numS (x / 256) n ++ [UInt8.ofNat (x % 256)]
theorem numS_length : ∀ (n x : Nat), (numS x n).length = n
  | 0, _ => rfl
  | n + 1, x => by simp [numS, numS_length n]

theorem f58 (x n : Nat) (hx : x ≤ 9223372036854775807) (hn : n ≤ 100) (hp nx) : Ret E 58 [.v (.int .i64 x), .v (.int .i64 n)] hp nx (.str (numS x n)) hp nx .p := by
  refine Ret_pureQ e58 rfl rfl ?_ hp nx
  simp [c58]
  refine W_loopI (I := fun (g : Nat × Nat × List UInt8) s => g.1 ≤ n ∧ g.2.1 ≤ 9223372036854775807 ∧ s.tm 6 = .int .i64 g.1 ∧ s.tm 1 = .int .i64 n ∧ s.tm 0 = .int .i64 g.2.1 ∧ s.tm 5 = .str g.2.2 ∧ s.hp = hnil ∧ s.nx = 0 ∧
      g.2.2.length = g.1 ∧ numS x n = numS g.2.1 (n - g.1) ++ g.2.2) (fun g => n - g.1) (0, x, []) (by simp [hx]) ?_
  rintro ⟨j, y, s⟩ tm hp nx ⟨hj, hy, t6, t1, t0, t5, rfl, rfl, hsl, hs⟩
  simp only at t6 t1 t0 t5 hj hy hsl hs
  by_cases hlt : j < n
  · have hw : IntKind.wrap .i64 ((j : Int) + 1) = (j + 1 : Nat) := by rw [wrap_id] <;> omega
    have hm : Int.tmod (y : Int) 256 = ((y % 256 : Nat) : Int) := by rw [Int.tmod_eq_emod_of_nonneg (by omega)]; omega
    have hq : Int.tdiv (y : Int) 256 = ((y / 256 : Nat) : Int) := by rw [Int.tdiv_eq_ediv_of_nonneg (by omega)]; omega
    have hq2 : IntKind.wrap .i64 ((y / 256 : Nat) : Int) = (y / 256 : Nat) := by rw [wrap_id] <;> omega
    have hm2 : IntKind.wrap .u8 ((y % 256 : Nat) : Int) = ((y % 256 : Nat) : Int) := by rw [IntKind.wrap_u8]; omega
    have hl : 1 + s.length ≤ 9223372036854775807 := by omega
    simp [t6, t1, t0, t5, hlt, hw, hm, hq, hq2, hm2, hl, -Int.natCast_ediv, -Int.natCast_emod]
    exact ⟨j + 1, by omega, by omega, y / 256, by omega, by simp, rfl, by omega, by
      rw [hs, show n - j = n - (j + 1) + 1 by omega]; simp [numS]⟩
  · have : j = n := by omega
    subst this
    simp [t6, t1, t5]
    rw [hs]; simp [numS]

structure RightF (n : Nd) : Prop where
  klen : ∀ i (h : i < n.keys.length), (n.keys[i]).length ≤ 60
  leaf : n.leaf = true → n.items.length = n.keys.length ∧ n.kids = [] ∧ ∀ x ∈ n.items, itemS x = true
  inner : n.leaf = false → 0 < n.keys.length ∧ n.kids.length = n.keys.length + 1 ∧ n.items = [] ∧ ∀ x ∈ n.kids, kidS x = true
theorem RightF.of {n : Nd} (h : rightS n = true) : RightF n := by
  simp only [rightS, Bool.and_eq_true] at h
  obtain ⟨h1, h2⟩ := h
  refine ⟨fun i hi => ?_, fun hl => ?_, fun hl => ?_⟩
  · simp only [keysS, List.all_eq_true, List.mem_range] at h1
    have := h1 i hi
    simp [badS, hi] at this
    omega
  · simp only [bodyS, hl, if_true, Bool.and_eq_true, decide_eq_true_eq, List.all_eq_true] at h2
    exact ⟨h2.1.1, List.eq_nil_of_length_eq_zero h2.1.2, h2.2⟩
  · simp [bodyS, hl] at h2
    exact ⟨h2.1.1.1, h2.1.1.2, h2.1.2, h2.2⟩

theorem kidS_nat {x : Int} (h : kidS x = true) : ∃ k : Nat, x = k ∧ 2 ≤ k ∧ k < 4096 := by
  simp [kidS] at h
  exact ⟨x.toNat, by omega, by omega, by omega⟩
theorem itemS_cases {x : Itm} (h : itemS x = true) : (x.p = 0 ∧ x.s = 0 ∧ x.v.length ≤ 60) ∨ (∃ p s : Nat, x.p = p ∧ x.s = s ∧ 2 ≤ p ∧ p < 4096 ∧ 60 < s ∧ s ≤ 60000 ∧ x.v = []) := by
  simp only [itemS] at h
  split at h
  · rename_i hp; simp at h; exact .inl ⟨hp, h.1, h.2⟩
  · simp [kidS] at h
    exact .inr ⟨x.p.toNat, x.s.toNat, by omega, by omega, by omega, by omega, by omega, by omega, h.1.1.2⟩

def headB (n : Nd) : List UInt8 := numS n.keys.length 2 ++ if n.leaf then [] else numS (n.kids.getD 0 0).toNat 4
def itemB (x : Itm) : List UInt8 := if 0 < x.p then 255 :: (numS x.p.toNat 4 ++ numS x.s.toNat 4) else numS x.v.length 1 ++ x.v
def entryB (n : Nd) (i : Nat) : List UInt8 := numS (n.keys.getD i []).length 1 ++ n.keys.getD i [] ++ if n.leaf then itemB (n.items.getD i ⟨[], 0, 0⟩) else numS (n.kids.getD (i + 1) 0).toNat 4
def contentS (n : Nd) : List UInt8 := headB n ++ (List.range n.keys.length).flatMap (entryB n)

theorem headB_length {n : Nd} : (headB n).length = if n.leaf then 2 else 6 := by
  simp only [headB]; split <;> simp [numS_length]
theorem itemB_length {x : Itm} : (itemB x).length = if 0 < x.p then 9 else 1 + x.v.length := by
  simp only [itemB]; split <;> simp [numS_length]
def weightS (n : Nd) (i : Nat) : Nat := if n.leaf then (if 0 < (n.items.getD i ⟨[], 0, 0⟩).p then 1 + (n.keys.getD i []).length + 9 else 1 + (n.keys.getD i []).length + 1 + (n.items.getD i ⟨[], 0, 0⟩).v.length) else 1 + (n.keys.getD i []).length + 4
theorem entryB_length {n : Nd} {i : Nat} : (entryB n i).length = weightS n i := by
  simp only [entryB, weightS]
  cases n.leaf
  · simp [numS_length]; omega
  · simp only [if_true, List.length_append, itemB_length, numS_length]
    split <;> omega
theorem weightS_le {n : Nd} (hr : RightF n) {i : Nat} (hi : i < n.keys.length) : weightS n i ≤ 122 := by
  have h1 := hr.klen i hi
  have hk : n.keys.getD i [] = n.keys[i] := by simp [hi]
  simp only [weightS, hk]
  cases hl : n.leaf
  · simp; omega
  · obtain ⟨h2, h3, h4⟩ := hr.leaf hl
    have hi2 : i < n.items.length := by omega
    have hg : n.items.getD i ⟨[], 0, 0⟩ = n.items[i] := by simp [hi2]
    rw [hg]
    rcases itemS_cases (h4 _ (List.getElem_mem hi2)) with ⟨h5, _, h6⟩ | ⟨p, s, h5, _, h6, _⟩
    · simp [h5]; omega
    · have : (0 : Int) < n.items[i].p := by omega
      simp [this]; omega

theorem f35 (n : Nd) (x : AV) (hx : NdA n x) (hp nx) : Ret E 35 [x] hp nx (.v (.int .i64 (headB n).length)) hp nx .p := by
  obtain ⟨kA, iA, dA, rfl, hk, hi, hd⟩ := hx
  obtain ⟨kn, ksz, kc, rfl, hkz⟩ := hk
  obtain ⟨in', isz, ic, rfl, hiz⟩ := hi
  obtain ⟨dn, dsz, dc, rfl, hdz⟩ := hd
  refine Ret_pureQ e35 rfl (by simp) ?_ hp nx
  rw [headB_length]
  cases n.leaf <;> simp [c35]

theorem f36 (n : Nd) (x : AV) (hx : NdA n x) (hr : RightF n) (i : Nat) (hi : i < n.keys.length) (hp nx) : Ret E 36 [x, .v (.int .i64 i)] hp nx (.v (.int .i64 (weightS n i))) hp nx .p := by
  have hle := weightS_le hr hi
  have h1 := hr.klen i hi
  have hlt := hi
  obtain ⟨kA, iA, dA, rfl, hk, hi, hd⟩ := hx
  obtain ⟨kn, ksz, kc, rfl, hkz⟩ := hk
  obtain ⟨in', isz, ic, rfl, hiz⟩ := hi
  obtain ⟨dn, dsz, dc, rfl, hdz⟩ := hd
  refine Ret_pureQ e36 rfl (by simp) ?_ hp nx
  obtain ⟨leaf, keys, items, kids⟩ := n
  simp only at *
  have hget : keys[i]? = some keys[i] := List.getElem?_eq_getElem hlt
  have hgd : keys.getD i [] = keys[i] := by simp [hget]
  have hia : iaddrA 1 (.rs kn ksz (keys.map keyC) kc) (.v (.int .i64 i)) = some (.rp (keyC keys[i])) := iaddr_in hkz (by simp [hget]) rfl
  have hw1 : IntKind.wrap .i64 (1 + (keys[i].length : Int)) = (1 + keys[i].length : Nat) := by rw [wrap_id] <;> omega
  simp only [weightS, hgd] at hle ⊢
  cases leaf
  · have hw2 : IntKind.wrap .i64 ((1 + keys[i].length : Nat) + 4) = (1 + keys[i].length + 4 : Nat) := by rw [wrap_id] <;> omega
    simp [c36, -iaddrA_rs, hia, keyC, hw1, hw2, -Int.natCast_add]
  · obtain ⟨h2, h3, h4⟩ := hr.leaf rfl
    simp only at h2 h3 h4
    have hi2 : i < items.length := by omega
    have hg : items.getD i ⟨[], 0, 0⟩ = items[i] := by simp [hi2]
    have hib : iaddrA 3 (.rs in' isz (items.map Itm.cells) ic) (.v (.int .i64 i)) = some (.rp items[i].cells) := iaddr_in hiz (by simp [hi2]) rfl
    simp only [hg] at hle ⊢
    by_cases hp0 : 0 < items[i].p
    · have hw2 : IntKind.wrap .i64 ((1 + keys[i].length : Nat) + 9) = (1 + keys[i].length + 9 : Nat) := by rw [wrap_id] <;> omega
      simp [c36, -iaddrA_rs, hia, hib, keyC, Itm.cells, hp0, hw1, hw2, -Int.natCast_add]
    · simp [hp0] at hle
      have hw2 : IntKind.wrap .i64 ((1 + keys[i].length : Nat) + 1) = (1 + keys[i].length + 1 : Nat) := by rw [wrap_id] <;> omega
      have hw3 : IntKind.wrap .i64 ((1 + keys[i].length + 1 : Nat) + (items[i].v.length : Int)) = (1 + keys[i].length + 1 + items[i].v.length : Nat) := by rw [wrap_id] <;> omega
      simp [c36, -iaddrA_rs, hia, hib, keyC, Itm.cells, hp0, hw1, hw2, hw3, -Int.natCast_add]
end Go.Ai
