/- Plain laws of parts and joins. -/
import Derived.Test.YtbdmloamekpeoaaMg7
import Derived.Test.YtbdmloamekpeoaaMg1
/- Plain laws of parts and joins. -/
namespace Go.Ai
set_option linter.unusedVariables false
set_option linter.unusedSimpArgs false

theorem getD_cut {α : Type} (l : List α) (d : α) {a b i : Nat} (h : a + i < b) : ((l.take b).drop a).getD i d = l.getD (a + i) d := by
  simp only [List.getD, List.getElem?_drop, List.getElem?_take, if_pos h]
theorem badS_cut {ks : List (List UInt8)} {a b i : Nat} (h : a + i < b) (hb : badS ks (a + i) = false) : badS ((ks.take b).drop a) i = false := by
  simp only [badS, Bool.or_eq_false_iff] at hb ⊢
  rw [getD_cut ks [] h]
  refine ⟨hb.1, ?_⟩
  by_cases h0 : 0 < i
  · rw [getD_cut ks [] (show a + (i - 1) < b by omega)]
    have h1 : 0 < a + i := by omega
    have h2 := hb.2
    have e : a + i - 1 = a + (i - 1) := by omega
    simp only [h1, decide_true, Bool.true_and, e] at h2
    simp only [h2, Bool.and_false]
  · simp [h0]
theorem right_part {n : Nd} (hr : rightS n = true) {a b : Nat} (h1 : a ≤ b) (h2 : b ≤ n.keys.length) (h3 : n.leaf = false → a < b) : rightS (partS n a b) = true := by
  have hf := RightF.of hr
  simp only [rightS, Bool.and_eq_true] at hr ⊢
  constructor
  · refine keysS_true fun i hi => ?_
    simp only [partS, List.length_drop, List.length_take] at hi
    have := hr.1
    simp only [keysS, List.all_eq_true, List.mem_range] at this
    have := this (a + i) (by omega)
    exact badS_cut (by omega) (by simpa using this)
  · cases hl : n.leaf
    · obtain ⟨g1, g2, g3, g4⟩ := hf.inner hl
      have := h3 hl
      have e1 : ((n.keys.take b).drop a).length = b - a := by simp; omega
      have e2 : ((n.kids.take (b + 1)).drop a).length = b - a + 1 := by simp; omega
      simp only [bodyS, partS, hl, Bool.false_eq_true, if_false, e1, e2, Bool.and_eq_true, decide_eq_true_eq, List.all_eq_true, List.length_nil]
      exact ⟨⟨⟨by omega, trivial⟩, trivial⟩, fun x hx => g4 x (List.mem_of_mem_take (List.mem_of_mem_drop hx))⟩
    · obtain ⟨g1, g2, g3⟩ := hf.leaf hl
      have e1 : ((n.keys.take b).drop a).length = b - a := by simp; omega
      have e2 : ((n.items.take b).drop a).length = b - a := by simp; omega
      simp only [bodyS, partS, hl, if_true, e1, e2, Bool.and_eq_true, decide_eq_true_eq, List.all_eq_true, List.length_nil]
      exact ⟨⟨trivial, trivial⟩, fun x hx => g3 x (List.mem_of_mem_take (List.mem_of_mem_drop hx))⟩

theorem weight_part (n : Nd) {a b i : Nat} (h : a + i < b) : weightS (partS n a b) i = weightS n (a + i) := by
  obtain ⟨leaf, keys, items, kids⟩ := n
  simp only [weightS, partS]
  rw [getD_cut keys [] h]
  cases leaf
  · rfl
  · simp only [if_true]
    rw [getD_cut items _ h]
theorem sum_part (n : Nd) {a b : Nat} : ∀ k, a + k ≤ b → sumW n a + sumW (partS n a b) k = sumW n (a + k)
  | 0, _ => by simp [sumW]
  | k + 1, h => by
    have ih := sum_part n (a := a) (b := b) k (by omega)
    have e : a + (k + 1) = (a + k) + 1 := by omega
    rw [e]
    simp only [sumW]
    rw [weight_part n (by omega)]
    omega
theorem size_part {n : Nd} (hr : rightS n = true) {a b : Nat} (h1 : a ≤ b) (h2 : b ≤ n.keys.length) (h3 : n.leaf = false → a < b) : sizeS (partS n a b) + sumW n a = (headB n).length + sumW n b := by
  have hp := right_part hr h1 h2 h3
  have e := sum_part n (a := a) (b := b) (b - a) (by omega)
  have hl : (partS n a b).keys.length = b - a := by simp [partS]; omega
  have hh : (headB (partS n a b)).length = (headB n).length := by rw [headB_length, headB_length]; rfl
  simp only [sizeS, hp, if_true, contentS_length, hl, hh]
  rw [show a + (b - a) = b by omega] at e
  omega
theorem weight_le2 {n : Nd} (hr : RightF n) {i : Nat} (hi : i < n.keys.length) (hl : n.leaf = false) : weightS n i ≤ 65 := by
  have h1 := hr.klen i hi
  have hk : n.keys.getD i [] = n.keys[i] := by simp [hi]
  simp only [weightS, hk, hl]
  simp; omega

/-- One of two. -/
def joinN (a : Nd) (key : List UInt8) (b : Nd) : Nd := ⟨a.leaf, a.keys ++ (if a.leaf then [] else [key]) ++ b.keys, a.items ++ b.items, a.kids ++ b.kids⟩

theorem join_parts {n : Nd} (hr : rightS n = true) {i : Nat} (hi : i < n.keys.length) (h2 : i + upS n ≤ n.keys.length) : joinN (partS n 0 i) n.keys[i] (partS n (i + upS n - 1) n.keys.length) = n := by
  have hf := RightF.of hr
  obtain ⟨leaf, keys, items, kids⟩ := n
  simp only at hi h2 hf ⊢
  cases leaf
  · obtain ⟨g1, g2, g3, g4⟩ := hf.inner rfl
    simp only at g2 g3
    subst g3
    have e : i + upS ⟨false, keys, [], kids⟩ - 1 = i + 1 := by simp [upS]
    simp only [joinN, partS, e, Bool.false_eq_true, if_false, List.drop_zero, List.take_length]
    congr 1
    · have : keys.take i ++ [keys[i]] = keys.take (i + 1) := by rw [List.take_add_one, List.getElem?_eq_getElem hi]; rfl
      rw [this, List.take_append_drop]
    · rw [← g2, List.take_length, List.take_append_drop]
  · obtain ⟨g1, g2, g3⟩ := hf.leaf rfl
    simp only at g1 g2
    subst g2
    have e : i + upS ⟨true, keys, items, []⟩ - 1 = i := by simp [upS]
    simp only [joinN, partS, e, if_true, List.drop_zero, List.take_length, List.append_nil]
    congr 1
    · rw [List.take_append_drop]
    · rw [← g1, List.take_length, List.take_append_drop]

/-- Of a node that was too long each part takes a quarter of a page at least. -/
theorem quarters {n : Nd} (hr : rightS n = true) {i : Nat} (hc : CutAt n i) (hbig : 492 < sizeS n) : 123 ≤ sizeS (partS n 0 i) ∧ 123 ≤ sizeS (partS n (i + upS n - 1) n.keys.length) := by
  have hf := RightF.of hr
  have hall : sizeS n = (headB n).length + sumW n n.keys.length := by simp only [sizeS, hr, if_true, contentS_length]
  have hpos := hc.pos
  have hle := hc.le
  have hup1 : 1 ≤ upS n := by simp only [upS]; split <;> omega
  have s1 := size_part hr (a := 0) (b := i) (by omega) (by omega) (fun _ => by omega)
  have s2 := size_part hr (a := i + upS n - 1) (b := n.keys.length) (by omega) (by omega) (fun h => by simp only [upS, h] at hle ⊢; simp at hle ⊢; omega)
  have z0 : sumW n 0 = 0 := rfl
  -- the step ahead of the place
  have hprev : i = 1 ∨ (2 * ((headB n).length + sumW n (i - 1)) < sizeS n ∧ sumW n i = sumW n (i - 1) + weightS n (i - 1)) := by
    by_cases h1 : i = 1
    · exact .inl h1
    · refine .inr ⟨hc.low (i - 1) (by omega) (by omega), ?_⟩
      obtain ⟨j, rfl⟩ : ∃ j, i = j + 1 := ⟨i - 1, by omega⟩
      rfl
  have hw := fun j hj => weightS_le hf (i := j) hj
  have s11 : sumW n 1 = weightS n 0 := by simp [sumW]
  cases hl : n.leaf
  · have hu : upS n = 2 := by simp [upS, hl]
    have hh : (headB n).length = 6 := by rw [headB_length, hl]; rfl
    have hw2 := fun j hj => weight_le2 hf (i := j) hj hl
    rw [hu] at s2 hle
    have e2 : i + 2 - 1 = i + 1 := by omega
    rw [hu, e2]
    rw [e2] at s2
    have si : sumW n (i + 1) = sumW n i + weightS n i := rfl
    have wi := hw2 i (by omega)
    have w0 := hw2 0 (by omega)
    have wp := hw2 (i - 1) (by omega)
    rcases hc.top with ht | ht
    · rw [hu] at ht
      have hk : n.keys.length = i + 1 + 1 := by omega
      have sl : sumW n n.keys.length = sumW n (i + 1) + weightS n (i + 1) := by rw [hk]; rfl
      have wl := hw2 (i + 1) (by omega)
      rcases hprev with h1 | ⟨h1, h3⟩
      · subst h1; omega
      · omega
    · rcases hprev with h1 | ⟨h1, h3⟩
      · subst h1; omega
      · omega
  · have hu : upS n = 1 := by simp [upS, hl]
    have hh : (headB n).length = 2 := by rw [headB_length, hl]; rfl
    rw [hu] at s2 hle
    have e2 : i + 1 - 1 = i := by omega
    rw [hu, e2]
    rw [e2] at s2
    have w0 := hw 0 (by omega)
    have wp := hw (i - 1) (by omega)
    rcases hc.top with ht | ht
    · rw [hu] at ht
      have hk : n.keys.length = i + 1 := by omega
      have sl : sumW n n.keys.length = sumW n i + weightS n i := by rw [hk]; rfl
      have wl := hw i (by omega)
      rcases hprev with h1 | ⟨h1, h3⟩
      · subst h1; omega
      · omega
    · rcases hprev with h1 | ⟨h1, h3⟩
      · subst h1; omega
      · omega
end Go.Ai

/- Join, and NodeJoins, walked. -/
namespace Go.Ai
set_option linter.unusedVariables false
set_option linter.unusedSimpArgs false

/-- A clone that is still its maker's. -/
theorem f43e (ks : List (List UInt8)) (x : AV) (hx : SlA 1 (ks.map keyC) x) (hl : ks.length ≤ 1000000) (hp : Heap) (nx : Nat) :
    ∃ v hp' nx', Ret E 43 [x] hp nx v hp' nx' .e ∧ OwnS hp' nx' 1 (ks.map keyC) v ∧ nx ≤ nx' ∧ (∀ r, r < nx → hp' r = hp r) ∧ ∀ r ∈ slB v, nx ≤ r := by
  refine Ret_genE (P := fun v hp' nx' => OwnS hp' nx' 1 (ks.map keyC) v ∧ nx ≤ nx' ∧ (∀ r, r < nx → hp' r = hp r) ∧ ∀ r ∈ slB v, nx ≤ r) e43 (args := [x]) rfl (hp := hp) (nx := nx) ?_
  obtain ⟨nil, sz, cap, rfl, hz, hn⟩ := hx
  cases nil
  · by_cases he : ks = []
    · subst he
      have h1 : appendA 1 16 (.rs false 1 [] (some 0)) (.rs false sz (([] : List (List UInt8)).map keyC) cap) hp nx = some (.rs false 1 [] (some 0), hp, nx) := by
        rw [appendA_rs hz]; simp [appA]
      have h1' : appendA 1 16 (.rs false 1 [] (some 0)) (.rs false sz [] cap) hp nx = some (.rs false 1 [] (some 0), hp, nx) := h1
      simp [c43, h1', -appendA_rs]
      exact .inl ⟨false, 1, 0, rfl, .inr rfl, fun h => (by cases h), by simp⟩
    · have hl0 : ks.length ≠ 0 := by simpa using he
      have h1 : appendA 1 16 (.rs false 1 [] (some 0)) (.rs false sz (ks.map keyC) cap) hp nx = some (.sl nx 1 0 ks.length none, hupd hp nx (some (ks.map keyC)), nx + 1) := by
        rw [appendA_rs hz, if_pos (one_keys ks)]
        simp only [appA, List.length_map, List.length_nil, Nat.zero_add]
        rw [if_pos (.inr trivial), if_neg hl0, if_pos (by omega)]
        simp
      simp [c43, h1, -appendA_rs]
      refine ⟨.inr ⟨nx, by omega, by simp, by simp⟩, fun r hr => by simp [show ¬ r = nx by omega]⟩
  · have := hn rfl
    simp [c43, this]
    exact OwnS.nil

theorem OwnS.app0 {hp : Heap} {nx sz bytes : Nat} {es : Blk} {x : AV} (h : OwnS hp nx sz es x) {new : Blk} (hl : (es.length + new.length) * bytes ≤ 140737488355328) :
    ∃ v' hp' nx', appA sz bytes x new hp nx = some (v', hp', nx') ∧ OwnS hp' nx' sz (es ++ new) v' ∧ nx ≤ nx' ∧ (∀ q, q < nx → q ∉ slB x → hp' q = hp q) ∧ ∀ q ∈ slB v', q ∈ slB x ∨ nx ≤ q := by
  by_cases hne : new = []
  · subst hne
    rcases h with ⟨b, z, c, rfl, g1, g2, g3⟩ | ⟨r, h1, rfl, h2⟩
    · refine ⟨_, hp, nx, ?_, .inl ⟨b, z, c, by rw [List.append_nil], g1, by simpa using g2, by simpa using g3⟩, Nat.le_refl _, fun _ _ _ => rfl, by simp⟩
      simp only [appA, List.length_nil]
      rw [if_pos g1, if_pos trivial]
    · refine ⟨.sl r sz 0 (es ++ []).length none, hupd hp r (some (es ++ [])), nx, ?_, .inr ⟨r, h1, rfl, by simp⟩, Nat.le_refl _, fun q h3 h4 => by simp at h4; simp [h4], fun q hq => .inl (by simpa using hq)⟩
      simp only [appA, if_true, h2, Nat.zero_add, List.length_nil, Nat.add_zero]
      rw [if_neg (by omega), if_pos (Nat.le_refl _)]
      simp [spliceL]
  · obtain ⟨hp', h1, h2, h3, h4⟩ := h.app (bytes := bytes) hne hl
    exact ⟨_, hp', nx + 1, h1, h3, by omega, fun q h5 h6 => h4 q (by omega) h6, fun q hq => .inr (by simp at hq; omega)⟩
theorem mvE_app0 {K : AV → Heap → Nat → Kd → Prop} {hp : Heap} {nx sz bytes : Nat} {es : Blk} {x : AV} {new : Blk} (h : OwnS hp nx sz es x) (hl : (es.length + new.length) * bytes ≤ 140737488355328)
    (k : ∀ v' hp' nx', OwnS hp' nx' sz (es ++ new) v' → nx ≤ nx' → (∀ q, q < nx → q ∉ slB x → hp' q = hp q) → (∀ q ∈ slB v', q ∈ slB x ∨ nx ≤ q) → K v' hp' nx' .e) : mvE (appA sz bytes x new hp nx) K := by
  obtain ⟨v', hp', nx', h1, h2, h3, h4, h5⟩ := h.app0 (bytes := bytes) hl
  rw [h1]
  exact k v' hp' nx' h2 h3 h4 h5

theorem f23t (leaf : Bool) (bkn : Bool) (bkz : Nat) (bkc : Option Nat) (bkeys L : List (List UInt8)) (hbz : bkn = true ∨ bkz = 1) (xi xd zi zd v : AV) (w : Nat) (P : AV → Prop) (tm : Nat → AV) (hp : Heap) (nx : Nat)
    (hL : L.length + bkeys.length ≤ 1000000) (t7 : tm 7 = .ptr w 0 0) (t5 : tm 5 = .ptr 1 0 0) (t6 : tm 6 = .ptr 2 0 0) (h1 : hp 1 = some [[.v (.bool leaf), .rs bkn bkz (bkeys.map keyC) bkc, xi, xd]])
    (hw : hp w = some [[.v (.bool leaf), v, zi, zd]]) (h2 : hp 2 = some [[.v (.bool false), .rs true 0 [] (some 0), .rs true 0 [] (some 0), .rs true 0 [] (some 0)]]) (ho : OwnS hp nx 1 (L.map keyC) v)
    (hw3 : 3 ≤ w) (hwn : w < nx) (hv : ∀ q ∈ slB v, 3 ≤ q ∧ q ≠ w) (hzi : zi.closed = true ∧ zi.cells = [zi] ∧ zi.one = true) (hzd : zd.closed = true ∧ zd.cells = [zd] ∧ zd.one = true)
    (hP : ∀ kn kz kc, (kn = true ∨ kz = 1) → (kn = true → (L ++ bkeys).map keyC = []) → P (.agg [.v (.bool leaf), .rs kn kz ((L ++ bkeys).map keyC) kc, zi, zd])) :
    W (Ret E) c23_rrrr (pureEQ [.cell 6 (some 4)] P) ⟨tm, hp, nx⟩ := by
  have hne1 : ¬ 1 = w := by omega
  have hne2 : ¬ 2 = w := by omega
  have happ : ∀ hp nx, appendA 1 16 v (.rs bkn bkz (bkeys.map keyC) bkc) hp nx = appA 1 16 v (bkeys.map keyC) hp nx := fun hp nx => by rw [appendA_rs hbz, if_pos (one_keys bkeys)]
  simp [c23_rrrr, t7, t5, t6, hw, h1, happ, -appendA_rs]
  refine mvE_app0 (bytes := 16) (new := bkeys.map keyC) ho (by simp only [List.length_map]; omega) fun v2 hp2 nx2 o2 n2 k2 b2 => ?_
  have hw2 : hp2 w = hp w := k2 w hwn fun h => (hv w h).2 rfl
  have h22 : hp2 2 = hp 2 := k2 2 (by omega) fun h => by have := (hv 2 h).1; omega
  rw [hw] at hw2; rw [h2] at h22
  obtain ⟨o2c, o2o⟩ := o2.one
  have hv2 : ∀ q ∈ slB v2, 3 ≤ q ∧ q ≠ w := by
    intro q hq
    rcases b2 q hq with h | h
    · exact hv q h
    · omega
  have hw2n : w ∉ slB v2 := fun h => (hv2 w h).2 rfl
  have h2n : 2 ∉ slB v2 := fun h => by have := (hv2 2 h).1; omega
  simp [t7, t5, t6, hw2, h22, o2c, o2o, hzi, hzd, spliceL, hne2, Ne.symm hne2]
  obtain ⟨kn, kz, kc, hf, g1, g2⟩ := frz_own (k := 3) (hp := hupd (hupd hp2 w (some [[.v (.bool leaf), v2, zi, zd]])) 2 (some [[.v (.bool leaf), v2, zi, zd]])) (nx := nx2) (o2.keep (Nat.le_refl _) fun q hq => by
    have := hv2 q hq
    simp [show ¬ q = 2 by omega, this.2]) (by rw [← List.map_append]; exact closed_keys)
  rw [← List.map_append] at hf g2
  refine ⟨.agg [.v (.bool leaf), .rs kn kz ((L ++ bkeys).map keyC) kc, zi, zd], frz_agg ?_, hP kn kz kc g1 g2⟩
  simp [mapO_cons, hf, frz_closed, hzi, hzd]

set_option maxHeartbeats 1000000 in
theorem f23 (a b : Nd) (x y : AV) (hx : NdA a x) (hy : NdA b y) (hleaf : a.leaf = b.leaf) (key : List UInt8) (h1 : a.keys.length ≤ 100000) (h2 : a.items.length ≤ 100000) (h3 : a.kids.length ≤ 100001)
    (h1' : b.keys.length ≤ 100000) (h2' : b.items.length ≤ 100000) (h3' : b.kids.length ≤ 100001) :
    ∃ z, NdA (joinN a key b) z ∧ ∀ hp nx, Ret E 23 [x, .str key, y] hp nx z hp nx .p := by
  obtain ⟨aleaf, akeys, aitems, akids⟩ := a
  obtain ⟨bleaf, bkeys, bitems, bkids⟩ := b
  obtain ⟨kA, iA, dA, rfl, hkA, hiA, hdA⟩ := hx
  obtain ⟨kB, iB, dB, rfl, hkB, hiB, hdB⟩ := hy
  simp only at hkA hiA hdA hkB hiB hdB h1 h2 h3 h1' h2' h3' hleaf
  subst hleaf
  obtain ⟨zi, hzi, ri⟩ := f44 [aitems, bitems] [iA, iB] (some 2) ⟨rfl, fun i g g' => by
    match i, g with
    | 0, _ => exact hiA
    | 1, _ => exact hiB⟩ (by simp) (by simp [catL]; omega)
  obtain ⟨zd, hzd, rd⟩ := f45 [akids, bkids] [dA, dB] (some 2) ⟨rfl, fun i g g' => by
    match i, g with
    | 0, _ => exact hdA
    | 1, _ => exact hdB⟩ (by simp) (by simp [catL]; omega)
  have ei : catL [aitems, bitems] = aitems ++ bitems := by simp [catL]
  have ed : catL [akids, bkids] = akids ++ bkids := by simp [catL]
  rw [ei] at hzi; rw [ed] at hzd
  have c43 := f43e akeys kA hkA (by omega)
  obtain ⟨akn, akz, akc, rfl⟩ := hkA.shape
  obtain ⟨ain, aiz, aic, rfl⟩ := hiA.shape
  obtain ⟨adn, adz, adc, rfl⟩ := hdA.shape
  obtain ⟨bkn, bkz, bkc, rfl, hbz, hbn⟩ := hkB
  obtain ⟨bin, biz, bic, rfl⟩ := hiB.shape
  obtain ⟨bdn, bdz, bdc, rfl⟩ := hdB.shape
  have zi1 : zi.closed = true ∧ zi.cells = [zi] ∧ zi.one = true := by
    obtain ⟨zin, ziz, zic, rfl⟩ := hzi.shape
    exact ⟨closed_items, rfl, rfl⟩
  have zd1 : zd.closed = true ∧ zd.cells = [zd] ∧ zd.one = true := by
    obtain ⟨zin, ziz, zic, rfl⟩ := hzd.shape
    exact ⟨closed_kids, rfl, rfl⟩
  obtain ⟨zi1c, zi1s, zi1o⟩ := id zi1
  obtain ⟨zd1c, zd1s, zd1o⟩ := id zd1
  refine Ret_pureE e23 rfl (by simp) ?_
  obtain ⟨v, hp1, nx1, r1, o1, n1, k1, b1⟩ := c43 (hupd (hupd (hupd hnil 0 (some [[.v (.bool aleaf), .rs akn akz (akeys.map keyC) akc, .rs ain aiz (aitems.map Itm.cells) aic, .rs adn adz (akids.map kidC) adc]])) 1 (some [[.v (.bool aleaf), .rs bkn bkz (bkeys.map keyC) bkc, .rs bin biz (bitems.map Itm.cells) bic, .rs bdn bdz (bkids.map kidC) bdc]])) 2 (some [[.v (.bool false), .rs true 0 [] (some 0), .rs true 0 [] (some 0), .rs true 0 [] (some 0)]])) 3
  have p0 := k1 0 (by omega)
  have p1 := k1 1 (by omega)
  have p2 := k1 2 (by omega)
  simp at p0 p1 p2
  have hbeq : (aleaf == aleaf) = true := by simp
  obtain ⟨o1c, o1o⟩ := o1.one
  simp [c23]
  refine WCall_k r1 ?_
  simp [p0, p1, p2]
  refine WCall_p (ri _ _) ?_
  simp [p0, p1, p2]
  refine WCall_p (rd _ _) ?_
  have g0 : ¬ 0 = nx1 := by omega
  have g1 : ¬ 1 = nx1 := by omega
  have g2 : ¬ 2 = nx1 := by omega
  have hv1 : nx1 ∉ slB v := fun h => by have := o1.lt nx1 h; omega
  cases aleaf
  · simp [p0, p1, p2, o1c, o1o, zi1s, zi1o, zd1s, zd1o, spliceL, g0, g1, g2]
    have g1' : ¬ nx1 = 1 := by omega
    have g2' : ¬ nx1 = 2 := by omega
    generalize hH : hupd (hupd hp1 nx1 (some [[AV.v (Value.bool false), AV.rs true 0 [] (some 0), AV.rs true 0 [] (some 0), AV.rs true 0 [] (some 0)]])) nx1 (some [[AV.v (Value.bool false), v, zi, zd]]) = H2
    have hHn : H2 nx1 = some [[AV.v (Value.bool false), v, zi, zd]] := by rw [← hH]; simp
    have hHo : ∀ q, q ≠ nx1 → H2 q = hp1 q := fun q hq => by rw [← hH]; simp [hq]
    have o2 : OwnS H2 (nx1 + 1) 1 (akeys.map keyC) v := o1.keep (by omega) fun q hq => hHo q fun e => hv1 (e ▸ hq)
    refine mvE_app0 (bytes := 16) (new := [[AV.str key]]) o2 (by simp only [List.length_map, List.length_cons, List.length_nil]; omega) fun v2 hp2 nx2 o3 n3 k3 b3 => ?_
    obtain ⟨o3c, o3o⟩ := o3.one
    have w1 : hp2 nx1 = H2 nx1 := k3 nx1 (by omega) hv1
    have w2 : hp2 1 = H2 1 := k3 1 (by omega) fun h => by have := b1 1 h; omega
    have w3 : hp2 2 = H2 2 := k3 2 (by omega) fun h => by have := b1 2 h; omega
    rw [hHn] at w1
    rw [hHo 1 (Ne.symm g1'), p1] at w2
    rw [hHo 2 (Ne.symm g2'), p2] at w3
    have hb3 : ∀ q ∈ slB v2, 3 ≤ q ∧ q ≠ nx1 := by
      intro q hq
      rcases b3 q hq with h | h
      · exact ⟨b1 q h, fun e => hv1 (e ▸ h)⟩
      · omega
    have o3' : OwnS (hupd hp2 nx1 (some [[AV.v (Value.bool false), v2, zi, zd]])) nx2 1 ((akeys ++ [key]).map keyC) v2 := by
      have := o3.keep (hp' := hupd hp2 nx1 (some [[AV.v (Value.bool false), v2, zi, zd]])) (Nat.le_refl _) fun q hq => by simp [(hb3 q hq).2]
      simpa [keyC] using this
    simp [p0, p1, p2, o3c, o3o, zi1s, zi1o, zd1s, zd1o, spliceL, g0, g1, g2, w1, w2, w3]
    refine f23t false bkn bkz bkc bkeys (akeys ++ [key]) hbz _ _ zi zd v2 nx1 _ _ _ _ (by simp only [List.length_append, List.length_cons, List.length_nil]; omega) (by simp) (by simp) (by simp) (by simp [g1, w2]; exact ⟨rfl, rfl⟩) (by simp) (by simp [g2, w3]) (by simpa using o3') n1 (by omega) hb3 zi1 zd1 fun kn kz kc q1 q2 => ?_
    refine ⟨_, _, _, rfl, ⟨kn, kz, kc, ?_, q1, ?_⟩, hzi, hzd⟩
    · simp [joinN]
    · simpa [joinN] using q2
  · simp [p0, p1, p2, o1c, o1o, zi1s, zi1o, zd1s, zd1o, spliceL, g0, g1, g2]
    refine f23t true bkn bkz bkc bkeys akeys hbz _ _ zi zd v nx1 _ _ _ _ (by omega) (by simp) (by simp) (by simp) (by simp [g1, p1]; exact ⟨rfl, rfl⟩) (by simp) (by simp [g2, p2]) (o1.keep (by omega) fun q hq => by simp [show ¬ q = nx1 from fun e => hv1 (e ▸ hq)]) n1 (by omega) (fun q hq => ⟨b1 q hq, fun e => hv1 (e ▸ hq)⟩) zi1 zd1 fun kn kz kc q1 q2 => ?_
    refine ⟨_, _, _, rfl, ⟨kn, kz, kc, ?_, q1, ?_⟩, hzi, hzd⟩
    · simp [joinN]
    · simpa [joinN] using q2
end Go.Ai

/- slices.Insert and slices.Delete of a slice of one's own; clones of one's own. -/
namespace Go.Ai
set_option linter.unusedVariables false
set_option linter.unusedSimpArgs false

/-- A slice of one's own: none, or all of a block. -/
def OwnI (hp : Heap) (nx sz : Nat) (es : Blk) (x : AV) : Prop :=
  (es = [] ∧ ∃ b z, x = .rs b z [] (some 0) ∧ (b = true ∨ z = sz)) ∨ ∃ r, r < nx ∧ x = .sl r sz 0 es.length none ∧ hp r = some es
theorem OwnI.own {hp nx sz es x} (h : OwnI hp nx sz es x) : OwnS hp nx sz es x := by
  rcases h with ⟨rfl, b, z, rfl, h⟩ | h
  · exact .inl ⟨b, z, 0, rfl, h, fun _ => rfl, by simp⟩
  · exact .inr h
theorem OwnI.keep {hp hp' : Heap} {nx nx' sz : Nat} {es : Blk} {x : AV} (h : OwnI hp nx sz es x) (hn : nx ≤ nx') (hk : ∀ r ∈ slB x, hp' r = hp r) : OwnI hp' nx' sz es x := by
  rcases h with h | ⟨r, h1, rfl, h2⟩
  · exact .inl h
  · exact .inr ⟨r, by omega, rfl, by rw [hk r (by simp), h2]⟩

/-- What a call made of a slice of one's own. -/
def NewI (hp : Heap) (nx sz : Nat) (x : AV) (es' : Blk) (v : AV) (hp' : Heap) (nx' : Nat) : Prop :=
  OwnI hp' nx' sz es' v ∧ nx ≤ nx' ∧ (∀ y, y < nx → y ∉ slB x → hp' y = hp y) ∧ ∀ y ∈ slB v, nx ≤ y

theorem lift52 {f : Nat} (hf : liftF f = true) {sz r nx : Nat} {es es' : Blk} {rest : List AV} {hp : Heap} (h : hp r = some es) (hr : r < nx)
    (key : ∀ spare : Blk, Plain sz spare → ∃ v hp2 nx2, Ret E0 f (.sl r sz 0 es.length (some (es.length + spare.length)) :: rest) (hupd hp r (some (es ++ spare))) nx v hp2 nx2 .e ∧ LifP sz (es.length + spare.length) es' r nx hp v hp2 nx2) :
    ∃ v hp' nx', Ret E f (.sl r sz 0 es.length none :: rest) hp nx v hp' nx' .e ∧ NewI hp nx sz (.sl r sz 0 es.length none) es' v hp' nx' := by
  refine ⟨.sl nx sz 0 es'.length none, hupd (hupd hp r none) nx (some es'), nx + 1, Ret_prim ⟨hf, rfl, rfl, r, sz, es, es', rest, rfl, h, rfl, rfl, fun spare hs => ?_⟩, .inr ⟨nx, by omega, rfl, by simp⟩, by omega, fun y h1 h2 => ?_, by simp⟩
  · obtain ⟨v, hp2, nx2, h1, q2, c2, rfl, h3, h4, h5⟩ := key spare hs
    exact ⟨hp2, nx2, .e, q2, c2, h1, h3, h4, h5⟩
  · simp at h2
    simp [show ¬ y = nx by omega, h2]

theorem f52 (es : Blk) (x : AV) (i q nx : Nat) (t : TypeId) (row : List AV) (hp : Heap) (hO : OwnI hp nx 1 es x) (hi : i ≤ es.length) (hl : es.length ≤ 1000000) (hone : es.all (fun l => l.all AV.one) = true) (hrow : row.all AV.one = true)
    (hq : q + 1 < nx) (h1 : hp q = some [row]) (h2 : hp (q + 1) = some [[.ty t 0], []]) (hqx : q ∉ slB x) (hqx1 : q + 1 ∉ slB x) :
    ∃ v hp' nx', Ret E 52 [x, .v (.int .i64 i), .sl q 1 0 1 (some 1)] hp nx v hp' nx' .e ∧ NewI hp nx 1 x (insB es i row) v hp' nx' := by
  rcases hO with ⟨rfl, b, z, rfl, hz⟩ | ⟨r, hr, rfl, h⟩
  · have hi0 : i = 0 := by simpa using hi
    subst hi0
    have hk : elemsA hp 1 (.sl q 1 0 1 (some 1)) = some [row] := by simp [elemsA, h1]
    have ha : appA 1 16 (.rs b z [] (some 0)) [row] hp nx = some (.sl nx 1 0 1 none, hupd hp nx (some [row]), nx + 1) := by
      simp only [appA]; rw [if_pos hz, if_neg (by simp), if_pos (by simp)]; simp
    refine Ret_genE e52 rfl ?_
    simp only [c52]
    simp [sliceA, boundsA, idxOf, hz, capCut, appendA, hk, hrow, ha]
    exact ⟨.inr ⟨nx, by omega, rfl, by simp [insB]⟩, by omega, fun y h3 h4 => by simp [show ¬ y = nx by omega], by simp⟩
  · simp at hqx hqx1
    exact lift52 rfl h hr fun spare hs => ins52 r q i nx t es spare row hp hi hl hone hrow hr hq hqx hqx1 h1 h2 hs
theorem f53 (es : Blk) (x : AV) (i q nx : Nat) (t : TypeId) (row : List AV) (hp : Heap) (hO : OwnI hp nx 3 es x) (hi : i ≤ es.length) (hl : es.length ≤ 1000000) (hone : es.all (fun l => l.all AV.one) = true) (hrow : row.all AV.one = true)
    (hq : q + 1 < nx) (h1 : hp q = some [row]) (h2 : hp (q + 1) = some [[.ty t 0], []]) (hqx : q ∉ slB x) (hqx1 : q + 1 ∉ slB x) :
    ∃ v hp' nx', Ret E 53 [x, .v (.int .i64 i), .sl q 3 0 1 (some 1)] hp nx v hp' nx' .e ∧ NewI hp nx 3 x (insB es i row) v hp' nx' := by
  rcases hO with ⟨rfl, b, z, rfl, hz⟩ | ⟨r, hr, rfl, h⟩
  · have hi0 : i = 0 := by simpa using hi
    subst hi0
    have hk : elemsA hp 3 (.sl q 3 0 1 (some 1)) = some [row] := by simp [elemsA, h1]
    have ha : appA 3 32 (.rs b z [] (some 0)) [row] hp nx = some (.sl nx 3 0 1 none, hupd hp nx (some [row]), nx + 1) := by
      simp only [appA]; rw [if_pos hz, if_neg (by simp), if_pos (by simp)]; simp
    refine Ret_genE e53 rfl ?_
    simp only [c53]
    simp [sliceA, boundsA, idxOf, hz, capCut, appendA, hk, hrow, ha]
    exact ⟨.inr ⟨nx, by omega, rfl, by simp [insB]⟩, by omega, fun y h3 h4 => by simp [show ¬ y = nx by omega], by simp⟩
  · simp at hqx hqx1
    exact lift52 rfl h hr fun spare hs => ins53 r q i nx t es spare row hp hi hl hone hrow hr hq hqx hqx1 h1 h2 hs
theorem f54 (es : Blk) (x : AV) (i nx : Nat) (hp : Heap) (hO : OwnI hp nx 1 es x) (hi : i < es.length) (hl : es.length ≤ 1000000) (hone : es.all (fun l => l.all AV.one) = true) :
    ∃ v hp' nx', Ret E 54 [x, .v (.int .i64 i), .v (.int .i64 ((i + 1 : Nat) : Int))] hp nx v hp' nx' .e ∧ NewI hp nx 1 x (delB es i) v hp' nx' := by
  rcases hO with ⟨rfl, _⟩ | ⟨r, hr, rfl, h⟩
  · simp at hi
  · exact lift52 rfl h hr fun spare hs => del54 r i nx es spare hp hi hl hone hr
theorem f55 (es : Blk) (x : AV) (i nx : Nat) (hp : Heap) (hO : OwnI hp nx 3 es x) (hi : i < es.length) (hl : es.length ≤ 1000000) (hone : es.all (fun l => l.all AV.one) = true) :
    ∃ v hp' nx', Ret E 55 [x, .v (.int .i64 i), .v (.int .i64 ((i + 1 : Nat) : Int))] hp nx v hp' nx' .e ∧ NewI hp nx 3 x (delB es i) v hp' nx' := by
  rcases hO with ⟨rfl, _⟩ | ⟨r, hr, rfl, h⟩
  · simp at hi
  · exact lift52 rfl h hr fun spare hs => del55 r i nx es spare hp hi hl hone hr

theorem f43i (es : Blk) (x : AV) (hx : SlA 1 es x) (hone : es.all (fun l => l.all AV.one) = true) (hl : es.length ≤ 1000000) (hp : Heap) (nx : Nat) :
    ∃ v hp' nx', Ret E 43 [x] hp nx v hp' nx' .e ∧ NewI hp nx 1 (.v undef) es v hp' nx' := by
  refine Ret_genE (P := NewI hp nx 1 (.v undef) es) e43 (args := [x]) rfl (hp := hp) (nx := nx) ?_
  obtain ⟨nil, sz, cap, rfl, hz, hn⟩ := hx
  cases nil
  · by_cases he : es = []
    · subst he
      have h1' : appendA 1 16 (.rs false 1 [] (some 0)) (.rs false sz [] cap) hp nx = some (.rs false 1 [] (some 0), hp, nx) := by
        rw [appendA_rs hz]; simp [appA]
      simp [c43, h1', -appendA_rs]
      exact ⟨.inl ⟨rfl, false, 1, rfl, .inr rfl⟩, by omega, fun y _ _ => rfl, by simp⟩
    · have hl0 : es.length ≠ 0 := by simpa using he
      have h1 : appendA 1 16 (.rs false 1 [] (some 0)) (.rs false sz es cap) hp nx = some (.sl nx 1 0 es.length none, hupd hp nx (some es), nx + 1) := by
        rw [appendA_rs hz, if_pos hone]
        simp only [appA, List.length_nil, Nat.zero_add]
        rw [if_pos (.inr trivial), if_neg hl0, if_pos (by omega)]
        simp
      simp [c43, h1, -appendA_rs]
      exact ⟨.inr ⟨nx, by omega, by simp, by simp⟩, by omega, fun r hr _ => by simp [show ¬ r = nx by omega], by simp⟩
  · have := hn rfl
    subst this
    simp [c43]
    exact ⟨.inl ⟨rfl, true, 0, rfl, .inl rfl⟩, by omega, fun y _ _ => rfl, by simp⟩
theorem f61i (es : Blk) (x : AV) (hx : SlA 3 es x) (hone : es.all (fun l => l.all AV.one) = true) (hl : es.length ≤ 1000000) (hp : Heap) (nx : Nat) :
    ∃ v hp' nx', Ret E 61 [x] hp nx v hp' nx' .e ∧ NewI hp nx 3 (.v undef) es v hp' nx' := by
  refine Ret_genE (P := NewI hp nx 3 (.v undef) es) e61 (args := [x]) rfl (hp := hp) (nx := nx) ?_
  obtain ⟨nil, sz, cap, rfl, hz, hn⟩ := hx
  cases nil
  · by_cases he : es = []
    · subst he
      have h1' : appendA 3 32 (.rs false 3 [] (some 0)) (.rs false sz [] cap) hp nx = some (.rs false 3 [] (some 0), hp, nx) := by
        rw [appendA_rs hz]; simp [appA]
      simp [c61, h1', -appendA_rs]
      exact ⟨.inl ⟨rfl, false, 3, rfl, .inr rfl⟩, by omega, fun y _ _ => rfl, by simp⟩
    · have hl0 : es.length ≠ 0 := by simpa using he
      have h1 : appendA 3 32 (.rs false 3 [] (some 0)) (.rs false sz es cap) hp nx = some (.sl nx 3 0 es.length none, hupd hp nx (some es), nx + 1) := by
        rw [appendA_rs hz, if_pos hone]
        simp only [appA, List.length_nil, Nat.zero_add]
        rw [if_pos (.inr trivial), if_neg hl0, if_pos (by omega)]
        simp
      simp [c61, h1, -appendA_rs]
      exact ⟨.inr ⟨nx, by omega, by simp, by simp⟩, by omega, fun r hr _ => by simp [show ¬ r = nx by omega], by simp⟩
  · have := hn rfl
    subst this
    simp [c61]
    exact ⟨.inl ⟨rfl, true, 0, rfl, .inl rfl⟩, by omega, fun y _ _ => rfl, by simp⟩
end Go.Ai

/- A node's parts, still their maker's. -/
namespace Go.Ai
set_option linter.unusedVariables false
set_option linter.unusedSimpArgs false

theorem one_keyC (l : List (List UInt8)) : (l.map keyC).all (fun c => c.all AV.one) = true := by
  rw [List.all_map, List.all_eq_true]; intro x _; rfl
theorem one_itmC (l : List Itm) : (l.map Itm.cells).all (fun c => c.all AV.one) = true := by
  rw [List.all_map, List.all_eq_true]; intro x _; rfl

theorem f42o (n : Nd) (x : AV) (hx : NdA n x) (hleaf : n.leaf = true) (hl : n.keys.length ≤ 100000) (hi : n.items.length = n.keys.length) (hp : Heap) (nx : Nat) :
    ∃ v hp' nx', Ret E 42 [x, .v (.int .i64 0), .v (.int .i64 n.keys.length)] hp nx v hp' nx' .e ∧ ∃ xk xi, v = .agg [.v (.bool true), xk, xi, .rs true 0 [] (some 0)] ∧ OwnI hp' nx' 1 (n.keys.map keyC) xk ∧ OwnI hp' nx' 3 (n.items.map Itm.cells) xi ∧
      nx ≤ nx' ∧ (∀ y, y < nx → hp' y = hp y) ∧ (∀ y ∈ slB xk, nx ≤ y) ∧ ∀ y ∈ slB xi, nx ≤ y ∧ y ∉ slB xk := by
  obtain ⟨leaf, keys, items, kids⟩ := n
  obtain ⟨kA, iA, dA, rfl, hk, hit, hd⟩ := hx
  simp only at hk hit hd hleaf hl hi
  subst hleaf
  obtain ⟨k1, k2, k3⟩ := slice_in (k := .i64) (k' := .i64) (a := 0) (b := keys.length) hk (by omega) (by simp)
  obtain ⟨i1, i2, i3⟩ := slice_in (k := .i64) (k' := .i64) (a := 0) (b := keys.length) hit (by omega) (by simp; omega)
  have k2' : SlA 1 (keys.map keyC) k1 := by
    have : ((keys.map keyC).take keys.length).drop 0 = keys.map keyC := by rw [List.drop_zero, List.take_of_length_le (by simp)]
    rw [this] at k2; exact k2
  have i2' : SlA 3 (items.map Itm.cells) i1 := by
    have : ((items.map Itm.cells).take keys.length).drop 0 = items.map Itm.cells := by rw [List.drop_zero, List.take_of_length_le (by simp; omega)]
    rw [this] at i2; exact i2
  obtain ⟨kn, ksz, kc, rfl⟩ := hk.shape
  obtain ⟨in', isz, ic, rfl⟩ := hit.shape
  obtain ⟨dn, dsz, dc, rfl⟩ := hd.shape
  have k3' : sliceA 1 (.rs kn ksz (keys.map keyC) kc) (some (.v (.int .i64 0))) (some (.v (.int .i64 keys.length))) none = some k1 := k3
  have i3' : sliceA 3 (.rs in' isz (items.map Itm.cells) ic) (some (.v (.int .i64 0))) (some (.v (.int .i64 keys.length))) none = some i1 := i3
  let h0 : Heap := hupd (hupd hp nx (some [[.v (.bool true), .rs kn ksz (keys.map keyC) kc, .rs in' isz (items.map Itm.cells) ic, .rs dn dsz (kids.map kidC) dc]])) (nx + 1) (some [[.v (.bool false), .rs true 0 [] (some 0), .rs true 0 [] (some 0), .rs true 0 [] (some 0)]])
  obtain ⟨v1, hp1, nx1, c1, o1, g1, g2, g3⟩ := f43i _ _ k2' (one_keyC keys) (by simp; omega) h0 (nx + 1 + 1)
  have f1 : ∀ y, y < nx + 1 + 1 → hp1 y = h0 y := fun y h => g2 y h (by simp [slB])
  have e0 : hp1 nx = some [[.v (.bool true), .rs kn ksz (keys.map keyC) kc, .rs in' isz (items.map Itm.cells) ic, .rs dn dsz (kids.map kidC) dc]] := by rw [f1 nx (by omega)]; simp [h0]
  have e1 : hp1 (nx + 1) = some [[.v (.bool false), .rs true 0 [] (some 0), .rs true 0 [] (some 0), .rs true 0 [] (some 0)]] := by rw [f1 (nx + 1) (by omega)]; simp [h0]
  have hone1 := o1.own.one
  have hlt1 := o1.own.lt
  have n1 : ¬ nx = nx1 := by omega
  have n2 : ¬ nx + 1 = nx1 := by omega
  let hA : Heap := hupd (hupd hp1 nx1 (some [[.v (.bool false), .rs true 0 [] (some 0), .rs true 0 [] (some 0), .rs true 0 [] (some 0)]])) nx1 (some [[.v (.bool true), v1, .rs true 0 [] (some 0), .rs true 0 [] (some 0)]])
  obtain ⟨v2, hp2, nx2, c2, o2, m1, m2, m3⟩ := f61i _ _ i2' (one_itmC items) (by simp; omega) hA (nx1 + 1)
  have f2 : ∀ y, y < nx1 + 1 → hp2 y = hA y := fun y h => m2 y h (by simp [slB])
  have e2 : hp2 nx1 = some [[.v (.bool true), v1, .rs true 0 [] (some 0), .rs true 0 [] (some 0)]] := by rw [f2 nx1 (by omega)]; simp [hA]
  have e3 : hp2 (nx + 1) = some [[.v (.bool false), .rs true 0 [] (some 0), .rs true 0 [] (some 0), .rs true 0 [] (some 0)]] := by rw [f2 _ (by omega)]; simp [hA, n2, e1]
  have hone2 := o2.own.one
  have hlt2 := o2.own.lt
  refine Ret_genE e42 rfl ?_
  simp [c42, k3']
  refine WCall_k c1 ?_
  simp [hone1.1, hone1.2, spliceL, e0, h0, n1]
  rw [i3']
  simp
  refine WCall_k c2 ?_
  simp [hone1.1, hone1.2, hone2.1, hone2.2, spliceL, e2, e3, n2]
  refine ⟨v1, v2, ⟨rfl, rfl⟩, o1.keep (by omega) fun r hr => ?_, o2.keep (Nat.le_refl _) fun r hr => ?_, by omega, fun y hy => ?_, fun y hy => ?_, fun y hy => ?_⟩
  · have a1 := g3 r hr
    have a2 := hlt1 r hr
    simp [show ¬ r = nx1 by omega, show ¬ r = nx + 1 by omega]
    rw [f2 r (by omega)]; simp [hA, show ¬ r = nx1 by omega]
  · have a1 := m3 r hr
    simp [show ¬ r = nx1 by omega, show ¬ r = nx + 1 by omega]
  · simp [show ¬ y = nx1 by omega, show ¬ y = nx + 1 by omega]
    rw [f2 y (by omega)]; simp [hA, show ¬ y = nx1 by omega]
    rw [f1 y (by omega)]; simp [h0, show ¬ y = nx by omega, show ¬ y = nx + 1 by omega]
  · have := g3 y hy; omega
  · have a1 := m3 y hy
    exact ⟨by omega, fun h => by have := hlt1 y h; omega⟩
end Go.Ai

