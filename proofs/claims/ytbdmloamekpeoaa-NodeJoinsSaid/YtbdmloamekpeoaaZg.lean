/- Join, and NodeJoins, walked. -/
import Derived.Test.YtbdmloamekpeoaaZf
namespace Go.Ai
set_option linter.unusedVariables false
set_option linter.unusedSimpArgs false

/-- A clone that is still its maker's. -/
theorem f43e (ks : List (List UInt8)) (x : AV) (hx : SlA 1 (ks.map keyC) x) (hl : ks.length ≤ 1000000) (hp : Heap) (nx : Nat) :
    ∃ v hp' nx', Ret E 43 [x] hp nx v hp' nx' .e ∧ OwnS hp' nx' 1 (ks.map keyC) v ∧ nx ≤ nx' ∧ (∀ r, r < nx → hp' r = hp r) ∧ ∀ r ∈ slB v, nx ≤ r := by
  refine Ret_genE (P := fun v hp' nx' => OwnS hp' nx' 1 (ks.map keyC) v ∧ nx ≤ nx' ∧ (∀ r, r < nx → hp' r = hp r) ∧ ∀ r ∈ slB v, nx ≤ r) e43 (args := [x]) rfl (hp := hp) (nx := nx) ?_
  obtain ⟨nil, sz, cap, rfl, hz, hn⟩ := hx
  cases nil
  · by_cases he : ks = []
    · subst he
      have h1 : appendA 1 16 (.rs false 1 [] (some 0)) (.rs false sz (([] : List (List UInt8)).map keyC) cap) hp nx = some (.rs false 1 [] (some 0), hp, nx) := by
        rw [appendA_rs hz]; simp [appA]
      have h1' : appendA 1 16 (.rs false 1 [] (some 0)) (.rs false sz [] cap) hp nx = some (.rs false 1 [] (some 0), hp, nx) := h1
      simp [c43, h1', -appendA_rs]
      exact .inl ⟨false, 1, 0, rfl, .inr rfl, fun h => (by cases h), by simp⟩
    · have hl0 : ks.length ≠ 0 := by simpa using he
      have h1 : appendA 1 16 (.rs false 1 [] (some 0)) (.rs false sz (ks.map keyC) cap) hp nx = some (.sl nx 1 0 ks.length none, hupd hp nx (some (ks.map keyC)), nx + 1) := by
        rw [appendA_rs hz, if_pos (one_keys ks)]
        simp only [appA, List.length_map, List.length_nil, Nat.zero_add]
        rw [if_pos (.inr trivial), if_neg hl0, if_pos (by omega)]
        simp
      simp [c43, h1, -appendA_rs]
      refine ⟨.inr ⟨nx, by omega, by simp, by simp⟩, fun r hr => by simp [show ¬ r = nx by omega]⟩
  · have := hn rfl
    simp [c43, this]
    exact OwnS.nil

theorem OwnS.app0 {hp : Heap} {nx sz bytes : Nat} {es : Blk} {x : AV} (h : OwnS hp nx sz es x) {new : Blk} (hl : (es.length + new.length) * bytes ≤ 140737488355328) :
    ∃ v' hp' nx', appA sz bytes x new hp nx = some (v', hp', nx') ∧ OwnS hp' nx' sz (es ++ new) v' ∧ nx ≤ nx' ∧ (∀ q, q < nx → q ∉ slB x → hp' q = hp q) ∧ ∀ q ∈ slB v', q ∈ slB x ∨ nx ≤ q := by
  by_cases hne : new = []
  · subst hne
    rcases h with ⟨b, z, c, rfl, g1, g2, g3⟩ | ⟨r, h1, rfl, h2⟩
    · refine ⟨_, hp, nx, ?_, .inl ⟨b, z, c, by rw [List.append_nil], g1, by simpa using g2, by simpa using g3⟩, Nat.le_refl _, fun _ _ _ => rfl, by simp⟩
      simp only [appA, List.length_nil]
      rw [if_pos g1, if_pos trivial]
    · refine ⟨.sl r sz 0 (es ++ []).length none, hupd hp r (some (es ++ [])), nx, ?_, .inr ⟨r, h1, rfl, by simp⟩, Nat.le_refl _, fun q h3 h4 => by simp at h4; simp [h4], fun q hq => .inl (by simpa using hq)⟩
      simp only [appA, if_true, h2, Nat.zero_add, List.length_nil, Nat.add_zero]
      rw [if_neg (by omega), if_pos (Nat.le_refl _)]
      simp [spliceL]
  · obtain ⟨hp', h1, h2, h3, h4⟩ := h.app (bytes := bytes) hne hl
    exact ⟨_, hp', nx + 1, h1, h3, by omega, fun q h5 h6 => h4 q (by omega) h6, fun q hq => .inr (by simp at hq; omega)⟩
theorem mvE_app0 {K : AV → Heap → Nat → Kd → Prop} {hp : Heap} {nx sz bytes : Nat} {es : Blk} {x : AV} {new : Blk} (h : OwnS hp nx sz es x) (hl : (es.length + new.length) * bytes ≤ 140737488355328)
    (k : ∀ v' hp' nx', OwnS hp' nx' sz (es ++ new) v' → nx ≤ nx' → (∀ q, q < nx → q ∉ slB x → hp' q = hp q) → (∀ q ∈ slB v', q ∈ slB x ∨ nx ≤ q) → K v' hp' nx' .e) : mvE (appA sz bytes x new hp nx) K := by
  obtain ⟨v', hp', nx', h1, h2, h3, h4, h5⟩ := h.app0 (bytes := bytes) hl
  rw [h1]
  exact k v' hp' nx' h2 h3 h4 h5

theorem f23t (leaf : Bool) (bkn : Bool) (bkz : Nat) (bkc : Option Nat) (bkeys L : List (List UInt8)) (hbz : bkn = true ∨ bkz = 1) (xi xd zi zd v : AV) (w : Nat) (P : AV → Prop) (tm : Nat → AV) (hp : Heap) (nx : Nat)
    (hL : L.length + bkeys.length ≤ 1000000) (t7 : tm 7 = .ptr w 0 0) (t5 : tm 5 = .ptr 1 0 0) (t6 : tm 6 = .ptr 2 0 0) (h1 : hp 1 = some [[.v (.bool leaf), .rs bkn bkz (bkeys.map keyC) bkc, xi, xd]])
    (hw : hp w = some [[.v (.bool leaf), v, zi, zd]]) (h2 : hp 2 = some [[.v (.bool false), .rs true 0 [] (some 0), .rs true 0 [] (some 0), .rs true 0 [] (some 0)]]) (ho : OwnS hp nx 1 (L.map keyC) v)
    (hw3 : 3 ≤ w) (hwn : w < nx) (hv : ∀ q ∈ slB v, 3 ≤ q ∧ q ≠ w) (hzi : zi.closed = true ∧ zi.cells = [zi] ∧ zi.one = true) (hzd : zd.closed = true ∧ zd.cells = [zd] ∧ zd.one = true)
    (hP : ∀ kn kz kc, (kn = true ∨ kz = 1) → (kn = true → (L ++ bkeys).map keyC = []) → P (.agg [.v (.bool leaf), .rs kn kz ((L ++ bkeys).map keyC) kc, zi, zd])) :
    W (Ret E) c23_rrrr (pureEQ [.cell 6 (some 4)] P) ⟨tm, hp, nx⟩ := by
  have hne1 : ¬ 1 = w := by omega
  have hne2 : ¬ 2 = w := by omega
  have happ : ∀ hp nx, appendA 1 16 v (.rs bkn bkz (bkeys.map keyC) bkc) hp nx = appA 1 16 v (bkeys.map keyC) hp nx := fun hp nx => by rw [appendA_rs hbz, if_pos (one_keys bkeys)]
  simp [c23_rrrr, t7, t5, t6, hw, h1, happ, -appendA_rs]
  refine mvE_app0 (bytes := 16) (new := bkeys.map keyC) ho (by simp only [List.length_map]; omega) fun v2 hp2 nx2 o2 n2 k2 b2 => ?_
  have hw2 : hp2 w = hp w := k2 w hwn fun h => (hv w h).2 rfl
  have h22 : hp2 2 = hp 2 := k2 2 (by omega) fun h => by have := (hv 2 h).1; omega
  rw [hw] at hw2; rw [h2] at h22
  obtain ⟨o2c, o2o⟩ := o2.one
  have hv2 : ∀ q ∈ slB v2, 3 ≤ q ∧ q ≠ w := by
    intro q hq
    rcases b2 q hq with h | h
    · exact hv q h
    · omega
  have hw2n : w ∉ slB v2 := fun h => (hv2 w h).2 rfl
  have h2n : 2 ∉ slB v2 := fun h => by have := (hv2 2 h).1; omega
  simp [t7, t5, t6, hw2, h22, o2c, o2o, hzi, hzd, spliceL, hne2, Ne.symm hne2]
  obtain ⟨kn, kz, kc, hf, g1, g2⟩ := frz_own (k := 3) (hp := hupd (hupd hp2 w (some [[.v (.bool leaf), v2, zi, zd]])) 2 (some [[.v (.bool leaf), v2, zi, zd]])) (nx := nx2) (o2.keep (Nat.le_refl _) fun q hq => by
    have := hv2 q hq
    simp [show ¬ q = 2 by omega, this.2]) (by rw [← List.map_append]; exact closed_keys)
  rw [← List.map_append] at hf g2
  refine ⟨.agg [.v (.bool leaf), .rs kn kz ((L ++ bkeys).map keyC) kc, zi, zd], frz_agg ?_, hP kn kz kc g1 g2⟩
  simp [mapO_cons, hf, frz_closed, hzi, hzd]

set_option maxHeartbeats 1000000 in
theorem f23 (a b : Nd) (x y : AV) (hx : NdA a x) (hy : NdA b y) (hleaf : a.leaf = b.leaf) (key : List UInt8) (h1 : a.keys.length ≤ 100000) (h2 : a.items.length ≤ 100000) (h3 : a.kids.length ≤ 100001)
    (h1' : b.keys.length ≤ 100000) (h2' : b.items.length ≤ 100000) (h3' : b.kids.length ≤ 100001) :
    ∃ z, NdA (joinN a key b) z ∧ ∀ hp nx, Ret E 23 [x, .str key, y] hp nx z hp nx .p := by
  obtain ⟨aleaf, akeys, aitems, akids⟩ := a
  obtain ⟨bleaf, bkeys, bitems, bkids⟩ := b
  obtain ⟨kA, iA, dA, rfl, hkA, hiA, hdA⟩ := hx
  obtain ⟨kB, iB, dB, rfl, hkB, hiB, hdB⟩ := hy
  simp only at hkA hiA hdA hkB hiB hdB h1 h2 h3 h1' h2' h3' hleaf
  subst hleaf
  obtain ⟨zi, hzi, ri⟩ := f44 [aitems, bitems] [iA, iB] (some 2) ⟨rfl, fun i g g' => by
    match i, g with
    | 0, _ => exact hiA
    | 1, _ => exact hiB⟩ (by simp) (by simp [catL]; omega)
  obtain ⟨zd, hzd, rd⟩ := f45 [akids, bkids] [dA, dB] (some 2) ⟨rfl, fun i g g' => by
    match i, g with
    | 0, _ => exact hdA
    | 1, _ => exact hdB⟩ (by simp) (by simp [catL]; omega)
  have ei : catL [aitems, bitems] = aitems ++ bitems := by simp [catL]
  have ed : catL [akids, bkids] = akids ++ bkids := by simp [catL]
  rw [ei] at hzi; rw [ed] at hzd
  have c43 := f43e akeys kA hkA (by omega)
  obtain ⟨akn, akz, akc, rfl⟩ := hkA.shape
  obtain ⟨ain, aiz, aic, rfl⟩ := hiA.shape
  obtain ⟨adn, adz, adc, rfl⟩ := hdA.shape
  obtain ⟨bkn, bkz, bkc, rfl, hbz, hbn⟩ := hkB
  obtain ⟨bin, biz, bic, rfl⟩ := hiB.shape
  obtain ⟨bdn, bdz, bdc, rfl⟩ := hdB.shape
  have zi1 : zi.closed = true ∧ zi.cells = [zi] ∧ zi.one = true := by
    obtain ⟨zin, ziz, zic, rfl⟩ := hzi.shape
    exact ⟨closed_items, rfl, rfl⟩
  have zd1 : zd.closed = true ∧ zd.cells = [zd] ∧ zd.one = true := by
    obtain ⟨zin, ziz, zic, rfl⟩ := hzd.shape
    exact ⟨closed_kids, rfl, rfl⟩
  obtain ⟨zi1c, zi1s, zi1o⟩ := id zi1
  obtain ⟨zd1c, zd1s, zd1o⟩ := id zd1
  refine Ret_pureE e23 rfl (by simp) ?_
  obtain ⟨v, hp1, nx1, r1, o1, n1, k1, b1⟩ := c43 (hupd (hupd (hupd hnil 0 (some [[.v (.bool aleaf), .rs akn akz (akeys.map keyC) akc, .rs ain aiz (aitems.map Itm.cells) aic, .rs adn adz (akids.map kidC) adc]])) 1 (some [[.v (.bool aleaf), .rs bkn bkz (bkeys.map keyC) bkc, .rs bin biz (bitems.map Itm.cells) bic, .rs bdn bdz (bkids.map kidC) bdc]])) 2 (some [[.v (.bool false), .rs true 0 [] (some 0), .rs true 0 [] (some 0), .rs true 0 [] (some 0)]])) 3
  have p0 := k1 0 (by omega)
  have p1 := k1 1 (by omega)
  have p2 := k1 2 (by omega)
  simp at p0 p1 p2
  have hbeq : (aleaf == aleaf) = true := by simp
  obtain ⟨o1c, o1o⟩ := o1.one
  simp [c23]
  refine WCall_k r1 ?_
  simp [p0, p1, p2]
  refine WCall_p (ri _ _) ?_
  simp [p0, p1, p2]
  refine WCall_p (rd _ _) ?_
  have g0 : ¬ 0 = nx1 := by omega
  have g1 : ¬ 1 = nx1 := by omega
  have g2 : ¬ 2 = nx1 := by omega
  have hv1 : nx1 ∉ slB v := fun h => by have := o1.lt nx1 h; omega
  cases aleaf
  · simp [p0, p1, p2, o1c, o1o, zi1s, zi1o, zd1s, zd1o, spliceL, g0, g1, g2]
    have g1' : ¬ nx1 = 1 := by omega
    have g2' : ¬ nx1 = 2 := by omega
    generalize hH : hupd (hupd hp1 nx1 (some [[AV.v (Value.bool false), AV.rs true 0 [] (some 0), AV.rs true 0 [] (some 0), AV.rs true 0 [] (some 0)]])) nx1 (some [[AV.v (Value.bool false), v, zi, zd]]) = H2
    have hHn : H2 nx1 = some [[AV.v (Value.bool false), v, zi, zd]] := by rw [← hH]; simp
    have hHo : ∀ q, q ≠ nx1 → H2 q = hp1 q := fun q hq => by rw [← hH]; simp [hq]
    have o2 : OwnS H2 (nx1 + 1) 1 (akeys.map keyC) v := o1.keep (by omega) fun q hq => hHo q fun e => hv1 (e ▸ hq)
    refine mvE_app0 (bytes := 16) (new := [[AV.str key]]) o2 (by simp only [List.length_map, List.length_cons, List.length_nil]; omega) fun v2 hp2 nx2 o3 n3 k3 b3 => ?_
    obtain ⟨o3c, o3o⟩ := o3.one
    have w1 : hp2 nx1 = H2 nx1 := k3 nx1 (by omega) hv1
    have w2 : hp2 1 = H2 1 := k3 1 (by omega) fun h => by have := b1 1 h; omega
    have w3 : hp2 2 = H2 2 := k3 2 (by omega) fun h => by have := b1 2 h; omega
    rw [hHn] at w1
    rw [hHo 1 (Ne.symm g1'), p1] at w2
    rw [hHo 2 (Ne.symm g2'), p2] at w3
    have hb3 : ∀ q ∈ slB v2, 3 ≤ q ∧ q ≠ nx1 := by
      intro q hq
      rcases b3 q hq with h | h
      · exact ⟨b1 q h, fun e => hv1 (e ▸ h)⟩
      · omega
    have o3' : OwnS (hupd hp2 nx1 (some [[AV.v (Value.bool false), v2, zi, zd]])) nx2 1 ((akeys ++ [key]).map keyC) v2 := by
      have := o3.keep (hp' := hupd hp2 nx1 (some [[AV.v (Value.bool false), v2, zi, zd]])) (Nat.le_refl _) fun q hq => by simp [(hb3 q hq).2]
      simpa [keyC] using this
    simp [p0, p1, p2, o3c, o3o, zi1s, zi1o, zd1s, zd1o, spliceL, g0, g1, g2, w1, w2, w3]
    refine f23t false bkn bkz bkc bkeys (akeys ++ [key]) hbz _ _ zi zd v2 nx1 _ _ _ _ (by simp only [List.length_append, List.length_cons, List.length_nil]; omega) (by simp) (by simp) (by simp) (by simp [g1, w2]; exact ⟨rfl, rfl⟩) (by simp) (by simp [g2, w3]) (by simpa using o3') n1 (by omega) hb3 zi1 zd1 fun kn kz kc q1 q2 => ?_
    refine ⟨_, _, _, rfl, ⟨kn, kz, kc, ?_, q1, ?_⟩, hzi, hzd⟩
    · simp [joinN]
    · simpa [joinN] using q2
  · simp [p0, p1, p2, o1c, o1o, zi1s, zi1o, zd1s, zd1o, spliceL, g0, g1, g2]
    refine f23t true bkn bkz bkc bkeys akeys hbz _ _ zi zd v nx1 _ _ _ _ (by omega) (by simp) (by simp) (by simp) (by simp [g1, p1]; exact ⟨rfl, rfl⟩) (by simp) (by simp [g2, p2]) (o1.keep (by omega) fun q hq => by simp [show ¬ q = nx1 from fun e => hv1 (e ▸ hq)]) n1 (by omega) (fun q hq => ⟨b1 q hq, fun e => hv1 (e ▸ hq)⟩) zi1 zd1 fun kn kz kc q1 q2 => ?_
    refine ⟨_, _, _, rfl, ⟨kn, kz, kc, ?_, q1, ?_⟩, hzi, hzd⟩
    · simp [joinN]
    · simpa [joinN] using q2
end Go.Ai
