/- With: a key more. -/
import Derived.Test.YtbdmloamekpeoaaMg8
/- With: a key more. -/
namespace Go.Ai
set_option linter.unusedVariables false
set_option linter.unusedSimpArgs false

def insL {α : Type} (l : List α) (i : Nat) (a : α) : List α := l.take i ++ a :: l.drop i
theorem insB_map {α : Type} (f : α → List AV) (l : List α) (i : Nat) (a : α) : insB (l.map f) i (f a) = (insL l i a).map f := by simp [insB, insL, List.map_take, List.map_drop]
def delL {α : Type} (l : List α) (i : Nat) : List α := l.take i ++ l.drop (i + 1)
theorem delB_map {α : Type} (f : α → List AV) (l : List α) (i : Nat) : delB (l.map f) i = (delL l i).map f := by simp [delB, delL, List.map_take, List.map_drop]

theorem f26i (n : Nd) (x : AV) (hx : NdA n x) (hr : rightS n = true) (hleaf : n.leaf = true) (hl : n.keys.length ≤ 60000) (hil : n.items.length = n.keys.length) (hkl : n.kids.length ≤ 60000) (i : Nat) (hi : i ≤ n.keys.length) (key : List UInt8) (it : Itm) (z : AV) (hz : SlA 3 [it.cells] z) :
    ∃ y, NdA ⟨true, insL n.keys i key, insL n.items i it, []⟩ y ∧ ∀ hp nx, Ret E 26 [x, .v (.int .i64 i), .str key, z] hp nx y hp nx .p := by
  have c12' := f12 n x hx (by omega) (by omega) (by omega)
  rw [hr] at c12'
  obtain ⟨kA, iA, dA, rfl, hk, hit, hd⟩ := id hx
  obtain ⟨kn, ksz, kc, rfl⟩ := hk.shape
  obtain ⟨in', isz, ic, rfl⟩ := hit.shape
  obtain ⟨dn, dsz, dc, rfl⟩ := hd.shape
  obtain ⟨zn, zsz, zc, rfl, hzz, hzn⟩ := hz
  rw [hleaf] at hx c12' ⊢
  have hzn' : zn = false := by
    cases zn
    · rfl
    · exact absurd (hzn rfl) (by simp)
  subst hzn'
  have hz3 : zsz = 3 := by simpa using hzz
  subst hz3
  have hic : closedL it.cells = true := by simp [Itm.cells]
  have hione : it.cells.all AV.one = true := rfl
  let Z : List AV := [.v (.bool false), .rs true 0 [] (some 0), .rs true 0 [] (some 0), .rs true 0 [] (some 0)]
  let nl : AV := .rs true 0 [] (some 0)
  let A : List AV := [.v (.bool true), .rs kn ksz (n.keys.map keyC) kc, .rs in' isz (n.items.map Itm.cells) ic, .rs dn dsz (n.kids.map kidC) dc]
  let h0 : Heap := hupd (hupd hnil 0 (some [A])) 1 (some [Z])
  obtain ⟨_, hp1, nx1, c1, xk, xi, rfl, ok1, oi1, l1, fr1, bk1, bi1⟩ := f42o n _ hx hleaf (by omega) hil h0 2
  have okc := ok1.own.one
  have oic := oi1.own.one
  have okl := ok1.own.lt
  have oil := oi1.own.lt
  let h2 : Heap := hupd (hupd hp1 nx1 (some [Z])) nx1 (some [[.v (.bool true), xk, xi, nl]])
  let h3 : Heap := hupd (hupd h2 (nx1 + 1) (some [[.str key]])) (nx1 + 1 + 1) (some [[.ty 9 0], []])
  have h3o : ∀ y, y < nx1 → h3 y = hp1 y := fun y hy => by simp [h3, h2, show ¬ y = nx1 + 1 + 1 by omega, show ¬ y = nx1 + 1 by omega, show ¬ y = nx1 by omega]
  obtain ⟨v1, hp4, nx4, c2, o4, l4, fr4, b4⟩ := f52 (n.keys.map keyC) xk i (nx1 + 1) (nx1 + 1 + 2) 9 [.str key] h3 (ok1.keep (by omega) fun r hr => h3o r (okl r hr)) (by simpa using hi) (by simp; omega) (one_keyC _) rfl (by omega) (by simp [h3]) (by simp [h3])
    (fun h => by have := okl _ h; omega) (fun h => by have := okl _ h; omega)
  have hv1 := o4.own.one
  have hv1l := o4.own.lt
  have nk : nx1 ∉ slB xk := fun h => by have := okl _ h; omega
  have e4 : hp4 nx1 = some [[.v (.bool true), xk, xi, nl]] := by rw [fr4 nx1 (by omega) nk]; simp [h3, h2, show ¬ nx1 = nx1 + 1 + 1 by omega]
  have e41 : hp4 1 = some [Z] := by
    rw [fr4 1 (by omega) (fun h => by have := bk1 _ h; omega), h3o 1 (by omega), fr1 1 (by omega)]; simp [h0]
  let h5 : Heap := hupd hp4 nx1 (some [[.v (.bool true), v1, xi, nl]])
  let h6 : Heap := hupd (hupd h5 nx4 (some [it.cells])) (nx4 + 1) (some [[.ty 51 0], []])
  have h6o : ∀ y, y < nx4 → y ≠ nx1 → h6 y = hp4 y := fun y hy hy2 => by simp [h6, h5, show ¬ y = nx4 + 1 by omega, show ¬ y = nx4 by omega, hy2]
  have nxi : ∀ y ∈ slB xi, y < nx1 ∧ y ∉ slB xk := fun y hy => ⟨oil y hy, (bi1 y hy).2⟩
  obtain ⟨v2, hp7, nx7, c3, o7, l7, fr7, b7⟩ := f53 (n.items.map Itm.cells) xi i nx4 (nx4 + 2) 51 it.cells h6 (oi1.keep (by omega) fun r hr => by
      obtain ⟨a1, a2⟩ := nxi r hr
      rw [h6o r (by omega) (by omega), fr4 r (by omega) a2, h3o r a1]) (by simpa [hil] using hi) (by simp; omega) (one_itmC _) hione (by omega) (by simp [h6]) (by simp [h6])
    (fun h => by have := (nxi _ h).1; omega) (fun h => by have := (nxi _ h).1; omega)
  have hv2 := o7.own.one
  have n14 : ¬ nx1 = nx4 := by omega
  have n15 : ¬ nx1 = nx4 + 1 := by omega
  have e7 : hp7 nx1 = some [[.v (.bool true), v1, xi, nl]] := by rw [fr7 nx1 (by omega) (fun h => by have := (nxi _ h).1; omega)]; simp [h6, h5, n14, n15]
  have e71 : hp7 1 = some [Z] := by rw [fr7 1 (by omega) (fun h => by have := (bi1 _ h).1; omega), h6o 1 (by omega) (by omega), e41]
  replace e71 : hp7 1 = some [[.v (.bool false), .rs true 0 [] (some 0), .rs true 0 [] (some 0), .rs true 0 [] (some 0)]] := e71
  replace e7 : hp7 nx1 = some [[.v (.bool true), v1, xi, .rs true 0 [] (some 0)]] := e7
  replace e4 : hp4 nx1 = some [[.v (.bool true), xk, xi, .rs true 0 [] (some 0)]] := e4
  have n11 : ¬ 1 = nx1 := by omega
  refine Ret_pureE e26 rfl (by simp [hic]) ?_
  have g1 : ¬ (i : Int) < 0 := by omega
  have g2 : ¬ (n.keys.length : Int) < i := by omega
  simp [c26, spliceL]
  refine WCall_p (c12' _ _) ?_
  simp [g1, g2, spliceL]
  refine WCall_k c1 ?_
  simp [spliceL, okc.1, okc.2, oic.1, oic.2, tlitA]
  refine WCall_k c2 ?_
  have i3 : it.cells.length = 3 := rfl
  have it3 : it.cells.take 3 = it.cells := rfl
  simp [spliceL, hv1.1, hv1.2, e4, i3, it3, tlitA, hione]
  refine WCall_k c3 ?_
  simp [spliceL, hv1.1, hv1.2, hv2.1, hv2.2, e7, e71, n11]
  refine ⟨by simp [n14, n15], ?_⟩
  have ow1 := (o4.keep (nx' := nx7) (hp' := hupd (hupd hp7 nx1 (some [[.v (.bool true), v1, v2, .rs true 0 [] (some 0)]])) 1 (some [[.v (.bool true), v1, v2, .rs true 0 [] (some 0)]])) (by omega) fun r hr => by
    have a1 := b4 r hr
    have a2 := hv1l r hr
    simp [show ¬ r = 1 by omega, show ¬ r = nx1 by omega]
    rw [fr7 r (by omega) (fun h => by have := (nxi _ h).1; omega), h6o r a2 (by omega)]).own
  have ow2 := (o7.keep (nx' := nx7) (hp' := hupd (hupd hp7 nx1 (some [[.v (.bool true), v1, v2, .rs true 0 [] (some 0)]])) 1 (some [[.v (.bool true), v1, v2, .rs true 0 [] (some 0)]])) (Nat.le_refl _) fun r hr => by
    have a1 := b7 r hr
    simp [show ¬ r = 1 by omega, show ¬ r = nx1 by omega]).own
  rw [show ([.str key] : List AV) = keyC key from rfl, insB_map] at ow1
  rw [insB_map] at ow2
  obtain ⟨p1, p2, p3, p4, p5⟩ := frz_own (k := 3) ow1 closed_keys
  obtain ⟨q1, q2, q3, q4, q5⟩ := frz_own (k := 3) ow2 closed_items
  refine ⟨_, frz_agg (k := 4) (cs' := [.v (.bool true), .rs p1 p2 _ p3, .rs q1 q2 _ q3, .rs true 0 [] (some 0)]) (by
    rw [mapO_cons, mapO_cons, mapO_cons, mapO_cons, p4, q4, frz_closed (by simp), frz_closed (by simp)]; rfl), _, _, _, rfl, ⟨p1, p2, p3, rfl, p5⟩, ⟨q1, q2, q3, rfl, q5⟩, .nil0⟩
end Go.Ai

/- With: a key less. -/
namespace Go.Ai
set_option linter.unusedVariables false
set_option linter.unusedSimpArgs false

theorem f26d (n : Nd) (x : AV) (hx : NdA n x) (hr : rightS n = true) (hleaf : n.leaf = true) (hl : n.keys.length ≤ 60000) (hil : n.items.length = n.keys.length) (hkl : n.kids.length ≤ 60000) (i : Nat) (hi : i < n.keys.length) (key : List UInt8) (z : AV) (hz : SlA 3 [] z) :
    ∃ y, NdA ⟨true, delL n.keys i, delL n.items i, []⟩ y ∧ ∀ hp nx, Ret E 26 [x, .v (.int .i64 i), .str key, z] hp nx y hp nx .p := by
  have c12' := f12 n x hx (by omega) (by omega) (by omega)
  rw [hr] at c12'
  obtain ⟨kA, iA, dA, rfl, hk, hit, hd⟩ := id hx
  obtain ⟨kn, ksz, kc, rfl⟩ := hk.shape
  obtain ⟨in', isz, ic, rfl⟩ := hit.shape
  obtain ⟨dn, dsz, dc, rfl⟩ := hd.shape
  obtain ⟨zn, zsz, zc, rfl, hzz, hzn⟩ := hz
  rw [hleaf] at hx c12' ⊢
  let Z : List AV := [.v (.bool false), .rs true 0 [] (some 0), .rs true 0 [] (some 0), .rs true 0 [] (some 0)]
  let nl : AV := .rs true 0 [] (some 0)
  let A : List AV := [.v (.bool true), .rs kn ksz (n.keys.map keyC) kc, .rs in' isz (n.items.map Itm.cells) ic, .rs dn dsz (n.kids.map kidC) dc]
  let h0 : Heap := hupd (hupd hnil 0 (some [A])) 1 (some [Z])
  obtain ⟨_, hp1, nx1, c1, xk, xi, rfl, ok1, oi1, l1, fr1, bk1, bi1⟩ := f42o n _ hx hleaf (by omega) hil h0 2
  have okc := ok1.own.one
  have oic := oi1.own.one
  have okl := ok1.own.lt
  have oil := oi1.own.lt
  let h2 : Heap := hupd (hupd hp1 nx1 (some [Z])) nx1 (some [[.v (.bool true), xk, xi, nl]])
  have h2o : ∀ y, y < nx1 → h2 y = hp1 y := fun y hy => by simp [h2, show ¬ y = nx1 by omega]
  obtain ⟨v1, hp4, nx4, c2, o4, l4, fr4, b4⟩ := f54 (n.keys.map keyC) xk i (nx1 + 1) h2 (ok1.keep (by omega) fun r hr => h2o r (okl r hr)) (by simpa using hi) (by simp; omega) (one_keyC _)
  have hv1 := o4.own.one
  have hv1l := o4.own.lt
  have nk : nx1 ∉ slB xk := fun h => by have := okl _ h; omega
  have e4 : hp4 nx1 = some [[.v (.bool true), xk, xi, nl]] := by rw [fr4 nx1 (by omega) nk]; simp [h2]
  have e41 : hp4 1 = some [Z] := by
    rw [fr4 1 (by omega) (fun h => by have := bk1 _ h; omega), h2o 1 (by omega), fr1 1 (by omega)]; simp [h0]
  let h5 : Heap := hupd hp4 nx1 (some [[.v (.bool true), v1, xi, nl]])
  have h5o : ∀ y, y < nx4 → y ≠ nx1 → h5 y = hp4 y := fun y hy hy2 => by simp [h5, hy2]
  have nxi : ∀ y ∈ slB xi, y < nx1 ∧ y ∉ slB xk := fun y hy => ⟨oil y hy, (bi1 y hy).2⟩
  obtain ⟨v2, hp7, nx7, c3, o7, l7, fr7, b7⟩ := f55 (n.items.map Itm.cells) xi i nx4 h5 (oi1.keep (by omega) fun r hr => by
      obtain ⟨a1, a2⟩ := nxi r hr
      rw [h5o r (by omega) (by omega), fr4 r (by omega) a2, h2o r a1]) (by simpa [hil] using hi) (by simp; omega) (one_itmC _)
  have hv2 := o7.own.one
  have n14 : ¬ nx1 = nx4 := by omega
  have e7 : hp7 nx1 = some [[.v (.bool true), v1, xi, nl]] := by rw [fr7 nx1 (by omega) (fun h => by have := (nxi _ h).1; omega)]; simp [h5]
  have e71 : hp7 1 = some [Z] := by rw [fr7 1 (by omega) (fun h => by have := (bi1 _ h).1; omega), h5o 1 (by omega) (by omega), e41]
  replace e71 : hp7 1 = some [[.v (.bool false), .rs true 0 [] (some 0), .rs true 0 [] (some 0), .rs true 0 [] (some 0)]] := e71
  replace e7 : hp7 nx1 = some [[.v (.bool true), v1, xi, .rs true 0 [] (some 0)]] := e7
  replace e4 : hp4 nx1 = some [[.v (.bool true), xk, xi, .rs true 0 [] (some 0)]] := e4
  have n11 : ¬ 1 = nx1 := by omega
  refine Ret_pureE e26 rfl (by simp) ?_
  have g1 : ¬ (i : Int) < 0 := by omega
  have g2 : ¬ (n.keys.length : Int) < i := by omega
  simp [c26, spliceL]
  refine WCall_p (c12' _ _) ?_
  simp [g1, g2, spliceL]
  refine WCall_k c1 ?_
  have e10 : hp1 0 = some [[.v (.bool true), .rs kn ksz (n.keys.map keyC) kc, .rs in' isz (n.items.map Itm.cells) ic, .rs dn dsz (n.kids.map kidC) dc]] := by rw [fr1 0 (by omega)]; simp [h0, A]
  have n01 : ¬ 0 = nx1 := by omega
  have w1 : IntKind.wrap .i64 ((i : Int) + 1) = (i + 1 : Nat) := by rw [wrap_id] <;> omega
  simp [spliceL, okc.1, okc.2, oic.1, oic.2, hi, w1, e10, n01, -Int.natCast_add]
  refine WCall_k c2 ?_
  simp [spliceL, hv1.1, hv1.2, e4, w1, -Int.natCast_add]
  refine WCall_k c3 ?_
  simp [spliceL, hv1.1, hv1.2, hv2.1, hv2.2, e7, e71, n11]
  have ow1 := (o4.keep (nx' := nx7) (hp' := hupd (hupd hp7 nx1 (some [[.v (.bool true), v1, v2, .rs true 0 [] (some 0)]])) 1 (some [[.v (.bool true), v1, v2, .rs true 0 [] (some 0)]])) (by omega) fun r hr => by
    have a1 := b4 r hr
    have a2 := hv1l r hr
    simp [show ¬ r = 1 by omega, show ¬ r = nx1 by omega]
    rw [fr7 r (by omega) (fun h => by have := (nxi _ h).1; omega), h5o r a2 (by omega)]).own
  have ow2 := (o7.keep (nx' := nx7) (hp' := hupd (hupd hp7 nx1 (some [[.v (.bool true), v1, v2, .rs true 0 [] (some 0)]])) 1 (some [[.v (.bool true), v1, v2, .rs true 0 [] (some 0)]])) (Nat.le_refl _) fun r hr => by
    have a1 := b7 r hr
    simp [show ¬ r = 1 by omega, show ¬ r = nx1 by omega]).own
  rw [delB_map] at ow1 ow2
  obtain ⟨p1, p2, p3, p4, p5⟩ := frz_own (k := 3) ow1 closed_keys
  obtain ⟨q1, q2, q3, q4, q5⟩ := frz_own (k := 3) ow2 closed_items
  refine ⟨_, frz_agg (k := 4) (cs' := [.v (.bool true), .rs p1 p2 _ p3, .rs q1 q2 _ q3, .rs true 0 [] (some 0)]) (by
    rw [mapO_cons, mapO_cons, mapO_cons, mapO_cons, p4, q4, frz_closed (by simp), frz_closed (by simp)]; rfl), _, _, _, rfl, ⟨p1, p2, p3, rfl, p5⟩, ⟨q1, q2, q3, rfl, q5⟩, .nil0⟩
end Go.Ai

/- A key more, and less: plain laws. -/
namespace Go.Ai
set_option linter.unusedVariables false
set_option linter.unusedSimpArgs false

theorem insL_len {α : Type} {l : List α} {i : Nat} {a : α} (h : i ≤ l.length) : (insL l i a).length = l.length + 1 := by simp [insL]; omega
theorem insL_get {α : Type} {l : List α} {i : Nat} {a : α} (h : i ≤ l.length) (j : Nat) : (insL l i a)[j]? = if j < i then l[j]? else if j = i then some a else l[j - 1]? := by
  have h1 : (l.take i).length = i := by simp; omega
  unfold insL
  by_cases h2 : j < i
  · rw [if_pos h2, List.getElem?_append_left (by omega), List.getElem?_take, if_pos h2]
  · rw [if_neg h2, List.getElem?_append_right (by omega), h1]
    by_cases h3 : j = i
    · subst h3; simp
    · rw [if_neg h3, show j - i = (j - i - 1) + 1 by omega, List.getElem?_cons_succ, List.getElem?_drop]
      congr 1; omega
theorem delL_insL {α : Type} {l : List α} {i : Nat} {a : α} (h : i ≤ l.length) : delL (insL l i a) i = l := by
  have h1 : (l.take i).length = i := by simp; omega
  unfold delL insL
  rw [List.take_append_of_le_length (by omega), List.take_of_length_le (by omega), List.drop_append, h1, List.drop_eq_nil_of_le (by omega)]
  simp [show i + 1 - i = 1 by omega]

theorem ins_rise {ks : List (List UInt8)} (hr : Rise ks) {k : List UInt8} (hk : k ∉ ks) : Rise (insL ks (below ks k) k) := by
  obtain ⟨b1, b2, b3⟩ := below_spec hr k
  have key : ∀ j (hj : j < (insL ks (below ks k) k).length), (j < below ks k ∧ ∃ h : j < ks.length, (insL ks (below ks k) k)[j] = ks[j]) ∨ (j = below ks k ∧ (insL ks (below ks k) k)[j] = k) ∨ (below ks k < j ∧ ∃ h : j - 1 < ks.length, (insL ks (below ks k) k)[j] = ks[j - 1]) := by
    intro j hj
    have hl := insL_len (a := k) b1
    have hg := insL_get (a := k) b1 j
    rw [List.getElem?_eq_getElem hj] at hg
    by_cases h1 : j < below ks k
    · rw [if_pos h1, List.getElem?_eq_getElem (by omega)] at hg
      exact .inl ⟨h1, by omega, by simpa using hg⟩
    · rw [if_neg h1] at hg
      by_cases h2 : j = below ks k
      · rw [if_pos h2] at hg
        exact .inr (.inl ⟨h2, by simpa using hg⟩)
      · rw [if_neg h2, List.getElem?_eq_getElem (by omega)] at hg
        exact .inr (.inr ⟨by omega, by omega, by simpa using hg⟩)
  have up : ∀ j (hj : j < ks.length), below ks k ≤ j → strLt k ks[j] = true := by
    intro j hj h
    cases h4 : strLt k ks[j] with
    | true => rfl
    | false =>
      have := strLt_anti h4 (b3 j hj h)
      exact absurd (this ▸ List.getElem_mem hj) hk
  intro i j hj hij
  rcases key j hj with ⟨j1, j2, j3⟩ | ⟨j1, j3⟩ | ⟨j1, j2, j3⟩ <;> rcases key i (by omega) with ⟨i1, i2, i3⟩ | ⟨i1, i3⟩ | ⟨i1, i2, i3⟩ <;> rw [j3, i3]
  · exact hr i j j2 hij
  · omega
  · omega
  · exact b2 i i2 i1
  · omega
  · omega
  · exact (hr i (j - 1) j2 (by omega) : _)
  · exact up (j - 1) j2 (by omega)
  · exact hr (i - 1) (j - 1) j2 (by omega)

theorem getD_of {α : Type} {l : List α} {j : Nat} {d a : α} (h : l[j]? = some a) : l.getD j d = a := by simp [List.getD, h]

/-- Of a leaf that is right, and a key that is not in it. -/
theorem with_right {n : Nd} (hr : rightS n = true) (hleaf : n.leaf = true) {k v : List UInt8} (hk : k ∉ n.keys) (h1 : k.length ≤ 60) (h2 : v.length ≤ 60) :
    rightS ⟨true, insL n.keys (below n.keys k) k, insL n.items (below n.keys k) ⟨v, 0, 0⟩, []⟩ = true ∧ n.items.length = n.keys.length ∧ n.kids = [] := by
  have hk1 : keysS n.keys = true := by simp only [rightS, Bool.and_eq_true] at hr; exact hr.1
  have hb : bodyS n = true := by simp only [rightS, Bool.and_eq_true] at hr; exact hr.2
  simp only [bodyS, hleaf, if_true, Bool.and_eq_true, decide_eq_true_eq] at hb
  obtain ⟨⟨b1, b2⟩, b3⟩ := hb
  obtain ⟨r1, r2⟩ := rise_iff.1 hk1
  have hbl := (below_spec r1 k).1
  refine ⟨?_, b1, List.length_eq_zero_iff.1 b2⟩
  simp only [rightS, Bool.and_eq_true]
  constructor
  · refine rise_iff.2 ⟨ins_rise r1 hk, fun j hj => ?_⟩
    have hm : (insL n.keys (below n.keys k) k)[j] ∈ insL n.keys (below n.keys k) k := List.getElem_mem hj
    have : (insL n.keys (below n.keys k) k)[j] = k ∨ (insL n.keys (below n.keys k) k)[j] ∈ n.keys := by
      simp only [insL, List.mem_append, List.mem_cons] at hm
      rcases hm with hm | hm | hm
      · exact .inr (List.mem_of_mem_take hm)
      · exact .inl hm
      · exact .inr (List.mem_of_mem_drop hm)
    rcases this with h | h
    · rw [h]; exact h1
    · obtain ⟨q, hq, e⟩ := List.getElem_of_mem h
      rw [← e]; exact r2 q hq
  · simp only [bodyS, if_true, Bool.and_eq_true, decide_eq_true_eq]
    refine ⟨⟨by rw [insL_len hbl, insL_len (by omega), b1], rfl⟩, ?_⟩
    rw [List.all_eq_true] at b3 ⊢
    intro y hy
    simp only [insL, List.mem_append, List.mem_cons] at hy
    rcases hy with hy | hy | hy
    · exact b3 y (List.mem_of_mem_take hy)
    · subst hy; simp [itemS, h2]
    · exact b3 y (List.mem_of_mem_drop hy)
theorem with_found {n : Nd} (hr : rightS n = true) (hleaf : n.leaf = true) {k v : List UInt8} (hk : k ∉ n.keys) (h1 : k.length ≤ 60) (h2 : v.length ≤ 60) :
    findS ⟨true, insL n.keys (below n.keys k) k, insL n.items (below n.keys k) ⟨v, 0, 0⟩, []⟩ k = (((below n.keys k : Nat) : Int), true) := by
  obtain ⟨g1, g2, g3⟩ := with_right hr hleaf hk h1 h2
  have hk1 : keysS n.keys = true := by simp only [rightS, Bool.and_eq_true] at hr; exact hr.1
  obtain ⟨r1, r2⟩ := rise_iff.1 hk1
  have hbl := (below_spec r1 k).1
  have hri := ins_rise r1 hk
  have hget : (insL n.keys (below n.keys k) k)[below n.keys k]? = some k := by rw [insL_get hbl]; simp
  obtain ⟨hlt, he⟩ := List.getElem?_eq_some_iff.1 hget
  have hbel : below (insL n.keys (below n.keys k) k) k = below n.keys k := by
    have := below_at hri hlt
    rw [he] at this; exact this
  have hmem : k ∈ insL n.keys (below n.keys k) k := by simp [insL]
  simp [findS, g1, hbel, hmem]

/-- What a leaf's entry weighs. -/
def wtS (p : List UInt8 × Itm) : Nat := if 0 < p.2.p then 1 + p.1.length + 9 else 1 + p.1.length + 1 + p.2.v.length
theorem sumW_zip {n : Nd} (hleaf : n.leaf = true) (hl : n.items.length = n.keys.length) : ∀ k, k ≤ n.keys.length → sumW n k = (((n.keys.zip n.items).take k).map wtS).sum
  | 0, _ => by simp [sumW]
  | k + 1, h => by
    have hz : (n.keys.zip n.items)[k]? = some (n.keys[k], n.items[k]'(by omega)) := by
      rw [List.getElem?_zip_eq_some]; simp
    rw [List.take_add_one, hz, sumW, sumW_zip hleaf hl k (by omega), List.map_append, List.sum_append]
    have e1 : n.keys.getD k [] = n.keys[k] := by simp [show k < n.keys.length by omega]
    have e2 : n.items.getD k ⟨[], 0, 0⟩ = n.items[k]'(by omega) := by simp [show k < n.items.length by omega]
    simp only [weightS, hleaf, if_true, wtS, e1, e2, Option.toList_some, List.map_cons, List.map_nil, List.sum_cons, List.sum_nil, Nat.add_zero]
theorem zip_insL {α β : Type} {l : List α} {m : List β} (h : l.length = m.length) (i : Nat) (a : α) (b : β) : (insL l i a).zip (insL m i b) = insL (l.zip m) i (a, b) := by
  unfold insL
  rw [List.zip_append (by simp [h]), List.zip_cons_cons, List.zip_eq_zipWith, List.zip_eq_zipWith, List.zip_eq_zipWith, List.take_zipWith, List.drop_zipWith]
theorem size_leaf {n : Nd} (hr : rightS n = true) (hleaf : n.leaf = true) (hl : n.items.length = n.keys.length) : sizeS n = 2 + ((n.keys.zip n.items).map wtS).sum := by
  rw [sizeS, if_pos hr, contentS_length, headB_length, if_pos hleaf, sumW_zip hleaf hl _ (Nat.le_refl _), List.take_of_length_le (by simp; omega)]
theorem with_size {n : Nd} (hr : rightS n = true) (hleaf : n.leaf = true) {k v : List UInt8} (hk : k ∉ n.keys) (h1 : k.length ≤ 60) (h2 : v.length ≤ 60) :
    sizeS ⟨true, insL n.keys (below n.keys k) k, insL n.items (below n.keys k) ⟨v, 0, 0⟩, []⟩ = sizeS n + 2 + k.length + v.length := by
  obtain ⟨g1, g2, g3⟩ := with_right hr hleaf hk h1 h2
  have hk1 : keysS n.keys = true := by simp only [rightS, Bool.and_eq_true] at hr; exact hr.1
  obtain ⟨r1, r2⟩ := rise_iff.1 hk1
  have hbl := (below_spec r1 k).1
  rw [size_leaf g1 rfl (by simp only; rw [insL_len hbl, insL_len (by omega), g2]), size_leaf hr hleaf g2]
  simp only
  rw [zip_insL g2.symm]
  have hs : ((n.keys.zip n.items).map wtS).sum = (((n.keys.zip n.items).take (below n.keys k)).map wtS).sum + (((n.keys.zip n.items).drop (below n.keys k)).map wtS).sum := by
    rw [← List.sum_append, ← List.map_append, List.take_append_drop]
  rw [hs, insL]
  simp [wtS]
  omega
end Go.Ai

/- NodeWith, walked. -/
namespace Go.Ai
set_option linter.unusedVariables false
set_option linter.unusedSimpArgs false

set_option maxHeartbeats 1000000 in
theorem f9 (n : Nd) (x : AV) (hx : NdA n x) (key value : List UInt8) (hp nx) : Ret E 9 [x, .str key, .str value] hp nx (.v (.bool true)) hp nx .p := by
  obtain ⟨b, hb, e10'⟩ := f10 n x hx
  have hx0 := hx
  obtain ⟨b0, k1, k2, k3, k4, i1, i2, i3, i4, d1, d2, d3, d4, hxe⟩ := hx.shape
  have hcl : closedL [x, .str key, .str value] = true := by
    obtain ⟨kA, iA, dA, rfl, hk, hi, hd⟩ := hx
    obtain ⟨_, _, _, rfl⟩ := hk.shape
    obtain ⟨_, _, _, rfl⟩ := hi.shape
    obtain ⟨_, _, _, rfl⟩ := hd.shape
    simp
  refine Ret_pureQ e9 rfl hcl ?_ hp nx
  have hbb : b0 = n.leaf := by
    obtain ⟨kA, iA, dA, rfl, hk, hi, hd⟩ := hx0
    simp at hxe; exact hxe.1.symm
  subst hxe
  simp [c9]
  refine WCall_p (e10' _ _) ?_
  cases b
  · simp
    refine WCall_p (f11 _ _) ?_
    simp
  have hs := hb rfl
  have hs1 := hs.1
  have hs2 := hs.2.1
  have hs3 := hs.2.2
  cases hleaf : n.leaf with
  | false =>
    rw [hleaf] at hbb; subst hbb
    simp
    exact WCall_p (f11 _ _) (by simp)
  | true =>
    rw [hleaf] at hbb; subst hbb
    simp
    refine WCall_p (f12 n _ hx0 (by omega) (by omega) (by omega) _ _) ?_
    cases hr : rightS n with
    | false =>
      simp
      exact WCall_p (f11 _ _) (by simp)
    | true =>
      by_cases g1 : 60 < key.length
      · have g1' : (60 : Int) < key.length := by omega
        simp [g1']
        exact WCall_p (f11 _ _) (by simp)
      · have g1' : ¬ (60 : Int) < key.length := by omega
        by_cases g2 : 60 < value.length
        · have g2' : (60 : Int) < value.length := by omega
          simp [g1', g2']
          exact WCall_p (f11 _ _) (by simp)
        · have g2' : ¬ (60 : Int) < value.length := by omega
          have c19' := f19 n _ hx0 key (by omega) (by omega) (by omega)
          by_cases hm : key ∈ n.keys
          · have hF : findS n key = (((below n.keys key : Nat) : Int), true) := by simp [findS, hr, hm, hleaf]
            rw [hF] at c19'
            simp only [findA] at c19'
            simp [g1', g2']
            refine WCall_p (c19' _ _) ?_
            simp
            exact WCall_p (f11 _ _) (by simp)
          · have hF : findS n key = (((below n.keys key : Nat) : Int), false) := by simp [findS, hr, hm, hleaf]
            rw [hF] at c19'
            simp only [findA] at c19'
            obtain ⟨m1, m2, m3⟩ := with_right (v := value) hr hleaf hm (by omega) (by omega)
            have m4 := with_found (v := value) hr hleaf hm (by omega) (by omega)
            have m5 := with_size (v := value) hr hleaf hm (by omega) (by omega)
            have hk1 : keysS n.keys = true := by simp only [rightS, Bool.and_eq_true] at hr; exact hr.1
            have hbl := (below_spec (rise_iff.1 hk1).1 key).1
            obtain ⟨y, hy, c26a⟩ := f26i n _ hx0 hr hleaf (by omega) m2 (by omega) (below n.keys key) hbl key ⟨value, 0, 0⟩ (.rs false 3 [(⟨value, 0, 0⟩ : Itm).cells] (some 1)) ⟨false, 3, some 1, rfl, .inr rfl, fun h => nomatch h⟩
            generalize hi : below n.keys key = i at *
            generalize hM : (⟨true, insL n.keys i key, insL n.items i ⟨value, 0, 0⟩, []⟩ : Nd) = m at *
            have mk : m.keys.length = n.keys.length + 1 := by rw [← hM]; exact insL_len hbl
            have mi : m.items.length = n.items.length + 1 := by rw [← hM]; exact insL_len (by omega)
            have mkd : m.kids = [] := by rw [← hM]
            have mlf : m.leaf = true := by rw [← hM]
            obtain ⟨y2, hy2, c26b⟩ := f26d m y hy m1 mlf (by omega) (by omega) (by rw [mkd]; simp) i (by omega) [] (.rs true 0 [] (some 0)) ⟨true, 0, _, rfl, .inl rfl, fun _ => rfl⟩
            have back : (⟨true, delL m.keys i, delL m.items i, []⟩ : Nd) = n := by
              rw [← hM]
              simp only
              rw [delL_insL hbl, delL_insL (by omega)]
              obtain ⟨a, b, c, d⟩ := n
              simp only at hleaf m3
              rw [hleaf, m3]
            rw [back] at hy2
            have c22' := f22 n n y2 _ hy2 hx0 (by omega) (by omega) (by omega)
            rw [sameS_refl] at c22'
            have c19b := f19 m y hy key (by omega) (by omega) (by rw [mkd]; simp)
            rw [m4] at c19b
            simp only [findA] at c19b
            have c12b := f12 m y hy (by omega) (by omega) (by rw [mkd]; simp)
            rw [m1] at c12b
            have c14b := f14 m y hy (by omega) (by omega) (by rw [mkd]; simp)
            have c14a := f14 n _ hx0 (by omega) (by omega) (by omega)
            rw [m5] at c14b
            have hi3 : i3 = n.items.map Itm.cells := by
              obtain ⟨kA, iA, dA, he, _, ⟨_, _, _, rfl, _⟩, _⟩ := hx0
              simp at he
              exact he.2.2.1.2.2.1
            obtain ⟨kY, iY, dY, rfl, hkY, hiY, hdY⟩ := id hy
            obtain ⟨kn, ksz, kc, rfl⟩ := hkY.shape
            obtain ⟨in', isz, ic, rfl, hiz⟩ := hiY
            obtain ⟨dn, dsz, dc, rfl⟩ := hdY.shape
            simp only [Itm.cells, AV.int] at c26a
            simp [g1', g2']
            refine WCall_p (c19' _ _) ?_
            simp [spliceL]
            refine WCall_p (c26a _ _) ?_
            simp [spliceL]
            refine WCall_p (c19b _ _) ?_
            have hgi : m.items[i]? = some ⟨value, 0, 0⟩ := by rw [← hM]; simp only; rw [insL_get (by omega)]; simp
            have hia : iaddrA 3 (.rs in' isz (m.items.map Itm.cells) ic) (.v (.int .i64 i)) = some (.rp [.str value, .v (.int .i64 0), .v (.int .i64 0)]) := iaddr_in hiz (by simp [hgi, Itm.cells]) rfl
            have w1 : IntKind.wrap .i64 ((n.items.length : Int) + 1) = (m.items.length : Nat) := by rw [mi, wrap_id] <;> omega
            have hsz : sizeS n ≤ 30000 := by
              have hf := RightF.of hr
              have e1 := sumW_le hf n.keys.length (Nat.le_refl _)
              have e2 : sizeS n = (headB n).length + sumW n n.keys.length := by simp [sizeS, hr, contentS_length]
              have e3 : (headB n).length ≤ 6 := by rw [headB_length]; split <;> omega
              omega
            simp [spliceL]
            refine WCall_p (c12b _ _) ?_
            have w2 : IntKind.wrap .i64 ((sizeS n : Int) + 2) = (sizeS n + 2 : Nat) := by rw [wrap_id] <;> omega
            have w3 : IntKind.wrap .i64 (((sizeS n + 2 : Nat) : Int) + key.length) = (sizeS n + 2 + key.length : Nat) := by rw [wrap_id] <;> omega
            have w4 : IntKind.wrap .i64 (((sizeS n + 2 + key.length : Nat) : Int) + value.length) = (sizeS n + 2 + key.length + value.length : Nat) := by rw [wrap_id] <;> omega
            have heq : eqCells [.s, .i, .i] [AV.str value, AV.v (.int .i64 0), AV.v (.int .i64 0)] [AV.str value, AV.v (.int .i64 0), AV.v (.int .i64 0)] = some true := by simp
            simp [spliceL, hi3, w1, -iaddrA_rs, hia, heq]
            refine WCall_p (c14b _ _) ?_
            simp [spliceL, -Int.natCast_add]
            rw [hi3] at c14a c22'
            refine WCall_p (c14a _ _) ?_
            simp [spliceL, w2, w3, w4, -Int.natCast_add]
            refine WCall_p (c26b _ _) ?_
            simp [spliceL]
            refine WCall_p (c22' _ _) ?_
            simp
            exact WCall_p (f11 _ _) (by simp)
end Go.Ai

